/-
A range over a function: what the statement does.
-/
import Derived.Test.YtpjkepfplhllfaaDoorAv20
import Derived.RangeFuncRecord
namespace Go.Proofs.YtpjkepfplhllfaaDoor.Av
set_option linter.unusedSimpArgs false
set_option linter.unusedVariables false
open Go

/-- What will not change, as far as it is there, has not changed. -/
def Ext' (w : World) (φ : Nat → Nat) (w' : World) (φ' : Nat → Nat) : Prop :=
  ∀ b o u, o < φ b → w.cell? ⟨b, o, none⟩ = some u → o < φ' b ∧ w'.cell? ⟨b, o, none⟩ = some u
section
variable {w w' : World} {φ φ' : Nat → Nat}
mutual
theorem Rep.mono' (H : Ext' w φ w' φ') : ∀ (a : AV) (v : Value), Rep w φ a v → Rep w' φ' a v
  | .any, _, _ => by simp only [Rep]
  | .bool _, _, h => by simp only [Rep] at h ⊢; exact h
  | .int _ _, _, h => by simp only [Rep] at h ⊢; exact h
  | .str _, _, h => by simp only [Rep] at h ⊢; exact h
  | .ptr _ _, _, h => by simp only [Rep] at h ⊢; exact h
  | .nilp, _, h => by simp only [Rep] at h ⊢; exact h
  | .cptr cs, _, h => by
    simp only [Rep] at h ⊢
    obtain ⟨b, o, rfl, h⟩ := h
    exact ⟨b, o, rfl, RepAt.mono' H cs b o h⟩
  | .list _ xs, _, h => by
    simp only [Rep] at h ⊢
    obtain ⟨A, n, c, rfl, h1, h2, h3⟩ := h
    refine ⟨A, n, c, rfl, h1, h2, ?_⟩
    rcases h3 with h3 | ⟨b, o, sz, rfl, h3⟩
    · exact .inl h3
    · exact .inr ⟨b, o, sz, rfl, RepRows.mono' H xs b sz o h3⟩
  | .grow _ xs, _, h => by
    simp only [Rep] at h ⊢
    obtain ⟨A, n, c, rfl, h1, h2, h3⟩ := h
    refine ⟨A, n, c, rfl, h1, h2, ?_⟩
    rcases h3 with h3 | ⟨b, o, sz, rfl, h3⟩
    · exact .inl h3
    · exact .inr ⟨b, o, sz, rfl, RepRows.mono' H xs b sz o h3⟩
  | .nils, _, h => by simp only [Rep] at h ⊢; exact h
  | .map _, _, h => by simp only [Rep] at h ⊢; exact h
  | .nilm, _, h => by simp only [Rep] at h ⊢; exact h
  | .func _ caps, _, h => by
    simp only [Rep] at h ⊢
    obtain ⟨vs, rfl, h⟩ := h
    exact ⟨vs, rfl, RepL.mono' H caps vs h⟩
  | .nilf, _, h => by simp only [Rep] at h ⊢; exact h
  | .agg cs, _, h => by
    simp only [Rep] at h ⊢
    obtain ⟨vs, rfl, h⟩ := h
    exact ⟨vs, rfl, RepL.mono' H cs vs h⟩
  | .tup cs, _, h => by
    simp only [Rep] at h ⊢
    obtain ⟨vs, rfl, h⟩ := h
    exact ⟨vs, rfl, RepL.mono' H cs vs h⟩
  | .val _, _, h => by simp only [Rep] at h ⊢; exact h
  | .full xs, _, h => by
    simp only [Rep] at h ⊢
    obtain ⟨A, n, rfl, h1, h3⟩ := h
    refine ⟨A, n, rfl, h1, ?_⟩
    rcases h3 with h3 | ⟨b, o, sz, rfl, h3⟩
    · exact .inl h3
    · exact .inr ⟨b, o, sz, rfl, RepRows.mono' H xs b sz o h3⟩
  | .when g a, v, h => by simp only [Rep] at h ⊢; exact ⟨fun hg => Rep.mono' H a v (h.1 hg), h.2⟩
theorem RepL.mono' (H : Ext' w φ w' φ') : ∀ (cs : List AV) (vs : List Value), RepL w φ cs vs → RepL w' φ' cs vs
  | [], _, h => by simp only [RepL] at h ⊢; exact h
  | c :: cs, _, h => by
    simp only [RepL] at h ⊢
    obtain ⟨v, vs', rfl, h1, h2⟩ := h
    exact ⟨v, vs', rfl, Rep.mono' H c v h1, RepL.mono' H cs vs' h2⟩
theorem RepAt.mono' (H : Ext' w φ w' φ') : ∀ (cs : List AV) (b o : Nat), RepAt w φ b o cs → RepAt w' φ' b o cs
  | [], _, _, _ => by simp only [RepAt]
  | c :: cs, b, o, h => by
    simp only [RepAt] at h ⊢
    obtain ⟨h1, ⟨u, h2, h3⟩, h4⟩ := h
    obtain ⟨k1, k2⟩ := H b o u h1 h2
    exact ⟨k1, ⟨u, k2, Rep.mono' H c u h3⟩, RepAt.mono' H cs b (o + 1) h4⟩
theorem RepRows.mono' (H : Ext' w φ w' φ') : ∀ (xs : List (List AV)) (b sz o : Nat), RepRows w φ b sz o xs → RepRows w' φ' b sz o xs
  | [], _, _, _, _ => by simp only [RepRows]
  | x :: xs, b, sz, o, h => by
    simp only [RepRows] at h ⊢
    obtain ⟨h1, h2, h3⟩ := h
    exact ⟨h1, RepAt.mono' H x b o h2, RepRows.mono' H xs b sz (o + sz) h3⟩
end
end

/-- What will not change, as constants. -/
def blockSize (w : World) (b : Nat) : Nat := match w.heap[b]? with | some (.cells c _ _) => c.size | _ => 0
def snap (w : World) (φ : Nat → Nat) (b : Nat) : List AV := (List.range (min (φ b) (blockSize w b))).map fun o => .val ((w.cell? ⟨b, o, none⟩).getD undef)
theorem cell_of_block {w : World} {b o : Nat} (h : o < blockSize w b) : ∃ u, w.cell? ⟨b, o, none⟩ = some u := by
  unfold blockSize at h
  unfold World.cell?
  cases hb : w.heap[b]? with
  | none => rw [hb] at h; simp at h
  | some x => cases x <;> rw [hb] at h <;> simp at h ⊢
              exact ⟨_, Array.getElem?_eq_getElem h⟩
theorem block_of_cell {w : World} {b o : Nat} {u : Value} (h : w.cell? ⟨b, o, none⟩ = some u) : o < blockSize w b := by
  unfold World.cell? at h
  unfold blockSize
  cases hb : w.heap[b]? with
  | none => rw [hb] at h; simp at h
  | some x => cases x <;> rw [hb] at h <;> simp at h ⊢
              exact (Array.getElem?_eq_some_iff.1 h).1
theorem snap_at (w : World) (φ : Nat → Nat) (b : Nat) : RepAt w φ b 0 (snap w φ b) := by
  refine RepAt.of_vals (vs := (List.range (min (φ b) (blockSize w b))).map fun o => (w.cell? ⟨b, o, none⟩).getD undef) ?_ (by simp; omega) fun j u hj => ?_
  · unfold snap
    generalize List.range (min (φ b) (blockSize w b)) = l
    induction l with
    | nil => exact RepL.nil
    | cons o l ih => exact RepL.cons (by simp only [Rep]) ih
  · simp only [List.getElem?_map, Option.map_eq_some_iff] at hj
    obtain ⟨o, ho, rfl⟩ := hj
    have ho' : j < min (φ b) (blockSize w b) ∧ o = j := by
      rw [List.getElem?_eq_some_iff] at ho
      obtain ⟨h1, h2⟩ := ho
      simp at h1 h2
      omega
    obtain ⟨ho, e⟩ := ho'
    subst e
    obtain ⟨u, hu⟩ := cell_of_block (w := w) (b := b) (o := o) (by omega)
    simp [hu]
theorem snap_ext {w w' : World} {φ φ' : Nat → Nat} (h : ∀ b, RepAt w' φ' b 0 (snap w φ b)) : Ext' w φ w' φ' := by
  intro b o u ho hu
  have hs := block_of_cell hu
  have := RepAt.get (h b) (i := o) (c := .val u) (by
    unfold snap
    rw [List.getElem?_map, List.getElem?_range (by omega)]
    simp [hu])
  simp only [Nat.zero_add, Rep] at this
  obtain ⟨h1, v, h2, rfl⟩ := this
  exact ⟨h1, h2⟩

section
variable {P : Program} {w : World} {φ : Nat → Nat} {E : Env} {f : Fm} {σ : St} {a : Act} {Ω : List Own} {g : Gh}
theorem SS.env (h : SS E w φ Ω σ) {E' : Env} (hg : ∀ g, RepAt w φ g 0 (E'.glob g)) : SS E' w φ Ω σ := ⟨h.box, h.map, h.own, h.tags, h.nodup, hg, h.fits⟩
theorem SR.env (h : SR E g f σ a w φ Ω) {E' : Env} (hg : ∀ g, RepAt w φ g 0 (E'.glob g)) : SR E' g f σ a w φ Ω := ⟨h.ss.env hg, h.fs, h.since, h.mine⟩
theorem SR.rebase (h : SR E g f σ a w φ Ω) (D : List Nat) (hD : ∀ b ∈ owned Ω σ, b ∈ D) : SR E ⟨w, φ, D⟩ f σ a w φ Ω :=
  ⟨h.ss, h.fs, ⟨rfl, rfl, rfl, Nat.le_refl _, fun _ _ _ => ⟨rfl, rfl⟩, Ext.refl w φ⟩, fun b hb => .inl (hD b hb)⟩
/-- A frame that holds nothing. -/
theorem SS.sr (h : SS E w φ Ω σ) (D : List Nat) (hD : ∀ b ∈ owned Ω σ, b ∈ D) : SR E ⟨w, φ, D⟩ ⟨0, [], [], []⟩ σ { tmps := #[], defers := [] } w φ Ω :=
  ⟨h, ⟨rfl, rfl, fun s => by simp only [getA, Rep], fun s => by simp only [getA, TagOK], fun t n ht => by simp [getT] at ht⟩, ⟨rfl, rfl, rfl, Nat.le_refl _, fun _ _ _ => ⟨rfl, rfl⟩, Ext.refl w φ⟩, fun b hb => .inl (hD b hb)⟩
theorem owned_cons (Ω : List Own) (σ : St) (b : Nat) (m : MO) : (owned Ω ⟨σ.box, (b, m) :: σ.map⟩).Perm (b :: owned Ω σ) := by
  simp only [owned, List.map_cons, List.append_assoc, List.cons_append]
  exact List.perm_middle
/-- An object that nobody had is owned. -/
theorem SR.addObj (h : SR E g f σ a w φ Ω) {b : Nat} {m : MO} {o : Obj} (ho : w.heap[b]? = some o) (hm : MORep w φ m o) (hz : φ b = 0) (hn : b ∉ owned Ω σ) (hg : b ∈ g.D ∨ g.w.heap.size ≤ b) : SR E g f ⟨σ.box, (b, m) :: σ.map⟩ a w φ Ω := by
  refine ⟨⟨h.ss.box, fun b' l hm' => ?_, h.ss.own, h.ss.tags, (owned_cons Ω σ b m).nodup_iff.2 (List.nodup_cons.2 ⟨hn, h.ss.nodup⟩), h.ss.glob, h.ss.fits⟩, h.fs, h.since, fun b' hb' => ?_⟩
  · rcases List.mem_cons.1 hm' with hm' | hm'
    · cases hm'; exact ⟨⟨o, ho, hm⟩, hz⟩
    · exact h.ss.map b' l hm'
  · rcases List.mem_cons.1 ((owned_cons Ω σ b m).mem_iff.1 hb') with rfl | hb'
    · exact hg
    · exact h.mine b' hb'
theorem SR.newObj (h : SR E g f σ a w φ Ω) {o : Obj} {m : MO} (hm : MORep (w.alloc o) φ m o) : SR E g f ⟨σ.box, (w.heap.size, m) :: σ.map⟩ a (w.alloc o) φ Ω := by
  have H := h.ss.ext_alloc o φ fun _ _ => rfl
  have hold : ∀ b ∈ owned Ω σ, (w.alloc o).heap[b]? = w.heap[b]? ∧ φ b = φ b := fun b hb => ⟨heap_alloc_old w _ (owned_lt h.ss hb), rfl⟩
  have hss := h.ss.keep H hold (fun b hb => h.ss.fits b (by simp at hb; omega)) (by simp)
  have h1 : SR E g f σ a (w.alloc o) φ Ω := ⟨hss, h.fs.mono H, h.since.step H rfl rfl rfl (by simp) fun b hb _ => ⟨heap_alloc_old w _ (by have := h.since.size; omega), rfl⟩, h.mine⟩
  exact h1.addObj (heap_alloc_new w _) hm (h.ss.fits _ (Nat.le_refl _)) (fun hb => by have := owned_lt h.ss hb; omega) (.inr h.since.size)
/-- The object at the head turns. -/
theorem SR.setHead {b : Nat} {m m' : MO} {o' : Obj} (h : SR E g f ⟨σ.box, (b, m) :: σ.map⟩ a w φ Ω) (hm : MORep w φ m' o') : SR E g f ⟨σ.box, (b, m') :: σ.map⟩ a (w.putObj b o') φ Ω := by
  have := h.setObj (b := b) (l := m) (l' := m') (o' := o') (by simp [getB]) hm
  simpa [setB, World.putObj] using this
theorem SR.dropHead {b : Nat} {m : MO} (h : SR E g f ⟨σ.box, (b, m) :: σ.map⟩ a w φ Ω) : SR E g f σ a w φ Ω := h.sub (m := σ.map) (List.sublist_cons_self _ _)
theorem SS.inBoxes (h : SS E w φ Ω σ) : SS E w φ (Ω.filter (inBox (σ.box.map (·.1)))) σ := by
  refine ⟨fun b cs hm => ?_, h.map, fun x hx => h.own x (List.mem_filter.1 hx).1, h.tags.sublist (List.Sublist.map _ List.filter_sublist), ?_, h.glob, h.fits⟩
  · obtain ⟨⟨c, T, k1, k2, k3⟩, k4, k5⟩ := h.box b cs hm
    refine ⟨⟨c, T, k1, k2, fun o sz xs ho => ?_⟩, k4, k5⟩
    obtain ⟨x, hx, e1, e2⟩ := k3 o sz xs ho
    exact ⟨x, List.mem_filter.2 ⟨hx, inBox_of e1 (List.mem_map.2 ⟨_, hm, rfl⟩)⟩, e1, e2⟩
  · exact h.nodup.sublist (List.Sublist.append (List.Sublist.refl _) (List.Sublist.filterMap _ List.filter_sublist))

/-- An iterator gives these values, one after the other, unless it is stopped. -/
def Iter (P : Program) (E : Env) (fn : FuncId) (caps : List AV) (xs : List AV) : Prop :=
  ∀ (gl : Nat → List AV) (l : Nat) (J : List AV → St → Prop) (X : St → Prop),
    (∀ pre x, (pre ++ [x]) <+: xs → ∀ σ, J pre σ → YCall P { E with glob := gl } l [x] σ fun r σ' => (r = .bool true ∧ J (pre ++ [x]) σ') ∨ (r = .bool false ∧ X σ')) →
    ∀ σ, J [] σ → ACall P { E with glob := gl } fn (.val (.func (.yield l) #[] #[]) :: caps) σ fun _ σ' => J xs σ' ∨ X σ'

def esS (l : List (Nat × AV)) : List (Nat × AV) := l.map fun p => (p.1, es p.2)
theorem getA_esS : ∀ (l : List (Nat × AV)) (s : Nat), getA (esS l) s = es (getA l s)
  | [], _ => rfl
  | (k, v) :: l, s => by
    simp only [esS, List.map_cons, getA]
    split
    · rfl
    · exact getA_esS l s
/-- The frame of a round. -/
def Fm.round (f : Fm) (p : Nat) (x : AV) : Fm := ⟨f.nt, (p, x) :: esS f.sl, [], []⟩
/-- How a round may be left. -/
def roundA (I : St → Prop) (X : Exit → St → Prop) : Post := fun e _ σ => match e with
  | .normal => I σ
  | .ret => X .ret σ
  | .exit id => X (.exit id) σ
  | _ => False

theorem run_enter_outer {fn : FuncId} {ps : Array Tmp} {assign body : Code} {tmps : Array Value} :
    (Instr.enterLoop fn tmps ps assign body none).run P w =
      .ok (w.heap.size + 1, [{ target := .collected w.heap.size, args := #[] }])
        ((w.alloc (.deferred (some []))).alloc (.loop { state := .ready, pending := none, fn, tmps, params := ps, assign, body, defers := w.heap.size })) := run_enterLoop_outer fn tmps ps assign body

/-- One round, as its yield is called. -/
theorem round_call {w0 : World} {φ0 : Nat → Nat} {a0 : Act} {f : Fm} {fn0 : FuncId} {p : Nat} {assign body : Code} {l d : Nat} {rec : LoopState → Option Code → Loop}
    (hrec : rec = fun st pe => { state := st, pending := pe, fn := fn0, tmps := a0.tmps, params := #[p], assign, body, defers := d })
    (hsz : a0.tmps.size = f.nt) (hp : p < f.nt) (hrep : ∀ s, Rep w0 φ0 (getA f.sl s) (a0.tmps.getD s undef)) (hgl : ∀ g, RepAt w0 φ0 g 0 (E.glob g))
    {x : AV} (hx : es x = x) {σ : St} {I : St → Prop} {X : Exit → St → Prop}
    (hr : Run P (E.inRd l) assign (f.round p x) σ (Post.then (fun _ _ _ => False) fun f' σ' => Run P (E.inRd l) body f' σ' (roundA I X))) :
    YCall P { E with glob := snap w0 φ0 } l [x] ⟨σ.box, (l, .ob (.loop (rec .ready none))) :: σ.map⟩ fun r σ' =>
      (r = .bool true ∧ ∃ σ'', σ' = ⟨σ''.box, (l, .ob (.loop (rec .ready none))) :: σ''.map⟩ ∧ I σ'') ∨
      (r = .bool false ∧ ∃ c e σ'', (e = .ret ∧ c = .ret ∨ ∃ id, e = .exit id ∧ c = .exit id) ∧ σ' = ⟨σ''.box, (l, .ob (.loop (rec .done (some c)))) :: σ''.map⟩ ∧ X e σ'') := by
  intro w φ Ω vs hss hvs
  simp only [RepL] at hvs
  obtain ⟨v, _, rfl, hv, rfl⟩ := hvs
  have hE' : Ext' w0 φ0 w φ := snap_ext hss.glob
  have hnd := (owned_cons Ω σ l (.ob (.loop (rec .ready none)))).nodup_iff.1 hss.nodup
  obtain ⟨hnl, hnd⟩ := List.nodup_cons.1 hnd
  obtain ⟨⟨o, hl, hmo⟩, hz⟩ := hss.map l _ List.mem_cons_self
  simp only [MORep] at hmo
  subst hmo
  have hlt : l < w.heap.size := (Array.getElem?_eq_some_iff.1 hl).1
  have hy := run_yield (P := P) (args := #[v]) hl (by rw [hrec]; simp)
  refine ⟨_, _, _, _, hy, roundIn_of_wpIn trivial ?_⟩
  -- the round's frame
  have hgl' : ∀ g, RepAt w φ g 0 ((E.inRd l).glob g) := fun g => RepAt.mono' hE' _ _ _ (hgl g)
  have hs0 : SR (E.inRd l) ⟨w, φ, owned Ω σ⟩ (f.round p x) σ { tmps := a0.tmps.setIfInBounds p v, defers := [] } w φ Ω := by
    refine ⟨((hss.sr _ (fun _ h => h)).dropHead.ss).env hgl', ⟨by simp [Fm.round, hsz], rfl, fun s => ?_, fun s => ?_, fun t n ht => by simp [Fm.round, getT] at ht⟩, ⟨rfl, rfl, rfl, Nat.le_refl _, fun _ _ _ => ⟨rfl, rfl⟩, Ext.refl w φ⟩, fun b hb => .inl hb⟩
    · simp only [Fm.round, getA]
      by_cases e : p = s
      · subst e
        rw [if_pos rfl]
        simp only [Array.getD_eq_getD_getElem?, Array.getElem?_setIfInBounds, hsz, hp, if_true, Option.getD_some]
        exact hv
      · rw [if_neg e, getA_esS]
        have := (Rep.mono' hE' _ _ (hrep s)).es
        simp only [Array.getD_eq_getD_getElem?, Array.getElem?_setIfInBounds, e, if_false] at this ⊢
        exact this
    · simp only [Fm.round, getA]
      have htg : ∀ y ∈ Ω, y.tag ≠ .none := fun y hy => (hss.own y hy).tag
      by_cases e : p = s
      · rw [if_pos e, ← hx]; exact TagOK.es htg _
      · rw [if_neg e, getA_esS]; exact TagOK.es htg _
  have hfold : ((#[p] : Array Tmp).zip #[v]).foldl (fun tmps (t, a) => tmps.setIfInBounds t a) a0.tmps = a0.tmps.setIfInBounds p v := by
    have : ((#[p] : Array Tmp).zip #[v]) = #[(p, v)] := by apply Array.ext'; simp
    rw [this]; rfl
  have hwp := hr _ _ w φ Ω hs0
  have e1 : (rec .ready none).params = #[p] := by rw [hrec]
  have e2 : (rec .ready none).tmps = a0.tmps := by rw [hrec]
  have e3 : (rec .ready none).assign = assign := by rw [hrec]
  have e4 : (rec .ready none).body = body := by rw [hrec]
  rw [e1, e2, e3, e4, hfold]
  refine wpIn_mono hwp ?_
  rintro e a1 w1 ⟨f1, σ1, φ1, Ω1, hs1, hq⟩
  cases e <;> try exact hq.elim
  have hl1 : w1.heap[l]? = some (.loop (rec .ready none)) := by rw [(hs1.since.block l hlt hnl).1]; exact hl
  have hz1 : φ1 l = 0 := by rw [(hs1.since.block l hlt hnl).2]; exact hz
  have hn1 : l ∉ owned Ω1 σ1 := fun hb => by
    rcases hs1.mine l hb with h | h
    · exact hnl h
    · have : w.heap.size ≤ l := h
      omega
  refine ⟨_, run_beginRound hl1 (by rw [hrec]), ?_⟩
  have hs2 : SR (E.inRd l) ⟨w1, φ1, l :: owned Ω1 σ1⟩ f1 σ1 a1 (w1.putObj l (.loop { rec .ready none with state := .busy })) φ1 Ω1 :=
    (((hs1.rebase (l :: owned Ω1 σ1) fun b hb => List.mem_cons_of_mem _ hb).addObj hl1 (m := .ob (.loop (rec .ready none))) rfl hz1 hn1 (.inl List.mem_cons_self)).setHead (m' := .ob (.loop { rec .ready none with state := .busy })) rfl).dropHead
  have hl2 : (w1.putObj l (.loop { rec .ready none with state := .busy })).heap[l]? = some (.loop { rec .ready none with state := .busy }) := World.putObj_heap_same (Array.getElem?_eq_some_iff.1 hl1).1
  refine wpIn_mono (hq _ _ _ φ1 Ω1 (hs2.rebase (owned Ω1 σ1) fun _ h => h)) ?_
  have fin : ∀ (jump : Option Code) (R : AV → St → Prop) f3 σ3 a3 w3 φ3 Ω3, SR (E.inRd l) ⟨w1.putObj l (.loop { rec .ready none with state := .busy }), φ1, owned Ω1 σ1⟩ f3 σ3 a3 w3 φ3 Ω3 →
      R (.bool jump.isNone) ⟨σ3.box, (l, .ob (.loop (rec (if jump.isNone then .ready else .done) jump))) :: σ3.map⟩ →
      ∃ v w', (Instr.endRound l jump).run P w3 = .ok v w' ∧ APost { E with glob := snap w0 φ0 } w φ Ω ⟨σ.box, (l, .ob (.loop (rec .ready none))) :: σ.map⟩ R (.returned v) w' := by
    intro jump R f3 σ3 a3 w3 φ3 Ω3 hs3 hR
    have hsz2 : (w1.putObj l (.loop { rec .ready none with state := .busy })).heap.size = w1.heap.size := World.putObj_size
    have hl1lt : l < w1.heap.size := (Array.getElem?_eq_some_iff.1 hl1).1
    have hl3 : w3.heap[l]? = some (.loop { rec .ready none with state := .busy }) := by
      rw [(hs3.since.block l (by show l < _; rw [hsz2]; exact hl1lt) hn1).1]; exact hl2
    have hz3 : φ3 l = 0 := by rw [(hs3.since.block l (by show l < _; rw [hsz2]; exact hl1lt) hn1).2]; exact hz1
    have hn3 : l ∉ owned Ω3 σ3 := fun hb => by
      rcases hs3.mine l hb with h | h
      · exact hn1 h
      · have : w1.heap.size ≤ l := hsz2 ▸ h
        omega
    have hend := run_endRound (P := P) jump hl3
    have hfinal : ({ ({ rec .ready none with state := .busy } : Loop) with state := (if jump.isNone then .ready else .done), pending := jump } : Loop) = rec (if jump.isNone then .ready else .done) jump := by rw [hrec]
    rw [hfinal] at hend
    have hs4 : SR (E.inRd l) ⟨w3, φ3, l :: owned Ω3 σ3⟩ f3 ⟨σ3.box, (l, .ob (.loop (rec (if jump.isNone then .ready else .done) jump))) :: σ3.map⟩ a3 (w3.putObj l (.loop (rec (if jump.isNone then .ready else .done) jump))) φ3 Ω3 :=
      ((hs3.rebase (l :: owned Ω3 σ3) fun b hb => List.mem_cons_of_mem _ hb).addObj hl3 (m := .ob (.loop { rec .ready none with state := .busy })) rfl hz3 hn3 (.inl List.mem_cons_self)).setHead (m' := .ob (.loop (rec (if jump.isNone then .ready else .done) jump))) rfl
    have X1 := hs1.since.ext
    have X2 := hs2.since.ext
    have X3 := hs3.since.ext
    have X4 := hs4.since.ext
    have XA : Ext w φ (w3.putObj l (.loop (rec (if jump.isNone then .ready else .done) jump))) φ3 := ((X1.trans X2).trans X3).trans X4
    have hss4 := hs4.ss.inBoxes
    refine ⟨_, _, hend, _, φ3, _, _, _, rfl, hR, by simp only [Rep], hss4.env (fun b => RepAt.mono XA _ _ _ (hss.glob b)), ?_, fun y hy => inBox_true (List.mem_filter.1 hy).2, ?_⟩
    · refine ⟨?_, ?_, ?_, ?_, fun b hb hD => ?_, XA⟩
      · exact hs4.since.os.trans (hs3.since.os.trans (hs2.since.os.trans hs1.since.os))
      · exact hs4.since.tape.trans (hs3.since.tape.trans (hs2.since.tape.trans hs1.since.tape))
      · exact hs4.since.output.trans (hs3.since.output.trans (hs2.since.output.trans hs1.since.output))
      · exact Nat.le_trans hs1.since.size (Nat.le_trans hs2.since.size (Nat.le_trans hs3.since.size hs4.since.size))
      · have hD' : b ≠ l ∧ b ∉ owned Ω σ := by
          have : b ∉ l :: owned Ω σ := fun h => hD ((owned_cons Ω σ l _).mem_iff.2 h)
          exact ⟨fun e => this (by simp [e]), fun e => this (by simp [e])⟩
        have hb : b < w.heap.size := hb
        have hb1 : b < w1.heap.size := Nat.lt_of_lt_of_le hb hs1.since.size
        have hb3 : b < w3.heap.size := Nat.lt_of_lt_of_le hb1 (Nat.le_trans hs2.since.size hs3.since.size)
        have ho1 : b ∉ owned Ω1 σ1 := fun h => by
          rcases hs1.mine b h with h | h
          · exact hD'.2 h
          · have : w.heap.size ≤ b := h
            omega
        have ho3 : b ∉ owned Ω3 σ3 := fun h => by
          rcases hs3.mine b h with h | h
          · exact ho1 h
          · have : w1.heap.size ≤ b := hsz2 ▸ h
            omega
        have k1 := hs1.since.block b hb hD'.2
        have k2 := hs2.since.block b hb1 (by simp [hD'.1, ho1])
        have k3 := hs3.since.block b (by show b < _; rw [hsz2]; exact hb1) ho1
        have k4 := hs4.since.block b hb3 (by simp [hD'.1, ho3])
        exact ⟨k4.1.trans (k3.1.trans (k2.1.trans k1.1)), k4.2.trans (k3.2.trans (k2.2.trans k1.2))⟩
    · intro b hb
      have hb : b ∈ owned Ω3 ⟨σ3.box, (l, .ob (.loop (rec (if jump.isNone then .ready else .done) jump))) :: σ3.map⟩ :=
        (List.Sublist.append (List.Sublist.refl _) (List.Sublist.filterMap _ List.filter_sublist)).subset hb
      rcases List.mem_cons.1 ((owned_cons Ω3 σ3 l _).mem_iff.1 hb) with rfl | hb
      · exact .inl ((owned_cons Ω σ b _).mem_iff.2 List.mem_cons_self)
      · rcases hs3.mine b hb with h | h
        · rcases hs1.mine b h with h | h
          · exact .inl ((owned_cons Ω σ l _).mem_iff.2 (List.mem_cons_of_mem _ h))
          · exact .inr h
        · have : w1.heap.size ≤ b := hsz2 ▸ h
          exact .inr (Nat.le_trans hs1.since.size this)
  rintro e a3 w3 ⟨f3, σ3, φ3, Ω3, hs3, hq3⟩
  cases e with
  | normal => exact fin none _ f3 σ3 a3 w3 φ3 Ω3 hs3 (.inl ⟨rfl, σ3, rfl, hq3⟩)
  | ret => exact fin (some .ret) _ f3 σ3 a3 w3 φ3 Ω3 hs3 (.inr ⟨rfl, .ret, .ret, σ3, .inl ⟨rfl, rfl⟩, rfl, hq3⟩)
  | exit id => exact fin (some (.exit id)) _ f3 σ3 a3 w3 φ3 Ω3 hs3 (.inr ⟨rfl, .exit id, .exit id, σ3, .inr ⟨id, rfl, rfl⟩, rfl, hq3⟩)
  | _ => exact hq3.elim
end
end Go.Proofs.YtpjkepfplhllfaaDoor.Av
