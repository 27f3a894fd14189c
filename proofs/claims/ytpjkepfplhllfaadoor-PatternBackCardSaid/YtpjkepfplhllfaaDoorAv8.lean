/-
Operations with effects: boxes.
-/
import Derived.Test.YtpjkepfplhllfaaDoorAv7
namespace Go.Proofs.YtpjkepfplhllfaaDoor.Av
set_option linter.unusedSimpArgs false
set_option linter.unusedVariables false
open Go

/-- Slots that have a tag lose it. -/
def untagV (t : Tag) : AV → AV
  | .list t' xs => if t' = t then .list .none xs else .list t' xs
  | .agg cs => .agg (cs.map fun c => match c with | .list t' xs => if t' = t then .list .none xs else .list t' xs | c => c)
  | a => a
def untagS (t : Tag) : List (Nat × AV) → List (Nat × AV)
  | [] => []
  | (k, v) :: l => (k, untagV t v) :: untagS t l
/-- A cell of a box that nobody may grow. -/
def plainC : AV → AV
  | .list _ xs => .list .none xs
  | .grow _ xs => .list .none xs
  | c => c
/-- Cells that go into a box: a list that may be grown in a slot is from now on the box's. -/
def giveC : List (Tag × (Nat × Nat)) → List AV → List AV × List (Tag × (Nat × Nat))
  | ow, [] => ([], ow)
  | ow, .list (.slot k) xs :: cs =>
    match getO ow (.slot k) xs with
    | some sz =>
      let r := giveC (delT ow (.slot k)) cs
      (.grow sz xs :: r.1, r.2)
    | none =>
      let r := giveC ow cs
      (.list .none xs :: r.1, r.2)
  | ow, c :: cs => let r := giveC ow cs; (plainC c :: r.1, r.2)
/-- Does one of the cells bring its array along? -/
def gives : List (Tag × (Nat × Nat)) → List AV → Bool
  | _, [] => false
  | ow, .list (.slot k) xs :: cs => (getO ow (.slot k) xs).isSome || gives ow cs
  | ow, _ :: cs => gives ow cs
def untagCells (b o : Nat) : Nat → List (Nat × AV) → List (Nat × AV)
  | 0, l => l
  | n + 1, l => untagCells b o n (untagS (.cell b (o + n)) l)
def delCells (b o : Nat) : Nat → List (Tag × (Nat × Nat)) → List (Tag × (Nat × Nat))
  | 0, l => l
  | n + 1, l => delCells b o n (delT l (.cell b (o + n)))

section
variable {P : Program} {w : World} {φ : Nat → Nat} {E : Env} {f : Fm} {σ : St} {a : Act} {Ω : List Own} {g : Gh}

theorem getA_upd (l : List (Nat × AV)) (d s : Nat) (x : AV) : getA ((d, x) :: l) s = if d = s then x else getA l s := rfl

theorem FS.put (h : FS w φ Ω f a) {dst : Option Nat} {x : AV} {v : Value} (hd : ∀ d, dst = some d → d < f.nt) (hr : Rep w φ x v) (ht : TagOK Ω x v) : FS w φ Ω (f.put dst x) (a.put dst v) := by
  cases dst with
  | none => exact h
  | some d =>
    have hlt := hd d rfl
    have hget : ∀ s, (a.put (some d) v).tmps.getD s undef = if d = s then v else a.tmps.getD s undef := by
      intro s
      simp only [Act.put]
      by_cases e : d = s
      · subst e
        rw [if_pos rfl]
        simp [Array.getD_eq_getD_getElem?, Array.getElem?_setIfInBounds, h.size, hlt]
      · rw [if_neg e]
        simp [Array.getD_eq_getD_getElem?, Array.getElem?_setIfInBounds, e]
    refine ⟨by simp [Act.put, Fm.put, Fm.upd, h.size], h.defers, fun s => ?_, fun s => ?_, h.ow⟩
    · rw [hget]
      simp only [Fm.put, Fm.upd, getA_upd]
      split
      · exact hr
      · exact h.rep s
    · rw [hget]
      simp only [Fm.put, Fm.upd, getA_upd]
      split
      · exact ht
      · exact h.tag s

theorem SR.put (h : SR E g f σ a w φ Ω) {dst : Option Nat} {x : AV} {v : Value} (hd : ∀ d, dst = some d → d < f.nt) (hr : Rep w φ x v) (ht : TagOK Ω x v) : SR E g (f.put dst x) σ (a.put dst v) w φ Ω :=
  ⟨h.ss, h.fs.put hd hr ht, h.since, h.mine⟩

/-- Nothing that is promised hangs on blocks that do not exist. -/
theorem SS.ext_alloc (h : SS E w φ Ω σ) (o : Obj) (φ' : Nat → Nat) (hφ : ∀ b, b < w.heap.size → φ' b = φ b) : Ext w φ (w.alloc o) φ' := by
  intro b off hb
  have hlt : b < w.heap.size := by
    rcases Nat.lt_or_ge b w.heap.size with h' | h'
    · exact h'
    · have := h.fits b h'; omega
  rw [hφ b hlt]
  exact ⟨hb, World.cell?_alloc_lt w o ⟨b, off, none⟩ hlt⟩

theorem MapRep.mono {w' : World} {φ' : Nat → Nat} (H : Ext w φ w' φ') : ∀ {l : List (AV × AV)} {es : List MapEntry}, MapRep w φ l es → MapRep w' φ' l es
  | [], _, h => h
  | (k, v) :: l, _, h => by
    simp only [MapRep] at h ⊢
    obtain ⟨e, es', rfl, h1, h2, h3, h4⟩ := h
    exact ⟨e, es', rfl, Rep.mono H _ _ h1, h2, Rep.mono H _ _ h3, MapRep.mono H h4⟩
theorem MORep.mono {w' : World} {φ' : Nat → Nat} (H : Ext w φ w' φ') {m : MO} {o : Obj} (h : MORep w φ m o) : MORep w' φ' m o := by
  cases m <;> cases o <;> simp only [MORep] at h ⊢
  · exact MapRep.mono H h
  all_goals exact h

theorem FS.mono {w' : World} {φ' : Nat → Nat} (h : FS w φ Ω f a) (H : Ext w φ w' φ') : FS w' φ' Ω f a :=
  ⟨h.size, h.defers, fun s => Rep.mono H _ _ (h.rep s), h.tag, h.ow⟩

theorem ownsRow_block {w' : World} {base : Nat} {e : TypeId} {size n : Nat} {v : Value} {xs : List Value} (h : w.ownsRow base e size v n xs) (hb : ∀ g, v.ownBlock = some g → w'.heap[g]? = w.heap[g]?) : w'.ownsRow base e size v n xs := by
  refine ⟨h.1, ?_⟩
  rcases h.2 with hn | ⟨g, cap, cur, rfl, h1, h2, rest⟩
  · exact .inl hn
  · exact .inr ⟨g, cap, cur, rfl, h1, (hb g rfl).trans h2, rest⟩

theorem OwnOK.keep {w' : World} {φ' : Nat → Nat} {x : Own} (h : OwnOK w φ x) (hb : ∀ g, x.v.ownBlock = some g → w'.heap[g]? = w.heap[g]? ∧ φ' g = φ g) (hsz : w.heap.size ≤ w'.heap.size) : OwnOK w' φ' x := by
  refine ⟨h.tag, ?_, h.pos, fun g hg => by rw [(hb g hg).2]; exact h.front g hg, fun b o e => Nat.lt_of_lt_of_le (h.lim b o e) hsz⟩
  obtain ⟨xs, hx⟩ := h.row
  exact ⟨xs, ownsRow_block hx fun g hg => (hb g hg).1⟩

theorem own_lt {x : Own} (h : OwnOK w φ x) {b : Nat} (hb : x.v.ownBlock = some b) : b < w.heap.size := by
  obtain ⟨xs, hx⟩ := h.row
  exact (hx.lt b hb).2
theorem owned_lt (h : SS E w φ Ω σ) {b : Nat} (hb : b ∈ owned Ω σ) : b < w.heap.size := by
  simp only [owned, List.mem_append, List.mem_map, List.mem_filterMap] at hb
  rcases hb with (⟨⟨b', cs⟩, hm, rfl⟩ | ⟨⟨b', l⟩, hm, rfl⟩) | ⟨x, hx, hb⟩
  · obtain ⟨c, T, hrow, _⟩ := (h.box _ _ hm).row
    exact (Array.getElem?_eq_some_iff.1 hrow).1
  · obtain ⟨o, hrow, _⟩ := (h.map _ _ hm).row
    exact (Array.getElem?_eq_some_iff.1 hrow).1
  · exact own_lt (h.own x hx) hb

/-- The shared part in a world where the owned blocks are as they were. -/
theorem SS.keep {w' : World} {φ' : Nat → Nat} (h : SS E w φ Ω σ) (H : Ext w φ w' φ') (hb : ∀ b ∈ owned Ω σ, w'.heap[b]? = w.heap[b]? ∧ φ' b = φ b) (hf : ∀ b, w'.heap.size ≤ b → φ' b = 0) (hsz : w.heap.size ≤ w'.heap.size) : SS E w' φ' Ω σ := by
  refine ⟨fun b cs hm => ?_, fun b l hm => ?_, fun x hx => ?_, h.tags, h.nodup, fun g => RepAt.mono H _ _ _ (h.glob g), hf⟩
  · have hin : b ∈ owned Ω σ := by simp only [owned, List.mem_append, List.mem_map]; exact .inl (.inl ⟨_, hm, rfl⟩)
    obtain ⟨⟨c, T, h1, h2, h3⟩, h4, h5⟩ := h.box b cs hm
    exact ⟨⟨c, T, (hb b hin).1.trans h1, RepL.mono H _ _ h2, h3⟩, (hb b hin).2.trans h4, h5⟩
  · have hin : b ∈ owned Ω σ := by simp only [owned, List.mem_append, List.mem_map]; exact .inl (.inr ⟨_, hm, rfl⟩)
    obtain ⟨⟨o, h1, h2⟩, h4⟩ := h.map b l hm
    exact ⟨⟨o, (hb b hin).1.trans h1, MORep.mono H h2⟩, (hb b hin).2.trans h4⟩
  · exact (h.own x hx).keep (fun g hg => hb g (by simp only [owned, List.mem_append, List.mem_filterMap]; exact .inr ⟨x, hx, hg⟩)) hsz

theorem Since.step {w' : World} {φ' : Nat → Nat} (h : Since g w φ) (H : Ext w φ w' φ') (h1 : w'.os = w.os) (h2 : w'.tape = w.tape) (h3 : w'.output = w.output) (h4 : w.heap.size ≤ w'.heap.size)
    (h5 : ∀ b, b < g.w.heap.size → b ∉ g.D → w'.heap[b]? = w.heap[b]? ∧ φ' b = φ b) : Since g w' φ' :=
  ⟨h1.trans h.os, h2.trans h.tape, h3.trans h.output, Nat.le_trans h.size h4, fun b hb hd => ⟨(h5 b hb hd).1.trans (h.block b hb hd).1, (h5 b hb hd).2.trans (h.block b hb hd).2⟩, h.ext.trans H⟩

/-- A new box. -/
theorem SR.newBox (h : SR E g f σ a w φ Ω) {cs : List AV} {vs : List Value} (T : TypeId) (hr : RepL w φ cs vs) (hone : cs.all AV.one = true) (hng : ∀ (o : Nat) sz xs, cs[o]? ≠ some (AV.grow sz xs)) :
    SR E g f { σ with box := (w.heap.size, cs) :: σ.box } a (w.alloc (.cells vs.toArray T)) φ Ω := by
  have H := h.ss.ext_alloc (.cells vs.toArray T) φ fun _ _ => rfl
  have hold : ∀ b ∈ owned Ω σ, (w.alloc (.cells vs.toArray T)).heap[b]? = w.heap[b]? ∧ φ b = φ b := fun b hb => ⟨heap_alloc_old w _ (owned_lt h.ss hb), rfl⟩
  have hss := h.ss.keep H hold (fun b hb => h.ss.fits b (by simp at hb; omega)) (by simp)
  refine ⟨⟨fun b ds hm => ?_, hss.map, hss.own, hss.tags, ?_, hss.glob, hss.fits⟩, h.fs.mono H, h.since.step H rfl rfl rfl (by simp) fun b hb _ => ⟨heap_alloc_old w _ (by have := h.since.size; omega), rfl⟩, fun b hb => ?_⟩
  · rcases List.mem_cons.1 hm with hm | hm
    · injection hm with h1 h2
      subst h1 h2
      exact ⟨⟨vs.toArray, T, heap_alloc_new w _, by simpa using RepL.mono H _ _ hr, fun o sz xs ho => absurd ho (hng o sz xs)⟩, h.ss.fits _ (Nat.le_refl _), hone⟩
    · exact hss.box b ds hm
  · show (owned Ω { σ with box := (w.heap.size, cs) :: σ.box }).Nodup
    simp only [owned, List.map_cons, List.cons_append, List.nodup_cons]
    exact ⟨fun hm => by have := owned_lt h.ss (b := w.heap.size) hm; omega, h.ss.nodup⟩
  · simp only [owned, List.map_cons, List.cons_append, List.mem_cons] at hb
    rcases hb with rfl | hb
    · exact .inr h.since.size
    · exact h.mine b hb

/-! #### A store into a box -/
def notCell (b o n : Nat) (x : Own) : Bool := match x.tag with | .cell b' i => !(b' == b && decide (o ≤ i) && decide (i < o + n)) | _ => true
theorem notCell_true {b o n : Nat} {x : Own} (h : notCell b o n x = true) {i : Nat} (hi : i < n) : x.tag ≠ .cell b (o + i) := by
  intro e
  unfold notCell at h
  rw [e] at h
  simp at h
  omega
theorem notCell_other {b o n b' i : Nat} {x : Own} (h : x.tag = .cell b' i) (hne : b' ≠ b ∨ i < o ∨ o + n ≤ i) : notCell b o n x = true := by
  unfold notCell
  rw [h]
  simp
  omega

theorem setRow_ext (b : Nat) (cur cells : Array Value) (T : TypeId) (h : w.heap[b]? = some (.cells cur T (0, 0))) (hφ : φ b = 0) : Ext w φ (w.setRow b cells) φ := by
  intro b' off hb
  have hne : b' ≠ b := fun e => by subst e; omega
  exact ⟨hb, World.cell?_of_block (setRow_other w b b' _ hne)⟩

theorem getT_del (l : List (Tag × (Nat × Nat))) (t s : Tag) : getT (delT l t) s = if t = s then none else getT l s := by
  induction l with
  | nil => simp [delT, getT]
  | cons p l ih =>
    obtain ⟨k, v⟩ := p
    simp only [delT]
    split
    · rename_i e; subst e; rw [ih]; by_cases h : k = s <;> simp [h, getT]
    · rename_i e
      simp only [getT]
      split
      · rename_i e'; subst e'; rw [if_neg (fun h => e h.symm)]
      · exact ih
theorem getT_delCells (b o : Nat) : ∀ (n : Nat) (l : List (Tag × (Nat × Nat))) (s : Tag), getT (delCells b o n l) s = if ∃ i, i < n ∧ s = .cell b (o + i) then none else getT l s
  | 0, l, s => by simp [delCells]
  | n + 1, l, s => by
    simp only [delCells]
    rw [getT_delCells b o n, getT_del]
    by_cases h1 : ∃ i, i < n ∧ s = .cell b (o + i)
    · obtain ⟨i, hi, rfl⟩ := h1
      rw [if_pos ⟨i, hi, rfl⟩, if_pos ⟨i, by omega, rfl⟩]
    · rw [if_neg h1]
      by_cases h2 : Tag.cell b (o + n) = s
      · subst h2; rw [if_pos rfl, if_pos ⟨n, by omega, rfl⟩]
      · rw [if_neg h2, if_neg]
        rintro ⟨i, hi, rfl⟩
        by_cases e : i = n
        · subst e; exact h2 rfl
        · exact h1 ⟨i, by omega, rfl⟩

theorem getB_mem {α : Type} : ∀ {l : List (Nat × α)} {b : Nat} {x : α}, getB l b = some x → (b, x) ∈ l
  | [], _, _, h => by simp [getB] at h
  | (k, v) :: l, b, x, h => by
    simp only [getB] at h
    split at h
    · rename_i e; subst e; simp only [Option.some.injEq] at h; subst h; exact List.mem_cons_self
    · exact List.mem_cons_of_mem _ (getB_mem h)
theorem setB_keys {α : Type} : ∀ (l : List (Nat × α)) (b : Nat) (x : α), (setB l b x).map (·.1) = l.map (·.1)
  | [], _, _ => rfl
  | (k, v) :: l, b, x => by simp only [setB]; split <;> simp_all [setB_keys l b x]
theorem mem_setB {α : Type} : ∀ {l : List (Nat × α)} {b b' : Nat} {x y : α}, (l.map (·.1)).Nodup → (b', y) ∈ setB l b x → (b' = b ∧ y = x) ∨ (b' ≠ b ∧ (b', y) ∈ l)
  | [], _, _, _, _, _, h => by simp [setB] at h
  | (k, v) :: l, b, b', x, y, hn, h => by
    simp only [List.map_cons, List.nodup_cons] at hn
    simp only [setB] at h
    split at h
    · rename_i e
      subst e
      rcases List.mem_cons.1 h with h | h
      · injection h with h1 h2; exact .inl ⟨h1, h2⟩
      · refine .inr ⟨fun e => hn.1 (List.mem_map.2 ⟨_, h, e⟩), List.mem_cons_of_mem _ h⟩
    · rename_i e
      rcases List.mem_cons.1 h with h | h
      · injection h with h1 h2; subst h1 h2; exact .inr ⟨e, List.mem_cons_self⟩
      · rcases mem_setB hn.2 h with h | ⟨h1, h2⟩
        · exact .inl h
        · exact .inr ⟨h1, List.mem_cons_of_mem _ h2⟩

theorem nodup_app_left {α : Type} {l m : List α} (h : (l ++ m).Nodup) : l.Nodup := (List.nodup_append.1 h).1

/-- A plain store. -/
theorem SR.storePlain (h : SR E g f σ a w φ Ω) {b o : Nat} {cs ds : List AV} {vs : List Value} (hb : getB σ.box b = some cs) (hle : o + ds.length ≤ cs.length) (hr : RepL w φ ds vs) (hone : ds.all AV.one = true) :
    ∃ (c : Array Value) (T : TypeId), w.heap[b]? = some (.cells c T (0, 0)) ∧ RepL w φ cs c.toList ∧
      SR E g { f with ow := delCells b o ds.length f.ow } { σ with box := setB σ.box b (cs.take o ++ ds.map plainC ++ cs.drop (o + ds.length)) } a
        (w.setRow b (c.toList.take o ++ vs ++ c.toList.drop (o + vs.length)).toArray) φ (Ω.filter (notCell b o ds.length)) := by
  obtain ⟨⟨c, T, h1, h2, h3⟩, h4, h5⟩ := box_get h.ss hb
  have hlen := h2.length
  have hvl := hr.length
  refine ⟨c, T, h1, h2, ?_⟩
  have H := setRow_ext b c (c.toList.take o ++ vs ++ c.toList.drop (o + vs.length)).toArray T h1 h4
  generalize hw' : w.setRow b (c.toList.take o ++ vs ++ c.toList.drop (o + vs.length)).toArray = w' at H
  have hrow : w'.heap[b]? = some (.cells (c.toList.take o ++ vs ++ c.toList.drop (o + vs.length)).toArray T (0, 0)) := by
    rw [← hw']; exact setRow_heap w b c _ T _ h1
  have hoth : ∀ k, k ≠ b → w'.heap[k]? = w.heap[k]? := fun k hk => by rw [← hw']; exact setRow_other w b k _ hk
  have hsz : w'.heap.size = w.heap.size := by rw [← hw']; simp
  have hplain : RepL w φ (ds.map plainC) vs := hr.map_of fun x v hx => by
    cases x <;> simp only [plainC] <;> first | exact hx | (simp only [Rep] at hx ⊢; exact hx)
  have hpo : ∀ x : AV, (plainC x).one = x.one := fun x => by cases x <;> rfl
  have hmem : b ∈ owned Ω σ := by simp only [owned, List.mem_append, List.mem_map]; exact .inl (.inl ⟨_, getB_mem hb, rfl⟩)
  have hnd := h.ss.nodup
  have hnb : (σ.box.map (·.1)).Nodup := nodup_app_left (nodup_app_left hnd)
  have hne : ∀ x ∈ Ω, ∀ k, x.v.ownBlock = some k → k ≠ b := by
    intro x hx k hk e
    subst e
    have := (List.nodup_append.1 hnd).2.2 k (by simp only [List.mem_append, List.mem_map]; exact .inl ⟨_, getB_mem hb, rfl⟩) k (List.mem_filterMap.2 ⟨x, hx, hk⟩)
    exact this rfl
  have hneM : ∀ k l, (k, l) ∈ σ.map → k ≠ b := by
    intro k l hk e
    subst e
    have := (List.nodup_append.1 (nodup_app_left hnd)).2.2 k (List.mem_map.2 ⟨_, getB_mem hb, rfl⟩) k (List.mem_map.2 ⟨_, hk, rfl⟩)
    exact this rfl
  have hsub : ∀ b' ∈ owned (Ω.filter (notCell b o ds.length)) { σ with box := setB σ.box b (cs.take o ++ ds.map plainC ++ cs.drop (o + ds.length)) }, b' ∈ owned Ω σ := by
    intro b' hb'
    simp only [owned, setB_keys, List.mem_append, List.mem_filterMap, List.mem_filter] at hb' ⊢
    rcases hb' with hb' | ⟨x, ⟨hx, _⟩, hv⟩
    · exact .inl hb'
    · exact .inr ⟨x, hx, hv⟩
  refine ⟨⟨fun b' es hm => ?_, fun b' l hm => ?_, fun x hx => ?_, ?_, ?_, fun g => RepAt.mono H _ _ _ (h.ss.glob g), fun b' hb' => h.ss.fits b' (by omega)⟩, ⟨h.fs.size, h.fs.defers, fun s => Rep.mono H _ _ (h.fs.rep s), fun s => ?_, fun t n ht => ?_⟩,
    h.since.step H (by rw [← hw']; rfl) (by rw [← hw']; rfl) (by rw [← hw']; rfl) (by omega) fun b' hb' hD => ⟨hoth b' ?_, rfl⟩, fun b' hb' => h.mine b' (hsub b' hb')⟩
  · rcases mem_setB hnb hm with ⟨rfl, rfl⟩ | ⟨hk, hm⟩
    · refine ⟨⟨_, T, hrow, ?_, fun i sz xs hi => ?_⟩, h4, ?_⟩
      · simp only
        rw [hvl]
        exact RepL.append (RepL.append ((RepL.mono H _ _ h2).take o) (RepL.mono H _ _ hplain)) ((RepL.mono H _ _ h2).drop _)
      · rw [List.append_assoc, List.getElem?_append] at hi
        have hto : (cs.take o).length = o := by simp; omega
        have htc : (c.toList.take o).length = o := by simp at hlen ⊢; omega
        rw [hto] at hi
        split at hi
        · rename_i hlt
          rw [List.getElem?_take, if_pos hlt] at hi
          obtain ⟨x, hx, k1, k2, k3⟩ := h3 i sz xs hi
          refine ⟨x, List.mem_filter.2 ⟨hx, notCell_other k1 (.inr (.inl hlt))⟩, k1, k2, ?_⟩
          simp only [List.getElem?_toArray]
          rw [List.append_assoc, List.getElem?_append, htc, if_pos hlt, List.getElem?_take, if_pos hlt]
          simpa using k3
        · rename_i hge
          rw [List.getElem?_append] at hi
          simp only [List.length_map] at hi
          split at hi
          · simp only [List.getElem?_map, Option.map_eq_some_iff] at hi
            obtain ⟨d, _, hd⟩ := hi
            cases d <;> simp [plainC] at hd
          · rename_i hge2
            rw [List.getElem?_drop] at hi
            have hidx : o + ds.length + (i - o - ds.length) = i := by omega
            rw [hidx] at hi
            obtain ⟨x, hx, k1, k2, k3⟩ := h3 i sz xs hi
            refine ⟨x, List.mem_filter.2 ⟨hx, notCell_other k1 (.inr (.inr (by omega)))⟩, k1, k2, ?_⟩
            simp only [List.getElem?_toArray]
            rw [List.append_assoc, List.getElem?_append, htc, if_neg hge, List.getElem?_append, hvl, if_neg hge2, List.getElem?_drop, hidx]
            simpa using k3
      · simp only [List.all_append, Bool.and_eq_true, List.all_eq_true] at h5 hone ⊢
        refine ⟨⟨fun x hx => h5 x (List.mem_of_mem_take hx), fun x hx => ?_⟩, fun x hx => h5 x (List.mem_of_mem_drop hx)⟩
        obtain ⟨d, hd, rfl⟩ := List.mem_map.1 hx
        rw [hpo]; exact hone d hd
    · obtain ⟨⟨c', T', k1, k2, k3⟩, k4, k5⟩ := h.ss.box b' es hm
      refine ⟨⟨c', T', (hoth b' hk).trans k1, RepL.mono H _ _ k2, fun i sz xs hi => ?_⟩, k4, k5⟩
      obtain ⟨x, hx, e1, e2, e3⟩ := k3 i sz xs hi
      exact ⟨x, List.mem_filter.2 ⟨hx, notCell_other e1 (.inl hk)⟩, e1, e2, e3⟩
  · obtain ⟨⟨o, k1, k2⟩, k3⟩ := h.ss.map b' l hm
    exact ⟨⟨o, (hoth b' (hneM b' l hm)).trans k1, MORep.mono H k2⟩, k3⟩
  · have hx' := (List.mem_filter.1 hx).1
    exact (h.ss.own x hx').keep (fun k hk => ⟨hoth k (hne x hx' k hk), rfl⟩) (by omega)
  · exact h.ss.tags.sublist (List.Sublist.map _ List.filter_sublist)
  · show (owned _ _).Nodup
    simp only [owned, setB_keys]
    exact hnd.sublist (List.Sublist.append (List.Sublist.refl _) (List.Sublist.filterMap _ List.filter_sublist))
  · have := h.fs.tag s
    cases hx : getA f.sl s with
    | list t xs => rw [hx] at this; intro x hx' ht hn; exact this x (List.mem_filter.1 hx').1 ht hn
    | agg es => rw [hx] at this; intro us hus i t xs hi x hx' ht hn; exact this us hus i t xs hi x (List.mem_filter.1 hx').1 ht hn
    | _ => trivial
  · rw [getT_delCells] at ht
    split at ht
    · cases ht
    · rename_i hno
      obtain ⟨x, hx, k1, k2⟩ := h.fs.ow t n ht
      refine ⟨x, List.mem_filter.2 ⟨hx, ?_⟩, k1, k2⟩
      cases hxt : x.tag with
      | cell b' i =>
        refine notCell_other hxt ?_
        by_cases e : b' = b
        · subst e
          rcases Nat.lt_or_ge i o with hlt | hge
          · exact .inr (.inl hlt)
          · rcases Nat.lt_or_ge i (o + ds.length) with hlt | hge2
            · exact absurd ⟨i - o, by omega, by rw [← k1, hxt]; congr 1; omega⟩ hno
            · exact .inr (.inr hge2)
        · exact .inl e
      | _ => unfold notCell; rw [hxt]
  · intro e
    subst e
    rcases h.mine b' hmem with hh | hh
    · exact hD hh
    · omega
end
end Go.Proofs.YtpjkepfplhllfaaDoor.Av
