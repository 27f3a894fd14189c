/-
Boxes that nobody will write any more.
-/
import Derived.Test.YtpjkepfplhllfaaDoorAv26
namespace Go.Proofs.YtpjkepfplhllfaaDoor.Av
set_option linter.unusedSimpArgs false
set_option linter.unusedVariables false
open Go

def frg1 (b : Nat) (fz : Nat → AV) : AV → AV
  | .ptr b' o => if b' = b then fz o else .ptr b' o
  | a => a
def frg (b : Nat) (fz : Nat → AV) : AV → AV
  | .ptr b' o => if b' = b then fz o else .ptr b' o
  | .func n caps => .func n (caps.map (frg1 b fz))
  | a => a
def frgS (b : Nat) (fz : Nat → AV) (sl : List (Nat × AV)) : List (Nat × AV) := sl.map fun p => (p.1, frg b fz p.2)
def noGrow : AV → Bool
  | .grow _ _ => false
  | _ => true
theorem getA_frgS (b : Nat) {fz : Nat → AV} (hz : fz = fz) : ∀ (sl : List (Nat × AV)) (s : Nat), getA (frgS b fz sl) s = frg b fz (getA sl s)
  | [], _ => rfl
  | (k, v) :: l, s => by
    simp only [frgS, List.map_cons, getA]
    split
    · rfl
    · exact getA_frgS b hz l s
section
variable {P : Program} {E : Env} {f : Fm} {σ : St} {a : Act} {w : World} {φ : Nat → Nat} {Ω : List Own} {g : Gh}
theorem repAt_box {w : World} {φ ψ : Nat → Nat} {b : Nat} {cs : List AV} {c : Array Value} {T : TypeId} (k1 : w.heap[b]? = some (.cells c T (0, 0))) (k2 : RepL w φ cs c.toList) (hX : Ext w φ w ψ) (hb : ψ b = cs.length) : RepAt w ψ b 0 cs := by
  have key : ∀ (l : List AV) (o : Nat), o + l.length = cs.length → cs.drop o = l → RepL w φ l (c.toList.drop o) → RepAt w ψ b o l := by
    intro l
    induction l with
    | nil => intro o _ _ _; simp only [RepAt]
    | cons x l ih =>
      intro o hlen hdr hrep
      simp only [RepAt]
      have hol : o < cs.length := by simp at hlen; omega
      have hrl := k2.length
      have hoc : o < c.toList.length := by omega
      rw [List.drop_eq_getElem_cons hoc] at hrep
      obtain ⟨v1, vs1, he, hr1, hr2⟩ := hrep
      injection he with he1 he2
      subst he1 he2
      refine ⟨by rw [hb]; exact hol, ⟨c.toList[o], ?_, Rep.mono hX _ _ hr1⟩, ih (o + 1) (by simp at hlen; omega) ?_ hr2⟩
      · unfold World.cell?
        simp only [k1]
        simp at hoc
        simp [hoc]
      · rw [List.drop_eq_getElem_cons hol] at hdr
        injection hdr
  exact key cs 0 (by simp) (by simp) (by simpa using k2)
theorem delB_sub {α : Type} : ∀ (l : List (Nat × α)) (b : Nat), (delB l b).Sublist l
  | [], _ => List.Sublist.refl _
  | (k, v) :: l, b => by
    simp only [delB]
    split
    · exact List.sublist_cons_self _ _
    · exact (delB_sub l b).cons_cons _
theorem delB_ne {α : Type} : ∀ {l : List (Nat × α)} {b : Nat} {p : Nat × α}, (l.map (·.1)).Nodup → p ∈ delB l b → p.1 ≠ b
  | [], _, _, _, h => by simp [delB] at h
  | (k, v) :: l, b, p, hn, h => by
    simp only [delB] at h
    simp only [List.map_cons, List.nodup_cons] at hn
    split at h
    · rename_i e
      subst e
      intro e
      exact hn.1 (List.mem_map.2 ⟨p, h, e⟩)
    · rename_i e
      rcases List.mem_cons.1 h with rfl | h
      · exact e
      · exact delB_ne hn.2 h
theorem SR.freeze (h : SR E g f σ a w φ Ω) {b : Nat} {cs : List AV} (hb : getB σ.box b = some cs) {fz : Nat → AV} (hfz : ∀ w φ, RepAt w φ b 0 cs → ∀ o, Rep w φ (fz o) (.pointer (some ⟨b, o, none⟩))) (htg : ∀ o Ω v, TagOK Ω (fz o) v) : ∃ φ', SR E g ⟨f.nt, frgS b fz f.sl, f.ow, f.df⟩ ⟨delB σ.box b, σ.map⟩ a w φ' Ω := by
  obtain ⟨⟨c, T, k1, k2, _⟩, kz, ko⟩ := box_get h.ss hb
  have hlt : b < w.heap.size := (Array.getElem?_eq_some_iff.1 k1).1
  have hX : Ext w φ w (fun x => if x = b then cs.length else φ x) := fun b' o ho => by
    refine ⟨?_, rfl⟩
    by_cases e : b' = b
    · subst e; rw [kz] at ho; omega
    · simp only [if_neg e]; exact ho
  have hcs := repAt_box k1 k2 hX (by simp)
  have hbm : b ∈ σ.box.map (·.1) := List.mem_map.2 ⟨(b, cs), getB_mem hb, rfl⟩
  have hnd := h.ss.nodup
  have n1 := List.nodup_append.1 hnd
  have n2 := List.nodup_append.1 n1.1
  have hown : (owned Ω ⟨delB σ.box b, σ.map⟩).Sublist (owned Ω σ) := (((delB_sub σ.box b).map _).append (List.Sublist.refl _)).append (List.Sublist.refl _)
  refine ⟨fun x => if x = b then cs.length else φ x, ⟨fun b' es hm => ?_, fun b' m hm => ?_, fun x hx => ?_, h.ss.tags, hnd.sublist hown, fun g => RepAt.mono hX _ _ _ (h.ss.glob g), fun b' hb' => ?_⟩, ⟨h.fs.size, h.fs.defers, fun s => ?_, fun s => ?_, h.fs.ow⟩, ?_, fun b' hb' => h.mine b' (hown.subset hb')⟩
  · have hne : b' ≠ b := delB_ne n2.1 hm
    obtain ⟨⟨c', T', l1, l2, l3⟩, l4, l5⟩ := h.ss.box b' es ((delB_sub _ _).subset hm)
    exact ⟨⟨c', T', l1, RepL.mono hX _ _ l2, l3⟩, by simp only [if_neg hne]; exact l4, l5⟩
  · have hne : b' ≠ b := fun e => n2.2.2 b hbm b (List.mem_map.2 ⟨_, hm, e⟩) rfl
    obtain ⟨⟨o, l1, l2⟩, l3⟩ := h.ss.map b' m hm
    refine ⟨⟨o, l1, ?_⟩, by simp only [if_neg hne]; exact l3⟩
    exact MORep.mono hX l2
  · have ho := h.ss.own x hx
    refine ⟨ho.tag, ho.row, ho.pos, fun g hg => ?_, ho.lim⟩
    have hne : g ≠ b := fun e => by
      subst e
      exact n1.2.2 g (List.mem_append.2 (.inl hbm)) g (List.mem_filterMap.2 ⟨x, hx, hg⟩) rfl
    simp only [if_neg hne]; exact ho.front g hg
  · have : b' ≠ b := by omega
    simp only [if_neg this]; exact h.ss.fits b' hb'
  · rw [getA_frgS b rfl]
    have hr := h.fs.rep s
    have one : ∀ x v, Rep w φ x v → Rep w (fun x => if x = b then cs.length else φ x) (frg1 b fz x) v := fun x v hr => by
      cases x with
      | ptr b' o =>
        simp only [frg1]
        by_cases e : b' = b
        · subst e
          rw [if_pos rfl]
          simp only [Rep] at hr
          rw [hr]
          exact hfz _ _ hcs o
        · rw [if_neg e]; simp only [Rep] at hr ⊢; exact hr
      | _ => exact Rep.mono hX _ _ hr
    revert hr
    generalize getA f.sl s = x
    generalize a.tmps.getD s undef = v
    intro hr
    cases x with
    | ptr b' o => exact one _ _ hr
    | func n caps =>
      simp only [frg, Rep] at hr ⊢
      obtain ⟨us, rfl, hr⟩ := hr
      have aux : ∀ (l : List AV) (vs : List Value), RepL w φ l vs → RepL w (fun x => if x = b then cs.length else φ x) (l.map (frg1 b fz)) vs := by
        intro l
        induction l with
        | nil => intro vs h; exact h
        | cons x l ih =>
          intro vs h
          obtain ⟨v, vs', rfl, h1, h2⟩ := h
          exact ⟨v, vs', rfl, one _ _ h1, ih _ h2⟩
      exact ⟨us, rfl, aux _ _ hr⟩
    | _ => exact Rep.mono hX _ _ hr
  · rw [getA_frgS b rfl]
    have ht := h.fs.tag s
    revert ht
    generalize getA f.sl s = x
    intro ht
    cases x with
    | ptr b' o =>
      simp only [frg]
      split
      · exact htg _ _ _
      · trivial
    | _ => exact ht
  · refine ⟨h.since.os, h.since.tape, h.since.output, h.since.size, fun b' h3 h4 => ?_, h.since.ext.trans hX⟩
    have hbo : b ∈ g.D ∨ g.w.heap.size ≤ b := h.mine b (by simp only [owned, List.mem_append]; exact .inl (.inl hbm))
    have hne : b' ≠ b := by
      rintro rfl
      rcases hbo with hb | hb
      · exact h4 hb
      · omega
    simp only [if_neg hne]
    exact h.since.block b' h3 h4
/-- A box is looked at as what stays. -/
theorem Run.freeze {c : Code} {Q : Post} (b : Nat) {cs : List AV} (hb : getB σ.box b = some cs) (h : Run P E c ⟨f.nt, frgS b (fun o => .cptr (cs.drop o)) f.sl, f.ow, f.df⟩ ⟨delB σ.box b, σ.map⟩ Q) : Run P E c f σ Q := by
  intro g a w φ Ω hh
  obtain ⟨φ', h1⟩ := hh.freeze hb (fz := fun o => .cptr (cs.drop o)) (fun w φ h o => by simp only [Rep]; exact ⟨b, o, rfl, by simpa using h.drop o⟩) (fun _ _ _ => trivial)
  exact h g a w φ' Ω h1
/-- A function that holds a pointer to where it lies: as deep as is asked. -/
def knot (n : FuncId) (caps : List AV) : Nat → AV
  | 0 => .cptr []
  | k + 1 => .cptr [.func n (caps ++ [knot n caps k])]
theorem RepL.last {w : World} {φ : Nat → Nat} {x y : AV} (hxy : ∀ v, Rep w φ x v → Rep w φ y v) : ∀ {l : List AV} {vs : List Value}, RepL w φ (l ++ [x]) vs → RepL w φ (l ++ [y]) vs
  | [], _, h => by
    obtain ⟨v, vs', rfl, h1, h2⟩ := h
    exact ⟨v, vs', rfl, hxy v h1, h2⟩
  | a :: l, _, h => by
    obtain ⟨v, vs', rfl, h1, h2⟩ := h
    exact ⟨v, vs', rfl, h1, RepL.last hxy h2⟩
theorem knot_rep {w : World} {φ : Nat → Nat} {b : Nat} {n : FuncId} {caps : List AV} (h : RepAt w φ b 0 [.func n (caps ++ [.ptr b 0])]) : ∀ k, Rep w φ (knot n caps k) (.pointer (some ⟨b, 0, none⟩))
  | 0 => by simp only [knot, Rep, RepAt]; exact ⟨b, 0, rfl, trivial⟩
  | k + 1 => by
    have ih := knot_rep h k
    simp only [RepAt] at h
    obtain ⟨h0, ⟨u, hu, hr⟩, _⟩ := h
    simp only [knot, Rep, RepAt]
    refine ⟨b, 0, rfl, h0, ⟨u, hu, ?_⟩, trivial⟩
    simp only [Rep] at hr ⊢
    obtain ⟨vs, rfl, hr⟩ := hr
    exact ⟨vs, rfl, RepL.last (fun v hv => by simp only [Rep] at hv; rw [hv]; exact ih) hr⟩
def knotF (n : FuncId) (caps : List AV) (b k o : Nat) : AV := if o = 0 then knot n caps k else .ptr b o
theorem Run.knot {c : Code} {Q : Post} (b k : Nat) {n : FuncId} {caps : List AV} (hb : getB σ.box b = some [.func n (caps ++ [.ptr b 0])]) (h : Run P E c ⟨f.nt, frgS b (knotF n caps b k) f.sl, f.ow, f.df⟩ ⟨delB σ.box b, σ.map⟩ Q) : Run P E c f σ Q := by
  intro g a w φ Ω hh
  obtain ⟨φ', h1⟩ := hh.freeze hb (fz := knotF n caps b k) (fun w φ h o => by
    unfold knotF
    by_cases e : o = 0
    · subst e; rw [if_pos rfl]; exact knot_rep h k
    · rw [if_neg e]; simp only [Rep]) (fun o _ _ => by
    unfold knotF
    split
    · cases k <;> trivial
    · trivial)
  exact h g a w φ' Ω h1
theorem Run.knotE {c : Code} {Q : Post} (b k : Nat) {n : FuncId} {caps : List AV} {f' : Fm} {σ' : St} (hb : getB σ.box b = some [.func n (caps ++ [.ptr b 0])]) (hf : (⟨f.nt, frgS b (knotF n caps b k) f.sl, f.ow, f.df⟩ : Fm) = f') (hσ : (⟨delB σ.box b, σ.map⟩ : St) = σ') (h : Run P E c f' σ' Q) : Run P E c f σ Q := by
  subst hf hσ; exact Run.knot b k hb h
theorem Run.freezeE {c : Code} {Q : Post} (b : Nat) {cs : List AV} {f' : Fm} {σ' : St} (hb : getB σ.box b = some cs) (hf : (⟨f.nt, frgS b (fun o => .cptr (cs.drop o)) f.sl, f.ow, f.df⟩ : Fm) = f') (hσ : (⟨delB σ.box b, σ.map⟩ : St) = σ') (h : Run P E c f' σ' Q) : Run P E c f σ Q := by
  subst hf hσ; exact Run.freeze b hb h
theorem Run.retagBE {c : Code} {Q : Post} (b o sz : Nat) {cs : List AV} {f' : Fm} {σ' : St} (hb : getB σ.box b = some cs) (ho : cs[o]? = some .nils) (hz : 0 < sz) (hf : ({ f with sl := untagS (.cell b o) f.sl, ow := delT f.ow (.cell b o) } : Fm) = f') (hσ : ({ σ with box := setB σ.box b (cs.set o (.grow sz [])) } : St) = σ') (h : Run P E c f' σ' Q) : Run P E c f σ Q := by
  subst hf hσ; exact Run.retagB b o sz hb ho hz h
theorem Run.retagE {c : Code} {Q : Post} (s d sz : Nat) {f' : Fm} (hs : getA f.sl s = .nils) (hz : 0 < sz) (hd : s < f.nt) (hf : (⟨f.nt, (s, .list (.slot d) []) :: untagS (.slot d) f.sl, (.slot d, (0, sz)) :: delT f.ow (.slot d), f.df⟩ : Fm) = f') (h : Run P E c f' σ Q) : Run P E c f σ Q := by
  subst hf; exact Run.retag s d sz hs hz hd h
theorem Run.cast {c : Code} {Q : Post} {f' : Fm} {σ' : St} (hf : f = f') (hσ : σ = σ') (h : Run P E c f' σ' Q) : Run P E c f σ Q := by subst hf hσ; exact h
theorem Run.postOnly {c : Code} {Q : Post} (bs ms : List Nat) (nb : bs.Nodup) (nm : ms.Nodup) (h : Run P E c f σ fun e f' σ' => Q e (f'.rst [] []) (σ'.only bs ms)) : Run P E c f σ Q := by
  intro g a w φ Ω hs
  refine wpIn_mono (h g a w φ Ω hs) ?_
  rintro e a' w' ⟨f', σ', φ', Ω', k1, k2⟩
  exact ⟨_, _, φ', _, k1.restrict [] [] bs ms nb nm (by simp), k2⟩
/-- A range over a function, of whose rounds a part of the boxes counts. -/
theorem Run.forLE (hE : EnvOK P E) (hrd : E.rd = none) {T V R : Type} {enc : T → AV} {ts : List T} {gop : Operand} {p : Nat} {assign body : Code} {Q : Post} {fn : FuncId} {caps : List AV} (hit : Iter P E fn caps (ts.map enc)) {step : V → T → Option (V ⊕ R)} {v0 : V} {y : V ⊕ R} (hF : Av.forL step v0 ts = some y)
    (hg : evX E f gop = .func fn caps) (hp : p < f.nt) (hxs : ∀ x, es (enc x) = enc x) (bs ms : List Nat) (nb : bs.Nodup) (nm : ms.Nodup) (st : V → St) (sx : R → St) (h0 : σ = st v0)
    (round : ∀ l v x z f', f.round p (enc x) = f' → step v x = some z → (∀ r, z = .inr r → y = .inr r) → Run P (E.inRd l) assign f' (st v) (Post.then (fun _ _ _ => False) fun f' σ' => Run P (E.inRd l) body f' σ' (roundA (fun σ => ∃ v', z = .inl v' ∧ σ.only bs ms = st v') (fun e σ => e = .ret ∧ ∃ r, y = .inr r ∧ σ.only bs ms = sx r))))
    (hdone : ∀ D v, y = .inl v → Q .normal (aroundA f D) (behindA D .empty (st v))) (hstop : ∀ D r, y = .inr r → Q .ret (aroundA f D) (behindA D .empty (sx r))) : Run P E (.rangeFunc gop #[p] assign body) f σ Q := by
  subst h0
  refine Run.forL hE hrd hit hF hg hp hxs (st v0) .empty (by simp [St.empty]) (by simp [St.empty]) (fun v σ => σ = st v) (fun e σ => e = .ret ∧ ∃ r, y = .inr r ∧ σ = sx r) rfl ?_ ?_ ?_
  · rintro l v x z σ rfl hz hr
    refine Run.mono (round l v x z _ rfl hz hr) fun e f' σ' h => ?_
    cases e with
    | normal =>
      refine Run.postOnly bs ms nb nm (Run.mono h fun e f2 σ2 h2 => ?_)
      cases e with
      | normal => exact h2
      | ret => exact h2
      | exit id => exact absurd h2.1 (by simp)
      | _ => exact h2
    | _ => exact h
  · rintro D v σ' hy rfl; exact hdone D v hy
  · rintro D e σ' ⟨rfl, r, hy, rfl⟩; exact hstop D r hy
end
/-- A condition that stays as it is written: what depends on it keeps it. -/
structure Wit (b : Bool) : Type where
def gd (b : Bool) (_ : Wit b) : Bool := b
@[simp] theorem gd_true (w : Wit true) : gd true w = true := rfl
theorem andI {a b : Bool} (h : a = true) (h2 : b = true) : (a && b) = true := by rw [h, h2]; rfl
theorem norI {a b : Bool} (h : (!a) = true) (h2 : (!b) = true) : (!(a || b)) = true := by cases a <;> simp_all
theorem nnI {a : Bool} (h : a = true) : (!(!a)) = true := by rw [h]; rfl
theorem and1 {a b : Bool} (h : (a && b) = true) : a = true := by cases a <;> simp_all
theorem and2 {a b : Bool} (h : (a && b) = true) : b = true := by cases b <;> simp_all
theorem nor1 {a b : Bool} (h : (!(a || b)) = true) : (!a) = true := by cases a <;> simp_all
theorem nor2 {a b : Bool} (h : (!(a || b)) = true) : (!b) = true := by cases b <;> simp_all
theorem nnot {a : Bool} (h : (!(!a)) = true) : a = true := by cases a <;> simp_all
theorem notf {a : Bool} (h : a = false) : (!a) = true := by rw [h]; rfl
theorem RepL.unfull {w : World} {φ : Nat → Nat} {xs : List (List AV)} {post : List AV} : ∀ {pre : List AV} {vs : List Value}, RepL w φ (pre ++ .full xs :: post) vs → RepL w φ (pre ++ .list .none xs :: post) vs
  | [], vs, h => by
    obtain ⟨v, vs', rfl, h1, h2⟩ := h
    refine ⟨v, vs', rfl, ?_, h2⟩
    simp only [Rep] at h1 ⊢
    obtain ⟨A, n, rfl, e1, h⟩ := h1
    exact ⟨A, n, n, rfl, e1, Nat.le_refl _, h⟩
  | a :: pre, vs, h => by
    obtain ⟨v, vs', rfl, h1, h2⟩ := h
    exact ⟨v, vs', rfl, h1, RepL.unfull h2⟩
theorem PCall.unfull {P : Program} {E : Env} {fn : FuncId} {xs : List (List AV)} {pre post : List AV} {R : AV → Prop} (h : PCall P E fn (pre ++ .list .none xs :: post) R) : PCall P E fn (pre ++ .full xs :: post) R :=
  ⟨h.callable, fun w φ Ω vs h1 h2 => h.calls w φ Ω vs h1 h2.unfull⟩
/-- What a list's room is, is not told. -/
def uf : AV → AV
  | .agg cs => .agg (cs.map Av.unfull)
  | a => Av.unfull a
theorem Rep.uf {w : World} {φ : Nat → Nat} {x : AV} {v : Value} (h : Rep w φ x v) : Rep w φ (uf x) v := by
  cases x with
  | agg cs => simp only [Av.uf, Rep] at h ⊢; obtain ⟨vs, rfl, h⟩ := h; exact ⟨vs, rfl, h.map_of fun _ _ h => h.unfull⟩
  | _ => exact h.unfull
theorem PCall.uf {P : Program} {E : Env} {fn : FuncId} {args : List AV} {z : AV} (h : PCall P E fn args fun v => Av.uf v = z) : PCall P E fn args fun v => v = z :=
  ⟨h.callable, fun w φ Ω vs h1 h2 => (h.calls w φ Ω vs h1 h2).mono fun e w' ⟨v, φ', Ω', r, σ', k1, k2, k3, k4⟩ => ⟨v, φ', Ω', _, σ', k1, ⟨k2.1, k2.2⟩, k3.uf, k4⟩⟩
attribute [simp] uf unfull
theorem stripW_when {g : Bool} {a : AV} (h : g = true) : stripW (.when g a) = es a := by subst h; rfl
theorem evF_gx {E : Env} {f : Fm} {σ : St} {t e : TypeId} {l le : Lay} {len g : Nat} {i : Operand} {k : IntKind} {n : Int} {cs : List AV} (hl : E.lay t = some l) (hk : l.kind = .array len e) (hle : E.lay e = some le) (hi : evX E f i = .int k n) (h0 : 0 ≤ n) (h1 : n < (len : Int)) (hc : (E.glob g).drop (n.toNat * le.size) = cs) :
    evF E f σ (.indexAddr t (.global g) i) = some (.cptr cs) := by
  obtain ⟨z, s, ag, by_, kd⟩ := l
  simp only at hk
  subst hk
  have hg : evX E f (.global g) = .cptr (E.glob g) := rfl
  simp only [evF, hg, unfull, indexAddrA, hl, hi, hle, h0, h1, and_self, if_true, hc]
@[simp] theorem aput_nil {κ α : Type} [DecidableEq κ] (k : κ) (v : α) : aput [] k v = [(k, v)] := rfl
@[simp] theorem mS_mk {α : Type} (g : α → AV) (k : List UInt8) (v : α) : mS g (k, v) = (.str k, g v) := rfl
@[simp] theorem mI_mk {α : Type} (i : IntKind) (g : α → AV) (k : Int) (v : α) : mI i g (k, v) = (.int i k, g v) := rfl
@[simp] theorem knot_succ (n : FuncId) (caps : List AV) (k : Nat) : knot n caps (k + 1) = .cptr [.func n (caps ++ [knot n caps k])] := rfl
@[simp] theorem er_knot (n : FuncId) (caps : List AV) (k : Nat) : er (knot n caps k) = knot n caps k := by cases k <;> rfl
@[simp] theorem ec_knot (n : FuncId) (caps : List AV) (k : Nat) : ec (knot n caps k) = knot n caps k := by cases k <;> rfl
@[simp] theorem es_knot (n : FuncId) (caps : List AV) (k : Nat) : es (knot n caps k) = knot n caps k := by cases k <;> rfl
@[simp] theorem ers_knot (n : FuncId) (caps : List AV) (k : Nat) : ers (knot n caps k) = knot n caps k := by cases k <;> rfl
@[simp] theorem stripW_knot (n : FuncId) (caps : List AV) (k : Nat) : stripW (knot n caps k) = knot n caps k := by cases k <;> rfl
@[simp] theorem noCellC_knot (n : FuncId) (caps : List AV) (k : Nat) : noCellC (knot n caps k) = knot n caps k := by cases k <;> rfl
@[simp] theorem noCellV_knot (n : FuncId) (caps : List AV) (k : Nat) : noCellV (knot n caps k) = knot n caps k := by cases k <;> rfl
@[simp] theorem nn_knot (n : FuncId) (caps : List AV) (k : Nat) : nn (knot n caps k) = knot n caps k := by cases k <;> rfl
theorem itr_indK {A R : Type} {G : (A → Option R) → A → Option R} {C : Nat → A → R → Prop} (h : ∀ (k : Nat) (self : A → Option R), (∀ {a r}, self a = some r → C k a r) → ∀ {a r}, G self a = some r → C (k + 1) a r) :
    ∀ (n : Nat) {a : A} {r : R}, itr G n a = some r → C n a r
  | 0, _, _, e => by cases e
  | n + 1, _, _, e => h n (itr G n) (fun {a r} e => itr_indK h n e) e
attribute [simp] getM marked unmark frg1 frg frgS knotF delB aroundA behindA esS Fm.round ec es
end Go.Proofs.YtpjkepfplhllfaaDoor.Av
