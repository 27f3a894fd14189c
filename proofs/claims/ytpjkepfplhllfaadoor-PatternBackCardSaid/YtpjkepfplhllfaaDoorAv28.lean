/-
What comes in is read as values: what a reading of memory says of the abstract values.
-/
import Derived.Test.YtpjkepfplhllfaaDoorAv27
import Derived.ProofKit
import Derived.OpenShut
import Derived.DataReads
import Derived.Carry
import Derived.FnData
import Derived.Below
namespace Go.Proofs.YtpjkepfplhllfaaDoor.Av
set_option linter.unusedSimpArgs false
set_option linter.unusedVariables false
open Go

/-- All cells that are there stay. -/
def allC (w : World) : Nat → Nat := fun b => match w.heap[b]? with | some (.cells c _ _) => c.size | _ => 0
theorem allC_lt {w : World} {b o : Nat} {u : Value} (h : w.cell? ⟨b, o, none⟩ = some u) : o < allC w b := by
  unfold World.cell? at h
  unfold allC
  split at h
  · rename_i c t fr hc
    simp only [Option.isSome_none, Bool.false_eq_true, if_false] at h
    simp only at hc
    rw [hc]
    exact (Array.getElem?_eq_some_iff.1 h).1
  · cases h

section
variable {H : Type} {en : TypeId × Value → H} {P : Program} {w : World}
/-- What type t reads as, at some fuel. -/
def RdAt (en : TypeId × Value → H) (P : Program) (w : World) (n : Nat) (t : TypeId) {α : Type} (row : α → List AV) (wf : α → Prop) : Prop :=
  ∀ sp hd cs d ps, DataW.trod en P w 0 sp hd n t cs = some (d, ps) → ∃ x : α, RepL w (allC w) (row x) cs ∧ wf x
theorem RdAt.zero {t : TypeId} {α : Type} {row : α → List AV} {wf : α → Prop} : RdAt en P w 0 t row wf := fun sp hd cs d ps h => by
  simp only [DataW.trod] at h; cases h
theorem RdAt.conv {n : Nat} {t : TypeId} {α β : Type} {row : α → List AV} {wf : α → Prop} {row' : β → List AV} {wf' : β → Prop} (h : RdAt en P w n t row wf) (g : α → β) (hr : ∀ x, row' (g x) = row x) (hw : ∀ x, wf x → wf' (g x)) : RdAt en P w n t row' wf' := fun sp hd cs d ps e => by
  obtain ⟨x, h1, h2⟩ := h sp hd cs d ps e
  exact ⟨g x, by rw [hr]; exact h1, hw x h2⟩
/-- A number of its kind. -/
def inK (k : IntKind) (n : Int) : Prop := k.min ≤ n ∧ n ≤ k.max
theorem RdAt.int {k : IntKind} {t : TypeId} (hu : P.underlying t = some (.int k)) (n : Nat) : RdAt en P w n t (fun x : Int => [.int k x]) (inK k) := by
  intro sp hd cs d ps h
  cases n with
  | zero => simp only [DataW.trod] at h; cases h
  | succ n =>
    unfold DataW.trod at h
    rw [hu] at h
    split at h
    all_goals first | (rename_i e; cases e) | skip
    all_goals first | (cases h; done) | skip
    all_goals try contradiction
    rename_i k' m
    split at h
    · rename_i hh
      obtain ⟨rfl, hw⟩ := hh
      simp only [Lit.wf, Bool.and_eq_true, decide_eq_true_eq] at hw
      exact ⟨m, ⟨_, [], rfl, by simp only [Rep], by simp only [RepL]⟩, hw⟩
    · cases h
theorem RdAt.bool {t : TypeId} (hu : P.underlying t = some .bool) (n : Nat) : RdAt en P w n t (fun x : Bool => [.bool x]) (fun _ => True) := by
  intro sp hd cs d ps h
  cases n with
  | zero => simp only [DataW.trod] at h; cases h
  | succ n =>
    unfold DataW.trod at h
    rw [hu] at h
    split at h
    all_goals first | (rename_i e; cases e) | skip
    all_goals first | (cases h; done) | skip
    all_goals try contradiction
    rename_i m
    exact ⟨m, ⟨_, [], rfl, by simp only [Rep], by simp only [RepL]⟩, trivial⟩
theorem RdAt.str {t : TypeId} (hu : P.underlying t = some .string) (n : Nat) : RdAt en P w n t (fun x : List UInt8 => [.str x]) (fun x => x.length ≤ maxLen) := by
  intro sp hd cs d ps h
  cases n with
  | zero => simp only [DataW.trod] at h; cases h
  | succ n =>
    unfold DataW.trod at h
    rw [hu] at h
    split at h
    all_goals first | (rename_i e; cases e) | skip
    all_goals first | (cases h; done) | skip
    all_goals try contradiction
    rename_i m
    split at h
    · rename_i hh
      refine ⟨m.data.toList, ⟨_, [], rfl, ?_, by simp only [RepL]⟩, by show m.data.toList.length ≤ maxLen; rw [Array.length_toList]; exact hh⟩
      simp only [Rep]
    · cases h
theorem cells_get {a : Addr} {n : Nat} {l : List Value} (h : w.cells? 0 a n = some l) : l.length = n ∧ ∀ j, j < n → w.cell? (a.add j) = l[j]? := by
  unfold World.cells? at h
  rw [if_pos (Nat.zero_le _)] at h
  have hl := mapM_some_length h
  rw [List.length_range] at hl
  exact ⟨hl, fun j hj => mapM_some_get h j j (by simp [hj])⟩
theorem repAt_of {b : Nat} : ∀ {cs : List AV} {vs : List Value} (o : Nat), RepL w (allC w) cs vs → (∀ j, j < vs.length → w.cell? ⟨b, o + j, none⟩ = vs[j]?) → RepAt w (allC w) b o cs
  | [], _, _, _, _ => by simp only [RepAt]
  | c :: cs, vs, o, h, hc => by
    simp only [RepL] at h
    obtain ⟨v, vs', rfl, h1, h2⟩ := h
    have h0 := hc 0 (by simp)
    simp only [Nat.add_zero, List.getElem?_cons_zero] at h0
    simp only [RepAt]
    refine ⟨allC_lt h0, ⟨v, h0, h1⟩, repAt_of (o + 1) h2 fun j hj => ?_⟩
    have := hc (j + 1) (by simpa using hj)
    rw [show o + 1 + j = o + (j + 1) by omega, this]
    rfl
theorem RdAt.slice {t e : TypeId} {α : Type} {row : α → List AV} {wf : α → Prop} {sz : Nat} {n : Nat} (h : RdAt en P w n e row wf) (hu : P.underlying t = some (.slice e)) (hc : P.cellsOf e = sz) (hz : 0 < sz) (hl : ∀ x, (row x).length = sz) :
    RdAt en P w (n + 1) t (fun xs : List α => [.list .none (xs.map row)]) (fun xs => xs.length ≤ maxLen ∧ ∀ x ∈ xs, wf x) := by
  intro sp hd cs d ps hh
  unfold DataW.trod at hh
  rw [hu] at hh
  split at hh
  all_goals first | (rename_i e; cases e; done) | skip
  all_goals first | (cases hh; done) | skip
  all_goals try contradiction
  · refine ⟨[], ⟨_, [], rfl, ?_, by simp only [RepL]⟩, by simp⟩
    simp only [Rep]
    exact ⟨none, 0, 0, rfl, rfl, Nat.le_refl _, .inl rfl⟩
  · rename_i e' a len cap he
    cases he
    simp only [hc] at hh
    split at hh
    · rename_i hcond
      obtain ⟨elems, hel, _⟩ := Option.bind_eq_some_iff.1 hh
      have hlen := mapM_some_length hel
      rw [List.length_range] at hlen
      have one : ∀ i, i < len → ∃ x, wf x ∧ RepAt w (allC w) a.block (a.off + i * sz) (row x) := fun i hi => by
        have hi' := mapM_some_get hel i i (by simp [hi])
        rw [List.getElem?_eq_getElem (by omega)] at hi'
        obtain ⟨l, hl1, hl2⟩ := Option.bind_eq_some_iff.1 hi'
        obtain ⟨hll, hget⟩ := cells_get hl1
        obtain ⟨x, hx, hw⟩ := h _ _ _ _ _ hl2
        refine ⟨x, hw, repAt_of _ hx fun j hj => ?_⟩
        rw [← hget j (by omega)]
        have hsp : ∃ u, w.cell? (a.add (i * sz)) = some u := by
          have h0 := hget 0 hz
          rw [List.getElem?_eq_getElem (by omega)] at h0
          have e0 : (a.add (i * sz)).add 0 = a.add (i * sz) := by unfold Addr.add; simp
          rw [e0] at h0
          exact ⟨_, h0⟩
        obtain ⟨u, hu'⟩ := hsp
        congr 1
        have hspot : (a.add (i * sz)).spot = none := by
          unfold World.cell? at hu'
          split at hu'
          · cases hs : (a.add (i * sz)).spot with
            | none => rfl
            | some q => rw [hs] at hu'; simp at hu'
          · cases hu'
        obtain ⟨ab, ao, asp⟩ := a
        unfold Addr.add at hspot ⊢
        by_cases hz0 : i * sz = 0
        · rw [if_pos hz0] at hspot
          simp only at hspot
          subst hspot
          simp only [hz0, if_true, Nat.add_zero]
          by_cases hj0 : j = 0
          · simp [hj0]
          · rw [if_neg hj0]
        · simp only [if_neg hz0]
          by_cases hj0 : j = 0
          · simp [hj0]
          · rw [if_neg hj0]
      have all : ∀ m, m ≤ len → ∃ xs : List α, xs.length = m ∧ (∀ x ∈ xs, wf x) ∧ RepRows w (allC w) a.block sz (a.off + (len - m) * sz) (xs.map row) := by
        intro m
        induction m with
        | zero => intro _; exact ⟨[], rfl, by simp, by simp only [List.map_nil, RepRows]⟩
        | succ m ih =>
          intro hm
          obtain ⟨xs, h1, h2, h3⟩ := ih (by omega)
          obtain ⟨x, hx1, hx2⟩ := one (len - (m + 1)) (by omega)
          refine ⟨x :: xs, by simp [h1], by simpa using ⟨hx1, h2⟩, ?_⟩
          simp only [List.map_cons, RepRows]
          refine ⟨hl x, hx2, ?_⟩
          rw [show a.off + (len - (m + 1)) * sz + sz = a.off + (len - m) * sz by
            rw [show len - m = (len - (m + 1)) + 1 by omega, Nat.add_mul]; omega]
          exact h3
      obtain ⟨xs, h1, h2, h3⟩ := all len (Nat.le_refl _)
      rw [Nat.sub_self, Nat.zero_mul, Nat.add_zero] at h3
      refine ⟨xs, ⟨_, [], rfl, ?_, by simp only [RepL]⟩, by omega, h2⟩
      simp only [Rep]
      refine ⟨some a, len, cap, rfl, by simpa using h1, hcond.2.1, ?_⟩
      by_cases h0 : len = 0
      · left; subst h0; simp [List.length_eq_zero_iff.1 h1]
      · right
        obtain ⟨x, _, hx2⟩ := one 0 (by omega)
        have hspot : a.spot = none := by
          have hi' := mapM_some_get hel 0 0 (by rw [List.getElem?_range (by omega)])
          rw [List.getElem?_eq_getElem (by omega)] at hi'
          obtain ⟨l, hl1, hl2⟩ := Option.bind_eq_some_iff.1 hi'
          obtain ⟨hll, hget⟩ := cells_get hl1
          have h0 := hget 0 hz
          rw [List.getElem?_eq_getElem (by omega)] at h0
          have e0 : (a.add (0 * sz)).add 0 = a := by unfold Addr.add; simp
          rw [e0] at h0
          unfold World.cell? at h0
          split at h0
          · cases hs : a.spot with
            | none => rfl
            | some q => rw [hs] at h0; simp at h0
          · cases h0
        obtain ⟨ab, ao, asp⟩ := a
        simp only at hspot
        subst hspot
        exact ⟨ab, ao, sz, rfl, h3⟩
    · cases hh
/-- What the fields of a struct read as, from an offset on. -/
def RdFs (en : TypeId × Value → H) (P : Program) (w : World) (n off : Nat) (fs : List Field) {α : Type} (row : α → List AV) (wf : α → Prop) : Prop :=
  ∀ sp hd (cs : List Value) xs, (fs.mapM fun f => DataW.trod en P w 0 sp hd n f.type ((cs.drop f.offset).take (P.cellsOf f.type))) = some xs → (∃ x : α, (row x).length + off = cs.length) → ∃ x : α, RepL w (allC w) (row x) (cs.drop off) ∧ wf x
theorem RdFs.nil {n off : Nat} : RdFs en P w n off [] (fun _ : Unit => []) (fun _ => True) := by
  intro sp hd cs xs _ ⟨_, hl⟩
  refine ⟨(), ?_, trivial⟩
  rw [List.drop_of_length_le (by simp at hl; omega)]
  simp only [RepL]
theorem RdFs.cons {n off sz : Nat} {f : Field} {fs : List Field} {α β : Type} {row : α → List AV} {wf : α → Prop} {row' : β → List AV} {wf' : β → Prop} (h : RdAt en P w n f.type row wf) (hf : f.offset = off) (hc : P.cellsOf f.type = sz) (hl : ∀ x, (row x).length = sz) (k : RdFs en P w n (off + sz) fs row' wf') :
    RdFs en P w n off (f :: fs) (fun p : α × β => row p.1 ++ row' p.2) (fun p => wf p.1 ∧ wf' p.2) := by
  intro sp hd cs xs hm ⟨p, hp⟩
  rw [List.mapM_cons] at hm
  obtain ⟨a, ha, hm⟩ := Option.bind_eq_some_iff.1 hm
  obtain ⟨as, has, _⟩ := Option.bind_eq_some_iff.1 hm
  obtain ⟨d, q⟩ := a
  obtain ⟨x, hx, hw⟩ := h _ _ _ _ _ ha
  rw [List.length_append, hl] at hp
  obtain ⟨y, hy, hw'⟩ := k _ _ _ _ has ⟨p.2, by omega⟩
  refine ⟨(x, y), ?_, hw, hw'⟩
  rw [hf, hc] at hx
  have := RepL.append hx hy
  rwa [← List.drop_drop, List.take_append_drop] at this
theorem RdAt.struct {t : TypeId} {fs : Array Field} {α : Type} {row : α → List AV} {wf : α → Prop} {n sz : Nat} (h : RdFs en P w n 0 fs.toList row wf) (hu : P.underlying t = some (.struct fs)) (hc : P.cellsOf t = sz) (hl : ∀ x, (row x).length = sz) (x0 : α) : RdAt en P w (n + 1) t row wf := by
  intro sp hd cs d ps hh
  unfold DataW.trod at hh
  rw [hu] at hh
  split at hh
  all_goals first | (rename_i e; cases e; done) | skip
  all_goals first | (cases hh; done) | skip
  all_goals try (exact (‹∀ fs' : Array Field, some (TypeDesc.struct fs) = some (TypeDesc.struct fs') → False› fs rfl).elim)
  rename_i fs' cs' e
  cases e
  split at hh
  · rename_i hlen
    obtain ⟨xs, hxs, _⟩ := Option.map_eq_some_iff.1 hh
    obtain ⟨x, h1, h2⟩ := h _ _ _ _ hxs ⟨x0, by rw [hl, hlen, hc]; omega⟩
    exact ⟨x, h1, h2⟩
  · cases hh
/-! What a table that the program lays holds. -/
mutual
def rowD : DataW H → List AV
  | .lit (.bool b) => [.bool b]
  | .lit (.int k n) => [.int k n]
  | .lit (.string s) => [.str s]
  | .agg l => rowsD l
  | _ => []
def rowsD : List (DataW H) → List AV
  | [] => []
  | d :: l => rowD d ++ rowsD l
end
def LdAt (en : TypeId × Value → H) (P : Program) (w : World) (n : Nat) (t : TypeId) : Prop :=
  ∀ sp hd cs d ps, DataW.trod en P w 0 sp hd n t cs = some (d, ps) → RepL w (allC w) (rowD d) cs
theorem LdAt.int {k : IntKind} {t : TypeId} (hu : P.underlying t = some (.int k)) (n : Nat) : LdAt en P w n t := by
  intro sp hd cs d ps h
  cases n with
  | zero => simp only [DataW.trod] at h; cases h
  | succ n =>
    unfold DataW.trod at h
    rw [hu] at h
    split at h
    all_goals first | (rename_i e; cases e) | skip
    all_goals first | (cases h; done) | skip
    all_goals try contradiction
    split at h
    · rename_i hh
      obtain ⟨rfl, hw⟩ := hh
      simp only [Option.some.injEq, Prod.mk.injEq] at h
      obtain ⟨rfl, _⟩ := h
      exact ⟨_, [], rfl, by simp only [Rep], by simp only [RepL]⟩
    · cases h
theorem LdAt.str {t : TypeId} (hu : P.underlying t = some .string) (n : Nat) : LdAt en P w n t := by
  intro sp hd cs d ps h
  cases n with
  | zero => simp only [DataW.trod] at h; cases h
  | succ n =>
    unfold DataW.trod at h
    rw [hu] at h
    split at h
    all_goals first | (rename_i e; cases e) | skip
    all_goals first | (cases h; done) | skip
    all_goals try contradiction
    split at h
    · simp only [Option.some.injEq, Prod.mk.injEq] at h
      obtain ⟨rfl, _⟩ := h
      exact ⟨_, [], rfl, by simp only [Rep], by simp only [RepL]⟩
    · cases h
def LdFs (en : TypeId × Value → H) (P : Program) (w : World) (n off : Nat) (fs : List Field) (tot : Nat) : Prop :=
  ∀ sp hd (cs : List Value) xs, (fs.mapM fun f => DataW.trod en P w 0 sp hd n f.type ((cs.drop f.offset).take (P.cellsOf f.type))) = some xs → cs.length = tot → RepL w (allC w) (rowsD (xs.map (·.1))) (cs.drop off)
theorem LdFs.nil {n tot : Nat} : LdFs en P w n tot [] tot := by
  intro sp hd cs xs h hl
  simp only [List.mapM_nil] at h
  cases h
  rw [List.drop_of_length_le (by omega)]
  simp only [List.map_nil, rowsD, RepL]
theorem LdFs.cons {n off sz tot : Nat} {f : Field} {fs : List Field} (h : LdAt en P w n f.type) (hf : f.offset = off) (hc : P.cellsOf f.type = sz) (k : LdFs en P w n (off + sz) fs tot) : LdFs en P w n off (f :: fs) tot := by
  intro sp hd cs xs hm hl
  rw [List.mapM_cons] at hm
  obtain ⟨a, ha, hm⟩ := Option.bind_eq_some_iff.1 hm
  obtain ⟨as, has, hm⟩ := Option.bind_eq_some_iff.1 hm
  cases hm
  obtain ⟨d, q⟩ := a
  have hx := h _ _ _ _ _ ha
  have hy := k _ _ _ _ has hl
  rw [hf, hc] at hx
  have := RepL.append hx hy
  rw [← List.drop_drop, List.take_append_drop] at this
  simpa only [List.map_cons, rowsD] using this
theorem LdAt.struct {t : TypeId} {fs : Array Field} {n sz : Nat} (h : LdFs en P w n 0 fs.toList sz) (hu : P.underlying t = some (.struct fs)) (hc : P.cellsOf t = sz) : LdAt en P w (n + 1) t := by
  intro sp hd cs d ps hh
  unfold DataW.trod at hh
  rw [hu] at hh
  split at hh
  all_goals first | (rename_i e; cases e; done) | skip
  all_goals first | (cases hh; done) | skip
  all_goals try (exact (‹∀ fs' : Array Field, some (TypeDesc.struct fs) = some (TypeDesc.struct fs') → False› fs rfl).elim)
  rename_i fs' cs' e
  cases e
  split at hh
  · rename_i hlen
    obtain ⟨xs, hxs, hd'⟩ := Option.map_eq_some_iff.1 hh
    cases hd'
    exact h _ _ _ _ hxs (by rw [hlen, hc])
  · cases hh
theorem LdAt.array {t e : TypeId} {m n sz : Nat} (h : LdAt en P w n e) (hu : P.underlying t = some (.array m e)) (hc : P.cellsOf t = m * sz) (hs : P.cellsOf e = sz) : LdAt en P w (n + 1) t := by
  intro sp hd cs d ps hh
  unfold DataW.trod at hh
  rw [hu] at hh
  split at hh
  all_goals first | (rename_i e; cases e; done) | skip
  all_goals first | (cases hh; done) | skip
  all_goals try (exact (‹∀ (n' : Nat) (e' : TypeId), some (TypeDesc.array m e) = some (TypeDesc.array n' e') → False› m e rfl).elim)
  rename_i cs' _ _ _ _ ee
  cases ee
  split at hh
  · rename_i hlen
    obtain ⟨xs, hxs, hd'⟩ := Option.map_eq_some_iff.1 hh
    cases hd'
    simp only [rowD]
    rw [hc] at hlen
    have hlx := mapM_some_length hxs
    rw [List.length_range] at hlx
    have one : ∀ i (hi : i < xs.length), RepL w (allC w) (rowD xs[i].1) ((cs'.drop (i * sz)).take sz) := fun i hi => by
      have := mapM_some_get hxs i i (by rw [List.getElem?_range (by omega)])
      rw [List.getElem?_eq_getElem hi, hs] at this
      exact h _ _ _ _ _ this
    have key : ∀ (ys : List (DataW H × List MemPlace)) (i : Nat), ys = xs.drop i → RepL w (allC w) (rowsD (ys.map (·.1))) (cs'.drop (i * sz)) := by
      intro ys
      induction ys with
      | nil =>
        intro i hi
        have : xs.length ≤ i := by
          have := congrArg List.length hi
          simp only [List.length_nil, List.length_drop] at this
          omega
        rw [List.drop_of_length_le (by rw [hlen, ← hlx]; exact Nat.mul_le_mul_right _ this)]
        simp only [List.map_nil, rowsD, RepL]
      | cons y ys ih =>
        intro i hi
        have hlt : i < xs.length := by
          have := congrArg List.length hi
          simp only [List.length_cons, List.length_drop] at this
          omega
        have hy : y = xs[i] ∧ ys = xs.drop (i + 1) := by
          rw [List.drop_eq_getElem_cons hlt] at hi
          injection hi with h1 h2
          exact ⟨h1, h2⟩
        have h1 := one i hlt
        have h2 := ih (i + 1) hy.2
        rw [← hy.1] at h1
        have := RepL.append h1 h2
        rw [Nat.add_mul, Nat.one_mul, ← List.drop_drop, List.take_append_drop] at this
        simpa only [List.map_cons, rowsD] using this
    simpa using key xs 0 (by simp)
  · cases hh
/-- One table that is laid. -/
theorem glob_of_laid {W : World} {n : String} {dd : DataW Unit} {g : Nat} {t : TypeId} (h : laidMetH P [(n, dd)] W) (hn : dd.handleName?.isSome = false) (hg : P.globalNamed n = some g) (ht : (P.globals[g]?).map (·.type) = some t) (hr : ∀ f (en : TypeId × Value → Unit), LdAt en P W f t) : RepAt W (allC W) g 0 (rowD dd) := by
  unfold laidMetH at h
  simp only [List.filter_cons, hn, Bool.false_eq_true, if_false, List.filter_nil] at h
  obtain ⟨ps, ⟨g0, t0, cs0, f0, p0, q0, hg0, ht0, hv0, hd0, _⟩, _⟩ := h
  obtain rfl := Option.some.inj (hg.symm.trans hg0)
  obtain rfl := Option.some.inj (ht.symm.trans ht0)
  have := hr _ _ _ _ _ _ _ hd0
  refine repAt_of 0 this fun j hj => ?_
  rw [Nat.zero_add, World.var?_cell hg0 hv0 j]
  simp
theorem ss_start {E : Env} {W : World} (h : ∀ g, RepAt W (allC W) g 0 (E.glob g)) : SS E W (allC W) [] .empty := by
  refine ⟨(fun b cs hm => by simp at hm), (fun b l hm => by simp at hm), (fun x hx => by cases hx), List.nodup_nil, by simp [owned, St.empty], h, fun b hb => ?_⟩
  unfold allC
  rw [Array.getElem?_eq_none hb]
theorem below_of {W W' : World} {φ φ' : Nat → Nat} (h : Since ⟨W, φ, owned [] .empty⟩ W' φ') : Go.RowKit.Below W.heap.size W W' :=
  ⟨h.os, h.tape, h.output, h.size, fun k hk => (h.block k hk (by simp [owned, St.empty])).1⟩
theorem RepL.only {φ : Nat → Nat} {x : AV} {v : Value} (h : RepL w φ [x] [v]) : Rep w φ x v := by
  simp only [RepL] at h
  obtain ⟨u, us, e, h1, h2⟩ := h
  injection e with e1 e2
  rw [e1]; exact h1
end
end Go.Proofs.YtpjkepfplhllfaaDoor.Av
