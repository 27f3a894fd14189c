/-
Abstract values, and the relation between them and the model's values.
-/
import Derived.Orders
import Derived.Laws.AppendOwn
import Derived.Laws.Entries
import Derived.Laws.Tables
import Derived.Laws.IdiomCopy
import Derived.KernelRfl
namespace Go.Proofs.YtpjkepfplhllfaaDoor.Av
set_option linter.unusedSimpArgs false
set_option linter.unusedVariables false
open Go

/-- Which variable may grow an array: a slot of the frame, or a cell of a box. -/
inductive Tag where
  | none
  | slot (n : Nat)
  | cell (b o : Nat)
  deriving DecidableEq

/-- Abstract values: slices are lists of rows of cells, structs are lists of cells. -/
inductive AV where
  | any
  | bool (b : Bool)
  | int (k : IntKind) (n : Int)
  | str (s : List UInt8)
  | ptr (b o : Nat)
  | nilp
  | cptr (cs : List AV)
  | list (t : Tag) (xs : List (List AV))
  | grow (sz : Nat) (xs : List (List AV))
  | nils
  | map (b : Nat)
  | nilm
  | func (f : Nat) (caps : List AV)
  | nilf
  | agg (cs : List AV)
  | tup (cs : List AV)
  | val (v : Value)
  | full (xs : List (List AV))
  | when (g : Bool) (a : AV)

instance : Inhabited AV := ⟨.any⟩

section
variable (w : World) (φ : Nat → Nat)
mutual
/-- The model's value v stands for the abstract value. φ b: how many cells of block b, from its begin on, will never change. -/
def Rep : AV → Value → Prop
  | .any, _ => True
  | .bool b, v => v = .bool b
  | .int k n, v => v = .int k n
  | .str s, v => v = .string ⟨s.toArray⟩
  | .ptr b o, v => v = .pointer (some ⟨b, o, .none⟩)
  | .nilp, v => v = .pointer .none
  | .cptr cs, v => ∃ b o, v = .pointer (some ⟨b, o, .none⟩) ∧ RepAt b o cs
  | .list _ xs, v => ∃ A n c, v = .slice A n c ∧ xs.length = n ∧ n ≤ c ∧ (xs = [] ∨ ∃ b o sz, A = some ⟨b, o, .none⟩ ∧ RepRows b sz o xs)
  | .grow _ xs, v => ∃ A n c, v = .slice A n c ∧ xs.length = n ∧ n ≤ c ∧ (xs = [] ∨ ∃ b o sz, A = some ⟨b, o, .none⟩ ∧ RepRows b sz o xs)
  | .nils, v => v = .slice .none 0 0
  | .map b, v => v = .map (some b)
  | .nilm, v => v = .map .none
  | .func f caps, v => ∃ vs : List Value, v = .func (.func f) #[] vs.toArray ∧ RepL caps vs
  | .nilf, v => v = .nilFunc
  | .agg cs, v => ∃ vs : List Value, v = .agg vs.toArray ∧ RepL cs vs
  | .tup cs, v => ∃ vs : List Value, v = .tuple vs.toArray ∧ RepL cs vs
  | .val u, v => v = u
  | .full xs, v => ∃ A n, v = .slice A n n ∧ xs.length = n ∧ (xs = [] ∨ ∃ b o sz, A = some ⟨b, o, .none⟩ ∧ RepRows b sz o xs)
  | .when g a, v => (g = true → Rep a v) ∧ (g = false → v = undef)
def RepL : List AV → List Value → Prop
  | [], vs => vs = []
  | c :: cs, vs => ∃ v vs', vs = v :: vs' ∧ Rep c v ∧ RepL cs vs'
def RepAt (b o : Nat) : List AV → Prop
  | [] => True
  | c :: cs => o < φ b ∧ (∃ u, w.cell? ⟨b, o, .none⟩ = some u ∧ Rep c u) ∧ RepAt b (o + 1) cs
def RepRows (b sz o : Nat) : List (List AV) → Prop
  | [] => True
  | x :: xs => x.length = sz ∧ RepAt b o x ∧ RepRows b sz (o + sz) xs
end
end

/-- What will never change has not changed, and goes on being promised. -/
def Ext (w : World) (φ : Nat → Nat) (w' : World) (φ' : Nat → Nat) : Prop :=
  ∀ b o, o < φ b → o < φ' b ∧ w'.cell? ⟨b, o, none⟩ = w.cell? ⟨b, o, none⟩

theorem Ext.refl (w : World) (φ : Nat → Nat) : Ext w φ w φ := fun _ _ h => ⟨h, rfl⟩
theorem Ext.trans {w w' w'' : World} {φ φ' φ'' : Nat → Nat} (h : Ext w φ w' φ') (k : Ext w' φ' w'' φ'') : Ext w φ w'' φ'' :=
  fun b o ho => let ⟨h1, h2⟩ := h b o ho; let ⟨k1, k2⟩ := k b o h1; ⟨k1, k2.trans h2⟩

section
variable {w w' : World} {φ φ' : Nat → Nat}
mutual
theorem Rep.mono (H : Ext w φ w' φ') : ∀ (a : AV) (v : Value), Rep w φ a v → Rep w' φ' a v
  | .any, _, _ => by simp only [Rep]
  | .bool _, _, h => by simp only [Rep] at h ⊢; exact h
  | .int _ _, _, h => by simp only [Rep] at h ⊢; exact h
  | .str _, _, h => by simp only [Rep] at h ⊢; exact h
  | .ptr _ _, _, h => by simp only [Rep] at h ⊢; exact h
  | .nilp, _, h => by simp only [Rep] at h ⊢; exact h
  | .cptr cs, _, h => by
    simp only [Rep] at h ⊢
    obtain ⟨b, o, rfl, h⟩ := h
    exact ⟨b, o, rfl, RepAt.mono H cs b o h⟩
  | .list _ xs, _, h => by
    simp only [Rep] at h ⊢
    obtain ⟨A, n, c, rfl, h1, h2, h3⟩ := h
    refine ⟨A, n, c, rfl, h1, h2, ?_⟩
    rcases h3 with h3 | ⟨b, o, sz, rfl, h3⟩
    · exact .inl h3
    · exact .inr ⟨b, o, sz, rfl, RepRows.mono H xs b sz o h3⟩
  | .grow _ xs, _, h => by
    simp only [Rep] at h ⊢
    obtain ⟨A, n, c, rfl, h1, h2, h3⟩ := h
    refine ⟨A, n, c, rfl, h1, h2, ?_⟩
    rcases h3 with h3 | ⟨b, o, sz, rfl, h3⟩
    · exact .inl h3
    · exact .inr ⟨b, o, sz, rfl, RepRows.mono H xs b sz o h3⟩
  | .nils, _, h => by simp only [Rep] at h ⊢; exact h
  | .map _, _, h => by simp only [Rep] at h ⊢; exact h
  | .nilm, _, h => by simp only [Rep] at h ⊢; exact h
  | .func _ caps, _, h => by
    simp only [Rep] at h ⊢
    obtain ⟨vs, rfl, h⟩ := h
    exact ⟨vs, rfl, RepL.mono H caps vs h⟩
  | .nilf, _, h => by simp only [Rep] at h ⊢; exact h
  | .agg cs, _, h => by
    simp only [Rep] at h ⊢
    obtain ⟨vs, rfl, h⟩ := h
    exact ⟨vs, rfl, RepL.mono H cs vs h⟩
  | .tup cs, _, h => by
    simp only [Rep] at h ⊢
    obtain ⟨vs, rfl, h⟩ := h
    exact ⟨vs, rfl, RepL.mono H cs vs h⟩
  | .val _, _, h => by simp only [Rep] at h ⊢; exact h
  | .full xs, _, h => by
    simp only [Rep] at h ⊢
    obtain ⟨A, n, rfl, h1, h3⟩ := h
    refine ⟨A, n, rfl, h1, ?_⟩
    rcases h3 with h3 | ⟨b, o, sz, rfl, h3⟩
    · exact .inl h3
    · exact .inr ⟨b, o, sz, rfl, RepRows.mono H xs b sz o h3⟩
  | .when g a, v, h => by simp only [Rep] at h ⊢; exact ⟨fun hg => Rep.mono H a v (h.1 hg), h.2⟩
theorem RepL.mono (H : Ext w φ w' φ') : ∀ (cs : List AV) (vs : List Value), RepL w φ cs vs → RepL w' φ' cs vs
  | [], _, h => by simp only [RepL] at h ⊢; exact h
  | c :: cs, _, h => by
    simp only [RepL] at h ⊢
    obtain ⟨v, vs', rfl, h1, h2⟩ := h
    exact ⟨v, vs', rfl, Rep.mono H c v h1, RepL.mono H cs vs' h2⟩
theorem RepAt.mono (H : Ext w φ w' φ') : ∀ (cs : List AV) (b o : Nat), RepAt w φ b o cs → RepAt w' φ' b o cs
  | [], _, _, _ => by simp only [RepAt]
  | c :: cs, b, o, h => by
    simp only [RepAt] at h ⊢
    obtain ⟨h1, ⟨u, h2, h3⟩, h4⟩ := h
    obtain ⟨k1, k2⟩ := H b o h1
    exact ⟨k1, ⟨u, k2.trans h2, Rep.mono H c u h3⟩, RepAt.mono H cs b (o + 1) h4⟩
theorem RepRows.mono (H : Ext w φ w' φ') : ∀ (xs : List (List AV)) (b sz o : Nat), RepRows w φ b sz o xs → RepRows w' φ' b sz o xs
  | [], _, _, _, _ => by simp only [RepRows]
  | x :: xs, b, sz, o, h => by
    simp only [RepRows] at h ⊢
    obtain ⟨h1, h2, h3⟩ := h
    exact ⟨h1, RepAt.mono H x b o h2, RepRows.mono H xs b sz (o + sz) h3⟩
end
end

section
variable {w : World} {φ : Nat → Nat}

theorem RepL.length : ∀ {cs : List AV} {vs : List Value}, RepL w φ cs vs → vs.length = cs.length
  | [], _, h => by simp only [RepL] at h; simp [h]
  | c :: cs, _, h => by
    simp only [RepL] at h
    obtain ⟨v, vs', rfl, _, h2⟩ := h
    simp [RepL.length h2]

theorem RepL.nil : RepL w φ [] [] := by simp only [RepL]
theorem RepL.cons {c : AV} {cs : List AV} {v : Value} {vs : List Value} (h : Rep w φ c v) (k : RepL w φ cs vs) : RepL w φ (c :: cs) (v :: vs) := by
  simp only [RepL]; exact ⟨v, vs, rfl, h, k⟩
theorem RepL.append : ∀ {cs ds : List AV} {vs us : List Value}, RepL w φ cs vs → RepL w φ ds us → RepL w φ (cs ++ ds) (vs ++ us)
  | [], _, _, _, h, k => by simp only [RepL] at h; subst h; exact k
  | c :: cs, _, _, _, h, k => by
    simp only [RepL] at h
    obtain ⟨v, vs', rfl, h1, h2⟩ := h
    exact RepL.cons h1 (RepL.append h2 k)
theorem RepL.get : ∀ {cs : List AV} {vs : List Value}, RepL w φ cs vs → ∀ {i : Nat} {c : AV}, cs[i]? = some c → ∃ v, vs[i]? = some v ∧ Rep w φ c v
  | [], _, _, _, _, hi => by simp at hi
  | c :: cs, _, h, i, d, hi => by
    simp only [RepL] at h
    obtain ⟨v, vs', rfl, h1, h2⟩ := h
    cases i with
    | zero => simp at hi; subst hi; exact ⟨v, rfl, h1⟩
    | succ i => simpa using RepL.get h2 (by simpa using hi)
theorem RepL.take : ∀ {cs : List AV} {vs : List Value} (n : Nat), RepL w φ cs vs → RepL w φ (cs.take n) (vs.take n)
  | [], _, n, h => by simp only [RepL] at h; subst h; simp [RepL]
  | c :: cs, _, n, h => by
    simp only [RepL] at h
    obtain ⟨v, vs', rfl, h1, h2⟩ := h
    cases n with
    | zero => simp [RepL]
    | succ n => exact RepL.cons h1 (RepL.take n h2)
theorem RepL.drop : ∀ {cs : List AV} {vs : List Value} (n : Nat), RepL w φ cs vs → RepL w φ (cs.drop n) (vs.drop n)
  | [], _, n, h => by simp only [RepL] at h; subst h; simp [RepL]
  | c :: cs, _, n, h => by
    have h0 := h
    simp only [RepL] at h
    obtain ⟨v, vs', rfl, h1, h2⟩ := h
    cases n with
    | zero => exact h0
    | succ n => simpa using RepL.drop n h2
theorem RepL.set : ∀ {cs : List AV} {vs : List Value} {i : Nat} {c : AV} {v : Value}, RepL w φ cs vs → Rep w φ c v → RepL w φ (cs.set i c) (vs.set i v)
  | [], _, _, _, _, h, _ => by simp only [RepL] at h; subst h; simp [RepL]
  | d :: cs, _, i, c, v, h, k => by
    simp only [RepL] at h
    obtain ⟨u, vs', rfl, h1, h2⟩ := h
    cases i with
    | zero => exact RepL.cons k h2
    | succ i => exact RepL.cons h1 (RepL.set h2 k)
theorem RepL.of_append : ∀ {cs ds : List AV} {vs : List Value}, RepL w φ (cs ++ ds) vs → ∃ us ts, vs = us ++ ts ∧ RepL w φ cs us ∧ RepL w φ ds ts
  | [], _, vs, h => ⟨[], vs, rfl, RepL.nil, h⟩
  | c :: cs, _, _, h => by
    simp only [List.cons_append, RepL] at h
    obtain ⟨v, vs', rfl, h1, h2⟩ := h
    obtain ⟨us, ts, rfl, h3, h4⟩ := RepL.of_append h2
    exact ⟨v :: us, ts, rfl, RepL.cons h1 h3, h4⟩

theorem RepAt.drop : ∀ {cs : List AV} {b o : Nat} (n : Nat), RepAt w φ b o cs → RepAt w φ b (o + n) (cs.drop n)
  | [], _, _, n, _ => by simp [RepAt]
  | c :: cs, b, o, n, h => by
    cases n with
    | zero => exact h
    | succ n =>
      simp only [RepAt] at h
      have := RepAt.drop n h.2.2
      simp only [List.drop_succ_cons]
      rwa [show o + (n + 1) = o + 1 + n by omega]
theorem RepAt.get : ∀ {cs : List AV} {b o : Nat}, RepAt w φ b o cs → ∀ {i : Nat} {c : AV}, cs[i]? = some c → o + i < φ b ∧ ∃ u, w.cell? ⟨b, o + i, none⟩ = some u ∧ Rep w φ c u
  | [], _, _, _, _, _, hi => by simp at hi
  | c :: cs, b, o, h, i, d, hi => by
    simp only [RepAt] at h
    cases i with
    | zero => simp at hi; subst hi; exact ⟨h.1, h.2.1⟩
    | succ i =>
      have := RepAt.get h.2.2 (i := i) (c := d) (by simpa using hi)
      rwa [show o + 1 + i = o + (i + 1) by omega] at this
/-- The cells that stand for a list of abstract cells. -/
theorem RepAt.vals : ∀ {cs : List AV} {b o : Nat}, RepAt w φ b o cs → ∃ vs : List Value, RepL w φ cs vs ∧ ∀ j u, vs[j]? = some u → w.cell? ⟨b, o + j, none⟩ = some u
  | [], _, _, _ => ⟨[], RepL.nil, by simp⟩
  | c :: cs, b, o, h => by
    simp only [RepAt] at h
    obtain ⟨_, ⟨u, h1, h2⟩, h3⟩ := h
    obtain ⟨vs, k1, k2⟩ := RepAt.vals h3
    refine ⟨u :: vs, RepL.cons h2 k1, fun j v hj => ?_⟩
    cases j with
    | zero => simp at hj; subst hj; exact h1
    | succ j => rw [show o + (j + 1) = o + 1 + j by omega]; exact k2 j v (by simpa using hj)
theorem RepAt.of_vals : ∀ {cs : List AV} {vs : List Value} {b o : Nat}, RepL w φ cs vs → o + vs.length ≤ φ b → (∀ j u, vs[j]? = some u → w.cell? ⟨b, o + j, none⟩ = some u) → RepAt w φ b o cs
  | [], _, _, _, _, _, _ => by simp only [RepAt]
  | c :: cs, _, b, o, h, hφ, hc => by
    simp only [RepL] at h
    obtain ⟨v, vs', rfl, h1, h2⟩ := h
    simp only [RepAt]
    simp only [List.length_cons] at hφ
    refine ⟨by omega, ⟨v, by simpa using hc 0 v rfl, h1⟩, RepAt.of_vals h2 (by omega) fun j u hj => ?_⟩
    rw [show o + 1 + j = o + (j + 1) by omega]
    exact hc (j + 1) u (by simpa using hj)

theorem RepRows.get : ∀ {xs : List (List AV)} {b sz o : Nat}, RepRows w φ b sz o xs → ∀ {i : Nat} {x : List AV}, xs[i]? = some x → x.length = sz ∧ RepAt w φ b (o + i * sz) x
  | [], _, _, _, _, _, _, hi => by simp at hi
  | x :: xs, b, sz, o, h, i, y, hi => by
    simp only [RepRows] at h
    cases i with
    | zero => simp at hi; subst hi; simpa using ⟨h.1, h.2.1⟩
    | succ i =>
      have := RepRows.get h.2.2 (i := i) (x := y) (by simpa using hi)
      rwa [show o + sz + i * sz = o + (i + 1) * sz by rw [Nat.add_mul]; omega] at this
theorem RepRows.drop : ∀ {xs : List (List AV)} {b sz o : Nat} (n : Nat), RepRows w φ b sz o xs → RepRows w φ b sz (o + n * sz) (xs.drop n)
  | [], _, _, _, n, _ => by simp [RepRows]
  | x :: xs, b, sz, o, n, h => by
    cases n with
    | zero => simpa using h
    | succ n =>
      simp only [RepRows] at h
      have := RepRows.drop n h.2.2
      simp only [List.drop_succ_cons]
      rwa [show o + (n + 1) * sz = o + sz + n * sz by rw [Nat.add_mul]; omega]
theorem RepRows.take : ∀ {xs : List (List AV)} {b sz o : Nat} (n : Nat), RepRows w φ b sz o xs → RepRows w φ b sz o (xs.take n)
  | [], _, _, _, n, _ => by simp [RepRows]
  | x :: xs, b, sz, o, n, h => by
    cases n with
    | zero => simp [RepRows]
    | succ n =>
      simp only [RepRows] at h
      simp only [List.take_succ_cons, RepRows]
      exact ⟨h.1, h.2.1, RepRows.take n h.2.2⟩
/-- All cells of a list of rows, in a row. -/
theorem RepRows.vals : ∀ {xs : List (List AV)} {b sz o : Nat}, RepRows w φ b sz o xs →
    ∃ vs : List Value, vs.length = xs.length * sz ∧ RepL w φ xs.flatten vs ∧ ∀ j u, vs[j]? = some u → w.cell? ⟨b, o + j, none⟩ = some u
  | [], _, _, _, _ => ⟨[], by simp, RepL.nil, by simp⟩
  | x :: xs, b, sz, o, h => by
    simp only [RepRows] at h
    obtain ⟨h1, h2, h3⟩ := h
    obtain ⟨us, k1, k2⟩ := RepAt.vals h2
    obtain ⟨vs, l0, l1, l2⟩ := RepRows.vals h3
    have hu : us.length = sz := by rw [k1.length, h1]
    refine ⟨us ++ vs, by simp [l0, hu, Nat.add_mul]; omega, RepL.append k1 l1, fun j u hj => ?_⟩
    rw [List.getElem?_append] at hj
    split at hj
    · exact k2 j u hj
    · rename_i hge
      have := l2 _ u hj
      rwa [show o + sz + (j - us.length) = o + j by omega] at this
theorem RepRows.of_vals : ∀ {xs : List (List AV)} {vs : List Value} {b sz o : Nat}, (∀ x ∈ xs, x.length = sz) → RepL w φ xs.flatten vs → o + vs.length ≤ φ b →
    (∀ j u, vs[j]? = some u → w.cell? ⟨b, o + j, none⟩ = some u) → RepRows w φ b sz o xs
  | [], _, _, _, _, _, _, _, _ => by simp only [RepRows]
  | x :: xs, vs, b, sz, o, hs, h, hφ, hc => by
    simp only [List.flatten_cons] at h
    obtain ⟨us, ts, rfl, h1, h2⟩ := RepL.of_append h
    have hx := hs x (by simp)
    have hu : us.length = sz := by rw [h1.length, hx]
    simp only [List.length_append] at hφ
    simp only [RepRows]
    refine ⟨hx, RepAt.of_vals h1 (by omega) fun j u hj => hc j u ?_, RepRows.of_vals (fun y hy => hs y (by simp [hy])) h2 (by omega) fun j u hj => ?_⟩
    · rw [List.getElem?_append_left]
      · exact hj
      · rcases Nat.lt_or_ge j us.length with h | h
        · exact h
        · rw [List.getElem?_eq_none h] at hj; simp at hj
    · rw [show o + sz + j = o + (sz + j) by omega]
      refine hc _ u ?_
      rw [List.getElem?_append_right (by omega)]
      rwa [show sz + j - us.length = j by omega]
end

/-- One cell, as far as the abstract value tells. -/
def AV.one : AV → Bool
  | .any | .agg _ | .tup _ | .when _ _ => false
  | .val v => v.oneCell'
  | _ => true
/-- The cells of a value. -/
def AV.cells : AV → List AV
  | .agg cs => cs
  | a => [a]
/-- A value as others see it: nobody else may grow its array. -/
def er : AV → AV
  | .list _ xs => .list .none xs
  | .grow _ xs => .list .none xs
  | .nils => .list .none []
  | a => a
/-- The same, but what is nil stays nil. -/
def ec : AV → AV
  | .list _ xs => .list .none xs
  | .grow _ xs => .list .none xs
  | a => a
def es : AV → AV
  | .agg cs => .agg (cs.map ec)
  | .tup cs => .tup (cs.map fun a => match a with | .agg ds => .agg (ds.map ec) | a => ec a)
  | .func f cs => .func f (cs.map ec)
  | a => ec a
def ers : AV → AV
  | .agg cs => .agg (cs.map er)
  | .tup cs => .tup (cs.map fun a => match a with | .agg ds => .agg (ds.map er) | a => er a)
  | .func f cs => .func f (cs.map er)
  | a => er a

section
variable {w : World} {φ : Nat → Nat}
theorem Rep.er {a : AV} {v : Value} (h : Rep w φ a v) : Rep w φ (er a) v := by
  cases a with
  | list t xs => simp only [Av.er, Rep] at h ⊢; exact h
  | grow _ xs => simp only [Av.er, Rep] at h ⊢; exact h
  | nils => simp only [Av.er, Rep] at h ⊢; exact ⟨_, _, _, h, rfl, Nat.le_refl _, by simp⟩
  | _ => exact h
theorem RepL.map_of {f : AV → AV} (hf : ∀ a v, Rep w φ a v → Rep w φ (f a) v) : ∀ {cs : List AV} {vs : List Value}, RepL w φ cs vs → RepL w φ (cs.map f) vs
  | [], _, h => h
  | c :: cs, _, h => by
    simp only [RepL] at h
    obtain ⟨v, vs', rfl, h1, h2⟩ := h
    exact RepL.cons (hf _ _ h1) (RepL.map_of hf h2)
theorem RepL.er {cs : List AV} {vs : List Value} (h : RepL w φ cs vs) : RepL w φ (cs.map er) vs := h.map_of fun _ _ h => h.er
theorem Rep.ers {a : AV} {v : Value} (h : Rep w φ a v) : Rep w φ (ers a) v := by
  cases a with
  | agg cs => simp only [Av.ers, Rep] at h ⊢; obtain ⟨vs, rfl, h⟩ := h; exact ⟨vs, rfl, h.er⟩
  | tup cs =>
    simp only [Av.ers, Rep] at h ⊢
    obtain ⟨vs, rfl, h⟩ := h
    refine ⟨vs, rfl, h.map_of fun a v h => ?_⟩
    split
    · simp only [Rep] at h ⊢; obtain ⟨vs, rfl, h⟩ := h; exact ⟨vs, rfl, h.er⟩
    · exact h.er
  | func f cs => simp only [Av.ers, Rep] at h ⊢; obtain ⟨vs, rfl, h⟩ := h; exact ⟨vs, rfl, h.er⟩
  | list t xs => exact h.er
  | grow _ xs => exact h.er
  | nils => exact h.er
  | _ => exact h
theorem Rep.ec {a : AV} {v : Value} (h : Rep w φ a v) : Rep w φ (ec a) v := by
  cases a with
  | list t xs => simp only [Av.ec, Rep] at h ⊢; exact h
  | grow _ xs => simp only [Av.ec, Rep] at h ⊢; exact h
  | _ => exact h
theorem RepL.ec {cs : List AV} {vs : List Value} (h : RepL w φ cs vs) : RepL w φ (cs.map ec) vs := h.map_of fun _ _ h => h.ec
theorem Rep.es {a : AV} {v : Value} (h : Rep w φ a v) : Rep w φ (es a) v := by
  cases a with
  | agg cs => simp only [Av.es, Rep] at h ⊢; obtain ⟨vs, rfl, h⟩ := h; exact ⟨vs, rfl, h.ec⟩
  | tup cs =>
    simp only [Av.es, Rep] at h ⊢
    obtain ⟨vs, rfl, h⟩ := h
    refine ⟨vs, rfl, h.map_of fun a v h => ?_⟩
    split
    · simp only [Rep] at h ⊢; obtain ⟨vs, rfl, h⟩ := h; exact ⟨vs, rfl, h.ec⟩
    · exact h.ec
  | func f cs => simp only [Av.es, Rep] at h ⊢; obtain ⟨vs, rfl, h⟩ := h; exact ⟨vs, rfl, h.ec⟩
  | list t xs => exact h.ec
  | grow _ xs => exact h.ec
  | _ => exact h
theorem RepL.ers {cs : List AV} {vs : List Value} (h : RepL w φ cs vs) : RepL w φ (cs.map ers) vs := h.map_of fun _ _ h => h.ers
theorem Rep.one {a : AV} {v : Value} (h : Rep w φ a v) (ha : a.one = true) : v.oneCell' = true := by
  cases a <;> simp only [AV.one, Bool.false_eq_true] at ha <;> simp only [Rep] at h
  all_goals first
    | (subst h; exact ha)
    | (subst h; rfl)
    | (obtain ⟨_, _, rfl, _⟩ := h; rfl)
    | (obtain ⟨_, _, _, rfl, _⟩ := h; rfl)
    | (obtain ⟨_, rfl, _⟩ := h; rfl)
theorem RepL.one : ∀ {cs : List AV} {vs : List Value}, RepL w φ cs vs → (cs.all AV.one) = true → ∀ v ∈ vs, v.oneCell' = true
  | [], _, h, _, v, hv => by simp only [RepL] at h; subst h; simp at hv
  | c :: cs, _, h, ha, v, hv => by
    simp only [RepL] at h
    obtain ⟨u, vs', rfl, h1, h2⟩ := h
    simp only [List.all_cons, Bool.and_eq_true] at ha
    rcases List.mem_cons.1 hv with rfl | hv
    · exact h1.one ha.1
    · exact RepL.one h2 ha.2 v hv
/-- The cells of a value stand for the abstract cells. -/
theorem Rep.cells {a : AV} {v : Value} (h : Rep w φ a v) (ha : a.cells.all AV.one = true) : RepL w φ a.cells v.cells.toList := by
  cases a with
  | agg cs => simp only [Rep] at h; obtain ⟨vs, rfl, h⟩ := h; simpa [AV.cells, Value.cells] using h
  | tup cs => simp [AV.cells, AV.one] at ha
  | any => simp [AV.cells, AV.one] at ha
  | when _ _ => simp [AV.cells, AV.one] at ha
  | val u =>
    simp only [Rep] at h
    subst h
    have hu : v.oneCell' = true := by simpa [AV.cells, AV.one] using ha
    have hc : v.cells = #[v] := by cases v <;> first | rfl | (simp [Value.oneCell'] at hu)
    rw [hc]
    exact RepL.cons (by simp only [Rep]) RepL.nil
  | _ =>
    have hc : v.cells = #[v] := by
      simp only [Rep] at h
      first
        | (subst h; rfl)
        | (obtain ⟨_, _, rfl, _⟩ := h; rfl)
        | (obtain ⟨_, _, _, rfl, _⟩ := h; rfl)
        | (obtain ⟨_, rfl, _⟩ := h; rfl)
    rw [hc]
    exact RepL.cons h RepL.nil
end

end Go.Proofs.YtpjkepfplhllfaaDoor.Av
