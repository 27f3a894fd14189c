/-
Typed values: lists, maps, numbers; what operations on them yield.
-/
import Derived.Test.YtpjkepfplhllfaaDoorAv23
namespace Go.Proofs.YtpjkepfplhllfaaDoor.Av
set_option linter.unusedSimpArgs false
set_option linter.unusedVariables false
open Go
def nth {α : Type} [Inhabited α] (xs : List α) (i : Int) : α := xs.getD i.toNat default
/-- A byte of a string. -/
def bt (s : List UInt8) (i : Int) : Int := (s.getD i.toNat 0).toNat
def w64 (n : Int) : Int := IntKind.i64.wrap n
theorem w64_eq {n : Int} (h1 : -9223372036854775808 ≤ n) (h2 : n < 9223372036854775808) : w64 n = n := by
  unfold w64 IntKind.wrap; simp [IntKind.signed, IntKind.bits]; omega
def rwI (k : IntKind) (n : Int) : List AV := [.int k n]
def rwS (s : List UInt8) : List AV := [.str s]
def rwB (b : Bool) : List AV := [.bool b]
@[simp] theorem rwI_def (k : IntKind) (n : Int) : rwI k n = [.int k n] := rfl
@[simp] theorem rwS_def (s : List UInt8) : rwS s = [.str s] := rfl
@[simp] theorem rwB_def (b : Bool) : rwB b = [.bool b] := rfl
def aget {κ α : Type} [DecidableEq κ] : List (κ × α) → κ → Option α
  | [], _ => none
  | (k', v) :: l, k => if k = k' then some v else aget l k
def aput {κ α : Type} [DecidableEq κ] : List (κ × α) → κ → α → List (κ × α)
  | [], k, v => [(k, v)]
  | (k', v') :: l, k, v => if k = k' then (k, v) :: l else (k', v') :: aput l k v
def adel {κ α : Type} [DecidableEq κ] : List (κ × α) → κ → List (κ × α)
  | [], _ => []
  | (k', v') :: l, k => if k = k' then l else (k', v') :: adel l k
def mS {α : Type} (g : α → AV) (p : List UInt8 × α) : AV × AV := (.str p.1, g p.2)
def mI {α : Type} (k : IntKind) (g : α → AV) (p : Int × α) : AV × AV := (.int k p.1, g p.2)
theorem findA_S {α : Type} (g : α → AV) (k : List UInt8) : ∀ m : List (List UInt8 × α), findA (.str k) (m.map (mS g)) = some ((aget m k).map g)
  | [] => rfl
  | (k', v) :: l => by
    simp only [List.map_cons, mS, findA, keyEq, aget]
    by_cases h : k = k'
    · simp [h]
    · simp only [h, decide_false]; exact findA_S g k l
theorem findA_I {α : Type} (g : α → AV) (kd : IntKind) (k : Int) : ∀ m : List (Int × α), findA (.int kd k) (m.map (mI kd g)) = some ((aget m k).map g)
  | [] => rfl
  | (k', v) :: l => by
    simp only [List.map_cons, mI, findA, keyEq, aget, if_true]
    by_cases h : k = k'
    · simp [h]
    · simp only [h, beq_iff_eq, beq_eq_false_iff_ne.2 h]; exact findA_I g kd k l
theorem putA_S {α : Type} (g : α → AV) (k : List UInt8) (v : α) : ∀ m : List (List UInt8 × α), putA (.str k) (g v) (m.map (mS g)) = some ((aput m k v).map (mS g))
  | [] => rfl
  | (k', v') :: l => by
    simp only [List.map_cons, mS, putA, keyEq, aput]
    by_cases h : k = k'
    · simp [h, mS]
    · simp only [h, decide_false, if_false, putA_S g k v l, Option.map_some, List.map_cons, mS]
theorem putA_I {α : Type} (g : α → AV) (kd : IntKind) (k : Int) (v : α) : ∀ m : List (Int × α), putA (.int kd k) (g v) (m.map (mI kd g)) = some ((aput m k v).map (mI kd g))
  | [] => rfl
  | (k', v') :: l => by
    simp only [List.map_cons, mI, putA, keyEq, aput, if_true]
    by_cases h : k = k'
    · simp [h, mI]
    · simp only [h, beq_eq_false_iff_ne.2 h, if_false, putA_I g kd k v l, Option.map_some, List.map_cons, mI]
theorem dropA_S {α : Type} (g : α → AV) (k : List UInt8) : ∀ m : List (List UInt8 × α), dropA (.str k) (m.map (mS g)) = some ((adel m k).map (mS g))
  | [] => rfl
  | (k', v') :: l => by
    simp only [List.map_cons, mS, dropA, keyEq, adel]
    by_cases h : k = k'
    · simp [h]
    · simp only [h, decide_false, if_false, dropA_S g k l, Option.map_some, List.map_cons, mS]
/-- What is looked for in an answer. -/
theorem chkO {α : Type} {c : Prop} [Decidable c] {x : Option α} {r : α} (h : (if c then x else none) = some r) : c ∧ x = some r := by
  split at h
  · exact ⟨by assumption, h⟩
  · cases h
theorem itet {α : Type} {c : Bool} {x y : α} (h : c = true) : (if c = true then x else y) = x := if_pos h
theorem itef {α : Type} {c : Bool} {x y : α} (h : c = false) : (if c = true then x else y) = y := if_neg (by rw [h]; simp)
theorem bindO {α β : Type} {x : Option α} {k : α → Option β} {r : β} (h : x.bind k = some r) : ∃ y, x = some y ∧ k y = some r := Option.bind_eq_some_iff.1 h
theorem mapO {α β : Type} {x : Option α} {k : α → β} {r : β} (h : x.map k = some r) : ∃ y, x = some y ∧ k y = r := Option.map_eq_some_iff.1 h
section
variable {E : Env} {f : Fm} {σ : St} {t e : TypeId} {l le : Lay} {x i : Operand}
theorem evF_ix {α : Type} [Inhabited α] {tg : Tag} {rw : α → List AV} {xs : List α} {k : IntKind} {n : Int} (hl : E.lay t = some l) (hk : l.kind = .slice e) (hle : E.lay e = some le) (hx : unfull (evX E f x) = .list tg (xs.map rw)) (hi : evX E f i = .int k n) (h0 : 0 ≤ n) (h1 : n < (xs.length : Int)) (hsz : (rw (nth xs n)).length = le.size) :
    evF E f σ (.indexAddr t x i) = some (.cptr (rw (nth xs n))) := by
  obtain ⟨size, agg, bytes, zero, kind⟩ := l
  simp only at hk
  subst hk
  have hlt : n.toNat < xs.length := by omega
  have hg : (xs.map rw).getD n.toNat [] = rw (nth xs n) := by
    simp [nth, List.getD_eq_getElem?_getD, hlt]
  simp only [evF, indexAddrA, hl, hle, hx, hi, hg, List.length_map]
  rw [if_pos ⟨h0, h1, hsz⟩]
theorem evF_sx {s : List UInt8} {k : IntKind} {n : Int} (hl : E.lay t = some l) (hk : l.kind = .string) (hx : evX E f x = .str s) (hi : evX E f i = .int k n) (h0 : 0 ≤ n) (h1 : n < (s.length : Int)) :
    evF E f σ (.index t x i) = some (.int .u8 (bt s n)) := by
  obtain ⟨size, agg, bytes, zero, kind⟩ := l
  simp only at hk
  subst hk
  simp only [evF, indexA, hl, hx, hi]
  rw [if_pos ⟨h0, h1⟩]
  rfl
theorem evF_sl {α : Type} {tg : Tag} {rw : α → List AV} {xs : List α} {lo hi : Option Operand} {a b : Int} (hl : E.lay t = some l) (hk : l.kind = .slice e) (hle : E.lay e = some le) (hx : unfull (evX E f x) = .list tg (xs.map rw)) (hlo : (optI (lo.map (evX E f))) = some (some a) ∨ (lo = none ∧ a = 0)) (hhi : (optI (hi.map (evX E f))) = some (some b) ∨ (hi = none ∧ b = (xs.length : Int)))
    (h0 : 0 ≤ a) (h1 : a ≤ b) (h2 : b ≤ (xs.length : Int)) (hsz : ∀ y, (rw y).length = le.size) :
    evF E f σ (.slice t x lo hi none) = some (.list .none (((xs.take b.toNat).drop a.toNat).map rw)) := by
  obtain ⟨size, agg, bytes, zero, kind⟩ := l
  simp only at hk
  subst hk
  have ha : ∃ l', optI (lo.map (evX E f)) = some l' ∧ l'.getD 0 = a := by
    rcases hlo with h | ⟨rfl, rfl⟩
    · exact ⟨_, h, rfl⟩
    · exact ⟨_, rfl, rfl⟩
  have hb : ∃ h', optI (hi.map (evX E f)) = some h' ∧ h'.getD (xs.length : Int) = b := by
    rcases hhi with h | ⟨rfl, rfl⟩
    · exact ⟨_, h, rfl⟩
    · exact ⟨_, rfl, rfl⟩
  obtain ⟨l', h3, h4⟩ := ha
  obtain ⟨h', h5, h6⟩ := hb
  simp only [evF, sliceA, hl, hle, hx, h3, h5, List.length_map, h4, h6]
  rw [if_pos ⟨h0, h1, h2, fun y hy => by obtain ⟨z, _, rfl⟩ := List.mem_map.1 hy; exact hsz z⟩]
  simp [List.map_take, List.map_drop]
/-- A map of ours is looked into. -/
theorem evF_lkS {α : Type} {g : α → AV} {m : List (List UInt8 × α)} {k : List UInt8} {b : Nat} {kt : TypeId} {lk : Lay} {ok : Bool} {z : α} (hl : E.lay t = some l) (hk : l.kind = .map kt e) (hlk : E.lay kt = some lk) (hlk2 : lk.kind = .string) (hle : E.lay e = some le) (hz : ers le.zero = g z) (hz2 : isAny le.zero = false) (hg : ∀ v, ers (g v) = g v) (hx : evX E f x = .map b) (hm : getM σ.map b = some (m.map (mS g))) (hi : evX E f i = .str k) :
    evF E f σ (.lookup t x i ok) = some (if ok then .tup [g ((aget m k).getD z), .bool (aget m k).isSome] else g ((aget m k).getD z)) := by
  obtain ⟨size, agg, bytes, zero, kind⟩ := l
  obtain ⟨size2, agg2, bytes2, zero2, kind2⟩ := le
  simp only at hk hz hz2
  subst hk
  have hgd : ers ((Option.map g (aget m k)).getD zero2) = g ((aget m k).getD z) := by cases aget m k <;> simp [hg, hz]
  simp only [evF, lookA, hl, hlk, hle, hx, hm, hi, findA_S, hlk2, keyLK, hz2]
  cases ok <;> simp [hgd, hg]
theorem evF_lkI {α : Type} {g : α → AV} {m : List (Int × α)} {kd : IntKind} {k : Int} {b : Nat} {kt : TypeId} {lk : Lay} {ok : Bool} {z : α} (hl : E.lay t = some l) (hk : l.kind = .map kt e) (hlk : E.lay kt = some lk) (hlk2 : lk.kind = .int kd) (hle : E.lay e = some le) (hz : ers le.zero = g z) (hz2 : isAny le.zero = false) (hg : ∀ v, ers (g v) = g v) (hx : evX E f x = .map b) (hm : getM σ.map b = some (m.map (mI kd g))) (hi : evX E f i = .int kd k) :
    evF E f σ (.lookup t x i ok) = some (if ok then .tup [g ((aget m k).getD z), .bool (aget m k).isSome] else g ((aget m k).getD z)) := by
  obtain ⟨size, agg, bytes, zero, kind⟩ := l
  obtain ⟨size2, agg2, bytes2, zero2, kind2⟩ := le
  simp only at hk hz hz2
  subst hk
  have hgd : ers ((Option.map g (aget m k)).getD zero2) = g ((aget m k).getD z) := by cases aget m k <;> simp [hg, hz]
  simp only [evF, lookA, hl, hlk, hle, hx, hm, hi, findA_I, hlk2, keyLK, hz2]
  cases ok <;> simp [hgd, hg]
end
def iand (k : IntKind) (a b : Int) : Int := k.wrap (BitVec.ofInt k.bits a &&& BitVec.ofInt k.bits b).toNat
def ior (k : IntKind) (a b : Int) : Int := k.wrap (BitVec.ofInt k.bits a ||| BitVec.ofInt k.bits b).toNat
def ixor (k : IntKind) (a b : Int) : Int := k.wrap (BitVec.ofInt k.bits a ^^^ BitVec.ofInt k.bits b).toNat
def iandNot (k : IntKind) (a b : Int) : Int := k.wrap (BitVec.ofInt k.bits a &&& ~~~ BitVec.ofInt k.bits b).toNat
def ixnot (k : IntKind) (a : Int) : Int := k.wrap (BitVec.ofInt k.bits (if k.signed then -1 else k.max) ^^^ BitVec.ofInt k.bits a).toNat
def ishl (k : IntKind) (a n : Int) : Int := k.wrap (a * 2 ^ (min n.toNat k.bits))
def ishr (k : IntKind) (a n : Int) : Int := a.fdiv (2 ^ (min n.toNat k.bits))
def imax (a b : Int) : Int := if b > a then b else a
def imin (a b : Int) : Int := if b < a then b else a
attribute [simp] iand ior ixor iandNot ixnot ishl ishr imax imin
theorem evP_of {E : Env} {f : Fm} {σ : St} {o : Oper} {x : AV} (h : evF E f σ o.op = some x) : evP E f σ o = some x := by unfold evP; rw [h]
section
variable {P : Program} {E : Env} {σ : St}
theorem ACall.of_fun (hE : EnvOK P E) {fn : FuncId} {F : Func} {c : Code} {args : List AV} {R : AV → St → Prop} (nt : Nat) (res : List ResultVar) (hF : P.funcs[fn]? = some F) (hname : (F.name == "runtime.NumGoroutine") = false) (hb : F.body = some c) (hnt : F.ntmps = nt) (hres : F.results.toList = res) (hn : args.length ≤ nt) (hargs : ∀ x ∈ args, ers x = x)
    (h : Run P E c ⟨nt, slotsA 0 args, [], []⟩ σ fun e f' σ' => (e = .normal ∨ e = .ret) ∧ marked f'.df σ'.map ∧ ∃ xs r σ'', resAs E f' σ' res = some xs ∧ (r = ers (tupA xs) ∨ r = es (tupA xs)) ∧ σ''.box.Sublist σ'.box ∧ σ''.map.Sublist (unmark f'.df σ'.map) ∧ R r σ'') (hrd : E.rd = none := by rfl) : ACall P E fn args σ R := by
  subst hnt hres
  exact ACall.of_run hE hF hname hb hn hargs h hrd
end
/-- Boxes are picked out. -/
def delB {α : Type} : List (Nat × α) → Nat → List (Nat × α)
  | [], _ => []
  | (k, v) :: l, b => if k = b then l else (k, v) :: delB l b
theorem perm_delB {α : Type} : ∀ {l : List (Nat × α)} {b : Nat} {x : α}, getB l b = some x → l.Perm ((b, x) :: delB l b)
  | (k, v) :: l, b, x, h => by
    simp only [getB] at h
    simp only [delB]
    split at h
    · rename_i e; subst e; cases h; simp
    · rename_i e; rw [if_neg e]; exact ((perm_delB h).cons _).trans (List.Perm.swap _ _ _)
theorem pick1 {α : Type} {l l' : List (Nat × α)} {b : Nat} {x : α} (h : getB l b = some x) (h' : delB l b = l') : l.Perm ([(b, x)] ++ l') := by
  subst h'; exact perm_delB h
theorem pick2 {α : Type} {l l' : List (Nat × α)} {b b2 : Nat} {x x2 : α} (h : getB l b = some x) (h2 : getB (delB l b) b2 = some x2) (h' : delB (delB l b) b2 = l') : l.Perm ([(b, x), (b2, x2)] ++ l') := by
  subst h'; exact (perm_delB h).trans ((perm_delB h2).cons _)
theorem pick0 {α : Type} {l : List (Nat × α)} : l.Perm ([] ++ l) := List.Perm.refl _
end Go.Proofs.YtpjkepfplhllfaaDoor.Av
