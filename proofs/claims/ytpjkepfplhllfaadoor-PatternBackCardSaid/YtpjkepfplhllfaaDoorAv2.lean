/-
States, layouts, what operations without effects yield.
-/
import Derived.Test.YtpjkepfplhllfaaDoorAv1
import Derived.WalkKit
import Derived.RangeFuncRecord
namespace Go.Proofs.YtpjkepfplhllfaaDoor.Av
set_option linter.unusedSimpArgs false
set_option linter.unusedVariables false
open Go

/-- What is known of a type. -/
inductive LK where
  | struct (fs : List (Nat × Nat × Bool))   -- offset, size, is it an aggregate
  | slice (e : TypeId)
  | array (n : Nat) (e : TypeId)
  | map (k e : TypeId)
  | int (k : IntKind)
  | bool
  | string
  | other
  deriving DecidableEq
structure Lay where
  size : Nat
  agg : Bool
  bytes : Nat
  zero : AV
  kind : LK

def ofC1 : Value → AV
  | .bool b => .bool b
  | .int k n => .int k n
  | .string s => .str s.data.toList
  | .pointer .none => .nilp
  | .slice .none 0 0 => .nils
  | .map .none => .nilm
  | .nilFunc => .nilf
  | _ => .any
def ofC : Value → AV
  | .agg cs => .agg (cs.toList.map ofC1)
  | v => ofC1 v

def aggOf (d : TypeDesc) : Bool := match d with | .struct _ | .array _ _ => true | _ => false
def mkKind (P : Program) : TypeDesc → LK
  | .struct fs => if (fs.toList.all fun f => (P.info? f.type).isSome && (P.underlying f.type).isSome) = true then .struct (fs.toList.map fun f => (f.offset, ((P.info? f.type).map (·.size)).getD 0, ((P.underlying f.type).map aggOf).getD false)) else .other
  | .slice e => .slice e
  | .array n e => .array n e
  | .map k e => .map k e
  | .int k => .int k
  | .bool => .bool
  | .string => .string
  | _ => .other
def mkLay (P : Program) (t : TypeId) : Option Lay :=
  match P.info? t, P.underlying t with
  | some i, some d => some { size := i.size, agg := aggOf d, bytes := i.bytes, zero := (i.zero.map ofC).getD .any, kind := mkKind P d }
  | _, _ => none

/-- What is known of the program: layouts, and the cells of variables that never change. -/
structure Env where
  lay : TypeId → Option Lay
  glob : Nat → List AV
  rd : Option Nat
/-- The same within a round of a range over a function. -/
def Env.inRd (E : Env) (l : Nat) : Env := { E with rd := some l }

/-- A map, or another object of the heap, as it lies. -/
inductive MO where
  | mp (l : List (AV × AV))
  | ob (o : Obj)
structure St where
  box : List (Nat × List AV)
  map : List (Nat × MO)
/-- A frame: how many temporaries, what they hold, which arrays may be grown, the marks among the deferred calls. -/
structure Fm where
  nt : Nat
  sl : List (Nat × AV)
  ow : List (Tag × (Nat × Nat))
  df : List Nat

def getA : List (Nat × AV) → Nat → AV
  | [], _ => .any
  | (k, v) :: l, s => if k = s then v else getA l s
def getB {α : Type} : List (Nat × α) → Nat → Option α
  | [], _ => none
  | (k, v) :: l, s => if k = s then some v else getB l s
def getM (l : List (Nat × MO)) (b : Nat) : Option (List (AV × AV)) := match getB l b with | some (.mp es) => some es | _ => none
theorem getM_some {l : List (Nat × MO)} {b : Nat} {es : List (AV × AV)} (h : getM l b = some es) : getB l b = some (.mp es) := by
  unfold getM at h
  split at h
  · rename_i es' he; rw [he]; cases h; rfl
  · cases h
def setB {α : Type} : List (Nat × α) → Nat → α → List (Nat × α)
  | [], _, _ => []
  | (k, v) :: l, s, x => if k = s then (k, x) :: l else (k, v) :: setB l s x
def getT : List (Tag × (Nat × Nat)) → Tag → Option (Nat × Nat)
  | [], _ => none
  | (k, v) :: l, s => if k = s then some v else getT l s
def delT : List (Tag × (Nat × Nat)) → Tag → List (Tag × (Nat × Nat))
  | [], _ => []
  | (k, v) :: l, s => if k = s then delT l s else (k, v) :: delT l s
/-- The size of an element, if the array may be grown behind these elements. -/
def getO (ow : List (Tag × (Nat × Nat))) (t : Tag) (xs : List (List AV)) : Option Nat :=
  match getT ow t with
  | some p => if p.1 = xs.length then some p.2 else none
  | none => none
theorem getO_some {ow : List (Tag × (Nat × Nat))} {t : Tag} {xs : List (List AV)} {sz : Nat} (h : getO ow t xs = some sz) : getT ow t = some (xs.length, sz) := by
  unfold getO at h
  split at h
  · rename_i p hp
    split at h
    · rename_i e; simp only [Option.some.injEq] at h; rw [hp, ← e, ← h]
    · cases h
  · cases h
def Fm.upd (f : Fm) (d : Nat) (x : AV) : Fm := { f with sl := (d, x) :: f.sl }
def Fm.put (f : Fm) : Option Nat → AV → Fm
  | none, _ => f
  | some d, x => f.upd d x

section
variable (E : Env)
/-- What is there under a condition that holds. -/
def stripW : AV → AV
  | .when true a => es a
  | a => a
/-- A list, however great its array is. -/
def unfull : AV → AV
  | .full xs => .list .none xs
  | a => a
def evX (f : Fm) : Operand → AV
  | .tmp t => stripW (getA f.sl t)
  | .const v => ofC v
  | .global g => .cptr (E.glob g)
  | .func g => .func g []

/-- A slice that is read out of a cell of a box. -/
def ldC (b : Nat) : Nat → List AV → List AV
  | _, [] => []
  | o, .grow _ xs :: cs => .list (.cell b o) xs :: ldC b (o + 1) cs
  | o, .list _ xs :: cs => .list .none xs :: ldC b (o + 1) cs
  | o, c :: cs => c :: ldC b (o + 1) cs

def loadA (σ : St) (t : TypeId) (a : AV) : Option AV :=
  match E.lay t with
  | none => none
  | some l =>
    match a with
    | .cptr cs => if l.agg then (if l.size ≤ cs.length then some (.agg ((cs.take l.size).map er)) else none) else (match cs with | c :: _ => if c.one = true then some (er c) else none | [] => none)
    | .ptr b o =>
      match getB σ.box b with
      | none => none
      | some cs => if l.agg then (if o + l.size ≤ cs.length then some (.agg (ldC b o ((cs.drop o).take l.size))) else none) else (ldC b o ((cs.drop o).take 1)).head?
    | _ => none

def fieldA (t : TypeId) (a : AV) (i : Nat) : Option AV :=
  match E.lay t with
  | some { kind := .struct fs, .. } =>
    match fs[i]? with
    | some (off, sz, _) =>
      if sz = 0 then none else
      match a with
      | .ptr b o => some (.ptr b (o + off))
      | .cptr cs => some (.cptr (cs.drop off))
      | _ => none
    | none => none
  | _ => none
def partA (t : TypeId) (a : AV) (i : Nat) : Option AV :=
  match E.lay t with
  | some { kind := .struct fs, .. } =>
    match fs[i]?, a with
    | some (off, sz, ag), .agg cs => if ag then some (.agg ((cs.drop off).take sz)) else (match cs[off]? with | some c => if c.one = true then some c else none | none => none)
    | _, _ => none
  | _ => none

/-- Parts put into the cells of a value. -/
def fillA (place : Nat → Option (Nat × Nat)) (cs : List AV) : List (Nat × AV) → Option (List AV)
  | [] => some cs
  | (i, v) :: rest =>
    match place i with
    | none => none
    | some (off, sz) => if v.cells.length = sz ∧ off + sz ≤ cs.length ∧ v.cells.all AV.one = true then fillA place (cs.take off ++ v.cells ++ cs.drop (off + sz)) rest else none
def buildA (t : TypeId) (ps : List (Nat × AV)) : Option AV :=
  match E.lay t with
  | some { kind := .struct fs, zero := .agg z, .. } => (fillA (fun i => (fs[i]?).map fun f => (f.1, f.2.1)) z ps).map .agg
  | _ => none

def intOp (op : BinOp) (k : IntKind) (a b : Int) : Option AV :=
  match op with
  | .add => some (.int k (k.wrap (a + b)))
  | .sub => some (.int k (k.wrap (a - b)))
  | .mul => some (.int k (k.wrap (a * b)))
  | .eql => some (.bool (a == b))
  | .neq => some (.bool (a != b))
  | .lss => some (.bool (decide (a < b)))
  | .leq => some (.bool (decide (a ≤ b)))
  | .gtr => some (.bool (decide (a > b)))
  | .geq => some (.bool (decide (a ≥ b)))
  | .quo => if b = 0 then none else some (.int k (k.wrap (a.tdiv b)))
  | .rem => if b = 0 then none else some (.int k (a.tmod b))
  | .and => some (.int k (k.wrap (BitVec.ofInt k.bits a &&& BitVec.ofInt k.bits b).toNat))
  | .or => some (.int k (k.wrap (BitVec.ofInt k.bits a ||| BitVec.ofInt k.bits b).toNat))
  | .xor => some (.int k (k.wrap (BitVec.ofInt k.bits a ^^^ BitVec.ofInt k.bits b).toNat))
  | .andNot => some (.int k (k.wrap (BitVec.ofInt k.bits a &&& ~~~ BitVec.ofInt k.bits b).toNat))
  | _ => none
def strOp (op : BinOp) (x y : List UInt8) : Option AV :=
  match op with
  | .eql => some (.bool (decide (x = y)))
  | .neq => some (.bool (!decide (x = y)))
  | .lss => some (.bool (Op.bytesLess x y))
  | .geq => some (.bool (!Op.bytesLess x y))
  | .leq => some (.bool (Op.bytesLess x y || decide (x = y)))
  | .gtr => some (.bool (!(Op.bytesLess x y || decide (x = y))))
  | .add => if x.length + y.length ≤ 4611686018427387904 then some (.str (x ++ y)) else none
  | _ => none
def binA (op : BinOp) (t : TypeId) (a b : AV) : Option AV :=
  match a, b with
  | .int k x, .int j y =>
    match op with
    | .shl => if 0 ≤ y then some (.int k (k.wrap (x * 2 ^ (min y.toNat k.bits)))) else none
    | .shr => if 0 ≤ y then some (.int k (x.fdiv (2 ^ (min y.toNat k.bits)))) else none
    | _ => if k = j then intOp op k x y else none
  | .str x, .str y => strOp op x y
  | .bool x, .bool y => match E.lay t with
    | some { kind := .bool, .. } => match op with | .eql => some (.bool (x == y)) | .neq => some (.bool (x != y)) | _ => none
    | _ => none
  | .nils, .nils => match E.lay t with
    | some { kind := .slice _, .. } => match op with | .eql => some (.bool true) | .neq => some (.bool false) | _ => none
    | _ => none
  | .list _ (_ :: _), .nils => match E.lay t with
    | some { kind := .slice _, .. } => match op with | .eql => some (.bool false) | .neq => some (.bool true) | _ => none
    | _ => none
  | _, _ => none
def unA (op : UnOp) (a : AV) : Option AV :=
  match op, a with
  | .not, .bool b => some (.bool (!b))
  | .neg, .int k n => some (.int k (k.wrap (0 - n)))
  | .xor, .int k n => some (.int k (k.wrap (BitVec.ofInt k.bits (if k.signed then -1 else k.max) ^^^ BitVec.ofInt k.bits n).toNat))
  | _, _ => none
def convA (dst : TypeId) (a : AV) : Option AV :=
  match E.lay dst, a with
  | some { kind := .int k, .. }, .int _ n => some (.int k (k.wrap n))
  | _, _ => none
def indexAddrA (t : TypeId) (x i : AV) : Option AV :=
  match E.lay t, i with
  | some { kind := .slice e, .. }, .int _ n =>
    match E.lay e, x with
    | some l, .list _ xs => if 0 ≤ n ∧ n < (xs.length : Int) ∧ (xs.getD n.toNat []).length = l.size then some (.cptr (xs.getD n.toNat [])) else none
    | _, _ => none
  | some { kind := .array len e, .. }, .int _ n =>
    match E.lay e with
    | none => none
    | some l =>
      if 0 ≤ n ∧ n < (len : Int) then
        match x with
        | .cptr cs => some (.cptr (cs.drop (n.toNat * l.size)))
        | .ptr b o => some (.ptr b (o + n.toNat * l.size))
        | _ => none
      else none
  | _, _ => none
def indexA (t : TypeId) (x i : AV) : Option AV :=
  match E.lay t, x, i with
  | some { kind := .string, .. }, .str s, .int _ n => if 0 ≤ n ∧ n < (s.length : Int) then some (.int .u8 (s.getD n.toNat 0).toNat) else none
  | _, _, _ => none
def optI : Option AV → Option (Option Int)
  | none => some none
  | some (.int _ n) => some (some n)
  | _ => none
/-- x[lo:hi] -/
def sliceA (t : TypeId) (x : AV) (lo hi : Option AV) : Option AV :=
  match E.lay t, optI lo, optI hi with
  | some { kind := .slice e, .. }, some l, some h =>
    match E.lay e, x with
    | some le, .list _ xs => if 0 ≤ l.getD 0 ∧ l.getD 0 ≤ h.getD xs.length ∧ h.getD xs.length ≤ xs.length ∧ (∀ y ∈ xs, y.length = le.size) then some (.list .none ((xs.take (h.getD xs.length).toNat).drop (l.getD 0).toNat)) else none
    | some _, .nils => if l.getD 0 = 0 ∧ h.getD 0 = 0 then some .nils else none
    | _, _ => none
  | some { kind := .string, .. }, some l, some h =>
    match x with
    | .str s => if 0 ≤ l.getD 0 ∧ l.getD 0 ≤ h.getD s.length ∧ h.getD s.length ≤ s.length then some (.str ((s.take (h.getD s.length).toNat).drop (l.getD 0).toNat)) else none
    | _ => none
  | _, _, _ => none
def lenA (σ : St) (t : TypeId) (x : AV) : Option AV :=
  match E.lay t with
  | none => none
  | some l =>
    match l.kind, x with
    | .slice _, .list _ xs => some (.int .i64 xs.length)
    | .slice _, .nils => some (.int .i64 0)
    | .string, .str s => some (.int .i64 s.length)
    | .map _ _, .nilm => some (.int .i64 0)
    | .map _ _, .map b => (getM σ.map b).map fun es => .int .i64 es.length
    | _, _ => none
def maxA : List AV → Option AV
  | [.int k x, .int j y] => if k = j then some (.int k (if y > x then y else x)) else none
  | _ => none
def minA : List AV → Option AV
  | [.int k x, .int j y] => if k = j then some (.int k (if y < x then y else x)) else none
  | _ => none
/-- Keys of maps are strings, numbers and bools. -/
def keyEq : AV → AV → Option Bool
  | .str a, .str b => some (decide (a = b))
  | .int k a, .int j b => if k = j then some (a == b) else none
  | .bool a, .bool b => some (a == b)
  | _, _ => none
/-- The key's type, as the layout tells. -/
def keyLK : AV → LK → Bool
  | .str _, .string => true
  | .int k _, .int j => k == j
  | .bool _, .bool => true
  | _, _ => false
def findA (k : AV) : List (AV × AV) → Option (Option AV)
  | [] => some none
  | (k', v) :: es => match keyEq k k' with | some true => some (some v) | some false => findA k es | none => none
def isAny : AV → Bool | .any => true | _ => false
def lookA (σ : St) (t : TypeId) (m k : AV) (ok : Bool) : Option AV :=
  match E.lay t with
  | some { kind := .map kt e, .. } =>
    match E.lay kt, E.lay e with
    | some lk, some l =>
      if keyLK k lk.kind = true ∧ isAny l.zero = false then
        match (match m with | .nilm => some [] | .map b => getM σ.map b | _ => none) with
        | none => none
        | some es =>
          match findA k es with
          | none => none
          | some r => some (if ok then .tup [ers (r.getD l.zero), .bool r.isSome] else ers (r.getD l.zero))
      else none
    | _, _ => none
  | _ => none

/-- What an operation that neither writes nor calls yields. -/
def evF (f : Fm) (σ : St) : Op → Option AV
  | .move x | .assign x => some (evX E f x)
  | .pick c a b => match evX E f c with | .bool t => some (if t then evX E f a else evX E f b) | _ => none
  | .build t ps => buildA E t (ps.toList.map fun p => (p.1, evX E f p.2))
  | .load t a => loadA E σ t (evX E f a)
  | .nilCheck x => match evX E f x with | .ptr b o => some (.ptr b o) | .cptr cs => some (.cptr cs) | _ => none
  | .binOp op t x y _ => binA E op t (evX E f x) (evX E f y)
  | .unOp op _ x => unA op (evX E f x)
  | .convert src dst x => match E.lay src with | some _ => convA E dst (evX E f x) | none => none
  | .makeFunc (.func g) first caps => match first.toList with | [] => some (.func g (caps.toList.map fun x => er (evX E f x))) | _ => none
  | .fieldAddr t x i => fieldA E t (evX E f x) i
  | .field t x i => partA E t (evX E f x) i
  | .indexAddr t x i => indexAddrA E t (unfull (evX E f x)) (evX E f i)
  | .index t x i => indexA E t (evX E f x) (evX E f i)
  | .slice t x lo hi none => sliceA E t (unfull (evX E f x)) (lo.map (evX E f)) (hi.map (evX E f))
  | .lookup t m k ok => lookA E σ t (evX E f m) (evX E f k) ok
  | .extract x i => match evX E f x with | .tup cs => (cs[i]?).map ers | _ => none
  | .call c => match c.callee with
    | .builtin b => match b, c.args.toList, c.argTypes.toList with
      | .len, [x], [t] => lenA E σ t (unfull (evX E f x))
      | .max, [x, y], _ => maxA [evX E f x, evX E f y]
      | .min, [x, y], _ => minA [evX E f x, evX E f y]
      | _, _, _ => none
    | _ => none
  | _ => none
end

/-! ### The state of the machine stands for the abstract state -/

/-- An array that may be grown by the one who has its tag. -/
structure Own where
  tag : Tag
  v : Value
  e : TypeId
  sz : Nat
  n : Nat

structure OwnOK (w : World) (φ : Nat → Nat) (x : Own) : Prop where
  tag : x.tag ≠ .none
  row : ∃ xs, w.ownsRow 0 x.e x.sz x.v x.n xs
  pos : 0 < x.sz
  front : ∀ g, x.v.ownBlock = some g → φ g = x.n * x.sz
  lim : ∀ b o, x.tag = .cell b o → b < w.heap.size

def MapRep (w : World) (φ : Nat → Nat) : List (AV × AV) → List MapEntry → Prop
  | [], es => es = []
  | (k, v) :: l, es => ∃ e es', es = e :: es' ∧ Rep w φ k e.key ∧ (er k = k ∧ k.one = true) ∧ Rep w φ v e.val ∧ MapRep w φ l es'

/-- A box's cells. -/
structure BoxOK (w : World) (φ : Nat → Nat) (Ω : List Own) (b : Nat) (cs : List AV) : Prop where
  row : ∃ (c : Array Value) (T : TypeId), w.heap[b]? = some (.cells c T (0, 0)) ∧ RepL w φ cs c.toList ∧
    ∀ o sz xs, cs[o]? = some (.grow sz xs) → ∃ x ∈ Ω, x.tag = .cell b o ∧ (x.n, x.sz) = (xs.length, sz) ∧ c[o]? = some x.v
  zero : φ b = 0
  one : cs.all AV.one = true

def MORep (w : World) (φ : Nat → Nat) : MO → Obj → Prop
  | .mp l, .map es _ => MapRep w φ l es.toList
  | .ob o, o' => o' = o
  | _, _ => False
structure MapOK (w : World) (φ : Nat → Nat) (b : Nat) (l : MO) : Prop where
  row : ∃ o, w.heap[b]? = some o ∧ MORep w φ l o
  zero : φ b = 0

def owned (Ω : List Own) (σ : St) : List Nat := σ.box.map (·.1) ++ σ.map.map (·.1) ++ Ω.filterMap (·.v.ownBlock)

/-- The part of the state that calls share. -/
structure SS (E : Env) (w : World) (φ : Nat → Nat) (Ω : List Own) (σ : St) : Prop where
  box : ∀ b cs, (b, cs) ∈ σ.box → BoxOK w φ Ω b cs
  map : ∀ b l, (b, l) ∈ σ.map → MapOK w φ b l
  own : ∀ x ∈ Ω, OwnOK w φ x
  tags : (Ω.map (·.tag)).Nodup
  nodup : (owned Ω σ).Nodup
  glob : ∀ g, RepAt w φ g 0 (E.glob g)
  fits : ∀ b, w.heap.size ≤ b → φ b = 0

/-- The value in a slot is the very one that its tag's array has. -/
def TagOK (Ω : List Own) : AV → Value → Prop
  | .list t xs, v => ∀ x ∈ Ω, x.tag = t → x.n = xs.length → v = x.v
  | .agg cs, v => ∀ (vs : Array Value), v = .agg vs → ∀ (i : Nat) (t : Tag) (xs : List (List AV)), cs[i]? = some (AV.list t xs) → ∀ x ∈ Ω, x.tag = t → x.n = xs.length → vs[i]? = some x.v
  | _, _ => True

structure FS (w : World) (φ : Nat → Nat) (Ω : List Own) (f : Fm) (a : Act) : Prop where
  size : a.tmps.size = f.nt
  defers : a.defers = f.df.map fun D => { target := .collected D, args := #[] }
  rep : ∀ s, Rep w φ (getA f.sl s) (a.tmps.getD s undef)
  tag : ∀ s, TagOK Ω (getA f.sl s) (a.tmps.getD s undef)
  ow : ∀ t n, getT f.ow t = some n → ∃ x ∈ Ω, x.tag = t ∧ (x.n, x.sz) = n

/-- Since a function was entered. -/
structure Gh where
  w : World
  φ : Nat → Nat
  D : List Nat

structure Since (g : Gh) (w : World) (φ : Nat → Nat) : Prop where
  os : w.os = g.w.os
  tape : w.tape = g.w.tape
  output : w.output = g.w.output
  size : g.w.heap.size ≤ w.heap.size
  block : ∀ b, b < g.w.heap.size → b ∉ g.D → w.heap[b]? = g.w.heap[b]? ∧ φ b = g.φ b
  ext : Ext g.w g.φ w φ

structure SR (E : Env) (g : Gh) (f : Fm) (σ : St) (a : Act) (w : World) (φ : Nat → Nat) (Ω : List Own) : Prop where
  ss : SS E w φ Ω σ
  fs : FS w φ Ω f a
  since : Since g w φ
  mine : ∀ b ∈ owned Ω σ, b ∈ g.D ∨ g.w.heap.size ≤ b

/-- A function with a body of its own. -/
def Callable (P : Program) (fn : FuncId) : Prop := ∃ F, P.funcs[fn]? = some F ∧ (F.name == "runtime.NumGoroutine") = false ∧ F.body.isNone = false
/-- A call of function f with these arguments, owning what σ tells, ends with a result and a state of which R holds; all else is as it was. -/
structure ACall (P : Program) (E : Env) (fn : FuncId) (args : List AV) (σ : St) (R : AV → St → Prop) : Prop where
  callable : Callable P fn
  calls : ∀ (w : World) (φ : Nat → Nat) (Ω : List Own) (vs : List Value), SS E w φ Ω σ → RepL w φ args vs →
    Calls P fn vs.toArray w fun e w' => ∃ v φ' Ω' r σ', e = .returned v ∧ R r σ' ∧ Rep w' φ' r v ∧ SS E w' φ' Ω' σ' ∧ Since ⟨w, φ, owned Ω σ⟩ w' φ' ∧
      (∀ x ∈ Ω', ∃ b o, x.tag = .cell b o ∧ b ∈ σ'.box.map (·.1)) ∧ (∀ b ∈ owned Ω' σ', b ∈ owned Ω σ ∨ w.heap.size ≤ b)

/-- What is left behind a call. -/
def APost (E : Env) (w : World) (φ : Nat → Nat) (Ω : List Own) (σ : St) (R : AV → St → Prop) (e : Ending) (w' : World) : Prop :=
  ∃ v φ' Ω' r σ', e = .returned v ∧ R r σ' ∧ Rep w' φ' r v ∧ SS E w' φ' Ω' σ' ∧ Since ⟨w, φ, owned Ω σ⟩ w' φ' ∧
      (∀ x ∈ Ω', ∃ b o, x.tag = .cell b o ∧ b ∈ σ'.box.map (·.1)) ∧ (∀ b ∈ owned Ω' σ', b ∈ owned Ω σ ∨ w.heap.size ≤ b)
/-- A call of the yield of loop l. -/
def YCall (P : Program) (E : Env) (l : Nat) (args : List AV) (σ : St) (R : AV → St → Prop) : Prop :=
  ∀ (w : World) (φ : Nat → Nat) (Ω : List Own) (vs : List Value), SS E w φ Ω σ → RepL w φ args vs →
    ∃ fn tmps assign body, (Instr.yield l vs.toArray).run P w = .ok (.round l fn tmps assign body) w ∧ RoundIn Fence.wide 0 P l fn tmps assign body w (APost E w φ Ω σ R)
abbrev Fw (r : Option Nat) : Fence := { Fence.wide with round := r }

def Run (P : Program) (E : Env) (c : Code) (f : Fm) (σ : St) (Q : Exit → Fm → St → Prop) : Prop :=
  ∀ g a w φ Ω, SR E g f σ a w φ Ω → c.wpIn (Fw E.rd) 0 P (fun e a' w' => ∃ f' σ' φ' Ω', SR E g f' σ' a' w' φ' Ω' ∧ Q e f' σ') a w

end Go.Proofs.YtpjkepfplhllfaaDoor.Av
