/-
The types of the program, the environment of its functions.
-/
import Derived.Test.YtpjkepfplhllfaaDoorLay
import Derived.Test.YtpjkepfplhllfaaDoorAv27
namespace Go.Proofs.YtpjkepfplhllfaaDoor.Av
set_option linter.unusedSimpArgs false
set_option linter.unusedVariables false
set_option maxRecDepth 100000
set_option maxHeartbeats 4000000
open Go Go.Proofs
structure TMachReg where
  name : List UInt8
  width : Int
  of_ : Int
  low : Int
  deriving DecidableEq
instance : Inhabited TMachReg := ⟨⟨[], 0, 0, 0⟩⟩
def TMachReg.row (x : TMachReg) : List AV := [.str x.name] ++ [.int .i64 x.width] ++ [.int .i64 x.of_] ++ [.int .i64 x.low]
attribute [simp] TMachReg.row
def TMachReg.agg (x : TMachReg) : AV := .agg x.row
@[simp] theorem TMachReg.agg_def (x : TMachReg) : x.agg = .agg x.row := rfl
structure TMachBank where
  name : List UInt8
  regs : List Int
  deriving DecidableEq
instance : Inhabited TMachBank := ⟨⟨[], []⟩⟩
def TMachBank.row (x : TMachBank) : List AV := [.str x.name] ++ [.list .none (x.regs.map (rwI .i64))]
attribute [simp] TMachBank.row
def TMachBank.agg (x : TMachBank) : AV := .agg x.row
@[simp] theorem TMachBank.agg_def (x : TMachBank) : x.agg = .agg x.row := rfl
structure TMachUnit where
  name : List UInt8
  count : Int
  deriving DecidableEq
instance : Inhabited TMachUnit := ⟨⟨[], 0⟩⟩
def TMachUnit.row (x : TMachUnit) : List AV := [.str x.name] ++ [.int .i64 x.count]
attribute [simp] TMachUnit.row
def TMachUnit.agg (x : TMachUnit) : AV := .agg x.row
@[simp] theorem TMachUnit.agg_def (x : TMachUnit) : x.agg = .agg x.row := rfl
structure TMachPiece where
  at_ : Int
  len : Int
  deriving DecidableEq
instance : Inhabited TMachPiece := ⟨⟨0, 0⟩⟩
def TMachPiece.row (x : TMachPiece) : List AV := [.int .i64 x.at_] ++ [.int .i64 x.len]
attribute [simp] TMachPiece.row
def TMachPiece.agg (x : TMachPiece) : AV := .agg x.row
@[simp] theorem TMachPiece.agg_def (x : TMachPiece) : x.agg = .agg x.row := rfl
structure TMachOperand where
  name : List UInt8
  kind : Int
  bank : Int
  scale : Int
  pieces : List TMachPiece
  tied : Int
  deriving DecidableEq
instance : Inhabited TMachOperand := ⟨⟨[], 0, 0, 0, [], 0⟩⟩
def TMachOperand.row (x : TMachOperand) : List AV := [.str x.name] ++ [.int .u8 x.kind] ++ [.int .i64 x.bank] ++ [.int .i64 x.scale] ++ [.list .none (x.pieces.map TMachPiece.row)] ++ [.int .i64 x.tied]
attribute [simp] TMachOperand.row
def TMachOperand.agg (x : TMachOperand) : AV := .agg x.row
@[simp] theorem TMachOperand.agg_def (x : TMachOperand) : x.agg = .agg x.row := rfl
structure TTerm where
  kind : Int
  width : Int
  bits : Int
  name : List UInt8
  low : Int
  sub : List TTerm
instance : Inhabited TTerm := ⟨⟨0, 0, 0, [], 0, []⟩⟩
mutual
def TTerm.row : TTerm → List AV
  | ⟨kind, width, bits, name, low, sub⟩ => [.int .u8 kind, .int .i64 width, .int .u64 bits, .str name, .int .i64 low, .list .none (TTerm.rows sub)]
def TTerm.rows : List TTerm → List (List AV)
  | [] => []
  | x :: xs => x.row :: TTerm.rows xs
end
theorem TTerm.rows_map : ∀ s, TTerm.rows s = s.map TTerm.row
  | [] => rfl
  | t :: ts => by simp [TTerm.rows, TTerm.rows_map ts]
@[simp] theorem TTerm.row_def (t : TTerm) : t.row = [.int .u8 t.kind, .int .i64 t.width, .int .u64 t.bits, .str t.name, .int .i64 t.low, .list .none (t.sub.map TTerm.row)] := by
  cases t; simp [TTerm.row, TTerm.rows_map]
def TTerm.agg (x : TTerm) : AV := .agg x.row
@[simp] theorem TTerm.agg_def (x : TTerm) : x.agg = .agg x.row := rfl
structure TMachEffect where
  kind : Int
  operand : Int
  reg : Int
  addr : TTerm
  value : TTerm
  cond : TTerm
instance : Inhabited TMachEffect := ⟨⟨0, 0, 0, default, default, default⟩⟩
def TMachEffect.row (x : TMachEffect) : List AV := [.int .u8 x.kind] ++ [.int .i64 x.operand] ++ [.int .i64 x.reg] ++ x.addr.row ++ x.value.row ++ x.cond.row
attribute [simp] TMachEffect.row
def TMachEffect.agg (x : TMachEffect) : AV := .agg x.row
@[simp] theorem TMachEffect.agg_def (x : TMachEffect) : x.agg = .agg x.row := rfl
structure TMachInstr where
  name : List UInt8
  mask : Int
  match_ : Int
  operands : List TMachOperand
  effects : List TMachEffect
  unit : Int
  busy : Int
  latency : Int
  slots : Int
instance : Inhabited TMachInstr := ⟨⟨[], 0, 0, [], [], 0, 0, 0, 0⟩⟩
def TMachInstr.row (x : TMachInstr) : List AV := [.str x.name] ++ [.int .u64 x.mask] ++ [.int .u64 x.match_] ++ [.list .none (x.operands.map TMachOperand.row)] ++ [.list .none (x.effects.map TMachEffect.row)] ++ [.int .i64 x.unit] ++ [.int .i64 x.busy] ++ [.int .i64 x.latency] ++ [.int .i64 x.slots]
attribute [simp] TMachInstr.row
def TMachInstr.agg (x : TMachInstr) : AV := .agg x.row
@[simp] theorem TMachInstr.agg_def (x : TMachInstr) : x.agg = .agg x.row := rfl
structure TMachine where
  name : List UInt8
  word : Int
  address : Int
  regs : List TMachReg
  banks : List TMachBank
  units : List TMachUnit
  instrs : List TMachInstr
instance : Inhabited TMachine := ⟨⟨[], 0, 0, [], [], [], []⟩⟩
def TMachine.row (x : TMachine) : List AV := [.str x.name] ++ [.int .i64 x.word] ++ [.int .i64 x.address] ++ [.list .none (x.regs.map TMachReg.row)] ++ [.list .none (x.banks.map TMachBank.row)] ++ [.list .none (x.units.map TMachUnit.row)] ++ [.list .none (x.instrs.map TMachInstr.row)]
attribute [simp] TMachine.row
def TMachine.agg (x : TMachine) : AV := .agg x.row
@[simp] theorem TMachine.agg_def (x : TMachine) : x.agg = .agg x.row := rfl
structure TMachineChecker where
  machine : TMachine
  ok : Bool
instance : Inhabited TMachineChecker := ⟨⟨default, false⟩⟩
def TMachineChecker.row (x : TMachineChecker) : List AV := x.machine.row ++ [.bool x.ok]
attribute [simp] TMachineChecker.row
def TMachineChecker.agg (x : TMachineChecker) : AV := .agg x.row
@[simp] theorem TMachineChecker.agg_def (x : TMachineChecker) : x.agg = .agg x.row := rfl
structure TMachineNames where
  used : List (List UInt8)
  deriving DecidableEq
instance : Inhabited TMachineNames := ⟨⟨[]⟩⟩
def TMachineNames.row (x : TMachineNames) : List AV := [.list .none (x.used.map rwS)]
attribute [simp] TMachineNames.row
def TMachineNames.agg (x : TMachineNames) : AV := .agg x.row
@[simp] theorem TMachineNames.agg_def (x : TMachineNames) : x.agg = .agg x.row := rfl
structure TTermShape where
  word : List UInt8
  parts : Int
  how : Int
  deriving DecidableEq
instance : Inhabited TTermShape := ⟨⟨[], 0, 0⟩⟩
def TTermShape.row (x : TTermShape) : List AV := [.str x.word] ++ [.int .i64 x.parts] ++ [.int .i64 x.how]
attribute [simp] TTermShape.row
def TTermShape.agg (x : TTermShape) : AV := .agg x.row
@[simp] theorem TTermShape.agg_def (x : TTermShape) : x.agg = .agg x.row := rfl
structure TPattern where
  instr : Int
  out : Int
  term : TTerm
  sides : List Int
instance : Inhabited TPattern := ⟨⟨0, 0, default, []⟩⟩
def TPattern.row (x : TPattern) : List AV := [.int .i64 x.instr] ++ [.int .i64 x.out] ++ x.term.row ++ [.list .none (x.sides.map (rwI .i64))]
attribute [simp] TPattern.row
def TPattern.agg (x : TPattern) : AV := .agg x.row
@[simp] theorem TPattern.agg_def (x : TPattern) : x.agg = .agg x.row := rfl
structure TPatternArg where
  operand : Int
  term : TTerm
instance : Inhabited TPatternArg := ⟨⟨0, default⟩⟩
def TPatternArg.row (x : TPatternArg) : List AV := [.int .i64 x.operand] ++ x.term.row
attribute [simp] TPatternArg.row
def TPatternArg.agg (x : TPatternArg) : AV := .agg x.row
@[simp] theorem TPatternArg.agg_def (x : TPatternArg) : x.agg = .agg x.row := rfl
def shapesL : List TTermShape := [⟨[], 0, 0⟩, ⟨[], 0, 0⟩, ⟨[], 0, 0⟩, ⟨[110, 111, 116], 1, 1⟩, ⟨[110, 101, 103], 1, 1⟩, ⟨[97, 100, 100], 2, 1⟩, ⟨[115, 117, 98], 2, 1⟩, ⟨[109, 117, 108], 2, 1⟩, ⟨[97, 110, 100], 2, 1⟩, ⟨[111, 114], 2, 1⟩, ⟨[120, 111, 114], 2, 1⟩, ⟨[115, 104, 108], 2, 1⟩, ⟨[115, 104, 114], 2, 1⟩, ⟨[115, 97, 114], 2, 1⟩, ⟨[117, 100, 105, 118], 2, 1⟩, ⟨[117, 114, 101, 109], 2, 1⟩, ⟨[101, 113], 2, 2⟩, ⟨[117, 108, 116], 2, 2⟩, ⟨[115, 108, 116], 2, 2⟩, ⟨[105, 116, 101], 3, 3⟩, ⟨[99, 111, 110, 99, 97, 116], 2, 4⟩, ⟨[101, 120, 116, 114, 97, 99, 116], 1, 5⟩, ⟨[122, 101, 120, 116], 1, 6⟩, ⟨[115, 101, 120, 116], 1, 6⟩, ⟨[108, 111, 97, 100], 1, 7⟩]
def shapesCells : List AV := shapesL.flatMap TTermShape.row
noncomputable def EE : Env := ⟨mkLay Tryd.prog, fun g => if g = 0 then shapesCells else [], none⟩
theorem EE_lay (t : TypeId) : EE.lay t = mkLay Tryd.prog t := by simp only [EE]
theorem EOK : EnvOK Tryd.prog EE := fun t l h => by rw [EE_lay] at h; exact h
attribute [simp] EE_lay lay1 lay2 lay3 lay4 lay5 lay9 lay12 lay13 lay19 lay21 lay22 lay23 lay24 lay25 lay26 lay27 lay28 lay29 lay30 lay31 lay33 lay34 lay35 lay36 lay37 lay38 lay39 lay40 lay41 lay42 lay44 lay45 lay46 lay47 lay48 lay49 lay50 lay51 lay52 lay53 lay54 lay56 lay58 lay59 lay60 lay61 lay62 lay63 lay64 lay65 lay66 lay67 lay68 lay69 lay70 lay71 lay72 lay73 lay74 lay75 lay76 lay77 lay78 lay79 lay80 lay81 lay82 lay83 lay84 lay85 lay86 lay87 lay88 lay89 lay90 lay91 lay93 lay95 lay96 lay98 lay99 lay100 lay102 lay103 lay104 lay105 lay106 lay107 lay108 lay109 lay110 lay111 lay112 lay113 lay114 lay116 lay117 lay118 lay119 lay120 lay121 lay122 lay123 lay124 lay125 lay126 lay127 lay128 lay129 lay130 lay132 lay133 lay134 lay135 lay136 lay137 lay138 lay139 lay141 lay143 lay144 lay145 lay146 lay147 lay148 lay149 lay150 lay151 lay152 lay153 lay154 lay155 lay157 lay158 lay159 lay160 lay161 lay162 lay163 lay169 lay170 lay173 lay174
theorem mixed : Tryd.prog.follows .mixedOrders = true := by kernel_rfl
theorem shapes_at {n : Int} (h0 : 0 ≤ n) (h1 : n < 25) : ∃ rest, (EE.glob 0).drop (n.toNat * 3) = (nth shapesL n).row ++ rest := by
  have key : ∀ k : Nat, k < 25 → ∃ rest, shapesCells.drop (k * 3) = (nth shapesL (k : Int)).row ++ rest := by
    intro k hk
    have : k = 0 ∨ k = 1 ∨ k = 2 ∨ k = 3 ∨ k = 4 ∨ k = 5 ∨ k = 6 ∨ k = 7 ∨ k = 8 ∨ k = 9 ∨ k = 10 ∨ k = 11 ∨ k = 12 ∨ k = 13 ∨ k = 14 ∨ k = 15 ∨ k = 16 ∨ k = 17 ∨ k = 18 ∨ k = 19 ∨ k = 20 ∨ k = 21 ∨ k = 22 ∨ k = 23 ∨ k = 24 := by omega
    rcases this with rfl | rfl | rfl | rfl | rfl | rfl | rfl | rfl | rfl | rfl | rfl | rfl | rfl | rfl | rfl | rfl | rfl | rfl | rfl | rfl | rfl | rfl | rfl | rfl | rfl <;> exact ⟨_, rfl⟩
  obtain ⟨rest, h⟩ := key n.toNat (by omega)
  have hn : ((n.toNat : Nat) : Int) = n := by omega
  rw [hn] at h
  exact ⟨rest, by simp only [EE, if_true]; exact h⟩

end Go.Proofs.YtpjkepfplhllfaaDoor.Av
