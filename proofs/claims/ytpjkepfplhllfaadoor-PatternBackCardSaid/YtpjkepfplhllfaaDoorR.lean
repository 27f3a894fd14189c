/-
How the types that come in are read.
-/
import Derived.Test.YtpjkepfplhllfaaDoorT
import Derived.Test.YtpjkepfplhllfaaDoorAv28
namespace Go.Proofs.YtpjkepfplhllfaaDoor.Av
set_option linter.unusedSimpArgs false
set_option linter.unusedVariables false
set_option maxRecDepth 100000
set_option maxHeartbeats 4000000
open Go Go.Proofs

theorem RdAt.sliceA {H : Type} {en : TypeId × Value → H} {P : Program} {w : World} {t e : TypeId} {α : Type} {row : α → List AV} {wf : α → Prop} {sz : Nat} (h : ∀ n, RdAt en P w n e row wf) (hu : P.underlying t = some (.slice e)) (hc : P.cellsOf e = sz) (hz : 0 < sz) (hl : ∀ x, (row x).length = sz) :
    ∀ n, RdAt en P w n t (fun xs : List α => [.list .none (xs.map row)]) (fun xs => xs.length ≤ maxLen ∧ ∀ x ∈ xs, wf x)
  | 0 => RdAt.zero
  | n + 1 => RdAt.slice (h n) hu hc hz hl
def TMachReg.wf (x : TMachReg) : Prop := x.name.length ≤ maxLen ∧ inK .i64 x.width ∧ inK .i64 x.of_ ∧ inK .i64 x.low ∧ True
theorem rd_TMachReg {H : Type} {en : TypeId × Value → H} {w : World} : ∀ n, RdAt en Tryd.prog w n 110 TMachReg.row TMachReg.wf
  | 0 => RdAt.zero
  | n + 1 => RdAt.conv (RdAt.struct (sz := 4) (RdFs.cons (sz := 1) (RdAt.str Tryd.underlying9 n) rfl (by kernel_rfl) (fun _ => by simp) (RdFs.cons (sz := 1) (RdAt.int Tryd.underlying3 n) rfl (by kernel_rfl) (fun _ => by simp) (RdFs.cons (sz := 1) (RdAt.int Tryd.underlying3 n) rfl (by kernel_rfl) (fun _ => by simp) (RdFs.cons (sz := 1) (RdAt.int Tryd.underlying3 n) rfl (by kernel_rfl) (fun _ => by simp) RdFs.nil)))) Tryd.underlying110 (by kernel_rfl) (fun _ => by simp) default) (fun p => ⟨p.1, p.2.1, p.2.2.1, p.2.2.2.1⟩) (fun _ => by simp) (fun _ h => by unfold TMachReg.wf; exact h)
def TMachBank.wf (x : TMachBank) : Prop := x.name.length ≤ maxLen ∧ (x.regs.length ≤ maxLen ∧ ∀ y ∈ x.regs, inK .i64 y) ∧ True
theorem rd_TMachBank {H : Type} {en : TypeId × Value → H} {w : World} : ∀ n, RdAt en Tryd.prog w n 74 TMachBank.row TMachBank.wf
  | 0 => RdAt.zero
  | n + 1 => RdAt.conv (RdAt.struct (sz := 2) (RdFs.cons (sz := 1) (RdAt.str Tryd.underlying9 n) rfl (by kernel_rfl) (fun _ => by simp) (RdFs.cons (sz := 1) (RdAt.sliceA (sz := 1) (fun n => (RdAt.int Tryd.underlying3 n)) Tryd.underlying39 (by kernel_rfl) (by omega) (fun _ => by simp) n) rfl (by kernel_rfl) (fun _ => by simp) RdFs.nil)) Tryd.underlying74 (by kernel_rfl) (fun _ => by simp) default) (fun p => ⟨p.1, p.2.1⟩) (fun _ => by simp) (fun _ h => by unfold TMachBank.wf; exact h)
def TMachUnit.wf (x : TMachUnit) : Prop := x.name.length ≤ maxLen ∧ inK .i64 x.count ∧ True
theorem rd_TMachUnit {H : Type} {en : TypeId × Value → H} {w : World} : ∀ n, RdAt en Tryd.prog w n 112 TMachUnit.row TMachUnit.wf
  | 0 => RdAt.zero
  | n + 1 => RdAt.conv (RdAt.struct (sz := 2) (RdFs.cons (sz := 1) (RdAt.str Tryd.underlying9 n) rfl (by kernel_rfl) (fun _ => by simp) (RdFs.cons (sz := 1) (RdAt.int Tryd.underlying3 n) rfl (by kernel_rfl) (fun _ => by simp) RdFs.nil)) Tryd.underlying112 (by kernel_rfl) (fun _ => by simp) default) (fun p => ⟨p.1, p.2.1⟩) (fun _ => by simp) (fun _ h => by unfold TMachUnit.wf; exact h)
def TMachPiece.wf (x : TMachPiece) : Prop := inK .i64 x.at_ ∧ inK .i64 x.len ∧ True
theorem rd_TMachPiece {H : Type} {en : TypeId × Value → H} {w : World} : ∀ n, RdAt en Tryd.prog w n 114 TMachPiece.row TMachPiece.wf
  | 0 => RdAt.zero
  | n + 1 => RdAt.conv (RdAt.struct (sz := 2) (RdFs.cons (sz := 1) (RdAt.int Tryd.underlying3 n) rfl (by kernel_rfl) (fun _ => by simp) (RdFs.cons (sz := 1) (RdAt.int Tryd.underlying3 n) rfl (by kernel_rfl) (fun _ => by simp) RdFs.nil)) Tryd.underlying114 (by kernel_rfl) (fun _ => by simp) default) (fun p => ⟨p.1, p.2.1⟩) (fun _ => by simp) (fun _ h => by unfold TMachPiece.wf; exact h)
def TMachOperand.wf (x : TMachOperand) : Prop := x.name.length ≤ maxLen ∧ inK .u8 x.kind ∧ inK .i64 x.bank ∧ inK .i64 x.scale ∧ (x.pieces.length ≤ maxLen ∧ ∀ y ∈ x.pieces, y.wf) ∧ inK .i64 x.tied ∧ True
theorem rd_TMachOperand {H : Type} {en : TypeId × Value → H} {w : World} : ∀ n, RdAt en Tryd.prog w n 51 TMachOperand.row TMachOperand.wf
  | 0 => RdAt.zero
  | n + 1 => RdAt.conv (RdAt.struct (sz := 6) (RdFs.cons (sz := 1) (RdAt.str Tryd.underlying9 n) rfl (by kernel_rfl) (fun _ => by simp) (RdFs.cons (sz := 1) (RdAt.int Tryd.underlying5 n) rfl (by kernel_rfl) (fun _ => by simp) (RdFs.cons (sz := 1) (RdAt.int Tryd.underlying3 n) rfl (by kernel_rfl) (fun _ => by simp) (RdFs.cons (sz := 1) (RdAt.int Tryd.underlying3 n) rfl (by kernel_rfl) (fun _ => by simp) (RdFs.cons (sz := 1) (RdAt.sliceA (sz := 2) (fun n => (rd_TMachPiece n)) Tryd.underlying49 (by kernel_rfl) (by omega) (fun _ => by simp) n) rfl (by kernel_rfl) (fun _ => by simp) (RdFs.cons (sz := 1) (RdAt.int Tryd.underlying3 n) rfl (by kernel_rfl) (fun _ => by simp) RdFs.nil)))))) Tryd.underlying51 (by kernel_rfl) (fun _ => by simp) default) (fun p => ⟨p.1, p.2.1, p.2.2.1, p.2.2.2.1, p.2.2.2.2.1, p.2.2.2.2.2.1⟩) (fun _ => by simp) (fun _ h => by unfold TMachOperand.wf; exact h)
mutual
def TTerm.wf : TTerm → Prop
  | ⟨kind, width, bits, name, low, sub⟩ => inK .u8 kind ∧ inK .i64 width ∧ inK .u64 bits ∧ name.length ≤ maxLen ∧ inK .i64 low ∧ (sub.length ≤ maxLen ∧ TTerm.wfL sub) ∧ True
def TTerm.wfL : List TTerm → Prop
  | [] => True
  | x :: xs => x.wf ∧ TTerm.wfL xs
end
theorem TTerm.wfL_iff : ∀ l : List TTerm, TTerm.wfL l ↔ ∀ y ∈ l, y.wf
  | [] => by simp [TTerm.wfL]
  | x :: xs => by simp [TTerm.wfL, TTerm.wfL_iff xs]
theorem TTerm.wf_iff (x : TTerm) : x.wf ↔ inK .u8 x.kind ∧ inK .i64 x.width ∧ inK .u64 x.bits ∧ x.name.length ≤ maxLen ∧ inK .i64 x.low ∧ (x.sub.length ≤ maxLen ∧ ∀ y ∈ x.sub, y.wf) ∧ True := by cases x; simp only [TTerm.wf, TTerm.wfL_iff]
theorem rd_TTerm {H : Type} {en : TypeId × Value → H} {w : World} (n : Nat) : RdAt en Tryd.prog w n 38 TTerm.row TTerm.wf := by
  have key : ∀ n m, m ≤ n → RdAt en Tryd.prog w m 38 TTerm.row TTerm.wf := by
    intro n
    induction n with
    | zero => intro m hm; obtain rfl : m = 0 := (by omega); exact RdAt.zero
    | succ n ih =>
      intro m hm
      cases m with
      | zero => exact RdAt.zero
      | succ m =>
        have rdSub : ∀ k, k ≤ m → RdAt en Tryd.prog w k 36 (fun xs : List TTerm => [.list .none (xs.map TTerm.row)]) (fun xs => xs.length ≤ maxLen ∧ ∀ x ∈ xs, TTerm.wf x) := fun k hk => by
          cases k with
          | zero => exact RdAt.zero
          | succ k => exact RdAt.slice (sz := 6) (ih k (by omega)) Tryd.underlying36 (by kernel_rfl) (by omega) (fun _ => by simp)
        exact RdAt.conv (RdAt.struct (sz := 6) (RdFs.cons (sz := 1) (RdAt.int Tryd.underlying5 m) rfl (by kernel_rfl) (fun _ => by simp) (RdFs.cons (sz := 1) (RdAt.int Tryd.underlying3 m) rfl (by kernel_rfl) (fun _ => by simp) (RdFs.cons (sz := 1) (RdAt.int Tryd.underlying35 m) rfl (by kernel_rfl) (fun _ => by simp) (RdFs.cons (sz := 1) (RdAt.str Tryd.underlying9 m) rfl (by kernel_rfl) (fun _ => by simp) (RdFs.cons (sz := 1) (RdAt.int Tryd.underlying3 m) rfl (by kernel_rfl) (fun _ => by simp) (RdFs.cons (sz := 1) (rdSub m (Nat.le_refl _)) rfl (by kernel_rfl) (fun _ => by simp) RdFs.nil)))))) Tryd.underlying38 (by kernel_rfl) (fun _ => by simp) default) (fun p => ⟨p.1, p.2.1, p.2.2.1, p.2.2.2.1, p.2.2.2.2.1, p.2.2.2.2.2.1⟩) (fun _ => by simp) (fun _ h => by rw [TTerm.wf_iff]; exact h)
  exact key n n (Nat.le_refl _)
def TMachEffect.wf (x : TMachEffect) : Prop := inK .u8 x.kind ∧ inK .i64 x.operand ∧ inK .i64 x.reg ∧ x.addr.wf ∧ x.value.wf ∧ x.cond.wf ∧ True
theorem rd_TMachEffect {H : Type} {en : TypeId × Value → H} {w : World} : ∀ n, RdAt en Tryd.prog w n 71 TMachEffect.row TMachEffect.wf
  | 0 => RdAt.zero
  | n + 1 => RdAt.conv (RdAt.struct (sz := 21) (RdFs.cons (sz := 1) (RdAt.int Tryd.underlying5 n) rfl (by kernel_rfl) (fun _ => by simp) (RdFs.cons (sz := 1) (RdAt.int Tryd.underlying3 n) rfl (by kernel_rfl) (fun _ => by simp) (RdFs.cons (sz := 1) (RdAt.int Tryd.underlying3 n) rfl (by kernel_rfl) (fun _ => by simp) (RdFs.cons (sz := 6) (rd_TTerm n) rfl (by kernel_rfl) (fun _ => by simp) (RdFs.cons (sz := 6) (rd_TTerm n) rfl (by kernel_rfl) (fun _ => by simp) (RdFs.cons (sz := 6) (rd_TTerm n) rfl (by kernel_rfl) (fun _ => by simp) RdFs.nil)))))) Tryd.underlying71 (by kernel_rfl) (fun _ => by simp) default) (fun p => ⟨p.1, p.2.1, p.2.2.1, p.2.2.2.1, p.2.2.2.2.1, p.2.2.2.2.2.1⟩) (fun _ => by simp) (fun _ h => by unfold TMachEffect.wf; exact h)
def TMachInstr.wf (x : TMachInstr) : Prop := x.name.length ≤ maxLen ∧ inK .u64 x.mask ∧ inK .u64 x.match_ ∧ (x.operands.length ≤ maxLen ∧ ∀ y ∈ x.operands, y.wf) ∧ (x.effects.length ≤ maxLen ∧ ∀ y ∈ x.effects, y.wf) ∧ inK .i64 x.unit ∧ inK .i64 x.busy ∧ inK .i64 x.latency ∧ inK .i64 x.slots ∧ True
theorem rd_TMachInstr {H : Type} {en : TypeId × Value → H} {w : World} : ∀ n, RdAt en Tryd.prog w n 48 TMachInstr.row TMachInstr.wf
  | 0 => RdAt.zero
  | n + 1 => RdAt.conv (RdAt.struct (sz := 9) (RdFs.cons (sz := 1) (RdAt.str Tryd.underlying9 n) rfl (by kernel_rfl) (fun _ => by simp) (RdFs.cons (sz := 1) (RdAt.int Tryd.underlying35 n) rfl (by kernel_rfl) (fun _ => by simp) (RdFs.cons (sz := 1) (RdAt.int Tryd.underlying35 n) rfl (by kernel_rfl) (fun _ => by simp) (RdFs.cons (sz := 1) (RdAt.sliceA (sz := 6) (fun n => (rd_TMachOperand n)) Tryd.underlying45 (by kernel_rfl) (by omega) (fun _ => by simp) n) rfl (by kernel_rfl) (fun _ => by simp) (RdFs.cons (sz := 1) (RdAt.sliceA (sz := 21) (fun n => (rd_TMachEffect n)) Tryd.underlying46 (by kernel_rfl) (by omega) (fun _ => by simp) n) rfl (by kernel_rfl) (fun _ => by simp) (RdFs.cons (sz := 1) (RdAt.int Tryd.underlying3 n) rfl (by kernel_rfl) (fun _ => by simp) (RdFs.cons (sz := 1) (RdAt.int Tryd.underlying3 n) rfl (by kernel_rfl) (fun _ => by simp) (RdFs.cons (sz := 1) (RdAt.int Tryd.underlying3 n) rfl (by kernel_rfl) (fun _ => by simp) (RdFs.cons (sz := 1) (RdAt.int Tryd.underlying3 n) rfl (by kernel_rfl) (fun _ => by simp) RdFs.nil))))))))) Tryd.underlying48 (by kernel_rfl) (fun _ => by simp) default) (fun p => ⟨p.1, p.2.1, p.2.2.1, p.2.2.2.1, p.2.2.2.2.1, p.2.2.2.2.2.1, p.2.2.2.2.2.2.1, p.2.2.2.2.2.2.2.1, p.2.2.2.2.2.2.2.2.1⟩) (fun _ => by simp) (fun _ h => by unfold TMachInstr.wf; exact h)
def TMachine.wf (x : TMachine) : Prop := x.name.length ≤ maxLen ∧ inK .i64 x.word ∧ inK .i64 x.address ∧ (x.regs.length ≤ maxLen ∧ ∀ y ∈ x.regs, y.wf) ∧ (x.banks.length ≤ maxLen ∧ ∀ y ∈ x.banks, y.wf) ∧ (x.units.length ≤ maxLen ∧ ∀ y ∈ x.units, y.wf) ∧ (x.instrs.length ≤ maxLen ∧ ∀ y ∈ x.instrs, y.wf) ∧ True
theorem rd_TMachine {H : Type} {en : TypeId × Value → H} {w : World} : ∀ n, RdAt en Tryd.prog w n 27 TMachine.row TMachine.wf
  | 0 => RdAt.zero
  | n + 1 => RdAt.conv (RdAt.struct (sz := 7) (RdFs.cons (sz := 1) (RdAt.str Tryd.underlying9 n) rfl (by kernel_rfl) (fun _ => by simp) (RdFs.cons (sz := 1) (RdAt.int Tryd.underlying3 n) rfl (by kernel_rfl) (fun _ => by simp) (RdFs.cons (sz := 1) (RdAt.int Tryd.underlying3 n) rfl (by kernel_rfl) (fun _ => by simp) (RdFs.cons (sz := 1) (RdAt.sliceA (sz := 4) (fun n => (rd_TMachReg n)) Tryd.underlying22 (by kernel_rfl) (by omega) (fun _ => by simp) n) rfl (by kernel_rfl) (fun _ => by simp) (RdFs.cons (sz := 1) (RdAt.sliceA (sz := 2) (fun n => (rd_TMachBank n)) Tryd.underlying23 (by kernel_rfl) (by omega) (fun _ => by simp) n) rfl (by kernel_rfl) (fun _ => by simp) (RdFs.cons (sz := 1) (RdAt.sliceA (sz := 2) (fun n => (rd_TMachUnit n)) Tryd.underlying24 (by kernel_rfl) (by omega) (fun _ => by simp) n) rfl (by kernel_rfl) (fun _ => by simp) (RdFs.cons (sz := 1) (RdAt.sliceA (sz := 9) (fun n => (rd_TMachInstr n)) Tryd.underlying25 (by kernel_rfl) (by omega) (fun _ => by simp) n) rfl (by kernel_rfl) (fun _ => by simp) RdFs.nil))))))) Tryd.underlying27 (by kernel_rfl) (fun _ => by simp) default) (fun p => ⟨p.1, p.2.1, p.2.2.1, p.2.2.2.1, p.2.2.2.2.1, p.2.2.2.2.2.1, p.2.2.2.2.2.2.1⟩) (fun _ => by simp) (fun _ h => by unfold TMachine.wf; exact h)
def TPatternArg.wf (x : TPatternArg) : Prop := inK .i64 x.operand ∧ x.term.wf ∧ True
theorem rd_TPatternArg {H : Type} {en : TypeId × Value → H} {w : World} : ∀ n, RdAt en Tryd.prog w n 68 TPatternArg.row TPatternArg.wf
  | 0 => RdAt.zero
  | n + 1 => RdAt.conv (RdAt.struct (sz := 7) (RdFs.cons (sz := 1) (RdAt.int Tryd.underlying3 n) rfl (by kernel_rfl) (fun _ => by simp) (RdFs.cons (sz := 6) (rd_TTerm n) rfl (by kernel_rfl) (fun _ => by simp) RdFs.nil)) Tryd.underlying68 (by kernel_rfl) (fun _ => by simp) default) (fun p => ⟨p.1, p.2.1⟩) (fun _ => by simp) (fun _ h => by unfold TPatternArg.wf; exact h)
theorem LdAt.zero {H : Type} {en : TypeId × Value → H} {P : Program} {w : World} {t : TypeId} : LdAt en P w 0 t := fun sp hd cs d ps h => by simp only [DataW.trod] at h; cases h
theorem ld_elem {H : Type} {en : TypeId × Value → H} {w : World} : ∀ n, LdAt en Tryd.prog w n 130
  | 0 => LdAt.zero
  | n + 1 => LdAt.struct (sz := 3) (LdFs.cons (sz := 1) (LdAt.str Tryd.underlying9 n) rfl (by kernel_rfl) (LdFs.cons (sz := 1) (LdAt.int Tryd.underlying3 n) rfl (by kernel_rfl) (LdFs.cons (sz := 1) (LdAt.int Tryd.underlying3 n) rfl (by kernel_rfl) LdFs.nil))) Tryd.underlying130 (by kernel_rfl)
theorem ld_tab {H : Type} {en : TypeId × Value → H} {w : World} : ∀ n, LdAt en Tryd.prog w n 151
  | 0 => LdAt.zero
  | n + 1 => LdAt.array (m := 25) (sz := 3) (ld_elem n) Tryd.underlying151 (by kernel_rfl) (by kernel_rfl)
end Go.Proofs.YtpjkepfplhllfaaDoor.Av
