/-
Plain words about effects, instructions, and which machines are valid.
-/
import Derived.Test.YtpjkepfplhllfaaDoorL6
namespace Go.Proofs.YtpjkepfplhllfaaDoor.Av
set_option linter.unusedSimpArgs false
set_option linter.unusedVariables false
open Go
/-- What an effect asks for. -/
def EffectP (m : TMachine) (s : TMachInstr) (vars : List (List UInt8 × Int)) (x : TMachEffect) : Prop :=
  (x.kind ≠ 1 → x.operand = 0 ∧ x.reg = 0) ∧ FitsP vars m.address x.value ∧
  ((x.kind = 1 ∧ (ZeroT x.addr ∧ ZeroT x.cond) ∧
      ((x.operand = -1 ∧ (0 ≤ x.reg ∧ x.reg < (m.regs.length : Int)) ∧ x.value.width = (nth m.regs x.reg).width) ∨
       (x.operand ≠ -1 ∧ x.reg = 0 ∧ (0 ≤ x.operand ∧ x.operand < (s.operands.length : Int)) ∧ (nth s.operands x.operand).kind = 1 ∧ x.value.width = wideV m (nth s.operands x.operand)))) ∨
   (x.kind = 2 ∧ FitsP vars m.address x.addr ∧ ZeroT x.cond ∧ x.addr.width = m.address ∧ x.value.width ∈ [(8 : Int), 16, 32, 64]) ∨
   (x.kind = 3 ∧ ZeroT x.addr ∧ x.value.width = m.address ∧ (ZeroT x.cond ∨ FitsP vars m.address x.cond ∧ x.cond.width = 1)) ∨
   (x.kind = 4 ∧ ZeroT x.addr ∧ ZeroT x.cond))
structure EffectOK (x : TMachEffect) : Prop where
  addr : x.addr.wf ∧ x.addr.nodes.length ≤ 100000
  value : x.value.wf ∧ x.value.nodes.length ≤ 100000
  cond : x.cond.wf ∧ x.cond.nodes.length ≤ 100000
theorem effect_eq {c : TMachineChecker} {s : TMachInstr} {x : TMachEffect} (vars : List (List UInt8 × Int)) (hx : EffectOK x) (hr : c.machine.regs.length ≤ 1000) (ho : s.operands.length ≤ 1000) (hw : ∀ o ∈ s.operands, WideOK c.machine o) :
    ∃ c', machine_checker_effect c s x vars = some (c', vars) ∧ c'.machine = c.machine ∧ (c'.ok = true ↔ c.ok = true ∧ EffectP c.machine s vars x) := by
  obtain ⟨M, ok⟩ := c
  simp only at hr hw ⊢
  have hw1 : IntKind.i64.wrap ((M.regs.length : Int) - 1) = (M.regs.length : Int) - 1 := wrap_i64 (by omega) (by omega)
  have hw2 : IntKind.i64.wrap ((s.operands.length : Int) - 1) = (s.operands.length : Int) - 1 := wrap_i64 (by omega) (by omega)
  obtain ⟨bz2, hz2, hz2'⟩ := none_tells (l := [x.addr, x.cond]) (by simp [maxLen_eq])
  obtain ⟨bza, hza, hza'⟩ := none_tells (l := [x.addr]) (by simp [maxLen_eq])
  obtain ⟨bzc, hzc, hzc'⟩ := none_tells (l := [x.cond]) (by simp [maxLen_eq])
  simp only [List.mem_cons, List.not_mem_nil, or_false, forall_eq_or_imp, forall_eq] at hz2' hza' hzc'
  have rest : ∀ q : Bool, ∃ c', machine_checker_effect.j0 s x vars ⟨M, q⟩ = some (c', vars) ∧ c'.machine = M ∧ (c'.ok = true ↔ q = true ∧ FitsP vars M.address x.value ∧
      ((x.kind = 1 ∧ (ZeroT x.addr ∧ ZeroT x.cond) ∧
          ((x.operand = -1 ∧ (0 ≤ x.reg ∧ x.reg < (M.regs.length : Int)) ∧ x.value.width = (nth M.regs x.reg).width) ∨
           (x.operand ≠ -1 ∧ x.reg = 0 ∧ (0 ≤ x.operand ∧ x.operand < (s.operands.length : Int)) ∧ (nth s.operands x.operand).kind = 1 ∧ x.value.width = wideV M (nth s.operands x.operand)))) ∨
       (x.kind = 2 ∧ FitsP vars M.address x.addr ∧ ZeroT x.cond ∧ x.addr.width = M.address ∧ x.value.width ∈ [(8 : Int), 16, 32, 64]) ∨
       (x.kind = 3 ∧ ZeroT x.addr ∧ x.value.width = M.address ∧ (ZeroT x.cond ∨ FitsP vars M.address x.cond ∧ x.cond.width = 1)) ∨
       (x.kind = 4 ∧ ZeroT x.addr ∧ ZeroT x.cond))) := by
    intro q
    obtain ⟨⟨M1, q1⟩, f1, f2, f3⟩ := fits_eq (c := ⟨M, q⟩) vars hx.value.1 hx.value.2
    simp only at f2 f3
    subst f2
    unfold machine_checker_effect.j0
    simp only [f1, Option.bind_some]
    rw [← and_assoc, ← f3]
    by_cases k1 : x.kind = 1
    · rw [if_pos (by simpa using k1)]
      simp only [hz2, Option.bind_some, must1, must2, within_eq, hw1, hw2]
      have alt : ((x.kind = 1 ∧ (ZeroT x.addr ∧ ZeroT x.cond) ∧
          ((x.operand = -1 ∧ (0 ≤ x.reg ∧ x.reg < (M1.regs.length : Int)) ∧ x.value.width = (nth M1.regs x.reg).width) ∨
           (x.operand ≠ -1 ∧ x.reg = 0 ∧ (0 ≤ x.operand ∧ x.operand < (s.operands.length : Int)) ∧ (nth s.operands x.operand).kind = 1 ∧ x.value.width = wideV M1 (nth s.operands x.operand)))) ∨
         (x.kind = 2 ∧ FitsP vars M1.address x.addr ∧ ZeroT x.cond ∧ x.addr.width = M1.address ∧ x.value.width ∈ [(8 : Int), 16, 32, 64]) ∨
         (x.kind = 3 ∧ ZeroT x.addr ∧ x.value.width = M1.address ∧ (ZeroT x.cond ∨ FitsP vars M1.address x.cond ∧ x.cond.width = 1)) ∨
         (x.kind = 4 ∧ ZeroT x.addr ∧ ZeroT x.cond)) ↔ bz2 = true ∧
          ((x.operand = -1 ∧ (0 ≤ x.reg ∧ x.reg < (M1.regs.length : Int)) ∧ x.value.width = (nth M1.regs x.reg).width) ∨
           (x.operand ≠ -1 ∧ x.reg = 0 ∧ (0 ≤ x.operand ∧ x.operand < (s.operands.length : Int)) ∧ (nth s.operands x.operand).kind = 1 ∧ x.value.width = wideV M1 (nth s.operands x.operand))) := by
        rw [hz2']; simp [k1]
      rw [alt]
      by_cases c1 : x.operand = -1 ∧ 0 ≤ x.reg ∧ x.reg ≤ (M1.regs.length : Int) - 1
      · rw [if_pos (by simpa using c1.1), Option.bind_some, if_pos (by simp only [Bool.and_eq_true, decide_eq_true_eq]; exact c1), if_pos (by omega)]
        refine ⟨_, rfl, rfl, ?_⟩
        simp only [Bool.and_eq_true, decide_eq_true_eq, c1.1]
        constructor
        · rintro ⟨⟨a, b⟩, d⟩; exact ⟨a, b, .inl ⟨trivial, ⟨c1.2.1, by omega⟩, d⟩⟩
        · rintro ⟨a, b, ⟨_, _, d⟩ | ⟨d, _⟩⟩
          · exact ⟨⟨a, b⟩, d⟩
          · exact absurd rfl d
      · have e1 : ((if decide (x.operand = -1) = true then some (decide (0 ≤ x.reg) && decide (x.reg ≤ (M1.regs.length : Int) - 1)) else some default) : Option Bool) = some (decide (x.operand = -1) && (decide (0 ≤ x.reg) && decide (x.reg ≤ (M1.regs.length : Int) - 1))) := if_some
        rw [e1, Option.bind_some, and_in, if_neg (by simp only [Bool.and_eq_true, decide_eq_true_eq]; exact c1)]
        have e2 : ((if decide (x.reg = 0) = true then some (decide (0 ≤ x.operand) && decide (x.operand ≤ (s.operands.length : Int) - 1)) else some default) : Option Bool) = some (decide (x.reg = 0) && (decide (0 ≤ x.operand) && decide (x.operand ≤ (s.operands.length : Int) - 1))) := if_some
        rw [e2, Option.bind_some, and_in]
        by_cases c2 : x.reg = 0 ∧ 0 ≤ x.operand ∧ x.operand ≤ (s.operands.length : Int) - 1
        · rw [if_pos (by simp only [Bool.and_eq_true, decide_eq_true_eq]; exact c2), if_pos (by omega), wide_eq (hw _ (nth_mem c2.2.1 (by omega)))]
          simp only [Option.bind_some]
          refine ⟨_, rfl, rfl, ?_⟩
          simp only [Bool.and_eq_true, decide_eq_true_eq]
          constructor
          · rintro ⟨⟨a, b⟩, d, e⟩; exact ⟨a, b, .inr ⟨by omega, c2.1, ⟨c2.2.1, by omega⟩, d, e⟩⟩
          · rintro ⟨a, b, ⟨d, _⟩ | ⟨_, _, _, d, e⟩⟩
            · omega
            · exact ⟨⟨a, b⟩, d, e⟩
        · rw [if_neg (by simp only [Bool.and_eq_true, decide_eq_true_eq]; exact c2)]
          refine ⟨_, rfl, rfl, ?_⟩
          simp only [Bool.and_false, Bool.false_eq_true, false_iff, not_and]
          rintro _ _ (⟨d, e, _⟩ | ⟨_, d, e, _⟩)
          · exact c1 ⟨d, e.1, by omega⟩
          · exact c2 ⟨d, e.1, by omega⟩
    · rw [if_neg (by simpa using k1)]
      by_cases k2 : x.kind = 2
      · rw [if_pos (by simpa using k2)]
        obtain ⟨⟨M2, q2⟩, g1, g2, g3⟩ := fits_eq (c := ⟨M1, q1⟩) vars hx.addr.1 hx.addr.2
        simp only at g2 g3
        subst g2
        obtain ⟨bc, hc, hc'⟩ := contains_int (l := [8, 16, 32, 64]) (v := x.value.width) (by simp [maxLen_eq])
        simp only [g1, hzc, hc, Option.bind_some, must3]
        refine ⟨_, rfl, rfl, ?_⟩
        simp only [Bool.and_eq_true, decide_eq_true_eq, g3, hzc', hc', k2]
        constructor
        · rintro ⟨⟨a, b⟩, d, e, f⟩; exact ⟨a, .inr (.inl ⟨trivial, b, d, e, f⟩)⟩
        · rintro ⟨a, ⟨h, _⟩ | ⟨_, b, d, e, f⟩ | ⟨h, _⟩ | ⟨h, _⟩⟩
          · omega
          · exact ⟨⟨a, b⟩, d, e, f⟩
          · omega
          · omega
      · rw [if_neg (by simpa using k2)]
        by_cases k3 : x.kind = 3
        · rw [if_pos (by simpa using k3)]
          simp only [hza, hzc, Option.bind_some, must2]
          by_cases hb : bzc = true
          · subst hb
            rw [if_neg (by simp)]
            refine ⟨_, rfl, rfl, ?_⟩
            simp only [Bool.and_eq_true, decide_eq_true_eq, hza', k3]
            constructor
            · rintro ⟨a, b, d⟩; exact ⟨a, .inr (.inr (.inl ⟨trivial, b, d, .inl (hzc'.1 rfl)⟩))⟩
            · rintro ⟨a, ⟨h, _⟩ | ⟨h, _⟩ | ⟨_, b, d, _⟩ | ⟨h, _⟩⟩
              · omega
              · omega
              · exact ⟨a, b, d⟩
              · omega
          · have hb' : bzc = false := Bool.eq_false_iff.2 hb
            subst hb'
            rw [if_pos (by simp)]
            obtain ⟨⟨M2, q2⟩, g1, g2, g3⟩ := fits_eq (c := ⟨M1, q1 && (bza && decide (x.value.width = M1.address))⟩) vars hx.cond.1 hx.cond.2
            simp only at g2 g3
            subst g2
            simp only [g1, Option.bind_some, must1]
            refine ⟨_, rfl, rfl, ?_⟩
            simp only [Bool.and_eq_true, decide_eq_true_eq, g3, hza', k3]
            constructor
            · rintro ⟨⟨⟨a, b, d⟩, e⟩, f⟩; exact ⟨a, .inr (.inr (.inl ⟨trivial, b, d, .inr ⟨e, f⟩⟩))⟩
            · rintro ⟨a, ⟨h, _⟩ | ⟨h, _⟩ | ⟨_, b, d, e | ⟨e, f⟩⟩ | ⟨h, _⟩⟩
              · omega
              · omega
              · exact absurd (hzc'.2 e) (by simp)
              · exact ⟨⟨⟨a, b, d⟩, e⟩, f⟩
              · omega
        · rw [if_neg (by simpa using k3)]
          by_cases k4 : x.kind = 4
          · rw [if_pos (by simpa using k4)]
            simp only [hz2, Option.bind_some, must1]
            refine ⟨_, rfl, rfl, ?_⟩
            simp only [Bool.and_eq_true, hz2', k4]
            constructor
            · rintro ⟨a, b⟩; exact ⟨a, .inr (.inr (.inr ⟨trivial, b⟩))⟩
            · rintro ⟨a, ⟨h, _⟩ | ⟨h, _⟩ | ⟨h, _⟩ | ⟨_, b⟩⟩
              · omega
              · omega
              · omega
              · exact ⟨a, b⟩
          · rw [if_neg (by simpa using k4)]
            simp only [Option.bind_some, must1]
            refine ⟨_, rfl, rfl, ?_⟩
            simp only [Bool.and_false, Bool.false_eq_true, false_iff, not_and]
            rintro _ (⟨h, _⟩ | ⟨h, _⟩ | ⟨h, _⟩ | ⟨h, _⟩)
            · exact k1 h
            · exact k2 h
            · exact k3 h
            · exact k4 h
  unfold machine_checker_effect
  unfold EffectP
  by_cases k1 : x.kind = 1
  · rw [if_neg (by simpa using k1)]
    obtain ⟨c', h1, h2, h3⟩ := rest ok
    exact ⟨c', h1, h2, h3.trans (by simp [k1])⟩
  · rw [if_pos (by simpa using k1), must2, Option.bind_some]
    obtain ⟨c', h1, h2, h3⟩ := rest (ok && (decide (x.operand = 0) && decide (x.reg = 0)))
    refine ⟨c', h1, h2, h3.trans ?_⟩
    simp only [Bool.and_eq_true, decide_eq_true_eq]
    constructor
    · rintro ⟨⟨a, b⟩, d⟩; exact ⟨a, fun _ => b, d⟩
    · rintro ⟨a, b, d⟩; exact ⟨⟨a, b k1⟩, d⟩
noncomputable def takenUpto (mask : Int) (l : List TMachOperand) (i : Nat) : Int := (l.take i).foldl (fun t o => ior .u64 t (takenOf o.pieces 0)) mask
def OperandP (m : TMachine) (s : TMachInstr) (i : Nat) (o : TMachOperand) : Prop := PiecesUpto m.word o.pieces o.pieces.length ∧ KindP m s i o ∧ iand .u64 (takenUpto s.mask s.operands i) (takenOf o.pieces 0) = 0
def OperandsUpto (m : TMachine) (s : TMachInstr) (i : Nat) : Prop := ∀ j (h : j < s.operands.length), j < i → OperandP m s j s.operands[j]
theorem OperandsUpto.succ {m : TMachine} {s : TMachInstr} {i : Nat} (h : i < s.operands.length) : OperandsUpto m s (i + 1) ↔ OperandsUpto m s i ∧ OperandP m s i s.operands[i] := by
  constructor
  · exact fun hh => ⟨fun j hj hji => hh j hj (by omega), hh i h (by omega)⟩
  · rintro ⟨h1, h2⟩ j hj hji
    by_cases e : j = i
    · subst e; exact h2
    · exact h1 j hj (by omega)
/-- How many effects have a kind. -/
def cnt (k : Int) (l : List TMachEffect) : Nat := (l.filter fun x => decide (x.kind = k)).length
def InstrP (m : TMachine) (s : TMachInstr) : Prop :=
  (iandNot .u64 s.mask (maskV (IntKind.i64.wrap (8 * m.word))) = 0 ∧ iandNot .u64 s.match_ s.mask = 0) ∧ NamesP [[112, 99]] (s.operands.map (·.name)) s.operands.length ∧ OperandsUpto m s s.operands.length ∧
  (∀ x ∈ s.effects, EffectP m s (varsOf m s.operands) x) ∧ cnt 3 s.effects ≤ 1 ∧ (cnt 4 s.effects = 0 ∨ s.effects.length = 1) ∧ (0 ≤ s.unit ∧ s.unit < (m.units.length : Int)) ∧ (1 ≤ s.busy ∧ s.busy ≤ 15) ∧ (1 ≤ s.latency ∧ s.latency ≤ 15) ∧ (0 ≤ s.slots ∧ s.slots ≤ 2) ∧ (s.slots = 0 ∨ cnt 3 s.effects = 1)
theorem wide_ok {m : TMachine} {s : TMachInstr} {i : Nat} {o : TMachOperand} (hb : BanksP m) (h : KindP m s i o) : WideOK m o := by
  intro hk
  rcases h with ⟨_, h1, _⟩ | ⟨h1, _⟩
  · have hm := nth_mem h1.1 h1.2
    obtain ⟨b1, b2⟩ := hb.2 _ hm
    have := (b2 0 b1 b1).1
    have e : nth (nth m.banks o.bank).regs 0 = (nth m.banks o.bank).regs[0] := nth_nat _ (i := 0) b1
    exact ⟨h1, b1, by rw [e]; exact this.1, by rw [e]; exact this.2⟩
  · omega
structure InstrOK (m : TMachine) (s : TMachInstr) : Prop where
  ops : s.operands.length ≤ 4
  effs : s.effects.length ≤ 4
  pieces : ∀ o ∈ s.operands, o.pieces.length ≤ 4
  eff : ∀ x ∈ s.effects, EffectOK x
structure MachOK (m : TMachine) : Prop where
  regs : m.regs.length ≤ 64
  banks : m.banks.length ≤ 16
  units : m.units.length ≤ 8
  instrs : m.instrs.length ≤ 64
  bank : ∀ b ∈ m.banks, b.regs.length ≤ 64
  instr : ∀ s ∈ m.instrs, InstrOK m s
theorem name_len {s : List UInt8} (h : nameB s = true) : s.length ≤ 24 := by
  unfold nameB bits_Name at h
  split at h
  · simp at h
  · rename_i hh
    simp only [Bool.or_eq_true, decide_eq_true_eq, not_or] at hh
    omega
theorem names_len {u0 l : List (List UInt8)} (h : NamesP u0 l l.length) : ∀ s ∈ l, s.length ≤ 24 := fun s hs => by
  obtain ⟨j, hj, e⟩ := List.getElem_of_mem hs
  rw [← e]; exact name_len (h j hj hj).1
theorem instr_chk {c : TMachineChecker} {s : TMachInstr} (hM : MachOK c.machine) (hs : InstrOK c.machine s) (hw : c.ok = true → 1 ≤ c.machine.word ∧ c.machine.word ≤ 4) (hR : c.ok = true → RegsP c.machine) (hB : c.ok = true → BanksP c.machine) : Chk (machine_checker_instr c s) c (InstrP c.machine s) := by
  obtain ⟨M, ok⟩ := c
  simp only at hM hs hw hR hB ⊢
  obtain ⟨m1, m2, m3, m4, m5, m6⟩ := hM
  obtain ⟨s1, s2, s3, s4⟩ := hs
  unfold machine_checker_instr
  rw [Mask_eq, Option.bind_some, must2, Option.bind_some]
  generalize hok0 : (ok && (decide (iandNot .u64 s.mask (maskV (IntKind.i64.wrap (8 * M.word))) = 0) && decide (iandNot .u64 s.match_ s.mask = 0))) = ok0
  have hok0' : ok0 = true → ok = true := fun h => by rw [← hok0] at h; simp only [Bool.and_eq_true] at h; exact h.1
  have key : ∃ r, Fx.fx (machine_checker_instr.l0 s) (s.mask, 0, [[112, 99]], ⟨M, ok0⟩) = some r ∧ r.machine = M ∧ (r.ok = true ↔ ok0 = true ∧ NamesP [[112, 99]] (s.operands.map (·.name)) s.operands.length ∧ OperandsUpto M s s.operands.length ∧
      (∀ x ∈ s.effects, EffectP M s (varsOf M s.operands) x) ∧ cnt 3 s.effects ≤ 1 ∧ (cnt 4 s.effects = 0 ∨ s.effects.length = 1) ∧ (0 ≤ s.unit ∧ s.unit < (M.units.length : Int)) ∧ (1 ≤ s.busy ∧ s.busy ≤ 15) ∧ (1 ≤ s.latency ∧ s.latency ≤ 15) ∧ (0 ≤ s.slots ∧ s.slots ≤ 2) ∧ (s.slots = 0 ∨ cnt 3 s.effects = 1)) := by
    refine fx_for (step := machine_checker_instr.l0 s) s.operands.length (fun i w => w.2.1 = (i : Int) ∧ w.2.2.1 = [[112, 99]] ++ (s.operands.map (·.name)).take i ∧ w.2.2.2.machine = M ∧ (w.2.2.2.ok = true ↔ ok0 = true ∧ NamesP [[112, 99]] (s.operands.map (·.name)) i ∧ OperandsUpto M s i) ∧ (w.2.2.2.ok = true → w.1 = takenUpto s.mask s.operands i)) _ ⟨rfl, by simp, rfl, by simp [NamesP.zero, OperandsUpto], fun _ => by simp [takenUpto]⟩ (fun i w hi ⟨w1, w2, w3, w4, w5⟩ => ?_) (fun w ⟨w1, w2, w3, w4, w5⟩ => ?_)
    · obtain ⟨t, j, u, ⟨M', k⟩⟩ := w
      simp only at w1 w2 w3 w4 w5
      subst w1 w3
      simp only [machine_checker_instr.l0]
      obtain ⟨b, hb1, hb2⟩ := fresh_eq ⟨u⟩ (s.operands[i].name) (by simp only [w2, List.length_append, List.length_take, List.length_map, List.length_cons, List.length_nil]; omega)
      have hnm : (s.operands.map (·.name))[i]'(by simpa using hi) = s.operands[i].name := by simp
      rw [if_pos (by simpa using hi), if_pos (inb hi)]
      simp only [nth_nat _ hi, hb1, Option.bind_some, must1]
      obtain ⟨⟨M2, k2⟩, n, o1, o2, o3, o4⟩ := operand_eq (c := ⟨M', k && b⟩) (s := s) hi (by omega) (by show M'.banks.length ≤ 1000; omega) (fun b hb => by have := m5 b hb; omega) (s3 _ (List.getElem_mem hi)) (fun h => by simp only [Bool.and_eq_true] at h; exact hw (hok0' (w4.1 h.1).1))
      simp only at o2 o3 o4
      subst o2
      simp only [o1, Option.bind_some]
      have hu : u ++ [s.operands[i].name] = [[112, 99]] ++ (s.operands.map (·.name)).take (i + 1) := by
        rw [take_snoc (by simpa using hi), w2, hnm, List.append_assoc]
      refine .inl ⟨_, rfl, wrap_succ (by omega), hu, rfl, ?_, ?_⟩
      · rw [NamesP.succ (by simpa using hi), OperandsUpto.succ hi, hnm]
        have hb3 : b = true ↔ nameB s.operands[i].name = true ∧ s.operands[i].name ∉ [[112, 99]] ++ (s.operands.map (·.name)).take i := by rw [hb2, ← w2]
        simp only [Bool.and_eq_true, decide_eq_true_eq, OperandP]
        constructor
        · rintro ⟨a, e⟩
          obtain ⟨a1, a2⟩ := o3.1 a
          simp only [Bool.and_eq_true] at a1
          obtain ⟨a3, a4, a5⟩ := w4.1 a1.1
          rw [w5 a1.1, o4 a] at e
          exact ⟨a3, ⟨a4, hb3.1 a1.2⟩, a5, a2.1, a2.2, e⟩
        · rintro ⟨a3, ⟨a4, a6⟩, a5, a7, a8, e⟩
          have hk : k = true := w4.2 ⟨a3, a4, a5⟩
          have hk2 : k2 = true := o3.2 ⟨by simp [hk, hb3.2 a6], a7, a8⟩
          refine ⟨hk2, ?_⟩
          rw [w5 hk, o4 hk2]; exact e
      · intro h
        simp only [Bool.and_eq_true] at h
        have a1 := (o3.1 h.1).1
        simp only [Bool.and_eq_true] at a1
        rw [w5 a1.1, o4 h.1, takenUpto, takenUpto, take_snoc hi, List.foldl_append, List.foldl_cons, List.foldl_nil]
    · obtain ⟨t, j, u, ⟨M', k⟩⟩ := w
      simp only at w1 w2 w3 w4 w5
      subst w1 w3
      simp only [machine_checker_instr.l0]
      rw [if_neg (by simp)]
      cases hk : k with
      | false =>
        rw [if_pos (by rfl)]
        refine ⟨_, rfl, rfl, ⟨fun e => by simp at e, fun ⟨a, b, d, _⟩ => ?_⟩⟩
        have := w4.2 ⟨a, b, d⟩
        rw [hk] at this; cases this
      | true =>
        rw [if_neg (by simp)]
        obtain ⟨a1, a2, a3⟩ := w4.1 hk
        have hB' := hB (hok0' a1)
        have hR' := hR (hok0' a1)
        have hwide : ∀ o ∈ s.operands, WideOK M' o := fun o ho => by
          obtain ⟨j, hj, e⟩ := List.getElem_of_mem ho
          rw [← e]; exact wide_ok hB' (a3 j hj hj).2.1
        rw [variables_eq (c := ⟨M', true⟩) hwide (fun r hr => by have := names_len (by simpa using hR'.2.1) r.name (List.mem_map.2 ⟨r, hr, rfl⟩); omega) (by show M'.regs.length ≤ 1000; omega) (by omega), Option.bind_some]
        simp only
        have inner : ∃ r, Fx.fx (machine_checker_instr.l1 s) (0, ⟨M', true⟩, [], varsOf M' s.operands) = some r ∧ r.machine = M' ∧ (r.ok = true ↔ (∀ x ∈ s.effects, EffectP M' s (varsOf M' s.operands) x) ∧ cnt 3 s.effects ≤ 1 ∧ (cnt 4 s.effects = 0 ∨ s.effects.length = 1) ∧ (0 ≤ s.unit ∧ s.unit < (M'.units.length : Int)) ∧ (1 ≤ s.busy ∧ s.busy ≤ 15) ∧ (1 ≤ s.latency ∧ s.latency ≤ 15) ∧ (0 ≤ s.slots ∧ s.slots ≤ 2) ∧ (s.slots = 0 ∨ cnt 3 s.effects = 1)) := by
          refine fx_for (step := machine_checker_instr.l1 s) s.effects.length (fun i w => w.1 = (i : Int) ∧ w.2.1.machine = M' ∧ (w.2.1.ok = true ↔ ∀ x ∈ s.effects.take i, EffectP M' s (varsOf M' s.operands) x) ∧ (∀ k, (aget w.2.2.1 k).getD 0 = (cnt k (s.effects.take i) : Int)) ∧ w.2.2.2 = varsOf M' s.operands) _ ⟨rfl, rfl, by simp, fun k => by simp [aget, cnt], rfl⟩ (fun i w hi ⟨v1, v2, v3, v4, v5⟩ => ?_) (fun w ⟨v1, v2, v3, v4, v5⟩ => ?_)
          · obtain ⟨j2, ⟨M2, k2⟩, kinds, vs⟩ := w
            simp only at v1 v2 v3 v4 v5
            subst v1 v2 v5
            simp only [machine_checker_instr.l1]
            obtain ⟨⟨M3, k3⟩, e1, e2, e3⟩ := effect_eq (c := ⟨M2, k2⟩) (s := s) (varsOf M2 s.operands) (s4 _ (List.getElem_mem hi)) (by show M2.regs.length ≤ 1000; omega) (by omega) hwide
            simp only at e2 e3
            subst e2
            rw [if_pos (by simpa using hi), if_pos (inb hi)]
            simp only [nth_nat _ hi, e1, Option.bind_some]
            refine .inl ⟨_, rfl, wrap_succ (by omega), rfl, ?_, fun k => ?_, rfl⟩
            · rw [take_all hi, e3, v3]
            · simp only [aget_aput, v4]
              have hc : ∀ k, cnt k (s.effects.take (i + 1)) = cnt k (s.effects.take i) + (if s.effects[i].kind = k then 1 else 0) := fun k => by
                rw [take_snoc hi]
                simp only [cnt, List.filter_append, List.length_append, List.filter_cons, List.filter_nil, decide_eq_true_eq]
                split <;> rfl
              have hle : ∀ k, cnt k (s.effects.take i) ≤ 4 := fun k => by
                unfold cnt
                have := List.length_filter_le (fun x : TMachEffect => decide (x.kind = k)) (s.effects.take i)
                rw [List.length_take] at this
                omega
              rw [hc]
              split
              · rename_i e; subst e
                have := hle s.effects[i].kind
                rw [Option.getD_some, if_pos rfl, wrap_i64 (by omega) (by omega)]; rfl
              · rename_i e
                rw [if_neg (fun e' => e e'.symm), v4]; rfl
          · obtain ⟨j2, ⟨M2, k2⟩, kinds, vs⟩ := w
            simp only at v1 v2 v3 v4 v5
            subst v1 v2 v5
            simp only [machine_checker_instr.l1, within_eq, Option.bind_some, must7, v4]
            rw [List.take_length] at v3 v4
            rw [if_neg (by simp)]
            refine ⟨_, rfl, rfl, ?_⟩
            have hw1 : IntKind.i64.wrap ((M2.units.length : Int) - 1) = (M2.units.length : Int) - 1 := wrap_i64 (by omega) (by omega)
            simp only [Bool.and_eq_true, Bool.or_eq_true, decide_eq_true_eq, v3, List.take_length, hw1]
            constructor
            · rintro ⟨g1, g2, g3, g4, g5, g6, g7, g8⟩; exact ⟨g1, by omega, by omega, by omega, g5, g6, g7, by omega⟩
            · rintro ⟨g1, g2, g3, g4, g5, g6, g7, g8⟩; exact ⟨g1, by omega, by omega, by omega, g5, g6, g7, by omega⟩
        obtain ⟨r, r1, r2, r3⟩ := inner
        rw [r1]
        refine ⟨_, rfl, r2, r3.trans ?_⟩
        constructor
        · exact fun h => ⟨a1, a2, a3, h⟩
        · exact fun h => h.2.2.2
  obtain ⟨r, h1, h2, h3⟩ := key
  refine ⟨r, h1, h2, h3.trans ?_⟩
  rw [← hok0]
  simp only [Bool.and_eq_true, decide_eq_true_eq, InstrP, and_assoc]
def InstrsUpto (m : TMachine) (i : Nat) : Prop := NamesP [] (m.instrs.map (·.name)) i ∧ ∀ s ∈ m.instrs.take i, InstrP m s
/-- A valid machine. -/
def ValidP (m : TMachine) : Prop := (nameB m.name = true ∧ (1 ≤ m.word ∧ m.word ≤ 4) ∧ (m.address = 16 ∨ m.address = 32)) ∧ RegsP m ∧ BanksP m ∧ UnitsP m ∧ InstrsUpto m m.instrs.length
structure TermsOK (m : TMachine) : Prop where
  eff : ∀ s ∈ m.instrs, ∀ x ∈ s.effects, EffectOK x
theorem small_ok {m : TMachine} (h : SmallP m) (ht : TermsOK m) : MachOK m :=
  ⟨h.1.1, h.1.2.1, h.1.2.2.1, h.1.2.2.2, h.2.1, fun s hs => ⟨(h.2.2 s hs).1, (h.2.2 s hs).2.1, (h.2.2 s hs).2.2, ht.eff s hs⟩⟩
theorem Check_machine {m : TMachine} (L : LenOK m) (ht : TermsOK m) : ∃ e, machine_Check m = some e ∧ (¬ SmallP m → e = 4) ∧ (SmallP m → ValidP m → e = 0) ∧ (SmallP m → ¬ ValidP m → e = 8) := by
  unfold machine_Check
  obtain ⟨b, hb, hb2⟩ := small_tells L
  rw [hb, Option.bind_some]
  by_cases hs : SmallP m
  · rw [if_neg (by simp [hb2.2 hs])]
    have hM := small_ok hs ht
    simp only [bits_Name_eq, within_eq, Option.bind_some, must3]
    obtain ⟨⟨M1, k1⟩, a1, a2, a3⟩ := regs_chk (c := ⟨m, true && (nameB m.name && ((decide (1 ≤ m.word) && decide (m.word ≤ 4)) && (decide (m.address = 16) || decide (m.address = 32))))⟩) (by show m.regs.length ≤ 1000; have := hM.regs; omega)
    simp only at a2 a3
    subst a2
    rw [a1, Option.bind_some]
    obtain ⟨⟨M2, k2⟩, b1, b2, b3⟩ := banks_chk (c := ⟨M1, k1⟩) (by show M1.regs.length ≤ 1000; have := hM.regs; omega) (by show M1.banks.length ≤ 1000; have := hM.banks; omega) (fun b hb => by have := hM.bank b hb; omega)
    simp only at b2 b3
    subst b2
    rw [b1, Option.bind_some]
    obtain ⟨⟨M3, k3⟩, d1, d2, d3⟩ := units_chk (c := ⟨M2, k2⟩) (by show M2.units.length ≤ 1000; have := hM.units; omega)
    simp only at d2 d3
    subst d2
    rw [d1, Option.bind_some]
    have hk3 : k3 = true ↔ (nameB M3.name = true ∧ (1 ≤ M3.word ∧ M3.word ≤ 4) ∧ (M3.address = 16 ∨ M3.address = 32)) ∧ RegsP M3 ∧ BanksP M3 ∧ UnitsP M3 := by
      rw [d3, b3, a3]
      simp only [Bool.true_and, Bool.and_eq_true, Bool.or_eq_true, decide_eq_true_eq, and_assoc]
    have jj : ∀ k : Bool, machine_Check.j0 ⟨M3, k⟩ = some (if k then 0 else 8) := fun k => by cases k <;> rfl
    have key : ∃ r, Fx.fx (machine_Check.l0 M3) (0, [], ⟨M3, k3⟩) = some r ∧ ((ValidP M3 → r = 0) ∧ (¬ ValidP M3 → r = 8)) := by
      refine fx_for (step := machine_Check.l0 M3) M3.instrs.length (fun i w => w.1 = (i : Int) ∧ w.2.1 = (M3.instrs.map (·.name)).take i ∧ w.2.2.machine = M3 ∧ (w.2.2.ok = true ↔ k3 = true ∧ InstrsUpto M3 i)) _ ⟨rfl, by simp, rfl, by simp [InstrsUpto, NamesP.zero]⟩ (fun i w hi ⟨h1, h2, h3, h4⟩ => ?_) (fun w ⟨h1, h2, h3, h4⟩ => ?_)
      · obtain ⟨j, u, ⟨M', k⟩⟩ := w
        simp only at h1 h2 h3 h4
        subst h1 h3
        simp only [machine_Check.l0, jj]
        rw [if_pos (by simpa using hi), if_pos (inb hi)]
        have hlen := hM.instrs
        cases hk : k with
        | false =>
          rw [if_pos (by rfl)]
          refine .inr ⟨_, rfl, fun hv => ?_, fun _ => rfl⟩
          have : k = true := h4.2 ⟨hk3.2 ⟨hv.1, hv.2.1, hv.2.2.1, hv.2.2.2.1⟩, fun j hj hji => hv.2.2.2.2.1 j hj (by simp at hj; omega), fun s hs => hv.2.2.2.2.2 s (by rw [List.take_length]; exact List.mem_of_mem_take hs)⟩
          rw [hk] at this; cases this
        | true =>
          rw [if_neg (by simp)]
          obtain ⟨b, hb1, hb2⟩ := fresh_eq ⟨u⟩ (M'.instrs[i].name) (by simp only [h2, List.length_take, List.length_map]; omega)
          have hnm : (M'.instrs.map (·.name))[i]'(by simpa using hi) = M'.instrs[i].name := by simp
          simp only [nth_nat _ hi, hb1, Option.bind_some, must1]
          have hkk := (h4.1 hk).1
          have hv := hk3.1 hkk
          obtain ⟨⟨M4, k4⟩, e1, e2, e3⟩ := instr_chk (c := ⟨M', true && b⟩) (s := M'.instrs[i]) hM (hM.instr _ (List.getElem_mem hi)) (fun _ => hv.1.2.1) (fun _ => hv.2.1) (fun _ => hv.2.2.1)
          simp only at e2 e3
          subst e2
          rw [e1]
          have hu : u ++ [M4.instrs[i].name] = (M4.instrs.map (·.name)).take (i + 1) := by
            rw [take_snoc (by simpa using hi), h2, hnm]
          refine .inl ⟨_, rfl, wrap_succ (by omega), hu, rfl, ?_⟩
          have hb3 : b = true ↔ nameB M4.instrs[i].name = true ∧ M4.instrs[i].name ∉ [] ++ (M4.instrs.map (·.name)).take i := by rw [hb2, ← h2, List.nil_append]
          unfold InstrsUpto at h4 ⊢
          rw [NamesP.succ (by simpa using hi), take_all hi, hnm, e3, Bool.true_and, hb3]
          have := h4.1 hk
          constructor
          · rintro ⟨a, b⟩; exact ⟨hkk, ⟨this.2.1, a⟩, this.2.2, b⟩
          · rintro ⟨_, ⟨_, a⟩, _, b⟩; exact ⟨a, b⟩
      · obtain ⟨j, u, ⟨M', k⟩⟩ := w
        simp only at h1 h2 h3 h4
        subst h1 h3
        simp only [machine_Check.l0, jj]
        rw [if_neg (by simp)]
        refine ⟨_, rfl, ?_⟩
        have hv : k = true ↔ ValidP M' := by
          rw [h4, hk3]
          unfold ValidP
          simp only [and_assoc]
        cases k with
        | true => exact ⟨fun _ => rfl, fun h => absurd (hv.1 rfl) h⟩
        | false => exact ⟨fun h => absurd (hv.2 h) (by simp), fun _ => rfl⟩
    obtain ⟨r, h1, h2, h3⟩ := key
    exact ⟨r, h1, fun h => absurd hs h, fun _ => h2, fun _ => h3⟩
  · have hb' : b = false := Bool.eq_false_iff.2 fun e => hs (hb2.1 e)
    subst hb'
    exact ⟨_, rfl, fun _ => rfl, fun h => absurd h hs, fun h => absurd h hs⟩
end Go.Proofs.YtpjkepfplhllfaaDoor.Av
