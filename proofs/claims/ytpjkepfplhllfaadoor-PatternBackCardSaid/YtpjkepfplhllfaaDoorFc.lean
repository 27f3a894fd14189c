/-
What functions compute.
-/
import Derived.Test.YtpjkepfplhllfaaDoorAv29
import Derived.Test.YtpjkepfplhllfaaDoorFb
namespace Go.Proofs.YtpjkepfplhllfaaDoor.Av
set_option linter.unusedSimpArgs false
set_option linter.unusedVariables false
set_option maxRecDepth 100000
set_option maxHeartbeats 4000000
open Go Go.Proofs
/-! pattern_occurs -/
def pattern_occurs.l0 [Fx] (t_0 : TTerm) (self : TTerm × (List (List UInt8 × Bool)) → Option ((List (List UInt8 × Bool)))) : Int × (List (List UInt8 × Bool)) → Option ((Int × (List (List UInt8 × Bool))) ⊕ ((List (List UInt8 × Bool)))) := fun v =>
 match v with
 | (v_x2, v_x3) =>
 (if (decide (v_x2 < (t_0.sub.length : Int))) then
 (if (0 : Int) ≤ v_x2 ∧ v_x2 < (t_0.sub.length : Int) then
 ((self ((nth t_0.sub v_x2), v_x3)).bind fun y8 =>
 some (.inl ((IntKind.i64.wrap (v_x2 + 1)), y8)))
 else none)
 else
 (Option.map Sum.inr (some v_x3)))
def pattern_occurs.j0 [Fx] (t_0 : TTerm) (self : TTerm × (List (List UInt8 × Bool)) → Option ((List (List UInt8 × Bool)))) (v_x1 : List (List UInt8 × Bool)) : Option ((List (List UInt8 × Bool))) :=
 Fx.fx (pattern_occurs.l0 t_0 self) (0, v_x1)
def pattern_occurs.G [Fx] (self : TTerm × (List (List UInt8 × Bool)) → Option ((List (List UInt8 × Bool)))) (t_0 : TTerm) (names_1 : List (List UInt8 × Bool)) : Option ((List (List UInt8 × Bool))) :=
 (if (decide (t_0.kind = 2)) then
 pattern_occurs.j0 t_0 self (aput names_1 t_0.name true)
 else
 pattern_occurs.j0 t_0 self names_1)
def pattern_occurs [Fx] (t_0 : TTerm) (names_1 : List (List UInt8 × Bool)) : Option ((List (List UInt8 × Bool))) := itr (fun self a => pattern_occurs.G self a.1 a.2) (t_0.nodes.length + 1) (t_0, names_1)
theorem pattern_occurs_step [Fx] {self : TTerm × (List (List UInt8 × Bool)) → Option ((List (List UInt8 × Bool)))} (ih : ∀ {a : TTerm × (List (List UInt8 × Bool))} {r : (List (List UInt8 × Bool))}, self a = some r → ∀ b_1 : Nat, ACall Tryd.prog EE 69 [.agg a.1.row, .map b_1] ⟨[], [(b_1, .mp (a.2.map (mS AV.bool)))]⟩ fun v σ => v = .tup [] ∧ σ = ⟨[], [(b_1, .mp (r.map (mS AV.bool)))]⟩) {b_1 : Nat} {t_0 : TTerm} {names_1 : List (List UInt8 × Bool)} {r : (List (List UInt8 × Bool))} (hF : pattern_occurs.G self t_0 names_1 = some r) : ACall Tryd.prog EE 69 [.agg t_0.row, .map b_1] ⟨[], [(b_1, .mp (names_1.map (mS AV.bool)))]⟩ fun v σ => v = .tup [] ∧ σ = ⟨[], [(b_1, .mp (r.map (mS AV.bool)))]⟩ := by
 refine ACall.of_fun EOK (F := Tryd.f69) 23 [] (by kernel_rfl) rfl rfl rfl rfl (Nat.le_of_ble_eq_true rfl) (by simp) ?_
 simp only [slotsA]
 unfold pattern_occurs.G at hF
 refine rg fun K hK => ?_
 refine We rfl ?_; simp
 intro b2 hb2; simp [Fresh] at hb2; have hq2 : ¬b_1 = b2 := by omega
 refine hK _ _ ?_; clear hK K
 refine Run.join [1, 2] [] [b2] [b_1] (by simp) (by simp) (by simp) (fun f σ => ∃ v_x1 : List (List UInt8 × Bool), f = ⟨23, [(1, .map b_1), (2, .ptr b2 0)], [], []⟩ ∧ σ = ⟨[(b2, t_0.row)], [(b_1, .mp (v_x1.map (mS AV.bool)))]⟩ ∧ pattern_occurs.j0 t_0 self v_x1 = some r) ?_ ?_
 ·
  clear hF
  rintro _ _ ⟨v_x1, rfl, rfl, hF⟩
  unfold pattern_occurs.j0 at hF
  refine rg fun K hK => ?_
  have q := And.intro hb2 hq2
  iterate 4 refine wq ?_
  refine hK _ _ ?_; clear hK K
  refine Run.block ?_
  refine Run.fixX hF [1, 13, 14, 15] [] [] [b_1] (by simp) (by simp) (by simp) (fun v f σ => ∃ v_x2 : Int, ∃ v_x3 : List (List UInt8 × Bool), v = (v_x2, v_x3) ∧ f = ⟨23, [(1, .map b_1), (13, .list .none (t_0.sub.map TTerm.row)), (14, .int .i64 (t_0.sub.length : Int)), (15, .int .i64 v_x2)], [], []⟩ ∧ σ = ⟨[], [(b_1, .mp (v_x3.map (mS AV.bool)))]⟩) ?_ ?_
  ·
   exact ⟨0, v_x1, rfl, by simp [q, Fm.rst, nn, nn1], by simp [q, St.only, nn1]⟩
  clear hF
  rintro _ _ _ yy1 ⟨v_x2, v_x3, rfl, rfl, rfl⟩ hF hR1
  simp only [pattern_occurs.l0] at hF
  refine rg fun K hK => ?_
  refine wq ?_
  refine hK _ _ ?_; clear hK K
  refine Run.seq ?_
  refine Run.testEnd (b := (decide (v_x2 < (t_0.sub.length : Int)))) (by simp [q]) (fun h6 => ?_) (fun h6 => ?_)
  ·
   rw [itet h6] at hF; try simp at h6
   refine Run.skip ?_
   show Run _ _ _ _ _ _
   refine Run.seq ?_
   refine Run.block ?_
   replace hF := chkO hF; obtain ⟨hc7, hF⟩ := hF
   refine rg fun K hK => ?_
   have q := And.intro q h6
   refine Wq (evF_ix (tg := .none) (rw := TTerm.row) (xs := t_0.sub) (k := .i64) (n := v_x2) (by simp; rfl) rfl (by simp; rfl) (by simp [q]) (by simp [q]) hc7.1 hc7.2 (by simp)) ?_
   refine wq ?_
   refine We rfl ?_; simp [q]
   intro b5 hb5; simp [Fresh] at hb5; have hq5 : ¬b_1 = b5 := by omega
   have q := And.intro (And.intro q hb5) hq5
   refine We rfl ?_; simp [q]
   refine hK _ _ ?_; clear hK K
   replace hF := bindO hF; obtain ⟨y8, hy8, hF⟩ := hF
   refine rge fun K hK => ?_
   iterate 2 refine wq ?_
   refine Wcb ⟨[], [(b_1, _)]⟩ ⟨[(b5, _)], []⟩ rfl rfl rfl (by simp [q]; rfl) (by simp [q]; done) (ih hy8 b_1) (by exact pick0) pk1 ?_
   rintro _ _ ⟨rfl, rfl⟩; simp [noCells, noCellS, noCellV, noCellC, noCellT, St.add]
   refine hK _ _ ?_; clear hK K
   show Run _ _ _ _ _ _
   refine rge fun K hK => ?_
   iterate 2 refine wq ?_
   refine hK _ _ ?_; clear hK K
   exact ⟨_, (Option.some.inj hF).symm, (IntKind.i64.wrap (v_x2 + 1)), y8, rfl, by simp [q, Fm.rst, nn, nn1], by simp [q, St.only, nn1]⟩
  rw [itef h6] at hF; try simp at h6
  refine Run.exit ?_
  replace hF := mapO hF; obtain ⟨z9, hF, hz⟩ := hF; have hz2 := (hR1 _ hz.symm).symm; subst hz2; clear hz
  obtain rfl := Option.some.inj hF
  refine ⟨by simp, by simp, _, _, _, rfl, .inl rfl, ?_, ?_, ?_, rfl⟩
  all_goals simp [tupA, hb2, hq2, h6]
 skip
 refine rg fun K hK => ?_
 have q := And.intro hb2 hq2
 iterate 3 refine wq ?_
 refine hK _ _ ?_; clear hK K
 refine Run.testEnd (b := (decide (t_0.kind = 2))) (by simp [q]) (fun h10 => ?_) (fun h10 => ?_)
 ·
  rw [itet h10] at hF; try simp at h10
  refine rge fun K hK => ?_
  have q := And.intro q h10
  iterate 3 refine wq ?_
  have hp11 := putA_S AV.bool t_0.name true names_1
  have hp11b := hp11; refine We rfl ?_; first | (simp at hp11b; simp [q, hp11, hp11b]) | simp [q, hp11]
  refine hK _ _ ?_; clear hK K
  exact ⟨(aput names_1 t_0.name true), by simp [q, Fm.rst, nn, nn1], by simp [q, St.only, nn1], hF⟩
 rw [itef h10] at hF; try simp at h10
 refine Run.skip ?_
 have q := And.intro q h10
 exact ⟨names_1, by simp [q, Fm.rst, nn, nn1], by simp [q, St.only, nn1], hF⟩
theorem pattern_occurs_ok [Fx] {b_1 : Nat} {t_0 : TTerm} {names_1 : List (List UInt8 × Bool)} {r : (List (List UInt8 × Bool))} (hF : pattern_occurs t_0 names_1 = some r) : ACall Tryd.prog EE 69 [.agg t_0.row, .map b_1] ⟨[], [(b_1, .mp (names_1.map (mS AV.bool)))]⟩ fun v σ => v = .tup [] ∧ σ = ⟨[], [(b_1, .mp (r.map (mS AV.bool)))]⟩ :=
  itr_ind (C := fun (a : TTerm × (List (List UInt8 × Bool))) (r : (List (List UInt8 × Bool))) => ∀ b_1 : Nat, ACall Tryd.prog EE 69 [.agg a.1.row, .map b_1] ⟨[], [(b_1, .mp (a.2.map (mS AV.bool)))]⟩ fun v σ => v = .tup [] ∧ σ = ⟨[], [(b_1, .mp (r.map (mS AV.bool)))]⟩) (fun self ih {a r} h => fun b_1 => pattern_occurs_step (fun {a r} h => ih h) h) _ hF b_1

/-! term_Twin -/
def term_Twin.l0 [Fx] (t_0 : TTerm) (self : TTerm → Option TTerm) : (List TTerm) × Int → Option (((List TTerm) × Int) ⊕ TTerm) := fun v =>
 match v with
 | (l_x1, v_x2) =>
 (if (decide (v_x2 < (t_0.sub.length : Int))) then
 (if (0 : Int) ≤ v_x2 ∧ v_x2 < (t_0.sub.length : Int) then
 ((self ((nth t_0.sub v_x2))).bind fun y7 =>
 (if (l_x1.length + 1) * 73 ≤ 140737488351232 then
 some (.inl ((l_x1 ++ [y7]), (IntKind.i64.wrap (v_x2 + 1))))
 else none))
 else none)
 else
 (Option.map Sum.inr (some (TTerm.mk t_0.kind t_0.width t_0.bits t_0.name t_0.low l_x1))))
def term_Twin.G [Fx] (self : TTerm → Option TTerm) (t_0 : TTerm) : Option TTerm :=
 Fx.fx (term_Twin.l0 t_0 self) ([], 0)
def term_Twin [Fx] (t_0 : TTerm) : Option TTerm := itr (fun self a => term_Twin.G self a) (t_0.nodes.length + 1) (t_0)
theorem term_Twin_step [Fx] {self : TTerm → Option TTerm} (ih : ∀ {a : TTerm} {r : TTerm}, self a = some r → PCall Tryd.prog EE 49 [.agg a.row] fun v => v = .agg r.row) {t_0 : TTerm} {r : TTerm} (hF : term_Twin.G self t_0 = some r) : PCall Tryd.prog EE 49 [.agg t_0.row] fun v => v = .agg r.row := by
 refine PCall.of_fun EOK (F := Tryd.f49) 22 [.cell 2 38] (by kernel_rfl) rfl rfl rfl rfl (Nat.le_of_ble_eq_true rfl) (by simp) ?_
 simp only [slotsA]
 unfold term_Twin.G at hF
 refine rg fun K hK => ?_
 refine We rfl ?_; simp
 intro b1 _
 refine We rfl ?_; simp
 intro b2 hb2; simp [Fresh] at hb2; have hq2 : ¬b1 = b2 := by omega
 refine hK _ _ ?_; clear hK K
 refine rg fun K hK => ?_
 have q := And.intro hb2 hq2
 refine wq ?_
 refine hK _ _ ?_; clear hK K
 refine Run.seq ?_
 refine rg fun K hK => ?_
 iterate 4 refine wq ?_
 refine hK _ _ ?_; clear hK K
 refine Run.block ?_
 refine Run.retagE 3 17 6 (by simp [q]) (by omega) (by simp) (by simp; rfl) ?_
 refine Run.fixX hF [1, 2, 3, 7, 8, 9] [.slot 17] [b2, b1] [] (by simp [q]) (by simp) (by simp) (fun v f σ => ∃ l_x1 : List TTerm, ∃ v_x2 : Int, v = (l_x1, v_x2) ∧ f = ⟨22, [(1, .ptr b1 0), (2, .ptr b2 0), (3, .list (.slot 17) (l_x1.map TTerm.row)), (7, .list .none (t_0.sub.map TTerm.row)), (8, .int .i64 (t_0.sub.length : Int)), (9, .int .i64 v_x2)], [(.slot 17, (l_x1.length, 6))], []⟩ ∧ σ = ⟨[(b2, ([.int .u8 0] ++ [.int .i64 0] ++ [.int .u64 0] ++ [.str []] ++ [.int .i64 0] ++ [.list .none ([].map TTerm.row)])), (b1, t_0.row)], []⟩) ?_ ?_
 ·
  exact ⟨[], 0, rfl, by simp [q, Fm.rst, nn, nn1], by simp [q, St.only, nn1]⟩
 clear hF
 rintro _ _ _ yy1 ⟨l_x1, v_x2, rfl, rfl, rfl⟩ hF hR1
 simp only [term_Twin.l0] at hF
 refine rg fun K hK => ?_
 refine wq ?_
 refine hK _ _ ?_; clear hK K
 refine Run.seq ?_
 refine Run.testEnd (b := (decide (v_x2 < (t_0.sub.length : Int)))) (by simp [q]) (fun h5 => ?_) (fun h5 => ?_)
 ·
  rw [itet h5] at hF; try simp at h5
  refine Run.skip ?_
  show Run _ _ _ _ _ _
  refine Run.seq ?_
  refine Run.block ?_
  replace hF := chkO hF; obtain ⟨hc6, hF⟩ := hF
  refine rg fun K hK => ?_
  have q := And.intro q h5
  refine Wq (evF_ix (tg := .none) (rw := TTerm.row) (xs := t_0.sub) (k := .i64) (n := v_x2) (by simp; rfl) rfl (by simp; rfl) (by simp [q]) (by simp [q]) hc6.1 hc6.2 (by simp)) ?_
  refine wq ?_
  refine We rfl ?_; simp [q]
  intro b5 hb5; simp [Fresh] at hb5; have hq5 : ¬b2 = b5 ∧ ¬b1 = b5 := by omega
  have q := And.intro (And.intro q hb5) hq5
  refine We rfl ?_; simp [q]
  refine hK _ _ ?_; clear hK K
  replace hF := bindO hF; obtain ⟨y7, hy7, hF⟩ := hF
  replace hF := chkO hF; obtain ⟨hc8, hF⟩ := hF
  refine rge fun K hK => ?_
  iterate 2 refine wq ?_
  refine wcq (ih hy7) ?_; rintro _ rfl; simp
  refine We rfl ?_; simp [q]; refine .inr ?_
  refine We rfl ?_; simp [q]; first | (refine ⟨by omega, ?_⟩) | (refine ⟨by simp, by omega, ?_⟩) | skip
  refine wq ?_
  refine hK _ _ ?_; clear hK K
  show Run _ _ _ _ _ _
  refine rge fun K hK => ?_
  iterate 2 refine wq ?_
  refine hK _ _ ?_; clear hK K
  exact ⟨_, (Option.some.inj hF).symm, (l_x1 ++ [y7]), (IntKind.i64.wrap (v_x2 + 1)), rfl, by simp [q, Fm.rst, nn, nn1], by simp [q, St.only, nn1]⟩
 rw [itef h5] at hF; try simp at h5
 refine Run.exit ?_
 replace hF := mapO hF; obtain ⟨z9, hF, hz⟩ := hF; have hz2 := (hR1 _ hz.symm).symm; subst hz2; clear hz
 show Run _ _ _ _ _ _
 refine rg fun K hK => ?_
 have q := And.intro q h5
 iterate 2 refine wq ?_
 refine We rfl ?_; simp [q]
 refine hK _ _ ?_; clear hK K
 refine rg fun K hK => ?_
 refine wq ?_
 refine We rfl ?_; simp [q]
 refine hK _ _ ?_; clear hK K
 refine Run.ret ?_
 obtain rfl := Option.some.inj hF
 simp [tupA, hb2, hq2, h5]
theorem term_Twin_ok [Fx] {t_0 : TTerm} {r : TTerm} (hF : term_Twin t_0 = some r) : PCall Tryd.prog EE 49 [.agg t_0.row] fun v => v = .agg r.row :=
  itr_ind (C := fun (a : TTerm) (r : TTerm) => PCall Tryd.prog EE 49 [.agg a.row] fun v => v = .agg r.row) (fun self ih {a r} h => term_Twin_step (fun {a r} h => ih h) h) _ hF

/-! pattern_ofX -/
def pattern_ofX.j0 [Fx] (v_x1 : Int) (v_x10 : Int) (v_x11 : TTerm) (v_x12 : List Int) : Option ((Int × Int × TTerm × (List Int)) ⊕ (TPattern × Bool)) :=
 some (.inl ((IntKind.i64.wrap (v_x1 + 1)), v_x10, v_x11, v_x12))
def pattern_ofX.j1 [Fx] (i_0 : Int) (s_1 : TMachInstr) (v_x2 : Int) (v_x3 : TTerm) (v_x4 : List Int) (v_x25 : Int) (v_x26 : List (List UInt8 × Bool)) (own_x32 : Int) : Option ((Int × Int × (List (List UInt8 × Bool))) ⊕ (TPattern × Bool)) :=
 (if (((decide (((nth s_1.operands v_x25).kind) = 4)) || ((decide (0 ≤ ((nth s_1.operands v_x25).tied))) && (!decide (((nth s_1.operands v_x25).tied) = v_x2)))) || ((!decide (v_x25 = v_x2)) && (!((aget v_x26 ((nth s_1.operands v_x25).name)).getD false)))) then
 some (.inr ((TPattern.mk i_0 v_x2 v_x3 v_x4), false))
 else
 some (.inl (own_x32, (IntKind.i64.wrap (v_x25 + 1)), (adel v_x26 ((nth s_1.operands v_x25).name)))))
def pattern_ofX.l1 [Fx] (i_0 : Int) (s_1 : TMachInstr) (v_x2 : Int) (v_x3 : TTerm) (v_x4 : List Int) : Int × Int × (List (List UInt8 × Bool)) → Option ((Int × Int × (List (List UInt8 × Bool))) ⊕ (TPattern × Bool)) := fun v =>
 match v with
 | (own_x24, v_x25, v_x26) =>
 (if (decide (v_x25 < (s_1.operands.length : Int))) then
 (if (0 : Int) ≤ v_x25 ∧ v_x25 < (s_1.operands.length : Int) then
 (if (((aget v_x26 ((nth s_1.operands v_x25).name)).getD false) && ((decide (v_x25 = v_x2)) || (decide (0 ≤ ((nth s_1.operands v_x25).tied))))) then
 pattern_ofX.j1 i_0 s_1 v_x2 v_x3 v_x4 v_x25 v_x26 (IntKind.i64.wrap (own_x24 + 1))
 else
 pattern_ofX.j1 i_0 s_1 v_x2 v_x3 v_x4 v_x25 v_x26 own_x24)
 else none)
 else
 (Option.map Sum.inr (some ((TPattern.mk i_0 v_x2 v_x3 v_x4), ((decide ((v_x26.length : Int) = 0)) && (decide (own_x24 ≤ 1)))))))
def pattern_ofX.l0 [Fx] (i_0 : Int) (s_1 : TMachInstr) : Int × Int × TTerm × (List Int) → Option ((Int × Int × TTerm × (List Int)) ⊕ (TPattern × Bool)) := fun v =>
 match v with
 | (v_x1, v_x2, v_x3, v_x4) =>
 (if (decide (v_x1 < (s_1.effects.length : Int))) then
 (if (0 : Int) ≤ v_x1 ∧ v_x1 < (s_1.effects.length : Int) then
 (if ((!decide (((nth s_1.effects v_x1).kind) = 1)) || ((decide (0 ≤ ((nth s_1.effects v_x1).operand))) && (decide (0 ≤ v_x2)))) then
 some (.inr ((TPattern.mk i_0 v_x2 v_x3 v_x4), false))
 else
 (if (decide (0 ≤ ((nth s_1.effects v_x1).operand))) then
 ((term_Twin ((nth s_1.effects v_x1).value)).bind fun y18 =>
 pattern_ofX.j0 v_x1 ((nth s_1.effects v_x1).operand) y18 v_x4)
 else
 ((pattern_occurs ((nth s_1.effects v_x1).value) []).bind fun y19 =>
 (if ((aget y19 [112, 99]).getD false) then
 some (.inr ((TPattern.mk i_0 v_x2 v_x3 v_x4), false))
 else
 (if (v_x4.length + 1) * 9 ≤ 140737488351232 then
 pattern_ofX.j0 v_x1 v_x2 v_x3 (v_x4 ++ [(nth s_1.effects v_x1).reg])
 else none)))))
 else none)
 else
 (Option.map Sum.inr (if (decide (v_x2 < 0)) then
 some ((TPattern.mk i_0 v_x2 v_x3 v_x4), false)
 else
 ((pattern_occurs v_x3 []).bind fun y23 =>
 Fx.fx (pattern_ofX.l1 i_0 s_1 v_x2 v_x3 v_x4) (0, 0, y23)))))
def pattern_ofX [Fx] (i_0 : Int) (s_1 : TMachInstr) : Option (TPattern × Bool) :=
 Fx.fx (pattern_ofX.l0 i_0 s_1) (0, -1, (TTerm.mk 0 0 0 [] 0 []), [])
theorem pattern_ofX_ok [Fx] {i_0 : Int} {s_1 : TMachInstr} {r : TPattern × Bool} (hF : pattern_ofX i_0 s_1 = some r) : PCall Tryd.prog EE 54 [.int .i64 i_0, .agg s_1.row] fun v => v = .tup [.agg r.1.row, .bool r.2] := by
 refine PCall.of_fun EOK (F := Tryd.f54) 140 [.cell 4 41, .tmp 5] (by kernel_rfl) rfl rfl rfl rfl (Nat.le_of_ble_eq_true rfl) (by simp) ?_
 simp only [slotsA]
 unfold pattern_ofX at hF
 refine rg fun K hK => ?_
 refine We rfl ?_; simp
 intro b3 _
 refine We rfl ?_; simp
 intro b4 hb4; simp [Fresh] at hb4; have hq4 : ¬b3 = b4 := by omega
 have q := And.intro hb4 hq4
 refine wq ?_
 refine hK _ _ ?_; clear hK K
 refine rg fun K hK => ?_
 iterate 2 refine wq ?_
 refine We rfl ?_; simp [q]
 intro b6 hb6; simp [Fresh] at hb6; have hq6 : ¬b4 = b6 ∧ ¬b3 = b6 := by omega
 have q := And.intro (And.intro q hb6) hq6
 refine We rfl ?_; simp [q]
 refine hK _ _ ?_; clear hK K
 refine Run.seq ?_
 refine rg fun K hK => ?_
 iterate 4 refine wq ?_
 refine hK _ _ ?_; clear hK K
 refine Run.block ?_
 refine Run.retagBE b6 8 1 (by simp [q]; rfl) (by simp) (by omega) (by simp [q]; rfl) (by simp [q]; rfl) ?_
 refine Run.fixX hF [3, 4, 6, 17, 18, 19] [] [b6, b4, b3] [] (by simp [q]) (by simp) (by simp) (fun v f σ => ∃ v_x1 : Int, ∃ v_x2 : Int, ∃ v_x3 : TTerm, ∃ v_x4 : List Int, v = (v_x1, v_x2, v_x3, v_x4) ∧ f = ⟨140, [(3, .ptr b3 0), (4, .ptr b4 0), (6, .ptr b6 0), (17, .list .none (s_1.effects.map TMachEffect.row)), (18, .int .i64 (s_1.effects.length : Int)), (19, .int .i64 v_x1)], [], []⟩ ∧ σ = ⟨[(b6, ([.int .i64 i_0] ++ [.int .i64 v_x2] ++ v_x3.row ++ [.grow 1 (v_x4.map (rwI .i64))])), (b4, ([.int .i64 0] ++ [.int .i64 0] ++ ([.int .u8 0] ++ [.int .i64 0] ++ [.int .u64 0] ++ [.str []] ++ [.int .i64 0] ++ [.list .none ([].map TTerm.row)]) ++ [.list .none ([].map (rwI .i64))])), (b3, s_1.row)], []⟩) ?_ ?_
 ·
  exact ⟨0, -1, (TTerm.mk 0 0 0 [] 0 []), [], rfl, by simp [q, Fm.rst, nn, nn1], by simp [q, St.only, nn1]⟩
 clear hF
 rintro _ _ _ yy1 ⟨v_x1, v_x2, v_x3, v_x4, rfl, rfl, rfl⟩ hF hR1
 simp only [pattern_ofX.l0] at hF
 refine rg fun K hK => ?_
 refine wq ?_
 refine hK _ _ ?_; clear hK K
 refine Run.seq ?_
 refine Run.testEnd (b := (decide (v_x1 < (s_1.effects.length : Int)))) (by simp [q]) (fun h9 => ?_) (fun h9 => ?_)
 ·
  rw [itet h9] at hF; try simp at h9
  refine Run.skip ?_
  show Run _ _ _ _ _ _
  have q := And.intro q h9
  refine Run.join [3, 4, 6, 17, 18, 19] [] [b6, b4, b3] [] (by simp [q]) (by simp) (by simp) (fun f σ => ∃ v_x10 : Int, ∃ v_x11 : TTerm, ∃ v_x12 : List Int, f = ⟨140, [(3, .ptr b3 0), (4, .ptr b4 0), (6, .ptr b6 0), (17, .list .none (s_1.effects.map TMachEffect.row)), (18, .int .i64 (s_1.effects.length : Int)), (19, .int .i64 v_x1)], [], []⟩ ∧ σ = ⟨[(b6, ([.int .i64 i_0] ++ [.int .i64 v_x10] ++ v_x11.row ++ [.grow 1 (v_x12.map (rwI .i64))])), (b4, ([.int .i64 0] ++ [.int .i64 0] ++ ([.int .u8 0] ++ [.int .i64 0] ++ [.int .u64 0] ++ [.str []] ++ [.int .i64 0] ++ [.list .none ([].map TTerm.row)]) ++ [.list .none ([].map (rwI .i64))])), (b3, s_1.row)], []⟩ ∧ pattern_ofX.j0 v_x1 v_x10 v_x11 v_x12 = some yy1) ?_ ?_
  ·
   clear hF
   rintro _ _ ⟨v_x10, v_x11, v_x12, rfl, rfl, hF⟩
   unfold pattern_ofX.j0 at hF
   refine rge fun K hK => ?_
   have q := And.intro hb4 (And.intro hq4 (And.intro hb6 hq6))
   iterate 2 refine wq ?_
   refine hK _ _ ?_; clear hK K
   exact ⟨_, (Option.some.inj hF).symm, (IntKind.i64.wrap (v_x1 + 1)), v_x10, v_x11, v_x12, rfl, by simp [q, Fm.rst, nn, nn1], by simp [q, St.only, nn1]⟩
  skip
  refine Run.block ?_
  replace hF := chkO hF; obtain ⟨hc13, hF⟩ := hF
  refine rg fun K hK => ?_
  refine Wq (evF_ix (tg := .none) (rw := TMachEffect.row) (xs := s_1.effects) (k := .i64) (n := v_x1) (by simp; rfl) rfl (by simp; rfl) (by simp [q]) (by simp [q]) hc13.1 hc13.2 (by simp)) ?_
  refine wq ?_
  refine We rfl ?_; simp [q]
  intro b8 hb8; simp [Fresh] at hb8; have hq8 : ¬b6 = b8 ∧ ¬b4 = b8 ∧ ¬b3 = b8 := by omega
  have q := And.intro (And.intro q hb8) hq8
  refine We rfl ?_; simp [q]
  refine hK _ _ ?_; clear hK K
  refine Run.block ?_
  refine rg fun K hK => ?_
  iterate 4 refine wq ?_
  obtain ⟨g14, e14⟩ : ∃ g, g = (decide (((nth s_1.effects v_x1).kind) = 1)) := ⟨_, rfl⟩
  iterate 4 refine Wg rfl (b := g14) (by simp [q, e14]) (fun hg => by simp [q, hg]; rfl) ?_
  obtain ⟨g15, e15⟩ : ∃ g, g = ((decide (((nth s_1.effects v_x1).kind) = 1)) && (decide (0 ≤ ((nth s_1.effects v_x1).operand)))) := ⟨_, rfl⟩
  have w15_14 : g15 = true → g14 = true := fun h => e14.trans (and1 (e15.symm.trans h))
  iterate 3 refine Wg rfl (b := g15) (by simp [q, e15, e14]) (fun hg => by simp [q, hg, w15_14 hg]; rfl) ?_
  refine Wgand rfl (b := g14) (t := (decide (0 ≤ ((nth s_1.effects v_x1).operand)))) (β := (decide (0 ≤ v_x2))) (by simp [q, e14]) (fun hg => by simp [q, hg]; done) rfl (fun hg hh => by have h0 := e15.trans (andI (e14.symm.trans hg) hh); simp [q, h0]) (by first | (simp; done) | (simp; rfl)) ?_
  refine Wor (t := (!decide (((nth s_1.effects v_x1).kind) = 1))) (β := ((decide (0 ≤ ((nth s_1.effects v_x1).operand))) && (decide (0 ≤ v_x2)))) (by simp [q]) rfl (fun hh => by have h0 := e14.trans (nnot (notf hh)); simp [q, h0]) (by first | (simp; done) | (simp; rfl)) ?_
  refine wq ?_
  refine hK _ _ ?_; clear hK K
  refine Run.testEnd (b := ((!decide (((nth s_1.effects v_x1).kind) = 1)) || ((decide (0 ≤ ((nth s_1.effects v_x1).operand))) && (decide (0 ≤ v_x2))))) (by simp [q]) (fun h16 => ?_) (fun h16 => ?_)
  ·
   rw [itet h16] at hF; try simp at h16
   refine rg fun K hK => ?_
   have q := And.intro q h16
   refine wq ?_
   refine We rfl ?_; simp [q]
   refine wq ?_
   refine hK _ _ ?_; clear hK K
   refine Run.ret ?_
   have hv := hR1 _ (Option.some.inj hF).symm
   subst hv
   simp [tupA, hb4, hq4, hb6, hq6, h9, hb8, hq8, h16]
  rw [itef h16] at hF; try simp at h16
  refine rg fun K hK => ?_
  have q := And.intro q h16
  iterate 4 refine wq ?_
  refine hK _ _ ?_; clear hK K
  refine Run.testEnd (b := (decide (0 ≤ ((nth s_1.effects v_x1).operand)))) (by simp [q]) (fun h17 => ?_) (fun h17 => ?_)
  ·
   rw [itet h17] at hF; try simp at h17
   replace hF := bindO hF; obtain ⟨y18, hy18, hF⟩ := hF
   refine Run.draw EOK mixed 6 [0, 1, 2, 3, 5, 4] rfl (by kernel_rfl) fun K hK => ?_
   have q := And.intro q h17
   iterate 5 refine Pq rfl (by simp [q]; rfl) ?_
   refine Pc rfl rfl rfl rfl (by first | (simp [q]; rfl) | (simp [q]; done)) (by simp [q]; done) (term_Twin_ok hy18) ?_; rintro _ rfl; simp
   refine Pd ?_
   refine We rfl ?_; simp [q]
   refine wq ?_
   refine We rfl ?_; simp [q]
   refine hK _ _ ?_; clear hK K
   exact ⟨(nth s_1.effects v_x1).operand, y18, v_x4, by simp [q, Fm.rst, nn, nn1], by simp [q, St.only, nn1], hF⟩
  rw [itef h17] at hF; try simp at h17
  refine rg fun K hK => ?_
  have q := And.intro q h17
  refine We rfl ?_; simp [q]
  intro b23 hb23; simp [Fresh] at hb23; have hq23 : ¬b8 = b23 ∧ ¬b6 = b23 ∧ ¬b4 = b23 ∧ ¬b3 = b23 := by omega
  have q := And.intro (And.intro q hb23) hq23
  refine wq ?_
  refine hK _ _ ?_; clear hK K
  refine Run.seq ?_
  replace hF := bindO hF; obtain ⟨y19, hy19, hF⟩ := hF
  refine rg fun K hK => ?_
  iterate 3 refine wq ?_
  refine Wcb ⟨[], [(b23, _)]⟩ ⟨[(b8, _), (b6, _), (b4, _), (b3, _)], []⟩ rfl rfl rfl (by simp [q]; rfl) (by simp [q]; done) (pattern_occurs_ok (b_1 := b23) hy19) (by exact pick0) pk1 ?_
  rintro _ _ ⟨rfl, rfl⟩; simp [noCells, noCellS, noCellV, noCellC, noCellT, St.add]
  refine hK _ _ ?_; clear hK K
  refine rg fun K hK => ?_
  refine wq ?_
  refine Wq (evF_lkS (g := AV.bool) (m := y19) (k := [112, 99]) (b := b23) (z := false) (by simp; rfl) rfl (by simp; rfl) rfl (by simp; rfl) (by simp) (by simp) (by simp) (by simp [q]) (by simp [q]) (by simp [q])) ?_
  refine hK _ _ ?_; clear hK K
  refine Run.testEnd (b := ((aget y19 [112, 99]).getD false)) (by simp [q]) (fun h20 => ?_) (fun h20 => ?_)
  ·
   rw [itet h20] at hF; try simp at h20
   refine rg fun K hK => ?_
   have q := And.intro q h20
   refine wq ?_
   refine We rfl ?_; simp [q]
   refine wq ?_
   refine hK _ _ ?_; clear hK K
   refine Run.ret ?_
   have hv := hR1 _ (Option.some.inj hF).symm
   subst hv
   simp [tupA, hb4, hq4, hb6, hq6, h9, hb8, hq8, h16, h17, hb23, hq23, h20]
  rw [itef h20] at hF; try simp at h20
  refine Run.skip ?_
  show Run _ _ _ _ _ _
  replace hF := chkO hF; obtain ⟨hc21, hF⟩ := hF
  refine rge fun K hK => ?_
  have q := And.intro q h20
  iterate 4 refine wq ?_
  refine We rfl ?_; simp [q]; refine .inr ?_
  refine We rfl ?_; simp [q]; first | (refine ⟨by omega, ?_⟩) | (refine ⟨by simp, by omega, ?_⟩) | skip
  refine wq ?_
  refine We rfl ?_; simp [q]
  refine hK _ _ ?_; clear hK K
  exact ⟨v_x2, v_x3, (v_x4 ++ [(nth s_1.effects v_x1).reg]), by simp [q, Fm.rst, nn, nn1], by simp [q, St.only, nn1], hF⟩
 rw [itef h9] at hF; try simp at h9
 refine Run.exit ?_
 replace hF := mapO hF; obtain ⟨z44, hF, hz⟩ := hF; have hz2 := (hR1 _ hz.symm).symm; subst hz2; clear hz
 show Run _ _ _ _ _ _
 refine Run.seq ?_
 refine rg fun K hK => ?_
 have q := And.intro q h9
 iterate 3 refine wq ?_
 refine hK _ _ ?_; clear hK K
 refine Run.testEnd (b := (decide (v_x2 < 0))) (by simp [q]) (fun h22 => ?_) (fun h22 => ?_)
 ·
  rw [itet h22] at hF; try simp at h22
  refine rg fun K hK => ?_
  have q := And.intro q h22
  refine wq ?_
  refine We rfl ?_; simp [q]
  refine wq ?_
  refine hK _ _ ?_; clear hK K
  refine Run.ret ?_
  obtain rfl := Option.some.inj hF
  simp [tupA, hb4, hq4, hb6, hq6, h9, h22]
 rw [itef h22] at hF; try simp at h22
 refine Run.skip ?_
 show Run _ _ _ _ _ _
 refine rg fun K hK => ?_
 have q := And.intro q h22
 refine We rfl ?_; simp [q]
 intro b69 hb69; simp [Fresh] at hb69; have hq69 : ¬b6 = b69 ∧ ¬b4 = b69 ∧ ¬b3 = b69 := by omega
 have q := And.intro (And.intro q hb69) hq69
 refine wq ?_
 refine hK _ _ ?_; clear hK K
 replace hF := bindO hF; obtain ⟨y23, hy23, hF⟩ := hF
 refine rg fun K hK => ?_
 iterate 3 refine wq ?_
 refine Wcb ⟨[], [(b69, _)]⟩ ⟨[(b6, _), (b4, _), (b3, _)], []⟩ rfl rfl rfl (by simp [q]; rfl) (by simp [q]; done) (pattern_occurs_ok (b_1 := b69) hy23) (by exact pick0) pk1 ?_
 rintro _ _ ⟨rfl, rfl⟩; simp [noCells, noCellS, noCellV, noCellC, noCellT, St.add]
 refine hK _ _ ?_; clear hK K
 refine rg fun K hK => ?_
 refine wq ?_
 refine hK _ _ ?_; clear hK K
 refine Run.seq ?_
 refine rg fun K hK => ?_
 iterate 4 refine wq ?_
 refine hK _ _ ?_; clear hK K
 refine Run.block ?_
 refine Run.fixX hF [4, 6, 10, 11, 75, 76, 77] [] [b6, b4] [b69] (by simp [q]) (by simp) (by simp) (fun v f σ => ∃ own_x24 : Int, ∃ v_x25 : Int, ∃ v_x26 : List (List UInt8 × Bool), v = (own_x24, v_x25, v_x26) ∧ f = ⟨140, [(4, .ptr b4 0), (6, .ptr b6 0), (10, .map b69), (11, .int .i64 own_x24), (75, .list .none (s_1.operands.map TMachOperand.row)), (76, .int .i64 (s_1.operands.length : Int)), (77, .int .i64 v_x25)], [], []⟩ ∧ σ = ⟨[(b6, ([.int .i64 i_0] ++ [.int .i64 v_x2] ++ v_x3.row ++ [.grow 1 (v_x4.map (rwI .i64))])), (b4, ([.int .i64 0] ++ [.int .i64 0] ++ ([.int .u8 0] ++ [.int .i64 0] ++ [.int .u64 0] ++ [.str []] ++ [.int .i64 0] ++ [.list .none ([].map TTerm.row)]) ++ [.list .none ([].map (rwI .i64))]))], [(b69, .mp (v_x26.map (mS AV.bool)))]⟩) ?_ ?_
 ·
  exact ⟨0, 0, y23, rfl, by simp [q, Fm.rst, nn, nn1], by simp [q, St.only, nn1]⟩
 clear hF
 rintro _ _ _ yy1 ⟨own_x24, v_x25, v_x26, rfl, rfl, rfl⟩ hF hR1
 simp only [pattern_ofX.l1] at hF
 refine rg fun K hK => ?_
 have q := And.intro hb4 (And.intro hq4 (And.intro hb6 (And.intro hq6 (And.intro hb69 hq69))))
 refine wq ?_
 refine hK _ _ ?_; clear hK K
 refine Run.seq ?_
 refine Run.testEnd (b := (decide (v_x25 < (s_1.operands.length : Int)))) (by simp [q]) (fun h30 => ?_) (fun h30 => ?_)
 ·
  rw [itet h30] at hF; try simp at h30
  refine Run.skip ?_
  show Run _ _ _ _ _ _
  refine Run.seq ?_
  refine Run.block ?_
  replace hF := chkO hF; obtain ⟨hc31, hF⟩ := hF
  refine rg fun K hK => ?_
  have q := And.intro q h30
  refine wq ?_
  refine Wq (evF_ix (tg := .none) (rw := TMachOperand.row) (xs := s_1.operands) (k := .i64) (n := v_x25) (by simp; rfl) rfl (by simp; rfl) (by simp [q]) (by simp [q]) hc31.1 hc31.2 (by simp)) ?_
  refine wq ?_
  refine We rfl ?_; simp [q]
  intro b13 hb13; simp [Fresh] at hb13; have hq13 : ¬b6 = b13 ∧ ¬b4 = b13 ∧ ¬b69 = b13 := by omega
  have q := And.intro (And.intro q hb13) hq13
  refine wq ?_
  refine We rfl ?_; simp [q]
  refine hK _ _ ?_; clear hK K
  refine Run.join [4, 6, 10, 11, 12, 13, 75, 76, 77] [] [b13, b6, b4] [b69] (by simp [q]) (by simp) (by simp) (fun f σ => ∃ own_x32 : Int, f = ⟨140, [(4, .ptr b4 0), (6, .ptr b6 0), (10, .map b69), (11, .int .i64 own_x32), (12, .int .i64 v_x25), (13, .ptr b13 0), (75, .list .none (s_1.operands.map TMachOperand.row)), (76, .int .i64 (s_1.operands.length : Int)), (77, .int .i64 v_x25)], [], []⟩ ∧ σ = ⟨[(b13, (nth s_1.operands v_x25).row), (b6, ([.int .i64 i_0] ++ [.int .i64 v_x2] ++ v_x3.row ++ [.grow 1 (v_x4.map (rwI .i64))])), (b4, ([.int .i64 0] ++ [.int .i64 0] ++ ([.int .u8 0] ++ [.int .i64 0] ++ [.int .u64 0] ++ [.str []] ++ [.int .i64 0] ++ [.list .none ([].map TTerm.row)]) ++ [.list .none ([].map (rwI .i64))]))], [(b69, .mp (v_x26.map (mS AV.bool)))]⟩ ∧ pattern_ofX.j1 i_0 s_1 v_x2 v_x3 v_x4 v_x25 v_x26 own_x32 = some yy1) ?_ ?_
  ·
   clear hF
   rintro _ _ ⟨own_x32, rfl, rfl, hF⟩
   unfold pattern_ofX.j1 at hF
   refine Run.seq ?_
   refine rg fun K hK => ?_
   have q := And.intro hb4 (And.intro hq4 (And.intro hb6 (And.intro hq6 (And.intro hb69 (And.intro hq69 (And.intro hb13 hq13))))))
   iterate 4 refine wq ?_
   obtain ⟨g33, e33⟩ : ∃ g, g = (!(decide (((nth s_1.operands v_x25).kind) = 4))) := ⟨_, rfl⟩
   iterate 4 refine Wg rfl (b := g33) (by simp [q, e33]) (fun hg => by simp [q, hg]; rfl) ?_
   obtain ⟨g34, e34⟩ : ∃ g, g = ((!(decide (((nth s_1.operands v_x25).kind) = 4))) && (decide (0 ≤ ((nth s_1.operands v_x25).tied)))) := ⟨_, rfl⟩
   have w34_33 : g34 = true → g33 = true := fun h => e33.trans (and1 (e34.symm.trans h))
   iterate 5 refine Wg rfl (b := g34) (by simp [q, e34, e33]) (fun hg => by simp [q, hg, w34_33 hg]; rfl) ?_
   refine Wgand rfl (b := g33) (t := (decide (0 ≤ ((nth s_1.operands v_x25).tied)))) (β := (!decide (((nth s_1.operands v_x25).tied) = v_x2))) (by simp [q, e33]) (fun hg => by simp [q, hg]; done) rfl (fun hg hh => by have h0 := e34.trans (andI (e33.symm.trans hg) hh); simp [q, h0]) (by first | (simp; done) | (simp; rfl)) ?_
   refine Wor (t := (decide (((nth s_1.operands v_x25).kind) = 4))) (β := ((decide (0 ≤ ((nth s_1.operands v_x25).tied))) && (!decide (((nth s_1.operands v_x25).tied) = v_x2)))) (by simp [q]) rfl (fun hh => by have h0 := e33.trans (notf hh); simp [q, h0]) (by first | (simp; done) | (simp; rfl)) ?_
   refine wq ?_
   obtain ⟨g35, e35⟩ : ∃ g, g = (!((decide (((nth s_1.operands v_x25).kind) = 4)) || ((decide (0 ≤ ((nth s_1.operands v_x25).tied))) && (!decide (((nth s_1.operands v_x25).tied) = v_x2))))) := ⟨_, rfl⟩
   iterate 5 refine Wg rfl (b := g35) (by simp [q, e35]) (fun hg => by simp [q, hg]; rfl) ?_
   obtain ⟨g36, e36⟩ : ∃ g, g = ((!((decide (((nth s_1.operands v_x25).kind) = 4)) || ((decide (0 ≤ ((nth s_1.operands v_x25).tied))) && (!decide (((nth s_1.operands v_x25).tied) = v_x2))))) && (!decide (v_x25 = v_x2))) := ⟨_, rfl⟩
   have w36_35 : g36 = true → g35 = true := fun h => e35.trans (and1 (e36.symm.trans h))
   iterate 3 refine Wg rfl (b := g36) (by simp [q, e36, e35]) (fun hg => by simp [q, hg, w36_35 hg]; rfl) ?_
   refine Wg rfl (b := g36) (by simp [q, e36, e35]) (fun hg => evF_lkS (g := AV.bool) (m := v_x26) (k := ((nth s_1.operands v_x25).name)) (b := b69) (z := false) (by simp; rfl) rfl (by simp; rfl) rfl (by simp; rfl) (by simp) (by simp) (by simp) (by simp [q, hg, w36_35 hg]) (by simp [q, hg, w36_35 hg]) (by simp [q, hg, w36_35 hg])) ?_
   refine Wg rfl (b := g36) (by simp [q, e36, e35]) (fun hg => by simp [q, hg, w36_35 hg]; rfl) ?_
   refine Wgand rfl (b := g35) (t := (!decide (v_x25 = v_x2))) (β := (!((aget v_x26 ((nth s_1.operands v_x25).name)).getD false))) (by simp [q, e35]) (fun hg => by simp [q, hg]; done) rfl (fun hg hh => by have h0 := e36.trans (andI (e35.symm.trans hg) hh); simp [q, h0]) (by first | (simp; done) | (simp; rfl)) ?_
   refine Wor (t := ((decide (((nth s_1.operands v_x25).kind) = 4)) || ((decide (0 ≤ ((nth s_1.operands v_x25).tied))) && (!decide (((nth s_1.operands v_x25).tied) = v_x2))))) (β := ((!decide (v_x25 = v_x2)) && (!((aget v_x26 ((nth s_1.operands v_x25).name)).getD false)))) (by simp [q]) rfl (fun hh => by have h0 := e35.trans (notf hh); simp [q, h0]) (by first | (simp; done) | (simp; rfl)) ?_
   refine hK _ _ ?_; clear hK K
   refine Run.testEnd (b := (((decide (((nth s_1.operands v_x25).kind) = 4)) || ((decide (0 ≤ ((nth s_1.operands v_x25).tied))) && (!decide (((nth s_1.operands v_x25).tied) = v_x2)))) || ((!decide (v_x25 = v_x2)) && (!((aget v_x26 ((nth s_1.operands v_x25).name)).getD false))))) (by simp [q]) (fun h37 => ?_) (fun h37 => ?_)
   ·
    rw [itet h37] at hF; try simp at h37
    refine rg fun K hK => ?_
    have q := And.intro q h37
    refine wq ?_
    refine We rfl ?_; simp [q]
    refine wq ?_
    refine hK _ _ ?_; clear hK K
    refine Run.ret ?_
    have hv := hR1 _ (Option.some.inj hF).symm
    subst hv
    simp [tupA, hb4, hq4, hb6, hq6, hb69, hq69, hb13, hq13, h37]
   rw [itef h37] at hF; try simp at h37
   refine Run.skip ?_
   show Run _ _ _ _ _ _
   refine rge fun K hK => ?_
   have q := And.intro q h37
   iterate 3 refine wq ?_
   have hp38 := dropA_S AV.bool ((nth s_1.operands v_x25).name) v_x26
   refine We rfl ?_; simp [q, hp38]
   refine hK _ _ ?_; clear hK K
   show Run _ _ _ _ _ _
   refine rge fun K hK => ?_
   iterate 2 refine wq ?_
   refine hK _ _ ?_; clear hK K
   exact ⟨_, (Option.some.inj hF).symm, own_x32, (IntKind.i64.wrap (v_x25 + 1)), (adel v_x26 ((nth s_1.operands v_x25).name)), rfl, by simp [q, Fm.rst, nn, nn1], by simp [q, St.only, nn1]⟩
  skip
  refine rg fun K hK => ?_
  iterate 3 refine wq ?_
  refine Wq (evF_lkS (g := AV.bool) (m := v_x26) (k := ((nth s_1.operands v_x25).name)) (b := b69) (z := false) (by simp; rfl) rfl (by simp; rfl) rfl (by simp; rfl) (by simp) (by simp) (by simp) (by simp [q]) (by simp [q]) (by simp [q])) ?_
  refine wq ?_
  obtain ⟨g39, e39⟩ : ∃ g, g = ((aget v_x26 ((nth s_1.operands v_x25).name)).getD false) := ⟨_, rfl⟩
  iterate 5 refine Wg rfl (b := g39) (by simp [q, e39]) (fun hg => by simp [q, hg]; rfl) ?_
  obtain ⟨g40, e40⟩ : ∃ g, g = (((aget v_x26 ((nth s_1.operands v_x25).name)).getD false) && (!(decide (v_x25 = v_x2)))) := ⟨_, rfl⟩
  have w40_39 : g40 = true → g39 = true := fun h => e39.trans (and1 (e40.symm.trans h))
  iterate 3 refine Wg rfl (b := g40) (by simp [q, e40, e39]) (fun hg => by simp [q, hg, w40_39 hg]; rfl) ?_
  refine Wgor rfl (b := g39) (t := (decide (v_x25 = v_x2))) (β := (decide (0 ≤ ((nth s_1.operands v_x25).tied)))) (by simp [q, e39]) (fun hg => by simp [q, hg]; done) rfl (fun hg hh => by have h0 := e40.trans (andI (e39.symm.trans hg) (notf hh)); simp [q, h0]) (by first | (simp; done) | (simp; rfl)) ?_
  refine Wand (t := ((aget v_x26 ((nth s_1.operands v_x25).name)).getD false)) (β := ((decide (v_x25 = v_x2)) || (decide (0 ≤ ((nth s_1.operands v_x25).tied))))) (by simp [q]) rfl (fun hh => by have h0 := e39.trans hh; simp [q, h0]) (by first | (simp; done) | (simp; rfl)) ?_
  refine hK _ _ ?_; clear hK K
  refine Run.testEnd (b := (((aget v_x26 ((nth s_1.operands v_x25).name)).getD false) && ((decide (v_x25 = v_x2)) || (decide (0 ≤ ((nth s_1.operands v_x25).tied)))))) (by simp [q]) (fun h41 => ?_) (fun h41 => ?_)
  ·
   rw [itet h41] at hF; try simp at h41
   refine rge fun K hK => ?_
   have q := And.intro q h41
   iterate 3 refine wq ?_
   refine hK _ _ ?_; clear hK K
   exact ⟨(IntKind.i64.wrap (own_x24 + 1)), by simp [q, Fm.rst, nn, nn1], by simp [q, St.only, nn1], hF⟩
  rw [itef h41] at hF; try simp at h41
  refine Run.skip ?_
  have q := And.intro q h41
  exact ⟨own_x24, by simp [q, Fm.rst, nn, nn1], by simp [q, St.only, nn1], hF⟩
 rw [itef h30] at hF; try simp at h30
 refine Run.exit ?_
 replace hF := mapO hF; obtain ⟨z43, hF, hz⟩ := hF; have hz2 := (hR1 _ hz.symm).symm; subst hz2; clear hz
 show Run _ _ _ _ _ _
 refine rg fun K hK => ?_
 have q := And.intro q h30
 iterate 5 refine wq ?_
 obtain ⟨g42, e42⟩ : ∃ g, g = (decide ((v_x26.length : Int) = 0)) := ⟨_, rfl⟩
 iterate 2 refine Wg rfl (b := g42) (by simp [q, e42]) (fun hg => by simp [q, hg]; rfl) ?_
 refine Wand (t := (decide ((v_x26.length : Int) = 0))) (β := (decide (own_x24 ≤ 1))) (by simp [q]) rfl (fun hh => by have h0 := e42.trans hh; simp [q, h0]) (by first | (simp; done) | (simp; rfl)) ?_
 refine We rfl ?_; simp [q]
 refine wq ?_
 refine hK _ _ ?_; clear hK K
 refine Run.ret ?_
 obtain rfl := Option.some.inj hF
 simp [tupA, hb4, hq4, hb6, hq6, hb69, hq69, h30]

/-! pattern_table -/
def pattern_table.j0 [Fx] (v_x2 : Int) (out_x6 : List TPattern) : Option (((List TPattern) × Int) ⊕ ((List TPattern))) :=
 some (.inl (out_x6, (IntKind.i64.wrap (v_x2 + 1))))
def pattern_table.l0 [Fx] (m_0 : TMachine) : (List TPattern) × Int → Option (((List TPattern) × Int) ⊕ ((List TPattern))) := fun v =>
 match v with
 | (out_x1, v_x2) =>
 (if (decide (v_x2 < (m_0.instrs.length : Int))) then
 (if (0 : Int) ≤ v_x2 ∧ v_x2 < (m_0.instrs.length : Int) then
 ((pattern_ofX v_x2 (nth m_0.instrs v_x2)).bind fun y8 =>
 (if y8.2 then
 (if (out_x1.length + 1) * 113 ≤ 140737488351232 then
 pattern_table.j0 v_x2 (out_x1 ++ [y8.1])
 else none)
 else
 pattern_table.j0 v_x2 out_x1))
 else none)
 else
 (Option.map Sum.inr (some out_x1)))
def pattern_table [Fx] (m_0 : TMachine) : Option ((List TPattern)) :=
 Fx.fx (pattern_table.l0 m_0) ([], 0)
theorem pattern_table_ok [Fx] {m_0 : TMachine} {r : (List TPattern)} (hF : pattern_table m_0 = some r) : PCall Tryd.prog EE 26 [.agg m_0.row] fun v => v = .list .none (r.map TPattern.row) := by
 refine PCall.of_fun EOK (F := Tryd.f26) 29 [.tmp 2] (by kernel_rfl) rfl rfl rfl rfl (Nat.le_of_ble_eq_true rfl) (by simp) ?_
 simp only [slotsA]
 unfold pattern_table at hF
 refine rg fun K hK => ?_
 refine We rfl ?_; simp
 intro b1 _
 refine Wq (by simp; rfl) ?_
 refine hK _ _ ?_; clear hK K
 refine rg fun K hK => ?_
 refine Wq (by simp; rfl) ?_
 refine hK _ _ ?_; clear hK K
 refine Run.seq ?_
 refine rg fun K hK => ?_
 iterate 4 refine Wq (by simp; rfl) ?_
 refine hK _ _ ?_; clear hK K
 refine Run.block ?_
 refine Run.retagE 3 26 9 (by simp) (by omega) (by simp) (by simp; rfl) ?_
 refine Run.fixX hF [3, 9, 10, 11] [.slot 26] [] [] (by simp) (by simp) (by simp) (fun v f σ => ∃ out_x1 : List TPattern, ∃ v_x2 : Int, v = (out_x1, v_x2) ∧ f = ⟨29, [(3, .list (.slot 26) (out_x1.map TPattern.row)), (9, .list .none (m_0.instrs.map TMachInstr.row)), (10, .int .i64 (m_0.instrs.length : Int)), (11, .int .i64 v_x2)], [(.slot 26, (out_x1.length, 9))], []⟩ ∧ σ = ⟨[], []⟩) ?_ ?_
 ·
  exact ⟨[], 0, rfl, by simp [Fm.rst, nn, nn1], by simp [St.only, nn1]⟩
 clear hF
 rintro _ _ _ yy1 ⟨out_x1, v_x2, rfl, rfl, rfl⟩ hF hR1
 simp only [pattern_table.l0] at hF
 refine rg fun K hK => ?_
 refine Wq (by simp; rfl) ?_
 refine hK _ _ ?_; clear hK K
 refine Run.seq ?_
 refine Run.testEnd (b := (decide (v_x2 < (m_0.instrs.length : Int)))) (by simp) (fun h5 => ?_) (fun h5 => ?_)
 ·
  rw [itet h5] at hF; try simp at h5
  refine Run.skip ?_
  show Run _ _ _ _ _ _
  refine Run.join [3, 9, 10, 11] [.slot 26] [] [] (by simp) (by simp) (by simp) (fun f σ => ∃ out_x6 : List TPattern, f = ⟨29, [(3, .list (.slot 26) (out_x6.map TPattern.row)), (9, .list .none (m_0.instrs.map TMachInstr.row)), (10, .int .i64 (m_0.instrs.length : Int)), (11, .int .i64 v_x2)], [(.slot 26, (out_x6.length, 9))], []⟩ ∧ σ = ⟨[], []⟩ ∧ pattern_table.j0 v_x2 out_x6 = some yy1) ?_ ?_
  ·
   clear hF
   rintro _ _ ⟨out_x6, rfl, rfl, hF⟩
   unfold pattern_table.j0 at hF
   refine rge fun K hK => ?_
   iterate 2 refine Wq (by simp; rfl) ?_
   refine hK _ _ ?_; clear hK K
   exact ⟨_, (Option.some.inj hF).symm, out_x6, (IntKind.i64.wrap (v_x2 + 1)), rfl, by simp [Fm.rst, nn, nn1], by simp [St.only, nn1]⟩
  skip
  refine Run.block ?_
  replace hF := chkO hF; obtain ⟨hc7, hF⟩ := hF
  refine rg fun K hK => ?_
  have q := h5
  refine wq ?_
  refine Wq (evF_ix (tg := .none) (rw := TMachInstr.row) (xs := m_0.instrs) (k := .i64) (n := v_x2) (by simp; rfl) rfl (by simp; rfl) (by simp [q]) (by simp [q]) hc7.1 hc7.2 (by simp)) ?_
  refine wq ?_
  refine We rfl ?_; simp [q]
  intro b5 _
  refine wq ?_
  refine We rfl ?_; simp [q]
  refine hK _ _ ?_; clear hK K
  replace hF := bindO hF; obtain ⟨y8, hy8, hF⟩ := hF
  refine rg fun K hK => ?_
  iterate 2 refine wq ?_
  refine wcq (pattern_ofX_ok hy8) ?_; rintro _ rfl; simp
  iterate 3 refine wq ?_
  refine We rfl ?_; simp [q]
  intro b6 hb6; simp [Fresh] at hb6; have hq6 : ¬b5 = b6 := by omega
  have q := And.intro (And.intro q hb6) hq6
  refine We rfl ?_; simp [q]
  refine wq ?_
  refine hK _ _ ?_; clear hK K
  refine rg fun K hK => ?_
  refine wq ?_
  refine hK _ _ ?_; clear hK K
  refine Run.testEnd (b := y8.2) (by simp [q]) (fun h9 => ?_) (fun h9 => ?_)
  ·
   rw [itet h9] at hF; try simp at h9
   replace hF := chkO hF; obtain ⟨hc10, hF⟩ := hF
   refine rge fun K hK => ?_
   have q := And.intro q h9
   iterate 2 refine wq ?_
   refine We rfl ?_; simp [q]; refine .inr ?_
   refine We rfl ?_; simp [q]; first | (refine ⟨by omega, ?_⟩) | (refine ⟨by simp, by omega, ?_⟩) | skip
   refine wq ?_
   refine hK _ _ ?_; clear hK K
   exact ⟨(out_x1 ++ [y8.1]), by simp [q, Fm.rst, nn, nn1], by simp [q, St.only, nn1], hF⟩
  rw [itef h9] at hF; try simp at h9
  refine Run.skip ?_
  have q := And.intro q h9
  exact ⟨out_x1, by simp [q, Fm.rst, nn, nn1], by simp [q, St.only, nn1], hF⟩
 rw [itef h5] at hF; try simp at h5
 refine Run.exit ?_
 replace hF := mapO hF; obtain ⟨z11, hF, hz⟩ := hF; have hz2 := (hR1 _ hz.symm).symm; subst hz2; clear hz
 show Run _ _ _ _ _ _
 refine rg fun K hK => ?_
 have q := h5
 iterate 2 refine wq ?_
 refine hK _ _ ?_; clear hK K
 refine Run.ret ?_
 obtain rfl := Option.some.inj hF
 simp [tupA, h5]

/-! pattern_Table -/

def pattern_Table [Fx] (m_0 : TMachine) : Option ((List TPattern) × Int) :=
 ((machine_Check m_0).bind fun y1 =>
 (if (!decide (y1 = 0)) then
 some ([], y1)
 else
 ((pattern_table m_0).bind fun y3 =>
 some (y3, 0))))
theorem pattern_Table_ok [Fx] {m_0 : TMachine} {r : (List TPattern) × Int} (hF : pattern_Table m_0 = some r) : PCall Tryd.prog EE 8 [.agg m_0.row] fun v => v = .tup [.list .none (r.1.map TPattern.row), .int .i64 r.2] := by
 refine PCall.of_fun EOK (F := Tryd.f8) 12 [.tmp 2, .tmp 3] (by kernel_rfl) rfl rfl rfl rfl (Nat.le_of_ble_eq_true rfl) (by simp) ?_
 simp only [slotsA]
 unfold pattern_Table at hF
 refine rg fun K hK => ?_
 refine We rfl ?_; simp
 intro b1 _
 iterate 2 refine Wq (by simp; rfl) ?_
 refine hK _ _ ?_; clear hK K
 refine Run.seq ?_
 replace hF := bindO hF; obtain ⟨y1, hy1, hF⟩ := hF
 refine rg fun K hK => ?_
 refine Wq (by simp; rfl) ?_
 refine Wc rfl rfl rfl (by first | (simp; rfl) | (simp; done)) (by simp; done) (machine_Check_ok hy1) ?_; rintro _ rfl; simp
 refine Wq (by simp; rfl) ?_
 refine hK _ _ ?_; clear hK K
 refine rg fun K hK => ?_
 iterate 2 refine Wq (by simp; rfl) ?_
 refine hK _ _ ?_; clear hK K
 refine Run.testEnd (b := (!decide (y1 = 0))) (by simp) (fun h2 => ?_) (fun h2 => ?_)
 ·
  rw [itet h2] at hF; try simp at h2
  refine rg fun K hK => ?_
  have q := h2
  iterate 3 refine wq ?_
  refine hK _ _ ?_; clear hK K
  refine Run.ret ?_
  obtain rfl := Option.some.inj hF
  simp [tupA, h2]
 rw [itef h2] at hF; try simp at h2
 refine Run.skip ?_
 show Run _ _ _ _ _ _
 replace hF := bindO hF; obtain ⟨y3, hy3, hF⟩ := hF
 refine rg fun K hK => ?_
 have q := h2
 refine wq ?_
 refine wcq (pattern_table_ok hy3) ?_; rintro _ rfl; simp
 iterate 2 refine wq ?_
 refine hK _ _ ?_; clear hK K
 refine Run.ret ?_
 obtain rfl := Option.some.inj hF
 simp [tupA, h2]

/-! pattern_atX -/

def pattern_atX [Fx] (m_0 : TMachine) (p_1 : Int) : Option (TPattern × (List TMachOperand) × Int) :=
 ((pattern_Table m_0).bind fun y1 =>
 (if (!decide (y1.2 = 0)) then
 some ((TPattern.mk 0 0 (TTerm.mk 0 0 0 [] 0 []) []), [], y1.2)
 else
 (if ((decide (p_1 < 0)) || (decide ((y1.1.length : Int) ≤ p_1))) then
 some ((TPattern.mk 0 0 (TTerm.mk 0 0 0 [] 0 []) []), [], 6)
 else
 (if (0 : Int) ≤ p_1 ∧ p_1 < (y1.1.length : Int) then
 (if (0 : Int) ≤ p_1 ∧ p_1 < (y1.1.length : Int) then
 (if (0 : Int) ≤ ((nth y1.1 p_1).instr) ∧ ((nth y1.1 p_1).instr) < (m_0.instrs.length : Int) then
 some ((nth y1.1 p_1), (nth m_0.instrs ((nth y1.1 p_1).instr)).operands, 0)
 else none)
 else none)
 else none))))
theorem pattern_atX_ok [Fx] {m_0 : TMachine} {p_1 : Int} {r : TPattern × (List TMachOperand) × Int} (hF : pattern_atX m_0 p_1 = some r) : PCall Tryd.prog EE 41 [.agg m_0.row, .int .i64 p_1] fun v => v = .tup [.agg r.1.row, .list .none (r.2.1.map TMachOperand.row), .int .i64 r.2.2] := by
 refine PCall.of_fun EOK (F := Tryd.f41) 43 [.cell 4 41, .tmp 5, .tmp 6] (by kernel_rfl) rfl rfl rfl rfl (Nat.le_of_ble_eq_true rfl) (by simp) ?_
 simp only [slotsA]
 unfold pattern_atX at hF
 refine rg fun K hK => ?_
 refine We rfl ?_; simp
 intro b2 _
 refine We rfl ?_; simp
 intro b4 hb4; simp [Fresh] at hb4; have hq4 : ¬b2 = b4 := by omega
 have q := And.intro hb4 hq4
 iterate 2 refine wq ?_
 refine hK _ _ ?_; clear hK K
 replace hF := bindO hF; obtain ⟨y1, hy1, hF⟩ := hF
 refine rg fun K hK => ?_
 refine wq ?_
 refine wcq (pattern_Table_ok hy1) ?_; rintro _ rfl; simp
 iterate 5 refine wq ?_
 refine hK _ _ ?_; clear hK K
 refine Run.seq ?_
 refine Run.block ?_
 refine rg fun K hK => ?_
 iterate 3 refine wq ?_
 refine hK _ _ ?_; clear hK K
 refine Run.testEnd (b := (!decide (y1.2 = 0))) (by simp [q]) (fun h2 => ?_) (fun h2 => ?_)
 ·
  rw [itet h2] at hF; try simp at h2
  refine rg fun K hK => ?_
  have q := And.intro q h2
  iterate 2 refine wq ?_
  refine We rfl ?_; simp [q]
  iterate 2 refine wq ?_
  refine hK _ _ ?_; clear hK K
  refine Run.ret ?_
  obtain rfl := Option.some.inj hF
  simp [tupA, hb4, hq4, h2]
 rw [itef h2] at hF; try simp at h2
 refine rg fun K hK => ?_
 have q := And.intro q h2
 iterate 3 refine wq ?_
 obtain ⟨g3, e3⟩ : ∃ g, g = (!(decide (p_1 < 0))) := ⟨_, rfl⟩
 iterate 4 refine Wg rfl (b := g3) (by simp [q, e3]) (fun hg => by simp [q, hg]; rfl) ?_
 refine Wor (t := (decide (p_1 < 0))) (β := (decide ((y1.1.length : Int) ≤ p_1))) (by simp [q]) rfl (fun hh => by have h0 := e3.trans (notf hh); simp [q, h0]) (by first | (simp; done) | (simp; rfl)) ?_
 refine wq ?_
 refine hK _ _ ?_; clear hK K
 refine Run.testEnd (b := ((decide (p_1 < 0)) || (decide ((y1.1.length : Int) ≤ p_1)))) (by simp [q]) (fun h4 => ?_) (fun h4 => ?_)
 ·
  rw [itet h4] at hF; try simp at h4
  refine rg fun K hK => ?_
  have q := And.intro q h4
  refine wq ?_
  refine We rfl ?_; simp [q]
  iterate 2 refine wq ?_
  refine hK _ _ ?_; clear hK K
  refine Run.ret ?_
  obtain rfl := Option.some.inj hF
  simp [tupA, hb4, hq4, h2, h4]
 rw [itef h4] at hF; try simp at h4
 refine Run.skip ?_
 show Run _ _ _ _ _ _
 replace hF := chkO hF; obtain ⟨hc5, hF⟩ := hF
 replace hF := chkO hF; obtain ⟨hc6, hF⟩ := hF
 replace hF := chkO hF; obtain ⟨hc7, hF⟩ := hF
 have q := And.intro q h4
 refine Run.drawHReg EOK mixed ⟨[(b2, _)], []⟩ ⟨[(b4, _)], []⟩ ((pick1 (by first | (simp [q]; done) | (simp [q]; rfl) | (simp [q]; repeat' first | rfl | apply And.intro)) (by first | (simp [q]; done) | (simp [q]; rfl) | (simp [q]; repeat' first | rfl | apply And.intro))).trans List.perm_append_comm) (by exact pick0.trans List.perm_append_comm) (by simp [noCells, noCellS, noCellV, noCellC, noCellT]) 15 [0, 1, 2, 3, 4, 5, 6, 7, 8, 9, 10, 11, 12, 13, 14] rfl (by kernel_rfl) fun K hK => ?_
 iterate 2 refine Hq rfl (by simp [q]; rfl) ?_
 refine Hq rfl (evP_of (evF_ix (tg := .none) (rw := TPattern.row) (xs := y1.1) (k := .i64) (n := p_1) (by simp; rfl) rfl (by simp; rfl) (by simp [q]) (by simp [q]) hc5.1 hc5.2 (by simp))) ?_
 iterate 5 refine Hq rfl (by simp [q]; rfl) ?_
 refine Hq rfl (evP_of (evF_ix (tg := .none) (rw := TPattern.row) (xs := y1.1) (k := .i64) (n := p_1) (by simp; rfl) rfl (by simp; rfl) (by simp [q]) (by simp [q]) hc6.1 hc6.2 (by simp))) ?_
 iterate 2 refine Hq rfl (by simp [q]; rfl) ?_
 refine Hq rfl (evP_of (evF_ix (tg := .none) (rw := TMachInstr.row) (xs := m_0.instrs) (k := .i64) (n := ((nth y1.1 p_1).instr)) (by simp; rfl) rfl (by simp; rfl) (by simp [q]) (by simp [q]) hc7.1 hc7.2 (by simp))) ?_
 iterate 2 refine Hq rfl (by simp [q]; rfl) ?_
 refine Hs (b := b4) (off := 0) rfl rfl rfl (by simp) (by simp; rfl) (by first | (simp [q]; done) | (simp [q]; rfl)) (by first | (simp [q]; done) | (simp [q]; rfl)) (by first | (simp [q]; done) | (simp [q]; rfl)) (by first | (simp [q]; done) | (simp [q]; rfl)) (by first | (simp [q]; done) | (simp [q]; rfl)) (by first | (simp [q]; done) | (simp [q]; rfl)) (by first | (simp [q]; done) | (simp [q]; rfl)) ?_; simp [q]
 refine Hd ?_; simp [St.add]
 iterate 2 refine wq ?_
 refine hK _ _ ?_; clear hK K
 refine Run.ret ?_
 obtain rfl := Option.some.inj hF
 simp [tupA, hb4, hq4, h2, h4]

/-! pattern_inputs -/
def pattern_inputs.j0 [Fx] (v_x3 : Int) (out_x7 : List Int) : Option (((List Int) × Int) ⊕ ((List Int))) :=
 some (.inl (out_x7, (IntKind.i64.wrap (v_x3 + 1))))
def pattern_inputs.l0 [Fx] (l_1 : List TMachOperand) (y1 : List (List UInt8 × Bool)) : (List Int) × Int → Option (((List Int) × Int) ⊕ ((List Int))) := fun v =>
 match v with
 | (out_x2, v_x3) =>
 (if (decide (v_x3 < (l_1.length : Int))) then
 (if (0 : Int) ≤ v_x3 ∧ v_x3 < (l_1.length : Int) then
 (if ((aget y1 ((nth l_1 v_x3).name)).getD false) then
 (if (out_x2.length + 1) * 9 ≤ 140737488351232 then
 pattern_inputs.j0 v_x3 (out_x2 ++ [v_x3])
 else none)
 else
 pattern_inputs.j0 v_x3 out_x2)
 else none)
 else
 (Option.map Sum.inr (some out_x2)))
def pattern_inputs [Fx] (p_0 : TPattern) (l_1 : List TMachOperand) : Option ((List Int)) :=
 ((pattern_occurs p_0.term []).bind fun y1 =>
 Fx.fx (pattern_inputs.l0 l_1 y1) ([], 0))
theorem pattern_inputs_ok [Fx] {p_0 : TPattern} {l_1 : List TMachOperand} {r : (List Int)} (hF : pattern_inputs p_0 l_1 = some r) : PCall Tryd.prog EE 42 [.agg p_0.row, .list .none (l_1.map TMachOperand.row)] fun v => v = .list .none (r.map (rwI .i64)) := by
 refine PCall.of_fun EOK (F := Tryd.f42) 31 [.tmp 4] (by kernel_rfl) rfl rfl rfl rfl (Nat.le_of_ble_eq_true rfl) (by simp) ?_
 simp only [slotsA]
 unfold pattern_inputs at hF
 refine rg fun K hK => ?_
 refine We rfl ?_; simp
 intro b2 _
 refine Wq (by simp; rfl) ?_
 refine hK _ _ ?_; clear hK K
 refine rg fun K hK => ?_
 refine We rfl ?_; simp
 intro b9 hb9; simp [Fresh] at hb9; have hq9 : ¬b2 = b9 := by omega
 have q := And.intro hb9 hq9
 refine wq ?_
 refine hK _ _ ?_; clear hK K
 replace hF := bindO hF; obtain ⟨y1, hy1, hF⟩ := hF
 refine rg fun K hK => ?_
 iterate 3 refine wq ?_
 refine Wcb ⟨[], [(b9, _)]⟩ ⟨[(b2, _)], []⟩ rfl rfl rfl (by simp [q]; rfl) (by simp [q]; done) (pattern_occurs_ok (b_1 := b9) hy1) (by exact pick0) pk1 ?_
 rintro _ _ ⟨rfl, rfl⟩; simp [noCells, noCellS, noCellV, noCellC, noCellT, St.add]
 refine hK _ _ ?_; clear hK K
 refine rg fun K hK => ?_
 refine wq ?_
 refine hK _ _ ?_; clear hK K
 refine Run.seq ?_
 refine rg fun K hK => ?_
 iterate 3 refine wq ?_
 refine hK _ _ ?_; clear hK K
 refine Run.block ?_
 refine Run.retagE 6 28 1 (by simp [q]) (by omega) (by simp) (by simp; rfl) ?_
 refine Run.fixX hF [5, 6, 14, 15, 16] [.slot 28] [] [b9] (by simp) (by simp) (by simp) (fun v f σ => ∃ out_x2 : List Int, ∃ v_x3 : Int, v = (out_x2, v_x3) ∧ f = ⟨31, [(5, .map b9), (6, .list (.slot 28) (out_x2.map (rwI .i64))), (14, .list .none (l_1.map TMachOperand.row)), (15, .int .i64 (l_1.length : Int)), (16, .int .i64 v_x3)], [(.slot 28, (out_x2.length, 1))], []⟩ ∧ σ = ⟨[], [(b9, .mp (y1.map (mS AV.bool)))]⟩) ?_ ?_
 ·
  exact ⟨[], 0, rfl, by simp [q, Fm.rst, nn, nn1], by simp [q, St.only, nn1]⟩
 clear hF
 rintro _ _ _ yy1 ⟨out_x2, v_x3, rfl, rfl, rfl⟩ hF hR1
 simp only [pattern_inputs.l0] at hF
 refine rg fun K hK => ?_
 refine wq ?_
 refine hK _ _ ?_; clear hK K
 refine Run.seq ?_
 refine Run.testEnd (b := (decide (v_x3 < (l_1.length : Int)))) (by simp [q]) (fun h6 => ?_) (fun h6 => ?_)
 ·
  rw [itet h6] at hF; try simp at h6
  refine Run.skip ?_
  show Run _ _ _ _ _ _
  refine Run.join [5, 6, 14, 15, 16] [.slot 28] [] [b9] (by simp) (by simp) (by simp) (fun f σ => ∃ out_x7 : List Int, f = ⟨31, [(5, .map b9), (6, .list (.slot 28) (out_x7.map (rwI .i64))), (14, .list .none (l_1.map TMachOperand.row)), (15, .int .i64 (l_1.length : Int)), (16, .int .i64 v_x3)], [(.slot 28, (out_x7.length, 1))], []⟩ ∧ σ = ⟨[], [(b9, .mp (y1.map (mS AV.bool)))]⟩ ∧ pattern_inputs.j0 v_x3 out_x7 = some yy1) ?_ ?_
  ·
   clear hF
   rintro _ _ ⟨out_x7, rfl, rfl, hF⟩
   unfold pattern_inputs.j0 at hF
   refine rge fun K hK => ?_
   iterate 2 refine wq ?_
   refine hK _ _ ?_; clear hK K
   exact ⟨_, (Option.some.inj hF).symm, out_x7, (IntKind.i64.wrap (v_x3 + 1)), rfl, by simp [q, Fm.rst, nn, nn1], by simp [q, St.only, nn1]⟩
  skip
  refine Run.block ?_
  replace hF := chkO hF; obtain ⟨hc8, hF⟩ := hF
  refine rg fun K hK => ?_
  have q := And.intro q h6
  refine wq ?_
  refine Wq (evF_ix (tg := .none) (rw := TMachOperand.row) (xs := l_1) (k := .i64) (n := v_x3) (by simp; rfl) rfl (by simp; rfl) (by simp [q]) (by simp [q]) hc8.1 hc8.2 (by simp)) ?_
  refine wq ?_
  refine We rfl ?_; simp [q]
  intro b8 hb8; simp [Fresh] at hb8; have hq8 : ¬b9 = b8 := by omega
  have q := And.intro (And.intro q hb8) hq8
  refine wq ?_
  refine We rfl ?_; simp [q]
  refine hK _ _ ?_; clear hK K
  refine rg fun K hK => ?_
  iterate 3 refine wq ?_
  refine Wq (evF_lkS (g := AV.bool) (m := y1) (k := ((nth l_1 v_x3).name)) (b := b9) (z := false) (by simp; rfl) rfl (by simp; rfl) rfl (by simp; rfl) (by simp) (by simp) (by simp) (by simp [q]) (by simp [q]) (by simp [q])) ?_
  refine hK _ _ ?_; clear hK K
  refine Run.testEnd (b := ((aget y1 ((nth l_1 v_x3).name)).getD false)) (by simp [q]) (fun h9 => ?_) (fun h9 => ?_)
  ·
   rw [itet h9] at hF; try simp at h9
   replace hF := chkO hF; obtain ⟨hc10, hF⟩ := hF
   refine rge fun K hK => ?_
   have q := And.intro q h9
   iterate 2 refine wq ?_
   refine We rfl ?_; simp [q]; refine .inr ?_
   refine We rfl ?_; simp [q]; first | (refine ⟨by omega, ?_⟩) | (refine ⟨by simp, by omega, ?_⟩) | skip
   refine wq ?_
   refine hK _ _ ?_; clear hK K
   exact ⟨(out_x2 ++ [v_x3]), by simp [q, Fm.rst, nn, nn1], by simp [q, St.only, nn1], hF⟩
  rw [itef h9] at hF; try simp at h9
  refine Run.skip ?_
  have q := And.intro q h9
  exact ⟨out_x2, by simp [q, Fm.rst, nn, nn1], by simp [q, St.only, nn1], hF⟩
 rw [itef h6] at hF; try simp at h6
 refine Run.exit ?_
 replace hF := mapO hF; obtain ⟨z11, hF, hz⟩ := hF; have hz2 := (hR1 _ hz.symm).symm; subst hz2; clear hz
 show Run _ _ _ _ _ _
 refine rg fun K hK => ?_
 have q := And.intro q h6
 iterate 2 refine wq ?_
 refine hK _ _ ?_; clear hK K
 refine Run.ret ?_
 obtain rfl := Option.some.inj hF
 simp [tupA, hb9, hq9, h6]

/-! pattern_Inputs -/

def pattern_Inputs [Fx] (m_0 : TMachine) (p_1 : Int) : Option ((List Int) × Int) :=
 ((pattern_atX m_0 p_1).bind fun y1 =>
 (if (!decide (y1.2.2 = 0)) then
 some ([], y1.2.2)
 else
 ((pattern_inputs y1.1 y1.2.1).bind fun y3 =>
 some (y3, 0))))
theorem pattern_Inputs_ok [Fx] {m_0 : TMachine} {p_1 : Int} {r : (List Int) × Int} (hF : pattern_Inputs m_0 p_1 = some r) : PCall Tryd.prog EE 11 [.agg m_0.row, .int .i64 p_1] fun v => v = .tup [.list .none (r.1.map (rwI .i64)), .int .i64 r.2] := by
 refine PCall.of_fun EOK (F := Tryd.f11) 22 [.tmp 4, .tmp 5] (by kernel_rfl) rfl rfl rfl rfl (Nat.le_of_ble_eq_true rfl) (by simp) ?_
 simp only [slotsA]
 unfold pattern_Inputs at hF
 refine rg fun K hK => ?_
 refine We rfl ?_; simp
 intro b2 _
 iterate 2 refine Wq (by simp; rfl) ?_
 refine hK _ _ ?_; clear hK K
 replace hF := bindO hF; obtain ⟨y1, hy1, hF⟩ := hF
 refine rg fun K hK => ?_
 iterate 2 refine Wq (by simp; rfl) ?_
 refine Wc rfl rfl rfl (by first | (simp; rfl) | (simp; done)) (by simp; done) (pattern_atX_ok hy1) ?_; rintro _ rfl; simp
 iterate 4 refine Wq (by simp; rfl) ?_
 refine We rfl ?_; simp
 intro b6 hb6; simp [Fresh] at hb6; have hq6 : ¬b2 = b6 := by omega
 have q := And.intro hb6 hq6
 refine We rfl ?_; simp [q]
 iterate 2 refine wq ?_
 refine hK _ _ ?_; clear hK K
 refine Run.seq ?_
 refine rg fun K hK => ?_
 iterate 2 refine wq ?_
 refine hK _ _ ?_; clear hK K
 refine Run.testEnd (b := (!decide (y1.2.2 = 0))) (by simp [q]) (fun h2 => ?_) (fun h2 => ?_)
 ·
  rw [itet h2] at hF; try simp at h2
  refine rg fun K hK => ?_
  have q := And.intro q h2
  iterate 3 refine wq ?_
  refine hK _ _ ?_; clear hK K
  refine Run.ret ?_
  obtain rfl := Option.some.inj hF
  simp [tupA, hb6, hq6, h2]
 rw [itef h2] at hF; try simp at h2
 refine Run.skip ?_
 show Run _ _ _ _ _ _
 replace hF := bindO hF; obtain ⟨y3, hy3, hF⟩ := hF
 refine rg fun K hK => ?_
 have q := And.intro q h2
 iterate 2 refine wq ?_
 refine wcq (pattern_inputs_ok hy3) ?_; rintro _ rfl; simp
 iterate 2 refine wq ?_
 refine hK _ _ ?_; clear hK K
 refine Run.ret ?_
 obtain rfl := Option.some.inj hF
 simp [tupA, hb6, hq6, h2]

end Go.Proofs.YtpjkepfplhllfaaDoor.Av
