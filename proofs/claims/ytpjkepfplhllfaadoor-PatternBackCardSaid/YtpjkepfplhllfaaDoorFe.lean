/-
What functions compute.
-/
import Derived.Test.YtpjkepfplhllfaaDoorAv29
import Derived.Test.YtpjkepfplhllfaaDoorFd
namespace Go.Proofs.YtpjkepfplhllfaaDoor.Av
set_option linter.unusedSimpArgs false
set_option linter.unusedVariables false
set_option maxRecDepth 100000
set_option maxHeartbeats 4000000
open Go Go.Proofs
/-! slices_IndexFunc_api_MachOperand -/
def slices_IndexFunc_api_MachOperand.l0 [Fx] (s_0 : List TMachOperand) (f_1 : TMachOperand → Option Bool) : Int → Option (Int ⊕ Int) := fun v =>
 match v with
 | v_x1 =>
 (if (decide (v_x1 < (s_0.length : Int))) then
 (if (0 : Int) ≤ v_x1 ∧ v_x1 < (s_0.length : Int) then
 ((f_1 (nth s_0 v_x1)).bind fun y5 =>
 (if y5 then
 some (.inr v_x1)
 else
 some (.inl (IntKind.i64.wrap (v_x1 + 1)))))
 else none)
 else
 (Option.map Sum.inr (some (-1))))
def slices_IndexFunc_api_MachOperand [Fx] (s_0 : List TMachOperand) (f_1 : TMachOperand → Option Bool) : Option Int :=
 Fx.fx (slices_IndexFunc_api_MachOperand.l0 s_0 f_1) 0
theorem slices_IndexFunc_api_MachOperand_ok [Fx] {fn_1 : Nat} {caps_1 : List AV} {f_1 : TMachOperand → Option Bool} (hf_1 : ∀ {x_0 : TMachOperand} {r : Bool}, f_1 x_0 = some r → PCall Tryd.prog EE fn_1 ([.agg x_0.row] ++ caps_1) fun v => v = .bool r) (hk_1 : caps_1.map er = caps_1) {s_0 : List TMachOperand} {r : Int} (hF : slices_IndexFunc_api_MachOperand s_0 f_1 = some r) : PCall Tryd.prog EE 70 [.list .none (s_0.map TMachOperand.row), .func fn_1 caps_1] fun v => v = .int .i64 r := by
 have q := hk_1
 refine PCall.of_fun EOK (F := Tryd.f70) 19 [.tmp 4] (by kernel_rfl) rfl rfl rfl rfl (Nat.le_of_ble_eq_true rfl) (by simp [q]) ?_
 simp only [slotsA]
 unfold slices_IndexFunc_api_MachOperand at hF
 refine rg fun K hK => ?_
 refine wq ?_
 refine hK _ _ ?_; clear hK K
 refine Run.seq ?_
 refine rg fun K hK => ?_
 iterate 3 refine wq ?_
 refine hK _ _ ?_; clear hK K
 refine Run.block ?_
 refine Run.fixX hF [0, 1, 7, 8] [] [] [] (by simp) (by simp) (by simp) (fun v_x1 f σ => f = ⟨19, [(0, .list .none (s_0.map TMachOperand.row)), (1, .func fn_1 caps_1), (7, .int .i64 (s_0.length : Int)), (8, .int .i64 v_x1)], [], []⟩ ∧ σ = ⟨[], []⟩) ?_ ?_
 ·
  exact ⟨by simp [q, Fm.rst, nn, nn1], by simp [q, St.only, nn1]⟩
 clear hF
 rintro v_x1 _ _ yy1 ⟨rfl, rfl⟩ hF hR1
 simp only [slices_IndexFunc_api_MachOperand.l0] at hF
 refine rg fun K hK => ?_
 refine wq ?_
 refine hK _ _ ?_; clear hK K
 refine Run.seq ?_
 refine Run.testEnd (b := (decide (v_x1 < (s_0.length : Int)))) (by simp [q]) (fun h3 => ?_) (fun h3 => ?_)
 ·
  rw [itet h3] at hF; try simp at h3
  refine Run.skip ?_
  show Run _ _ _ _ _ _
  refine Run.seq ?_
  refine Run.block ?_
  refine rg fun K hK => ?_
  have q := And.intro q h3
  iterate 2 refine wq ?_
  refine hK _ _ ?_; clear hK K
  replace hF := chkO hF; obtain ⟨hc4, hF⟩ := hF
  replace hF := bindO hF; obtain ⟨y5, hy5, hF⟩ := hF
  refine rg fun K hK => ?_
  iterate 3 refine wq ?_
  refine Wq (evF_ix (tg := .none) (rw := TMachOperand.row) (xs := s_0) (k := .i64) (n := v_x1) (by simp; rfl) rfl (by simp; rfl) (by simp [q]) (by simp [q]) hc4.1 hc4.2 (by simp)) ?_
  refine wq ?_
  refine wcq (hf_1 hy5) ?_; rintro _ rfl; simp
  refine hK _ _ ?_; clear hK K
  refine Run.testEnd (b := y5) (by simp [q]) (fun h6 => ?_) (fun h6 => ?_)
  ·
   rw [itet h6] at hF; try simp at h6
   refine rg fun K hK => ?_
   have q := And.intro q h6
   iterate 2 refine wq ?_
   refine hK _ _ ?_; clear hK K
   refine Run.ret ?_
   have hv := hR1 _ (Option.some.inj hF).symm
   subst hv
   simp [tupA, hk_1, h3, h6]
  rw [itef h6] at hF; try simp at h6
  refine Run.skip ?_
  show Run _ _ _ _ _ _
  refine rge fun K hK => ?_
  have q := And.intro q h6
  iterate 2 refine wq ?_
  refine hK _ _ ?_; clear hK K
  exact ⟨_, (Option.some.inj hF).symm, by simp [q, Fm.rst, nn, nn1], by simp [q, St.only, nn1]⟩
 rw [itef h3] at hF; try simp at h3
 refine Run.exit ?_
 replace hF := mapO hF; obtain ⟨z7, hF, hz⟩ := hF; have hz2 := (hR1 _ hz.symm).symm; subst hz2; clear hz
 show Run _ _ _ _ _ _
 refine rg fun K hK => ?_
 have q := And.intro q h3
 refine wq ?_
 refine hK _ _ ?_; clear hK K
 refine Run.ret ?_
 obtain rfl := Option.some.inj hF
 simp [tupA, hk_1, h3]

/-! pattern_find_1 -/

def pattern_find_1 (o_0 : TMachOperand) (c_1 : List UInt8) : Option Bool :=
 some (decide (o_0.name = c_1))
theorem pattern_find_1_ok {o_0 : TMachOperand} {c_1 : List UInt8} {r : Bool} (hF : pattern_find_1 o_0 c_1 = some r) : PCall Tryd.prog EE 71 [.agg o_0.row, .cptr [.str c_1]] fun v => v = .bool r := by
 refine PCall.of_fun EOK (F := Tryd.f71) 8 [.tmp 3] (by kernel_rfl) rfl rfl rfl rfl (Nat.le_of_ble_eq_true rfl) (by simp) ?_
 simp only [slotsA]
 unfold pattern_find_1 at hF
 refine rg fun K hK => ?_
 refine We rfl ?_; simp
 intro b2 _
 refine Wq (by simp; rfl) ?_
 refine hK _ _ ?_; clear hK K
 refine rg fun K hK => ?_
 iterate 5 refine Wq (by simp; rfl) ?_
 refine hK _ _ ?_; clear hK K
 refine Run.ret ?_
 obtain rfl := Option.some.inj hF
 simp [tupA]

/-! pattern_find -/

def pattern_find [Fx] (l_0 : List TMachOperand) (name_1 : List UInt8) : Option Int :=
 ((slices_IndexFunc_api_MachOperand l_0 (fun x0 => pattern_find_1 x0 name_1)).bind fun y1 =>
 some y1)
theorem pattern_find_ok [Fx] {l_0 : List TMachOperand} {name_1 : List UInt8} {r : Int} (hF : pattern_find l_0 name_1 = some r) : PCall Tryd.prog EE 46 [.list .none (l_0.map TMachOperand.row), .str name_1] fun v => v = .int .i64 r := by
 refine PCall.of_fun EOK (F := Tryd.f46) 8 [.tmp 4] (by kernel_rfl) rfl rfl rfl rfl (Nat.le_of_ble_eq_true rfl) (by simp) ?_
 simp only [slotsA]
 unfold pattern_find at hF
 refine rg fun K hK => ?_
 refine We rfl ?_; simp
 intro b3 _
 refine Wq (by simp; rfl) ?_
 refine hK _ _ ?_; clear hK K
 refine Run.freezeE b3 (by simp; rfl) (by simp; rfl) (by simp; rfl) ?_
 replace hF := bindO hF; obtain ⟨y1, hy1, hF⟩ := hF
 refine rg fun K hK => ?_
 iterate 2 refine Wq (by simp; rfl) ?_
 refine Wc rfl rfl rfl (by first | (simp; rfl) | (simp; done)) (by simp; done) (slices_IndexFunc_api_MachOperand_ok (fn_1 := 71) (caps_1 := [.cptr [.str name_1]]) (f_1 := (fun x0 => pattern_find_1 x0 name_1)) (hf_1 := (fun h => pattern_find_1_ok h)) (hk_1 := by simp) hy1) ?_; rintro _ rfl; simp
 refine Wq (by simp; rfl) ?_
 refine hK _ _ ?_; clear hK K
 refine Run.ret ?_
 obtain rfl := Option.some.inj hF
 simp [tupA]

/-! slices_EqualFunc_api_Term -/
def slices_EqualFunc_api_Term.l0 [Fx] (s1_0 : List TTerm) (s2_1 : List TTerm) (eq_2 : TTerm → TTerm → Option Bool) : Int → Option (Int ⊕ Bool) := fun v =>
 match v with
 | v_x2 =>
 (if (decide (v_x2 < (s1_0.length : Int))) then
 (if (0 : Int) ≤ v_x2 ∧ v_x2 < (s1_0.length : Int) then
 (if (0 : Int) ≤ v_x2 ∧ v_x2 < (s2_1.length : Int) then
 ((eq_2 (nth s1_0 v_x2) (nth s2_1 v_x2)).bind fun y7 =>
 (if (!y7) then
 some (.inr false)
 else
 some (.inl (IntKind.i64.wrap (v_x2 + 1)))))
 else none)
 else none)
 else
 (Option.map Sum.inr (some true)))
def slices_EqualFunc_api_Term [Fx] (s1_0 : List TTerm) (s2_1 : List TTerm) (eq_2 : TTerm → TTerm → Option Bool) : Option Bool :=
 (if (!decide ((s1_0.length : Int) = (s2_1.length : Int))) then
 some false
 else
 Fx.fx (slices_EqualFunc_api_Term.l0 s1_0 s2_1 eq_2) 0)
theorem slices_EqualFunc_api_Term_ok [Fx] {fn_2 : Nat} {caps_2 : List AV} {eq_2 : TTerm → TTerm → Option Bool} (hf_2 : ∀ {x_0 : TTerm} {x_1 : TTerm} {r : Bool}, eq_2 x_0 x_1 = some r → PCall Tryd.prog EE fn_2 ([.agg x_0.row, .agg x_1.row] ++ caps_2) fun v => v = .bool r) (hk_2 : caps_2.map er = caps_2) {s1_0 : List TTerm} {s2_1 : List TTerm} {r : Bool} (hF : slices_EqualFunc_api_Term s1_0 s2_1 eq_2 = some r) : PCall Tryd.prog EE 72 [.list .none (s1_0.map TTerm.row), .list .none (s2_1.map TTerm.row), .func fn_2 caps_2] fun v => v = .bool r := by
 have q := hk_2
 refine PCall.of_fun EOK (F := Tryd.f72) 32 [.tmp 6] (by kernel_rfl) rfl rfl rfl rfl (Nat.le_of_ble_eq_true rfl) (by simp [q]) ?_
 simp only [slotsA]
 unfold slices_EqualFunc_api_Term at hF
 refine rg fun K hK => ?_
 refine wq ?_
 refine hK _ _ ?_; clear hK K
 refine Run.seq ?_
 refine rg fun K hK => ?_
 iterate 5 refine wq ?_
 refine hK _ _ ?_; clear hK K
 refine Run.testEnd (b := (!decide ((s1_0.length : Int) = (s2_1.length : Int)))) (by simp [q]) (fun h1 => ?_) (fun h1 => ?_)
 ·
  rw [itet h1] at hF; try simp at h1
  refine rg fun K hK => ?_
  have q := And.intro q h1
  refine wq ?_
  refine hK _ _ ?_; clear hK K
  refine Run.ret ?_
  obtain rfl := Option.some.inj hF
  simp [tupA, hk_2, h1]
 rw [itef h1] at hF; try simp at h1
 refine Run.skip ?_
 show Run _ _ _ _ _ _
 refine Run.seq ?_
 refine rg fun K hK => ?_
 have q := And.intro q h1
 iterate 3 refine wq ?_
 refine hK _ _ ?_; clear hK K
 refine Run.block ?_
 refine Run.fixX hF [1, 2, 15, 16, 17] [] [] [] (by simp) (by simp) (by simp) (fun v_x2 f σ => f = ⟨32, [(1, .list .none (s2_1.map TTerm.row)), (2, .func fn_2 caps_2), (15, .list .none (s1_0.map TTerm.row)), (16, .int .i64 (s1_0.length : Int)), (17, .int .i64 v_x2)], [], []⟩ ∧ σ = ⟨[], []⟩) ?_ ?_
 ·
  exact ⟨by simp [q, Fm.rst, nn, nn1], by simp [q, St.only, nn1]⟩
 clear hF
 rintro v_x2 _ _ yy1 ⟨rfl, rfl⟩ hF hR1
 simp only [slices_EqualFunc_api_Term.l0] at hF
 refine rg fun K hK => ?_
 have q := hk_2
 refine wq ?_
 refine hK _ _ ?_; clear hK K
 refine Run.seq ?_
 refine Run.testEnd (b := (decide (v_x2 < (s1_0.length : Int)))) (by simp [q]) (fun h4 => ?_) (fun h4 => ?_)
 ·
  rw [itet h4] at hF; try simp at h4
  refine Run.skip ?_
  show Run _ _ _ _ _ _
  refine Run.seq ?_
  refine Run.block ?_
  replace hF := chkO hF; obtain ⟨hc5, hF⟩ := hF
  refine rg fun K hK => ?_
  have q := And.intro q h4
  refine wq ?_
  refine Wq (evF_ix (tg := .none) (rw := TTerm.row) (xs := s1_0) (k := .i64) (n := v_x2) (by simp; rfl) rfl (by simp; rfl) (by simp [q]) (by simp [q]) hc5.1 hc5.2 (by simp)) ?_
  refine wq ?_
  refine We rfl ?_; simp [q]
  intro b8 _
  refine wq ?_
  refine We rfl ?_; simp [q]
  refine hK _ _ ?_; clear hK K
  replace hF := chkO hF; obtain ⟨hc6, hF⟩ := hF
  refine rg fun K hK => ?_
  iterate 2 refine wq ?_
  refine Wq (evF_ix (tg := .none) (rw := TTerm.row) (xs := s2_1) (k := .i64) (n := v_x2) (by simp; rfl) rfl (by simp; rfl) (by simp [q]) (by simp [q]) hc6.1 hc6.2 (by simp)) ?_
  refine wq ?_
  refine We rfl ?_; simp [q]
  intro b9 hb9; simp [Fresh] at hb9; have hq9 : ¬b8 = b9 := by omega
  have q := And.intro (And.intro q hb9) hq9
  refine We rfl ?_; simp [q]
  refine hK _ _ ?_; clear hK K
  replace hF := bindO hF; obtain ⟨y7, hy7, hF⟩ := hF
  refine rg fun K hK => ?_
  iterate 3 refine wq ?_
  refine wcq (hf_2 hy7) ?_; rintro _ rfl; simp
  refine wq ?_
  refine hK _ _ ?_; clear hK K
  refine Run.testEnd (b := (!y7)) (by simp [q]) (fun h8 => ?_) (fun h8 => ?_)
  ·
   rw [itet h8] at hF; try simp at h8
   refine rg fun K hK => ?_
   have q := And.intro q h8
   refine wq ?_
   refine hK _ _ ?_; clear hK K
   refine Run.ret ?_
   have hv := hR1 _ (Option.some.inj hF).symm
   subst hv
   simp [tupA, hk_2, h4, hb9, hq9, h8]
  rw [itef h8] at hF; try simp at h8
  refine Run.skip ?_
  show Run _ _ _ _ _ _
  refine rge fun K hK => ?_
  have q := And.intro q h8
  iterate 2 refine wq ?_
  refine hK _ _ ?_; clear hK K
  exact ⟨_, (Option.some.inj hF).symm, by simp [q, Fm.rst, nn, nn1], by simp [q, St.only, nn1]⟩
 rw [itef h4] at hF; try simp at h4
 refine Run.exit ?_
 replace hF := mapO hF; obtain ⟨z9, hF, hz⟩ := hF; have hz2 := (hR1 _ hz.symm).symm; subst hz2; clear hz
 show Run _ _ _ _ _ _
 refine rg fun K hK => ?_
 have q := And.intro q h4
 refine wq ?_
 refine hK _ _ ?_; clear hK K
 refine Run.ret ?_
 obtain rfl := Option.some.inj hF
 simp [tupA, hk_2, h4]

/-! term_Same -/

def term_Same.G [Fx] (self : TTerm × TTerm → Option Bool) (a_0 : TTerm) (b_1 : TTerm) : Option Bool :=
 ((if (((((decide (a_0.kind = b_1.kind)) && (decide (a_0.width = b_1.width))) && (decide (a_0.bits = b_1.bits))) && (decide (a_0.name = b_1.name))) && (decide (a_0.low = b_1.low))) then slices_EqualFunc_api_Term a_0.sub b_1.sub (fun x0 x1 => self (x0, x1)) else some default).bind fun y6 =>
 some ((((((decide (a_0.kind = b_1.kind)) && (decide (a_0.width = b_1.width))) && (decide (a_0.bits = b_1.bits))) && (decide (a_0.name = b_1.name))) && (decide (a_0.low = b_1.low))) && y6))
def term_Same [Fx] (a_0 : TTerm) (b_1 : TTerm) : Option Bool := itr (fun self a => term_Same.G self a.1 a.2) (a_0.nodes.length + 1) (a_0, b_1)
theorem term_Same_step [Fx] {self : TTerm × TTerm → Option Bool} (ih : ∀ {a : TTerm × TTerm} {r : Bool}, self a = some r → PCall Tryd.prog EE 47 [.agg a.1.row, .agg a.2.row] fun v => v = .bool r) {a_0 : TTerm} {b_1 : TTerm} {r : Bool} (hF : term_Same.G self a_0 b_1 = some r) : PCall Tryd.prog EE 47 [.agg a_0.row, .agg b_1.row] fun v => v = .bool r := by
 refine PCall.of_fun EOK (F := Tryd.f47) 45 [.tmp 4] (by kernel_rfl) rfl rfl rfl rfl (Nat.le_of_ble_eq_true rfl) (by simp) ?_
 simp only [slotsA]
 unfold term_Same.G at hF
 refine rg fun K hK => ?_
 refine We rfl ?_; simp
 intro b2 _
 refine We rfl ?_; simp
 intro b3 hb3; simp [Fresh] at hb3; have hq3 : ¬b2 = b3 := by omega
 have q := And.intro hb3 hq3
 refine wq ?_
 refine hK _ _ ?_; clear hK K
 replace hF := bindO hF; obtain ⟨y6, hy6, hF⟩ := hF
 refine rg fun K hK => ?_
 iterate 6 refine wq ?_
 obtain ⟨g1, e1⟩ : ∃ g, g = (decide (a_0.kind = b_1.kind)) := ⟨_, rfl⟩
 iterate 5 refine Wg rfl (b := g1) (by simp [q, e1]) (fun hg => by simp [q, hg]; rfl) ?_
 refine Wand (t := (decide (a_0.kind = b_1.kind))) (β := (decide (a_0.width = b_1.width))) (by simp [q]) rfl (fun hh => by have h0 := e1.trans hh; simp [q, h0]) (by first | (simp; done) | (simp; rfl)) ?_
 refine wq ?_
 obtain ⟨g2, e2⟩ : ∃ g, g = ((decide (a_0.kind = b_1.kind)) && (decide (a_0.width = b_1.width))) := ⟨_, rfl⟩
 iterate 5 refine Wg rfl (b := g2) (by simp [q, e2]) (fun hg => by simp [q, hg]; rfl) ?_
 refine Wand (t := ((decide (a_0.kind = b_1.kind)) && (decide (a_0.width = b_1.width)))) (β := (decide (a_0.bits = b_1.bits))) (by simp [q]) rfl (fun hh => by have h0 := e2.trans hh; simp [q, h0]) (by first | (simp; done) | (simp; rfl)) ?_
 refine wq ?_
 obtain ⟨g3, e3⟩ : ∃ g, g = (((decide (a_0.kind = b_1.kind)) && (decide (a_0.width = b_1.width))) && (decide (a_0.bits = b_1.bits))) := ⟨_, rfl⟩
 iterate 5 refine Wg rfl (b := g3) (by simp [q, e3]) (fun hg => by simp [q, hg]; rfl) ?_
 refine Wand (t := (((decide (a_0.kind = b_1.kind)) && (decide (a_0.width = b_1.width))) && (decide (a_0.bits = b_1.bits)))) (β := (decide (a_0.name = b_1.name))) (by simp [q]) rfl (fun hh => by have h0 := e3.trans hh; simp [q, h0]) (by first | (simp; done) | (simp; rfl)) ?_
 refine wq ?_
 obtain ⟨g4, e4⟩ : ∃ g, g = ((((decide (a_0.kind = b_1.kind)) && (decide (a_0.width = b_1.width))) && (decide (a_0.bits = b_1.bits))) && (decide (a_0.name = b_1.name))) := ⟨_, rfl⟩
 iterate 5 refine Wg rfl (b := g4) (by simp [q, e4]) (fun hg => by simp [q, hg]; rfl) ?_
 refine Wand (t := ((((decide (a_0.kind = b_1.kind)) && (decide (a_0.width = b_1.width))) && (decide (a_0.bits = b_1.bits))) && (decide (a_0.name = b_1.name)))) (β := (decide (a_0.low = b_1.low))) (by simp [q]) rfl (fun hh => by have h0 := e4.trans hh; simp [q, h0]) (by first | (simp; done) | (simp; rfl)) ?_
 refine wq ?_
 obtain ⟨g5, e5⟩ : ∃ g, g = (((((decide (a_0.kind = b_1.kind)) && (decide (a_0.width = b_1.width))) && (decide (a_0.bits = b_1.bits))) && (decide (a_0.name = b_1.name))) && (decide (a_0.low = b_1.low))) := ⟨_, rfl⟩
 iterate 4 refine Wg rfl (b := g5) (by simp [q, e5]) (fun hg => by simp [q, hg]; rfl) ?_
 refine Wgc rfl rfl (b := g5) (by simp [q, e5]) rfl rfl (fun hg => by simp [q, hg]; rfl) (fun hg => by simp [q, hg]; done) (fun hg => slices_EqualFunc_api_Term_ok (fn_2 := 47) (caps_2 := []) (eq_2 := (fun x0 x1 => self (x0, x1))) (hf_2 := (fun h => ih h)) (hk_2 := by simp) ((itet (e5.symm.trans hg)).symm.trans hy6)) ?_
 simp
 refine Wand (t := (((((decide (a_0.kind = b_1.kind)) && (decide (a_0.width = b_1.width))) && (decide (a_0.bits = b_1.bits))) && (decide (a_0.name = b_1.name))) && (decide (a_0.low = b_1.low)))) (β := y6) (by simp [q]) rfl (fun hh => by have h0 := e5.trans hh; simp [q, h0]) (by first | (simp; done) | (simp; rfl)) ?_
 refine wq ?_
 refine hK _ _ ?_; clear hK K
 refine Run.ret ?_
 obtain rfl := Option.some.inj hF
 simp [tupA, hb3, hq3]
theorem term_Same_ok [Fx] {a_0 : TTerm} {b_1 : TTerm} {r : Bool} (hF : term_Same a_0 b_1 = some r) : PCall Tryd.prog EE 47 [.agg a_0.row, .agg b_1.row] fun v => v = .bool r :=
  itr_ind (C := fun (a : TTerm × TTerm) (r : Bool) => PCall Tryd.prog EE 47 [.agg a.1.row, .agg a.2.row] fun v => v = .bool r) (fun self ih {a r} h => term_Same_step (fun {a r} h => ih h) h) _ hF

/-! pattern_fits -/
def pattern_fits.l0 [Fx] (o_1 : TMachOperand) (n_x4 : Int) : Int × Int → Option ((Int × Int) ⊕ Bool) := fun v =>
 match v with
 | (field_x5, v_x6) =>
 (if (decide (v_x6 < (o_1.pieces.length : Int))) then
 (if (0 : Int) ≤ v_x6 ∧ v_x6 < (o_1.pieces.length : Int) then
 some (.inl ((IntKind.i64.wrap (field_x5 + ((nth o_1.pieces v_x6).len))), (IntKind.i64.wrap (v_x6 + 1))))
 else none)
 else
 (Option.map Sum.inr ((format_Field o_1.kind field_x5 o_1.scale n_x4).bind fun y11 =>
 some (decide (y11.2 = 0)))))
def pattern_fits.j0 [Fx] (o_1 : TMachOperand) (n_x4 : Int) : Option Bool :=
 Fx.fx (pattern_fits.l0 o_1 n_x4) (0, 0)
def pattern_fits [Fx] (m_0 : TMachine) (o_1 : TMachOperand) (width_2 : Int) (t_3 : TTerm) : Option Bool :=
 (if (decide (o_1.kind = 1)) then
 some (decide (t_3.width = width_2))
 else
 (if ((!decide (t_3.kind = 1)) || (!decide (t_3.width = m_0.address))) then
 some false
 else
 (if (decide (o_1.kind = 2)) then
 ((bits_Signed t_3.width t_3.bits).bind fun y14 =>
 pattern_fits.j0 o_1 y14.1)
 else
 pattern_fits.j0 o_1 (IntKind.i64.wrap t_3.bits))))
theorem pattern_fits_ok [Fx] {m_0 : TMachine} {o_1 : TMachOperand} {width_2 : Int} {t_3 : TTerm} {r : Bool} (hF : pattern_fits m_0 o_1 width_2 t_3 = some r) : PCall Tryd.prog EE 48 [.agg m_0.row, .agg o_1.row, .int .i64 width_2, .agg t_3.row] fun v => v = .bool r := by
 refine PCall.of_fun EOK (F := Tryd.f48) 70 [.tmp 8] (by kernel_rfl) rfl rfl rfl rfl (Nat.le_of_ble_eq_true rfl) (by simp) ?_
 simp only [slotsA]
 unfold pattern_fits at hF
 refine rg fun K hK => ?_
 refine We rfl ?_; simp
 intro b4 _
 refine We rfl ?_; simp
 intro b5 hb5; simp [Fresh] at hb5; have hq5 : ¬b4 = b5 := by omega
 have q := And.intro hb5 hq5
 refine We rfl ?_; simp [q]
 intro b7 hb7; simp [Fresh] at hb7; have hq7 : ¬b5 = b7 ∧ ¬b4 = b7 := by omega
 have q := And.intro (And.intro q hb7) hq7
 refine wq ?_
 refine hK _ _ ?_; clear hK K
 refine Run.seq ?_
 refine rg fun K hK => ?_
 iterate 3 refine wq ?_
 refine hK _ _ ?_; clear hK K
 refine Run.testEnd (b := (decide (o_1.kind = 1))) (by simp [q]) (fun h1 => ?_) (fun h1 => ?_)
 ·
  rw [itet h1] at hF; try simp at h1
  refine rg fun K hK => ?_
  have q := And.intro q h1
  iterate 5 refine wq ?_
  refine hK _ _ ?_; clear hK K
  refine Run.ret ?_
  obtain rfl := Option.some.inj hF
  simp [tupA, hb5, hq5, hb7, hq7, h1]
 rw [itef h1] at hF; try simp at h1
 refine Run.skip ?_
 show Run _ _ _ _ _ _
 refine Run.seq ?_
 refine rg fun K hK => ?_
 have q := And.intro q h1
 iterate 4 refine wq ?_
 obtain ⟨g2, e2⟩ : ∃ g, g = (decide (t_3.kind = 1)) := ⟨_, rfl⟩
 iterate 5 refine Wg rfl (b := g2) (by simp [q, e2]) (fun hg => by simp [q, hg]; rfl) ?_
 refine Wor (t := (!decide (t_3.kind = 1))) (β := (!decide (t_3.width = m_0.address))) (by simp [q]) rfl (fun hh => by have h0 := e2.trans (nnot (notf hh)); simp [q, h0]) (by first | (simp; done) | (simp; rfl)) ?_
 refine hK _ _ ?_; clear hK K
 refine Run.testEnd (b := ((!decide (t_3.kind = 1)) || (!decide (t_3.width = m_0.address)))) (by simp [q]) (fun h3 => ?_) (fun h3 => ?_)
 ·
  rw [itet h3] at hF; try simp at h3
  refine rg fun K hK => ?_
  have q := And.intro q h3
  refine wq ?_
  refine hK _ _ ?_; clear hK K
  refine Run.ret ?_
  obtain rfl := Option.some.inj hF
  simp [tupA, hb5, hq5, hb7, hq7, h1, h3]
 rw [itef h3] at hF; try simp at h3
 refine Run.skip ?_
 show Run _ _ _ _ _ _
 refine rg fun K hK => ?_
 have q := And.intro q h3
 iterate 4 refine wq ?_
 refine hK _ _ ?_; clear hK K
 refine Run.join [5, 9] [] [b5] [] (by simp) (by simp) (by simp) (fun f σ => ∃ n_x4 : Int, f = ⟨70, [(5, .ptr b5 0), (9, .int .i64 n_x4)], [], []⟩ ∧ σ = ⟨[(b5, o_1.row)], []⟩ ∧ pattern_fits.j0 o_1 n_x4 = some r) ?_ ?_
 ·
  clear hF
  rintro _ _ ⟨n_x4, rfl, rfl, hF⟩
  unfold pattern_fits.j0 at hF
  refine rg fun K hK => ?_
  have q := And.intro hb5 (And.intro hq5 (And.intro hb7 hq7))
  refine wq ?_
  refine hK _ _ ?_; clear hK K
  refine Run.seq ?_
  refine rg fun K hK => ?_
  iterate 4 refine wq ?_
  refine hK _ _ ?_; clear hK K
  refine Run.block ?_
  refine Run.fixX hF [5, 9, 10, 47, 48, 49] [] [b5] [] (by simp) (by simp) (by simp) (fun v f σ => ∃ field_x5 : Int, ∃ v_x6 : Int, v = (field_x5, v_x6) ∧ f = ⟨70, [(5, .ptr b5 0), (9, .int .i64 n_x4), (10, .int .i64 field_x5), (47, .list .none (o_1.pieces.map TMachPiece.row)), (48, .int .i64 (o_1.pieces.length : Int)), (49, .int .i64 v_x6)], [], []⟩ ∧ σ = ⟨[(b5, o_1.row)], []⟩) ?_ ?_
  ·
   exact ⟨0, 0, rfl, by simp [q, Fm.rst, nn, nn1], by simp [q, St.only, nn1]⟩
  clear hF
  rintro _ _ _ yy1 ⟨field_x5, v_x6, rfl, rfl, rfl⟩ hF hR1
  simp only [pattern_fits.l0] at hF
  refine rg fun K hK => ?_
  refine wq ?_
  refine hK _ _ ?_; clear hK K
  refine Run.seq ?_
  refine Run.testEnd (b := (decide (v_x6 < (o_1.pieces.length : Int)))) (by simp [q]) (fun h9 => ?_) (fun h9 => ?_)
  ·
   rw [itet h9] at hF; try simp at h9
   refine Run.skip ?_
   show Run _ _ _ _ _ _
   refine Run.seq ?_
   refine Run.block ?_
   replace hF := chkO hF; obtain ⟨hc10, hF⟩ := hF
   refine rg fun K hK => ?_
   have q := And.intro q h9
   refine Wq (evF_ix (tg := .none) (rw := TMachPiece.row) (xs := o_1.pieces) (k := .i64) (n := v_x6) (by simp; rfl) rfl (by simp; rfl) (by simp [q]) (by simp [q]) hc10.1 hc10.2 (by simp)) ?_
   refine wq ?_
   refine We rfl ?_; simp [q]
   intro b12 hb12; simp [Fresh] at hb12; have hq12 : ¬b5 = b12 := by omega
   have q := And.intro (And.intro q hb12) hq12
   refine We rfl ?_; simp [q]
   refine hK _ _ ?_; clear hK K
   refine rge fun K hK => ?_
   iterate 5 refine wq ?_
   refine hK _ _ ?_; clear hK K
   show Run _ _ _ _ _ _
   refine rge fun K hK => ?_
   iterate 2 refine wq ?_
   refine hK _ _ ?_; clear hK K
   exact ⟨_, (Option.some.inj hF).symm, (IntKind.i64.wrap (field_x5 + ((nth o_1.pieces v_x6).len))), (IntKind.i64.wrap (v_x6 + 1)), rfl, by simp [q, Fm.rst, nn, nn1], by simp [q, St.only, nn1]⟩
  rw [itef h9] at hF; try simp at h9
  refine Run.exit ?_
  replace hF := mapO hF; obtain ⟨z12, hF, hz⟩ := hF; have hz2 := (hR1 _ hz.symm).symm; subst hz2; clear hz
  show Run _ _ _ _ _ _
  replace hF := bindO hF; obtain ⟨y11, hy11, hF⟩ := hF
  refine rg fun K hK => ?_
  have q := And.intro q h9
  iterate 6 refine wq ?_
  refine wcq (format_Field_ok hy11) ?_; rintro _ rfl; simp
  iterate 5 refine wq ?_
  refine hK _ _ ?_; clear hK K
  refine rg fun K hK => ?_
  iterate 3 refine wq ?_
  refine hK _ _ ?_; clear hK K
  refine Run.ret ?_
  obtain rfl := Option.some.inj hF
  simp [tupA, hb5, hq5, hb7, hq7, h9]
 skip
 refine rg fun K hK => ?_
 iterate 3 refine wq ?_
 refine hK _ _ ?_; clear hK K
 refine Run.testEnd (b := (decide (o_1.kind = 2))) (by simp [q]) (fun h13 => ?_) (fun h13 => ?_)
 ·
  rw [itet h13] at hF; try simp at h13
  replace hF := bindO hF; obtain ⟨y14, hy14, hF⟩ := hF
  refine rge fun K hK => ?_
  have q := And.intro q h13
  iterate 4 refine wq ?_
  refine wcq (bits_Signed_ok hy14) ?_; rintro _ rfl; simp
  iterate 4 refine wq ?_
  refine hK _ _ ?_; clear hK K
  exact ⟨y14.1, by simp [q, Fm.rst, nn, nn1], by simp [q, St.only, nn1], hF⟩
 rw [itef h13] at hF; try simp at h13
 refine Run.skip ?_
 have q := And.intro q h13
 exact ⟨(IntKind.i64.wrap t_3.bits), by simp [q, Fm.rst, nn, nn1], by simp [q, St.only, nn1], hF⟩

/-! pattern_Match_1 -/
def pattern_Match_1.l0 [Fx] (p_0 : TTerm) (t_1 : TTerm) (c_2 : List TMachOperand) (c_4 : TMachine) (self : TTerm × TTerm × (List TMachOperand) × (List (Int × TTerm)) × TMachine → Option ((List (Int × TTerm)) × Bool)) : Int × (List (Int × TTerm)) → Option ((Int × (List (Int × TTerm))) ⊕ ((List (Int × TTerm)) × Bool)) := fun v =>
 match v with
 | (v_x13, v_x14) =>
 (if (decide (v_x13 < (p_0.sub.length : Int))) then
 (if (0 : Int) ≤ v_x13 ∧ v_x13 < (p_0.sub.length : Int) then
 (if (0 : Int) ≤ v_x13 ∧ v_x13 < (t_1.sub.length : Int) then
 ((self ((nth p_0.sub v_x13), (nth t_1.sub v_x13), c_2, v_x14, c_4)).bind fun y20 =>
 (if (!y20.2) then
 some (.inr (y20.1, false))
 else
 some (.inl ((IntKind.i64.wrap (v_x13 + 1)), y20.1))))
 else none)
 else none)
 else
 (Option.map Sum.inr (some (v_x14, true))))
def pattern_Match_1.G [Fx] (self : TTerm × TTerm × (List TMachOperand) × (List (Int × TTerm)) × TMachine → Option ((List (Int × TTerm)) × Bool)) (p_0 : TTerm) (t_1 : TTerm) (c_2 : List TMachOperand) (c_3 : List (Int × TTerm)) (c_4 : TMachine) : Option ((List (Int × TTerm)) × Bool) :=
 (if (decide (p_0.kind = 2)) then
 ((pattern_find c_2 p_0.name).bind fun y2 =>
 (if (aget c_3 y2).isSome then
 ((term_Same ((aget c_3 y2).getD (TTerm.mk 0 0 0 [] 0 [])) t_1).bind fun y4 =>
 some (c_3, y4))
 else
 (if (0 : Int) ≤ y2 ∧ y2 < (c_2.length : Int) then
 ((pattern_fits c_4 (nth c_2 y2) p_0.width t_1).bind fun y7 =>
 some ((aput c_3 y2 t_1), y7))
 else none)))
 else
 (if (((((!decide (p_0.kind = t_1.kind)) || (!decide (p_0.width = t_1.width))) || (!decide (p_0.bits = t_1.bits))) || (!decide (p_0.low = t_1.low))) || (!decide ((p_0.sub.length : Int) = (t_1.sub.length : Int)))) then
 some (c_3, false)
 else
 Fx.fx (pattern_Match_1.l0 p_0 t_1 c_2 c_4 self) (0, c_3)))
def pattern_Match_1 [Fx] (kk : Nat) (p_0 : TTerm) (t_1 : TTerm) (c_2 : List TMachOperand) (c_3 : List (Int × TTerm)) (c_4 : TMachine) : Option ((List (Int × TTerm)) × Bool) := itr (fun self a => pattern_Match_1.G self a.1 a.2.1 a.2.2.1 a.2.2.2.1 a.2.2.2.2) (kk) (p_0, t_1, c_2, c_3, c_4)
theorem pattern_Match_1_step [Fx] {kk : Nat} {self : TTerm × TTerm × (List TMachOperand) × (List (Int × TTerm)) × TMachine → Option ((List (Int × TTerm)) × Bool)} (ih : ∀ {a : TTerm × TTerm × (List TMachOperand) × (List (Int × TTerm)) × TMachine} {r : (List (Int × TTerm)) × Bool}, self a = some r → ∀ b_3 : Nat, ACall Tryd.prog EE 45 [.agg a.1.row, .agg a.2.1.row, .cptr [.list .none (a.2.2.1.map TMachOperand.row)], .cptr [.map b_3], .cptr a.2.2.2.2.row, (knot 45 [.cptr [.list .none (a.2.2.1.map TMachOperand.row)], .cptr [.map b_3], .cptr a.2.2.2.2.row] kk)] ⟨[], [(b_3, .mp (a.2.2.2.1.map (mI .i64 TTerm.agg)))]⟩ fun v σ => v = .bool r.2 ∧ σ = ⟨[], [(b_3, .mp (r.1.map (mI .i64 TTerm.agg)))]⟩) {b_3 : Nat} {p_0 : TTerm} {t_1 : TTerm} {c_2 : List TMachOperand} {c_3 : List (Int × TTerm)} {c_4 : TMachine} {r : (List (Int × TTerm)) × Bool} (hF : pattern_Match_1.G self p_0 t_1 c_2 c_3 c_4 = some r) : ACall Tryd.prog EE 45 [.agg p_0.row, .agg t_1.row, .cptr [.list .none (c_2.map TMachOperand.row)], .cptr [.map b_3], .cptr c_4.row, (knot 45 [.cptr [.list .none (c_2.map TMachOperand.row)], .cptr [.map b_3], .cptr c_4.row] (kk + 1))] ⟨[], [(b_3, .mp (c_3.map (mI .i64 TTerm.agg)))]⟩ fun v σ => v = .bool r.2 ∧ σ = ⟨[], [(b_3, .mp (r.1.map (mI .i64 TTerm.agg)))]⟩ := by
 refine ACall.of_fun EOK (F := Tryd.f45) 97 [.tmp 8] (by kernel_rfl) rfl rfl rfl rfl (Nat.le_of_ble_eq_true rfl) (by simp) ?_
 simp only [slotsA]
 unfold pattern_Match_1.G at hF
 refine rg fun K hK => ?_
 refine We rfl ?_; simp
 intro b6 hb6; simp [Fresh] at hb6; have hq6 : ¬b_3 = b6 := by omega
 have q := And.intro hb6 hq6
 refine We rfl ?_; simp [q]
 intro b7 hb7; simp [Fresh] at hb7; have hq7 : ¬b6 = b7 ∧ ¬b_3 = b7 := by omega
 have q := And.intro (And.intro q hb7) hq7
 refine wq ?_
 refine hK _ _ ?_; clear hK K
 refine Run.seq ?_
 refine rg fun K hK => ?_
 iterate 3 refine wq ?_
 refine hK _ _ ?_; clear hK K
 refine Run.testEnd (b := (decide (p_0.kind = 2))) (by simp [q]) (fun h1 => ?_) (fun h1 => ?_)
 ·
  rw [itet h1] at hF; try simp at h1
  replace hF := bindO hF; obtain ⟨y2, hy2, hF⟩ := hF
  refine rg fun K hK => ?_
  have q := And.intro q h1
  iterate 3 refine wq ?_
  refine wcq (pattern_find_ok hy2) ?_; rintro _ rfl; simp
  refine wq ?_
  refine hK _ _ ?_; clear hK K
  refine Run.seq ?_
  refine rg fun K hK => ?_
  iterate 2 refine wq ?_
  refine Wq (evF_lkI (g := TTerm.agg) (m := c_3) (k := y2) (b := b_3) (z := (TTerm.mk 0 0 0 [] 0 [])) (by simp; rfl) rfl (by simp; rfl) rfl (by simp; rfl) (by simp) (by simp) (by simp) (by simp [q]) (by simp [q]) (by simp [q])) ?_
  iterate 3 refine wq ?_
  refine We rfl ?_; simp [q]
  intro b10 hb10; simp [Fresh] at hb10; have hq10 : ¬b7 = b10 ∧ ¬b6 = b10 ∧ ¬b_3 = b10 := by omega
  have q := And.intro (And.intro q hb10) hq10
  refine We rfl ?_; simp [q]
  refine wq ?_
  refine hK _ _ ?_; clear hK K
  refine rg fun K hK => ?_
  refine wq ?_
  refine hK _ _ ?_; clear hK K
  refine Run.testEnd (b := (aget c_3 y2).isSome) (by simp [q]) (fun h3 => ?_) (fun h3 => ?_)
  ·
   rw [itet h3] at hF; try simp at h3
   replace hF := bindO hF; obtain ⟨y4, hy4, hF⟩ := hF
   refine rg fun K hK => ?_
   have q := And.intro q h3
   iterate 2 refine wq ?_
   refine wcq (term_Same_ok hy4) ?_; rintro _ rfl; simp
   refine wq ?_
   refine hK _ _ ?_; clear hK K
   refine Run.ret ?_
   obtain rfl := Option.some.inj hF
   refine ⟨by simp, by simp, _, _, _, rfl, .inl rfl, ?_, ?_, ?_, rfl⟩
   all_goals simp [tupA, hb6, hq6, hb7, hq7, h1, hb10, hq10, h3]
  rw [itef h3] at hF; try simp at h3
  refine Run.skip ?_
  show Run _ _ _ _ _ _
  refine rg fun K hK => ?_
  have q := And.intro q h3
  iterate 3 refine wq ?_
  have hp5 := putA_I TTerm.agg .i64 y2 t_1 c_3
  have hp5b := hp5; refine We rfl ?_; first | (simp at hp5b; simp [q, hp5, hp5b]) | simp [q, hp5]
  refine hK _ _ ?_; clear hK K
  replace hF := chkO hF; obtain ⟨hc6, hF⟩ := hF
  replace hF := bindO hF; obtain ⟨y7, hy7, hF⟩ := hF
  refine Run.drawReg EOK mixed 8 [0, 1, 2, 3, 4, 5, 6, 7] rfl (by kernel_rfl) fun K hK => ?_
  iterate 3 refine Pq rfl (by simp [q]; rfl) ?_
  refine Pq rfl (evP_of (evF_ix (tg := .none) (rw := TMachOperand.row) (xs := c_2) (k := .i64) (n := y2) (by simp; rfl) rfl (by simp; rfl) (by simp [q]) (by simp [q]) hc6.1 hc6.2 (by simp))) ?_
  iterate 4 refine Pq rfl (by simp [q]; rfl) ?_
  refine Pd ?_
  refine wcq (pattern_fits_ok hy7) ?_; rintro _ rfl; simp
  refine wq ?_
  refine hK _ _ ?_; clear hK K
  refine Run.ret ?_
  obtain rfl := Option.some.inj hF
  refine ⟨by simp, by simp, _, _, _, rfl, .inl rfl, ?_, ?_, ?_, rfl⟩
  all_goals simp [tupA, hb6, hq6, hb7, hq7, h1, hb10, hq10, h3]
 rw [itef h1] at hF; try simp at h1
 refine Run.skip ?_
 show Run _ _ _ _ _ _
 refine Run.seq ?_
 refine rg fun K hK => ?_
 have q := And.intro q h1
 iterate 6 refine wq ?_
 obtain ⟨g8, e8⟩ : ∃ g, g = (decide (p_0.kind = t_1.kind)) := ⟨_, rfl⟩
 iterate 5 refine Wg rfl (b := g8) (by simp [q, e8]) (fun hg => by simp [q, hg]; rfl) ?_
 refine Wor (t := (!decide (p_0.kind = t_1.kind))) (β := (!decide (p_0.width = t_1.width))) (by simp [q]) rfl (fun hh => by have h0 := e8.trans (nnot (notf hh)); simp [q, h0]) (by first | (simp; done) | (simp; rfl)) ?_
 refine wq ?_
 obtain ⟨g9, e9⟩ : ∃ g, g = (!((!decide (p_0.kind = t_1.kind)) || (!decide (p_0.width = t_1.width)))) := ⟨_, rfl⟩
 iterate 5 refine Wg rfl (b := g9) (by simp [q, e9]) (fun hg => by simp [q, hg]; rfl) ?_
 refine Wor (t := ((!decide (p_0.kind = t_1.kind)) || (!decide (p_0.width = t_1.width)))) (β := (!decide (p_0.bits = t_1.bits))) (by simp [q]) rfl (fun hh => by have h0 := e9.trans (notf hh); simp [q, h0]) (by first | (simp; done) | (simp; rfl)) ?_
 refine wq ?_
 obtain ⟨g10, e10⟩ : ∃ g, g = (!(((!decide (p_0.kind = t_1.kind)) || (!decide (p_0.width = t_1.width))) || (!decide (p_0.bits = t_1.bits)))) := ⟨_, rfl⟩
 iterate 5 refine Wg rfl (b := g10) (by simp [q, e10]) (fun hg => by simp [q, hg]; rfl) ?_
 refine Wor (t := (((!decide (p_0.kind = t_1.kind)) || (!decide (p_0.width = t_1.width))) || (!decide (p_0.bits = t_1.bits)))) (β := (!decide (p_0.low = t_1.low))) (by simp [q]) rfl (fun hh => by have h0 := e10.trans (notf hh); simp [q, h0]) (by first | (simp; done) | (simp; rfl)) ?_
 refine wq ?_
 obtain ⟨g11, e11⟩ : ∃ g, g = (!((((!decide (p_0.kind = t_1.kind)) || (!decide (p_0.width = t_1.width))) || (!decide (p_0.bits = t_1.bits))) || (!decide (p_0.low = t_1.low)))) := ⟨_, rfl⟩
 iterate 7 refine Wg rfl (b := g11) (by simp [q, e11]) (fun hg => by simp [q, hg]; rfl) ?_
 refine Wor (t := ((((!decide (p_0.kind = t_1.kind)) || (!decide (p_0.width = t_1.width))) || (!decide (p_0.bits = t_1.bits))) || (!decide (p_0.low = t_1.low)))) (β := (!decide ((p_0.sub.length : Int) = (t_1.sub.length : Int)))) (by simp [q]) rfl (fun hh => by have h0 := e11.trans (notf hh); simp [q, h0]) (by first | (simp; done) | (simp; rfl)) ?_
 refine hK _ _ ?_; clear hK K
 refine Run.testEnd (b := (((((!decide (p_0.kind = t_1.kind)) || (!decide (p_0.width = t_1.width))) || (!decide (p_0.bits = t_1.bits))) || (!decide (p_0.low = t_1.low))) || (!decide ((p_0.sub.length : Int) = (t_1.sub.length : Int))))) (by simp [q]) (fun h12 => ?_) (fun h12 => ?_)
 ·
  rw [itet h12] at hF; try simp at h12
  refine rg fun K hK => ?_
  have q := And.intro q h12
  refine wq ?_
  refine hK _ _ ?_; clear hK K
  refine Run.ret ?_
  obtain rfl := Option.some.inj hF
  refine ⟨by simp, by simp, _, _, _, rfl, .inl rfl, ?_, ?_, ?_, rfl⟩
  all_goals simp [tupA, hb6, hq6, hb7, hq7, h1, h12]
 rw [itef h12] at hF; try simp at h12
 refine Run.skip ?_
 show Run _ _ _ _ _ _
 refine Run.seq ?_
 refine rg fun K hK => ?_
 have q := And.intro q h12
 iterate 4 refine wq ?_
 refine hK _ _ ?_; clear hK K
 refine Run.block ?_
 refine Run.fixX hF [3, 5, 6, 7, 79, 80] [] [b7, b6] [b_3] (by simp [q]) (by simp) (by simp) (fun v f σ => ∃ v_x13 : Int, ∃ v_x14 : List (Int × TTerm), v = (v_x13, v_x14) ∧ f = ⟨97, [(3, .cptr [.map b_3]), (5, (knot 45 [.cptr [.list .none (c_2.map TMachOperand.row)], .cptr [.map b_3], .cptr c_4.row] (kk + 1))), (6, .ptr b6 0), (7, .ptr b7 0), (79, .int .i64 (p_0.sub.length : Int)), (80, .int .i64 v_x13)], [], []⟩ ∧ σ = ⟨[(b7, t_1.row), (b6, p_0.row)], [(b_3, .mp (v_x14.map (mI .i64 TTerm.agg)))]⟩) ?_ ?_
 ·
  exact ⟨0, c_3, rfl, by simp [q, Fm.rst, nn, nn1], by simp [q, St.only, nn1]⟩
 clear hF
 rintro _ _ _ yy1 ⟨v_x13, v_x14, rfl, rfl, rfl⟩ hF hR1
 simp only [pattern_Match_1.l0] at hF
 refine rg fun K hK => ?_
 have q := And.intro hb6 (And.intro hq6 (And.intro hb7 hq7))
 refine wq ?_
 refine hK _ _ ?_; clear hK K
 refine Run.seq ?_
 refine Run.testEnd (b := (decide (v_x13 < (p_0.sub.length : Int)))) (by simp [q]) (fun h17 => ?_) (fun h17 => ?_)
 ·
  rw [itet h17] at hF; try simp at h17
  refine Run.skip ?_
  show Run _ _ _ _ _ _
  refine Run.seq ?_
  refine Run.block ?_
  refine rg fun K hK => ?_
  have q := And.intro q h17
  iterate 2 refine wq ?_
  refine hK _ _ ?_; clear hK K
  replace hF := chkO hF; obtain ⟨hc18, hF⟩ := hF
  replace hF := chkO hF; obtain ⟨hc19, hF⟩ := hF
  replace hF := bindO hF; obtain ⟨y20, hy20, hF⟩ := hF
  refine Run.drawReg EOK mixed 11 [0, 1, 2, 3, 4, 5, 6, 7, 8, 9, 10] rfl (by kernel_rfl) fun K hK => ?_
  iterate 4 refine Pq rfl (by simp [q]; rfl) ?_
  refine Pq rfl (evP_of (evF_ix (tg := .none) (rw := TTerm.row) (xs := p_0.sub) (k := .i64) (n := v_x13) (by simp; rfl) rfl (by simp; rfl) (by simp [q]) (by simp [q]) hc18.1 hc18.2 (by simp))) ?_
  iterate 4 refine Pq rfl (by simp [q]; rfl) ?_
  refine Pq rfl (evP_of (evF_ix (tg := .none) (rw := TTerm.row) (xs := t_1.sub) (k := .i64) (n := v_x13) (by simp; rfl) rfl (by simp; rfl) (by simp [q]) (by simp [q]) hc19.1 hc19.2 (by simp))) ?_
  refine Pq rfl (by simp [q]; rfl) ?_
  refine Pd ?_
  refine Wcb ⟨[], [(b_3, _)]⟩ ⟨[(b7, _), (b6, _)], []⟩ rfl rfl rfl (by simp [q]; rfl) (by simp [q]; done) (ih hy20 b_3) (by exact pick0) pk1 ?_
  rintro _ _ ⟨rfl, rfl⟩; simp [noCells, noCellS, noCellV, noCellC, noCellT, St.add]
  refine wq ?_
  refine hK _ _ ?_; clear hK K
  refine Run.testEnd (b := (!y20.2)) (by simp [q]) (fun h21 => ?_) (fun h21 => ?_)
  ·
   rw [itet h21] at hF; try simp at h21
   refine rg fun K hK => ?_
   have q := And.intro q h21
   refine wq ?_
   refine hK _ _ ?_; clear hK K
   refine Run.ret ?_
   have hv := hR1 _ (Option.some.inj hF).symm
   subst hv
   refine ⟨by simp, by simp, _, _, _, rfl, .inl rfl, ?_, ?_, ?_, rfl⟩
   all_goals simp [tupA, hb6, hq6, hb7, hq7, h17, h21]
  rw [itef h21] at hF; try simp at h21
  refine Run.skip ?_
  show Run _ _ _ _ _ _
  refine rge fun K hK => ?_
  have q := And.intro q h21
  iterate 2 refine wq ?_
  refine hK _ _ ?_; clear hK K
  exact ⟨_, (Option.some.inj hF).symm, (IntKind.i64.wrap (v_x13 + 1)), y20.1, rfl, by simp [q, Fm.rst, nn, nn1], by simp [q, St.only, nn1]⟩
 rw [itef h17] at hF; try simp at h17
 refine Run.exit ?_
 replace hF := mapO hF; obtain ⟨z22, hF, hz⟩ := hF; have hz2 := (hR1 _ hz.symm).symm; subst hz2; clear hz
 show Run _ _ _ _ _ _
 refine rg fun K hK => ?_
 have q := And.intro q h17
 refine wq ?_
 refine hK _ _ ?_; clear hK K
 refine Run.ret ?_
 obtain rfl := Option.some.inj hF
 refine ⟨by simp, by simp, _, _, _, rfl, .inl rfl, ?_, ?_, ?_, rfl⟩
 all_goals simp [tupA, hb6, hq6, hb7, hq7, h17]
theorem pattern_Match_1_ok [Fx] {kk : Nat} {b_3 : Nat} {p_0 : TTerm} {t_1 : TTerm} {c_2 : List TMachOperand} {c_3 : List (Int × TTerm)} {c_4 : TMachine} {r : (List (Int × TTerm)) × Bool} (hF : pattern_Match_1 kk p_0 t_1 c_2 c_3 c_4 = some r) : ACall Tryd.prog EE 45 [.agg p_0.row, .agg t_1.row, .cptr [.list .none (c_2.map TMachOperand.row)], .cptr [.map b_3], .cptr c_4.row, (knot 45 [.cptr [.list .none (c_2.map TMachOperand.row)], .cptr [.map b_3], .cptr c_4.row] kk)] ⟨[], [(b_3, .mp (c_3.map (mI .i64 TTerm.agg)))]⟩ fun v σ => v = .bool r.2 ∧ σ = ⟨[], [(b_3, .mp (r.1.map (mI .i64 TTerm.agg)))]⟩ :=
  itr_indK (C := fun (kk : Nat) (a : TTerm × TTerm × (List TMachOperand) × (List (Int × TTerm)) × TMachine) (r : (List (Int × TTerm)) × Bool) => ∀ b_3 : Nat, ACall Tryd.prog EE 45 [.agg a.1.row, .agg a.2.1.row, .cptr [.list .none (a.2.2.1.map TMachOperand.row)], .cptr [.map b_3], .cptr a.2.2.2.2.row, (knot 45 [.cptr [.list .none (a.2.2.1.map TMachOperand.row)], .cptr [.map b_3], .cptr a.2.2.2.2.row] kk)] ⟨[], [(b_3, .mp (a.2.2.2.1.map (mI .i64 TTerm.agg)))]⟩ fun v σ => v = .bool r.2 ∧ σ = ⟨[], [(b_3, .mp (r.1.map (mI .i64 TTerm.agg)))]⟩) (fun kk self ih {a r} h => fun b_3 => pattern_Match_1_step (fun {a r} h => ih h) h) _ hF b_3

/-! pattern_Match -/
def pattern_Match.l0 [Fx] (y4 : List (Int × TTerm) × Bool) (y6 : List Int) : (List TPatternArg) × Int → Option (((List TPatternArg) × Int) ⊕ ((List TPatternArg) × Int)) := fun v =>
 match v with
 | (out_x7, v_x8) =>
 (if (decide (v_x8 < (y6.length : Int))) then
 (if (0 : Int) ≤ v_x8 ∧ v_x8 < (y6.length : Int) then
 ((term_Twin ((aget y4.1 (nth y6 v_x8)).getD (TTerm.mk 0 0 0 [] 0 []))).bind fun y13 =>
 (if (out_x7.length + 1) * 81 ≤ 140737488351232 then
 some (.inl ((out_x7 ++ [(TPatternArg.mk (nth y6 v_x8) y13)]), (IntKind.i64.wrap (v_x8 + 1))))
 else none))
 else none)
 else
 (Option.map Sum.inr (some (out_x7, 0))))
def pattern_Match.j0 [Fx] (m_0 : TMachine) (t_2 : TTerm) (y1 : TPattern × List TMachOperand × Int) (e_x2 : Int) : Option ((List TPatternArg) × Int) :=
 (if (!decide (e_x2 = 0)) then
 some ([], e_x2)
 else
 ((pattern_Match_1 y1.1.term.nodes.length y1.1.term t_2 y1.2.1 [] m_0).bind fun y4 =>
 (if (!y4.2) then
 some ([], 22)
 else
 ((pattern_inputs y1.1 y1.2.1).bind fun y6 =>
 Fx.fx (pattern_Match.l0 y4 y6) ([], 0)))))
def pattern_Match [Fx] (m_0 : TMachine) (p_1 : Int) (t_2 : TTerm) : Option ((List TPatternArg) × Int) :=
 ((pattern_atX m_0 p_1).bind fun y1 =>
 (if (decide (y1.2.2 = 0)) then
 ((term_Check t_2).bind fun y17 =>
 pattern_Match.j0 m_0 t_2 y1 y17)
 else
 pattern_Match.j0 m_0 t_2 y1 y1.2.2))
theorem pattern_Match_ok [Fx] {m_0 : TMachine} {p_1 : Int} {t_2 : TTerm} {r : (List TPatternArg) × Int} (hF : pattern_Match m_0 p_1 t_2 = some r) : PCall Tryd.prog EE 14 [.agg m_0.row, .int .i64 p_1, .agg t_2.row] fun v => v = .tup [.list .none (r.1.map TPatternArg.row), .int .i64 r.2] := by
 refine PCall.of_fun EOK (F := Tryd.f14) 57 [.tmp 6, .tmp 7] (by kernel_rfl) rfl rfl rfl rfl (Nat.le_of_ble_eq_true rfl) (by simp) ?_
 simp only [slotsA]
 unfold pattern_Match at hF
 refine rg fun K hK => ?_
 refine We rfl ?_; simp
 intro b3 _
 refine We rfl ?_; simp
 intro b5 hb5; simp [Fresh] at hb5; have hq5 : ¬b3 = b5 := by omega
 have q := And.intro hb5 hq5
 iterate 2 refine wq ?_
 refine hK _ _ ?_; clear hK K
 replace hF := bindO hF; obtain ⟨y1, hy1, hF⟩ := hF
 refine rg fun K hK => ?_
 iterate 2 refine wq ?_
 refine wcq (pattern_atX_ok hy1) ?_; rintro _ rfl; simp
 iterate 4 refine wq ?_
 refine We rfl ?_; simp [q]
 intro b8 hb8; simp [Fresh] at hb8; have hq8 : ¬b5 = b8 ∧ ¬b3 = b8 := by omega
 have q := And.intro (And.intro q hb8) hq8
 refine We rfl ?_; simp [q]
 intro b9 hb9; simp [Fresh] at hb9; have hq9 : ¬b8 = b9 ∧ ¬b5 = b9 ∧ ¬b3 = b9 := by omega
 have q := And.intro (And.intro q hb9) hq9
 iterate 2 refine We rfl ?_; simp [q]
 refine wq ?_
 refine hK _ _ ?_; clear hK K
 refine Run.join [3, 5, 8, 9, 10] [] [b9, b8, b5, b3] [] (by simp [q]) (by simp) (by simp) (fun f σ => ∃ e_x2 : Int, f = ⟨57, [(3, .ptr b3 0), (5, .ptr b5 0), (8, .ptr b8 0), (9, .ptr b9 0), (10, .int .i64 e_x2)], [], []⟩ ∧ σ = ⟨[(b9, [.list .none (y1.2.1.map TMachOperand.row)]), (b8, y1.1.row), (b5, t_2.row), (b3, m_0.row)], []⟩ ∧ pattern_Match.j0 m_0 t_2 y1 e_x2 = some r) ?_ ?_
 ·
  clear hF
  rintro _ _ ⟨e_x2, rfl, rfl, hF⟩
  unfold pattern_Match.j0 at hF
  refine Run.seq ?_
  refine rg fun K hK => ?_
  iterate 2 refine wq ?_
  refine hK _ _ ?_; clear hK K
  refine Run.testEnd (b := (!decide (e_x2 = 0))) (by simp [q]) (fun h3 => ?_) (fun h3 => ?_)
  ·
   rw [itet h3] at hF; try simp at h3
   refine rg fun K hK => ?_
   have q := And.intro q h3
   iterate 3 refine wq ?_
   refine hK _ _ ?_; clear hK K
   refine Run.ret ?_
   obtain rfl := Option.some.inj hF
   simp [tupA, hb5, hq5, hb8, hq8, hb9, hq9, h3]
  rw [itef h3] at hF; try simp at h3
  refine Run.skip ?_
  show Run _ _ _ _ _ _
  refine rg fun K hK => ?_
  have q := And.intro q h3
  refine We rfl ?_; simp [q]
  intro b30 hb30; simp [Fresh] at hb30; have hq30 : ¬b9 = b30 ∧ ¬b8 = b30 ∧ ¬b5 = b30 ∧ ¬b3 = b30 := by omega
  have q := And.intro (And.intro q hb30) hq30
  refine We rfl ?_; simp [q]
  intro b11 hb11; simp [Fresh] at hb11; have hq11 : ¬b9 = b11 ∧ ¬b8 = b11 ∧ ¬b5 = b11 ∧ ¬b3 = b11 ∧ ¬b30 = b11 := by omega
  have q := And.intro (And.intro q hb11) hq11
  refine We rfl ?_; simp [q]
  refine hK _ _ ?_; clear hK K
  refine rg fun K hK => ?_
  refine We rfl ?_; simp [q]
  intro b12 hb12; simp [Fresh] at hb12; have hq12 : ¬b11 = b12 ∧ ¬b9 = b12 ∧ ¬b8 = b12 ∧ ¬b5 = b12 ∧ ¬b3 = b12 ∧ ¬b30 = b12 := by omega
  refine hK _ _ ?_; clear hK K
  have q := And.intro (And.intro q hb12) hq12
  refine Run.freezeE b9 (by simp [q]; rfl) (by simp [q]; rfl) (by simp [q]; rfl) ?_
  refine Run.freezeE b11 (by simp [q]; rfl) (by simp [q]; rfl) (by simp [q]; rfl) ?_
  refine Run.freezeE b3 (by simp [q]; rfl) (by simp [q]; rfl) (by simp [q]; rfl) ?_
  refine rg fun K hK => ?_
  refine wq ?_
  refine We rfl ?_; simp [q]
  refine hK _ _ ?_; clear hK K
  refine Run.seq ?_
  refine Run.knotE b12 (y1.1.term.nodes.length + 1) (n := 45) (caps := [.cptr [.list .none (y1.2.1.map TMachOperand.row)], .cptr [.map b30], .cptr m_0.row]) (by first | (simp [q]; done) | (simp [q]; rfl)) (by simp [q]; rfl) (by simp [q]; rfl) ?_
  replace hF := bindO hF; obtain ⟨y4, hy4, hF⟩ := hF
  refine rg fun K hK => ?_
  iterate 4 refine wq ?_
  refine Wcb ⟨[], [(b30, _)]⟩ ⟨[(b8, _), (b5, _)], []⟩ rfl rfl rfl (by simp [q]; rfl) (by simp [q]; done) (pattern_Match_1_ok (b_3 := b30) hy4) (by exact pick0) pk1 ?_
  rintro _ _ ⟨rfl, rfl⟩; simp [noCells, noCellS, noCellV, noCellC, noCellT, St.add]
  refine wq ?_
  refine hK _ _ ?_; clear hK K
  refine Run.testEnd (b := (!y4.2)) (by simp [q]) (fun h5 => ?_) (fun h5 => ?_)
  ·
   rw [itet h5] at hF; try simp at h5
   refine rg fun K hK => ?_
   have q := And.intro q h5
   iterate 2 refine wq ?_
   refine hK _ _ ?_; clear hK K
   refine Run.ret ?_
   obtain rfl := Option.some.inj hF
   simp [tupA, hb5, hq5, hb8, hq8, hb9, hq9, h3, hb30, hq30, hb11, hq11, hb12, hq12, h5]
  rw [itef h5] at hF; try simp at h5
  refine Run.skip ?_
  show Run _ _ _ _ _ _
  refine rg fun K hK => ?_
  have q := And.intro q h5
  refine wq ?_
  refine hK _ _ ?_; clear hK K
  refine Run.seq ?_
  replace hF := bindO hF; obtain ⟨y6, hy6, hF⟩ := hF
  refine rg fun K hK => ?_
  iterate 2 refine wq ?_
  refine wcq (pattern_inputs_ok hy6) ?_; rintro _ rfl; simp
  iterate 2 refine wq ?_
  refine hK _ _ ?_; clear hK K
  refine Run.block ?_
  refine Run.retagE 13 54 7 (by simp [q]) (by omega) (by simp) (by simp; rfl) ?_
  refine Run.fixX hF [11, 13, 40, 41, 42] [.slot 54] [] [b30] (by simp) (by simp) (by simp) (fun v f σ => ∃ out_x7 : List TPatternArg, ∃ v_x8 : Int, v = (out_x7, v_x8) ∧ f = ⟨57, [(11, .cptr [.map b30]), (13, .list (.slot 54) (out_x7.map TPatternArg.row)), (40, .list .none (y6.map (rwI .i64))), (41, .int .i64 (y6.length : Int)), (42, .int .i64 v_x8)], [(.slot 54, (out_x7.length, 7))], []⟩ ∧ σ = ⟨[], [(b30, .mp (y4.1.map (mI .i64 TTerm.agg)))]⟩) ?_ ?_
  ·
   exact ⟨[], 0, rfl, by simp [q, Fm.rst, nn, nn1], by simp [q, St.only, nn1]⟩
  clear hF
  rintro _ _ _ yy1 ⟨out_x7, v_x8, rfl, rfl, rfl⟩ hF hR1
  simp only [pattern_Match.l0] at hF
  refine rg fun K hK => ?_
  have q := And.intro hb5 (And.intro hq5 (And.intro hb8 (And.intro hq8 (And.intro hb9 (And.intro hq9 (And.intro hb30 (And.intro hq30 (And.intro hb11 (And.intro hq11 (And.intro hb12 hq12))))))))))
  refine wq ?_
  refine hK _ _ ?_; clear hK K
  refine Run.seq ?_
  refine Run.testEnd (b := (decide (v_x8 < (y6.length : Int)))) (by simp [q]) (fun h11 => ?_) (fun h11 => ?_)
  ·
   rw [itet h11] at hF; try simp at h11
   refine Run.skip ?_
   show Run _ _ _ _ _ _
   refine Run.seq ?_
   refine Run.block ?_
   replace hF := chkO hF; obtain ⟨hc12, hF⟩ := hF
   refine rg fun K hK => ?_
   have q := And.intro q h11
   refine Wq (evF_ix (tg := .none) (rw := (rwI .i64)) (xs := y6) (k := .i64) (n := v_x8) (by simp; rfl) rfl (by simp; rfl) (by simp [q]) (by simp [q]) hc12.1 hc12.2 (by simp)) ?_
   iterate 2 refine wq ?_
   refine hK _ _ ?_; clear hK K
   replace hF := bindO hF; obtain ⟨y13, hy13, hF⟩ := hF
   replace hF := chkO hF; obtain ⟨hc14, hF⟩ := hF
   refine rge fun K hK => ?_
   iterate 4 refine wq ?_
   refine Wq (evF_lkI (g := TTerm.agg) (m := y4.1) (k := (nth y6 v_x8)) (b := b30) (z := (TTerm.mk 0 0 0 [] 0 [])) (by simp; rfl) rfl (by simp; rfl) rfl (by simp; rfl) (by simp) (by simp) (by simp) (by simp [q]) (by simp [q]) (by simp [q])) ?_
   refine wcq (term_Twin_ok hy13) ?_; rintro _ rfl; simp
   refine wq ?_
   refine We rfl ?_; simp [q]; refine .inr ?_
   refine We rfl ?_; simp [q]; first | (refine ⟨by omega, ?_⟩) | (refine ⟨by simp, by omega, ?_⟩) | skip
   refine wq ?_
   refine hK _ _ ?_; clear hK K
   show Run _ _ _ _ _ _
   refine rge fun K hK => ?_
   iterate 2 refine wq ?_
   refine hK _ _ ?_; clear hK K
   exact ⟨_, (Option.some.inj hF).symm, (out_x7 ++ [(TPatternArg.mk (nth y6 v_x8) y13)]), (IntKind.i64.wrap (v_x8 + 1)), rfl, by simp [q, Fm.rst, nn, nn1], by simp [q, St.only, nn1]⟩
  rw [itef h11] at hF; try simp at h11
  refine Run.exit ?_
  replace hF := mapO hF; obtain ⟨z15, hF, hz⟩ := hF; have hz2 := (hR1 _ hz.symm).symm; subst hz2; clear hz
  show Run _ _ _ _ _ _
  refine rg fun K hK => ?_
  have q := And.intro q h11
  iterate 3 refine wq ?_
  refine hK _ _ ?_; clear hK K
  refine Run.ret ?_
  obtain rfl := Option.some.inj hF
  simp [tupA, hb5, hq5, hb8, hq8, hb9, hq9, hb30, hq30, hb11, hq11, hb12, hq12, h11]
 skip
 refine rg fun K hK => ?_
 iterate 2 refine wq ?_
 refine hK _ _ ?_; clear hK K
 refine Run.testEnd (b := (decide (y1.2.2 = 0))) (by simp [q]) (fun h16 => ?_) (fun h16 => ?_)
 ·
  rw [itet h16] at hF; try simp at h16
  replace hF := bindO hF; obtain ⟨y17, hy17, hF⟩ := hF
  refine rge fun K hK => ?_
  have q := And.intro q h16
  refine wq ?_
  refine wcq (term_Check_ok hy17) ?_; rintro _ rfl; simp
  refine wq ?_
  refine hK _ _ ?_; clear hK K
  exact ⟨y17, by simp [q, Fm.rst, nn, nn1], by simp [q, St.only, nn1], hF⟩
 rw [itef h16] at hF; try simp at h16
 refine Run.skip ?_
 have q := And.intro q h16
 exact ⟨y1.2.2, by simp [q, Fm.rst, nn, nn1], by simp [q, St.only, nn1], hF⟩

/-! pattern_width -/
def pattern_width.l0 [Fx] (t_0 : TTerm) (name_1 : List UInt8) (self : TTerm × (List UInt8) → Option Int) : Int → Option (Int ⊕ Int) := fun v =>
 match v with
 | v_x3 =>
 (if (decide (v_x3 < (t_0.sub.length : Int))) then
 (if (0 : Int) ≤ v_x3 ∧ v_x3 < (t_0.sub.length : Int) then
 ((self ((nth t_0.sub v_x3), name_1)).bind fun y7 =>
 (if (decide (0 < y7)) then
 some (.inr y7)
 else
 some (.inl (IntKind.i64.wrap (v_x3 + 1)))))
 else none)
 else
 (Option.map Sum.inr (some 0)))
def pattern_width.G [Fx] (self : TTerm × (List UInt8) → Option Int) (t_0 : TTerm) (name_1 : List UInt8) : Option Int :=
 (if ((decide (t_0.kind = 2)) && (decide (t_0.name = name_1))) then
 some t_0.width
 else
 Fx.fx (pattern_width.l0 t_0 name_1 self) 0)
def pattern_width [Fx] (t_0 : TTerm) (name_1 : List UInt8) : Option Int := itr (fun self a => pattern_width.G self a.1 a.2) (t_0.nodes.length + 1) (t_0, name_1)
theorem pattern_width_step [Fx] {self : TTerm × (List UInt8) → Option Int} (ih : ∀ {a : TTerm × (List UInt8)} {r : Int}, self a = some r → PCall Tryd.prog EE 50 [.agg a.1.row, .str a.2] fun v => v = .int .i64 r) {t_0 : TTerm} {name_1 : List UInt8} {r : Int} (hF : pattern_width.G self t_0 name_1 = some r) : PCall Tryd.prog EE 50 [.agg t_0.row, .str name_1] fun v => v = .int .i64 r := by
 refine PCall.of_fun EOK (F := Tryd.f50) 33 [.tmp 4] (by kernel_rfl) rfl rfl rfl rfl (Nat.le_of_ble_eq_true rfl) (by simp) ?_
 simp only [slotsA]
 unfold pattern_width.G at hF
 refine rg fun K hK => ?_
 refine We rfl ?_; simp
 intro b2 _
 refine Wq (by simp; rfl) ?_
 refine hK _ _ ?_; clear hK K
 refine Run.seq ?_
 refine rg fun K hK => ?_
 iterate 4 refine Wq (by simp; rfl) ?_
 obtain ⟨g1, e1⟩ : ∃ g, g = (decide (t_0.kind = 2)) := ⟨_, rfl⟩
 iterate 4 refine Wg rfl (b := g1) (by simp [e1]) (fun hg => by simp [hg]; rfl) ?_
 refine Wand (t := (decide (t_0.kind = 2))) (β := (decide (t_0.name = name_1))) (by simp) rfl (fun hh => by have h0 := e1.trans hh; simp [h0]) (by first | (simp; done) | (simp; rfl)) ?_
 refine hK _ _ ?_; clear hK K
 refine Run.testEnd (b := ((decide (t_0.kind = 2)) && (decide (t_0.name = name_1)))) (by simp) (fun h2 => ?_) (fun h2 => ?_)
 ·
  rw [itet h2] at hF; try simp at h2
  refine rg fun K hK => ?_
  have q := h2
  iterate 3 refine wq ?_
  refine hK _ _ ?_; clear hK K
  refine Run.ret ?_
  obtain rfl := Option.some.inj hF
  simp [tupA, h2]
 rw [itef h2] at hF; try simp at h2
 refine Run.skip ?_
 show Run _ _ _ _ _ _
 refine Run.seq ?_
 refine rg fun K hK => ?_
 have q := h2
 iterate 4 refine wq ?_
 refine hK _ _ ?_; clear hK K
 refine Run.block ?_
 refine Run.fixX hF [1, 20, 21, 22] [] [] [] (by simp) (by simp) (by simp) (fun v_x3 f σ => f = ⟨33, [(1, .str name_1), (20, .list .none (t_0.sub.map TTerm.row)), (21, .int .i64 (t_0.sub.length : Int)), (22, .int .i64 v_x3)], [], []⟩ ∧ σ = ⟨[], []⟩) ?_ ?_
 ·
  exact ⟨by simp [q, Fm.rst, nn, nn1], by simp [q, St.only, nn1]⟩
 clear hF
 rintro v_x3 _ _ yy1 ⟨rfl, rfl⟩ hF hR1
 simp only [pattern_width.l0] at hF
 refine rg fun K hK => ?_
 refine Wq (by simp; rfl) ?_
 refine hK _ _ ?_; clear hK K
 refine Run.seq ?_
 refine Run.testEnd (b := (decide (v_x3 < (t_0.sub.length : Int)))) (by simp) (fun h5 => ?_) (fun h5 => ?_)
 ·
  rw [itet h5] at hF; try simp at h5
  refine Run.skip ?_
  show Run _ _ _ _ _ _
  refine Run.seq ?_
  refine Run.block ?_
  replace hF := chkO hF; obtain ⟨hc6, hF⟩ := hF
  refine rg fun K hK => ?_
  have q := h5
  refine Wq (evF_ix (tg := .none) (rw := TTerm.row) (xs := t_0.sub) (k := .i64) (n := v_x3) (by simp; rfl) rfl (by simp; rfl) (by simp [q]) (by simp [q]) hc6.1 hc6.2 (by simp)) ?_
  refine wq ?_
  refine We rfl ?_; simp [q]
  intro b6 _
  refine We rfl ?_; simp [q]
  refine hK _ _ ?_; clear hK K
  replace hF := bindO hF; obtain ⟨y7, hy7, hF⟩ := hF
  refine rg fun K hK => ?_
  iterate 2 refine wq ?_
  refine wcq (ih hy7) ?_; rintro _ rfl; simp
  refine wq ?_
  refine hK _ _ ?_; clear hK K
  refine rg fun K hK => ?_
  iterate 2 refine wq ?_
  refine hK _ _ ?_; clear hK K
  refine Run.testEnd (b := (decide (0 < y7))) (by simp [q]) (fun h8 => ?_) (fun h8 => ?_)
  ·
   rw [itet h8] at hF; try simp at h8
   refine rg fun K hK => ?_
   have q := And.intro q h8
   iterate 2 refine wq ?_
   refine hK _ _ ?_; clear hK K
   refine Run.ret ?_
   have hv := hR1 _ (Option.some.inj hF).symm
   subst hv
   simp [tupA, h5, h8]
  rw [itef h8] at hF; try simp at h8
  refine Run.skip ?_
  show Run _ _ _ _ _ _
  refine rge fun K hK => ?_
  have q := And.intro q h8
  iterate 2 refine wq ?_
  refine hK _ _ ?_; clear hK K
  exact ⟨_, (Option.some.inj hF).symm, by simp [q, Fm.rst, nn, nn1], by simp [q, St.only, nn1]⟩
 rw [itef h5] at hF; try simp at h5
 refine Run.exit ?_
 replace hF := mapO hF; obtain ⟨z9, hF, hz⟩ := hF; have hz2 := (hR1 _ hz.symm).symm; subst hz2; clear hz
 show Run _ _ _ _ _ _
 refine rg fun K hK => ?_
 have q := h5
 refine wq ?_
 refine hK _ _ ?_; clear hK K
 refine Run.ret ?_
 obtain rfl := Option.some.inj hF
 simp [tupA, h5]
theorem pattern_width_ok [Fx] {t_0 : TTerm} {name_1 : List UInt8} {r : Int} (hF : pattern_width t_0 name_1 = some r) : PCall Tryd.prog EE 50 [.agg t_0.row, .str name_1] fun v => v = .int .i64 r :=
  itr_ind (C := fun (a : TTerm × (List UInt8)) (r : Int) => PCall Tryd.prog EE 50 [.agg a.1.row, .str a.2] fun v => v = .int .i64 r) (fun self ih {a r} h => pattern_width_step (fun {a r} h => ih h) h) _ hF

/-! pattern_filled -/
def pattern_filled.l0 [Fx] (t_0 : TTerm) (self : TTerm × (List (List UInt8 × TTerm)) × Int → Option ((List (List UInt8 × TTerm)) × Int × TTerm)) : (List TTerm) × Int × Int × (List (List UInt8 × TTerm)) → Option (((List TTerm) × Int × Int × (List (List UInt8 × TTerm))) ⊕ ((List (List UInt8 × TTerm)) × Int × TTerm)) := fun v =>
 match v with
 | (l_x6, v_x7, v_x8, v_x9) =>
 (if (decide (v_x7 < (t_0.sub.length : Int))) then
 (if (0 : Int) ≤ v_x7 ∧ v_x7 < (t_0.sub.length : Int) then
 ((self ((nth t_0.sub v_x7), v_x9, v_x8)).bind fun y16 =>
 (if (l_x6.length + 1) * 73 ≤ 140737488351232 then
 some (.inl ((l_x6 ++ [y16.2.2]), (IntKind.i64.wrap (v_x7 + 1)), y16.2.1, y16.1))
 else none))
 else none)
 else
 (Option.map Sum.inr (some (v_x9, v_x8, (TTerm.mk t_0.kind t_0.width t_0.bits t_0.name t_0.low l_x6)))))
def pattern_filled.G [Fx] (self : TTerm × (List (List UInt8 × TTerm)) × Int → Option ((List (List UInt8 × TTerm)) × Int × TTerm)) (t_0 : TTerm) (with_1 : List (List UInt8 × TTerm)) (size_2 : Int) : Option ((List (List UInt8 × TTerm)) × Int × TTerm) :=
 (if (decide (400 < (IntKind.i64.wrap (size_2 + 1)))) then
 some (with_1, (IntKind.i64.wrap (size_2 + 1)), t_0)
 else
 (if (((aget with_1 t_0.name).isSome) && (decide (t_0.kind = 2))) then
 ((term_Size ((aget with_1 t_0.name).getD (TTerm.mk 0 0 0 [] 0 []))).bind fun y4 =>
 ((term_Twin ((aget with_1 t_0.name).getD (TTerm.mk 0 0 0 [] 0 []))).bind fun y5 =>
 some (with_1, (IntKind.i64.wrap ((IntKind.i64.wrap (size_2 + 1)) + (IntKind.i64.wrap (y4 - 1)))), y5)))
 else
 Fx.fx (pattern_filled.l0 t_0 self) ([], 0, (IntKind.i64.wrap (size_2 + 1)), with_1)))
def pattern_filled [Fx] (t_0 : TTerm) (with_1 : List (List UInt8 × TTerm)) (size_2 : Int) : Option ((List (List UInt8 × TTerm)) × Int × TTerm) := itr (fun self a => pattern_filled.G self a.1 a.2.1 a.2.2) (t_0.nodes.length + 1) (t_0, with_1, size_2)
theorem pattern_filled_step [Fx] {self : TTerm × (List (List UInt8 × TTerm)) × Int → Option ((List (List UInt8 × TTerm)) × Int × TTerm)} (ih : ∀ {a : TTerm × (List (List UInt8 × TTerm)) × Int} {r : (List (List UInt8 × TTerm)) × Int × TTerm}, self a = some r → ∀ b_2 b_1 : Nat, ACall Tryd.prog EE 51 [.agg a.1.row, .map b_1, .ptr b_2 0] ⟨[(b_2, [.int .i64 a.2.2])], [(b_1, .mp (a.2.1.map (mS TTerm.agg)))]⟩ fun v σ => v = .agg r.2.2.row ∧ σ = ⟨[(b_2, [.int .i64 r.2.1])], [(b_1, .mp (r.1.map (mS TTerm.agg)))]⟩) {b_2 : Nat} {b_1 : Nat} {t_0 : TTerm} {with_1 : List (List UInt8 × TTerm)} {size_2 : Int} {r : (List (List UInt8 × TTerm)) × Int × TTerm} (hF : pattern_filled.G self t_0 with_1 size_2 = some r) : ACall Tryd.prog EE 51 [.agg t_0.row, .map b_1, .ptr b_2 0] ⟨[(b_2, [.int .i64 size_2])], [(b_1, .mp (with_1.map (mS TTerm.agg)))]⟩ fun v σ => v = .agg r.2.2.row ∧ σ = ⟨[(b_2, [.int .i64 r.2.1])], [(b_1, .mp (r.1.map (mS TTerm.agg)))]⟩ := by
 refine ACall.of_fun EOK (F := Tryd.f51) 63 [.cell 6 38] (by kernel_rfl) rfl rfl rfl rfl (Nat.le_of_ble_eq_true rfl) (by simp) ?_
 simp only [slotsA]
 unfold pattern_filled.G at hF
 refine rg fun K hK => ?_
 refine We rfl ?_; simp
 intro b3 hb3; simp [Fresh] at hb3; have hq3 : ¬b_2 = b3 ∧ ¬b_1 = b3 := by omega
 have q := And.intro hb3 hq3
 refine We rfl ?_; simp [q]
 intro b6 hb6; simp [Fresh] at hb6; have hq6 : ¬b3 = b6 ∧ ¬b_2 = b6 ∧ ¬b_1 = b6 := by omega
 refine hK _ _ ?_; clear hK K
 refine Run.seq ?_
 refine rg fun K hK => ?_
 have q := And.intro (And.intro q hb6) hq6
 iterate 5 refine wq ?_
 refine We rfl ?_; simp [q]
 refine hK _ _ ?_; clear hK K
 refine rg fun K hK => ?_
 iterate 4 refine wq ?_
 refine hK _ _ ?_; clear hK K
 refine Run.testEnd (b := (decide (400 < (IntKind.i64.wrap (size_2 + 1))))) (by simp [q]) (fun h1 => ?_) (fun h1 => ?_)
 ·
  rw [itet h1] at hF; try simp at h1
  refine rg fun K hK => ?_
  have q := And.intro q h1
  refine wq ?_
  refine We rfl ?_; simp [q]
  refine hK _ _ ?_; clear hK K
  refine Run.ret ?_
  obtain rfl := Option.some.inj hF
  refine ⟨by simp, by simp, _, _, _, (by simp [q]; rfl), .inl rfl, ?_, ?_, ?_, rfl⟩
  all_goals simp [tupA, hb3, hq3, hb6, hq6, h1]
 rw [itef h1] at hF; try simp at h1
 refine Run.skip ?_
 show Run _ _ _ _ _ _
 refine Run.seq ?_
 refine rg fun K hK => ?_
 have q := And.intro q h1
 iterate 3 refine wq ?_
 refine Wq (evF_lkS (g := TTerm.agg) (m := with_1) (k := t_0.name) (b := b_1) (z := (TTerm.mk 0 0 0 [] 0 [])) (by simp; rfl) rfl (by simp; rfl) rfl (by simp; rfl) (by simp) (by simp) (by simp) (by simp [q]) (by simp [q]) (by simp [q])) ?_
 iterate 3 refine wq ?_
 refine We rfl ?_; simp [q]
 intro b7 hb7; simp [Fresh] at hb7; have hq7 : ¬b6 = b7 ∧ ¬b3 = b7 ∧ ¬b_2 = b7 ∧ ¬b_1 = b7 := by omega
 have q := And.intro (And.intro q hb7) hq7
 refine We rfl ?_; simp [q]
 refine wq ?_
 refine hK _ _ ?_; clear hK K
 refine rg fun K hK => ?_
 iterate 2 refine wq ?_
 obtain ⟨g2, e2⟩ : ∃ g, g = ((aget with_1 t_0.name).isSome) := ⟨_, rfl⟩
 iterate 3 refine Wg rfl (b := g2) (by simp [q, e2]) (fun hg => by simp [q, hg]; rfl) ?_
 refine Wand (t := (aget with_1 t_0.name).isSome) (β := (decide (t_0.kind = 2))) (by simp [q]) rfl (fun hh => by have h0 := e2.trans hh; simp [q, h0]) (by first | (simp; done) | (simp; rfl)) ?_
 refine hK _ _ ?_; clear hK K
 refine Run.testEnd (b := (((aget with_1 t_0.name).isSome) && (decide (t_0.kind = 2)))) (by simp [q]) (fun h3 => ?_) (fun h3 => ?_)
 ·
  rw [itet h3] at hF; try simp at h3
  replace hF := bindO hF; obtain ⟨y4, hy4, hF⟩ := hF
  refine Run.drawReg EOK mixed 6 [0, 1, 2, 3, 4, 5] rfl (by kernel_rfl) fun K hK => ?_
  have q := And.intro q h3
  iterate 4 refine Pq rfl (by simp [q]; rfl) ?_
  refine Pc rfl rfl rfl rfl (by first | (simp [q]; rfl) | (simp [q]; done)) (by simp [q]; done) (term_Size_ok hy4) ?_; rintro _ rfl; simp
  refine Pq rfl (by simp [q]; rfl) ?_
  refine Pd ?_
  iterate 2 refine wq ?_
  refine We rfl ?_; simp [q]
  refine hK _ _ ?_; clear hK K
  replace hF := bindO hF; obtain ⟨y5, hy5, hF⟩ := hF
  refine rg fun K hK => ?_
  refine wq ?_
  refine wcq (term_Twin_ok hy5) ?_; rintro _ rfl; simp
  refine We rfl ?_; simp [q]
  refine hK _ _ ?_; clear hK K
  refine Run.ret ?_
  obtain rfl := Option.some.inj hF
  refine ⟨by simp, by simp, _, _, _, (by simp [q]; rfl), .inl rfl, ?_, ?_, ?_, rfl⟩
  all_goals simp [tupA, hb3, hq3, hb6, hq6, h1, hb7, hq7, h3]
 rw [itef h3] at hF; try simp at h3
 refine Run.skip ?_
 show Run _ _ _ _ _ _
 refine rg fun K hK => ?_
 have q := And.intro q h3
 refine wq ?_
 refine hK _ _ ?_; clear hK K
 refine Run.seq ?_
 refine rg fun K hK => ?_
 iterate 4 refine wq ?_
 refine hK _ _ ?_; clear hK K
 refine Run.block ?_
 refine Run.retagE 9 58 6 (by simp [q]) (by omega) (by simp) (by simp; rfl) ?_
 refine Run.fixX hF [1, 2, 3, 6, 9, 46, 47, 48] [.slot 58] [b6, b3, b_2] [b_1] (by simp [q]) (by simp) (by simp) (fun v f σ => ∃ l_x6 : List TTerm, ∃ v_x7 : Int, ∃ v_x8 : Int, ∃ v_x9 : List (List UInt8 × TTerm), v = (l_x6, v_x7, v_x8, v_x9) ∧ f = ⟨63, [(1, .map b_1), (2, .ptr b_2 0), (3, .ptr b3 0), (6, .ptr b6 0), (9, .list (.slot 58) (l_x6.map TTerm.row)), (46, .list .none (t_0.sub.map TTerm.row)), (47, .int .i64 (t_0.sub.length : Int)), (48, .int .i64 v_x7)], [(.slot 58, (l_x6.length, 6))], []⟩ ∧ σ = ⟨[(b6, ([.int .u8 0] ++ [.int .i64 0] ++ [.int .u64 0] ++ [.str []] ++ [.int .i64 0] ++ [.list .none ([].map TTerm.row)])), (b3, t_0.row), (b_2, [.int .i64 v_x8])], [(b_1, .mp (v_x9.map (mS TTerm.agg)))]⟩) ?_ ?_
 ·
  exact ⟨[], 0, (IntKind.i64.wrap (size_2 + 1)), with_1, rfl, by simp [q, Fm.rst, nn, nn1], by simp [q, St.only, nn1]⟩
 clear hF
 rintro _ _ _ yy1 ⟨l_x6, v_x7, v_x8, v_x9, rfl, rfl, rfl⟩ hF hR1
 simp only [pattern_filled.l0] at hF
 refine rg fun K hK => ?_
 have q := And.intro hb3 (And.intro hq3 (And.intro hb6 (And.intro hq6 (And.intro hb7 hq7))))
 refine wq ?_
 refine hK _ _ ?_; clear hK K
 refine Run.seq ?_
 refine Run.testEnd (b := (decide (v_x7 < (t_0.sub.length : Int)))) (by simp [q]) (fun h14 => ?_) (fun h14 => ?_)
 ·
  rw [itet h14] at hF; try simp at h14
  refine Run.skip ?_
  show Run _ _ _ _ _ _
  refine Run.seq ?_
  refine Run.block ?_
  replace hF := chkO hF; obtain ⟨hc15, hF⟩ := hF
  refine rg fun K hK => ?_
  have q := And.intro q h14
  refine Wq (evF_ix (tg := .none) (rw := TTerm.row) (xs := t_0.sub) (k := .i64) (n := v_x7) (by simp; rfl) rfl (by simp; rfl) (by simp [q]) (by simp [q]) hc15.1 hc15.2 (by simp)) ?_
  refine wq ?_
  refine We rfl ?_; simp [q]
  intro b11 hb11; simp [Fresh] at hb11; have hq11 : ¬b6 = b11 ∧ ¬b3 = b11 ∧ ¬b_2 = b11 ∧ ¬b_1 = b11 := by omega
  have q := And.intro (And.intro q hb11) hq11
  refine We rfl ?_; simp [q]
  refine hK _ _ ?_; clear hK K
  replace hF := bindO hF; obtain ⟨y16, hy16, hF⟩ := hF
  replace hF := chkO hF; obtain ⟨hc17, hF⟩ := hF
  refine rge fun K hK => ?_
  iterate 4 refine wq ?_
  refine Wcb ⟨[(b_2, _)], [(b_1, _)]⟩ ⟨[(b11, _), (b6, _), (b3, _)], []⟩ rfl rfl rfl (by simp [q]; rfl) (by simp [q]; done) (ih hy16 b_2 b_1) pk1 pk1 ?_
  rintro _ _ ⟨rfl, rfl⟩; simp [noCells, noCellS, noCellV, noCellC, noCellT, St.add]
  refine We rfl ?_; simp [q]; refine .inr ?_
  refine We rfl ?_; simp [q]; first | (refine ⟨by omega, ?_⟩) | (refine ⟨by simp, by omega, ?_⟩) | skip
  refine wq ?_
  refine hK _ _ ?_; clear hK K
  show Run _ _ _ _ _ _
  refine rge fun K hK => ?_
  iterate 2 refine wq ?_
  refine hK _ _ ?_; clear hK K
  exact ⟨_, (Option.some.inj hF).symm, (l_x6 ++ [y16.2.2]), (IntKind.i64.wrap (v_x7 + 1)), y16.2.1, y16.1, rfl, by simp [q, Fm.rst, nn, nn1], by simp [q, St.only, nn1]⟩
 rw [itef h14] at hF; try simp at h14
 refine Run.exit ?_
 replace hF := mapO hF; obtain ⟨z18, hF, hz⟩ := hF; have hz2 := (hR1 _ hz.symm).symm; subst hz2; clear hz
 show Run _ _ _ _ _ _
 refine rg fun K hK => ?_
 have q := And.intro q h14
 iterate 2 refine wq ?_
 refine We rfl ?_; simp [q]
 refine hK _ _ ?_; clear hK K
 refine rg fun K hK => ?_
 refine wq ?_
 refine We rfl ?_; simp [q]
 refine hK _ _ ?_; clear hK K
 refine Run.ret ?_
 obtain rfl := Option.some.inj hF
 refine ⟨by simp, by simp, _, _, _, (by simp [q]; rfl), .inl rfl, ?_, ?_, ?_, rfl⟩
 all_goals simp [tupA, hb3, hq3, hb6, hq6, hb7, hq7, h14]
theorem pattern_filled_ok [Fx] {b_2 : Nat} {b_1 : Nat} {t_0 : TTerm} {with_1 : List (List UInt8 × TTerm)} {size_2 : Int} {r : (List (List UInt8 × TTerm)) × Int × TTerm} (hF : pattern_filled t_0 with_1 size_2 = some r) : ACall Tryd.prog EE 51 [.agg t_0.row, .map b_1, .ptr b_2 0] ⟨[(b_2, [.int .i64 size_2])], [(b_1, .mp (with_1.map (mS TTerm.agg)))]⟩ fun v σ => v = .agg r.2.2.row ∧ σ = ⟨[(b_2, [.int .i64 r.2.1])], [(b_1, .mp (r.1.map (mS TTerm.agg)))]⟩ :=
  itr_ind (C := fun (a : TTerm × (List (List UInt8 × TTerm)) × Int) (r : (List (List UInt8 × TTerm)) × Int × TTerm) => ∀ b_2 b_1 : Nat, ACall Tryd.prog EE 51 [.agg a.1.row, .map b_1, .ptr b_2 0] ⟨[(b_2, [.int .i64 a.2.2])], [(b_1, .mp (a.2.1.map (mS TTerm.agg)))]⟩ fun v σ => v = .agg r.2.2.row ∧ σ = ⟨[(b_2, [.int .i64 r.2.1])], [(b_1, .mp (r.1.map (mS TTerm.agg)))]⟩) (fun self ih {a r} h => fun b_2 b_1 => pattern_filled_step (fun {a r} h => ih h) h) _ hF b_2 b_1

/-! pattern_Fill -/
def pattern_Fill.l0 [Fx] (m_0 : TMachine) (args_2 : List TPatternArg) (y1 : TPattern × List TMachOperand × Int) (y3 : List Int) : Int × (List (List UInt8 × TTerm)) → Option ((Int × (List (List UInt8 × TTerm))) ⊕ (TTerm × Int)) := fun v =>
 match v with
 | (v_x5, v_x6) =>
 (if (decide (v_x5 < (args_2.length : Int))) then
 (if (0 : Int) ≤ v_x5 ∧ v_x5 < (args_2.length : Int) then
 (if (0 : Int) ≤ v_x5 ∧ v_x5 < (y3.length : Int) then
 ((if (decide (((nth args_2 v_x5).operand) = (nth y3 v_x5))) then term_Check ((nth args_2 v_x5).term) else some default).bind fun y13 =>
 (if ((!((!decide (((nth args_2 v_x5).operand) = (nth y3 v_x5))) || (!decide (y13 = 0)))) = true → (0 : Int) ≤ v_x5 ∧ v_x5 < (y3.length : Int)) then
 (if ((!((!decide (((nth args_2 v_x5).operand) = (nth y3 v_x5))) || (!decide (y13 = 0)))) = true → (0 : Int) ≤ (nth y3 v_x5) ∧ (nth y3 v_x5) < (y1.2.1.length : Int)) then
 (if ((!((!decide (((nth args_2 v_x5).operand) = (nth y3 v_x5))) || (!decide (y13 = 0)))) = true → (0 : Int) ≤ v_x5 ∧ v_x5 < (y3.length : Int)) then
 (if ((!((!decide (((nth args_2 v_x5).operand) = (nth y3 v_x5))) || (!decide (y13 = 0)))) = true → (0 : Int) ≤ (nth y3 v_x5) ∧ (nth y3 v_x5) < (y1.2.1.length : Int)) then
 ((if (!((!decide (((nth args_2 v_x5).operand) = (nth y3 v_x5))) || (!decide (y13 = 0)))) then pattern_width y1.1.term ((nth y1.2.1 (nth y3 v_x5)).name) else some default).bind fun y19 =>
 ((if (!((!decide (((nth args_2 v_x5).operand) = (nth y3 v_x5))) || (!decide (y13 = 0)))) then pattern_fits m_0 (nth y1.2.1 (nth y3 v_x5)) y19 ((nth args_2 v_x5).term) else some default).bind fun y20 =>
 (if (((!decide (((nth args_2 v_x5).operand) = (nth y3 v_x5))) || (!decide (y13 = 0))) || (!y20)) then
 some (.inr ((TTerm.mk 0 0 0 [] 0 []), 2))
 else
 (if (0 : Int) ≤ v_x5 ∧ v_x5 < (y3.length : Int) then
 (if (0 : Int) ≤ (nth y3 v_x5) ∧ (nth y3 v_x5) < (y1.2.1.length : Int) then
 some (.inl ((IntKind.i64.wrap (v_x5 + 1)), (aput v_x6 ((nth y1.2.1 (nth y3 v_x5)).name) ((nth args_2 v_x5).term))))
 else none)
 else none))))
 else none)
 else none)
 else none)
 else none))
 else none)
 else none)
 else
 (Option.map Sum.inr ((pattern_filled y1.1.term v_x6 0).bind fun y25 =>
 (if (decide (400 < y25.2.1)) then
 some ((TTerm.mk 0 0 0 [] 0 []), 4)
 else
 ((term_Check y25.2.2).bind fun y27 =>
 (if (!decide (y27 = 0)) then
 some ((TTerm.mk 0 0 0 [] 0 []), y27)
 else
 some (y25.2.2, 0)))))))
def pattern_Fill [Fx] (m_0 : TMachine) (p_1 : Int) (args_2 : List TPatternArg) : Option (TTerm × Int) :=
 ((pattern_atX m_0 p_1).bind fun y1 =>
 (if (!decide (y1.2.2 = 0)) then
 some ((TTerm.mk 0 0 0 [] 0 []), y1.2.2)
 else
 ((pattern_inputs y1.1 y1.2.1).bind fun y3 =>
 (if (!decide ((args_2.length : Int) = (y3.length : Int))) then
 some ((TTerm.mk 0 0 0 [] 0 []), 2)
 else
 Fx.fx (pattern_Fill.l0 m_0 args_2 y1 y3) (0, [])))))
theorem pattern_Fill_ok [Fx] {m_0 : TMachine} {p_1 : Int} {args_2 : List TPatternArg} {r : TTerm × Int} (hF : pattern_Fill m_0 p_1 args_2 = some r) : PCall Tryd.prog EE 15 [.agg m_0.row, .int .i64 p_1, .list .none (args_2.map TPatternArg.row)] fun v => v = .tup [.agg r.1.row, .int .i64 r.2] := by
 refine PCall.of_fun EOK (F := Tryd.f15) 111 [.cell 6 38, .tmp 7] (by kernel_rfl) rfl rfl rfl rfl (Nat.le_of_ble_eq_true rfl) (by simp) ?_
 simp only [slotsA]
 unfold pattern_Fill at hF
 refine rg fun K hK => ?_
 refine We rfl ?_; simp
 intro b3 _
 refine We rfl ?_; simp
 intro b6 hb6; simp [Fresh] at hb6; have hq6 : ¬b3 = b6 := by omega
 have q := And.intro hb6 hq6
 refine wq ?_
 refine hK _ _ ?_; clear hK K
 replace hF := bindO hF; obtain ⟨y1, hy1, hF⟩ := hF
 refine rg fun K hK => ?_
 iterate 2 refine wq ?_
 refine wcq (pattern_atX_ok hy1) ?_; rintro _ rfl; simp
 iterate 4 refine wq ?_
 refine We rfl ?_; simp [q]
 intro b8 hb8; simp [Fresh] at hb8; have hq8 : ¬b6 = b8 ∧ ¬b3 = b8 := by omega
 have q := And.intro (And.intro q hb8) hq8
 refine We rfl ?_; simp [q]
 iterate 2 refine wq ?_
 refine hK _ _ ?_; clear hK K
 refine Run.seq ?_
 refine rg fun K hK => ?_
 iterate 2 refine wq ?_
 refine hK _ _ ?_; clear hK K
 refine Run.testEnd (b := (!decide (y1.2.2 = 0))) (by simp [q]) (fun h2 => ?_) (fun h2 => ?_)
 ·
  rw [itet h2] at hF; try simp at h2
  refine rg fun K hK => ?_
  have q := And.intro q h2
  iterate 2 refine wq ?_
  refine We rfl ?_; simp [q]
  refine wq ?_
  refine hK _ _ ?_; clear hK K
  refine Run.ret ?_
  obtain rfl := Option.some.inj hF
  simp [tupA, hb6, hq6, hb8, hq8, h2]
 rw [itef h2] at hF; try simp at h2
 refine Run.skip ?_
 show Run _ _ _ _ _ _
 replace hF := bindO hF; obtain ⟨y3, hy3, hF⟩ := hF
 refine rg fun K hK => ?_
 have q := And.intro q h2
 iterate 2 refine wq ?_
 refine wcq (pattern_inputs_ok hy3) ?_; rintro _ rfl; simp
 refine wq ?_
 refine hK _ _ ?_; clear hK K
 refine Run.seq ?_
 refine rg fun K hK => ?_
 iterate 5 refine wq ?_
 refine hK _ _ ?_; clear hK K
 refine Run.testEnd (b := (!decide ((args_2.length : Int) = (y3.length : Int)))) (by simp [q]) (fun h4 => ?_) (fun h4 => ?_)
 ·
  rw [itet h4] at hF; try simp at h4
  refine rg fun K hK => ?_
  have q := And.intro q h4
  refine wq ?_
  refine We rfl ?_; simp [q]
  refine wq ?_
  refine hK _ _ ?_; clear hK K
  refine Run.ret ?_
  obtain rfl := Option.some.inj hF
  simp [tupA, hb6, hq6, hb8, hq8, h2, h4]
 rw [itef h4] at hF; try simp at h4
 refine Run.skip ?_
 show Run _ _ _ _ _ _
 refine rg fun K hK => ?_
 have q := And.intro q h4
 refine We rfl ?_; simp [q]
 intro b38 hb38; simp [Fresh] at hb38; have hq38 : ¬b8 = b38 ∧ ¬b6 = b38 ∧ ¬b3 = b38 := by omega
 have q := And.intro (And.intro q hb38) hq38
 refine wq ?_
 refine hK _ _ ?_; clear hK K
 refine Run.seq ?_
 refine rg fun K hK => ?_
 iterate 3 refine wq ?_
 refine hK _ _ ?_; clear hK K
 refine Run.block ?_
 refine Run.fixX hF [3, 6, 8, 9, 11, 12, 39, 40, 41] [] [b8, b6, b3] [b38] (by simp [q]) (by simp) (by simp) (fun v f σ => ∃ v_x5 : Int, ∃ v_x6 : List (List UInt8 × TTerm), v = (v_x5, v_x6) ∧ f = ⟨111, [(3, .ptr b3 0), (6, .ptr b6 0), (8, .ptr b8 0), (9, .list .none (y1.2.1.map TMachOperand.row)), (11, .list .none (y3.map (rwI .i64))), (12, .map b38), (39, .list .none (args_2.map TPatternArg.row)), (40, .int .i64 (args_2.length : Int)), (41, .int .i64 v_x5)], [], []⟩ ∧ σ = ⟨[(b8, y1.1.row), (b6, ([.int .u8 0] ++ [.int .i64 0] ++ [.int .u64 0] ++ [.str []] ++ [.int .i64 0] ++ [.list .none ([].map TTerm.row)])), (b3, m_0.row)], [(b38, .mp (v_x6.map (mS TTerm.agg)))]⟩) ?_ ?_
 ·
  exact ⟨0, [], rfl, by simp [q, Fm.rst, nn, nn1], by simp [q, St.only, nn1]⟩
 clear hF
 rintro _ _ _ yy1 ⟨v_x5, v_x6, rfl, rfl, rfl⟩ hF hR1
 simp only [pattern_Fill.l0] at hF
 refine rg fun K hK => ?_
 have q := And.intro hb6 (And.intro hq6 (And.intro hb8 (And.intro hq8 (And.intro hb38 hq38))))
 refine wq ?_
 refine hK _ _ ?_; clear hK K
 refine Run.seq ?_
 refine Run.testEnd (b := (decide (v_x5 < (args_2.length : Int)))) (by simp [q]) (fun h9 => ?_) (fun h9 => ?_)
 ·
  rw [itet h9] at hF; try simp at h9
  refine Run.skip ?_
  show Run _ _ _ _ _ _
  refine Run.seq ?_
  refine Run.block ?_
  replace hF := chkO hF; obtain ⟨hc10, hF⟩ := hF
  refine rg fun K hK => ?_
  have q := And.intro q h9
  refine wq ?_
  refine Wq (evF_ix (tg := .none) (rw := TPatternArg.row) (xs := args_2) (k := .i64) (n := v_x5) (by simp; rfl) rfl (by simp; rfl) (by simp [q]) (by simp [q]) hc10.1 hc10.2 (by simp)) ?_
  refine wq ?_
  refine We rfl ?_; simp [q]
  intro b14 hb14; simp [Fresh] at hb14; have hq14 : ¬b8 = b14 ∧ ¬b6 = b14 ∧ ¬b3 = b14 ∧ ¬b38 = b14 := by omega
  have q := And.intro (And.intro q hb14) hq14
  refine wq ?_
  refine We rfl ?_; simp [q]
  refine hK _ _ ?_; clear hK K
  refine Run.seq ?_
  replace hF := chkO hF; obtain ⟨hc11, hF⟩ := hF
  replace hF := bindO hF; obtain ⟨y13, hy13, hF⟩ := hF
  replace hF := chkO hF; obtain ⟨hc15, hF⟩ := hF
  replace hF := chkO hF; obtain ⟨hc16, hF⟩ := hF
  replace hF := chkO hF; obtain ⟨hc17, hF⟩ := hF
  replace hF := chkO hF; obtain ⟨hc18, hF⟩ := hF
  replace hF := bindO hF; obtain ⟨y19, hy19, hF⟩ := hF
  replace hF := bindO hF; obtain ⟨y20, hy20, hF⟩ := hF
  refine Run.drawReg EOK mixed 35 [0, 1, 2, 3, 4, 5, 6, 7, 8, 9, 10, 11, 12, 13, 14, 15, 16, 17, 18, 19, 20, 21, 22, 23, 24, 25, 26, 27, 28, 29, 30, 31, 33, 34, 32] rfl (by kernel_rfl) fun K hK => ?_
  iterate 4 refine Pq rfl (by simp [q]; rfl) ?_
  refine Pq rfl (evP_of (evF_ix (tg := .none) (rw := (rwI .i64)) (xs := y3) (k := .i64) (n := v_x5) (by simp; rfl) rfl (by simp; rfl) (by simp [q]) (by simp [q]) hc11.1 hc11.2 (by simp))) ?_
  iterate 3 refine Pq rfl (by simp [q]; rfl) ?_
  obtain ⟨g12, e12⟩ : ∃ g, g = (decide (((nth args_2 v_x5).operand) = (nth y3 v_x5))) := ⟨_, rfl⟩
  iterate 2 refine Pg rfl rfl (b := g12) (by simp [q, e12]) (fun hg => by simp [q, hg]; rfl) ?_
  refine Pgc rfl rfl rfl (b := g12) (by simp [q, e12]) rfl rfl (fun hg => by simp [q, hg]; rfl) (fun hg => by simp [q, hg]; done) (fun hg => term_Check_ok ((itet (e12.symm.trans hg)).symm.trans hy13)) ?_
  simp
  refine Pg rfl rfl (b := g12) (by simp [q, e12]) (fun hg => by simp [q, hg]; rfl) ?_
  refine Por rfl (t := (!decide (((nth args_2 v_x5).operand) = (nth y3 v_x5)))) (β := (!decide (y13 = 0))) (by simp [q]) rfl (fun hh => by have h0 := e12.trans (nnot (notf hh)); simp [q, h0]) (by first | (simp; done) | (simp; rfl)) ?_
  refine Pq rfl (by simp [q]; rfl) ?_
  obtain ⟨g14, e14⟩ : ∃ g, g = (!((!decide (((nth args_2 v_x5).operand) = (nth y3 v_x5))) || (!decide (y13 = 0)))) := ⟨_, rfl⟩
  iterate 4 refine Pg rfl rfl (b := g14) (by simp [q, e14]) (fun hg => by simp [q, hg]; rfl) ?_
  refine Pg rfl rfl (b := g14) (by simp [q, e14]) (fun hg => evP_of (evF_ix (tg := .none) (rw := (rwI .i64)) (xs := y3) (k := .i64) (n := v_x5) (by simp; rfl) rfl (by simp; rfl) (by simp [q, hg]) (by simp [q, hg]) (hc15 (e14.symm.trans hg)).1 (hc15 (e14.symm.trans hg)).2 (by simp))) ?_
  refine Pg rfl rfl (b := g14) (by simp [q, e14]) (fun hg => by simp [q, hg]; rfl) ?_
  refine Pg rfl rfl (b := g14) (by simp [q, e14]) (fun hg => evP_of (evF_ix (tg := .none) (rw := TMachOperand.row) (xs := y1.2.1) (k := .i64) (n := (nth y3 v_x5)) (by simp; rfl) rfl (by simp; rfl) (by simp [q, hg]) (by simp [q, hg]) (hc16 (e14.symm.trans hg)).1 (hc16 (e14.symm.trans hg)).2 (by simp))) ?_
  iterate 6 refine Pg rfl rfl (b := g14) (by simp [q, e14]) (fun hg => by simp [q, hg]; rfl) ?_
  refine Pg rfl rfl (b := g14) (by simp [q, e14]) (fun hg => evP_of (evF_ix (tg := .none) (rw := (rwI .i64)) (xs := y3) (k := .i64) (n := v_x5) (by simp; rfl) rfl (by simp; rfl) (by simp [q, hg]) (by simp [q, hg]) (hc17 (e14.symm.trans hg)).1 (hc17 (e14.symm.trans hg)).2 (by simp))) ?_
  refine Pg rfl rfl (b := g14) (by simp [q, e14]) (fun hg => by simp [q, hg]; rfl) ?_
  refine Pg rfl rfl (b := g14) (by simp [q, e14]) (fun hg => evP_of (evF_ix (tg := .none) (rw := TMachOperand.row) (xs := y1.2.1) (k := .i64) (n := (nth y3 v_x5)) (by simp; rfl) rfl (by simp; rfl) (by simp [q, hg]) (by simp [q, hg]) (hc18 (e14.symm.trans hg)).1 (hc18 (e14.symm.trans hg)).2 (by simp))) ?_
  iterate 4 refine Pg rfl rfl (b := g14) (by simp [q, e14]) (fun hg => by simp [q, hg]; rfl) ?_
  refine Pgc rfl rfl rfl (b := g14) (by simp [q, e14]) rfl rfl (fun hg => by simp [q, hg]; rfl) (fun hg => by simp [q, hg]; done) (fun hg => pattern_width_ok ((itet (e14.symm.trans hg)).symm.trans hy19)) ?_
  simp
  refine Pd ?_
  refine Wgc rfl rfl (b := g14) (by simp [q, e14]) rfl rfl (fun hg => by simp [q, hg]; rfl) (fun hg => by simp [q, hg]; done) (fun hg => pattern_fits_ok ((itet (e14.symm.trans hg)).symm.trans hy20)) ?_
  simp
  refine Wg rfl (b := g14) (by simp [q, e14]) (fun hg => by simp [q, hg]; rfl) ?_
  refine Wor (t := ((!decide (((nth args_2 v_x5).operand) = (nth y3 v_x5))) || (!decide (y13 = 0)))) (β := (!y20)) (by simp [q]) rfl (fun hh => by have h0 := e14.trans (notf hh); simp [q, h0]) (by first | (simp; done) | (simp; rfl)) ?_
  refine hK _ _ ?_; clear hK K
  refine Run.testEnd (b := (((!decide (((nth args_2 v_x5).operand) = (nth y3 v_x5))) || (!decide (y13 = 0))) || (!y20))) (by simp [q]) (fun h21 => ?_) (fun h21 => ?_)
  ·
   rw [itet h21] at hF; try simp at h21
   refine rg fun K hK => ?_
   have q := And.intro q h21
   refine wq ?_
   refine We rfl ?_; simp [q]
   refine wq ?_
   refine hK _ _ ?_; clear hK K
   refine Run.ret ?_
   have hv := hR1 _ (Option.some.inj hF).symm
   subst hv
   simp [tupA, hb6, hq6, hb8, hq8, hb38, hq38, h9, hb14, hq14, h21]
  rw [itef h21] at hF; try simp at h21
  refine Run.skip ?_
  show Run _ _ _ _ _ _
  replace hF := chkO hF; obtain ⟨hc22, hF⟩ := hF
  replace hF := chkO hF; obtain ⟨hc23, hF⟩ := hF
  refine Run.draw EOK mixed 11 [0, 1, 2, 3, 4, 5, 6, 7, 8, 9, 10] rfl (by kernel_rfl) fun K hK => ?_
  have q := And.intro q h21
  iterate 4 refine Pq rfl (by simp [q]; rfl) ?_
  refine Pq rfl (evP_of (evF_ix (tg := .none) (rw := (rwI .i64)) (xs := y3) (k := .i64) (n := v_x5) (by simp; rfl) rfl (by simp; rfl) (by simp [q]) (by simp [q]) hc22.1 hc22.2 (by simp))) ?_
  refine Pq rfl (by simp [q]; rfl) ?_
  refine Pq rfl (evP_of (evF_ix (tg := .none) (rw := TMachOperand.row) (xs := y1.2.1) (k := .i64) (n := (nth y3 v_x5)) (by simp; rfl) rfl (by simp; rfl) (by simp [q]) (by simp [q]) hc23.1 hc23.2 (by simp))) ?_
  iterate 4 refine Pq rfl (by simp [q]; rfl) ?_
  refine Pd ?_
  have hp24 := putA_S TTerm.agg ((nth y1.2.1 (nth y3 v_x5)).name) ((nth args_2 v_x5).term) v_x6
  have hp24b := hp24; refine We rfl ?_; first | (simp at hp24b; simp [q, hp24, hp24b]) | simp [q, hp24]
  refine hK _ _ ?_; clear hK K
  show Run _ _ _ _ _ _
  refine rge fun K hK => ?_
  iterate 2 refine wq ?_
  refine hK _ _ ?_; clear hK K
  exact ⟨_, (Option.some.inj hF).symm, (IntKind.i64.wrap (v_x5 + 1)), (aput v_x6 ((nth y1.2.1 (nth y3 v_x5)).name) ((nth args_2 v_x5).term)), rfl, by simp [q, Fm.rst, nn, nn1], by simp [q, St.only, nn1]⟩
 rw [itef h9] at hF; try simp at h9
 refine Run.exit ?_
 replace hF := mapO hF; obtain ⟨z29, hF, hz⟩ := hF; have hz2 := (hR1 _ hz.symm).symm; subst hz2; clear hz
 show Run _ _ _ _ _ _
 refine rg fun K hK => ?_
 have q := And.intro q h9
 refine We rfl ?_; simp [q]
 intro b15 hb15; simp [Fresh] at hb15; have hq15 : ¬b8 = b15 ∧ ¬b6 = b15 ∧ ¬b3 = b15 ∧ ¬b38 = b15 := by omega
 have q := And.intro (And.intro q hb15) hq15
 refine We rfl ?_; simp [q]
 refine hK _ _ ?_; clear hK K
 replace hF := bindO hF; obtain ⟨y25, hy25, hF⟩ := hF
 refine rg fun K hK => ?_
 iterate 3 refine wq ?_
 refine Wcb ⟨[(b15, _)], [(b38, _)]⟩ ⟨[(b8, _), (b6, _), (b3, _)], []⟩ rfl rfl rfl (by simp [q]; rfl) (by simp [q]; done) (pattern_filled_ok (b_1 := b38) (b_2 := b15) hy25) pk1 pk1 ?_
 rintro _ _ ⟨rfl, rfl⟩; simp [noCells, noCellS, noCellV, noCellC, noCellT, St.add]
 refine We rfl ?_; simp [q]
 intro b16 hb16; simp [Fresh] at hb16; have hq16 : ¬b8 = b16 ∧ ¬b6 = b16 ∧ ¬b3 = b16 ∧ ¬b15 = b16 ∧ ¬b38 = b16 := by omega
 have q := And.intro (And.intro q hb16) hq16
 refine We rfl ?_; simp [q]
 refine hK _ _ ?_; clear hK K
 refine Run.seq ?_
 refine rg fun K hK => ?_
 iterate 2 refine wq ?_
 refine hK _ _ ?_; clear hK K
 refine Run.testEnd (b := (decide (400 < y25.2.1))) (by simp [q]) (fun h26 => ?_) (fun h26 => ?_)
 ·
  rw [itet h26] at hF; try simp at h26
  refine rg fun K hK => ?_
  have q := And.intro q h26
  refine wq ?_
  refine We rfl ?_; simp [q]
  refine wq ?_
  refine hK _ _ ?_; clear hK K
  refine Run.ret ?_
  obtain rfl := Option.some.inj hF
  simp [tupA, hb6, hq6, hb8, hq8, hb38, hq38, h9, hb15, hq15, hb16, hq16, h26]
 rw [itef h26] at hF; try simp at h26
 refine Run.skip ?_
 show Run _ _ _ _ _ _
 refine Run.seq ?_
 replace hF := bindO hF; obtain ⟨y27, hy27, hF⟩ := hF
 refine rg fun K hK => ?_
 have q := And.intro q h26
 refine wq ?_
 refine wcq (term_Check_ok hy27) ?_; rintro _ rfl; simp
 refine wq ?_
 refine hK _ _ ?_; clear hK K
 refine rg fun K hK => ?_
 iterate 2 refine wq ?_
 refine hK _ _ ?_; clear hK K
 refine Run.testEnd (b := (!decide (y27 = 0))) (by simp [q]) (fun h28 => ?_) (fun h28 => ?_)
 ·
  rw [itet h28] at hF; try simp at h28
  refine rg fun K hK => ?_
  have q := And.intro q h28
  iterate 2 refine wq ?_
  refine We rfl ?_; simp [q]
  refine wq ?_
  refine hK _ _ ?_; clear hK K
  refine Run.ret ?_
  obtain rfl := Option.some.inj hF
  simp [tupA, hb6, hq6, hb8, hq8, hb38, hq38, h9, hb15, hq15, hb16, hq16, h26, h28]
 rw [itef h28] at hF; try simp at h28
 refine Run.skip ?_
 show Run _ _ _ _ _ _
 refine rg fun K hK => ?_
 have q := And.intro q h28
 refine wq ?_
 refine We rfl ?_; simp [q]
 refine wq ?_
 refine hK _ _ ?_; clear hK K
 refine Run.ret ?_
 obtain rfl := Option.some.inj hF
 simp [tupA, hb6, hq6, hb8, hq8, hb38, hq38, h9, hb15, hq15, hb16, hq16, h26, h28]

/-! retargetlaw24_v -/

def retargetlaw24_v (name_0 : List UInt8) (w_1 : Int) : Option TTerm :=
 some (TTerm.mk 2 w_1 0 name_0 0 [])
theorem retargetlaw24_v_ok {name_0 : List UInt8} {w_1 : Int} {r : TTerm} (hF : retargetlaw24_v name_0 w_1 = some r) : PCall Tryd.prog EE 21 [.str name_0, .int .i64 w_1] fun v => v = .agg r.row := by
 refine PCall.of_fun EOK (F := Tryd.f21) 8 [.cell 4 38] (by kernel_rfl) rfl rfl rfl rfl (Nat.le_of_ble_eq_true rfl) (by simp) ?_
 simp only [slotsA]
 unfold retargetlaw24_v at hF
 refine rg fun K hK => ?_
 refine We rfl ?_; simp
 intro b4 _
 refine hK _ _ ?_; clear hK K
 refine rg fun K hK => ?_
 iterate 3 refine Wq (by simp; rfl) ?_
 refine We rfl ?_; simp
 refine hK _ _ ?_; clear hK K
 refine Run.ret ?_
 obtain rfl := Option.some.inj hF
 simp [tupA]

/-! retargetlaw24_op -/

def retargetlaw24_op (kind_0 : Int) (w_1 : Int) (l_2 : List TTerm) : Option TTerm :=
 some (TTerm.mk kind_0 w_1 0 [] 0 l_2)
theorem retargetlaw24_op_ok {kind_0 : Int} {w_1 : Int} {l_2 : List TTerm} {r : TTerm} (hF : retargetlaw24_op kind_0 w_1 l_2 = some r) : PCall Tryd.prog EE 22 [.int .u8 kind_0, .int .i64 w_1, .full (l_2.map TTerm.row)] fun v => v = .agg r.row := by
 refine PCall.uf ?_
 refine PCall.of_fun EOK (F := Tryd.f22) 11 [.cell 6 38] (by kernel_rfl) rfl rfl rfl rfl (Nat.le_of_ble_eq_true rfl) (by simp) ?_
 simp only [slotsA]
 unfold retargetlaw24_op at hF
 refine rg fun K hK => ?_
 refine We rfl ?_; simp
 intro b6 _
 refine hK _ _ ?_; clear hK K
 refine rg fun K hK => ?_
 iterate 4 refine Wq (by simp; rfl) ?_
 refine We rfl ?_; simp
 refine hK _ _ ?_; clear hK K
 refine Run.ret ?_
 obtain rfl := Option.some.inj hF
 simp [tupA]

/-! retargetlaw24_number -/

def retargetlaw24_number (x_0 : Int) : Option TTerm :=
 some (TTerm.mk 1 16 x_0 [] 0 [])
theorem retargetlaw24_number_ok {x_0 : Int} {r : TTerm} (hF : retargetlaw24_number x_0 = some r) : PCall Tryd.prog EE 20 [.int .u64 x_0] fun v => v = .agg r.row := by
 refine PCall.of_fun EOK (F := Tryd.f20) 5 [.cell 2 38] (by kernel_rfl) rfl rfl rfl rfl (Nat.le_of_ble_eq_true rfl) (by simp) ?_
 simp only [slotsA]
 unfold retargetlaw24_number at hF
 refine rg fun K hK => ?_
 refine We rfl ?_; simp
 intro b2 _
 refine hK _ _ ?_; clear hK K
 refine rg fun K hK => ?_
 iterate 2 refine Wq (by simp; rfl) ?_
 refine We rfl ?_; simp
 refine hK _ _ ?_; clear hK K
 refine Run.ret ?_
 obtain rfl := Option.some.inj hF
 simp [tupA]

/-! retargetlaw24_field -/

def retargetlaw24_field (name_0 : List UInt8) (kind_1 : Int) (at_2 : Int) (many_3 : Int) : Option TMachOperand :=
 some (TMachOperand.mk name_0 kind_1 0 0 [(TMachPiece.mk at_2 many_3)] (-1))
theorem retargetlaw24_field_ok {name_0 : List UInt8} {kind_1 : Int} {at_2 : Int} {many_3 : Int} {r : TMachOperand} (hF : retargetlaw24_field name_0 kind_1 at_2 many_3 = some r) : PCall Tryd.prog EE 23 [.str name_0, .int .u8 kind_1, .int .i64 at_2, .int .i64 many_3] fun v => v = .agg r.row := by
 refine PCall.of_fun EOK (F := Tryd.f23) 16 [.cell 8 51] (by kernel_rfl) rfl rfl rfl rfl (Nat.le_of_ble_eq_true rfl) (by simp) ?_
 simp only [slotsA]
 unfold retargetlaw24_field at hF
 refine rg fun K hK => ?_
 refine We rfl ?_; simp
 intro b8 _
 refine hK _ _ ?_; clear hK K
 refine rg fun K hK => ?_
 iterate 5 refine Wq (by simp; rfl) ?_
 refine We rfl ?_; simp; refine .inl ?_
 refine Wq (by simp; rfl) ?_
 refine We rfl ?_; simp
 refine hK _ _ ?_; clear hK K
 refine Run.ret ?_
 obtain rfl := Option.some.inj hF
 simp [tupA]

/-! retargetlaw24_tiny_1 -/

def retargetlaw24_tiny_1 (t_0 : TTerm) : Option TMachEffect :=
 some (TMachEffect.mk 1 0 0 (TTerm.mk 0 0 0 [] 0 []) t_0 (TTerm.mk 0 0 0 [] 0 []))
theorem retargetlaw24_tiny_1_ok {t_0 : TTerm} {r : TMachEffect} (hF : retargetlaw24_tiny_1 t_0 = some r) : PCall Tryd.prog EE 52 [.agg t_0.row] fun v => v = .agg r.row := by
 refine PCall.of_fun EOK (F := Tryd.f52) 5 [.cell 2 71] (by kernel_rfl) rfl rfl rfl rfl (Nat.le_of_ble_eq_true rfl) (by simp) ?_
 simp only [slotsA]
 unfold retargetlaw24_tiny_1 at hF
 refine rg fun K hK => ?_
 refine We rfl ?_; simp
 intro b1 _
 refine We rfl ?_; simp
 intro b2 hb2; simp [Fresh] at hb2; have hq2 : ¬b1 = b2 := by omega
 refine hK _ _ ?_; clear hK K
 refine rg fun K hK => ?_
 have q := And.intro hb2 hq2
 iterate 2 refine wq ?_
 refine We rfl ?_; simp [q]
 refine hK _ _ ?_; clear hK K
 refine Run.ret ?_
 obtain rfl := Option.some.inj hF
 simp [tupA, hb2, hq2]

/-! retargetlaw24_tiny -/

def retargetlaw24_tiny : Option TMachine :=
 ((retargetlaw24_v [110] 16).bind fun y1 =>
 ((retargetlaw24_field [100] 1 0 1).bind fun y2 =>
 ((retargetlaw24_field [115] 1 1 1).bind fun y3 =>
 ((retargetlaw24_v [100] 8).bind fun y4 =>
 ((retargetlaw24_v [115] 8).bind fun y5 =>
 ((retargetlaw24_op 5 8 [y4, y5]).bind fun y6 =>
 ((retargetlaw24_tiny_1 y6).bind fun y7 =>
 ((retargetlaw24_v [115] 8).bind fun y8 =>
 ((retargetlaw24_op 16 1 ([y8, (TTerm.mk 1 8 0 [] 0 [])])).bind fun y9 =>
 ((retargetlaw24_field [100] 1 0 1).bind fun y10 =>
 ((retargetlaw24_field [110] 2 1 3).bind fun y11 =>
 ((retargetlaw24_tiny_1 (TTerm.mk 21 8 0 [] 0 [y1])).bind fun y12 =>
 ((retargetlaw24_field [106] 4 0 4).bind fun y13 =>
 ((retargetlaw24_v [106] 16).bind fun y14 =>
 ((retargetlaw24_field [100] 1 0 1).bind fun y15 =>
 ((retargetlaw24_v [114, 46, 102] 1).bind fun y16 =>
 ((retargetlaw24_op 22 8 [y16]).bind fun y17 =>
 ((retargetlaw24_tiny_1 y17).bind fun y18 =>
 some (TMachine.mk [116, 105, 110, 121] 1 16 ([(TMachReg.mk [97] 8 (-1) 0), (TMachReg.mk [98] 8 (-1) 0), (TMachReg.mk [102] 1 (-1) 0)]) ([(TMachBank.mk [103] [0, 1])]) ([(TMachUnit.mk [117] 1)]) ([(TMachInstr.mk [97, 100, 100] 240 16 [y2, y3] ([y7, (TMachEffect.mk 1 (-1) 2 (TTerm.mk 0 0 0 [] 0 []) y9 (TTerm.mk 0 0 0 [] 0 []))]) 0 1 1 0), (TMachInstr.mk [108, 105] 240 32 [y10, y11] [y12] 0 1 1 0), (TMachInstr.mk [106, 117, 109, 112] 240 48 [y13] ([(TMachEffect.mk 3 0 0 (TTerm.mk 0 0 0 [] 0 []) y14 (TTerm.mk 0 0 0 [] 0 []))]) 0 1 1 0), (TMachInstr.mk [103, 101, 116] 240 64 [y15] [y18] 0 1 1 0)]))))))))))))))))))))
theorem retargetlaw24_tiny_ok {r : TMachine} (hF : retargetlaw24_tiny  = some r) : PCall Tryd.prog EE 18 [] fun v => v = .agg r.row := by
 refine PCall.of_fun EOK (F := Tryd.f18) 58 [.cell 0 27] (by kernel_rfl) rfl rfl rfl rfl (Nat.le_of_ble_eq_true rfl) (by simp) ?_
 simp only [slotsA]
 unfold retargetlaw24_tiny at hF
 refine rg fun K hK => ?_
 refine We rfl ?_; simp
 intro b0 _
 refine hK _ _ ?_; clear hK K
 refine rg fun K hK => ?_
 refine Wq (by simp; rfl) ?_
 refine hK _ _ ?_; clear hK K
 replace hF := bindO hF; obtain ⟨y1, hy1, hF⟩ := hF
 refine rg fun K hK => ?_
 refine Wc rfl rfl rfl (by first | (simp; rfl) | (simp; done)) (by simp; done) (retargetlaw24_v_ok hy1) ?_; rintro _ rfl; simp
 refine We rfl ?_; simp; refine .inl ?_
 refine Wq (by simp; rfl) ?_
 refine We rfl ?_; simp
 intro b2 hb2; simp [Fresh] at hb2; have hq2 : ¬b0 = b2 := by omega
 have q := And.intro hb2 hq2
 refine We rfl ?_; simp [q]
 refine hK _ _ ?_; clear hK K
 refine rg fun K hK => ?_
 refine wq ?_
 refine We rfl ?_; simp [q]
 intro b3 hb3; simp [Fresh] at hb3; have hq3 : ¬b2 = b3 ∧ ¬b0 = b3 := by omega
 have q := And.intro (And.intro q hb3) hq3
 refine We rfl ?_; simp [q]
 refine hK _ _ ?_; clear hK K
 replace hF := bindO hF; obtain ⟨y2, hy2, hF⟩ := hF
 replace hF := bindO hF; obtain ⟨y3, hy3, hF⟩ := hF
 replace hF := bindO hF; obtain ⟨y4, hy4, hF⟩ := hF
 replace hF := bindO hF; obtain ⟨y5, hy5, hF⟩ := hF
 replace hF := bindO hF; obtain ⟨y6, hy6, hF⟩ := hF
 replace hF := bindO hF; obtain ⟨y7, hy7, hF⟩ := hF
 replace hF := bindO hF; obtain ⟨y8, hy8, hF⟩ := hF
 replace hF := bindO hF; obtain ⟨y9, hy9, hF⟩ := hF
 replace hF := bindO hF; obtain ⟨y10, hy10, hF⟩ := hF
 replace hF := bindO hF; obtain ⟨y11, hy11, hF⟩ := hF
 replace hF := bindO hF; obtain ⟨y12, hy12, hF⟩ := hF
 replace hF := bindO hF; obtain ⟨y13, hy13, hF⟩ := hF
 replace hF := bindO hF; obtain ⟨y14, hy14, hF⟩ := hF
 replace hF := bindO hF; obtain ⟨y15, hy15, hF⟩ := hF
 replace hF := bindO hF; obtain ⟨y16, hy16, hF⟩ := hF
 replace hF := bindO hF; obtain ⟨y17, hy17, hF⟩ := hF
 replace hF := bindO hF; obtain ⟨y18, hy18, hF⟩ := hF
 refine Run.drawReg EOK mixed 49 [0, 1, 2, 3, 4, 5, 6, 7, 8, 12, 19, 28, 29, 41, 9, 10, 11, 13, 14, 15, 16, 17, 18, 20, 21, 22, 23, 24, 25, 26, 27, 30, 31, 32, 33, 34, 35, 36, 37, 38, 39, 40, 42, 43, 44, 45, 46, 47, 48] rfl (by kernel_rfl) fun K hK => ?_
 iterate 3 refine Pq rfl (by simp [q]; rfl) ?_
 iterate 2 refine Pl rfl (by simp [q]; rfl) ?_
 refine Pq rfl (by simp [q]; rfl) ?_
 refine Pl rfl (by simp [q]; rfl) ?_
 refine Pq rfl (by simp [q]; rfl) ?_
 refine Pl rfl (by simp [q]; rfl) ?_
 iterate 5 refine Pq rfl (by simp [q]; rfl) ?_
 refine Pc rfl rfl rfl rfl (by first | (simp [q]; rfl) | (simp [q]; done)) (by simp [q]; done) (retargetlaw24_field_ok hy2) ?_; rintro _ rfl; simp
 refine Pc rfl rfl rfl rfl (by first | (simp [q]; rfl) | (simp [q]; done)) (by simp [q]; done) (retargetlaw24_field_ok hy3) ?_; rintro _ rfl; simp
 refine Pl rfl (by simp [q]; rfl) ?_
 refine Pc rfl rfl rfl rfl (by first | (simp [q]; rfl) | (simp [q]; done)) (by simp [q]; done) (retargetlaw24_v_ok hy4) ?_; rintro _ rfl; simp
 refine Pc rfl rfl rfl rfl (by first | (simp [q]; rfl) | (simp [q]; done)) (by simp [q]; done) (retargetlaw24_v_ok hy5) ?_; rintro _ rfl; simp
 refine Pq rfl (by simp [q]; rfl) ?_
 refine Pc rfl rfl rfl rfl (by first | (simp [q]; rfl) | (simp [q]; done)) (by simp [q]; done) (retargetlaw24_op_ok hy6) ?_; rintro _ rfl; simp
 refine Pc rfl rfl rfl rfl (by first | (simp [q]; rfl) | (simp [q]; done)) (by simp [q]; done) (retargetlaw24_tiny_1_ok hy7) ?_; rintro _ rfl; simp
 refine Pc rfl rfl rfl rfl (by first | (simp [q]; rfl) | (simp [q]; done)) (by simp [q]; done) (retargetlaw24_v_ok hy8) ?_; rintro _ rfl; simp
 refine Pq rfl (by simp [q]; rfl) ?_
 refine Pc rfl rfl rfl rfl (by first | (simp [q]; rfl) | (simp [q]; done)) (by simp [q]; done) (retargetlaw24_op_ok hy9) ?_; rintro _ rfl; simp
 refine Pq rfl (by simp [q]; rfl) ?_
 refine Pl rfl (by simp [q]; rfl) ?_
 refine Pq rfl (by simp [q]; rfl) ?_
 refine Pc rfl rfl rfl rfl (by first | (simp [q]; rfl) | (simp [q]; done)) (by simp [q]; done) (retargetlaw24_field_ok hy10) ?_; rintro _ rfl; simp
 refine Pc rfl rfl rfl rfl (by first | (simp [q]; rfl) | (simp [q]; done)) (by simp [q]; done) (retargetlaw24_field_ok hy11) ?_; rintro _ rfl; simp
 refine Pl rfl (by simp [q]; rfl) ?_
 refine Pc rfl rfl rfl rfl (by first | (simp [q]; rfl) | (simp [q]; done)) (by simp [q]; done) (retargetlaw24_tiny_1_ok hy12) ?_; rintro _ rfl; simp
 refine Pl rfl (by simp [q]; rfl) ?_
 refine Pq rfl (by simp [q]; rfl) ?_
 refine Pc rfl rfl rfl rfl (by first | (simp [q]; rfl) | (simp [q]; done)) (by simp [q]; done) (retargetlaw24_field_ok hy13) ?_; rintro _ rfl; simp
 refine Pl rfl (by simp [q]; rfl) ?_
 refine Pc rfl rfl rfl rfl (by first | (simp [q]; rfl) | (simp [q]; done)) (by simp [q]; done) (retargetlaw24_v_ok hy14) ?_; rintro _ rfl; simp
 refine Pq rfl (by simp [q]; rfl) ?_
 refine Pl rfl (by simp [q]; rfl) ?_
 refine Pq rfl (by simp [q]; rfl) ?_
 refine Pc rfl rfl rfl rfl (by first | (simp [q]; rfl) | (simp [q]; done)) (by simp [q]; done) (retargetlaw24_field_ok hy15) ?_; rintro _ rfl; simp
 refine Pl rfl (by simp [q]; rfl) ?_
 refine Pc rfl rfl rfl rfl (by first | (simp [q]; rfl) | (simp [q]; done)) (by simp [q]; done) (retargetlaw24_v_ok hy16) ?_; rintro _ rfl; simp
 refine Pq rfl (by simp [q]; rfl) ?_
 refine Pc rfl rfl rfl rfl (by first | (simp [q]; rfl) | (simp [q]; done)) (by simp [q]; done) (retargetlaw24_op_ok hy17) ?_; rintro _ rfl; simp
 refine Pc rfl rfl rfl rfl (by first | (simp [q]; rfl) | (simp [q]; done)) (by simp [q]; done) (retargetlaw24_tiny_1_ok hy18) ?_; rintro _ rfl; simp
 refine Pl rfl (by simp [q]; rfl) ?_
 refine Pq rfl (by simp [q]; rfl) ?_
 refine Pl rfl (by simp [q]; rfl) ?_
 refine Pd ?_
 refine wq ?_
 refine We rfl ?_; simp [q]
 refine hK _ _ ?_; clear hK K
 refine Run.ret ?_
 obtain rfl := Option.some.inj hF
 simp [tupA, hb2, hq2, hb3, hq3]

/-! retargetlaw24_alive -/

def retargetlaw24_alive [Fx] : Option Bool :=
 ((retargetlaw24_tiny ).bind fun y1 =>
 ((pattern_Table y1).bind fun y2 =>
 (if ((!((!decide (y2.2 = 0)) || (!decide ((y2.1.length : Int) = 2)))) = true → (0 : Int) ≤ 0 ∧ 0 < (y2.1.length : Int)) then
 (if ((!(((!decide (y2.2 = 0)) || (!decide ((y2.1.length : Int) = 2))) || (!decide (((nth y2.1 0).instr) = 0)))) = true → (0 : Int) ≤ 1 ∧ 1 < (y2.1.length : Int)) then
 (if ((!((((!decide (y2.2 = 0)) || (!decide ((y2.1.length : Int) = 2))) || (!decide (((nth y2.1 0).instr) = 0))) || (!decide (((nth y2.1 1).instr) = 1)))) = true → (0 : Int) ≤ 0 ∧ 0 < (y2.1.length : Int)) then
 ((if (!((((!decide (y2.2 = 0)) || (!decide ((y2.1.length : Int) = 2))) || (!decide (((nth y2.1 0).instr) = 0))) || (!decide (((nth y2.1 1).instr) = 1)))) then retargetref24_SameInts ((nth y2.1 0).sides) [2] else some default).bind fun y10 =>
 (if ((!(((((!decide (y2.2 = 0)) || (!decide ((y2.1.length : Int) = 2))) || (!decide (((nth y2.1 0).instr) = 0))) || (!decide (((nth y2.1 1).instr) = 1))) || (!y10))) = true → (0 : Int) ≤ 1 ∧ 1 < (y2.1.length : Int)) then
 (if ((((((!decide (y2.2 = 0)) || (!decide ((y2.1.length : Int) = 2))) || (!decide (((nth y2.1 0).instr) = 0))) || (!decide (((nth y2.1 1).instr) = 1))) || (!y10)) || (!decide ((((nth y2.1 1).sides).length : Int) = 0))) then
 some false
 else
 ((retargetlaw24_v [120] 8).bind fun y14 =>
 ((retargetlaw24_op 3 8 [y14]).bind fun y15 =>
 ((retargetlaw24_v [121] 8).bind fun y16 =>
 ((retargetlaw24_tiny ).bind fun y17 =>
 ((retargetlaw24_op 5 8 [y15, y16]).bind fun y18 =>
 ((pattern_Match y17 0 y18).bind fun y19 =>
 ((retargetlaw24_tiny ).bind fun y20 =>
 ((retargetlaw24_number 65532).bind fun y21 =>
 ((pattern_Match y20 1 (TTerm.mk 21 8 0 [] 0 [y21])).bind fun y22 =>
 ((if (decide (y19.2 = 0)) then retargetref24_SameArgs y19.1 [(TPatternArg.mk 0 y15), (TPatternArg.mk 1 y16)] else some default).bind fun y24 =>
 ((if (((decide (y19.2 = 0)) && y24) && (decide (y22.2 = 0))) then retargetlaw24_number 65532 else some default).bind fun y27 =>
 ((if (((decide (y19.2 = 0)) && y24) && (decide (y22.2 = 0))) then retargetref24_SameArgs y22.1 [(TPatternArg.mk 1 y27)] else some default).bind fun y28 =>
 some ((((decide (y19.2 = 0)) && y24) && (decide (y22.2 = 0))) && y28))))))))))))))
 else none))
 else none)
 else none)
 else none)))
theorem retargetlaw24_alive_ok [Fx] {r : Bool} (hF : retargetlaw24_alive  = some r) : PCall Tryd.prog EE 6 [] fun v => v = .bool r := by
 refine PCall.of_fun EOK (F := Tryd.f6) 95 [.tmp 0] (by kernel_rfl) rfl rfl rfl rfl (Nat.le_of_ble_eq_true rfl) (by simp) ?_
 simp only [slotsA]
 unfold retargetlaw24_alive at hF
 refine rg fun K hK => ?_
 refine Wq (by simp; rfl) ?_
 refine hK _ _ ?_; clear hK K
 replace hF := bindO hF; obtain ⟨y1, hy1, hF⟩ := hF
 replace hF := bindO hF; obtain ⟨y2, hy2, hF⟩ := hF
 refine rg fun K hK => ?_
 refine Wc rfl rfl rfl (by first | (simp; rfl) | (simp; done)) (by simp; done) (retargetlaw24_tiny_ok hy1) ?_; rintro _ rfl; simp
 refine Wc rfl rfl rfl (by first | (simp; rfl) | (simp; done)) (by simp; done) (pattern_Table_ok hy2) ?_; rintro _ rfl; simp
 iterate 5 refine Wq (by simp; rfl) ?_
 refine hK _ _ ?_; clear hK K
 refine Run.seq ?_
 replace hF := chkO hF; obtain ⟨hc5, hF⟩ := hF
 replace hF := chkO hF; obtain ⟨hc7, hF⟩ := hF
 replace hF := chkO hF; obtain ⟨hc9, hF⟩ := hF
 replace hF := bindO hF; obtain ⟨y10, hy10, hF⟩ := hF
 replace hF := chkO hF; obtain ⟨hc12, hF⟩ := hF
 refine rg fun K hK => ?_
 iterate 3 refine Wq (by simp; rfl) ?_
 obtain ⟨g3, e3⟩ : ∃ g, g = (decide (y2.2 = 0)) := ⟨_, rfl⟩
 iterate 3 refine Wg rfl (b := g3) (by simp [e3]) (fun hg => by simp [hg]; rfl) ?_
 refine Wor (t := (!decide (y2.2 = 0))) (β := (!decide ((y2.1.length : Int) = 2))) (by simp) rfl (fun hh => by have h0 := e3.trans (nnot (notf hh)); simp [h0]) (by first | (simp; done) | (simp; rfl)) ?_
 refine Wq (by simp; rfl) ?_
 obtain ⟨g4, e4⟩ : ∃ g, g = (!((!decide (y2.2 = 0)) || (!decide ((y2.1.length : Int) = 2)))) := ⟨_, rfl⟩
 refine Wg rfl (b := g4) (by simp [e4]) (fun hg => by simp [hg]; rfl) ?_
 refine Wg rfl (b := g4) (by simp [e4]) (fun hg => evF_ix (tg := .none) (rw := TPattern.row) (xs := y2.1) (k := .i64) (n := 0) (by simp; rfl) rfl (by simp; rfl) (by simp [hg]) (by simp [hg]) (hc5 (e4.symm.trans hg)).1 (hc5 (e4.symm.trans hg)).2 (by simp)) ?_
 iterate 3 refine Wg rfl (b := g4) (by simp [e4]) (fun hg => by simp [hg]; rfl) ?_
 refine Wor (t := ((!decide (y2.2 = 0)) || (!decide ((y2.1.length : Int) = 2)))) (β := (!decide (((nth y2.1 0).instr) = 0))) (by simp) rfl (fun hh => by have h0 := e4.trans (notf hh); simp [h0]) (by first | (simp; done) | (simp; rfl)) ?_
 refine Wq (by simp; rfl) ?_
 obtain ⟨g6, e6⟩ : ∃ g, g = (!(((!decide (y2.2 = 0)) || (!decide ((y2.1.length : Int) = 2))) || (!decide (((nth y2.1 0).instr) = 0)))) := ⟨_, rfl⟩
 refine Wg rfl (b := g6) (by simp [e6]) (fun hg => by simp [hg]; rfl) ?_
 refine Wg rfl (b := g6) (by simp [e6]) (fun hg => evF_ix (tg := .none) (rw := TPattern.row) (xs := y2.1) (k := .i64) (n := 1) (by simp; rfl) rfl (by simp; rfl) (by simp [hg]) (by simp [hg]) (hc7 (e6.symm.trans hg)).1 (hc7 (e6.symm.trans hg)).2 (by simp)) ?_
 iterate 3 refine Wg rfl (b := g6) (by simp [e6]) (fun hg => by simp [hg]; rfl) ?_
 refine Wor (t := (((!decide (y2.2 = 0)) || (!decide ((y2.1.length : Int) = 2))) || (!decide (((nth y2.1 0).instr) = 0)))) (β := (!decide (((nth y2.1 1).instr) = 1))) (by simp) rfl (fun hh => by have h0 := e6.trans (notf hh); simp [h0]) (by first | (simp; done) | (simp; rfl)) ?_
 refine Wq (by simp; rfl) ?_
 obtain ⟨g8, e8⟩ : ∃ g, g = (!((((!decide (y2.2 = 0)) || (!decide ((y2.1.length : Int) = 2))) || (!decide (((nth y2.1 0).instr) = 0))) || (!decide (((nth y2.1 1).instr) = 1)))) := ⟨_, rfl⟩
 refine Wg rfl (b := g8) (by simp [e8]) (fun hg => by simp [hg]; rfl) ?_
 refine Wg rfl (b := g8) (by simp [e8]) (fun hg => evF_ix (tg := .none) (rw := TPattern.row) (xs := y2.1) (k := .i64) (n := 0) (by simp; rfl) rfl (by simp; rfl) (by simp [hg]) (by simp [hg]) (hc9 (e8.symm.trans hg)).1 (hc9 (e8.symm.trans hg)).2 (by simp)) ?_
 iterate 2 refine Wg rfl (b := g8) (by simp [e8]) (fun hg => by simp [hg]; rfl) ?_
 refine Wgb rfl (b := g8) (by simp [e8]) (fun hg => by simp [hg]; rfl) ?_
 refine Wgc rfl rfl (b := g8) (by simp [e8]) rfl rfl (fun hg => by simp [hg]; rfl) (fun hg => by simp [hg]; done) (fun hg => PCall.unfull (pre := [.list .none (((nth y2.1 0).sides).map (rwI .i64))]) (post := []) (retargetref24_SameInts_ok ((itet (e8.symm.trans hg)).symm.trans hy10))) ?_
 simp
 refine Wg rfl (b := g8) (by simp [e8]) (fun hg => by simp [hg]; rfl) ?_
 refine Wor (t := ((((!decide (y2.2 = 0)) || (!decide ((y2.1.length : Int) = 2))) || (!decide (((nth y2.1 0).instr) = 0))) || (!decide (((nth y2.1 1).instr) = 1)))) (β := (!y10)) (by simp) rfl (fun hh => by have h0 := e8.trans (notf hh); simp [h0]) (by first | (simp; done) | (simp; rfl)) ?_
 refine Wq (by simp; rfl) ?_
 obtain ⟨g11, e11⟩ : ∃ g, g = (!(((((!decide (y2.2 = 0)) || (!decide ((y2.1.length : Int) = 2))) || (!decide (((nth y2.1 0).instr) = 0))) || (!decide (((nth y2.1 1).instr) = 1))) || (!y10))) := ⟨_, rfl⟩
 refine Wg rfl (b := g11) (by simp [e11]) (fun hg => by simp [hg]; rfl) ?_
 refine Wg rfl (b := g11) (by simp [e11]) (fun hg => evF_ix (tg := .none) (rw := TPattern.row) (xs := y2.1) (k := .i64) (n := 1) (by simp; rfl) rfl (by simp; rfl) (by simp [hg]) (by simp [hg]) (hc12 (e11.symm.trans hg)).1 (hc12 (e11.symm.trans hg)).2 (by simp)) ?_
 iterate 4 refine Wg rfl (b := g11) (by simp [e11]) (fun hg => by simp [hg]; rfl) ?_
 refine Wor (t := (((((!decide (y2.2 = 0)) || (!decide ((y2.1.length : Int) = 2))) || (!decide (((nth y2.1 0).instr) = 0))) || (!decide (((nth y2.1 1).instr) = 1))) || (!y10))) (β := (!decide ((((nth y2.1 1).sides).length : Int) = 0))) (by simp) rfl (fun hh => by have h0 := e11.trans (notf hh); simp [h0]) (by first | (simp; done) | (simp; rfl)) ?_
 refine hK _ _ ?_; clear hK K
 refine Run.testEnd (b := ((((((!decide (y2.2 = 0)) || (!decide ((y2.1.length : Int) = 2))) || (!decide (((nth y2.1 0).instr) = 0))) || (!decide (((nth y2.1 1).instr) = 1))) || (!y10)) || (!decide ((((nth y2.1 1).sides).length : Int) = 0)))) (by simp) (fun h13 => ?_) (fun h13 => ?_)
 ·
  rw [itet h13] at hF; try simp at h13
  refine rg fun K hK => ?_
  have q := h13
  refine wq ?_
  refine hK _ _ ?_; clear hK K
  refine Run.ret ?_
  obtain rfl := Option.some.inj hF
  simp [tupA, h13]
 rw [itef h13] at hF; try simp at h13
 refine Run.skip ?_
 show Run _ _ _ _ _ _
 replace hF := bindO hF; obtain ⟨y14, hy14, hF⟩ := hF
 replace hF := bindO hF; obtain ⟨y15, hy15, hF⟩ := hF
 replace hF := bindO hF; obtain ⟨y16, hy16, hF⟩ := hF
 refine rg fun K hK => ?_
 have q := h13
 refine wcq (retargetlaw24_v_ok hy14) ?_; rintro _ rfl; simp
 refine We rfl ?_; simp [q]; refine .inr ?_
 refine wcq (retargetlaw24_op_ok hy15) ?_; rintro _ rfl; simp
 refine wcq (retargetlaw24_v_ok hy16) ?_; rintro _ rfl; simp
 refine We rfl ?_; simp [q]
 intro b3 _
 refine We rfl ?_; simp [q]
 intro b4 hb4; simp [Fresh] at hb4; have hq4 : ¬b3 = b4 := by omega
 have q := And.intro (And.intro q hb4) hq4
 iterate 2 refine We rfl ?_; simp [q]
 refine hK _ _ ?_; clear hK K
 replace hF := bindO hF; obtain ⟨y17, hy17, hF⟩ := hF
 replace hF := bindO hF; obtain ⟨y18, hy18, hF⟩ := hF
 replace hF := bindO hF; obtain ⟨y19, hy19, hF⟩ := hF
 refine Run.drawReg EOK mixed 10 [1, 2, 3, 0, 4, 5, 6, 7, 8, 9] rfl (by kernel_rfl) fun K hK => ?_
 iterate 3 refine Pq rfl (by simp [q]; rfl) ?_
 refine Pc rfl rfl rfl rfl (by first | (simp [q]; rfl) | (simp [q]; done)) (by simp [q]; done) (retargetlaw24_tiny_ok hy17) ?_; rintro _ rfl; simp
 refine Pc rfl rfl rfl rfl (by first | (simp [q]; rfl) | (simp [q]; done)) (by simp [q]; done) (retargetlaw24_op_ok hy18) ?_; rintro _ rfl; simp
 refine Pc rfl rfl rfl rfl (by first | (simp [q]; rfl) | (simp [q]; done)) (by simp [q]; done) (pattern_Match_ok hy19) ?_; rintro _ rfl; simp
 iterate 4 refine Pq rfl (by simp [q]; rfl) ?_
 refine Pd ?_
 refine wq ?_
 refine hK _ _ ?_; clear hK K
 replace hF := bindO hF; obtain ⟨y20, hy20, hF⟩ := hF
 replace hF := bindO hF; obtain ⟨y21, hy21, hF⟩ := hF
 replace hF := bindO hF; obtain ⟨y22, hy22, hF⟩ := hF
 refine rg fun K hK => ?_
 refine wcq (retargetlaw24_tiny_ok hy20) ?_; rintro _ rfl; simp
 refine wcq (retargetlaw24_number_ok hy21) ?_; rintro _ rfl; simp
 refine We rfl ?_; simp [q]; refine .inl ?_
 refine wq ?_
 refine wcq (pattern_Match_ok hy22) ?_; rintro _ rfl; simp
 iterate 5 refine wq ?_
 refine hK _ _ ?_; clear hK K
 replace hF := bindO hF; obtain ⟨y24, hy24, hF⟩ := hF
 replace hF := bindO hF; obtain ⟨y27, hy27, hF⟩ := hF
 replace hF := bindO hF; obtain ⟨y28, hy28, hF⟩ := hF
 refine rg fun K hK => ?_
 iterate 3 refine wq ?_
 obtain ⟨g23, e23⟩ : ∃ g, g = (decide (y19.2 = 0)) := ⟨_, rfl⟩
 iterate 5 refine Wg rfl (b := g23) (by simp [q, e23]) (fun hg => by simp [q, hg]; rfl) ?_
 refine Wgb rfl (b := g23) (by simp [q, e23]) (fun hg => by simp [q, hg]; rfl) ?_
 refine Wgc rfl rfl (b := g23) (by simp [q, e23]) rfl rfl (fun hg => by simp [q, hg]; rfl) (fun hg => by simp [q, hg]; done) (fun hg => PCall.unfull (pre := [.list .none (y19.1.map TPatternArg.row)]) (post := []) (retargetref24_SameArgs_ok ((itet (e23.symm.trans hg)).symm.trans hy24))) ?_
 simp
 refine Wand (t := (decide (y19.2 = 0))) (β := y24) (by simp [q]) rfl (fun hh => by have h0 := e23.trans hh; simp [q, h0]) (by first | (simp; done) | (simp; rfl)) ?_
 refine wq ?_
 obtain ⟨g25, e25⟩ : ∃ g, g = ((decide (y19.2 = 0)) && y24) := ⟨_, rfl⟩
 iterate 2 refine Wg rfl (b := g25) (by simp [q, e25]) (fun hg => by simp [q, hg]; rfl) ?_
 refine Wand (t := ((decide (y19.2 = 0)) && y24)) (β := (decide (y22.2 = 0))) (by simp [q]) rfl (fun hh => by have h0 := e25.trans hh; simp [q, h0]) (by first | (simp; done) | (simp; rfl)) ?_
 refine wq ?_
 obtain ⟨g26, e26⟩ : ∃ g, g = (((decide (y19.2 = 0)) && y24) && (decide (y22.2 = 0))) := ⟨_, rfl⟩
 refine Wg rfl (b := g26) (by simp [q, e26]) (fun hg => by simp [q, hg]; rfl) ?_
 refine Wgc rfl rfl (b := g26) (by simp [q, e26]) rfl rfl (fun hg => by simp [q, hg]; rfl) (fun hg => by simp [q, hg]; done) (fun hg => retargetlaw24_number_ok ((itet (e26.symm.trans hg)).symm.trans hy27)) ?_
 simp
 refine Wg rfl (b := g26) (by simp [q, e26]) (fun hg => by simp [q, hg]; rfl) ?_
 refine Wgb rfl (b := g26) (by simp [q, e26]) (fun hg => by simp [q, hg]; rfl) ?_
 refine Wgc rfl rfl (b := g26) (by simp [q, e26]) rfl rfl (fun hg => by simp [q, hg]; rfl) (fun hg => by simp [q, hg]; done) (fun hg => PCall.unfull (pre := [.list .none (y22.1.map TPatternArg.row)]) (post := []) (retargetref24_SameArgs_ok ((itet (e26.symm.trans hg)).symm.trans hy28))) ?_
 simp
 refine Wand (t := (((decide (y19.2 = 0)) && y24) && (decide (y22.2 = 0)))) (β := y28) (by simp [q]) rfl (fun hh => by have h0 := e26.trans hh; simp [q, h0]) (by first | (simp; done) | (simp; rfl)) ?_
 refine wq ?_
 refine hK _ _ ?_; clear hK K
 refine Run.ret ?_
 obtain rfl := Option.some.inj hF
 simp [tupA, h13, hb4, hq4]

/-! retargetlaw24_alive1 -/
set_option maxRecDepth 100000 in
theorem retargetlaw24_alive_run : @retargetlaw24_alive (Fx.fuel 200) = some true := by kernel_rfl
def retargetlaw24_alive1 : Option Bool := some true
theorem retargetlaw24_alive1_ok {r : Bool} (hF : retargetlaw24_alive1 = some r) : PCall Tryd.prog EE 6 [] fun v => v = .bool r := by
 cases hF
 exact @retargetlaw24_alive_ok (Fx.fuel 200) _ retargetlaw24_alive_run

/-! retargetlaw24_PatternTied -/
def retargetlaw24_PatternTied.j0 [Fx] (m_0 : TMachine) (y5 : List TPattern × Int) (i_x10 : Int) (k_x30 : Int) (at_x34 : Int) : Option ((Int × Int) ⊕ (Int ⊕ Bool)) :=
 (if (0 : Int) ≤ k_x30 ∧ k_x30 < (((nth m_0.instrs ((nth y5.1 i_x10).instr)).operands).length : Int) then
 (if (decide (((nth ((nth m_0.instrs ((nth y5.1 i_x10).instr)).operands) k_x30).kind) = 4)) then
 some (.inr (.inr false))
 else
 some (.inl (at_x34, (IntKind.i64.wrap (k_x30 + 1)))))
 else none)
def retargetlaw24_PatternTied.l1 [Fx] (m_0 : TMachine) (y5 : List TPattern × Int) (i_x10 : Int) (y21 : List Int × Int) : Int × Int → Option ((Int × Int) ⊕ (Int ⊕ Bool)) := fun v =>
 match v with
 | (at_x29, k_x30) =>
 (if (decide (k_x30 < (((nth m_0.instrs ((nth y5.1 i_x10).instr)).operands).length : Int))) then
 (if ((decide (at_x29 < (y21.1.length : Int))) = true → (0 : Int) ≤ at_x29 ∧ at_x29 < (y21.1.length : Int)) then
 (if ((decide (at_x29 < (y21.1.length : Int))) && (decide ((nth y21.1 at_x29) = k_x30))) then
 retargetlaw24_PatternTied.j0 m_0 y5 i_x10 k_x30 (IntKind.i64.wrap (at_x29 + 1))
 else
 (if (!decide (k_x30 = ((nth y5.1 i_x10).out))) then
 some (.inr (.inr false))
 else
 retargetlaw24_PatternTied.j0 m_0 y5 i_x10 k_x30 at_x29))
 else none)
 else
 (Option.map Sum.inr (if (!decide (at_x29 = (y21.1.length : Int))) then
 some (.inr false)
 else
 some (.inl (IntKind.i64.wrap (i_x10 + 1))))))
def retargetlaw24_PatternTied.l0 [Fx] (m_0 : TMachine) (y1 : Bool) (y5 : List TPattern × Int) : Int → Option (Int ⊕ Bool) := fun v =>
 match v with
 | i_x10 =>
 (if (decide (i_x10 < (y5.1.length : Int))) then
 (if (0 : Int) ≤ i_x10 ∧ i_x10 < (y5.1.length : Int) then
 (if (((!((decide (((nth y5.1 i_x10).instr) < 0)) || (decide ((m_0.instrs.length : Int) ≤ ((nth y5.1 i_x10).instr))))) && (decide (0 < i_x10))) = true → (0 : Int) ≤ (IntKind.i64.wrap (i_x10 - 1)) ∧ (IntKind.i64.wrap (i_x10 - 1)) < (y5.1.length : Int)) then
 ((if (!(((decide (((nth y5.1 i_x10).instr) < 0)) || (decide ((m_0.instrs.length : Int) ≤ ((nth y5.1 i_x10).instr)))) || ((decide (0 < i_x10)) && (decide (((nth y5.1 i_x10).instr) ≤ ((nth y5.1 (IntKind.i64.wrap (i_x10 - 1))).instr)))))) then term_Check ((nth y5.1 i_x10).term) else some default).bind fun y19 =>
 (if ((((decide (((nth y5.1 i_x10).instr) < 0)) || (decide ((m_0.instrs.length : Int) ≤ ((nth y5.1 i_x10).instr)))) || ((decide (0 < i_x10)) && (decide (((nth y5.1 i_x10).instr) ≤ ((nth y5.1 (IntKind.i64.wrap (i_x10 - 1))).instr))))) || (!decide (y19 = 0))) then
 some (.inr false)
 else
 ((pattern_Inputs m_0 i_x10).bind fun y21 =>
 (if (0 : Int) ≤ ((nth y5.1 i_x10).instr) ∧ ((nth y5.1 i_x10).instr) < (m_0.instrs.length : Int) then
 (if ((!(((!decide (y21.2 = 0)) || (decide (((nth y5.1 i_x10).out) < 0))) || (decide ((((nth m_0.instrs ((nth y5.1 i_x10).instr)).operands).length : Int) ≤ ((nth y5.1 i_x10).out))))) = true → (0 : Int) ≤ ((nth y5.1 i_x10).out) ∧ ((nth y5.1 i_x10).out) < (((nth m_0.instrs ((nth y5.1 i_x10).instr)).operands).length : Int)) then
 (if (((((!decide (y21.2 = 0)) || (decide (((nth y5.1 i_x10).out) < 0))) || (decide ((((nth m_0.instrs ((nth y5.1 i_x10).instr)).operands).length : Int) ≤ ((nth y5.1 i_x10).out)))) || (!decide (((nth ((nth m_0.instrs ((nth y5.1 i_x10).instr)).operands) ((nth y5.1 i_x10).out)).kind) = 1))) || (!decide ((IntKind.i64.wrap ((((nth y5.1 i_x10).sides).length : Int) + 1)) = (((nth m_0.instrs ((nth y5.1 i_x10).instr)).effects).length : Int)))) then
 some (.inr false)
 else
 Fx.fx (retargetlaw24_PatternTied.l1 m_0 y5 i_x10 y21) (0, 0))
 else none)
 else none))))
 else none)
 else none)
 else
 (Option.map Sum.inr (some y1)))
def retargetlaw24_PatternTied [Fx] (m_0 : TMachine) : Option Bool :=
 ((retargetlaw24_alive1 ).bind fun y1 =>
 ((retargetref08_Great m_0).bind fun y2 =>
 (if (y2 || (!y1)) then
 some y1
 else
 ((pattern_Table m_0).bind fun y5 =>
 (if (!decide (y5.2 = 0)) then
 ((if y1 then machine_Check m_0 else some default).bind fun y8 =>
 some ((y1 && (decide (y5.2 = y8))) && (decide ((y5.1.length : Int) = 0))))
 else
 Fx.fx (retargetlaw24_PatternTied.l0 m_0 y1 y5) 0)))))
theorem retargetlaw24_PatternTied_ok [Fx] {m_0 : TMachine} {r : Bool} (hF : retargetlaw24_PatternTied m_0 = some r) : PCall Tryd.prog EE 3 [.agg m_0.row] fun v => v = .bool r := by
 refine PCall.of_fun EOK (F := Tryd.f3) 166 [.tmp 2] (by kernel_rfl) rfl rfl rfl rfl (Nat.le_of_ble_eq_true rfl) (by simp) ?_
 simp only [slotsA]
 unfold retargetlaw24_PatternTied at hF
 refine rg fun K hK => ?_
 refine We rfl ?_; simp
 intro b1 _
 refine Wq (by simp; rfl) ?_
 refine hK _ _ ?_; clear hK K
 replace hF := bindO hF; obtain ⟨y1, hy1, hF⟩ := hF
 refine rg fun K hK => ?_
 refine Wc rfl rfl rfl (by first | (simp; rfl) | (simp; done)) (by simp; done) (retargetlaw24_alive1_ok hy1) ?_; rintro _ rfl; simp
 refine Wq (by simp; rfl) ?_
 refine hK _ _ ?_; clear hK K
 refine Run.seq ?_
 replace hF := bindO hF; obtain ⟨y2, hy2, hF⟩ := hF
 refine rg fun K hK => ?_
 refine Wq (by simp; rfl) ?_
 refine Wc rfl rfl rfl (by first | (simp; rfl) | (simp; done)) (by simp; done) (retargetref08_Great_ok hy2) ?_; rintro _ rfl; simp
 refine Wq (by simp; rfl) ?_
 obtain ⟨g3, e3⟩ : ∃ g, g = (!y2) := ⟨_, rfl⟩
 iterate 2 refine Wg rfl (b := g3) (by simp [e3]) (fun hg => by simp [hg]; rfl) ?_
 refine Wor (t := y2) (β := (!y1)) (by simp) rfl (fun hh => by have h0 := e3.trans (notf hh); simp [h0]) (by first | (simp; done) | (simp; rfl)) ?_
 refine hK _ _ ?_; clear hK K
 refine Run.testEnd (b := (y2 || (!y1))) (by simp) (fun h4 => ?_) (fun h4 => ?_)
 ·
  rw [itet h4] at hF; try simp at h4
  refine rg fun K hK => ?_
  have q := h4
  iterate 2 refine wq ?_
  refine hK _ _ ?_; clear hK K
  refine Run.ret ?_
  obtain rfl := Option.some.inj hF
  simp [tupA, h4]
 rw [itef h4] at hF; try simp at h4
 refine Run.skip ?_
 show Run _ _ _ _ _ _
 replace hF := bindO hF; obtain ⟨y5, hy5, hF⟩ := hF
 refine rg fun K hK => ?_
 have q := h4
 refine wq ?_
 refine wcq (pattern_Table_ok hy5) ?_; rintro _ rfl; simp
 iterate 5 refine wq ?_
 refine hK _ _ ?_; clear hK K
 refine Run.seq ?_
 refine rg fun K hK => ?_
 iterate 2 refine wq ?_
 refine hK _ _ ?_; clear hK K
 refine Run.testEnd (b := (!decide (y5.2 = 0))) (by simp [q]) (fun h6 => ?_) (fun h6 => ?_)
 ·
  rw [itet h6] at hF; try simp at h6
  replace hF := bindO hF; obtain ⟨y8, hy8, hF⟩ := hF
  refine rg fun K hK => ?_
  have q := And.intro q h6
  iterate 2 refine wq ?_
  obtain ⟨g7, e7⟩ : ∃ g, g = y1 := ⟨_, rfl⟩
  iterate 2 refine Wg rfl (b := g7) (by simp [q, e7]) (fun hg => by simp [q, hg]; rfl) ?_
  refine Wgc rfl rfl (b := g7) (by simp [q, e7]) rfl rfl (fun hg => by simp [q, hg]; rfl) (fun hg => by simp [q, hg]; done) (fun hg => machine_Check_ok ((itet (e7.symm.trans hg)).symm.trans hy8)) ?_
  simp
  refine Wg rfl (b := g7) (by simp [q, e7]) (fun hg => by simp [q, hg]; rfl) ?_
  refine Wand (t := y1) (β := (decide (y5.2 = y8))) (by simp [q]) rfl (fun hh => by have h0 := e7.trans hh; simp [q, h0]) (by first | (simp; done) | (simp; rfl)) ?_
  refine wq ?_
  obtain ⟨g9, e9⟩ : ∃ g, g = (y1 && (decide (y5.2 = y8))) := ⟨_, rfl⟩
  iterate 3 refine Wg rfl (b := g9) (by simp [q, e9]) (fun hg => by simp [q, hg]; rfl) ?_
  refine Wand (t := (y1 && (decide (y5.2 = y8)))) (β := (decide ((y5.1.length : Int) = 0))) (by simp [q]) rfl (fun hh => by have h0 := e9.trans hh; simp [q, h0]) (by first | (simp; done) | (simp; rfl)) ?_
  refine wq ?_
  refine hK _ _ ?_; clear hK K
  refine Run.ret ?_
  obtain rfl := Option.some.inj hF
  simp [tupA, h4, h6]
 rw [itef h6] at hF; try simp at h6
 refine Run.skip ?_
 show Run _ _ _ _ _ _
 refine Run.seq ?_
 refine rg fun K hK => ?_
 have q := And.intro q h6
 refine wq ?_
 refine hK _ _ ?_; clear hK K
 refine Run.block ?_
 refine Run.fixX hF [1, 3, 4, 6] [] [b1] [] (by simp) (by simp) (by simp) (fun i_x10 f σ => f = ⟨166, [(1, .ptr b1 0), (3, .bool y1), (4, .list .none (y5.1.map TPattern.row)), (6, .int .i64 i_x10)], [], []⟩ ∧ σ = ⟨[(b1, m_0.row)], []⟩) ?_ ?_
 ·
  exact ⟨by simp [q, Fm.rst, nn, nn1], by simp [q, St.only, nn1]⟩
 clear hF
 rintro i_x10 _ _ yy1 ⟨rfl, rfl⟩ hF hR1
 simp only [retargetlaw24_PatternTied.l0] at hF
 refine Run.seq ?_
 refine rg fun K hK => ?_
 iterate 4 refine Wq (by simp; rfl) ?_
 refine hK _ _ ?_; clear hK K
 refine Run.testEnd (b := (decide (i_x10 < (y5.1.length : Int)))) (by simp) (fun h12 => ?_) (fun h12 => ?_)
 ·
  rw [itet h12] at hF; try simp at h12
  refine Run.skip ?_
  show Run _ _ _ _ _ _
  refine Run.seq ?_
  refine Run.block ?_
  replace hF := chkO hF; obtain ⟨hc13, hF⟩ := hF
  refine rg fun K hK => ?_
  have q := h12
  iterate 2 refine wq ?_
  refine Wq (evF_ix (tg := .none) (rw := TPattern.row) (xs := y5.1) (k := .i64) (n := i_x10) (by simp; rfl) rfl (by simp; rfl) (by simp [q]) (by simp [q]) hc13.1 hc13.2 (by simp)) ?_
  refine wq ?_
  refine We rfl ?_; simp [q]
  intro b7 hb7; simp [Fresh] at hb7; have hq7 : ¬b1 = b7 := by omega
  have q := And.intro (And.intro q hb7) hq7
  refine We rfl ?_; simp [q]
  refine hK _ _ ?_; clear hK K
  refine Run.seq ?_
  replace hF := chkO hF; obtain ⟨hc17, hF⟩ := hF
  replace hF := bindO hF; obtain ⟨y19, hy19, hF⟩ := hF
  refine Run.drawReg EOK mixed 23 [0, 1, 2, 3, 4, 5, 6, 7, 8, 9, 10, 11, 12, 13, 14, 15, 16, 17, 18, 19, 20, 21, 22] rfl (by kernel_rfl) fun K hK => ?_
  iterate 4 refine Pq rfl (by simp [q]; rfl) ?_
  obtain ⟨g14, e14⟩ : ∃ g, g = (!(decide (((nth y5.1 i_x10).instr) < 0))) := ⟨_, rfl⟩
  iterate 6 refine Pg rfl rfl (b := g14) (by simp [q, e14]) (fun hg => by simp [q, hg]; rfl) ?_
  refine Por rfl (t := (decide (((nth y5.1 i_x10).instr) < 0))) (β := (decide ((m_0.instrs.length : Int) ≤ ((nth y5.1 i_x10).instr)))) (by simp [q]) rfl (fun hh => by have h0 := e14.trans (notf hh); simp [q, h0]) (by first | (simp; done) | (simp; rfl)) ?_
  refine Pq rfl (by simp [q]; rfl) ?_
  obtain ⟨g15, e15⟩ : ∃ g, g = (!((decide (((nth y5.1 i_x10).instr) < 0)) || (decide ((m_0.instrs.length : Int) ≤ ((nth y5.1 i_x10).instr))))) := ⟨_, rfl⟩
  iterate 3 refine Pg rfl rfl (b := g15) (by simp [q, e15]) (fun hg => by simp [q, hg]; rfl) ?_
  obtain ⟨g16, e16⟩ : ∃ g, g = ((!((decide (((nth y5.1 i_x10).instr) < 0)) || (decide ((m_0.instrs.length : Int) ≤ ((nth y5.1 i_x10).instr))))) && (decide (0 < i_x10))) := ⟨_, rfl⟩
  have w16_15 : g16 = true → g15 = true := fun h => e15.trans (and1 (e16.symm.trans h))
  iterate 3 refine Pg rfl rfl (b := g16) (by simp [q, e16, e15]) (fun hg => by simp [q, hg, w16_15 hg]; rfl) ?_
  refine Pg rfl rfl (b := g16) (by simp [q, e16, e15]) (fun hg => evP_of (evF_ix (tg := .none) (rw := TPattern.row) (xs := y5.1) (k := .i64) (n := (IntKind.i64.wrap (i_x10 - 1))) (by simp; rfl) rfl (by simp; rfl) (by simp [q, hg, w16_15 hg]) (by simp [q, hg, w16_15 hg]) (hc17 (e16.symm.trans hg)).1 (hc17 (e16.symm.trans hg)).2 (by simp))) ?_
  iterate 4 refine Pg rfl rfl (b := g16) (by simp [q, e16, e15]) (fun hg => by simp [q, hg, w16_15 hg]; rfl) ?_
  refine Pd ?_
  refine Wg rfl (b := g16) (by simp [q, e16, e15]) (fun hg => by simp [q, hg, w16_15 hg]; rfl) ?_
  refine Wgand rfl (b := g15) (t := (decide (0 < i_x10))) (β := (decide (((nth y5.1 i_x10).instr) ≤ ((nth y5.1 (IntKind.i64.wrap (i_x10 - 1))).instr)))) (by simp [q, e15]) (fun hg => by simp [q, hg]; done) rfl (fun hg hh => by have h0 := e16.trans (andI (e15.symm.trans hg) hh); simp [q, h0]) (by first | (simp; done) | (simp; rfl)) ?_
  refine Wor (t := ((decide (((nth y5.1 i_x10).instr) < 0)) || (decide ((m_0.instrs.length : Int) ≤ ((nth y5.1 i_x10).instr))))) (β := ((decide (0 < i_x10)) && (decide (((nth y5.1 i_x10).instr) ≤ ((nth y5.1 (IntKind.i64.wrap (i_x10 - 1))).instr))))) (by simp [q]) rfl (fun hh => by have h0 := e15.trans (notf hh); simp [q, h0]) (by first | (simp; done) | (simp; rfl)) ?_
  refine wq ?_
  obtain ⟨g18, e18⟩ : ∃ g, g = (!(((decide (((nth y5.1 i_x10).instr) < 0)) || (decide ((m_0.instrs.length : Int) ≤ ((nth y5.1 i_x10).instr)))) || ((decide (0 < i_x10)) && (decide (((nth y5.1 i_x10).instr) ≤ ((nth y5.1 (IntKind.i64.wrap (i_x10 - 1))).instr)))))) := ⟨_, rfl⟩
  iterate 2 refine Wg rfl (b := g18) (by simp [q, e18]) (fun hg => by simp [q, hg]; rfl) ?_
  refine Wgc rfl rfl (b := g18) (by simp [q, e18]) rfl rfl (fun hg => by simp [q, hg]; rfl) (fun hg => by simp [q, hg]; done) (fun hg => term_Check_ok ((itet (e18.symm.trans hg)).symm.trans hy19)) ?_
  simp
  refine Wg rfl (b := g18) (by simp [q, e18]) (fun hg => by simp [q, hg]; rfl) ?_
  refine Wor (t := (((decide (((nth y5.1 i_x10).instr) < 0)) || (decide ((m_0.instrs.length : Int) ≤ ((nth y5.1 i_x10).instr)))) || ((decide (0 < i_x10)) && (decide (((nth y5.1 i_x10).instr) ≤ ((nth y5.1 (IntKind.i64.wrap (i_x10 - 1))).instr)))))) (β := (!decide (y19 = 0))) (by simp [q]) rfl (fun hh => by have h0 := e18.trans (notf hh); simp [q, h0]) (by first | (simp; done) | (simp; rfl)) ?_
  refine hK _ _ ?_; clear hK K
  refine Run.testEnd (b := ((((decide (((nth y5.1 i_x10).instr) < 0)) || (decide ((m_0.instrs.length : Int) ≤ ((nth y5.1 i_x10).instr)))) || ((decide (0 < i_x10)) && (decide (((nth y5.1 i_x10).instr) ≤ ((nth y5.1 (IntKind.i64.wrap (i_x10 - 1))).instr))))) || (!decide (y19 = 0)))) (by simp [q]) (fun h20 => ?_) (fun h20 => ?_)
  ·
   rw [itet h20] at hF; try simp at h20
   refine rg fun K hK => ?_
   have q := And.intro q h20
   refine wq ?_
   refine hK _ _ ?_; clear hK K
   refine Run.ret ?_
   have hv := hR1 _ (Option.some.inj hF).symm
   subst hv
   simp [tupA, h12, hb7, hq7, h20]
  rw [itef h20] at hF; try simp at h20
  refine Run.skip ?_
  show Run _ _ _ _ _ _
  replace hF := bindO hF; obtain ⟨y21, hy21, hF⟩ := hF
  refine rg fun K hK => ?_
  have q := And.intro q h20
  iterate 2 refine wq ?_
  refine wcq (pattern_Inputs_ok hy21) ?_; rintro _ rfl; simp
  iterate 5 refine wq ?_
  refine hK _ _ ?_; clear hK K
  replace hF := chkO hF; obtain ⟨hc22, hF⟩ := hF
  refine rg fun K hK => ?_
  iterate 4 refine wq ?_
  refine Wq (evF_ix (tg := .none) (rw := TMachInstr.row) (xs := m_0.instrs) (k := .i64) (n := ((nth y5.1 i_x10).instr)) (by simp; rfl) rfl (by simp; rfl) (by simp [q]) (by simp [q]) hc22.1 hc22.2 (by simp)) ?_
  refine wq ?_
  refine We rfl ?_; simp [q]
  intro b10 hb10; simp [Fresh] at hb10; have hq10 : ¬b7 = b10 ∧ ¬b1 = b10 := by omega
  have q := And.intro (And.intro q hb10) hq10
  refine We rfl ?_; simp [q]
  refine hK _ _ ?_; clear hK K
  refine Run.seq ?_
  replace hF := chkO hF; obtain ⟨hc26, hF⟩ := hF
  refine rg fun K hK => ?_
  iterate 3 refine wq ?_
  obtain ⟨g23, e23⟩ : ∃ g, g = (decide (y21.2 = 0)) := ⟨_, rfl⟩
  iterate 3 refine Wg rfl (b := g23) (by simp [q, e23]) (fun hg => by simp [q, hg]; rfl) ?_
  refine Wor (t := (!decide (y21.2 = 0))) (β := (decide (((nth y5.1 i_x10).out) < 0))) (by simp [q]) rfl (fun hh => by have h0 := e23.trans (nnot (notf hh)); simp [q, h0]) (by first | (simp; done) | (simp; rfl)) ?_
  refine wq ?_
  obtain ⟨g24, e24⟩ : ∃ g, g = (!((!decide (y21.2 = 0)) || (decide (((nth y5.1 i_x10).out) < 0)))) := ⟨_, rfl⟩
  iterate 6 refine Wg rfl (b := g24) (by simp [q, e24]) (fun hg => by simp [q, hg]; rfl) ?_
  refine Wor (t := ((!decide (y21.2 = 0)) || (decide (((nth y5.1 i_x10).out) < 0)))) (β := (decide ((((nth m_0.instrs ((nth y5.1 i_x10).instr)).operands).length : Int) ≤ ((nth y5.1 i_x10).out)))) (by simp [q]) rfl (fun hh => by have h0 := e24.trans (notf hh); simp [q, h0]) (by first | (simp; done) | (simp; rfl)) ?_
  refine wq ?_
  obtain ⟨g25, e25⟩ : ∃ g, g = (!(((!decide (y21.2 = 0)) || (decide (((nth y5.1 i_x10).out) < 0))) || (decide ((((nth m_0.instrs ((nth y5.1 i_x10).instr)).operands).length : Int) ≤ ((nth y5.1 i_x10).out))))) := ⟨_, rfl⟩
  iterate 4 refine Wg rfl (b := g25) (by simp [q, e25]) (fun hg => by simp [q, hg]; rfl) ?_
  refine Wg rfl (b := g25) (by simp [q, e25]) (fun hg => evF_ix (tg := .none) (rw := TMachOperand.row) (xs := ((nth m_0.instrs ((nth y5.1 i_x10).instr)).operands)) (k := .i64) (n := ((nth y5.1 i_x10).out)) (by simp; rfl) rfl (by simp; rfl) (by simp [q, hg]) (by simp [q, hg]) (hc26 (e25.symm.trans hg)).1 (hc26 (e25.symm.trans hg)).2 (by simp)) ?_
  iterate 3 refine Wg rfl (b := g25) (by simp [q, e25]) (fun hg => by simp [q, hg]; rfl) ?_
  refine Wor (t := (((!decide (y21.2 = 0)) || (decide (((nth y5.1 i_x10).out) < 0))) || (decide ((((nth m_0.instrs ((nth y5.1 i_x10).instr)).operands).length : Int) ≤ ((nth y5.1 i_x10).out))))) (β := (!decide (((nth ((nth m_0.instrs ((nth y5.1 i_x10).instr)).operands) ((nth y5.1 i_x10).out)).kind) = 1))) (by simp [q]) rfl (fun hh => by have h0 := e25.trans (notf hh); simp [q, h0]) (by first | (simp; done) | (simp; rfl)) ?_
  refine wq ?_
  obtain ⟨g27, e27⟩ : ∃ g, g = (!((((!decide (y21.2 = 0)) || (decide (((nth y5.1 i_x10).out) < 0))) || (decide ((((nth m_0.instrs ((nth y5.1 i_x10).instr)).operands).length : Int) ≤ ((nth y5.1 i_x10).out)))) || (!decide (((nth ((nth m_0.instrs ((nth y5.1 i_x10).instr)).operands) ((nth y5.1 i_x10).out)).kind) = 1)))) := ⟨_, rfl⟩
  iterate 8 refine Wg rfl (b := g27) (by simp [q, e27]) (fun hg => by simp [q, hg]; rfl) ?_
  refine Wor (t := ((((!decide (y21.2 = 0)) || (decide (((nth y5.1 i_x10).out) < 0))) || (decide ((((nth m_0.instrs ((nth y5.1 i_x10).instr)).operands).length : Int) ≤ ((nth y5.1 i_x10).out)))) || (!decide (((nth ((nth m_0.instrs ((nth y5.1 i_x10).instr)).operands) ((nth y5.1 i_x10).out)).kind) = 1)))) (β := (!decide ((IntKind.i64.wrap ((((nth y5.1 i_x10).sides).length : Int) + 1)) = (((nth m_0.instrs ((nth y5.1 i_x10).instr)).effects).length : Int)))) (by simp [q]) rfl (fun hh => by have h0 := e27.trans (notf hh); simp [q, h0]) (by first | (simp; done) | (simp; rfl)) ?_
  refine hK _ _ ?_; clear hK K
  refine Run.testEnd (b := (((((!decide (y21.2 = 0)) || (decide (((nth y5.1 i_x10).out) < 0))) || (decide ((((nth m_0.instrs ((nth y5.1 i_x10).instr)).operands).length : Int) ≤ ((nth y5.1 i_x10).out)))) || (!decide (((nth ((nth m_0.instrs ((nth y5.1 i_x10).instr)).operands) ((nth y5.1 i_x10).out)).kind) = 1))) || (!decide ((IntKind.i64.wrap ((((nth y5.1 i_x10).sides).length : Int) + 1)) = (((nth m_0.instrs ((nth y5.1 i_x10).instr)).effects).length : Int))))) (by simp [q]) (fun h28 => ?_) (fun h28 => ?_)
  ·
   rw [itet h28] at hF; try simp at h28
   refine rg fun K hK => ?_
   have q := And.intro q h28
   refine wq ?_
   refine hK _ _ ?_; clear hK K
   refine Run.ret ?_
   have hv := hR1 _ (Option.some.inj hF).symm
   subst hv
   simp [tupA, h12, hb7, hq7, h20, hb10, hq10, h28]
  rw [itef h28] at hF; try simp at h28
  refine Run.skip ?_
  show Run _ _ _ _ _ _
  refine rg fun K hK => ?_
  have q := And.intro q h28
  refine wq ?_
  refine hK _ _ ?_; clear hK K
  refine Run.seq ?_
  refine rg fun K hK => ?_
  refine wq ?_
  refine hK _ _ ?_; clear hK K
  refine Run.block ?_
  refine Run.fixX hF [1, 3, 4, 6, 7, 8, 10, 11, 12] [] [b10, b7, b1] [] (by simp [q]) (by simp) (by simp) (fun v f σ => ∃ at_x29 : Int, ∃ k_x30 : Int, v = (at_x29, k_x30) ∧ f = ⟨166, [(1, .ptr b1 0), (3, .bool y1), (4, .list .none (y5.1.map TPattern.row)), (6, .int .i64 i_x10), (7, .ptr b7 0), (8, .list .none (y21.1.map (rwI .i64))), (10, .ptr b10 0), (11, .int .i64 at_x29), (12, .int .i64 k_x30)], [], []⟩ ∧ σ = ⟨[(b10, (nth m_0.instrs ((nth y5.1 i_x10).instr)).row), (b7, (nth y5.1 i_x10).row), (b1, m_0.row)], []⟩) ?_ ?_
  ·
   exact ⟨0, 0, rfl, by simp [q, Fm.rst, nn, nn1], by simp [q, St.only, nn1]⟩
  clear hF
  rintro _ _ _ yy2 ⟨at_x29, k_x30, rfl, rfl, rfl⟩ hF hR2
  simp only [retargetlaw24_PatternTied.l1] at hF
  refine Run.seq ?_
  refine rg fun K hK => ?_
  have q := And.intro hb7 (And.intro hq7 (And.intro hb10 hq10))
  iterate 5 refine wq ?_
  refine hK _ _ ?_; clear hK K
  refine Run.testEnd (b := (decide (k_x30 < (((nth m_0.instrs ((nth y5.1 i_x10).instr)).operands).length : Int)))) (by simp [q]) (fun h33 => ?_) (fun h33 => ?_)
  ·
   rw [itet h33] at hF; try simp at h33
   refine Run.skip ?_
   show Run _ _ _ _ _ _
   refine Run.seq ?_
   refine Run.block ?_
   have q := And.intro q h33
   refine Run.join [1, 3, 4, 6, 7, 8, 10, 11, 12] [] [b10, b7, b1] [] (by simp [q]) (by simp) (by simp) (fun f σ => ∃ at_x34 : Int, f = ⟨166, [(1, .ptr b1 0), (3, .bool y1), (4, .list .none (y5.1.map TPattern.row)), (6, .int .i64 i_x10), (7, .ptr b7 0), (8, .list .none (y21.1.map (rwI .i64))), (10, .ptr b10 0), (11, .int .i64 at_x34), (12, .int .i64 k_x30)], [], []⟩ ∧ σ = ⟨[(b10, (nth m_0.instrs ((nth y5.1 i_x10).instr)).row), (b7, (nth y5.1 i_x10).row), (b1, m_0.row)], []⟩ ∧ retargetlaw24_PatternTied.j0 m_0 y5 i_x10 k_x30 at_x34 = some yy2) ?_ ?_
   ·
    clear hF
    rintro _ _ ⟨at_x34, rfl, rfl, hF⟩
    unfold retargetlaw24_PatternTied.j0 at hF
    replace hF := chkO hF; obtain ⟨hc35, hF⟩ := hF
    refine rg fun K hK => ?_
    have q := And.intro hb7 (And.intro hq7 (And.intro hb10 hq10))
    iterate 3 refine wq ?_
    refine Wq (evF_ix (tg := .none) (rw := TMachOperand.row) (xs := ((nth m_0.instrs ((nth y5.1 i_x10).instr)).operands)) (k := .i64) (n := k_x30) (by simp; rfl) rfl (by simp; rfl) (by simp [q]) (by simp [q]) hc35.1 hc35.2 (by simp)) ?_
    iterate 3 refine wq ?_
    refine hK _ _ ?_; clear hK K
    refine Run.testEnd (b := (decide (((nth ((nth m_0.instrs ((nth y5.1 i_x10).instr)).operands) k_x30).kind) = 4))) (by simp [q]) (fun h36 => ?_) (fun h36 => ?_)
    ·
     rw [itet h36] at hF; try simp at h36
     refine rg fun K hK => ?_
     have q := And.intro q h36
     refine wq ?_
     refine hK _ _ ?_; clear hK K
     refine Run.ret ?_
     have hv := hR2 _ (Option.some.inj hF).symm
     replace hv := hR1 _ hv.symm
     subst hv
     simp [tupA, hb7, hq7, hb10, hq10, h36]
    rw [itef h36] at hF; try simp at h36
    refine Run.skip ?_
    show Run _ _ _ _ _ _
    refine rge fun K hK => ?_
    have q := And.intro q h36
    iterate 3 refine wq ?_
    refine hK _ _ ?_; clear hK K
    exact ⟨_, (Option.some.inj hF).symm, at_x34, (IntKind.i64.wrap (k_x30 + 1)), rfl, by simp [q, Fm.rst, nn, nn1], by simp [q, St.only, nn1]⟩
   skip
   replace hF := chkO hF; obtain ⟨hc38, hF⟩ := hF
   refine rg fun K hK => ?_
   iterate 5 refine wq ?_
   obtain ⟨g37, e37⟩ : ∃ g, g = (decide (at_x29 < (y21.1.length : Int))) := ⟨_, rfl⟩
   iterate 2 refine Wg rfl (b := g37) (by simp [q, e37]) (fun hg => by simp [q, hg]; rfl) ?_
   refine Wg rfl (b := g37) (by simp [q, e37]) (fun hg => evF_ix (tg := .none) (rw := (rwI .i64)) (xs := y21.1) (k := .i64) (n := at_x29) (by simp; rfl) rfl (by simp; rfl) (by simp [q, hg]) (by simp [q, hg]) (hc38 (e37.symm.trans hg)).1 (hc38 (e37.symm.trans hg)).2 (by simp)) ?_
   iterate 3 refine Wg rfl (b := g37) (by simp [q, e37]) (fun hg => by simp [q, hg]; rfl) ?_
   refine Wand (t := (decide (at_x29 < (y21.1.length : Int)))) (β := (decide ((nth y21.1 at_x29) = k_x30))) (by simp [q]) rfl (fun hh => by have h0 := e37.trans hh; simp [q, h0]) (by first | (simp; done) | (simp; rfl)) ?_
   refine hK _ _ ?_; clear hK K
   refine Run.testEnd (b := ((decide (at_x29 < (y21.1.length : Int))) && (decide ((nth y21.1 at_x29) = k_x30)))) (by simp [q]) (fun h39 => ?_) (fun h39 => ?_)
   ·
    rw [itet h39] at hF; try simp at h39
    refine rge fun K hK => ?_
    have q := And.intro q h39
    iterate 3 refine wq ?_
    refine hK _ _ ?_; clear hK K
    exact ⟨(IntKind.i64.wrap (at_x29 + 1)), by simp [q, Fm.rst, nn, nn1], by simp [q, St.only, nn1], hF⟩
   rw [itef h39] at hF; try simp at h39
   refine rg fun K hK => ?_
   have q := And.intro q h39
   iterate 4 refine wq ?_
   refine hK _ _ ?_; clear hK K
   refine Run.testEnd (b := (!decide (k_x30 = ((nth y5.1 i_x10).out)))) (by simp [q]) (fun h40 => ?_) (fun h40 => ?_)
   ·
    rw [itet h40] at hF; try simp at h40
    refine rg fun K hK => ?_
    have q := And.intro q h40
    refine wq ?_
    refine hK _ _ ?_; clear hK K
    refine Run.ret ?_
    have hv := hR2 _ (Option.some.inj hF).symm
    replace hv := hR1 _ hv.symm
    subst hv
    simp [tupA, hb7, hq7, hb10, hq10, h33, h39, h40]
   rw [itef h40] at hF; try simp at h40
   refine Run.skip ?_
   have q := And.intro q h40
   exact ⟨at_x29, by simp [q, Fm.rst, nn, nn1], by simp [q, St.only, nn1], hF⟩
  rw [itef h33] at hF; try simp at h33
  refine Run.exit ?_
  replace hF := mapO hF; obtain ⟨z42, hF, hz⟩ := hF; have hz2 := (hR2 _ hz.symm).symm; subst hz2; clear hz
  show Run _ _ _ _ _ _
  refine rg fun K hK => ?_
  have q := And.intro q h33
  iterate 4 refine wq ?_
  refine hK _ _ ?_; clear hK K
  refine Run.testEnd (b := (!decide (at_x29 = (y21.1.length : Int)))) (by simp [q]) (fun h41 => ?_) (fun h41 => ?_)
  ·
   rw [itet h41] at hF; try simp at h41
   refine rg fun K hK => ?_
   have q := And.intro q h41
   refine wq ?_
   refine hK _ _ ?_; clear hK K
   refine Run.ret ?_
   have hv := hR1 _ (Option.some.inj hF).symm
   subst hv
   simp [tupA, hb7, hq7, hb10, hq10, h33, h41]
  rw [itef h41] at hF; try simp at h41
  refine Run.skip ?_
  show Run _ _ _ _ _ _
  refine rge fun K hK => ?_
  have q := And.intro q h41
  iterate 3 refine wq ?_
  refine hK _ _ ?_; clear hK K
  exact ⟨_, (Option.some.inj hF).symm, by simp [q, Fm.rst, nn, nn1], by simp [q, St.only, nn1]⟩
 rw [itef h12] at hF; try simp at h12
 refine Run.exit ?_
 replace hF := mapO hF; obtain ⟨z43, hF, hz⟩ := hF; have hz2 := (hR1 _ hz.symm).symm; subst hz2; clear hz
 show Run _ _ _ _ _ _
 refine rg fun K hK => ?_
 have q := h12
 iterate 2 refine wq ?_
 refine hK _ _ ?_; clear hK K
 refine Run.ret ?_
 obtain rfl := Option.some.inj hF
 simp [tupA, h12]

/-! retargetlaw24_PatternBack -/
def retargetlaw24_PatternBack.j0 [Fx] (m_0 : TMachine) (p_1 : Int) (args_3 : List TPatternArg) (y1 : Bool) : Option Bool :=
 ((pattern_Fill m_0 p_1 args_3).bind fun y10 =>
 (if (!decide (y10.2 = 0)) then
 some y1
 else
 ((pattern_Match m_0 p_1 y10.1).bind fun y12 =>
 ((if (y1 && (decide (y12.2 = 0))) then retargetref24_SameArgs y12.1 args_3 else some default).bind fun y15 =>
 some ((y1 && (decide (y12.2 = 0))) && y15)))))
def retargetlaw24_PatternBack [Fx] (m_0 : TMachine) (p_1 : Int) (t_2 : TTerm) (args_3 : List TPatternArg) : Option Bool :=
 ((retargetlaw24_alive1 ).bind fun y1 =>
 ((retargetref08_Great m_0).bind fun y2 =>
 ((if (!y2) then retargetref02_Great t_2 else some default).bind fun y4 =>
 ((if (!(y2 || y4)) then retargetref24_GreatArgs args_3 else some default).bind fun y6 =>
 (if (((y2 || y4) || y6) || (!y1)) then
 some y1
 else
 ((pattern_Match m_0 p_1 t_2).bind fun y9 =>
 (if (decide (y9.2 = 0)) then
 ((pattern_Fill m_0 p_1 y9.1).bind fun y17 =>
 ((if (decide (y17.2 = 0)) then retargetref02_Same y17.1 t_2 else some default).bind fun y19 =>
 (if ((!decide (y17.2 = 0)) || (!y19)) then
 some false
 else
 retargetlaw24_PatternBack.j0 m_0 p_1 args_3 y1 )))
 else
 retargetlaw24_PatternBack.j0 m_0 p_1 args_3 y1 )))))))
theorem retargetlaw24_PatternBack_ok [Fx] {m_0 : TMachine} {p_1 : Int} {t_2 : TTerm} {args_3 : List TPatternArg} {r : Bool} (hF : retargetlaw24_PatternBack m_0 p_1 t_2 args_3 = some r) : PCall Tryd.prog EE 4 [.agg m_0.row, .int .i64 p_1, .agg t_2.row, .list .none (args_3.map TPatternArg.row)] fun v => v = .bool r := by
 refine PCall.of_fun EOK (F := Tryd.f4) 85 [.tmp 8] (by kernel_rfl) rfl rfl rfl rfl (Nat.le_of_ble_eq_true rfl) (by simp) ?_
 simp only [slotsA]
 unfold retargetlaw24_PatternBack at hF
 refine rg fun K hK => ?_
 refine We rfl ?_; simp
 intro b4 _
 refine We rfl ?_; simp
 intro b6 hb6; simp [Fresh] at hb6; have hq6 : ¬b4 = b6 := by omega
 have q := And.intro hb6 hq6
 refine wq ?_
 refine hK _ _ ?_; clear hK K
 replace hF := bindO hF; obtain ⟨y1, hy1, hF⟩ := hF
 refine rg fun K hK => ?_
 refine wcq (retargetlaw24_alive1_ok hy1) ?_; rintro _ rfl; simp
 refine wq ?_
 refine hK _ _ ?_; clear hK K
 refine Run.seq ?_
 replace hF := bindO hF; obtain ⟨y2, hy2, hF⟩ := hF
 replace hF := bindO hF; obtain ⟨y4, hy4, hF⟩ := hF
 replace hF := bindO hF; obtain ⟨y6, hy6, hF⟩ := hF
 refine rg fun K hK => ?_
 refine wq ?_
 refine wcq (retargetref08_Great_ok hy2) ?_; rintro _ rfl; simp
 refine wq ?_
 obtain ⟨g3, e3⟩ : ∃ g, g = (!y2) := ⟨_, rfl⟩
 refine Wg rfl (b := g3) (by simp [q, e3]) (fun hg => by simp [q, hg]; rfl) ?_
 refine Wgc rfl rfl (b := g3) (by simp [q, e3]) rfl rfl (fun hg => by simp [q, hg]; rfl) (fun hg => by simp [q, hg]; done) (fun hg => retargetref02_Great_ok ((itet (e3.symm.trans hg)).symm.trans hy4)) ?_
 simp
 refine Wor (t := y2) (β := y4) (by simp [q]) rfl (fun hh => by have h0 := e3.trans (notf hh); simp [q, h0]) (by first | (simp; done) | (simp; rfl)) ?_
 refine wq ?_
 obtain ⟨g5, e5⟩ : ∃ g, g = (!(y2 || y4)) := ⟨_, rfl⟩
 refine Wg rfl (b := g5) (by simp [q, e5]) (fun hg => by simp [q, hg]; rfl) ?_
 refine Wgc rfl rfl (b := g5) (by simp [q, e5]) rfl rfl (fun hg => by simp [q, hg]; rfl) (fun hg => by simp [q, hg]; done) (fun hg => retargetref24_GreatArgs_ok ((itet (e5.symm.trans hg)).symm.trans hy6)) ?_
 simp
 refine Wor (t := (y2 || y4)) (β := y6) (by simp [q]) rfl (fun hh => by have h0 := e5.trans (notf hh); simp [q, h0]) (by first | (simp; done) | (simp; rfl)) ?_
 refine wq ?_
 obtain ⟨g7, e7⟩ : ∃ g, g = (!((y2 || y4) || y6)) := ⟨_, rfl⟩
 iterate 2 refine Wg rfl (b := g7) (by simp [q, e7]) (fun hg => by simp [q, hg]; rfl) ?_
 refine Wor (t := ((y2 || y4) || y6)) (β := (!y1)) (by simp [q]) rfl (fun hh => by have h0 := e7.trans (notf hh); simp [q, h0]) (by first | (simp; done) | (simp; rfl)) ?_
 refine hK _ _ ?_; clear hK K
 refine Run.testEnd (b := (((y2 || y4) || y6) || (!y1))) (by simp [q]) (fun h8 => ?_) (fun h8 => ?_)
 ·
  rw [itet h8] at hF; try simp at h8
  refine rg fun K hK => ?_
  have q := And.intro q h8
  iterate 2 refine wq ?_
  refine hK _ _ ?_; clear hK K
  refine Run.ret ?_
  obtain rfl := Option.some.inj hF
  simp [tupA, hb6, hq6, h8]
 rw [itef h8] at hF; try simp at h8
 refine Run.skip ?_
 show Run _ _ _ _ _ _
 replace hF := bindO hF; obtain ⟨y9, hy9, hF⟩ := hF
 refine rg fun K hK => ?_
 have q := And.intro q h8
 iterate 3 refine wq ?_
 refine wcq (pattern_Match_ok hy9) ?_; rintro _ rfl; simp
 iterate 5 refine wq ?_
 refine hK _ _ ?_; clear hK K
 refine Run.join [1, 3, 4, 9] [] [b4] [] (by simp) (by simp) (by simp) (fun f σ => f = ⟨85, [(1, .int .i64 p_1), (3, .list .none (args_3.map TPatternArg.row)), (4, .ptr b4 0), (9, .bool y1)], [], []⟩ ∧ σ = ⟨[(b4, m_0.row)], []⟩ ∧ retargetlaw24_PatternBack.j0 m_0 p_1 args_3 y1  = some r) ?_ ?_
 ·
  clear hF
  rintro _ _ ⟨rfl, rfl, hF⟩
  unfold retargetlaw24_PatternBack.j0 at hF
  replace hF := bindO hF; obtain ⟨y10, hy10, hF⟩ := hF
  refine rg fun K hK => ?_
  have q := And.intro hb6 hq6
  iterate 3 refine wq ?_
  refine wcq (pattern_Fill_ok hy10) ?_; rintro _ rfl; simp
  iterate 3 refine wq ?_
  refine We rfl ?_; simp [q]
  intro b14 hb14; simp [Fresh] at hb14; have hq14 : ¬b4 = b14 := by omega
  have q := And.intro (And.intro q hb14) hq14
  refine We rfl ?_; simp [q]
  refine wq ?_
  refine hK _ _ ?_; clear hK K
  refine Run.seq ?_
  refine rg fun K hK => ?_
  iterate 2 refine wq ?_
  refine hK _ _ ?_; clear hK K
  refine Run.testEnd (b := (!decide (y10.2 = 0))) (by simp [q]) (fun h11 => ?_) (fun h11 => ?_)
  ·
   rw [itet h11] at hF; try simp at h11
   refine rg fun K hK => ?_
   have q := And.intro q h11
   iterate 2 refine wq ?_
   refine hK _ _ ?_; clear hK K
   refine Run.ret ?_
   obtain rfl := Option.some.inj hF
   simp [tupA, hb6, hq6, hb14, hq14, h11]
  rw [itef h11] at hF; try simp at h11
  refine Run.skip ?_
  show Run _ _ _ _ _ _
  replace hF := bindO hF; obtain ⟨y12, hy12, hF⟩ := hF
  refine rg fun K hK => ?_
  have q := And.intro q h11
  iterate 3 refine wq ?_
  refine wcq (pattern_Match_ok hy12) ?_; rintro _ rfl; simp
  iterate 5 refine wq ?_
  refine hK _ _ ?_; clear hK K
  replace hF := bindO hF; obtain ⟨y15, hy15, hF⟩ := hF
  refine rg fun K hK => ?_
  iterate 2 refine wq ?_
  obtain ⟨g13, e13⟩ : ∃ g, g = y1 := ⟨_, rfl⟩
  iterate 2 refine Wg rfl (b := g13) (by simp [q, e13]) (fun hg => by simp [q, hg]; rfl) ?_
  refine Wand (t := y1) (β := (decide (y12.2 = 0))) (by simp [q]) rfl (fun hh => by have h0 := e13.trans hh; simp [q, h0]) (by first | (simp; done) | (simp; rfl)) ?_
  refine wq ?_
  obtain ⟨g14, e14⟩ : ∃ g, g = (y1 && (decide (y12.2 = 0))) := ⟨_, rfl⟩
  iterate 2 refine Wg rfl (b := g14) (by simp [q, e14]) (fun hg => by simp [q, hg]; rfl) ?_
  refine Wgc rfl rfl (b := g14) (by simp [q, e14]) rfl rfl (fun hg => by simp [q, hg]; rfl) (fun hg => by simp [q, hg]; done) (fun hg => retargetref24_SameArgs_ok ((itet (e14.symm.trans hg)).symm.trans hy15)) ?_
  simp
  refine Wand (t := (y1 && (decide (y12.2 = 0)))) (β := y15) (by simp [q]) rfl (fun hh => by have h0 := e14.trans hh; simp [q, h0]) (by first | (simp; done) | (simp; rfl)) ?_
  refine wq ?_
  refine hK _ _ ?_; clear hK K
  refine Run.ret ?_
  obtain rfl := Option.some.inj hF
  simp [tupA, hb6, hq6, hb14, hq14, h11]
 skip
 refine rg fun K hK => ?_
 iterate 2 refine wq ?_
 refine hK _ _ ?_; clear hK K
 refine Run.testEnd (b := (decide (y9.2 = 0))) (by simp [q]) (fun h16 => ?_) (fun h16 => ?_)
 ·
  rw [itet h16] at hF; try simp at h16
  replace hF := bindO hF; obtain ⟨y17, hy17, hF⟩ := hF
  refine rg fun K hK => ?_
  have q := And.intro q h16
  iterate 3 refine wq ?_
  refine wcq (pattern_Fill_ok hy17) ?_; rintro _ rfl; simp
  iterate 3 refine wq ?_
  refine We rfl ?_; simp [q]
  intro b12 hb12; simp [Fresh] at hb12; have hq12 : ¬b6 = b12 ∧ ¬b4 = b12 := by omega
  have q := And.intro (And.intro q hb12) hq12
  refine We rfl ?_; simp [q]
  refine wq ?_
  refine hK _ _ ?_; clear hK K
  replace hF := bindO hF; obtain ⟨y19, hy19, hF⟩ := hF
  refine rg fun K hK => ?_
  iterate 3 refine wq ?_
  obtain ⟨g18, e18⟩ : ∃ g, g = (decide (y17.2 = 0)) := ⟨_, rfl⟩
  iterate 2 refine Wg rfl (b := g18) (by simp [q, e18]) (fun hg => by simp [q, hg]; rfl) ?_
  refine Wgc rfl rfl (b := g18) (by simp [q, e18]) rfl rfl (fun hg => by simp [q, hg]; rfl) (fun hg => by simp [q, hg]; done) (fun hg => retargetref02_Same_ok ((itet (e18.symm.trans hg)).symm.trans hy19)) ?_
  simp
  refine Wg rfl (b := g18) (by simp [q, e18]) (fun hg => by simp [q, hg]; rfl) ?_
  refine Wor (t := (!decide (y17.2 = 0))) (β := (!y19)) (by simp [q]) rfl (fun hh => by have h0 := e18.trans (nnot (notf hh)); simp [q, h0]) (by first | (simp; done) | (simp; rfl)) ?_
  refine hK _ _ ?_; clear hK K
  refine Run.testEnd (b := ((!decide (y17.2 = 0)) || (!y19))) (by simp [q]) (fun h20 => ?_) (fun h20 => ?_)
  ·
   rw [itet h20] at hF; try simp at h20
   refine rg fun K hK => ?_
   have q := And.intro q h20
   refine wq ?_
   refine hK _ _ ?_; clear hK K
   refine Run.ret ?_
   obtain rfl := Option.some.inj hF
   simp [tupA, hb6, hq6, h8, h16, hb12, hq12, h20]
  rw [itef h20] at hF; try simp at h20
  refine Run.skip ?_
  have q := And.intro q h20
  exact ⟨by simp [q, Fm.rst, nn, nn1], by simp [q, St.only, nn1], hF⟩
 rw [itef h16] at hF; try simp at h16
 refine Run.skip ?_
 have q := And.intro q h16
 exact ⟨by simp [q, Fm.rst, nn, nn1], by simp [q, St.only, nn1], hF⟩

end Go.Proofs.YtpjkepfplhllfaaDoor.Av
