/-
What functions compute.
-/
import Derived.Test.YtpjkepfplhllfaaDoorAv29
import Derived.Test.YtpjkepfplhllfaaDoorT
namespace Go.Proofs.YtpjkepfplhllfaaDoor.Av
set_option linter.unusedSimpArgs false
set_option linter.unusedVariables false
set_option maxRecDepth 100000
set_option maxHeartbeats 4000000
open Go Go.Proofs
/-! machine_within -/

def machine_within (n_0 : Int) (least_1 : Int) (most_2 : Int) : Option Bool :=
 some ((decide (least_1 ≤ n_0)) && (decide (n_0 ≤ most_2)))
theorem machine_within_ok {n_0 : Int} {least_1 : Int} {most_2 : Int} {r : Bool} (hF : machine_within n_0 least_1 most_2 = some r) : PCall Tryd.prog EE 30 [.int .i64 n_0, .int .i64 least_1, .int .i64 most_2] fun v => v = .bool r := by
 refine PCall.of_fun EOK (F := Tryd.f30) 15 [.tmp 6] (by kernel_rfl) rfl rfl rfl rfl (Nat.le_of_ble_eq_true rfl) (by simp) ?_
 simp only [slotsA]
 unfold machine_within at hF
 refine rg fun K hK => ?_
 refine Wq (by simp; rfl) ?_
 refine hK _ _ ?_; clear hK K
 refine rg fun K hK => ?_
 iterate 4 refine Wq (by simp; rfl) ?_
 obtain ⟨g1, e1⟩ : ∃ g, g = (decide (least_1 ≤ n_0)) := ⟨_, rfl⟩
 iterate 3 refine Wg rfl (b := g1) (by simp [e1]) (fun hg => by simp [hg]; rfl) ?_
 refine Wand (t := (decide (least_1 ≤ n_0))) (β := (decide (n_0 ≤ most_2))) (by simp) rfl (fun hh => by have h0 := e1.trans hh; simp [h0]) (by first | (simp; done) | (simp; rfl)) ?_
 refine Wq (by simp; rfl) ?_
 refine hK _ _ ?_; clear hK K
 refine Run.ret ?_
 obtain rfl := Option.some.inj hF
 simp [tupA]

/-! bits_wide -/

def bits_wide (width_0 : Int) : Option Bool :=
 some ((decide (1 ≤ width_0)) && (decide (width_0 ≤ 64)))
theorem bits_wide_ok {width_0 : Int} {r : Bool} (hF : bits_wide width_0 = some r) : PCall Tryd.prog EE 78 [.int .i64 width_0] fun v => v = .bool r := by
 refine PCall.of_fun EOK (F := Tryd.f78) 9 [.tmp 2] (by kernel_rfl) rfl rfl rfl rfl (Nat.le_of_ble_eq_true rfl) (by simp) ?_
 simp only [slotsA]
 unfold bits_wide at hF
 refine rg fun K hK => ?_
 refine Wq (by simp; rfl) ?_
 refine hK _ _ ?_; clear hK K
 refine rg fun K hK => ?_
 iterate 3 refine Wq (by simp; rfl) ?_
 obtain ⟨g1, e1⟩ : ∃ g, g = (decide (1 ≤ width_0)) := ⟨_, rfl⟩
 iterate 2 refine Wg rfl (b := g1) (by simp [e1]) (fun hg => by simp [hg]; rfl) ?_
 refine Wand (t := (decide (1 ≤ width_0))) (β := (decide (width_0 ≤ 64))) (by simp) rfl (fun hh => by have h0 := e1.trans hh; simp [h0]) (by first | (simp; done) | (simp; rfl)) ?_
 refine Wq (by simp; rfl) ?_
 refine hK _ _ ?_; clear hK K
 refine Run.ret ?_
 obtain rfl := Option.some.inj hF
 simp [tupA]

/-! term_wide -/

def term_wide (w_0 : Int) : Option Bool :=
 some ((decide (1 ≤ w_0)) && (decide (w_0 ≤ 64)))
theorem term_wide_ok {w_0 : Int} {r : Bool} (hF : term_wide w_0 = some r) : PCall Tryd.prog EE 64 [.int .i64 w_0] fun v => v = .bool r := by
 refine PCall.of_fun EOK (F := Tryd.f64) 9 [.tmp 2] (by kernel_rfl) rfl rfl rfl rfl (Nat.le_of_ble_eq_true rfl) (by simp) ?_
 simp only [slotsA]
 unfold term_wide at hF
 refine rg fun K hK => ?_
 refine Wq (by simp; rfl) ?_
 refine hK _ _ ?_; clear hK K
 refine rg fun K hK => ?_
 iterate 3 refine Wq (by simp; rfl) ?_
 obtain ⟨g1, e1⟩ : ∃ g, g = (decide (1 ≤ w_0)) := ⟨_, rfl⟩
 iterate 2 refine Wg rfl (b := g1) (by simp [e1]) (fun hg => by simp [hg]; rfl) ?_
 refine Wand (t := (decide (1 ≤ w_0))) (β := (decide (w_0 ≤ 64))) (by simp) rfl (fun hh => by have h0 := e1.trans hh; simp [h0]) (by first | (simp; done) | (simp; rfl)) ?_
 refine Wq (by simp; rfl) ?_
 refine hK _ _ ?_; clear hK K
 refine Run.ret ?_
 obtain rfl := Option.some.inj hF
 simp [tupA]

/-! term_loadable -/

def term_loadable (w_0 : Int) : Option Bool :=
 some ((((decide (w_0 = 8)) || (decide (w_0 = 16))) || (decide (w_0 = 32))) || (decide (w_0 = 64)))
theorem term_loadable_ok {w_0 : Int} {r : Bool} (hF : term_loadable w_0 = some r) : PCall Tryd.prog EE 86 [.int .i64 w_0] fun v => v = .bool r := by
 refine PCall.of_fun EOK (F := Tryd.f86) 17 [.tmp 2] (by kernel_rfl) rfl rfl rfl rfl (Nat.le_of_ble_eq_true rfl) (by simp) ?_
 simp only [slotsA]
 unfold term_loadable at hF
 refine rg fun K hK => ?_
 refine Wq (by simp; rfl) ?_
 refine hK _ _ ?_; clear hK K
 refine rg fun K hK => ?_
 iterate 3 refine Wq (by simp; rfl) ?_
 obtain ⟨g1, e1⟩ : ∃ g, g = (!(decide (w_0 = 8))) := ⟨_, rfl⟩
 iterate 2 refine Wg rfl (b := g1) (by simp [e1]) (fun hg => by simp [hg]; rfl) ?_
 refine Wor (t := (decide (w_0 = 8))) (β := (decide (w_0 = 16))) (by simp) rfl (fun hh => by have h0 := e1.trans (notf hh); simp [h0]) (by first | (simp; done) | (simp; rfl)) ?_
 refine Wq (by simp; rfl) ?_
 obtain ⟨g2, e2⟩ : ∃ g, g = (!((decide (w_0 = 8)) || (decide (w_0 = 16)))) := ⟨_, rfl⟩
 iterate 2 refine Wg rfl (b := g2) (by simp [e2]) (fun hg => by simp [hg]; rfl) ?_
 refine Wor (t := ((decide (w_0 = 8)) || (decide (w_0 = 16)))) (β := (decide (w_0 = 32))) (by simp) rfl (fun hh => by have h0 := e2.trans (notf hh); simp [h0]) (by first | (simp; done) | (simp; rfl)) ?_
 refine Wq (by simp; rfl) ?_
 obtain ⟨g3, e3⟩ : ∃ g, g = (!(((decide (w_0 = 8)) || (decide (w_0 = 16))) || (decide (w_0 = 32)))) := ⟨_, rfl⟩
 iterate 2 refine Wg rfl (b := g3) (by simp [e3]) (fun hg => by simp [hg]; rfl) ?_
 refine Wor (t := (((decide (w_0 = 8)) || (decide (w_0 = 16))) || (decide (w_0 = 32)))) (β := (decide (w_0 = 64))) (by simp) rfl (fun hh => by have h0 := e3.trans (notf hh); simp [h0]) (by first | (simp; done) | (simp; rfl)) ?_
 refine Wq (by simp; rfl) ?_
 refine hK _ _ ?_; clear hK K
 refine Run.ret ?_
 obtain rfl := Option.some.inj hF
 simp [tupA]

/-! bits_Name -/
def bits_Name.l0 [Fx] (s_0 : List UInt8) : Int → Option (Int ⊕ Bool) := fun v =>
 match v with
 | v_x3 =>
 (if (decide (v_x3 < (s_0.length : Int))) then
 (if (0 : Int) ≤ v_x3 ∧ v_x3 < (s_0.length : Int) then
 (if ((!(((decide (97 ≤ (bt s_0 v_x3))) && (decide ((bt s_0 v_x3) ≤ 122))) || ((decide (65 ≤ (bt s_0 v_x3))) && (decide ((bt s_0 v_x3) ≤ 90))))) && ((decide (v_x3 = 0)) || ((!decide ((bt s_0 v_x3) = 95)) && ((decide ((bt s_0 v_x3) < 48)) || (decide (57 < (bt s_0 v_x3))))))) then
 some (.inr false)
 else
 some (.inl (IntKind.i64.wrap (v_x3 + 1))))
 else none)
 else
 (Option.map Sum.inr (some true)))
def bits_Name [Fx] (s_0 : List UInt8) : Option Bool :=
 (if ((decide ((s_0.length : Int) < 1)) || (decide (24 < (s_0.length : Int)))) then
 some false
 else
 Fx.fx (bits_Name.l0 s_0) 0)
theorem bits_Name_ok [Fx] {s_0 : List UInt8} {r : Bool} (hF : bits_Name s_0 = some r) : PCall Tryd.prog EE 29 [.str s_0] fun v => v = .bool r := by
 refine PCall.of_fun EOK (F := Tryd.f29) 55 [.tmp 2] (by kernel_rfl) rfl rfl rfl rfl (Nat.le_of_ble_eq_true rfl) (by simp) ?_
 simp only [slotsA]
 unfold bits_Name at hF
 refine rg fun K hK => ?_
 refine Wq (by simp; rfl) ?_
 refine hK _ _ ?_; clear hK K
 refine Run.seq ?_
 refine rg fun K hK => ?_
 iterate 4 refine Wq (by simp; rfl) ?_
 obtain ⟨g1, e1⟩ : ∃ g, g = (!(decide ((s_0.length : Int) < 1))) := ⟨_, rfl⟩
 iterate 3 refine Wg rfl (b := g1) (by simp [e1]) (fun hg => by simp [hg]; rfl) ?_
 refine Wor (t := (decide ((s_0.length : Int) < 1))) (β := (decide (24 < (s_0.length : Int)))) (by simp) rfl (fun hh => by have h0 := e1.trans (notf hh); simp [h0]) (by first | (simp; done) | (simp; rfl)) ?_
 refine hK _ _ ?_; clear hK K
 refine Run.testEnd (b := ((decide ((s_0.length : Int) < 1)) || (decide (24 < (s_0.length : Int))))) (by simp) (fun h2 => ?_) (fun h2 => ?_)
 ·
  rw [itet h2] at hF; try simp at h2
  refine rg fun K hK => ?_
  have q := h2
  refine wq ?_
  refine hK _ _ ?_; clear hK K
  refine Run.ret ?_
  obtain rfl := Option.some.inj hF
  simp [tupA, h2]
 rw [itef h2] at hF; try simp at h2
 refine Run.skip ?_
 show Run _ _ _ _ _ _
 refine Run.seq ?_
 refine rg fun K hK => ?_
 have q := h2
 iterate 3 refine wq ?_
 refine hK _ _ ?_; clear hK K
 refine Run.block ?_
 refine Run.fixX hF [0, 15, 16] [] [] [] (by simp) (by simp) (by simp) (fun v_x3 f σ => f = ⟨55, [(0, .str s_0), (15, .int .i64 (s_0.length : Int)), (16, .int .i64 v_x3)], [], []⟩ ∧ σ = ⟨[], []⟩) ?_ ?_
 ·
  exact ⟨by simp [q, Fm.rst, nn, nn1], by simp [q, St.only, nn1]⟩
 clear hF
 rintro v_x3 _ _ yy1 ⟨rfl, rfl⟩ hF hR1
 simp only [bits_Name.l0] at hF
 refine rg fun K hK => ?_
 refine Wq (by simp; rfl) ?_
 refine hK _ _ ?_; clear hK K
 refine Run.seq ?_
 refine Run.testEnd (b := (decide (v_x3 < (s_0.length : Int)))) (by simp) (fun h5 => ?_) (fun h5 => ?_)
 ·
  rw [itet h5] at hF; try simp at h5
  refine Run.skip ?_
  show Run _ _ _ _ _ _
  refine Run.seq ?_
  refine Run.block ?_
  refine rg fun K hK => ?_
  have q := h5
  iterate 2 refine wq ?_
  refine hK _ _ ?_; clear hK K
  replace hF := chkO hF; obtain ⟨hc6, hF⟩ := hF
  refine rg fun K hK => ?_
  iterate 2 refine wq ?_
  refine Wq (evF_sx (s := s_0) (k := .i64) (n := v_x3) (by simp; rfl) rfl (by simp [q]) (by simp [q]) hc6.1 hc6.2) ?_
  refine wq ?_
  refine hK _ _ ?_; clear hK K
  refine rg fun K hK => ?_
  iterate 3 refine wq ?_
  obtain ⟨g7, e7⟩ : ∃ g, g = (decide (97 ≤ (bt s_0 v_x3))) := ⟨_, rfl⟩
  iterate 2 refine Wg rfl (b := g7) (by simp [q, e7]) (fun hg => by simp [q, hg]; rfl) ?_
  refine Wand (t := (decide (97 ≤ (bt s_0 v_x3)))) (β := (decide ((bt s_0 v_x3) ≤ 122))) (by simp [q]) rfl (fun hh => by have h0 := e7.trans hh; simp [q, h0]) (by first | (simp; done) | (simp; rfl)) ?_
  refine wq ?_
  obtain ⟨g8, e8⟩ : ∃ g, g = (!((decide (97 ≤ (bt s_0 v_x3))) && (decide ((bt s_0 v_x3) ≤ 122)))) := ⟨_, rfl⟩
  iterate 3 refine Wg rfl (b := g8) (by simp [q, e8]) (fun hg => by simp [q, hg]; rfl) ?_
  obtain ⟨g9, e9⟩ : ∃ g, g = ((!((decide (97 ≤ (bt s_0 v_x3))) && (decide ((bt s_0 v_x3) ≤ 122)))) && (decide (65 ≤ (bt s_0 v_x3)))) := ⟨_, rfl⟩
  have w9_8 : g9 = true → g8 = true := fun h => e8.trans (and1 (e9.symm.trans h))
  iterate 2 refine Wg rfl (b := g9) (by simp [q, e9, e8]) (fun hg => by simp [q, hg, w9_8 hg]; rfl) ?_
  refine Wgand rfl (b := g8) (t := (decide (65 ≤ (bt s_0 v_x3)))) (β := (decide ((bt s_0 v_x3) ≤ 90))) (by simp [q, e8]) (fun hg => by simp [q, hg]; done) rfl (fun hg hh => by have h0 := e9.trans (andI (e8.symm.trans hg) hh); simp [q, h0]) (by first | (simp; done) | (simp; rfl)) ?_
  refine Wor (t := ((decide (97 ≤ (bt s_0 v_x3))) && (decide ((bt s_0 v_x3) ≤ 122)))) (β := ((decide (65 ≤ (bt s_0 v_x3))) && (decide ((bt s_0 v_x3) ≤ 90)))) (by simp [q]) rfl (fun hh => by have h0 := e8.trans (notf hh); simp [q, h0]) (by first | (simp; done) | (simp; rfl)) ?_
  refine wq ?_
  refine hK _ _ ?_; clear hK K
  refine rg fun K hK => ?_
  iterate 3 refine wq ?_
  obtain ⟨g10, e10⟩ : ∃ g, g = (!(((decide (97 ≤ (bt s_0 v_x3))) && (decide ((bt s_0 v_x3) ≤ 122))) || ((decide (65 ≤ (bt s_0 v_x3))) && (decide ((bt s_0 v_x3) ≤ 90))))) := ⟨_, rfl⟩
  iterate 3 refine Wg rfl (b := g10) (by simp [q, e10]) (fun hg => by simp [q, hg]; rfl) ?_
  obtain ⟨g11, e11⟩ : ∃ g, g = ((!(((decide (97 ≤ (bt s_0 v_x3))) && (decide ((bt s_0 v_x3) ≤ 122))) || ((decide (65 ≤ (bt s_0 v_x3))) && (decide ((bt s_0 v_x3) ≤ 90))))) && (!(decide (v_x3 = 0)))) := ⟨_, rfl⟩
  have w11_10 : g11 = true → g10 = true := fun h => e10.trans (and1 (e11.symm.trans h))
  iterate 3 refine Wg rfl (b := g11) (by simp [q, e11, e10]) (fun hg => by simp [q, hg, w11_10 hg]; rfl) ?_
  obtain ⟨g12, e12⟩ : ∃ g, g = (((!(((decide (97 ≤ (bt s_0 v_x3))) && (decide ((bt s_0 v_x3) ≤ 122))) || ((decide (65 ≤ (bt s_0 v_x3))) && (decide ((bt s_0 v_x3) ≤ 90))))) && (!(decide (v_x3 = 0)))) && (!decide ((bt s_0 v_x3) = 95))) := ⟨_, rfl⟩
  have w12_11 : g12 = true → g11 = true := fun h => e11.trans (and1 (e12.symm.trans h))
  iterate 3 refine Wg rfl (b := g12) (by simp [q, e12, e11]) (fun hg => by simp [q, hg, w12_11 hg]; rfl) ?_
  obtain ⟨g13, e13⟩ : ∃ g, g = ((((!(((decide (97 ≤ (bt s_0 v_x3))) && (decide ((bt s_0 v_x3) ≤ 122))) || ((decide (65 ≤ (bt s_0 v_x3))) && (decide ((bt s_0 v_x3) ≤ 90))))) && (!(decide (v_x3 = 0)))) && (!decide ((bt s_0 v_x3) = 95))) && (!(decide ((bt s_0 v_x3) < 48)))) := ⟨_, rfl⟩
  have w13_12 : g13 = true → g12 = true := fun h => e12.trans (and1 (e13.symm.trans h))
  iterate 2 refine Wg rfl (b := g13) (by simp [q, e13, e12]) (fun hg => by simp [q, hg, w13_12 hg]; rfl) ?_
  refine Wgor rfl (b := g12) (t := (decide ((bt s_0 v_x3) < 48))) (β := (decide (57 < (bt s_0 v_x3)))) (by simp [q, e12, e11]) (fun hg => by simp [q, hg, w12_11 hg]; done) rfl (fun hg hh => by have h0 := e13.trans (andI (e12.symm.trans hg) (notf hh)); simp [q, h0]) (by first | (simp; done) | (simp; rfl)) ?_
  refine Wgand rfl (b := g11) (t := (!decide ((bt s_0 v_x3) = 95))) (β := ((decide ((bt s_0 v_x3) < 48)) || (decide (57 < (bt s_0 v_x3))))) (by simp [q, e11, e10]) (fun hg => by simp [q, hg, w11_10 hg]; done) rfl (fun hg hh => by have h0 := e12.trans (andI (e11.symm.trans hg) hh); simp [q, h0]) (by first | (simp; done) | (simp; rfl)) ?_
  refine Wgor rfl (b := g10) (t := (decide (v_x3 = 0))) (β := ((!decide ((bt s_0 v_x3) = 95)) && ((decide ((bt s_0 v_x3) < 48)) || (decide (57 < (bt s_0 v_x3)))))) (by simp [q, e10]) (fun hg => by simp [q, hg]; done) rfl (fun hg hh => by have h0 := e11.trans (andI (e10.symm.trans hg) (notf hh)); simp [q, h0]) (by first | (simp; done) | (simp; rfl)) ?_
  refine Wand (t := (!(((decide (97 ≤ (bt s_0 v_x3))) && (decide ((bt s_0 v_x3) ≤ 122))) || ((decide (65 ≤ (bt s_0 v_x3))) && (decide ((bt s_0 v_x3) ≤ 90)))))) (β := ((decide (v_x3 = 0)) || ((!decide ((bt s_0 v_x3) = 95)) && ((decide ((bt s_0 v_x3) < 48)) || (decide (57 < (bt s_0 v_x3))))))) (by simp [q]) rfl (fun hh => by have h0 := e10.trans hh; simp [q, h0]) (by first | (simp; done) | (simp; rfl)) ?_
  refine hK _ _ ?_; clear hK K
  refine Run.testEnd (b := ((!(((decide (97 ≤ (bt s_0 v_x3))) && (decide ((bt s_0 v_x3) ≤ 122))) || ((decide (65 ≤ (bt s_0 v_x3))) && (decide ((bt s_0 v_x3) ≤ 90))))) && ((decide (v_x3 = 0)) || ((!decide ((bt s_0 v_x3) = 95)) && ((decide ((bt s_0 v_x3) < 48)) || (decide (57 < (bt s_0 v_x3)))))))) (by simp [q]) (fun h14 => ?_) (fun h14 => ?_)
  ·
   rw [itet h14] at hF; try simp at h14
   refine rg fun K hK => ?_
   have q := And.intro q h14
   refine wq ?_
   refine hK _ _ ?_; clear hK K
   refine Run.ret ?_
   have hv := hR1 _ (Option.some.inj hF).symm
   subst hv
   simp [tupA, h5, h14]
  rw [itef h14] at hF; try simp at h14
  refine Run.skip ?_
  show Run _ _ _ _ _ _
  refine rge fun K hK => ?_
  have q := And.intro q h14
  iterate 2 refine wq ?_
  refine hK _ _ ?_; clear hK K
  exact ⟨_, (Option.some.inj hF).symm, by simp [q, Fm.rst, nn, nn1], by simp [q, St.only, nn1]⟩
 rw [itef h5] at hF; try simp at h5
 refine Run.exit ?_
 replace hF := mapO hF; obtain ⟨z15, hF, hz⟩ := hF; have hz2 := (hR1 _ hz.symm).symm; subst hz2; clear hz
 show Run _ _ _ _ _ _
 refine rg fun K hK => ?_
 have q := h5
 refine wq ?_
 refine hK _ _ ?_; clear hK K
 refine Run.ret ?_
 obtain rfl := Option.some.inj hF
 simp [tupA, h5]

/-! slices_Index_int -/
def slices_Index_int.l0 [Fx] (s_0 : List Int) (v_1 : Int) : Int → Option (Int ⊕ Int) := fun v =>
 match v with
 | v_x1 =>
 (if (decide (v_x1 < (s_0.length : Int))) then
 (if (0 : Int) ≤ v_x1 ∧ v_x1 < (s_0.length : Int) then
 (if (decide (v_1 = (nth s_0 v_x1))) then
 some (.inr v_x1)
 else
 some (.inl (IntKind.i64.wrap (v_x1 + 1))))
 else none)
 else
 (Option.map Sum.inr (some (-1))))
def slices_Index_int [Fx] (s_0 : List Int) (v_1 : Int) : Option Int :=
 Fx.fx (slices_Index_int.l0 s_0 v_1) 0
theorem slices_Index_int_ok [Fx] {s_0 : List Int} {v_1 : Int} {r : Int} (hF : slices_Index_int s_0 v_1 = some r) : PCall Tryd.prog EE 76 [.list .none (s_0.map (rwI .i64)), .int .i64 v_1] fun v => v = .int .i64 r := by
 refine PCall.of_fun EOK (F := Tryd.f76) 19 [.tmp 4] (by kernel_rfl) rfl rfl rfl rfl (Nat.le_of_ble_eq_true rfl) (by simp) ?_
 simp only [slotsA]
 unfold slices_Index_int at hF
 refine rg fun K hK => ?_
 refine Wq (by simp; rfl) ?_
 refine hK _ _ ?_; clear hK K
 refine Run.seq ?_
 refine rg fun K hK => ?_
 iterate 3 refine Wq (by simp; rfl) ?_
 refine hK _ _ ?_; clear hK K
 refine Run.block ?_
 refine Run.fixX hF [0, 1, 7, 8] [] [] [] (by simp) (by simp) (by simp) (fun v_x1 f σ => f = ⟨19, [(0, .list .none (s_0.map (rwI .i64))), (1, .int .i64 v_1), (7, .int .i64 (s_0.length : Int)), (8, .int .i64 v_x1)], [], []⟩ ∧ σ = ⟨[], []⟩) ?_ ?_
 ·
  exact ⟨by simp [Fm.rst, nn, nn1], by simp [St.only, nn1]⟩
 clear hF
 rintro v_x1 _ _ yy1 ⟨rfl, rfl⟩ hF hR1
 simp only [slices_Index_int.l0] at hF
 refine rg fun K hK => ?_
 refine Wq (by simp; rfl) ?_
 refine hK _ _ ?_; clear hK K
 refine Run.seq ?_
 refine Run.testEnd (b := (decide (v_x1 < (s_0.length : Int)))) (by simp) (fun h3 => ?_) (fun h3 => ?_)
 ·
  rw [itet h3] at hF; try simp at h3
  refine Run.skip ?_
  show Run _ _ _ _ _ _
  refine Run.seq ?_
  refine Run.block ?_
  refine rg fun K hK => ?_
  have q := h3
  iterate 2 refine wq ?_
  refine hK _ _ ?_; clear hK K
  replace hF := chkO hF; obtain ⟨hc4, hF⟩ := hF
  refine rg fun K hK => ?_
  iterate 3 refine wq ?_
  refine Wq (evF_ix (tg := .none) (rw := (rwI .i64)) (xs := s_0) (k := .i64) (n := v_x1) (by simp; rfl) rfl (by simp; rfl) (by simp [q]) (by simp [q]) hc4.1 hc4.2 (by simp)) ?_
  iterate 2 refine wq ?_
  refine hK _ _ ?_; clear hK K
  refine Run.testEnd (b := (decide (v_1 = (nth s_0 v_x1)))) (by simp [q]) (fun h5 => ?_) (fun h5 => ?_)
  ·
   rw [itet h5] at hF; try simp at h5
   refine rg fun K hK => ?_
   have q := And.intro q h5
   iterate 2 refine wq ?_
   refine hK _ _ ?_; clear hK K
   refine Run.ret ?_
   have hv := hR1 _ (Option.some.inj hF).symm
   subst hv
   simp [tupA, h3, h5]
  rw [itef h5] at hF; try simp at h5
  refine Run.skip ?_
  show Run _ _ _ _ _ _
  refine rge fun K hK => ?_
  have q := And.intro q h5
  iterate 2 refine wq ?_
  refine hK _ _ ?_; clear hK K
  exact ⟨_, (Option.some.inj hF).symm, by simp [q, Fm.rst, nn, nn1], by simp [q, St.only, nn1]⟩
 rw [itef h3] at hF; try simp at h3
 refine Run.exit ?_
 replace hF := mapO hF; obtain ⟨z6, hF, hz⟩ := hF; have hz2 := (hR1 _ hz.symm).symm; subst hz2; clear hz
 show Run _ _ _ _ _ _
 refine rg fun K hK => ?_
 have q := h3
 refine wq ?_
 refine hK _ _ ?_; clear hK K
 refine Run.ret ?_
 obtain rfl := Option.some.inj hF
 simp [tupA, h3]

/-! slices_Index_string -/
def slices_Index_string.l0 [Fx] (s_0 : List (List UInt8)) (v_1 : List UInt8) : Int → Option (Int ⊕ Int) := fun v =>
 match v with
 | v_x1 =>
 (if (decide (v_x1 < (s_0.length : Int))) then
 (if (0 : Int) ≤ v_x1 ∧ v_x1 < (s_0.length : Int) then
 (if (decide (v_1 = (nth s_0 v_x1))) then
 some (.inr v_x1)
 else
 some (.inl (IntKind.i64.wrap (v_x1 + 1))))
 else none)
 else
 (Option.map Sum.inr (some (-1))))
def slices_Index_string [Fx] (s_0 : List (List UInt8)) (v_1 : List UInt8) : Option Int :=
 Fx.fx (slices_Index_string.l0 s_0 v_1) 0
theorem slices_Index_string_ok [Fx] {s_0 : List (List UInt8)} {v_1 : List UInt8} {r : Int} (hF : slices_Index_string s_0 v_1 = some r) : PCall Tryd.prog EE 77 [.list .none (s_0.map rwS), .str v_1] fun v => v = .int .i64 r := by
 refine PCall.of_fun EOK (F := Tryd.f77) 19 [.tmp 4] (by kernel_rfl) rfl rfl rfl rfl (Nat.le_of_ble_eq_true rfl) (by simp) ?_
 simp only [slotsA]
 unfold slices_Index_string at hF
 refine rg fun K hK => ?_
 refine Wq (by simp; rfl) ?_
 refine hK _ _ ?_; clear hK K
 refine Run.seq ?_
 refine rg fun K hK => ?_
 iterate 3 refine Wq (by simp; rfl) ?_
 refine hK _ _ ?_; clear hK K
 refine Run.block ?_
 refine Run.fixX hF [0, 1, 7, 8] [] [] [] (by simp) (by simp) (by simp) (fun v_x1 f σ => f = ⟨19, [(0, .list .none (s_0.map rwS)), (1, .str v_1), (7, .int .i64 (s_0.length : Int)), (8, .int .i64 v_x1)], [], []⟩ ∧ σ = ⟨[], []⟩) ?_ ?_
 ·
  exact ⟨by simp [Fm.rst, nn, nn1], by simp [St.only, nn1]⟩
 clear hF
 rintro v_x1 _ _ yy1 ⟨rfl, rfl⟩ hF hR1
 simp only [slices_Index_string.l0] at hF
 refine rg fun K hK => ?_
 refine Wq (by simp; rfl) ?_
 refine hK _ _ ?_; clear hK K
 refine Run.seq ?_
 refine Run.testEnd (b := (decide (v_x1 < (s_0.length : Int)))) (by simp) (fun h3 => ?_) (fun h3 => ?_)
 ·
  rw [itet h3] at hF; try simp at h3
  refine Run.skip ?_
  show Run _ _ _ _ _ _
  refine Run.seq ?_
  refine Run.block ?_
  refine rg fun K hK => ?_
  have q := h3
  iterate 2 refine wq ?_
  refine hK _ _ ?_; clear hK K
  replace hF := chkO hF; obtain ⟨hc4, hF⟩ := hF
  refine rg fun K hK => ?_
  iterate 3 refine wq ?_
  refine Wq (evF_ix (tg := .none) (rw := rwS) (xs := s_0) (k := .i64) (n := v_x1) (by simp; rfl) rfl (by simp; rfl) (by simp [q]) (by simp [q]) hc4.1 hc4.2 (by simp)) ?_
  iterate 2 refine wq ?_
  refine hK _ _ ?_; clear hK K
  refine Run.testEnd (b := (decide (v_1 = (nth s_0 v_x1)))) (by simp [q]) (fun h5 => ?_) (fun h5 => ?_)
  ·
   rw [itet h5] at hF; try simp at h5
   refine rg fun K hK => ?_
   have q := And.intro q h5
   iterate 2 refine wq ?_
   refine hK _ _ ?_; clear hK K
   refine Run.ret ?_
   have hv := hR1 _ (Option.some.inj hF).symm
   subst hv
   simp [tupA, h3, h5]
  rw [itef h5] at hF; try simp at h5
  refine Run.skip ?_
  show Run _ _ _ _ _ _
  refine rge fun K hK => ?_
  have q := And.intro q h5
  iterate 2 refine wq ?_
  refine hK _ _ ?_; clear hK K
  exact ⟨_, (Option.some.inj hF).symm, by simp [q, Fm.rst, nn, nn1], by simp [q, St.only, nn1]⟩
 rw [itef h3] at hF; try simp at h3
 refine Run.exit ?_
 replace hF := mapO hF; obtain ⟨z6, hF, hz⟩ := hF; have hz2 := (hR1 _ hz.symm).symm; subst hz2; clear hz
 show Run _ _ _ _ _ _
 refine rg fun K hK => ?_
 have q := h3
 refine wq ?_
 refine hK _ _ ?_; clear hK K
 refine Run.ret ?_
 obtain rfl := Option.some.inj hF
 simp [tupA, h3]

/-! slices_Contains_int -/

def slices_Contains_int [Fx] (s_0 : List Int) (v_1 : Int) : Option Bool :=
 ((slices_Index_int s_0 v_1).bind fun y1 =>
 some (decide (0 ≤ y1)))
theorem slices_Contains_int_ok [Fx] {s_0 : List Int} {v_1 : Int} {r : Bool} (hF : slices_Contains_int s_0 v_1 = some r) : PCall Tryd.prog EE 56 [.list .none (s_0.map (rwI .i64)), .int .i64 v_1] fun v => v = .bool r := by
 refine PCall.of_fun EOK (F := Tryd.f56) 9 [.tmp 4] (by kernel_rfl) rfl rfl rfl rfl (Nat.le_of_ble_eq_true rfl) (by simp) ?_
 simp only [slotsA]
 unfold slices_Contains_int at hF
 refine rg fun K hK => ?_
 refine Wq (by simp; rfl) ?_
 refine hK _ _ ?_; clear hK K
 replace hF := bindO hF; obtain ⟨y1, hy1, hF⟩ := hF
 refine rg fun K hK => ?_
 iterate 2 refine Wq (by simp; rfl) ?_
 refine Wc rfl rfl rfl (by first | (simp; rfl) | (simp; done)) (by simp; done) (slices_Index_int_ok hy1) ?_; rintro _ rfl; simp
 iterate 2 refine Wq (by simp; rfl) ?_
 refine hK _ _ ?_; clear hK K
 refine Run.ret ?_
 obtain rfl := Option.some.inj hF
 simp [tupA]

/-! slices_Contains_string -/

def slices_Contains_string [Fx] (s_0 : List (List UInt8)) (v_1 : List UInt8) : Option Bool :=
 ((slices_Index_string s_0 v_1).bind fun y1 =>
 some (decide (0 ≤ y1)))
theorem slices_Contains_string_ok [Fx] {s_0 : List (List UInt8)} {v_1 : List UInt8} {r : Bool} (hF : slices_Contains_string s_0 v_1 = some r) : PCall Tryd.prog EE 57 [.list .none (s_0.map rwS), .str v_1] fun v => v = .bool r := by
 refine PCall.of_fun EOK (F := Tryd.f57) 9 [.tmp 4] (by kernel_rfl) rfl rfl rfl rfl (Nat.le_of_ble_eq_true rfl) (by simp) ?_
 simp only [slotsA]
 unfold slices_Contains_string at hF
 refine rg fun K hK => ?_
 refine Wq (by simp; rfl) ?_
 refine hK _ _ ?_; clear hK K
 replace hF := bindO hF; obtain ⟨y1, hy1, hF⟩ := hF
 refine rg fun K hK => ?_
 iterate 2 refine Wq (by simp; rfl) ?_
 refine Wc rfl rfl rfl (by first | (simp; rfl) | (simp; done)) (by simp; done) (slices_Index_string_ok hy1) ?_; rintro _ rfl; simp
 iterate 2 refine Wq (by simp; rfl) ?_
 refine hK _ _ ?_; clear hK K
 refine Run.ret ?_
 obtain rfl := Option.some.inj hF
 simp [tupA]

/-! slices_Max_int -/
def slices_Max_int.l0 [Fx] (x_0 : List Int) : Int × Int → Option ((Int × Int) ⊕ Int) := fun v =>
 match v with
 | (m_x3, i_x4) =>
 (if (decide (i_x4 < (x_0.length : Int))) then
 (if (0 : Int) ≤ i_x4 ∧ i_x4 < (x_0.length : Int) then
 some (.inl ((imax m_x3 (nth x_0 i_x4)), (IntKind.i64.wrap (i_x4 + 1))))
 else none)
 else
 (Option.map Sum.inr (some m_x3)))
def slices_Max_int [Fx] (x_0 : List Int) : Option Int :=
 (if (decide ((x_0.length : Int) < 1)) then
 none
 else
 (if (0 : Int) ≤ 0 ∧ 0 < (x_0.length : Int) then
 Fx.fx (slices_Max_int.l0 x_0) ((nth x_0 0), 1)
 else none))
theorem slices_Max_int_ok [Fx] {x_0 : List Int} {r : Int} (hF : slices_Max_int x_0 = some r) : PCall Tryd.prog EE 75 [.list .none (x_0.map (rwI .i64))] fun v => v = .int .i64 r := by
 refine PCall.of_fun EOK (F := Tryd.f75) 25 [.tmp 2] (by kernel_rfl) rfl rfl rfl rfl (Nat.le_of_ble_eq_true rfl) (by simp) ?_
 simp only [slotsA]
 unfold slices_Max_int at hF
 refine rg fun K hK => ?_
 refine Wq (by simp; rfl) ?_
 refine hK _ _ ?_; clear hK K
 refine Run.seq ?_
 refine rg fun K hK => ?_
 iterate 3 refine Wq (by simp; rfl) ?_
 refine hK _ _ ?_; clear hK K
 refine Run.testEnd (b := (decide ((x_0.length : Int) < 1))) (by simp) (fun h1 => ?_) (fun h1 => ?_)
 ·
  rw [itet h1] at hF; try simp at h1
  cases hF
 rw [itef h1] at hF; try simp at h1
 refine Run.skip ?_
 show Run _ _ _ _ _ _
 replace hF := chkO hF; obtain ⟨hc2, hF⟩ := hF
 refine rg fun K hK => ?_
 have q := h1
 refine wq ?_
 refine Wq (evF_ix (tg := .none) (rw := (rwI .i64)) (xs := x_0) (k := .i64) (n := 0) (by simp; rfl) rfl (by simp; rfl) (by simp [q]) (by simp [q]) hc2.1 hc2.2 (by simp)) ?_
 iterate 2 refine wq ?_
 refine hK _ _ ?_; clear hK K
 refine Run.seq ?_
 refine rg fun K hK => ?_
 refine wq ?_
 refine hK _ _ ?_; clear hK K
 refine Run.block ?_
 refine Run.fixX hF [0, 3, 4] [] [] [] (by simp) (by simp) (by simp) (fun v f σ => ∃ m_x3 : Int, ∃ i_x4 : Int, v = (m_x3, i_x4) ∧ f = ⟨25, [(0, .list .none (x_0.map (rwI .i64))), (3, .int .i64 m_x3), (4, .int .i64 i_x4)], [], []⟩ ∧ σ = ⟨[], []⟩) ?_ ?_
 ·
  exact ⟨(nth x_0 0), 1, rfl, by simp [q, Fm.rst, nn, nn1], by simp [q, St.only, nn1]⟩
 clear hF
 rintro _ _ _ yy1 ⟨m_x3, i_x4, rfl, rfl, rfl⟩ hF hR1
 simp only [slices_Max_int.l0] at hF
 refine Run.seq ?_
 refine rg fun K hK => ?_
 iterate 4 refine Wq (by simp; rfl) ?_
 refine hK _ _ ?_; clear hK K
 refine Run.testEnd (b := (decide (i_x4 < (x_0.length : Int)))) (by simp) (fun h7 => ?_) (fun h7 => ?_)
 ·
  rw [itet h7] at hF; try simp at h7
  refine Run.skip ?_
  show Run _ _ _ _ _ _
  refine Run.seq ?_
  refine Run.block ?_
  replace hF := chkO hF; obtain ⟨hc8, hF⟩ := hF
  refine rge fun K hK => ?_
  have q := h7
  iterate 3 refine wq ?_
  refine Wq (evF_ix (tg := .none) (rw := (rwI .i64)) (xs := x_0) (k := .i64) (n := i_x4) (by simp; rfl) rfl (by simp; rfl) (by simp [q]) (by simp [q]) hc8.1 hc8.2 (by simp)) ?_
  iterate 3 refine wq ?_
  refine hK _ _ ?_; clear hK K
  show Run _ _ _ _ _ _
  refine rge fun K hK => ?_
  iterate 3 refine wq ?_
  refine hK _ _ ?_; clear hK K
  exact ⟨_, (Option.some.inj hF).symm, (imax m_x3 (nth x_0 i_x4)), (IntKind.i64.wrap (i_x4 + 1)), rfl, by simp [q, Fm.rst, nn, nn1], by simp [q, St.only, nn1]⟩
 rw [itef h7] at hF; try simp at h7
 refine Run.exit ?_
 replace hF := mapO hF; obtain ⟨z9, hF, hz⟩ := hF; have hz2 := (hR1 _ hz.symm).symm; subst hz2; clear hz
 show Run _ _ _ _ _ _
 refine rg fun K hK => ?_
 have q := h7
 iterate 2 refine wq ?_
 refine hK _ _ ?_; clear hK K
 refine Run.ret ?_
 obtain rfl := Option.some.inj hF
 simp [tupA, h7]

/-! machine_fewer -/

def machine_fewer [Fx] (most_0 : Int) (lengths_1 : List Int) : Option Bool :=
 (if (lengths_1.length + 1) * 9 ≤ 140737488351232 then
 ((slices_Max_int (lengths_1 ++ [0])).bind fun y2 =>
 some (decide (y2 ≤ most_0)))
 else none)
theorem machine_fewer_ok [Fx] {most_0 : Int} {lengths_1 : List Int} {r : Bool} (hF : machine_fewer most_0 lengths_1 = some r) : PCall Tryd.prog EE 55 [.int .i64 most_0, .full (lengths_1.map (rwI .i64))] fun v => v = .bool r := by
 refine PCall.of_fun EOK (F := Tryd.f55) 11 [.tmp 4] (by kernel_rfl) rfl rfl rfl rfl (Nat.le_of_ble_eq_true rfl) (by simp) ?_
 simp only [slotsA]
 unfold machine_fewer at hF
 refine rg fun K hK => ?_
 refine Wq (by simp; rfl) ?_
 refine hK _ _ ?_; clear hK K
 replace hF := chkO hF; obtain ⟨hc1, hF⟩ := hF
 replace hF := bindO hF; obtain ⟨y2, hy2, hF⟩ := hF
 refine rg fun K hK => ?_
 refine Wq (by simp; rfl) ?_
 refine We rfl ?_; simp; refine .inr ?_
 refine We rfl ?_; simp; first | (refine ⟨by omega, ?_⟩) | (refine ⟨by simp, by omega, ?_⟩) | skip
 refine Wc rfl rfl rfl (by first | (simp; rfl) | (simp; done)) (by simp; done) (slices_Max_int_ok hy2) ?_; rintro _ rfl; simp
 iterate 3 refine Wq (by simp; rfl) ?_
 refine hK _ _ ?_; clear hK K
 refine Run.ret ?_
 obtain rfl := Option.some.inj hF
 simp [tupA]

/-! machine_small -/
def machine_small.l2 [Fx] (m_0 : TMachine) (v_x17 : Int) : Bool × Int → Option ((Bool × Int) ⊕ ((Bool × Int) ⊕ Bool)) := fun v =>
 match v with
 | (ok_x26, v_x27) =>
 (if (decide (v_x27 < (((nth m_0.instrs v_x17).operands).length : Int))) then
 (if (0 : Int) ≤ v_x27 ∧ v_x27 < (((nth m_0.instrs v_x17).operands).length : Int) then
 ((if ok_x26 then machine_fewer 4 [(((nth ((nth m_0.instrs v_x17).operands) v_x27).pieces).length : Int)] else some default).bind fun y33 =>
 some (.inl ((ok_x26 && y33), (IntKind.i64.wrap (v_x27 + 1)))))
 else none)
 else
 (Option.map Sum.inr (some (.inl (ok_x26, (IntKind.i64.wrap (v_x17 + 1)))))))
def machine_small.l1 [Fx] (m_0 : TMachine) : Bool × Int → Option ((Bool × Int) ⊕ Bool) := fun v =>
 match v with
 | (ok_x16, v_x17) =>
 (if (decide (v_x17 < (m_0.instrs.length : Int))) then
 (if (0 : Int) ≤ v_x17 ∧ v_x17 < (m_0.instrs.length : Int) then
 ((if ok_x16 then machine_fewer 4 [(((nth m_0.instrs v_x17).operands).length : Int)] else some default).bind fun y23 =>
 ((if (ok_x16 && y23) then machine_fewer 4 [(((nth m_0.instrs v_x17).effects).length : Int)] else some default).bind fun y25 =>
 Fx.fx (machine_small.l2 m_0 v_x17) (((ok_x16 && y23) && y25), 0)))
 else none)
 else
 (Option.map Sum.inr (some ok_x16)))
def machine_small.l0 [Fx] (m_0 : TMachine) : Bool × Int → Option ((Bool × Int) ⊕ Bool) := fun v =>
 match v with
 | (ok_x8, v_x9) =>
 (if (decide (v_x9 < (m_0.banks.length : Int))) then
 (if (0 : Int) ≤ v_x9 ∧ v_x9 < (m_0.banks.length : Int) then
 ((if ok_x8 then machine_fewer 64 [(((nth m_0.banks v_x9).regs).length : Int)] else some default).bind fun y15 =>
 some (.inl ((ok_x8 && y15), (IntKind.i64.wrap (v_x9 + 1)))))
 else none)
 else
 (Option.map Sum.inr (Fx.fx (machine_small.l1 m_0) (ok_x8, 0))))
def machine_small [Fx] (m_0 : TMachine) : Option Bool :=
 ((machine_fewer 64 [(m_0.regs.length : Int)]).bind fun y1 =>
 ((if y1 then machine_fewer 16 [(m_0.banks.length : Int)] else some default).bind fun y3 =>
 ((if (y1 && y3) then machine_fewer 8 [(m_0.units.length : Int)] else some default).bind fun y5 =>
 ((if ((y1 && y3) && y5) then machine_fewer 64 [(m_0.instrs.length : Int)] else some default).bind fun y7 =>
 Fx.fx (machine_small.l0 m_0) ((((y1 && y3) && y5) && y7), 0)))))
theorem machine_small_ok [Fx] {m_0 : TMachine} {r : Bool} (hF : machine_small m_0 = some r) : PCall Tryd.prog EE 27 [.agg m_0.row] fun v => v = .bool r := by
 refine PCall.of_fun EOK (F := Tryd.f27) 92 [.tmp 2] (by kernel_rfl) rfl rfl rfl rfl (Nat.le_of_ble_eq_true rfl) (by simp) ?_
 simp only [slotsA]
 unfold machine_small at hF
 refine rg fun K hK => ?_
 refine We rfl ?_; simp
 intro b1 _
 refine Wq (by simp; rfl) ?_
 refine hK _ _ ?_; clear hK K
 replace hF := bindO hF; obtain ⟨y1, hy1, hF⟩ := hF
 replace hF := bindO hF; obtain ⟨y3, hy3, hF⟩ := hF
 replace hF := bindO hF; obtain ⟨y5, hy5, hF⟩ := hF
 replace hF := bindO hF; obtain ⟨y7, hy7, hF⟩ := hF
 refine rg fun K hK => ?_
 iterate 3 refine Wq (by simp; rfl) ?_
 refine We rfl ?_; simp; refine .inr ?_
 refine Wc rfl rfl rfl (by first | (simp; rfl) | (simp; done)) (by simp; done) (machine_fewer_ok hy1) ?_; rintro _ rfl; simp
 refine Wq (by simp; rfl) ?_
 obtain ⟨g2, e2⟩ : ∃ g, g = y1 := ⟨_, rfl⟩
 iterate 3 refine Wg rfl (b := g2) (by simp [e2]) (fun hg => by simp [hg]; rfl) ?_
 refine Wgb rfl (b := g2) (by simp [e2]) (fun hg => by simp [hg]; rfl) ?_
 refine Wgc rfl rfl (b := g2) (by simp [e2]) rfl rfl (fun hg => by simp [hg]; rfl) (fun hg => by simp [hg]; done) (fun hg => machine_fewer_ok ((itet (e2.symm.trans hg)).symm.trans hy3)) ?_
 simp
 refine Wand (t := y1) (β := y3) (by simp) rfl (fun hh => by have h0 := e2.trans hh; simp [h0]) (by first | (simp; done) | (simp; rfl)) ?_
 refine Wq (by simp; rfl) ?_
 obtain ⟨g4, e4⟩ : ∃ g, g = (y1 && y3) := ⟨_, rfl⟩
 iterate 3 refine Wg rfl (b := g4) (by simp [e4]) (fun hg => by simp [hg]; rfl) ?_
 refine Wgb rfl (b := g4) (by simp [e4]) (fun hg => by simp [hg]; rfl) ?_
 refine Wgc rfl rfl (b := g4) (by simp [e4]) rfl rfl (fun hg => by simp [hg]; rfl) (fun hg => by simp [hg]; done) (fun hg => machine_fewer_ok ((itet (e4.symm.trans hg)).symm.trans hy5)) ?_
 simp
 refine Wand (t := (y1 && y3)) (β := y5) (by simp) rfl (fun hh => by have h0 := e4.trans hh; simp [h0]) (by first | (simp; done) | (simp; rfl)) ?_
 refine Wq (by simp; rfl) ?_
 obtain ⟨g6, e6⟩ : ∃ g, g = ((y1 && y3) && y5) := ⟨_, rfl⟩
 iterate 3 refine Wg rfl (b := g6) (by simp [e6]) (fun hg => by simp [hg]; rfl) ?_
 refine Wgb rfl (b := g6) (by simp [e6]) (fun hg => by simp [hg]; rfl) ?_
 refine Wgc rfl rfl (b := g6) (by simp [e6]) rfl rfl (fun hg => by simp [hg]; rfl) (fun hg => by simp [hg]; done) (fun hg => machine_fewer_ok ((itet (e6.symm.trans hg)).symm.trans hy7)) ?_
 simp
 refine Wand (t := ((y1 && y3) && y5)) (β := y7) (by simp) rfl (fun hh => by have h0 := e6.trans hh; simp [h0]) (by first | (simp; done) | (simp; rfl)) ?_
 refine Wq (by simp; rfl) ?_
 refine hK _ _ ?_; clear hK K
 refine Run.seq ?_
 refine rg fun K hK => ?_
 iterate 4 refine Wq (by simp; rfl) ?_
 refine hK _ _ ?_; clear hK K
 refine Run.block ?_
 refine Run.fixX hF [1, 3, 37, 38, 39] [] [b1] [] (by simp) (by simp) (by simp) (fun v f σ => ∃ ok_x8 : Bool, ∃ v_x9 : Int, v = (ok_x8, v_x9) ∧ f = ⟨92, [(1, .ptr b1 0), (3, .bool ok_x8), (37, .list .none (m_0.banks.map TMachBank.row)), (38, .int .i64 (m_0.banks.length : Int)), (39, .int .i64 v_x9)], [], []⟩ ∧ σ = ⟨[(b1, m_0.row)], []⟩) ?_ ?_
 ·
  exact ⟨(((y1 && y3) && y5) && y7), 0, rfl, by simp [Fm.rst, nn, nn1], by simp [St.only, nn1]⟩
 clear hF
 rintro _ _ _ yy1 ⟨ok_x8, v_x9, rfl, rfl, rfl⟩ hF hR1
 simp only [machine_small.l0] at hF
 refine rg fun K hK => ?_
 refine Wq (by simp; rfl) ?_
 refine hK _ _ ?_; clear hK K
 refine Run.seq ?_
 refine Run.testEnd (b := (decide (v_x9 < (m_0.banks.length : Int)))) (by simp) (fun h12 => ?_) (fun h12 => ?_)
 ·
  rw [itet h12] at hF; try simp at h12
  refine Run.skip ?_
  show Run _ _ _ _ _ _
  refine Run.seq ?_
  refine Run.block ?_
  replace hF := chkO hF; obtain ⟨hc13, hF⟩ := hF
  refine rg fun K hK => ?_
  have q := h12
  refine Wq (evF_ix (tg := .none) (rw := TMachBank.row) (xs := m_0.banks) (k := .i64) (n := v_x9) (by simp; rfl) rfl (by simp; rfl) (by simp [q]) (by simp [q]) hc13.1 hc13.2 (by simp)) ?_
  refine wq ?_
  refine We rfl ?_; simp [q]
  intro b5 hb5; simp [Fresh] at hb5; have hq5 : ¬b1 = b5 := by omega
  have q := And.intro (And.intro q hb5) hq5
  refine We rfl ?_; simp [q]
  refine hK _ _ ?_; clear hK K
  replace hF := bindO hF; obtain ⟨y15, hy15, hF⟩ := hF
  refine rge fun K hK => ?_
  iterate 2 refine wq ?_
  obtain ⟨g14, e14⟩ : ∃ g, g = ok_x8 := ⟨_, rfl⟩
  iterate 3 refine Wg rfl (b := g14) (by simp [q, e14]) (fun hg => by simp [q, hg]; rfl) ?_
  refine Wgb rfl (b := g14) (by simp [q, e14]) (fun hg => by simp [q, hg]; rfl) ?_
  refine Wgc rfl rfl (b := g14) (by simp [q, e14]) rfl rfl (fun hg => by simp [q, hg]; rfl) (fun hg => by simp [q, hg]; done) (fun hg => machine_fewer_ok ((itet (e14.symm.trans hg)).symm.trans hy15)) ?_
  simp
  refine Wand (t := ok_x8) (β := y15) (by simp [q]) rfl (fun hh => by have h0 := e14.trans hh; simp [q, h0]) (by first | (simp; done) | (simp; rfl)) ?_
  refine wq ?_
  refine hK _ _ ?_; clear hK K
  show Run _ _ _ _ _ _
  refine rge fun K hK => ?_
  iterate 2 refine wq ?_
  refine hK _ _ ?_; clear hK K
  exact ⟨_, (Option.some.inj hF).symm, (ok_x8 && y15), (IntKind.i64.wrap (v_x9 + 1)), rfl, by simp [q, Fm.rst, nn, nn1], by simp [q, St.only, nn1]⟩
 rw [itef h12] at hF; try simp at h12
 refine Run.exit ?_
 replace hF := mapO hF; obtain ⟨z36, hF, hz⟩ := hF; have hz2 := (hR1 _ hz.symm).symm; subst hz2; clear hz
 show Run _ _ _ _ _ _
 refine Run.seq ?_
 refine rg fun K hK => ?_
 have q := h12
 iterate 4 refine wq ?_
 refine hK _ _ ?_; clear hK K
 refine Run.block ?_
 refine Run.fixX hF [3, 53, 54, 55] [] [] [] (by simp) (by simp) (by simp) (fun v f σ => ∃ ok_x16 : Bool, ∃ v_x17 : Int, v = (ok_x16, v_x17) ∧ f = ⟨92, [(3, .bool ok_x16), (53, .list .none (m_0.instrs.map TMachInstr.row)), (54, .int .i64 (m_0.instrs.length : Int)), (55, .int .i64 v_x17)], [], []⟩ ∧ σ = ⟨[], []⟩) ?_ ?_
 ·
  exact ⟨ok_x8, 0, rfl, by simp [q, Fm.rst, nn, nn1], by simp [q, St.only, nn1]⟩
 clear hF
 rintro _ _ _ yy1 ⟨ok_x16, v_x17, rfl, rfl, rfl⟩ hF hR1
 simp only [machine_small.l1] at hF
 refine rg fun K hK => ?_
 refine Wq (by simp; rfl) ?_
 refine hK _ _ ?_; clear hK K
 refine Run.seq ?_
 refine Run.testEnd (b := (decide (v_x17 < (m_0.instrs.length : Int)))) (by simp) (fun h20 => ?_) (fun h20 => ?_)
 ·
  rw [itet h20] at hF; try simp at h20
  refine Run.skip ?_
  show Run _ _ _ _ _ _
  refine Run.seq ?_
  refine Run.block ?_
  replace hF := chkO hF; obtain ⟨hc21, hF⟩ := hF
  refine rg fun K hK => ?_
  have q := h20
  refine Wq (evF_ix (tg := .none) (rw := TMachInstr.row) (xs := m_0.instrs) (k := .i64) (n := v_x17) (by simp; rfl) rfl (by simp; rfl) (by simp [q]) (by simp [q]) hc21.1 hc21.2 (by simp)) ?_
  refine wq ?_
  refine We rfl ?_; simp [q]
  intro b7 _
  refine We rfl ?_; simp [q]
  refine hK _ _ ?_; clear hK K
  replace hF := bindO hF; obtain ⟨y23, hy23, hF⟩ := hF
  replace hF := bindO hF; obtain ⟨y25, hy25, hF⟩ := hF
  refine rg fun K hK => ?_
  iterate 2 refine wq ?_
  obtain ⟨g22, e22⟩ : ∃ g, g = ok_x16 := ⟨_, rfl⟩
  iterate 3 refine Wg rfl (b := g22) (by simp [q, e22]) (fun hg => by simp [q, hg]; rfl) ?_
  refine Wgb rfl (b := g22) (by simp [q, e22]) (fun hg => by simp [q, hg]; rfl) ?_
  refine Wgc rfl rfl (b := g22) (by simp [q, e22]) rfl rfl (fun hg => by simp [q, hg]; rfl) (fun hg => by simp [q, hg]; done) (fun hg => machine_fewer_ok ((itet (e22.symm.trans hg)).symm.trans hy23)) ?_
  simp
  refine Wand (t := ok_x16) (β := y23) (by simp [q]) rfl (fun hh => by have h0 := e22.trans hh; simp [q, h0]) (by first | (simp; done) | (simp; rfl)) ?_
  refine wq ?_
  obtain ⟨g24, e24⟩ : ∃ g, g = (ok_x16 && y23) := ⟨_, rfl⟩
  iterate 3 refine Wg rfl (b := g24) (by simp [q, e24]) (fun hg => by simp [q, hg]; rfl) ?_
  refine Wgb rfl (b := g24) (by simp [q, e24]) (fun hg => by simp [q, hg]; rfl) ?_
  refine Wgc rfl rfl (b := g24) (by simp [q, e24]) rfl rfl (fun hg => by simp [q, hg]; rfl) (fun hg => by simp [q, hg]; done) (fun hg => machine_fewer_ok ((itet (e24.symm.trans hg)).symm.trans hy25)) ?_
  simp
  refine Wand (t := (ok_x16 && y23)) (β := y25) (by simp [q]) rfl (fun hh => by have h0 := e24.trans hh; simp [q, h0]) (by first | (simp; done) | (simp; rfl)) ?_
  refine wq ?_
  refine hK _ _ ?_; clear hK K
  refine rg fun K hK => ?_
  iterate 4 refine wq ?_
  refine hK _ _ ?_; clear hK K
  refine Run.block ?_
  refine Run.fixX hF [3, 53, 54, 55, 75, 76, 77] [] [] [] (by simp) (by simp) (by simp) (fun v f σ => ∃ ok_x26 : Bool, ∃ v_x27 : Int, v = (ok_x26, v_x27) ∧ f = ⟨92, [(3, .bool ok_x26), (53, .list .none (m_0.instrs.map TMachInstr.row)), (54, .int .i64 (m_0.instrs.length : Int)), (55, .int .i64 v_x17), (75, .list .none (((nth m_0.instrs v_x17).operands).map TMachOperand.row)), (76, .int .i64 (((nth m_0.instrs v_x17).operands).length : Int)), (77, .int .i64 v_x27)], [], []⟩ ∧ σ = ⟨[], []⟩) ?_ ?_
  ·
   exact ⟨((ok_x16 && y23) && y25), 0, rfl, by simp [q, Fm.rst, nn, nn1], by simp [q, St.only, nn1]⟩
  clear hF
  rintro _ _ _ yy2 ⟨ok_x26, v_x27, rfl, rfl, rfl⟩ hF hR2
  simp only [machine_small.l2] at hF
  refine rg fun K hK => ?_
  refine Wq (by simp; rfl) ?_
  refine hK _ _ ?_; clear hK K
  refine Run.seq ?_
  refine Run.testEnd (b := (decide (v_x27 < (((nth m_0.instrs v_x17).operands).length : Int)))) (by simp) (fun h30 => ?_) (fun h30 => ?_)
  ·
   rw [itet h30] at hF; try simp at h30
   refine Run.skip ?_
   show Run _ _ _ _ _ _
   refine Run.seq ?_
   refine Run.block ?_
   replace hF := chkO hF; obtain ⟨hc31, hF⟩ := hF
   refine rg fun K hK => ?_
   have q := h30
   refine Wq (evF_ix (tg := .none) (rw := TMachOperand.row) (xs := ((nth m_0.instrs v_x17).operands)) (k := .i64) (n := v_x27) (by simp; rfl) rfl (by simp; rfl) (by simp [q]) (by simp [q]) hc31.1 hc31.2 (by simp)) ?_
   refine wq ?_
   refine We rfl ?_; simp [q]
   intro b9 _
   refine We rfl ?_; simp [q]
   refine hK _ _ ?_; clear hK K
   replace hF := bindO hF; obtain ⟨y33, hy33, hF⟩ := hF
   refine rge fun K hK => ?_
   iterate 2 refine wq ?_
   obtain ⟨g32, e32⟩ : ∃ g, g = ok_x26 := ⟨_, rfl⟩
   iterate 3 refine Wg rfl (b := g32) (by simp [q, e32]) (fun hg => by simp [q, hg]; rfl) ?_
   refine Wgb rfl (b := g32) (by simp [q, e32]) (fun hg => by simp [q, hg]; rfl) ?_
   refine Wgc rfl rfl (b := g32) (by simp [q, e32]) rfl rfl (fun hg => by simp [q, hg]; rfl) (fun hg => by simp [q, hg]; done) (fun hg => machine_fewer_ok ((itet (e32.symm.trans hg)).symm.trans hy33)) ?_
   simp
   refine Wand (t := ok_x26) (β := y33) (by simp [q]) rfl (fun hh => by have h0 := e32.trans hh; simp [q, h0]) (by first | (simp; done) | (simp; rfl)) ?_
   refine wq ?_
   refine hK _ _ ?_; clear hK K
   show Run _ _ _ _ _ _
   refine rge fun K hK => ?_
   iterate 2 refine wq ?_
   refine hK _ _ ?_; clear hK K
   exact ⟨_, (Option.some.inj hF).symm, (ok_x26 && y33), (IntKind.i64.wrap (v_x27 + 1)), rfl, by simp [q, Fm.rst, nn, nn1], by simp [q, St.only, nn1]⟩
  rw [itef h30] at hF; try simp at h30
  refine Run.exit ?_
  replace hF := mapO hF; obtain ⟨z34, hF, hz⟩ := hF; have hz2 := (hR2 _ hz.symm).symm; subst hz2; clear hz
  show Run _ _ _ _ _ _
  refine rge fun K hK => ?_
  have q := h30
  iterate 2 refine wq ?_
  refine hK _ _ ?_; clear hK K
  exact ⟨_, (Option.some.inj hF).symm, ok_x26, (IntKind.i64.wrap (v_x17 + 1)), rfl, by simp [q, Fm.rst, nn, nn1], by simp [q, St.only, nn1]⟩
 rw [itef h20] at hF; try simp at h20
 refine Run.exit ?_
 replace hF := mapO hF; obtain ⟨z35, hF, hz⟩ := hF; have hz2 := (hR1 _ hz.symm).symm; subst hz2; clear hz
 show Run _ _ _ _ _ _
 refine rg fun K hK => ?_
 have q := h20
 iterate 2 refine wq ?_
 refine hK _ _ ?_; clear hK K
 refine Run.ret ?_
 obtain rfl := Option.some.inj hF
 simp [tupA, h20]

/-! machine_field -/
def machine_field.l0 [Fx] (o_0 : TMachOperand) : Int × Int → Option ((Int × Int) ⊕ Int) := fun v =>
 match v with
 | (n_x1, v_x2) =>
 (if (decide (v_x2 < (o_0.pieces.length : Int))) then
 (if (0 : Int) ≤ v_x2 ∧ v_x2 < (o_0.pieces.length : Int) then
 some (.inl ((IntKind.i64.wrap (n_x1 + ((nth o_0.pieces v_x2).len))), (IntKind.i64.wrap (v_x2 + 1))))
 else none)
 else
 (Option.map Sum.inr (some n_x1)))
def machine_field [Fx] (o_0 : TMachOperand) : Option Int :=
 Fx.fx (machine_field.l0 o_0) (0, 0)
theorem machine_field_ok [Fx] {o_0 : TMachOperand} {r : Int} (hF : machine_field o_0 = some r) : PCall Tryd.prog EE 79 [.agg o_0.row] fun v => v = .int .i64 r := by
 refine PCall.of_fun EOK (F := Tryd.f79) 18 [.tmp 2] (by kernel_rfl) rfl rfl rfl rfl (Nat.le_of_ble_eq_true rfl) (by simp) ?_
 simp only [slotsA]
 unfold machine_field at hF
 refine rg fun K hK => ?_
 refine We rfl ?_; simp
 intro b1 _
 refine Wq (by simp; rfl) ?_
 refine hK _ _ ?_; clear hK K
 refine Run.seq ?_
 refine rg fun K hK => ?_
 iterate 4 refine Wq (by simp; rfl) ?_
 refine hK _ _ ?_; clear hK K
 refine Run.block ?_
 refine Run.fixX hF [2, 6, 7, 8] [] [] [] (by simp) (by simp) (by simp) (fun v f σ => ∃ n_x1 : Int, ∃ v_x2 : Int, v = (n_x1, v_x2) ∧ f = ⟨18, [(2, .int .i64 n_x1), (6, .list .none (o_0.pieces.map TMachPiece.row)), (7, .int .i64 (o_0.pieces.length : Int)), (8, .int .i64 v_x2)], [], []⟩ ∧ σ = ⟨[], []⟩) ?_ ?_
 ·
  exact ⟨0, 0, rfl, by simp [Fm.rst, nn, nn1], by simp [St.only, nn1]⟩
 clear hF
 rintro _ _ _ yy1 ⟨n_x1, v_x2, rfl, rfl, rfl⟩ hF hR1
 simp only [machine_field.l0] at hF
 refine rg fun K hK => ?_
 refine Wq (by simp; rfl) ?_
 refine hK _ _ ?_; clear hK K
 refine Run.seq ?_
 refine Run.testEnd (b := (decide (v_x2 < (o_0.pieces.length : Int)))) (by simp) (fun h5 => ?_) (fun h5 => ?_)
 ·
  rw [itet h5] at hF; try simp at h5
  refine Run.skip ?_
  show Run _ _ _ _ _ _
  refine Run.seq ?_
  refine Run.block ?_
  replace hF := chkO hF; obtain ⟨hc6, hF⟩ := hF
  refine rg fun K hK => ?_
  have q := h5
  refine Wq (evF_ix (tg := .none) (rw := TMachPiece.row) (xs := o_0.pieces) (k := .i64) (n := v_x2) (by simp; rfl) rfl (by simp; rfl) (by simp [q]) (by simp [q]) hc6.1 hc6.2 (by simp)) ?_
  refine wq ?_
  refine We rfl ?_; simp [q]
  intro b4 _
  refine We rfl ?_; simp [q]
  refine hK _ _ ?_; clear hK K
  refine rge fun K hK => ?_
  iterate 5 refine wq ?_
  refine hK _ _ ?_; clear hK K
  show Run _ _ _ _ _ _
  refine rge fun K hK => ?_
  iterate 2 refine wq ?_
  refine hK _ _ ?_; clear hK K
  exact ⟨_, (Option.some.inj hF).symm, (IntKind.i64.wrap (n_x1 + ((nth o_0.pieces v_x2).len))), (IntKind.i64.wrap (v_x2 + 1)), rfl, by simp [q, Fm.rst, nn, nn1], by simp [q, St.only, nn1]⟩
 rw [itef h5] at hF; try simp at h5
 refine Run.exit ?_
 replace hF := mapO hF; obtain ⟨z7, hF, hz⟩ := hF; have hz2 := (hR1 _ hz.symm).symm; subst hz2; clear hz
 show Run _ _ _ _ _ _
 refine rg fun K hK => ?_
 have q := h5
 iterate 2 refine wq ?_
 refine hK _ _ ?_; clear hK K
 refine Run.ret ?_
 obtain rfl := Option.some.inj hF
 simp [tupA, h5]

/-! machine_none -/
def machine_none.l0 [Fx] (l_0 : List TTerm) : Int → Option (Int ⊕ Bool) := fun v =>
 match v with
 | v_x1 =>
 (if (decide (v_x1 < (l_0.length : Int))) then
 (if (0 : Int) ≤ v_x1 ∧ v_x1 < (l_0.length : Int) then
 (if ((((((!decide (((nth l_0 v_x1).kind) = 0)) || (!decide (((nth l_0 v_x1).width) = 0))) || (!decide (((nth l_0 v_x1).bits) = 0))) || (!decide (((nth l_0 v_x1).name) = []))) || (!decide (((nth l_0 v_x1).low) = 0))) || (decide (0 < (((nth l_0 v_x1).sub).length : Int)))) then
 some (.inr false)
 else
 some (.inl (IntKind.i64.wrap (v_x1 + 1))))
 else none)
 else
 (Option.map Sum.inr (some true)))
def machine_none [Fx] (l_0 : List TTerm) : Option Bool :=
 Fx.fx (machine_none.l0 l_0) 0
theorem machine_none_ok [Fx] {l_0 : List TTerm} {r : Bool} (hF : machine_none l_0 = some r) : PCall Tryd.prog EE 82 [.full (l_0.map TTerm.row)] fun v => v = .bool r := by
 refine PCall.of_fun EOK (F := Tryd.f82) 41 [.tmp 2] (by kernel_rfl) rfl rfl rfl rfl (Nat.le_of_ble_eq_true rfl) (by simp) ?_
 simp only [slotsA]
 unfold machine_none at hF
 refine rg fun K hK => ?_
 refine Wq (by simp; rfl) ?_
 refine hK _ _ ?_; clear hK K
 refine Run.seq ?_
 refine rg fun K hK => ?_
 iterate 3 refine Wq (by simp; rfl) ?_
 refine hK _ _ ?_; clear hK K
 refine Run.block ?_
 refine Run.fixX hF [5, 6, 7] [] [] [] (by simp) (by simp) (by simp) (fun v_x1 f σ => f = ⟨41, [(5, .full (l_0.map TTerm.row)), (6, .int .i64 (l_0.length : Int)), (7, .int .i64 v_x1)], [], []⟩ ∧ σ = ⟨[], []⟩) ?_ ?_
 ·
  exact ⟨by simp [Fm.rst, nn, nn1], by simp [St.only, nn1]⟩
 clear hF
 rintro v_x1 _ _ yy1 ⟨rfl, rfl⟩ hF hR1
 simp only [machine_none.l0] at hF
 refine rg fun K hK => ?_
 refine Wq (by simp; rfl) ?_
 refine hK _ _ ?_; clear hK K
 refine Run.seq ?_
 refine Run.testEnd (b := (decide (v_x1 < (l_0.length : Int)))) (by simp) (fun h3 => ?_) (fun h3 => ?_)
 ·
  rw [itet h3] at hF; try simp at h3
  refine Run.skip ?_
  show Run _ _ _ _ _ _
  refine Run.seq ?_
  refine Run.block ?_
  replace hF := chkO hF; obtain ⟨hc4, hF⟩ := hF
  refine rg fun K hK => ?_
  have q := h3
  refine Wq (evF_ix (tg := .none) (rw := TTerm.row) (xs := l_0) (k := .i64) (n := v_x1) (by simp; rfl) rfl (by simp; rfl) (by simp [q]) (by simp [q]) hc4.1 hc4.2 (by simp)) ?_
  refine wq ?_
  refine We rfl ?_; simp [q]
  intro b4 _
  refine We rfl ?_; simp [q]
  refine hK _ _ ?_; clear hK K
  refine rg fun K hK => ?_
  iterate 4 refine wq ?_
  obtain ⟨g5, e5⟩ : ∃ g, g = (decide (((nth l_0 v_x1).kind) = 0)) := ⟨_, rfl⟩
  iterate 3 refine Wg rfl (b := g5) (by simp [q, e5]) (fun hg => by simp [q, hg]; rfl) ?_
  refine Wor (t := (!decide (((nth l_0 v_x1).kind) = 0))) (β := (!decide (((nth l_0 v_x1).width) = 0))) (by simp [q]) rfl (fun hh => by have h0 := e5.trans (nnot (notf hh)); simp [q, h0]) (by first | (simp; done) | (simp; rfl)) ?_
  refine wq ?_
  obtain ⟨g6, e6⟩ : ∃ g, g = (!((!decide (((nth l_0 v_x1).kind) = 0)) || (!decide (((nth l_0 v_x1).width) = 0)))) := ⟨_, rfl⟩
  iterate 3 refine Wg rfl (b := g6) (by simp [q, e6]) (fun hg => by simp [q, hg]; rfl) ?_
  refine Wor (t := ((!decide (((nth l_0 v_x1).kind) = 0)) || (!decide (((nth l_0 v_x1).width) = 0)))) (β := (!decide (((nth l_0 v_x1).bits) = 0))) (by simp [q]) rfl (fun hh => by have h0 := e6.trans (notf hh); simp [q, h0]) (by first | (simp; done) | (simp; rfl)) ?_
  refine wq ?_
  obtain ⟨g7, e7⟩ : ∃ g, g = (!(((!decide (((nth l_0 v_x1).kind) = 0)) || (!decide (((nth l_0 v_x1).width) = 0))) || (!decide (((nth l_0 v_x1).bits) = 0)))) := ⟨_, rfl⟩
  iterate 3 refine Wg rfl (b := g7) (by simp [q, e7]) (fun hg => by simp [q, hg]; rfl) ?_
  refine Wor (t := (((!decide (((nth l_0 v_x1).kind) = 0)) || (!decide (((nth l_0 v_x1).width) = 0))) || (!decide (((nth l_0 v_x1).bits) = 0)))) (β := (!decide (((nth l_0 v_x1).name) = []))) (by simp [q]) rfl (fun hh => by have h0 := e7.trans (notf hh); simp [q, h0]) (by first | (simp; done) | (simp; rfl)) ?_
  refine wq ?_
  obtain ⟨g8, e8⟩ : ∃ g, g = (!((((!decide (((nth l_0 v_x1).kind) = 0)) || (!decide (((nth l_0 v_x1).width) = 0))) || (!decide (((nth l_0 v_x1).bits) = 0))) || (!decide (((nth l_0 v_x1).name) = [])))) := ⟨_, rfl⟩
  iterate 3 refine Wg rfl (b := g8) (by simp [q, e8]) (fun hg => by simp [q, hg]; rfl) ?_
  refine Wor (t := ((((!decide (((nth l_0 v_x1).kind) = 0)) || (!decide (((nth l_0 v_x1).width) = 0))) || (!decide (((nth l_0 v_x1).bits) = 0))) || (!decide (((nth l_0 v_x1).name) = [])))) (β := (!decide (((nth l_0 v_x1).low) = 0))) (by simp [q]) rfl (fun hh => by have h0 := e8.trans (notf hh); simp [q, h0]) (by first | (simp; done) | (simp; rfl)) ?_
  refine wq ?_
  obtain ⟨g9, e9⟩ : ∃ g, g = (!(((((!decide (((nth l_0 v_x1).kind) = 0)) || (!decide (((nth l_0 v_x1).width) = 0))) || (!decide (((nth l_0 v_x1).bits) = 0))) || (!decide (((nth l_0 v_x1).name) = []))) || (!decide (((nth l_0 v_x1).low) = 0)))) := ⟨_, rfl⟩
  iterate 4 refine Wg rfl (b := g9) (by simp [q, e9]) (fun hg => by simp [q, hg]; rfl) ?_
  refine Wor (t := (((((!decide (((nth l_0 v_x1).kind) = 0)) || (!decide (((nth l_0 v_x1).width) = 0))) || (!decide (((nth l_0 v_x1).bits) = 0))) || (!decide (((nth l_0 v_x1).name) = []))) || (!decide (((nth l_0 v_x1).low) = 0)))) (β := (decide (0 < (((nth l_0 v_x1).sub).length : Int)))) (by simp [q]) rfl (fun hh => by have h0 := e9.trans (notf hh); simp [q, h0]) (by first | (simp; done) | (simp; rfl)) ?_
  refine hK _ _ ?_; clear hK K
  refine Run.testEnd (b := ((((((!decide (((nth l_0 v_x1).kind) = 0)) || (!decide (((nth l_0 v_x1).width) = 0))) || (!decide (((nth l_0 v_x1).bits) = 0))) || (!decide (((nth l_0 v_x1).name) = []))) || (!decide (((nth l_0 v_x1).low) = 0))) || (decide (0 < (((nth l_0 v_x1).sub).length : Int))))) (by simp [q]) (fun h10 => ?_) (fun h10 => ?_)
  ·
   rw [itet h10] at hF; try simp at h10
   refine rg fun K hK => ?_
   have q := And.intro q h10
   refine wq ?_
   refine hK _ _ ?_; clear hK K
   refine Run.ret ?_
   have hv := hR1 _ (Option.some.inj hF).symm
   subst hv
   simp [tupA, h3, h10]
  rw [itef h10] at hF; try simp at h10
  refine Run.skip ?_
  show Run _ _ _ _ _ _
  refine rge fun K hK => ?_
  have q := And.intro q h10
  iterate 2 refine wq ?_
  refine hK _ _ ?_; clear hK K
  exact ⟨_, (Option.some.inj hF).symm, by simp [q, Fm.rst, nn, nn1], by simp [q, St.only, nn1]⟩
 rw [itef h3] at hF; try simp at h3
 refine Run.exit ?_
 replace hF := mapO hF; obtain ⟨z11, hF, hz⟩ := hF; have hz2 := (hR1 _ hz.symm).symm; subst hz2; clear hz
 show Run _ _ _ _ _ _
 refine rg fun K hK => ?_
 have q := h3
 refine wq ?_
 refine hK _ _ ?_; clear hK K
 refine Run.ret ?_
 obtain rfl := Option.some.inj hF
 simp [tupA, h3]

/-! machine_wide -/

def machine_wide (m_0 : TMachine) (o_1 : TMachOperand) : Option Int :=
 (if (!decide (o_1.kind = 1)) then
 some m_0.address
 else
 (if (0 : Int) ≤ o_1.bank ∧ o_1.bank < (m_0.banks.length : Int) then
 (if (0 : Int) ≤ 0 ∧ 0 < (((nth m_0.banks o_1.bank).regs).length : Int) then
 (if (0 : Int) ≤ (nth ((nth m_0.banks o_1.bank).regs) 0) ∧ (nth ((nth m_0.banks o_1.bank).regs) 0) < (m_0.regs.length : Int) then
 some ((nth m_0.regs (nth ((nth m_0.banks o_1.bank).regs) 0)).width)
 else none)
 else none)
 else none))
theorem machine_wide_ok {m_0 : TMachine} {o_1 : TMachOperand} {r : Int} (hF : machine_wide m_0 o_1 = some r) : PCall Tryd.prog EE 80 [.agg m_0.row, .agg o_1.row] fun v => v = .int .i64 r := by
 refine PCall.of_fun EOK (F := Tryd.f80) 24 [.tmp 4] (by kernel_rfl) rfl rfl rfl rfl (Nat.le_of_ble_eq_true rfl) (by simp) ?_
 simp only [slotsA]
 unfold machine_wide at hF
 refine rg fun K hK => ?_
 refine We rfl ?_; simp
 intro b2 _
 refine We rfl ?_; simp
 intro b3 hb3; simp [Fresh] at hb3; have hq3 : ¬b2 = b3 := by omega
 have q := And.intro hb3 hq3
 refine wq ?_
 refine hK _ _ ?_; clear hK K
 refine Run.seq ?_
 refine rg fun K hK => ?_
 iterate 3 refine wq ?_
 refine hK _ _ ?_; clear hK K
 refine Run.testEnd (b := (!decide (o_1.kind = 1))) (by simp [q]) (fun h1 => ?_) (fun h1 => ?_)
 ·
  rw [itet h1] at hF; try simp at h1
  refine rg fun K hK => ?_
  have q := And.intro q h1
  iterate 3 refine wq ?_
  refine hK _ _ ?_; clear hK K
  refine Run.ret ?_
  obtain rfl := Option.some.inj hF
  simp [tupA, hb3, hq3, h1]
 rw [itef h1] at hF; try simp at h1
 refine Run.skip ?_
 show Run _ _ _ _ _ _
 replace hF := chkO hF; obtain ⟨hc2, hF⟩ := hF
 replace hF := chkO hF; obtain ⟨hc3, hF⟩ := hF
 replace hF := chkO hF; obtain ⟨hc4, hF⟩ := hF
 refine Run.drawReg EOK mixed 11 [0, 1, 2, 3, 4, 5, 6, 7, 8, 9, 10] rfl (by kernel_rfl) fun K hK => ?_
 have q := And.intro q h1
 iterate 6 refine Pq rfl (by simp [q]; rfl) ?_
 refine Pq rfl (evP_of (evF_ix (tg := .none) (rw := TMachBank.row) (xs := m_0.banks) (k := .i64) (n := o_1.bank) (by simp; rfl) rfl (by simp; rfl) (by simp [q]) (by simp [q]) hc2.1 hc2.2 (by simp))) ?_
 iterate 2 refine Pq rfl (by simp [q]; rfl) ?_
 refine Pq rfl (evP_of (evF_ix (tg := .none) (rw := (rwI .i64)) (xs := ((nth m_0.banks o_1.bank).regs)) (k := .i64) (n := 0) (by simp; rfl) rfl (by simp; rfl) (by simp [q]) (by simp [q]) hc3.1 hc3.2 (by simp))) ?_
 refine Pq rfl (by simp [q]; rfl) ?_
 refine Pd ?_
 refine Wq (evF_ix (tg := .none) (rw := TMachReg.row) (xs := m_0.regs) (k := .i64) (n := (nth ((nth m_0.banks o_1.bank).regs) 0)) (by simp; rfl) rfl (by simp; rfl) (by simp [q]) (by simp [q]) hc4.1 hc4.2 (by simp)) ?_
 iterate 3 refine wq ?_
 refine hK _ _ ?_; clear hK K
 refine Run.ret ?_
 obtain rfl := Option.some.inj hF
 simp [tupA, hb3, hq3, h1]

/-! bits_Mask -/

def bits_Mask (width_0 : Int) : Option Int :=
 ((bits_wide width_0).bind fun y1 =>
 (if (!y1) then
 some 0
 else
 (if (0 : Int) ≤ (IntKind.i64.wrap (64 - width_0)) then
 some (ishr .u64 18446744073709551615 (IntKind.i64.wrap (64 - width_0)))
 else none)))
theorem bits_Mask_ok {width_0 : Int} {r : Int} (hF : bits_Mask width_0 = some r) : PCall Tryd.prog EE 58 [.int .i64 width_0] fun v => v = .int .u64 r := by
 refine PCall.of_fun EOK (F := Tryd.f58) 9 [.tmp 2] (by kernel_rfl) rfl rfl rfl rfl (Nat.le_of_ble_eq_true rfl) (by simp) ?_
 simp only [slotsA]
 unfold bits_Mask at hF
 refine rg fun K hK => ?_
 refine Wq (by simp; rfl) ?_
 refine hK _ _ ?_; clear hK K
 refine Run.seq ?_
 replace hF := bindO hF; obtain ⟨y1, hy1, hF⟩ := hF
 refine rg fun K hK => ?_
 refine Wq (by simp; rfl) ?_
 refine Wc rfl rfl rfl (by first | (simp; rfl) | (simp; done)) (by simp; done) (bits_wide_ok hy1) ?_; rintro _ rfl; simp
 refine Wq (by simp; rfl) ?_
 refine hK _ _ ?_; clear hK K
 refine Run.testEnd (b := (!y1)) (by simp) (fun h2 => ?_) (fun h2 => ?_)
 ·
  rw [itet h2] at hF; try simp at h2
  refine rg fun K hK => ?_
  have q := h2
  refine wq ?_
  refine hK _ _ ?_; clear hK K
  refine Run.ret ?_
  obtain rfl := Option.some.inj hF
  simp [tupA, h2]
 rw [itef h2] at hF; try simp at h2
 refine Run.skip ?_
 show Run _ _ _ _ _ _
 replace hF := chkO hF; obtain ⟨hc3, hF⟩ := hF
 refine rg fun K hK => ?_
 have q := h2
 iterate 2 refine wq ?_
 refine Wq (by have hf0 := hc3; (try simp at hf0); simp [q, hc3, hf0]; rfl) ?_
 refine wq ?_
 refine hK _ _ ?_; clear hK K
 refine Run.ret ?_
 obtain rfl := Option.some.inj hF
 simp [tupA, h2]

/-! bits_Ok -/

def bits_Ok (width_0 : Int) (x_1 : Int) : Option Bool :=
 ((bits_wide width_0).bind fun y1 =>
 ((if y1 then bits_Mask width_0 else some default).bind fun y3 =>
 some (y1 && (decide (x_1 ≤ y3)))))
theorem bits_Ok_ok {width_0 : Int} {x_1 : Int} {r : Bool} (hF : bits_Ok width_0 x_1 = some r) : PCall Tryd.prog EE 66 [.int .i64 width_0, .int .u64 x_1] fun v => v = .bool r := by
 refine PCall.of_fun EOK (F := Tryd.f66) 13 [.tmp 4] (by kernel_rfl) rfl rfl rfl rfl (Nat.le_of_ble_eq_true rfl) (by simp) ?_
 simp only [slotsA]
 unfold bits_Ok at hF
 refine rg fun K hK => ?_
 refine Wq (by simp; rfl) ?_
 refine hK _ _ ?_; clear hK K
 replace hF := bindO hF; obtain ⟨y1, hy1, hF⟩ := hF
 replace hF := bindO hF; obtain ⟨y3, hy3, hF⟩ := hF
 refine rg fun K hK => ?_
 refine Wq (by simp; rfl) ?_
 refine Wc rfl rfl rfl (by first | (simp; rfl) | (simp; done)) (by simp; done) (bits_wide_ok hy1) ?_; rintro _ rfl; simp
 refine Wq (by simp; rfl) ?_
 obtain ⟨g2, e2⟩ : ∃ g, g = y1 := ⟨_, rfl⟩
 iterate 2 refine Wg rfl (b := g2) (by simp [e2]) (fun hg => by simp [hg]; rfl) ?_
 refine Wgc rfl rfl (b := g2) (by simp [e2]) rfl rfl (fun hg => by simp [hg]; rfl) (fun hg => by simp [hg]; done) (fun hg => bits_Mask_ok ((itet (e2.symm.trans hg)).symm.trans hy3)) ?_
 simp
 refine Wg rfl (b := g2) (by simp [e2]) (fun hg => by simp [hg]; rfl) ?_
 refine Wand (t := y1) (β := (decide (x_1 ≤ y3))) (by simp) rfl (fun hh => by have h0 := e2.trans hh; simp [h0]) (by first | (simp; done) | (simp; rfl)) ?_
 refine Wq (by simp; rfl) ?_
 refine hK _ _ ?_; clear hK K
 refine Run.ret ?_
 obtain rfl := Option.some.inj hF
 simp [tupA]

/-! bits_signed -/

def bits_signed (width_0 : Int) (x_1 : Int) : Option Int :=
 (if (0 : Int) ≤ (IntKind.i64.wrap (64 - width_0)) then
 (if (0 : Int) ≤ (IntKind.i64.wrap (64 - width_0)) then
 some (ishr .i64 (IntKind.i64.wrap (ishl .u64 x_1 (IntKind.i64.wrap (64 - width_0)))) (IntKind.i64.wrap (64 - width_0)))
 else none)
 else none)
theorem bits_signed_ok {width_0 : Int} {x_1 : Int} {r : Int} (hF : bits_signed width_0 x_1 = some r) : PCall Tryd.prog EE 88 [.int .i64 width_0, .int .u64 x_1] fun v => v = .int .i64 r := by
 refine PCall.of_fun EOK (F := Tryd.f88) 14 [.tmp 4] (by kernel_rfl) rfl rfl rfl rfl (Nat.le_of_ble_eq_true rfl) (by simp) ?_
 simp only [slotsA]
 unfold bits_signed at hF
 refine rg fun K hK => ?_
 refine Wq (by simp; rfl) ?_
 refine hK _ _ ?_; clear hK K
 refine rg fun K hK => ?_
 iterate 3 refine Wq (by simp; rfl) ?_
 refine hK _ _ ?_; clear hK K
 replace hF := chkO hF; obtain ⟨hc1, hF⟩ := hF
 replace hF := chkO hF; obtain ⟨hc2, hF⟩ := hF
 refine rg fun K hK => ?_
 iterate 2 refine Wq (by simp; rfl) ?_
 refine Wq (by have hf0 := hc1; (try simp at hf0); simp [hc1, hf0]; rfl) ?_
 iterate 2 refine Wq (by simp; rfl) ?_
 refine Wq (by have hf0 := hc2; (try simp at hf0); simp [hc2, hf0]; rfl) ?_
 refine Wq (by simp; rfl) ?_
 refine hK _ _ ?_; clear hK K
 refine Run.ret ?_
 obtain rfl := Option.some.inj hF
 simp [tupA]

/-! bits_check -/
def bits_check.l0 [Fx] (width_0 : Int) (l_1 : List Int) : Int → Option (Int ⊕ Int) := fun v =>
 match v with
 | v_x3 =>
 (if (decide (v_x3 < (l_1.length : Int))) then
 (if (0 : Int) ≤ v_x3 ∧ v_x3 < (l_1.length : Int) then
 ((bits_Mask width_0).bind fun y7 =>
 (if (decide (y7 < (nth l_1 v_x3))) then
 some (.inr 8)
 else
 some (.inl (IntKind.i64.wrap (v_x3 + 1)))))
 else none)
 else
 (Option.map Sum.inr (some 0)))
def bits_check [Fx] (width_0 : Int) (l_1 : List Int) : Option Int :=
 ((bits_wide width_0).bind fun y1 =>
 (if (!y1) then
 some 14
 else
 Fx.fx (bits_check.l0 width_0 l_1) 0))
theorem bits_check_ok [Fx] {width_0 : Int} {l_1 : List Int} {r : Int} (hF : bits_check width_0 l_1 = some r) : PCall Tryd.prog EE 87 [.int .i64 width_0, .full (l_1.map (rwI .u64))] fun v => v = .int .i64 r := by
 refine PCall.of_fun EOK (F := Tryd.f87) 21 [.tmp 4] (by kernel_rfl) rfl rfl rfl rfl (Nat.le_of_ble_eq_true rfl) (by simp) ?_
 simp only [slotsA]
 unfold bits_check at hF
 refine rg fun K hK => ?_
 refine Wq (by simp; rfl) ?_
 refine hK _ _ ?_; clear hK K
 refine Run.seq ?_
 replace hF := bindO hF; obtain ⟨y1, hy1, hF⟩ := hF
 refine rg fun K hK => ?_
 refine Wq (by simp; rfl) ?_
 refine Wc rfl rfl rfl (by first | (simp; rfl) | (simp; done)) (by simp; done) (bits_wide_ok hy1) ?_; rintro _ rfl; simp
 refine Wq (by simp; rfl) ?_
 refine hK _ _ ?_; clear hK K
 refine Run.testEnd (b := (!y1)) (by simp) (fun h2 => ?_) (fun h2 => ?_)
 ·
  rw [itet h2] at hF; try simp at h2
  refine rg fun K hK => ?_
  have q := h2
  refine wq ?_
  refine hK _ _ ?_; clear hK K
  refine Run.ret ?_
  obtain rfl := Option.some.inj hF
  simp [tupA, h2]
 rw [itef h2] at hF; try simp at h2
 refine Run.skip ?_
 show Run _ _ _ _ _ _
 refine Run.seq ?_
 refine rg fun K hK => ?_
 have q := h2
 iterate 3 refine wq ?_
 refine hK _ _ ?_; clear hK K
 refine Run.block ?_
 refine Run.fixX hF [0, 10, 11, 12] [] [] [] (by simp) (by simp) (by simp) (fun v_x3 f σ => f = ⟨21, [(0, .int .i64 width_0), (10, .full (l_1.map (rwI .u64))), (11, .int .i64 (l_1.length : Int)), (12, .int .i64 v_x3)], [], []⟩ ∧ σ = ⟨[], []⟩) ?_ ?_
 ·
  exact ⟨by simp [q, Fm.rst, nn, nn1], by simp [q, St.only, nn1]⟩
 clear hF
 rintro v_x3 _ _ yy1 ⟨rfl, rfl⟩ hF hR1
 simp only [bits_check.l0] at hF
 refine rg fun K hK => ?_
 refine Wq (by simp; rfl) ?_
 refine hK _ _ ?_; clear hK K
 refine Run.seq ?_
 refine Run.testEnd (b := (decide (v_x3 < (l_1.length : Int)))) (by simp) (fun h5 => ?_) (fun h5 => ?_)
 ·
  rw [itet h5] at hF; try simp at h5
  refine Run.skip ?_
  show Run _ _ _ _ _ _
  refine Run.seq ?_
  refine Run.block ?_
  replace hF := chkO hF; obtain ⟨hc6, hF⟩ := hF
  refine rg fun K hK => ?_
  have q := h5
  refine Wq (evF_ix (tg := .none) (rw := (rwI .u64)) (xs := l_1) (k := .i64) (n := v_x3) (by simp; rfl) rfl (by simp; rfl) (by simp [q]) (by simp [q]) hc6.1 hc6.2 (by simp)) ?_
  iterate 2 refine wq ?_
  refine hK _ _ ?_; clear hK K
  replace hF := bindO hF; obtain ⟨y7, hy7, hF⟩ := hF
  refine rg fun K hK => ?_
  iterate 2 refine wq ?_
  refine wcq (bits_Mask_ok hy7) ?_; rintro _ rfl; simp
  refine wq ?_
  refine hK _ _ ?_; clear hK K
  refine Run.testEnd (b := (decide (y7 < (nth l_1 v_x3)))) (by simp [q]) (fun h8 => ?_) (fun h8 => ?_)
  ·
   rw [itet h8] at hF; try simp at h8
   refine rg fun K hK => ?_
   have q := And.intro q h8
   refine wq ?_
   refine hK _ _ ?_; clear hK K
   refine Run.ret ?_
   have hv := hR1 _ (Option.some.inj hF).symm
   subst hv
   simp [tupA, h5, h8]
  rw [itef h8] at hF; try simp at h8
  refine Run.skip ?_
  show Run _ _ _ _ _ _
  refine rge fun K hK => ?_
  have q := And.intro q h8
  iterate 2 refine wq ?_
  refine hK _ _ ?_; clear hK K
  exact ⟨_, (Option.some.inj hF).symm, by simp [q, Fm.rst, nn, nn1], by simp [q, St.only, nn1]⟩
 rw [itef h5] at hF; try simp at h5
 refine Run.exit ?_
 replace hF := mapO hF; obtain ⟨z9, hF, hz⟩ := hF; have hz2 := (hR1 _ hz.symm).symm; subst hz2; clear hz
 show Run _ _ _ _ _ _
 refine rg fun K hK => ?_
 have q := h5
 refine wq ?_
 refine hK _ _ ?_; clear hK K
 refine Run.ret ?_
 obtain rfl := Option.some.inj hF
 simp [tupA, h5]

/-! bits_Signed -/

def bits_Signed [Fx] (width_0 : Int) (x_1 : Int) : Option (Int × Int) :=
 ((bits_check width_0 [x_1]).bind fun y1 =>
 (if (!decide (y1 = 0)) then
 some (0, y1)
 else
 ((bits_signed width_0 x_1).bind fun y3 =>
 some (y3, 0))))
theorem bits_Signed_ok [Fx] {width_0 : Int} {x_1 : Int} {r : Int × Int} (hF : bits_Signed width_0 x_1 = some r) : PCall Tryd.prog EE 73 [.int .i64 width_0, .int .u64 x_1] fun v => v = .tup [.int .i64 r.1, .int .i64 r.2] := by
 refine PCall.of_fun EOK (F := Tryd.f73) 17 [.tmp 4, .tmp 5] (by kernel_rfl) rfl rfl rfl rfl (Nat.le_of_ble_eq_true rfl) (by simp) ?_
 simp only [slotsA]
 unfold bits_Signed at hF
 refine rg fun K hK => ?_
 iterate 2 refine Wq (by simp; rfl) ?_
 refine hK _ _ ?_; clear hK K
 refine Run.seq ?_
 replace hF := bindO hF; obtain ⟨y1, hy1, hF⟩ := hF
 refine rg fun K hK => ?_
 iterate 2 refine Wq (by simp; rfl) ?_
 refine We rfl ?_; simp; refine .inr ?_
 refine Wc rfl rfl rfl (by first | (simp; rfl) | (simp; done)) (by simp; done) (bits_check_ok hy1) ?_; rintro _ rfl; simp
 refine Wq (by simp; rfl) ?_
 refine hK _ _ ?_; clear hK K
 refine rg fun K hK => ?_
 iterate 2 refine Wq (by simp; rfl) ?_
 refine hK _ _ ?_; clear hK K
 refine Run.testEnd (b := (!decide (y1 = 0))) (by simp) (fun h2 => ?_) (fun h2 => ?_)
 ·
  rw [itet h2] at hF; try simp at h2
  refine rg fun K hK => ?_
  have q := h2
  iterate 3 refine wq ?_
  refine hK _ _ ?_; clear hK K
  refine Run.ret ?_
  obtain rfl := Option.some.inj hF
  simp [tupA, h2]
 rw [itef h2] at hF; try simp at h2
 refine Run.skip ?_
 show Run _ _ _ _ _ _
 replace hF := bindO hF; obtain ⟨y3, hy3, hF⟩ := hF
 refine rg fun K hK => ?_
 have q := h2
 iterate 2 refine wq ?_
 refine wcq (bits_signed_ok hy3) ?_; rintro _ rfl; simp
 iterate 2 refine wq ?_
 refine hK _ _ ?_; clear hK K
 refine Run.ret ?_
 obtain rfl := Option.some.inj hF
 simp [tupA, h2]

/-! machine_checker_must -/
def machine_checker_must.l0 [Fx] (l_1 : List Bool) : Int × TMachineChecker → Option ((Int × TMachineChecker) ⊕ TMachineChecker) := fun v =>
 match v with
 | (v_x1, v_x2) =>
 (if (decide (v_x1 < (l_1.length : Int))) then
 (if (0 : Int) ≤ v_x1 ∧ v_x1 < (l_1.length : Int) then
 some (.inl ((IntKind.i64.wrap (v_x1 + 1)), (TMachineChecker.mk v_x2.machine (v_x2.ok && (nth l_1 v_x1)))))
 else none)
 else
 (Option.map Sum.inr (some v_x2)))
def machine_checker_must [Fx] (c_0 : TMachineChecker) (l_1 : List Bool) : Option TMachineChecker :=
 Fx.fx (machine_checker_must.l0 l_1) (0, c_0)
theorem machine_checker_must_ok [Fx] {b_0 : Nat} {c_0 : TMachineChecker} {l_1 : List Bool} {r : TMachineChecker} (hF : machine_checker_must c_0 l_1 = some r) : ACall Tryd.prog EE 28 [.ptr b_0 0, .full (l_1.map rwB)] ⟨[(b_0, c_0.row)], []⟩ fun v σ => v = .tup [] ∧ σ = ⟨[(b_0, r.row)], []⟩ := by
 refine ACall.of_fun EOK (F := Tryd.f28) 23 [] (by kernel_rfl) rfl rfl rfl rfl (Nat.le_of_ble_eq_true rfl) (by simp) ?_
 simp only [slotsA]
 unfold machine_checker_must at hF
 refine rg fun K hK => ?_
 iterate 3 refine Wq (by simp; rfl) ?_
 refine hK _ _ ?_; clear hK K
 refine Run.block ?_
 refine Run.fixX hF [0, 6, 7, 8] [] [b_0] [] (by simp) (by simp) (by simp) (fun v f σ => ∃ v_x1 : Int, ∃ v_x2 : TMachineChecker, v = (v_x1, v_x2) ∧ f = ⟨23, [(0, .ptr b_0 0), (6, .full (l_1.map rwB)), (7, .int .i64 (l_1.length : Int)), (8, .int .i64 v_x1)], [], []⟩ ∧ σ = ⟨[(b_0, v_x2.row)], []⟩) ?_ ?_
 ·
  exact ⟨0, c_0, rfl, by simp [Fm.rst, nn, nn1], by simp [St.only, nn1]⟩
 clear hF
 rintro _ _ _ yy1 ⟨v_x1, v_x2, rfl, rfl, rfl⟩ hF hR1
 simp only [machine_checker_must.l0] at hF
 refine rg fun K hK => ?_
 refine Wq (by simp; rfl) ?_
 refine hK _ _ ?_; clear hK K
 refine Run.seq ?_
 refine Run.testEnd (b := (decide (v_x1 < (l_1.length : Int)))) (by simp) (fun h5 => ?_) (fun h5 => ?_)
 ·
  rw [itet h5] at hF; try simp at h5
  refine Run.skip ?_
  show Run _ _ _ _ _ _
  refine Run.seq ?_
  refine Run.block ?_
  replace hF := chkO hF; obtain ⟨hc6, hF⟩ := hF
  refine rg fun K hK => ?_
  have q := h5
  refine Wq (evF_ix (tg := .none) (rw := rwB) (xs := l_1) (k := .i64) (n := v_x1) (by simp; rfl) rfl (by simp; rfl) (by simp [q]) (by simp [q]) hc6.1 hc6.2 (by simp)) ?_
  iterate 2 refine wq ?_
  refine hK _ _ ?_; clear hK K
  refine rge fun K hK => ?_
  iterate 6 refine wq ?_
  obtain ⟨g7, e7⟩ : ∃ g, g = v_x2.ok := ⟨_, rfl⟩
  refine Wg rfl (b := g7) (by simp [q, e7]) (fun hg => by simp [q, hg]; rfl) ?_
  refine Wand (t := v_x2.ok) (β := (nth l_1 v_x1)) (by simp [q]) rfl (fun hh => by have h0 := e7.trans hh; simp [q, h0]) (by first | (simp; done) | (simp; rfl)) ?_
  iterate 2 refine wq ?_
  refine We rfl ?_; simp [q]
  refine hK _ _ ?_; clear hK K
  show Run _ _ _ _ _ _
  refine rge fun K hK => ?_
  iterate 2 refine wq ?_
  refine hK _ _ ?_; clear hK K
  exact ⟨_, (Option.some.inj hF).symm, (IntKind.i64.wrap (v_x1 + 1)), (TMachineChecker.mk v_x2.machine (v_x2.ok && (nth l_1 v_x1))), rfl, by simp [q, Fm.rst, nn, nn1], by simp [q, St.only, nn1]⟩
 rw [itef h5] at hF; try simp at h5
 refine Run.exit ?_
 replace hF := mapO hF; obtain ⟨z8, hF, hz⟩ := hF; have hz2 := (hR1 _ hz.symm).symm; subst hz2; clear hz
 obtain rfl := Option.some.inj hF
 refine ⟨by simp, by simp, _, _, _, rfl, .inl rfl, ?_, ?_, ?_, rfl⟩
 all_goals simp [tupA, h5]

/-! machine_names_fresh -/

def machine_names_fresh [Fx] (n_0 : TMachineNames) (s_1 : List UInt8) : Option (TMachineNames × Bool) :=
 ((bits_Name s_1).bind fun y1 =>
 ((if y1 then slices_Contains_string n_0.used s_1 else some default).bind fun y3 =>
 (if (n_0.used.length + 1) * 17 ≤ 140737488351232 then
 some ((TMachineNames.mk (n_0.used ++ [s_1])), (y1 && (!y3)))
 else none)))
theorem machine_names_fresh_ok [Fx] {b_0 : Nat} {n_0 : TMachineNames} {s_1 : List UInt8} {r : TMachineNames × Bool} (hF : machine_names_fresh n_0 s_1 = some r) : ACall Tryd.prog EE 34 [.ptr b_0 0, .str s_1] ⟨[(b_0, ([.grow 1 (n_0.used.map rwS)]))], []⟩ fun v σ => v = .bool r.2 ∧ σ = ⟨[(b_0, ([.grow 1 (r.1.used.map rwS)]))], []⟩ := by
 refine ACall.of_fun EOK (F := Tryd.f34) 28 [.tmp 4] (by kernel_rfl) rfl rfl rfl rfl (Nat.le_of_ble_eq_true rfl) (by simp) ?_
 simp only [slotsA]
 unfold machine_names_fresh at hF
 refine rg fun K hK => ?_
 refine Wq (by simp; rfl) ?_
 refine hK _ _ ?_; clear hK K
 replace hF := bindO hF; obtain ⟨y1, hy1, hF⟩ := hF
 replace hF := bindO hF; obtain ⟨y3, hy3, hF⟩ := hF
 refine rg fun K hK => ?_
 refine Wq (by simp; rfl) ?_
 refine Wc rfl rfl rfl (by first | (simp; rfl) | (simp; done)) (by simp; done) (bits_Name_ok hy1) ?_; rintro _ rfl; simp
 refine Wq (by simp; rfl) ?_
 obtain ⟨g2, e2⟩ : ∃ g, g = y1 := ⟨_, rfl⟩
 iterate 5 refine Wg rfl (b := g2) (by simp [e2]) (fun hg => by simp [hg]; rfl) ?_
 refine Wgc rfl rfl (b := g2) (by simp [e2]) rfl rfl (fun hg => by simp [hg]; rfl) (fun hg => by simp [hg]; done) (fun hg => slices_Contains_string_ok ((itet (e2.symm.trans hg)).symm.trans hy3)) ?_
 simp
 refine Wg rfl (b := g2) (by simp [e2]) (fun hg => by simp [hg]; rfl) ?_
 refine Wand (t := y1) (β := (!y3)) (by simp) rfl (fun hh => by have h0 := e2.trans hh; simp [h0]) (by first | (simp; done) | (simp; rfl)) ?_
 refine Wq (by simp; rfl) ?_
 refine hK _ _ ?_; clear hK K
 replace hF := chkO hF; obtain ⟨hc4, hF⟩ := hF
 refine rg fun K hK => ?_
 iterate 6 refine Wq (by simp; rfl) ?_
 refine We rfl ?_; simp; refine .inr ?_
 refine We rfl ?_; simp; first | (refine ⟨by omega, ?_⟩) | (refine ⟨by simp, by omega, ?_⟩) | skip
 iterate 2 refine Wq (by simp; rfl) ?_
 refine We rfl ?_; simp
 refine hK _ _ ?_; clear hK K
 refine rg fun K hK => ?_
 iterate 2 refine Wq (by simp; rfl) ?_
 refine hK _ _ ?_; clear hK K
 refine Run.ret ?_
 obtain rfl := Option.some.inj hF
 refine ⟨by simp, by simp, _, _, _, rfl, .inl rfl, ?_, ?_, ?_, rfl⟩
 all_goals simp [tupA]

/-! machine_checker_units -/
def machine_checker_units.l0 [Fx] (y1 : TMachineChecker) : Int × (List (List UInt8)) × TMachineChecker → Option ((Int × (List (List UInt8)) × TMachineChecker) ⊕ TMachineChecker) := fun v =>
 match v with
 | (v_x2, v_x3, v_x4) =>
 (if (decide (v_x2 < (y1.machine.units.length : Int))) then
 (if (0 : Int) ≤ v_x2 ∧ v_x2 < (y1.machine.units.length : Int) then
 ((machine_names_fresh (TMachineNames.mk v_x3) ((nth y1.machine.units v_x2).name)).bind fun y10 =>
 ((machine_within ((nth y1.machine.units v_x2).count) 1 4).bind fun y11 =>
 ((machine_checker_must v_x4 [y10.2, y11]).bind fun y12 =>
 some (.inl ((IntKind.i64.wrap (v_x2 + 1)), y10.1.used, y12)))))
 else none)
 else
 (Option.map Sum.inr (some v_x4)))
def machine_checker_units [Fx] (c_0 : TMachineChecker) : Option TMachineChecker :=
 ((machine_checker_must c_0 [(decide (0 < (c_0.machine.units.length : Int)))]).bind fun y1 =>
 Fx.fx (machine_checker_units.l0 y1) (0, [], y1))
theorem machine_checker_units_ok [Fx] {b_0 : Nat} {c_0 : TMachineChecker} {r : TMachineChecker} (hF : machine_checker_units c_0 = some r) : ACall Tryd.prog EE 33 [.ptr b_0 0] ⟨[(b_0, c_0.row)], []⟩ fun v σ => v = .tup [] ∧ σ = ⟨[(b_0, r.row)], []⟩ := by
 refine ACall.of_fun EOK (F := Tryd.f33) 35 [] (by kernel_rfl) rfl rfl rfl rfl (Nat.le_of_ble_eq_true rfl) (by simp) ?_
 simp only [slotsA]
 unfold machine_checker_units at hF
 refine rg fun K hK => ?_
 refine We rfl ?_; simp
 intro b2 hb2; simp [Fresh] at hb2; have hq2 : ¬b_0 = b2 := by omega
 refine hK _ _ ?_; clear hK K
 have q := And.intro hb2 hq2
 refine Run.retagBE b2 0 1 (by simp [q]; rfl) (by simp) (by omega) (by simp [q]; rfl) (by simp [q]; rfl) ?_
 replace hF := bindO hF; obtain ⟨y1, hy1, hF⟩ := hF
 refine rg fun K hK => ?_
 iterate 8 refine wq ?_
 refine We rfl ?_; simp [q]; refine .inr ?_
 refine Wcb ⟨[(b_0, _)], []⟩ ⟨[(b2, _)], []⟩ rfl rfl rfl (by simp [q]; rfl) (by simp [q]; done) (machine_checker_must_ok (b_0 := b_0) hy1) pk1 (by exact pick0) ?_
 rintro _ _ ⟨rfl, rfl⟩; simp [noCells, noCellS, noCellV, noCellC, noCellT, St.add]
 refine hK _ _ ?_; clear hK K
 refine rg fun K hK => ?_
 iterate 7 refine wq ?_
 refine hK _ _ ?_; clear hK K
 refine Run.block ?_
 refine Run.fixX hF [0, 2, 19, 20, 21] [] [b2, b_0] [] (by simp [q]) (by simp) (by simp) (fun v f σ => ∃ v_x2 : Int, ∃ v_x3 : List (List UInt8), ∃ v_x4 : TMachineChecker, v = (v_x2, v_x3, v_x4) ∧ f = ⟨35, [(0, .ptr b_0 0), (2, .ptr b2 0), (19, .list .none (y1.machine.units.map TMachUnit.row)), (20, .int .i64 (y1.machine.units.length : Int)), (21, .int .i64 v_x2)], [], []⟩ ∧ σ = ⟨[(b2, ([.grow 1 (v_x3.map rwS)])), (b_0, v_x4.row)], []⟩) ?_ ?_
 ·
  exact ⟨0, [], y1, rfl, by simp [q, Fm.rst, nn, nn1], by simp [q, St.only, nn1]⟩
 clear hF
 rintro _ _ _ yy1 ⟨v_x2, v_x3, v_x4, rfl, rfl, rfl⟩ hF hR1
 simp only [machine_checker_units.l0] at hF
 refine rg fun K hK => ?_
 refine wq ?_
 refine hK _ _ ?_; clear hK K
 refine Run.seq ?_
 refine Run.testEnd (b := (decide (v_x2 < (y1.machine.units.length : Int)))) (by simp [q]) (fun h8 => ?_) (fun h8 => ?_)
 ·
  rw [itet h8] at hF; try simp at h8
  refine Run.skip ?_
  show Run _ _ _ _ _ _
  refine Run.seq ?_
  refine Run.block ?_
  replace hF := chkO hF; obtain ⟨hc9, hF⟩ := hF
  refine rg fun K hK => ?_
  have q := And.intro q h8
  refine Wq (evF_ix (tg := .none) (rw := TMachUnit.row) (xs := y1.machine.units) (k := .i64) (n := v_x2) (by simp; rfl) rfl (by simp; rfl) (by simp [q]) (by simp [q]) hc9.1 hc9.2 (by simp)) ?_
  refine wq ?_
  refine We rfl ?_; simp [q]
  intro b4 hb4; simp [Fresh] at hb4; have hq4 : ¬b2 = b4 ∧ ¬b_0 = b4 := by omega
  have q := And.intro (And.intro q hb4) hq4
  refine We rfl ?_; simp [q]
  refine hK _ _ ?_; clear hK K
  replace hF := bindO hF; obtain ⟨y10, hy10, hF⟩ := hF
  replace hF := bindO hF; obtain ⟨y11, hy11, hF⟩ := hF
  replace hF := bindO hF; obtain ⟨y12, hy12, hF⟩ := hF
  refine Run.drawH EOK mixed ⟨[(b4, _), (b_0, _)], []⟩ ⟨[(b2, _)], []⟩ ((pick1 (by first | (simp [q]; done) | (simp [q]; rfl) | (simp [q]; repeat' first | rfl | apply And.intro)) (by first | (simp [q]; done) | (simp [q]; rfl) | (simp [q]; repeat' first | rfl | apply And.intro))).trans List.perm_append_comm) (by exact pick0.trans List.perm_append_comm) (by simp [noCells, noCellS, noCellV, noCellC, noCellT]) 8 [0, 1, 2, 4, 5, 3, 6, 7] rfl (by kernel_rfl) fun K hK => ?_
  iterate 5 refine Hq rfl (by simp [q]; rfl) ?_
  refine Hcb ⟨[(b2, _)], []⟩ ⟨[], []⟩ rfl rfl rfl rfl (by simp [q]; rfl) (by simp [q]; done) (machine_names_fresh_ok (b_0 := b2) hy10) pk1 (by exact pick0) ?_
  rintro _ _ ⟨rfl, rfl⟩; simp [noCells, noCellS, noCellV, noCellC, noCellT, St.add]
  refine Hc rfl rfl rfl rfl (by first | (simp [q]; rfl) | (simp [q]; done)) (by simp [q]; done) (machine_within_ok hy11) (by simp [noCells, noCellS, noCellV, noCellC, noCellT]) ?_; rintro _ rfl; simp
  refine Hq rfl (by simp [q]; rfl) ?_
  refine Hd ?_; simp [St.add]
  refine Wcb ⟨[(b_0, _)], []⟩ ⟨[(b4, _), (b2, _)], []⟩ rfl rfl rfl (by simp [q]; rfl) (by simp [q]; done) (machine_checker_must_ok (b_0 := b_0) hy12) pk1 (by exact pick0) ?_
  rintro _ _ ⟨rfl, rfl⟩; simp [noCells, noCellS, noCellV, noCellC, noCellT, St.add]
  refine hK _ _ ?_; clear hK K
  show Run _ _ _ _ _ _
  refine rge fun K hK => ?_
  iterate 2 refine wq ?_
  refine hK _ _ ?_; clear hK K
  exact ⟨_, (Option.some.inj hF).symm, (IntKind.i64.wrap (v_x2 + 1)), y10.1.used, y12, rfl, by simp [q, Fm.rst, nn, nn1], by simp [q, St.only, nn1]⟩
 rw [itef h8] at hF; try simp at h8
 refine Run.exit ?_
 replace hF := mapO hF; obtain ⟨z13, hF, hz⟩ := hF; have hz2 := (hR1 _ hz.symm).symm; subst hz2; clear hz
 obtain rfl := Option.some.inj hF
 refine ⟨by simp, by simp, _, _, _, rfl, .inl rfl, ?_, ?_, ?_, rfl⟩
 all_goals simp [tupA, hb2, hq2, h8]

/-! machine_checker_regs -/
def machine_checker_regs.j0 [Fx] (v_x2 : Int) (v_x9 : List (List UInt8)) (v_x10 : TMachineChecker) : Option ((Int × (List (List UInt8)) × TMachineChecker) ⊕ TMachineChecker) :=
 some (.inl ((IntKind.i64.wrap (v_x2 + 1)), v_x9, v_x10))
def machine_checker_regs.l0 [Fx] (y1 : TMachineChecker) : Int × (List (List UInt8)) × TMachineChecker → Option ((Int × (List (List UInt8)) × TMachineChecker) ⊕ TMachineChecker) := fun v =>
 match v with
 | (v_x2, v_x3, v_x4) =>
 (if (decide (v_x2 < (y1.machine.regs.length : Int))) then
 (if (0 : Int) ≤ v_x2 ∧ v_x2 < (y1.machine.regs.length : Int) then
 ((machine_names_fresh (TMachineNames.mk v_x3) ((nth y1.machine.regs v_x2).name)).bind fun y12 =>
 ((machine_within ((nth y1.machine.regs v_x2).width) 1 64).bind fun y13 =>
 ((machine_checker_must v_x4 [y12.2, y13]).bind fun y14 =>
 (if (decide (((nth y1.machine.regs v_x2).of_) = (-1))) then
 ((machine_checker_must y14 [(decide (((nth y1.machine.regs v_x2).low) = 0))]).bind fun y16 =>
 machine_checker_regs.j0 v_x2 y12.1.used y16)
 else
 ((machine_within ((nth y1.machine.regs v_x2).of_) 0 (IntKind.i64.wrap ((y14.machine.regs.length : Int) - 1))).bind fun y17 =>
 (if (!y17) then
 ((machine_checker_must y14 [false]).bind fun y19 =>
 machine_checker_regs.j0 v_x2 y12.1.used y19)
 else
 (if (0 : Int) ≤ ((nth y1.machine.regs v_x2).of_) ∧ ((nth y1.machine.regs v_x2).of_) < (y14.machine.regs.length : Int) then
 ((machine_within ((nth y14.machine.regs ((nth y1.machine.regs v_x2).of_)).width) 1 64).bind fun y21 =>
 ((machine_within ((nth y1.machine.regs v_x2).low) 0 (IntKind.i64.wrap (((nth y14.machine.regs ((nth y1.machine.regs v_x2).of_)).width) - ((nth y1.machine.regs v_x2).width)))).bind fun y22 =>
 ((machine_checker_must y14 [(decide (((nth y14.machine.regs ((nth y1.machine.regs v_x2).of_)).of_) = (-1))), (decide (((nth y1.machine.regs v_x2).width) < ((nth y14.machine.regs ((nth y1.machine.regs v_x2).of_)).width))), y21, y22]).bind fun y23 =>
 machine_checker_regs.j0 v_x2 y12.1.used y23)))
 else none)))))))
 else none)
 else
 (Option.map Sum.inr (some v_x4)))
def machine_checker_regs [Fx] (c_0 : TMachineChecker) : Option TMachineChecker :=
 ((machine_checker_must c_0 [(decide (0 < (c_0.machine.regs.length : Int)))]).bind fun y1 =>
 Fx.fx (machine_checker_regs.l0 y1) (0, [], y1))
theorem machine_checker_regs_ok [Fx] {b_0 : Nat} {c_0 : TMachineChecker} {r : TMachineChecker} (hF : machine_checker_regs c_0 = some r) : ACall Tryd.prog EE 31 [.ptr b_0 0] ⟨[(b_0, c_0.row)], []⟩ fun v σ => v = .tup [] ∧ σ = ⟨[(b_0, r.row)], []⟩ := by
 refine ACall.of_fun EOK (F := Tryd.f31) 92 [] (by kernel_rfl) rfl rfl rfl rfl (Nat.le_of_ble_eq_true rfl) (by simp) ?_
 simp only [slotsA]
 unfold machine_checker_regs at hF
 refine rg fun K hK => ?_
 refine We rfl ?_; simp
 intro b2 hb2; simp [Fresh] at hb2; have hq2 : ¬b_0 = b2 := by omega
 refine hK _ _ ?_; clear hK K
 have q := And.intro hb2 hq2
 refine Run.retagBE b2 0 1 (by simp [q]; rfl) (by simp) (by omega) (by simp [q]; rfl) (by simp [q]; rfl) ?_
 replace hF := bindO hF; obtain ⟨y1, hy1, hF⟩ := hF
 refine rg fun K hK => ?_
 iterate 8 refine wq ?_
 refine We rfl ?_; simp [q]; refine .inr ?_
 refine Wcb ⟨[(b_0, _)], []⟩ ⟨[(b2, _)], []⟩ rfl rfl rfl (by simp [q]; rfl) (by simp [q]; done) (machine_checker_must_ok (b_0 := b_0) hy1) pk1 (by exact pick0) ?_
 rintro _ _ ⟨rfl, rfl⟩; simp [noCells, noCellS, noCellV, noCellC, noCellT, St.add]
 refine hK _ _ ?_; clear hK K
 refine rg fun K hK => ?_
 iterate 7 refine wq ?_
 refine hK _ _ ?_; clear hK K
 refine Run.block ?_
 refine Run.fixX hF [0, 2, 20, 21, 22] [] [b2, b_0] [] (by simp [q]) (by simp) (by simp) (fun v f σ => ∃ v_x2 : Int, ∃ v_x3 : List (List UInt8), ∃ v_x4 : TMachineChecker, v = (v_x2, v_x3, v_x4) ∧ f = ⟨92, [(0, .ptr b_0 0), (2, .ptr b2 0), (20, .list .none (y1.machine.regs.map TMachReg.row)), (21, .int .i64 (y1.machine.regs.length : Int)), (22, .int .i64 v_x2)], [], []⟩ ∧ σ = ⟨[(b2, ([.grow 1 (v_x3.map rwS)])), (b_0, v_x4.row)], []⟩) ?_ ?_
 ·
  exact ⟨0, [], y1, rfl, by simp [q, Fm.rst, nn, nn1], by simp [q, St.only, nn1]⟩
 clear hF
 rintro _ _ _ yy1 ⟨v_x2, v_x3, v_x4, rfl, rfl, rfl⟩ hF hR1
 simp only [machine_checker_regs.l0] at hF
 refine rg fun K hK => ?_
 refine wq ?_
 refine hK _ _ ?_; clear hK K
 refine Run.seq ?_
 refine Run.testEnd (b := (decide (v_x2 < (y1.machine.regs.length : Int)))) (by simp [q]) (fun h8 => ?_) (fun h8 => ?_)
 ·
  rw [itet h8] at hF; try simp at h8
  refine Run.skip ?_
  show Run _ _ _ _ _ _
  have q := And.intro q h8
  refine Run.join [0, 2, 20, 21, 22] [] [b2, b_0] [] (by simp [q]) (by simp) (by simp) (fun f σ => ∃ v_x9 : List (List UInt8), ∃ v_x10 : TMachineChecker, f = ⟨92, [(0, .ptr b_0 0), (2, .ptr b2 0), (20, .list .none (y1.machine.regs.map TMachReg.row)), (21, .int .i64 (y1.machine.regs.length : Int)), (22, .int .i64 v_x2)], [], []⟩ ∧ σ = ⟨[(b2, ([.grow 1 (v_x9.map rwS)])), (b_0, v_x10.row)], []⟩ ∧ machine_checker_regs.j0 v_x2 v_x9 v_x10 = some yy1) ?_ ?_
  ·
   clear hF
   rintro _ _ ⟨v_x9, v_x10, rfl, rfl, hF⟩
   unfold machine_checker_regs.j0 at hF
   refine rge fun K hK => ?_
   have q := And.intro hb2 hq2
   iterate 2 refine wq ?_
   refine hK _ _ ?_; clear hK K
   exact ⟨_, (Option.some.inj hF).symm, (IntKind.i64.wrap (v_x2 + 1)), v_x9, v_x10, rfl, by simp [q, Fm.rst, nn, nn1], by simp [q, St.only, nn1]⟩
  skip
  refine Run.block ?_
  replace hF := chkO hF; obtain ⟨hc11, hF⟩ := hF
  refine rg fun K hK => ?_
  refine Wq (evF_ix (tg := .none) (rw := TMachReg.row) (xs := y1.machine.regs) (k := .i64) (n := v_x2) (by simp; rfl) rfl (by simp; rfl) (by simp [q]) (by simp [q]) hc11.1 hc11.2 (by simp)) ?_
  refine wq ?_
  refine We rfl ?_; simp [q]
  intro b4 hb4; simp [Fresh] at hb4; have hq4 : ¬b2 = b4 ∧ ¬b_0 = b4 := by omega
  have q := And.intro (And.intro q hb4) hq4
  refine We rfl ?_; simp [q]
  refine hK _ _ ?_; clear hK K
  replace hF := bindO hF; obtain ⟨y12, hy12, hF⟩ := hF
  replace hF := bindO hF; obtain ⟨y13, hy13, hF⟩ := hF
  replace hF := bindO hF; obtain ⟨y14, hy14, hF⟩ := hF
  refine Run.drawHReg EOK mixed ⟨[(b4, _), (b_0, _)], []⟩ ⟨[(b2, _)], []⟩ ((pick1 (by first | (simp [q]; done) | (simp [q]; rfl) | (simp [q]; repeat' first | rfl | apply And.intro)) (by first | (simp [q]; done) | (simp [q]; rfl) | (simp [q]; repeat' first | rfl | apply And.intro))).trans List.perm_append_comm) (by exact pick0.trans List.perm_append_comm) (by simp [noCells, noCellS, noCellV, noCellC, noCellT]) 8 [0, 1, 2, 4, 5, 3, 6, 7] rfl (by kernel_rfl) fun K hK => ?_
  iterate 5 refine Hq rfl (by simp [q]; rfl) ?_
  refine Hcb ⟨[(b2, _)], []⟩ ⟨[], []⟩ rfl rfl rfl rfl (by simp [q]; rfl) (by simp [q]; done) (machine_names_fresh_ok (b_0 := b2) hy12) pk1 (by exact pick0) ?_
  rintro _ _ ⟨rfl, rfl⟩; simp [noCells, noCellS, noCellV, noCellC, noCellT, St.add]
  refine Hc rfl rfl rfl rfl (by first | (simp [q]; rfl) | (simp [q]; done)) (by simp [q]; done) (machine_within_ok hy13) (by simp [noCells, noCellS, noCellV, noCellC, noCellT]) ?_; rintro _ rfl; simp
  refine Hq rfl (by simp [q]; rfl) ?_
  refine Hd ?_; simp [St.add]
  refine Wcb ⟨[(b_0, _)], []⟩ ⟨[(b4, _), (b2, _)], []⟩ rfl rfl rfl (by simp [q]; rfl) (by simp [q]; done) (machine_checker_must_ok (b_0 := b_0) hy14) pk1 (by exact pick0) ?_
  rintro _ _ ⟨rfl, rfl⟩; simp [noCells, noCellS, noCellV, noCellC, noCellT, St.add]
  refine hK _ _ ?_; clear hK K
  refine Run.block ?_
  refine rg fun K hK => ?_
  iterate 4 refine wq ?_
  refine hK _ _ ?_; clear hK K
  refine Run.testEnd (b := (decide (((nth y1.machine.regs v_x2).of_) = (-1)))) (by simp [q]) (fun h15 => ?_) (fun h15 => ?_)
  ·
   rw [itet h15] at hF; try simp at h15
   replace hF := bindO hF; obtain ⟨y16, hy16, hF⟩ := hF
   refine rge fun K hK => ?_
   have q := And.intro q h15
   iterate 4 refine wq ?_
   refine We rfl ?_; simp [q]; refine .inr ?_
   refine Wcb ⟨[(b_0, _)], []⟩ ⟨[(b4, _), (b2, _)], []⟩ rfl rfl rfl (by simp [q]; rfl) (by simp [q]; done) (machine_checker_must_ok (b_0 := b_0) hy16) pk1 (by exact pick0) ?_
   rintro _ _ ⟨rfl, rfl⟩; simp [noCells, noCellS, noCellV, noCellC, noCellT, St.add]
   refine hK _ _ ?_; clear hK K
   exact ⟨y12.1.used, y16, by simp [q, Fm.rst, nn, nn1], by simp [q, St.only, nn1], hF⟩
  rw [itef h15] at hF; try simp at h15
  replace hF := bindO hF; obtain ⟨y17, hy17, hF⟩ := hF
  refine Run.drawReg EOK mixed 9 [0, 1, 2, 3, 4, 5, 6, 7, 8] rfl (by kernel_rfl) fun K hK => ?_
  have q := And.intro q h15
  iterate 9 refine Pq rfl (by simp [q]; rfl) ?_
  refine Pd ?_
  refine wcq (machine_within_ok hy17) ?_; rintro _ rfl; simp
  iterate 2 refine wq ?_
  refine hK _ _ ?_; clear hK K
  refine Run.testEnd (b := (!y17)) (by simp [q]) (fun h18 => ?_) (fun h18 => ?_)
  ·
   rw [itet h18] at hF; try simp at h18
   replace hF := bindO hF; obtain ⟨y19, hy19, hF⟩ := hF
   refine rge fun K hK => ?_
   have q := And.intro q h18
   refine wq ?_
   refine We rfl ?_; simp [q]; refine .inr ?_
   refine Wcb ⟨[(b_0, _)], []⟩ ⟨[(b4, _), (b2, _)], []⟩ rfl rfl rfl (by simp [q]; rfl) (by simp [q]; done) (machine_checker_must_ok (b_0 := b_0) hy19) pk1 (by exact pick0) ?_
   rintro _ _ ⟨rfl, rfl⟩; simp [noCells, noCellS, noCellV, noCellC, noCellT, St.add]
   refine hK _ _ ?_; clear hK K
   exact ⟨y12.1.used, y19, by simp [q, Fm.rst, nn, nn1], by simp [q, St.only, nn1], hF⟩
  rw [itef h18] at hF; try simp at h18
  replace hF := chkO hF; obtain ⟨hc20, hF⟩ := hF
  refine Run.drawHReg EOK mixed ⟨[(b4, _), (b2, _), (b_0, _)], []⟩ ⟨[], []⟩ (by exact pick0.trans List.perm_append_comm) (by exact pick0.trans List.perm_append_comm) (by simp [noCells, noCellS, noCellV, noCellC, noCellT]) 10 [0, 1, 2, 3, 4, 5, 6, 7, 8, 9] rfl (by kernel_rfl) fun K hK => ?_
  have q := And.intro q h18
  iterate 7 refine Hq rfl (by simp [q]; rfl) ?_
  refine Hq rfl (evP_of (evF_ix (tg := .none) (rw := TMachReg.row) (xs := y14.machine.regs) (k := .i64) (n := ((nth y1.machine.regs v_x2).of_)) (by simp; rfl) rfl (by simp; rfl) (by simp [q]) (by simp [q]) hc20.1 hc20.2 (by simp))) ?_
  refine Hq rfl (by simp [q]; rfl) ?_
  refine Hn rfl rfl rfl (by simp; rfl) (by simp) (by simp) ?_; simp [St.add]
  intro b5 hb5; simp [Fresh] at hb5; have hq5 : ¬b4 = b5 ∧ ¬b2 = b5 ∧ ¬b_0 = b5 := by omega
  refine Hd ?_; simp [St.add]
  have q := And.intro (And.intro q hb5) hq5
  refine We rfl ?_; simp [q]
  refine hK _ _ ?_; clear hK K
  replace hF := bindO hF; obtain ⟨y21, hy21, hF⟩ := hF
  replace hF := bindO hF; obtain ⟨y22, hy22, hF⟩ := hF
  replace hF := bindO hF; obtain ⟨y23, hy23, hF⟩ := hF
  refine Run.draw EOK mixed 21 [0, 1, 2, 3, 4, 5, 6, 7, 8, 9, 10, 12, 13, 14, 15, 16, 17, 18, 11, 19, 20] rfl (by kernel_rfl) fun K hK => ?_
  iterate 18 refine Pq rfl (by simp [q]; rfl) ?_
  refine Pc rfl rfl rfl rfl (by first | (simp [q]; rfl) | (simp [q]; done)) (by simp [q]; done) (machine_within_ok hy21) ?_; rintro _ rfl; simp
  refine Pc rfl rfl rfl rfl (by first | (simp [q]; rfl) | (simp [q]; done)) (by simp [q]; done) (machine_within_ok hy22) ?_; rintro _ rfl; simp
  refine Pq rfl (by simp [q]; rfl) ?_
  refine Pd ?_
  refine Wcb ⟨[(b_0, _)], []⟩ ⟨[(b4, _), (b2, _), (b5, _)], []⟩ rfl rfl rfl (by simp [q]; rfl) (by simp [q]; done) (machine_checker_must_ok (b_0 := b_0) hy23) pk1 (by exact pick0) ?_
  rintro _ _ ⟨rfl, rfl⟩; simp [noCells, noCellS, noCellV, noCellC, noCellT, St.add]
  refine hK _ _ ?_; clear hK K
  exact ⟨y12.1.used, y23, by simp [q, Fm.rst, nn, nn1], by simp [q, St.only, nn1], hF⟩
 rw [itef h8] at hF; try simp at h8
 refine Run.exit ?_
 replace hF := mapO hF; obtain ⟨z24, hF, hz⟩ := hF; have hz2 := (hR1 _ hz.symm).symm; subst hz2; clear hz
 obtain rfl := Option.some.inj hF
 refine ⟨by simp, by simp, _, _, _, rfl, .inl rfl, ?_, ?_, ?_, rfl⟩
 all_goals simp [tupA, hb2, hq2, h8]

/-! machine_checker_banks -/
def machine_checker_banks.j0 [Fx] (v_x11 : Int) (v_x16 : TMachineChecker) : Option ((Int × TMachineChecker) ⊕ ((Int × (List (List UInt8)) × TMachineChecker) ⊕ TMachineChecker)) :=
 some (.inl ((IntKind.i64.wrap (v_x11 + 1)), v_x16))
def machine_checker_banks.l1 [Fx] (c_0 : TMachineChecker) (v_x1 : Int) (y9 : TMachineNames × Bool) : Int × TMachineChecker → Option ((Int × TMachineChecker) ⊕ ((Int × (List (List UInt8)) × TMachineChecker) ⊕ TMachineChecker)) := fun v =>
 match v with
 | (v_x11, v_x12) =>
 (if (decide (v_x11 < (((nth c_0.machine.banks v_x1).regs).length : Int))) then
 (if (0 : Int) ≤ v_x11 ∧ v_x11 < (((nth c_0.machine.banks v_x1).regs).length : Int) then
 (if (0 : Int) ≤ 0 ∧ 0 ≤ v_x11 ∧ v_x11 ≤ (((nth c_0.machine.banks v_x1).regs).length : Int) then
 ((machine_within (nth ((nth c_0.machine.banks v_x1).regs) v_x11) 0 (IntKind.i64.wrap ((v_x12.machine.regs.length : Int) - 1))).bind fun y19 =>
 ((slices_Contains_int ((((nth c_0.machine.banks v_x1).regs).take v_x11.toNat).drop (0 : Int).toNat) (nth ((nth c_0.machine.banks v_x1).regs) v_x11)).bind fun y20 =>
 ((machine_checker_must v_x12 [y19, (!y20)]).bind fun y21 =>
 (if y21.ok then
 (if (0 : Int) ≤ (nth ((nth c_0.machine.banks v_x1).regs) v_x11) ∧ (nth ((nth c_0.machine.banks v_x1).regs) v_x11) < (y21.machine.regs.length : Int) then
 (if (0 : Int) ≤ 0 ∧ 0 < (((nth c_0.machine.banks v_x1).regs).length : Int) then
 (if (0 : Int) ≤ (nth ((nth c_0.machine.banks v_x1).regs) 0) ∧ (nth ((nth c_0.machine.banks v_x1).regs) 0) < (y21.machine.regs.length : Int) then
 ((machine_checker_must y21 [(decide (((nth y21.machine.regs (nth ((nth c_0.machine.banks v_x1).regs) v_x11)).width) = ((nth y21.machine.regs (nth ((nth c_0.machine.banks v_x1).regs) 0)).width)))]).bind fun y26 =>
 machine_checker_banks.j0 v_x11 y26)
 else none)
 else none)
 else none)
 else
 machine_checker_banks.j0 v_x11 y21))))
 else none)
 else none)
 else
 (Option.map Sum.inr (some (.inl ((IntKind.i64.wrap (v_x1 + 1)), y9.1.used, v_x12)))))
def machine_checker_banks.l0 [Fx] (c_0 : TMachineChecker) : Int × (List (List UInt8)) × TMachineChecker → Option ((Int × (List (List UInt8)) × TMachineChecker) ⊕ TMachineChecker) := fun v =>
 match v with
 | (v_x1, v_x2, v_x3) =>
 (if (decide (v_x1 < (c_0.machine.banks.length : Int))) then
 (if (0 : Int) ≤ v_x1 ∧ v_x1 < (c_0.machine.banks.length : Int) then
 ((machine_names_fresh (TMachineNames.mk v_x2) ((nth c_0.machine.banks v_x1).name)).bind fun y9 =>
 ((machine_checker_must v_x3 [y9.2, (decide (0 < (((nth c_0.machine.banks v_x1).regs).length : Int)))]).bind fun y10 =>
 Fx.fx (machine_checker_banks.l1 c_0 v_x1 y9) (0, y10)))
 else none)
 else
 (Option.map Sum.inr (some v_x3)))
def machine_checker_banks [Fx] (c_0 : TMachineChecker) : Option TMachineChecker :=
 Fx.fx (machine_checker_banks.l0 c_0) (0, [], c_0)
theorem machine_checker_banks_ok [Fx] {b_0 : Nat} {c_0 : TMachineChecker} {r : TMachineChecker} (hF : machine_checker_banks c_0 = some r) : ACall Tryd.prog EE 32 [.ptr b_0 0] ⟨[(b_0, c_0.row)], []⟩ fun v σ => v = .tup [] ∧ σ = ⟨[(b_0, r.row)], []⟩ := by
 refine ACall.of_fun EOK (F := Tryd.f32) 85 [] (by kernel_rfl) rfl rfl rfl rfl (Nat.le_of_ble_eq_true rfl) (by simp) ?_
 simp only [slotsA]
 unfold machine_checker_banks at hF
 refine rg fun K hK => ?_
 refine We rfl ?_; simp
 intro b2 hb2; simp [Fresh] at hb2; have hq2 : ¬b_0 = b2 := by omega
 refine hK _ _ ?_; clear hK K
 have q := And.intro hb2 hq2
 refine Run.retagBE b2 0 1 (by simp [q]; rfl) (by simp) (by omega) (by simp [q]; rfl) (by simp [q]; rfl) ?_
 refine rg fun K hK => ?_
 iterate 7 refine wq ?_
 refine hK _ _ ?_; clear hK K
 refine Run.block ?_
 refine Run.fixX hF [0, 2, 11, 12, 13] [] [b2, b_0] [] (by simp [q]) (by simp) (by simp) (fun v f σ => ∃ v_x1 : Int, ∃ v_x2 : List (List UInt8), ∃ v_x3 : TMachineChecker, v = (v_x1, v_x2, v_x3) ∧ f = ⟨85, [(0, .ptr b_0 0), (2, .ptr b2 0), (11, .list .none (c_0.machine.banks.map TMachBank.row)), (12, .int .i64 (c_0.machine.banks.length : Int)), (13, .int .i64 v_x1)], [], []⟩ ∧ σ = ⟨[(b2, ([.grow 1 (v_x2.map rwS)])), (b_0, v_x3.row)], []⟩) ?_ ?_
 ·
  exact ⟨0, [], c_0, rfl, by simp [q, Fm.rst, nn, nn1], by simp [q, St.only, nn1]⟩
 clear hF
 rintro _ _ _ yy1 ⟨v_x1, v_x2, v_x3, rfl, rfl, rfl⟩ hF hR1
 simp only [machine_checker_banks.l0] at hF
 refine rg fun K hK => ?_
 refine wq ?_
 refine hK _ _ ?_; clear hK K
 refine Run.seq ?_
 refine Run.testEnd (b := (decide (v_x1 < (c_0.machine.banks.length : Int)))) (by simp [q]) (fun h7 => ?_) (fun h7 => ?_)
 ·
  rw [itet h7] at hF; try simp at h7
  refine Run.skip ?_
  show Run _ _ _ _ _ _
  refine Run.seq ?_
  refine Run.block ?_
  replace hF := chkO hF; obtain ⟨hc8, hF⟩ := hF
  refine rg fun K hK => ?_
  have q := And.intro q h7
  refine Wq (evF_ix (tg := .none) (rw := TMachBank.row) (xs := c_0.machine.banks) (k := .i64) (n := v_x1) (by simp; rfl) rfl (by simp; rfl) (by simp [q]) (by simp [q]) hc8.1 hc8.2 (by simp)) ?_
  refine wq ?_
  refine We rfl ?_; simp [q]
  intro b4 hb4; simp [Fresh] at hb4; have hq4 : ¬b2 = b4 ∧ ¬b_0 = b4 := by omega
  have q := And.intro (And.intro q hb4) hq4
  refine We rfl ?_; simp [q]
  refine hK _ _ ?_; clear hK K
  replace hF := bindO hF; obtain ⟨y9, hy9, hF⟩ := hF
  replace hF := bindO hF; obtain ⟨y10, hy10, hF⟩ := hF
  refine Run.drawHReg EOK mixed ⟨[(b4, _), (b_0, _)], []⟩ ⟨[(b2, _)], []⟩ ((pick1 (by first | (simp [q]; done) | (simp [q]; rfl) | (simp [q]; repeat' first | rfl | apply And.intro)) (by first | (simp [q]; done) | (simp [q]; rfl) | (simp [q]; repeat' first | rfl | apply And.intro))).trans List.perm_append_comm) (by exact pick0.trans List.perm_append_comm) (by simp [noCells, noCellS, noCellV, noCellC, noCellT]) 9 [0, 1, 2, 4, 5, 6, 7, 3, 8] rfl (by kernel_rfl) fun K hK => ?_
  iterate 7 refine Hq rfl (by simp [q]; rfl) ?_
  refine Hcb ⟨[(b2, _)], []⟩ ⟨[], []⟩ rfl rfl rfl rfl (by simp [q]; rfl) (by simp [q]; done) (machine_names_fresh_ok (b_0 := b2) hy9) pk1 (by exact pick0) ?_
  rintro _ _ ⟨rfl, rfl⟩; simp [noCells, noCellS, noCellV, noCellC, noCellT, St.add]
  refine Hq rfl (by simp [q]; rfl) ?_
  refine Hd ?_; simp [St.add]
  refine Wcb ⟨[(b_0, _)], []⟩ ⟨[(b4, _), (b2, _)], []⟩ rfl rfl rfl (by simp [q]; rfl) (by simp [q]; done) (machine_checker_must_ok (b_0 := b_0) hy10) pk1 (by exact pick0) ?_
  rintro _ _ ⟨rfl, rfl⟩; simp [noCells, noCellS, noCellV, noCellC, noCellT, St.add]
  refine hK _ _ ?_; clear hK K
  refine rg fun K hK => ?_
  iterate 4 refine wq ?_
  refine hK _ _ ?_; clear hK K
  refine Run.block ?_
  refine Run.fixX hF [0, 2, 4, 11, 12, 13, 28, 29, 30] [] [b4, b2, b_0] [] (by simp [q]) (by simp) (by simp) (fun v f σ => ∃ v_x11 : Int, ∃ v_x12 : TMachineChecker, v = (v_x11, v_x12) ∧ f = ⟨85, [(0, .ptr b_0 0), (2, .ptr b2 0), (4, .ptr b4 0), (11, .list .none (c_0.machine.banks.map TMachBank.row)), (12, .int .i64 (c_0.machine.banks.length : Int)), (13, .int .i64 v_x1), (28, .list .none (((nth c_0.machine.banks v_x1).regs).map (rwI .i64))), (29, .int .i64 (((nth c_0.machine.banks v_x1).regs).length : Int)), (30, .int .i64 v_x11)], [], []⟩ ∧ σ = ⟨[(b4, (nth c_0.machine.banks v_x1).row), (b2, ([.grow 1 (y9.1.used.map rwS)])), (b_0, v_x12.row)], []⟩) ?_ ?_
  ·
   exact ⟨0, y10, rfl, by simp [q, Fm.rst, nn, nn1], by simp [q, St.only, nn1]⟩
  clear hF
  rintro _ _ _ yy2 ⟨v_x11, v_x12, rfl, rfl, rfl⟩ hF hR2
  simp only [machine_checker_banks.l1] at hF
  refine rg fun K hK => ?_
  have q := And.intro hb2 (And.intro hq2 (And.intro hb4 hq4))
  refine wq ?_
  refine hK _ _ ?_; clear hK K
  refine Run.seq ?_
  refine Run.testEnd (b := (decide (v_x11 < (((nth c_0.machine.banks v_x1).regs).length : Int)))) (by simp [q]) (fun h15 => ?_) (fun h15 => ?_)
  ·
   rw [itet h15] at hF; try simp at h15
   refine Run.skip ?_
   show Run _ _ _ _ _ _
   have q := And.intro q h15
   refine Run.join [0, 2, 4, 11, 12, 13, 28, 29, 30] [] [b4, b2, b_0] [] (by simp [q]) (by simp) (by simp) (fun f σ => ∃ v_x16 : TMachineChecker, f = ⟨85, [(0, .ptr b_0 0), (2, .ptr b2 0), (4, .ptr b4 0), (11, .list .none (c_0.machine.banks.map TMachBank.row)), (12, .int .i64 (c_0.machine.banks.length : Int)), (13, .int .i64 v_x1), (28, .list .none (((nth c_0.machine.banks v_x1).regs).map (rwI .i64))), (29, .int .i64 (((nth c_0.machine.banks v_x1).regs).length : Int)), (30, .int .i64 v_x11)], [], []⟩ ∧ σ = ⟨[(b4, (nth c_0.machine.banks v_x1).row), (b2, ([.grow 1 (y9.1.used.map rwS)])), (b_0, v_x16.row)], []⟩ ∧ machine_checker_banks.j0 v_x11 v_x16 = some yy2) ?_ ?_
   ·
    clear hF
    rintro _ _ ⟨v_x16, rfl, rfl, hF⟩
    unfold machine_checker_banks.j0 at hF
    refine rge fun K hK => ?_
    have q := And.intro hb2 (And.intro hq2 (And.intro hb4 hq4))
    iterate 2 refine wq ?_
    refine hK _ _ ?_; clear hK K
    exact ⟨_, (Option.some.inj hF).symm, (IntKind.i64.wrap (v_x11 + 1)), v_x16, rfl, by simp [q, Fm.rst, nn, nn1], by simp [q, St.only, nn1]⟩
   skip
   refine Run.block ?_
   replace hF := chkO hF; obtain ⟨hc17, hF⟩ := hF
   refine rg fun K hK => ?_
   refine wq ?_
   refine Wq (evF_ix (tg := .none) (rw := (rwI .i64)) (xs := ((nth c_0.machine.banks v_x1).regs)) (k := .i64) (n := v_x11) (by simp; rfl) rfl (by simp; rfl) (by simp [q]) (by simp [q]) hc17.1 hc17.2 (by simp)) ?_
   iterate 3 refine wq ?_
   refine hK _ _ ?_; clear hK K
   replace hF := chkO hF; obtain ⟨hc18, hF⟩ := hF
   replace hF := bindO hF; obtain ⟨y19, hy19, hF⟩ := hF
   replace hF := bindO hF; obtain ⟨y20, hy20, hF⟩ := hF
   replace hF := bindO hF; obtain ⟨y21, hy21, hF⟩ := hF
   refine Run.drawReg EOK mixed 18 [0, 1, 2, 3, 4, 5, 6, 7, 8, 10, 11, 12, 13, 14, 9, 15, 16, 17] rfl (by kernel_rfl) fun K hK => ?_
   iterate 12 refine Pq rfl (by simp [q]; rfl) ?_
   refine Pq rfl (evP_of (evF_sl (tg := .none) (rw := (rwI .i64)) (xs := ((nth c_0.machine.banks v_x1).regs)) (a := (0 : Int)) (b := v_x11) (by simp; rfl) rfl (by simp; rfl) (by simp [q]) (.inr ⟨rfl, rfl⟩) (.inl (by simp [q])) hc18.1 hc18.2.1 hc18.2.2 (by intro y; simp))) ?_
   refine Pq rfl (by simp [q]; rfl) ?_
   refine Pc rfl rfl rfl rfl (by first | (simp [q]; rfl) | (simp [q]; done)) (by simp [q]; done) (machine_within_ok hy19) ?_; rintro _ rfl; simp
   refine Pc rfl rfl rfl rfl (by first | (simp [q]; rfl) | (simp [q]; done)) (by simp [q]; done) (slices_Contains_int_ok hy20) ?_; rintro _ rfl; simp
   iterate 2 refine Pq rfl (by simp [q]; rfl) ?_
   refine Pd ?_
   refine Wcb ⟨[(b_0, _)], []⟩ ⟨[(b4, _), (b2, _)], []⟩ rfl rfl rfl (by simp [q]; rfl) (by simp [q]; done) (machine_checker_must_ok (b_0 := b_0) hy21) pk1 (by exact pick0) ?_
   rintro _ _ ⟨rfl, rfl⟩; simp [noCells, noCellS, noCellV, noCellC, noCellT, St.add]
   refine hK _ _ ?_; clear hK K
   refine rg fun K hK => ?_
   iterate 4 refine wq ?_
   refine hK _ _ ?_; clear hK K
   refine Run.testEnd (b := y21.ok) (by simp [q]) (fun h22 => ?_) (fun h22 => ?_)
   ·
    rw [itet h22] at hF; try simp at h22
    replace hF := chkO hF; obtain ⟨hc23, hF⟩ := hF
    replace hF := chkO hF; obtain ⟨hc24, hF⟩ := hF
    replace hF := chkO hF; obtain ⟨hc25, hF⟩ := hF
    replace hF := bindO hF; obtain ⟨y26, hy26, hF⟩ := hF
    refine Run.draw EOK mixed 24 [0, 1, 2, 3, 4, 5, 6, 7, 8, 9, 10, 11, 12, 13, 14, 15, 16, 17, 18, 19, 20, 21, 22, 23] rfl (by kernel_rfl) fun K hK => ?_
    have q := And.intro q h22
    iterate 7 refine Pq rfl (by simp [q]; rfl) ?_
    refine Pq rfl (evP_of (evF_ix (tg := .none) (rw := TMachReg.row) (xs := y21.machine.regs) (k := .i64) (n := (nth ((nth c_0.machine.banks v_x1).regs) v_x11)) (by simp; rfl) rfl (by simp; rfl) (by simp [q]) (by simp [q]) hc23.1 hc23.2 (by simp))) ?_
    iterate 9 refine Pq rfl (by simp [q]; rfl) ?_
    refine Pq rfl (evP_of (evF_ix (tg := .none) (rw := (rwI .i64)) (xs := ((nth c_0.machine.banks v_x1).regs)) (k := .i64) (n := 0) (by simp; rfl) rfl (by simp; rfl) (by simp [q]) (by simp [q]) hc24.1 hc24.2 (by simp))) ?_
    refine Pq rfl (by simp [q]; rfl) ?_
    refine Pq rfl (evP_of (evF_ix (tg := .none) (rw := TMachReg.row) (xs := y21.machine.regs) (k := .i64) (n := (nth ((nth c_0.machine.banks v_x1).regs) 0)) (by simp; rfl) rfl (by simp; rfl) (by simp [q]) (by simp [q]) hc25.1 hc25.2 (by simp))) ?_
    iterate 4 refine Pq rfl (by simp [q]; rfl) ?_
    refine Pd ?_
    refine Wcb ⟨[(b_0, _)], []⟩ ⟨[(b4, _), (b2, _)], []⟩ rfl rfl rfl (by simp [q]; rfl) (by simp [q]; done) (machine_checker_must_ok (b_0 := b_0) hy26) pk1 (by exact pick0) ?_
    rintro _ _ ⟨rfl, rfl⟩; simp [noCells, noCellS, noCellV, noCellC, noCellT, St.add]
    refine hK _ _ ?_; clear hK K
    exact ⟨y26, by simp [q, Fm.rst, nn, nn1], by simp [q, St.only, nn1], hF⟩
   rw [itef h22] at hF; try simp at h22
   refine Run.skip ?_
   have q := And.intro q h22
   exact ⟨y21, by simp [q, Fm.rst, nn, nn1], by simp [q, St.only, nn1], hF⟩
  rw [itef h15] at hF; try simp at h15
  refine Run.exit ?_
  replace hF := mapO hF; obtain ⟨z27, hF, hz⟩ := hF; have hz2 := (hR2 _ hz.symm).symm; subst hz2; clear hz
  show Run _ _ _ _ _ _
  refine rge fun K hK => ?_
  have q := And.intro q h15
  iterate 2 refine wq ?_
  refine hK _ _ ?_; clear hK K
  exact ⟨_, (Option.some.inj hF).symm, (IntKind.i64.wrap (v_x1 + 1)), y9.1.used, v_x12, rfl, by simp [q, Fm.rst, nn, nn1], by simp [q, St.only, nn1]⟩
 rw [itef h7] at hF; try simp at h7
 refine Run.exit ?_
 replace hF := mapO hF; obtain ⟨z28, hF, hz⟩ := hF; have hz2 := (hR1 _ hz.symm).symm; subst hz2; clear hz
 obtain rfl := Option.some.inj hF
 refine ⟨by simp, by simp, _, _, _, rfl, .inl rfl, ?_, ?_, ?_, rfl⟩
 all_goals simp [tupA, hb2, hq2, h7]

/-! format_within -/
def format_within.l0 [Fx] (least_0 : Int) (most_1 : Int) (l_2 : List Int) : Int → Option (Int ⊕ Bool) := fun v =>
 match v with
 | v_x1 =>
 (if (decide (v_x1 < (l_2.length : Int))) then
 (if (0 : Int) ≤ v_x1 ∧ v_x1 < (l_2.length : Int) then
 (if ((decide ((nth l_2 v_x1) < least_0)) || (decide (most_1 < (nth l_2 v_x1)))) then
 some (.inr false)
 else
 some (.inl (IntKind.i64.wrap (v_x1 + 1))))
 else none)
 else
 (Option.map Sum.inr (some true)))
def format_within [Fx] (least_0 : Int) (most_1 : Int) (l_2 : List Int) : Option Bool :=
 Fx.fx (format_within.l0 least_0 most_1 l_2) 0
theorem format_within_ok [Fx] {least_0 : Int} {most_1 : Int} {l_2 : List Int} {r : Bool} (hF : format_within least_0 most_1 l_2 = some r) : PCall Tryd.prog EE 93 [.int .i64 least_0, .int .i64 most_1, .full (l_2.map (rwI .i64))] fun v => v = .bool r := by
 refine PCall.of_fun EOK (F := Tryd.f93) 24 [.tmp 6] (by kernel_rfl) rfl rfl rfl rfl (Nat.le_of_ble_eq_true rfl) (by simp) ?_
 simp only [slotsA]
 unfold format_within at hF
 refine rg fun K hK => ?_
 refine Wq (by simp; rfl) ?_
 refine hK _ _ ?_; clear hK K
 refine Run.seq ?_
 refine rg fun K hK => ?_
 iterate 3 refine Wq (by simp; rfl) ?_
 refine hK _ _ ?_; clear hK K
 refine Run.block ?_
 refine Run.fixX hF [0, 1, 9, 10, 11] [] [] [] (by simp) (by simp) (by simp) (fun v_x1 f σ => f = ⟨24, [(0, .int .i64 least_0), (1, .int .i64 most_1), (9, .full (l_2.map (rwI .i64))), (10, .int .i64 (l_2.length : Int)), (11, .int .i64 v_x1)], [], []⟩ ∧ σ = ⟨[], []⟩) ?_ ?_
 ·
  exact ⟨by simp [Fm.rst, nn, nn1], by simp [St.only, nn1]⟩
 clear hF
 rintro v_x1 _ _ yy1 ⟨rfl, rfl⟩ hF hR1
 simp only [format_within.l0] at hF
 refine rg fun K hK => ?_
 refine Wq (by simp; rfl) ?_
 refine hK _ _ ?_; clear hK K
 refine Run.seq ?_
 refine Run.testEnd (b := (decide (v_x1 < (l_2.length : Int)))) (by simp) (fun h3 => ?_) (fun h3 => ?_)
 ·
  rw [itet h3] at hF; try simp at h3
  refine Run.skip ?_
  show Run _ _ _ _ _ _
  refine Run.seq ?_
  refine Run.block ?_
  replace hF := chkO hF; obtain ⟨hc4, hF⟩ := hF
  refine rg fun K hK => ?_
  have q := h3
  refine Wq (evF_ix (tg := .none) (rw := (rwI .i64)) (xs := l_2) (k := .i64) (n := v_x1) (by simp; rfl) rfl (by simp; rfl) (by simp [q]) (by simp [q]) hc4.1 hc4.2 (by simp)) ?_
  iterate 2 refine wq ?_
  refine hK _ _ ?_; clear hK K
  refine rg fun K hK => ?_
  iterate 4 refine wq ?_
  obtain ⟨g5, e5⟩ : ∃ g, g = (!(decide ((nth l_2 v_x1) < least_0))) := ⟨_, rfl⟩
  iterate 3 refine Wg rfl (b := g5) (by simp [q, e5]) (fun hg => by simp [q, hg]; rfl) ?_
  refine Wor (t := (decide ((nth l_2 v_x1) < least_0))) (β := (decide (most_1 < (nth l_2 v_x1)))) (by simp [q]) rfl (fun hh => by have h0 := e5.trans (notf hh); simp [q, h0]) (by first | (simp; done) | (simp; rfl)) ?_
  refine hK _ _ ?_; clear hK K
  refine Run.testEnd (b := ((decide ((nth l_2 v_x1) < least_0)) || (decide (most_1 < (nth l_2 v_x1))))) (by simp [q]) (fun h6 => ?_) (fun h6 => ?_)
  ·
   rw [itet h6] at hF; try simp at h6
   refine rg fun K hK => ?_
   have q := And.intro q h6
   refine wq ?_
   refine hK _ _ ?_; clear hK K
   refine Run.ret ?_
   have hv := hR1 _ (Option.some.inj hF).symm
   subst hv
   simp [tupA, h3, h6]
  rw [itef h6] at hF; try simp at h6
  refine Run.skip ?_
  show Run _ _ _ _ _ _
  refine rge fun K hK => ?_
  have q := And.intro q h6
  iterate 2 refine wq ?_
  refine hK _ _ ?_; clear hK K
  exact ⟨_, (Option.some.inj hF).symm, by simp [q, Fm.rst, nn, nn1], by simp [q, St.only, nn1]⟩
 rw [itef h3] at hF; try simp at h3
 refine Run.exit ?_
 replace hF := mapO hF; obtain ⟨z7, hF, hz⟩ := hF; have hz2 := (hR1 _ hz.symm).symm; subst hz2; clear hz
 show Run _ _ _ _ _ _
 refine rg fun K hK => ?_
 have q := h3
 refine wq ?_
 refine hK _ _ ?_; clear hK K
 refine Run.ret ?_
 obtain rfl := Option.some.inj hF
 simp [tupA, h3]

/-! format_Range -/
def format_Range.j0 [Fx] (scale_2 : Int) (low_x8 : Int) (high_x9 : Int) : Option (Int × Int × Int) :=
 (if (0 : Int) ≤ scale_2 then
 (if (0 : Int) ≤ scale_2 then
 some ((ishl .i64 low_x8 scale_2), (ishl .i64 high_x9 scale_2), 0)
 else none)
 else none)
def format_Range [Fx] (kind_0 : Int) (width_1 : Int) (scale_2 : Int) : Option (Int × Int × Int) :=
 ((format_within 2 4 [(IntKind.i64.wrap kind_0)]).bind fun y1 =>
 ((if y1 then format_within 1 32 [width_1] else some default).bind fun y3 =>
 ((if (!((!y1) || (!y3))) then format_within 0 3 [scale_2] else some default).bind fun y5 =>
 (if (((!y1) || (!y3)) || (!y5)) then
 some (0, 0, 2)
 else
 (if (0 : Int) ≤ width_1 then
 (if (!decide (kind_0 = 3)) then
 format_Range.j0 scale_2 (IntKind.i64.wrap ((IntKind.i64.wrap (0 - (ishr .i64 (IntKind.i64.wrap ((ishl .i64 1 width_1) - 1)) 1))) - 1)) (ishr .i64 (IntKind.i64.wrap ((ishl .i64 1 width_1) - 1)) 1)
 else
 format_Range.j0 scale_2 0 (IntKind.i64.wrap ((ishl .i64 1 width_1) - 1)))
 else none)))))
theorem format_Range_ok [Fx] {kind_0 : Int} {width_1 : Int} {scale_2 : Int} {r : Int × Int × Int} (hF : format_Range kind_0 width_1 scale_2 = some r) : PCall Tryd.prog EE 89 [.int .u8 kind_0, .int .i64 width_1, .int .i64 scale_2] fun v => v = .tup [.int .i64 r.1, .int .i64 r.2.1, .int .i64 r.2.2] := by
 refine PCall.of_fun EOK (F := Tryd.f89) 42 [.tmp 6, .tmp 7, .tmp 8] (by kernel_rfl) rfl rfl rfl rfl (Nat.le_of_ble_eq_true rfl) (by simp) ?_
 simp only [slotsA]
 unfold format_Range at hF
 refine rg fun K hK => ?_
 iterate 3 refine Wq (by simp; rfl) ?_
 refine hK _ _ ?_; clear hK K
 refine Run.seq ?_
 replace hF := bindO hF; obtain ⟨y1, hy1, hF⟩ := hF
 replace hF := bindO hF; obtain ⟨y3, hy3, hF⟩ := hF
 replace hF := bindO hF; obtain ⟨y5, hy5, hF⟩ := hF
 refine rg fun K hK => ?_
 iterate 2 refine Wq (by simp; rfl) ?_
 refine We rfl ?_; simp; refine .inr ?_
 refine Wc rfl rfl rfl (by first | (simp; rfl) | (simp; done)) (by simp; done) (format_within_ok hy1) ?_; rintro _ rfl; simp
 iterate 2 refine Wq (by simp; rfl) ?_
 obtain ⟨g2, e2⟩ : ∃ g, g = y1 := ⟨_, rfl⟩
 refine Wg rfl (b := g2) (by simp [e2]) (fun hg => by simp [hg]; rfl) ?_
 refine Wgb rfl (b := g2) (by simp [e2]) (fun hg => by simp [hg]; rfl) ?_
 refine Wgc rfl rfl (b := g2) (by simp [e2]) rfl rfl (fun hg => by simp [hg]; rfl) (fun hg => by simp [hg]; done) (fun hg => format_within_ok ((itet (e2.symm.trans hg)).symm.trans hy3)) ?_
 simp
 refine Wg rfl (b := g2) (by simp [e2]) (fun hg => by simp [hg]; rfl) ?_
 refine Wor (t := (!y1)) (β := (!y3)) (by simp) rfl (fun hh => by have h0 := e2.trans (nnot (notf hh)); simp [h0]) (by first | (simp; done) | (simp; rfl)) ?_
 refine Wq (by simp; rfl) ?_
 obtain ⟨g4, e4⟩ : ∃ g, g = (!((!y1) || (!y3))) := ⟨_, rfl⟩
 refine Wg rfl (b := g4) (by simp [e4]) (fun hg => by simp [hg]; rfl) ?_
 refine Wgb rfl (b := g4) (by simp [e4]) (fun hg => by simp [hg]; rfl) ?_
 refine Wgc rfl rfl (b := g4) (by simp [e4]) rfl rfl (fun hg => by simp [hg]; rfl) (fun hg => by simp [hg]; done) (fun hg => format_within_ok ((itet (e4.symm.trans hg)).symm.trans hy5)) ?_
 simp
 refine Wg rfl (b := g4) (by simp [e4]) (fun hg => by simp [hg]; rfl) ?_
 refine Wor (t := ((!y1) || (!y3))) (β := (!y5)) (by simp) rfl (fun hh => by have h0 := e4.trans (notf hh); simp [h0]) (by first | (simp; done) | (simp; rfl)) ?_
 refine hK _ _ ?_; clear hK K
 refine Run.testEnd (b := (((!y1) || (!y3)) || (!y5))) (by simp) (fun h6 => ?_) (fun h6 => ?_)
 ·
  rw [itet h6] at hF; try simp at h6
  refine rg fun K hK => ?_
  have q := h6
  iterate 3 refine wq ?_
  refine hK _ _ ?_; clear hK K
  refine Run.ret ?_
  obtain rfl := Option.some.inj hF
  simp [tupA, h6]
 rw [itef h6] at hF; try simp at h6
 refine Run.skip ?_
 show Run _ _ _ _ _ _
 replace hF := chkO hF; obtain ⟨hc7, hF⟩ := hF
 refine rg fun K hK => ?_
 have q := h6
 refine wq ?_
 refine Wq (by have hf0 := hc7; (try simp at hf0); simp [q, hc7, hf0]; rfl) ?_
 iterate 2 refine wq ?_
 refine hK _ _ ?_; clear hK K
 refine Run.join [2, 6, 7] [] [] [] (by simp) (by simp) (by simp) (fun f σ => ∃ low_x8 : Int, ∃ high_x9 : Int, f = ⟨42, [(2, .int .i64 scale_2), (6, .int .i64 low_x8), (7, .int .i64 high_x9)], [], []⟩ ∧ σ = ⟨[], []⟩ ∧ format_Range.j0 scale_2 low_x8 high_x9 = some r) ?_ ?_
 ·
  clear hF
  rintro _ _ ⟨low_x8, high_x9, rfl, rfl, hF⟩
  unfold format_Range.j0 at hF
  replace hF := chkO hF; obtain ⟨hc10, hF⟩ := hF
  replace hF := chkO hF; obtain ⟨hc11, hF⟩ := hF
  refine Run.drawReg EOK mixed 7 [0, 1, 2, 3, 4, 5, 6] rfl (by kernel_rfl) fun K hK => ?_
  iterate 2 refine Pq rfl (by simp; rfl) ?_
  refine Pq rfl (by have hf0 := hc10; (try simp at hf0); simp [hc10, hf0]; rfl) ?_
  iterate 2 refine Pq rfl (by simp; rfl) ?_
  refine Pq rfl (by have hf0 := hc11; (try simp at hf0); simp [hc11, hf0]; rfl) ?_
  refine Pq rfl (by simp; rfl) ?_
  refine Pd ?_
  iterate 2 refine Wq (by simp; rfl) ?_
  refine hK _ _ ?_; clear hK K
  refine Run.ret ?_
  obtain rfl := Option.some.inj hF
  simp [tupA]
 skip
 refine rg fun K hK => ?_
 iterate 2 refine wq ?_
 refine hK _ _ ?_; clear hK K
 refine Run.testEnd (b := (!decide (kind_0 = 3))) (by simp [q]) (fun h12 => ?_) (fun h12 => ?_)
 ·
  rw [itet h12] at hF; try simp at h12
  refine rg fun K hK => ?_
  have q := And.intro q h12
  iterate 3 refine wq ?_
  refine hK _ _ ?_; clear hK K
  refine rge fun K hK => ?_
  iterate 4 refine wq ?_
  refine hK _ _ ?_; clear hK K
  exact ⟨(IntKind.i64.wrap ((IntKind.i64.wrap (0 - (ishr .i64 (IntKind.i64.wrap ((ishl .i64 1 width_1) - 1)) 1))) - 1)), (ishr .i64 (IntKind.i64.wrap ((ishl .i64 1 width_1) - 1)) 1), by simp [q, Fm.rst, nn, nn1], by simp [q, St.only, nn1], hF⟩
 rw [itef h12] at hF; try simp at h12
 refine Run.skip ?_
 have q := And.intro q h12
 exact ⟨0, (IntKind.i64.wrap ((ishl .i64 1 width_1) - 1)), by simp [q, Fm.rst, nn, nn1], by simp [q, St.only, nn1], hF⟩

/-! format_Field -/

def format_Field [Fx] (kind_0 : Int) (width_1 : Int) (scale_2 : Int) (n_3 : Int) : Option (Int × Int) :=
 ((format_Range kind_0 width_1 scale_2).bind fun y1 =>
 (if (!decide (y1.2.2 = 0)) then
 some (0, y1.2.2)
 else
 (if ((!((decide (n_3 < y1.1)) || (decide (y1.2.1 < n_3)))) = true → (0 : Int) ≤ scale_2) then
 (if ((!((decide (n_3 < y1.1)) || (decide (y1.2.1 < n_3)))) = true → (0 : Int) ≤ scale_2) then
 (if (((decide (n_3 < y1.1)) || (decide (y1.2.1 < n_3))) || (!decide ((ishl .i64 (ishr .i64 n_3 scale_2) scale_2) = n_3))) then
 some (0, 24)
 else
 (if (0 : Int) ≤ scale_2 then
 ((bits_Mask width_1).bind fun y9 =>
 some ((iand .u64 (IntKind.u64.wrap (ishr .i64 n_3 scale_2)) y9), 0))
 else none))
 else none)
 else none)))
theorem format_Field_ok [Fx] {kind_0 : Int} {width_1 : Int} {scale_2 : Int} {n_3 : Int} {r : Int × Int} (hF : format_Field kind_0 width_1 scale_2 n_3 = some r) : PCall Tryd.prog EE 74 [.int .u8 kind_0, .int .i64 width_1, .int .i64 scale_2, .int .i64 n_3] fun v => v = .tup [.int .u64 r.1, .int .i64 r.2] := by
 refine PCall.of_fun EOK (F := Tryd.f74) 48 [.tmp 8, .tmp 9] (by kernel_rfl) rfl rfl rfl rfl (Nat.le_of_ble_eq_true rfl) (by simp) ?_
 simp only [slotsA]
 unfold format_Field at hF
 refine rg fun K hK => ?_
 iterate 2 refine Wq (by simp; rfl) ?_
 refine hK _ _ ?_; clear hK K
 replace hF := bindO hF; obtain ⟨y1, hy1, hF⟩ := hF
 refine rg fun K hK => ?_
 iterate 3 refine Wq (by simp; rfl) ?_
 refine Wc rfl rfl rfl (by first | (simp; rfl) | (simp; done)) (by simp; done) (format_Range_ok hy1) ?_; rintro _ rfl; simp
 iterate 7 refine Wq (by simp; rfl) ?_
 refine hK _ _ ?_; clear hK K
 refine Run.seq ?_
 refine rg fun K hK => ?_
 iterate 2 refine Wq (by simp; rfl) ?_
 refine hK _ _ ?_; clear hK K
 refine Run.testEnd (b := (!decide (y1.2.2 = 0))) (by simp) (fun h2 => ?_) (fun h2 => ?_)
 ·
  rw [itet h2] at hF; try simp at h2
  refine rg fun K hK => ?_
  have q := h2
  iterate 3 refine wq ?_
  refine hK _ _ ?_; clear hK K
  refine Run.ret ?_
  obtain rfl := Option.some.inj hF
  simp [tupA, h2]
 rw [itef h2] at hF; try simp at h2
 refine Run.skip ?_
 show Run _ _ _ _ _ _
 refine Run.seq ?_
 replace hF := chkO hF; obtain ⟨hc5, hF⟩ := hF
 replace hF := chkO hF; obtain ⟨hc6, hF⟩ := hF
 refine rg fun K hK => ?_
 have q := h2
 iterate 4 refine wq ?_
 obtain ⟨g3, e3⟩ : ∃ g, g = (!(decide (n_3 < y1.1))) := ⟨_, rfl⟩
 iterate 3 refine Wg rfl (b := g3) (by simp [q, e3]) (fun hg => by simp [q, hg]; rfl) ?_
 refine Wor (t := (decide (n_3 < y1.1))) (β := (decide (y1.2.1 < n_3))) (by simp [q]) rfl (fun hh => by have h0 := e3.trans (notf hh); simp [q, h0]) (by first | (simp; done) | (simp; rfl)) ?_
 refine wq ?_
 obtain ⟨g4, e4⟩ : ∃ g, g = (!((decide (n_3 < y1.1)) || (decide (y1.2.1 < n_3)))) := ⟨_, rfl⟩
 iterate 2 refine Wg rfl (b := g4) (by simp [q, e4]) (fun hg => by simp [q, hg]; rfl) ?_
 refine Wg rfl (b := g4) (by simp [q, e4]) (fun hg => by have hf0 := hc5 (e4.symm.trans hg); have he0 := hf0; (try simp at he0); simp [q, hg, hf0, he0]; rfl) ?_
 refine Wg rfl (b := g4) (by simp [q, e4]) (fun hg => by simp [q, hg]; rfl) ?_
 refine Wg rfl (b := g4) (by simp [q, e4]) (fun hg => by have hf0 := hc6 (e4.symm.trans hg); have he0 := hf0; (try simp at he0); simp [q, hg, hf0, he0]; rfl) ?_
 iterate 2 refine Wg rfl (b := g4) (by simp [q, e4]) (fun hg => by simp [q, hg]; rfl) ?_
 refine Wor (t := ((decide (n_3 < y1.1)) || (decide (y1.2.1 < n_3)))) (β := (!decide ((ishl .i64 (ishr .i64 n_3 scale_2) scale_2) = n_3))) (by simp [q]) rfl (fun hh => by have h0 := e4.trans (notf hh); simp [q, h0]) (by first | (simp; done) | (simp; rfl)) ?_
 refine hK _ _ ?_; clear hK K
 refine Run.testEnd (b := (((decide (n_3 < y1.1)) || (decide (y1.2.1 < n_3))) || (!decide ((ishl .i64 (ishr .i64 n_3 scale_2) scale_2) = n_3)))) (by simp [q]) (fun h7 => ?_) (fun h7 => ?_)
 ·
  rw [itet h7] at hF; try simp at h7
  refine rg fun K hK => ?_
  have q := And.intro q h7
  iterate 2 refine wq ?_
  refine hK _ _ ?_; clear hK K
  refine Run.ret ?_
  obtain rfl := Option.some.inj hF
  simp [tupA, h2, h7]
 rw [itef h7] at hF; try simp at h7
 refine Run.skip ?_
 show Run _ _ _ _ _ _
 replace hF := chkO hF; obtain ⟨hc8, hF⟩ := hF
 replace hF := bindO hF; obtain ⟨y9, hy9, hF⟩ := hF
 refine Run.drawReg EOK mixed 6 [0, 1, 2, 3, 4, 5] rfl (by kernel_rfl) fun K hK => ?_
 have q := And.intro q h7
 iterate 2 refine Pq rfl (by simp [q]; rfl) ?_
 refine Pq rfl (by have hf0 := hc8; (try simp at hf0); simp [q, hc8, hf0]; rfl) ?_
 iterate 2 refine Pq rfl (by simp [q]; rfl) ?_
 refine Pc rfl rfl rfl rfl (by first | (simp [q]; rfl) | (simp [q]; done)) (by simp [q]; done) (bits_Mask_ok hy9) ?_; rintro _ rfl; simp
 refine Pd ?_
 iterate 3 refine wq ?_
 refine hK _ _ ?_; clear hK K
 refine Run.ret ?_
 obtain rfl := Option.some.inj hF
 simp [tupA, h2, h7]

/-! retargetref24_SameInts -/
def retargetref24_SameInts.l0 [Fx] (a_0 : List Int) (b_1 : List Int) : Int → Option (Int ⊕ Bool) := fun v =>
 match v with
 | i_x2 =>
 (if (decide (i_x2 < (a_0.length : Int))) then
 (if (0 : Int) ≤ i_x2 ∧ i_x2 < (a_0.length : Int) then
 (if (0 : Int) ≤ i_x2 ∧ i_x2 < (b_1.length : Int) then
 (if (!decide ((nth a_0 i_x2) = (nth b_1 i_x2))) then
 some (.inr false)
 else
 some (.inl (IntKind.i64.wrap (i_x2 + 1))))
 else none)
 else none)
 else
 (Option.map Sum.inr (some true)))
def retargetref24_SameInts [Fx] (a_0 : List Int) (b_1 : List Int) : Option Bool :=
 (if (!decide ((a_0.length : Int) = (b_1.length : Int))) then
 some false
 else
 Fx.fx (retargetref24_SameInts.l0 a_0 b_1) 0)
theorem retargetref24_SameInts_ok [Fx] {a_0 : List Int} {b_1 : List Int} {r : Bool} (hF : retargetref24_SameInts a_0 b_1 = some r) : PCall Tryd.prog EE 24 [.list .none (a_0.map (rwI .i64)), .list .none (b_1.map (rwI .i64))] fun v => v = .bool r := by
 refine PCall.of_fun EOK (F := Tryd.f24) 26 [.tmp 4] (by kernel_rfl) rfl rfl rfl rfl (Nat.le_of_ble_eq_true rfl) (by simp) ?_
 simp only [slotsA]
 unfold retargetref24_SameInts at hF
 refine rg fun K hK => ?_
 refine Wq (by simp; rfl) ?_
 refine hK _ _ ?_; clear hK K
 refine Run.seq ?_
 refine rg fun K hK => ?_
 iterate 5 refine Wq (by simp; rfl) ?_
 refine hK _ _ ?_; clear hK K
 refine Run.testEnd (b := (!decide ((a_0.length : Int) = (b_1.length : Int)))) (by simp) (fun h1 => ?_) (fun h1 => ?_)
 ·
  rw [itet h1] at hF; try simp at h1
  refine rg fun K hK => ?_
  have q := h1
  refine wq ?_
  refine hK _ _ ?_; clear hK K
  refine Run.ret ?_
  obtain rfl := Option.some.inj hF
  simp [tupA, h1]
 rw [itef h1] at hF; try simp at h1
 refine Run.skip ?_
 show Run _ _ _ _ _ _
 refine Run.seq ?_
 refine rg fun K hK => ?_
 have q := h1
 refine wq ?_
 refine hK _ _ ?_; clear hK K
 refine Run.block ?_
 refine Run.fixX hF [0, 1, 5] [] [] [] (by simp) (by simp) (by simp) (fun i_x2 f σ => f = ⟨26, [(0, .list .none (a_0.map (rwI .i64))), (1, .list .none (b_1.map (rwI .i64))), (5, .int .i64 i_x2)], [], []⟩ ∧ σ = ⟨[], []⟩) ?_ ?_
 ·
  exact ⟨by simp [q, Fm.rst, nn, nn1], by simp [q, St.only, nn1]⟩
 clear hF
 rintro i_x2 _ _ yy1 ⟨rfl, rfl⟩ hF hR1
 simp only [retargetref24_SameInts.l0] at hF
 refine Run.seq ?_
 refine rg fun K hK => ?_
 iterate 4 refine Wq (by simp; rfl) ?_
 refine hK _ _ ?_; clear hK K
 refine Run.testEnd (b := (decide (i_x2 < (a_0.length : Int)))) (by simp) (fun h4 => ?_) (fun h4 => ?_)
 ·
  rw [itet h4] at hF; try simp at h4
  refine Run.skip ?_
  show Run _ _ _ _ _ _
  refine Run.seq ?_
  refine Run.block ?_
  replace hF := chkO hF; obtain ⟨hc5, hF⟩ := hF
  replace hF := chkO hF; obtain ⟨hc6, hF⟩ := hF
  refine Run.drawReg EOK mixed 8 [0, 1, 2, 3, 4, 5, 6, 7] rfl (by kernel_rfl) fun K hK => ?_
  have q := h4
  iterate 2 refine Pq rfl (by simp [q]; rfl) ?_
  refine Pq rfl (evP_of (evF_ix (tg := .none) (rw := (rwI .i64)) (xs := a_0) (k := .i64) (n := i_x2) (by simp; rfl) rfl (by simp; rfl) (by simp [q]) (by simp [q]) hc5.1 hc5.2 (by simp))) ?_
  iterate 3 refine Pq rfl (by simp [q]; rfl) ?_
  refine Pq rfl (evP_of (evF_ix (tg := .none) (rw := (rwI .i64)) (xs := b_1) (k := .i64) (n := i_x2) (by simp; rfl) rfl (by simp; rfl) (by simp [q]) (by simp [q]) hc6.1 hc6.2 (by simp))) ?_
  refine Pq rfl (by simp [q]; rfl) ?_
  refine Pd ?_
  refine wq ?_
  refine hK _ _ ?_; clear hK K
  refine Run.testEnd (b := (!decide ((nth a_0 i_x2) = (nth b_1 i_x2)))) (by simp [q]) (fun h7 => ?_) (fun h7 => ?_)
  ·
   rw [itet h7] at hF; try simp at h7
   refine rg fun K hK => ?_
   have q := And.intro q h7
   refine wq ?_
   refine hK _ _ ?_; clear hK K
   refine Run.ret ?_
   have hv := hR1 _ (Option.some.inj hF).symm
   subst hv
   simp [tupA, h4, h7]
  rw [itef h7] at hF; try simp at h7
  refine Run.skip ?_
  show Run _ _ _ _ _ _
  refine rge fun K hK => ?_
  have q := And.intro q h7
  iterate 3 refine wq ?_
  refine hK _ _ ?_; clear hK K
  exact ⟨_, (Option.some.inj hF).symm, by simp [q, Fm.rst, nn, nn1], by simp [q, St.only, nn1]⟩
 rw [itef h4] at hF; try simp at h4
 refine Run.exit ?_
 replace hF := mapO hF; obtain ⟨z8, hF, hz⟩ := hF; have hz2 := (hR1 _ hz.symm).symm; subst hz2; clear hz
 show Run _ _ _ _ _ _
 refine rg fun K hK => ?_
 have q := h4
 refine wq ?_
 refine hK _ _ ?_; clear hK K
 refine Run.ret ?_
 obtain rfl := Option.some.inj hF
 simp [tupA, h4]

end Go.Proofs.YtpjkepfplhllfaaDoor.Av
