/-
What functions compute.
-/
import Derived.Test.YtpjkepfplhllfaaDoorAv29
import Derived.Test.YtpjkepfplhllfaaDoorFc
namespace Go.Proofs.YtpjkepfplhllfaaDoor.Av
set_option linter.unusedSimpArgs false
set_option linter.unusedVariables false
set_option maxRecDepth 100000
set_option maxHeartbeats 4000000
open Go Go.Proofs
/-! retargetref02_Size -/
def retargetref02_Size.l0 [Fx] (t_0 : TTerm) (self : TTerm → Option Int) : Int × Int → Option ((Int × Int) ⊕ Int) := fun v =>
 match v with
 | (n_x1, i_x2) =>
 (if (decide (i_x2 < (t_0.sub.length : Int))) then
 (if (0 : Int) ≤ i_x2 ∧ i_x2 < (t_0.sub.length : Int) then
 ((self ((nth t_0.sub i_x2))).bind fun y7 =>
 some (.inl ((IntKind.i64.wrap (n_x1 + y7)), (IntKind.i64.wrap (i_x2 + 1)))))
 else none)
 else
 (Option.map Sum.inr (some n_x1)))
def retargetref02_Size.G [Fx] (self : TTerm → Option Int) (t_0 : TTerm) : Option Int :=
 Fx.fx (retargetref02_Size.l0 t_0 self) (1, 0)
def retargetref02_Size [Fx] (t_0 : TTerm) : Option Int := itr (fun self a => retargetref02_Size.G self a) (t_0.nodes.length + 1) (t_0)
theorem retargetref02_Size_step [Fx] {self : TTerm → Option Int} (ih : ∀ {a : TTerm} {r : Int}, self a = some r → PCall Tryd.prog EE 53 [.agg a.row] fun v => v = .int .i64 r) {t_0 : TTerm} {r : Int} (hF : retargetref02_Size.G self t_0 = some r) : PCall Tryd.prog EE 53 [.agg t_0.row] fun v => v = .int .i64 r := by
 refine PCall.of_fun EOK (F := Tryd.f53) 21 [.tmp 2] (by kernel_rfl) rfl rfl rfl rfl (Nat.le_of_ble_eq_true rfl) (by simp) ?_
 simp only [slotsA]
 unfold retargetref02_Size.G at hF
 refine rg fun K hK => ?_
 refine We rfl ?_; simp
 intro b1 _
 refine Wq (by simp; rfl) ?_
 refine hK _ _ ?_; clear hK K
 refine rg fun K hK => ?_
 refine Wq (by simp; rfl) ?_
 refine hK _ _ ?_; clear hK K
 refine Run.seq ?_
 refine rg fun K hK => ?_
 refine Wq (by simp; rfl) ?_
 refine hK _ _ ?_; clear hK K
 refine Run.block ?_
 refine Run.fixX hF [1, 3, 4] [] [b1] [] (by simp) (by simp) (by simp) (fun v f σ => ∃ n_x1 : Int, ∃ i_x2 : Int, v = (n_x1, i_x2) ∧ f = ⟨21, [(1, .ptr b1 0), (3, .int .i64 n_x1), (4, .int .i64 i_x2)], [], []⟩ ∧ σ = ⟨[(b1, t_0.row)], []⟩) ?_ ?_
 ·
  exact ⟨1, 0, rfl, by simp [Fm.rst, nn, nn1], by simp [St.only, nn1]⟩
 clear hF
 rintro _ _ _ yy1 ⟨n_x1, i_x2, rfl, rfl, rfl⟩ hF hR1
 simp only [retargetref02_Size.l0] at hF
 refine Run.seq ?_
 refine rg fun K hK => ?_
 iterate 5 refine Wq (by simp; rfl) ?_
 refine hK _ _ ?_; clear hK K
 refine Run.testEnd (b := (decide (i_x2 < (t_0.sub.length : Int)))) (by simp) (fun h5 => ?_) (fun h5 => ?_)
 ·
  rw [itet h5] at hF; try simp at h5
  refine Run.skip ?_
  show Run _ _ _ _ _ _
  refine Run.seq ?_
  refine Run.block ?_
  replace hF := chkO hF; obtain ⟨hc6, hF⟩ := hF
  replace hF := bindO hF; obtain ⟨y7, hy7, hF⟩ := hF
  refine rge fun K hK => ?_
  have q := h5
  iterate 4 refine wq ?_
  refine Wq (evF_ix (tg := .none) (rw := TTerm.row) (xs := t_0.sub) (k := .i64) (n := i_x2) (by simp; rfl) rfl (by simp; rfl) (by simp [q]) (by simp [q]) hc6.1 hc6.2 (by simp)) ?_
  refine wq ?_
  refine wcq (ih hy7) ?_; rintro _ rfl; simp
  iterate 2 refine wq ?_
  refine hK _ _ ?_; clear hK K
  show Run _ _ _ _ _ _
  refine rge fun K hK => ?_
  iterate 3 refine wq ?_
  refine hK _ _ ?_; clear hK K
  exact ⟨_, (Option.some.inj hF).symm, (IntKind.i64.wrap (n_x1 + y7)), (IntKind.i64.wrap (i_x2 + 1)), rfl, by simp [q, Fm.rst, nn, nn1], by simp [q, St.only, nn1]⟩
 rw [itef h5] at hF; try simp at h5
 refine Run.exit ?_
 replace hF := mapO hF; obtain ⟨z8, hF, hz⟩ := hF; have hz2 := (hR1 _ hz.symm).symm; subst hz2; clear hz
 show Run _ _ _ _ _ _
 refine rg fun K hK => ?_
 have q := h5
 iterate 2 refine wq ?_
 refine hK _ _ ?_; clear hK K
 refine Run.ret ?_
 obtain rfl := Option.some.inj hF
 simp [tupA, h5]
theorem retargetref02_Size_ok [Fx] {t_0 : TTerm} {r : Int} (hF : retargetref02_Size t_0 = some r) : PCall Tryd.prog EE 53 [.agg t_0.row] fun v => v = .int .i64 r :=
  itr_ind (C := fun (a : TTerm) (r : Int) => PCall Tryd.prog EE 53 [.agg a.row] fun v => v = .int .i64 r) (fun self ih {a r} h => retargetref02_Size_step (fun {a r} h => ih h) h) _ hF

/-! retargetref02_count -/
def retargetref02_count.l0 [Fx] (t_0 : TTerm) (limit_1 : Int) (deep_2 : Int) (self : TTerm × Int × Int → Option (Int × Bool)) : Int × Int → Option ((Int × Int) ⊕ (Int × Bool)) := fun v =>
 match v with
 | (n_x2, i_x3) =>
 (if ((decide (i_x3 < (t_0.sub.length : Int))) && (decide (n_x2 ≤ limit_1))) then
 (if (0 : Int) ≤ i_x3 ∧ i_x3 < (t_0.sub.length : Int) then
 ((self ((nth t_0.sub i_x3), (IntKind.i64.wrap (limit_1 - n_x2)), (IntKind.i64.wrap (deep_2 - 1)))).bind fun y9 =>
 (if (!y9.2) then
 some (.inr (n_x2, false))
 else
 some (.inl ((IntKind.i64.wrap (n_x2 + y9.1)), (IntKind.i64.wrap (i_x3 + 1))))))
 else none)
 else
 (Option.map Sum.inr (some (n_x2, true))))
def retargetref02_count.G [Fx] (self : TTerm × Int × Int → Option (Int × Bool)) (t_0 : TTerm) (limit_1 : Int) (deep_2 : Int) : Option (Int × Bool) :=
 (if (decide (deep_2 = 0)) then
 some (1, false)
 else
 Fx.fx (retargetref02_count.l0 t_0 limit_1 deep_2 self) (1, 0))
def retargetref02_count [Fx] (t_0 : TTerm) (limit_1 : Int) (deep_2 : Int) : Option (Int × Bool) := itr (fun self a => retargetref02_count.G self a.1 a.2.1 a.2.2) (t_0.nodes.length + 1) (t_0, limit_1, deep_2)
theorem retargetref02_count_step [Fx] {self : TTerm × Int × Int → Option (Int × Bool)} (ih : ∀ {a : TTerm × Int × Int} {r : Int × Bool}, self a = some r → PCall Tryd.prog EE 43 [.agg a.1.row, .int .i64 a.2.1, .int .i64 a.2.2] fun v => v = .tup [.int .i64 r.1, .bool r.2]) {t_0 : TTerm} {limit_1 : Int} {deep_2 : Int} {r : Int × Bool} (hF : retargetref02_count.G self t_0 limit_1 deep_2 = some r) : PCall Tryd.prog EE 43 [.agg t_0.row, .int .i64 limit_1, .int .i64 deep_2] fun v => v = .tup [.int .i64 r.1, .bool r.2] := by
 refine PCall.of_fun EOK (F := Tryd.f43) 47 [.tmp 6, .tmp 7] (by kernel_rfl) rfl rfl rfl rfl (Nat.le_of_ble_eq_true rfl) (by simp) ?_
 simp only [slotsA]
 unfold retargetref02_count.G at hF
 refine rg fun K hK => ?_
 refine We rfl ?_; simp
 intro b3 _
 iterate 2 refine Wq (by simp; rfl) ?_
 refine hK _ _ ?_; clear hK K
 refine Run.seq ?_
 refine rg fun K hK => ?_
 iterate 2 refine Wq (by simp; rfl) ?_
 refine hK _ _ ?_; clear hK K
 refine Run.testEnd (b := (decide (deep_2 = 0))) (by simp) (fun h1 => ?_) (fun h1 => ?_)
 ·
  rw [itet h1] at hF; try simp at h1
  refine rg fun K hK => ?_
  have q := h1
  iterate 2 refine wq ?_
  refine hK _ _ ?_; clear hK K
  refine Run.ret ?_
  obtain rfl := Option.some.inj hF
  simp [tupA, h1]
 rw [itef h1] at hF; try simp at h1
 refine Run.skip ?_
 show Run _ _ _ _ _ _
 refine rg fun K hK => ?_
 have q := h1
 refine wq ?_
 refine hK _ _ ?_; clear hK K
 refine Run.seq ?_
 refine rg fun K hK => ?_
 refine wq ?_
 refine hK _ _ ?_; clear hK K
 refine Run.block ?_
 refine Run.fixX hF [1, 2, 3, 8, 9] [] [b3] [] (by simp) (by simp) (by simp) (fun v f σ => ∃ n_x2 : Int, ∃ i_x3 : Int, v = (n_x2, i_x3) ∧ f = ⟨47, [(1, .int .i64 limit_1), (2, .int .i64 deep_2), (3, .ptr b3 0), (8, .int .i64 n_x2), (9, .int .i64 i_x3)], [], []⟩ ∧ σ = ⟨[(b3, t_0.row)], []⟩) ?_ ?_
 ·
  exact ⟨1, 0, rfl, by simp [q, Fm.rst, nn, nn1], by simp [q, St.only, nn1]⟩
 clear hF
 rintro _ _ _ yy1 ⟨n_x2, i_x3, rfl, rfl, rfl⟩ hF hR1
 simp only [retargetref02_count.l0] at hF
 refine Run.seq ?_
 refine rg fun K hK => ?_
 iterate 6 refine Wq (by simp; rfl) ?_
 obtain ⟨g6, e6⟩ : ∃ g, g = (decide (i_x3 < (t_0.sub.length : Int))) := ⟨_, rfl⟩
 iterate 3 refine Wg rfl (b := g6) (by simp [e6]) (fun hg => by simp [hg]; rfl) ?_
 refine Wand (t := (decide (i_x3 < (t_0.sub.length : Int)))) (β := (decide (n_x2 ≤ limit_1))) (by simp) rfl (fun hh => by have h0 := e6.trans hh; simp [h0]) (by first | (simp; done) | (simp; rfl)) ?_
 refine hK _ _ ?_; clear hK K
 refine Run.testEnd (b := ((decide (i_x3 < (t_0.sub.length : Int))) && (decide (n_x2 ≤ limit_1)))) (by simp) (fun h7 => ?_) (fun h7 => ?_)
 ·
  rw [itet h7] at hF; try simp at h7
  refine Run.skip ?_
  show Run _ _ _ _ _ _
  refine Run.seq ?_
  refine Run.block ?_
  replace hF := chkO hF; obtain ⟨hc8, hF⟩ := hF
  replace hF := bindO hF; obtain ⟨y9, hy9, hF⟩ := hF
  refine rg fun K hK => ?_
  have q := h7
  iterate 3 refine wq ?_
  refine Wq (evF_ix (tg := .none) (rw := TTerm.row) (xs := t_0.sub) (k := .i64) (n := i_x3) (by simp; rfl) rfl (by simp; rfl) (by simp [q]) (by simp [q]) hc8.1 hc8.2 (by simp)) ?_
  iterate 6 refine wq ?_
  refine wcq (ih hy9) ?_; rintro _ rfl; simp
  iterate 5 refine wq ?_
  refine hK _ _ ?_; clear hK K
  refine Run.seq ?_
  refine rg fun K hK => ?_
  iterate 2 refine wq ?_
  refine hK _ _ ?_; clear hK K
  refine Run.testEnd (b := (!y9.2)) (by simp [q]) (fun h10 => ?_) (fun h10 => ?_)
  ·
   rw [itet h10] at hF; try simp at h10
   refine rg fun K hK => ?_
   have q := And.intro q h10
   iterate 3 refine wq ?_
   refine hK _ _ ?_; clear hK K
   refine Run.ret ?_
   have hv := hR1 _ (Option.some.inj hF).symm
   subst hv
   simp [tupA, h7, h10]
  rw [itef h10] at hF; try simp at h10
  refine Run.skip ?_
  show Run _ _ _ _ _ _
  refine rge fun K hK => ?_
  have q := And.intro q h10
  iterate 4 refine wq ?_
  refine hK _ _ ?_; clear hK K
  show Run _ _ _ _ _ _
  refine rge fun K hK => ?_
  iterate 3 refine wq ?_
  refine hK _ _ ?_; clear hK K
  exact ⟨_, (Option.some.inj hF).symm, (IntKind.i64.wrap (n_x2 + y9.1)), (IntKind.i64.wrap (i_x3 + 1)), rfl, by simp [q, Fm.rst, nn, nn1], by simp [q, St.only, nn1]⟩
 rw [itef h7] at hF; try simp at h7
 refine Run.exit ?_
 replace hF := mapO hF; obtain ⟨z11, hF, hz⟩ := hF; have hz2 := (hR1 _ hz.symm).symm; subst hz2; clear hz
 show Run _ _ _ _ _ _
 refine rg fun K hK => ?_
 have q := h7
 iterate 3 refine wq ?_
 refine hK _ _ ?_; clear hK K
 refine Run.ret ?_
 obtain rfl := Option.some.inj hF
 simp [tupA, h7]
theorem retargetref02_count_ok [Fx] {t_0 : TTerm} {limit_1 : Int} {deep_2 : Int} {r : Int × Bool} (hF : retargetref02_count t_0 limit_1 deep_2 = some r) : PCall Tryd.prog EE 43 [.agg t_0.row, .int .i64 limit_1, .int .i64 deep_2] fun v => v = .tup [.int .i64 r.1, .bool r.2] :=
  itr_ind (C := fun (a : TTerm × Int × Int) (r : Int × Bool) => PCall Tryd.prog EE 43 [.agg a.1.row, .int .i64 a.2.1, .int .i64 a.2.2] fun v => v = .tup [.int .i64 r.1, .bool r.2]) (fun self ih {a r} h => retargetref02_count_step (fun {a r} h => ih h) h) _ hF

/-! retargetref02_long -/
def retargetref02_long.l0 [Fx] (t_0 : TTerm) (self : TTerm → Option Bool) : Int → Option (Int ⊕ Bool) := fun v =>
 match v with
 | i_x1 =>
 (if (decide (i_x1 < (t_0.sub.length : Int))) then
 (if (0 : Int) ≤ i_x1 ∧ i_x1 < (t_0.sub.length : Int) then
 ((self ((nth t_0.sub i_x1))).bind fun y5 =>
 (if y5 then
 some (.inr true)
 else
 some (.inl (IntKind.i64.wrap (i_x1 + 1)))))
 else none)
 else
 (Option.map Sum.inr (some (decide (200 < (t_0.name.length : Int))))))
def retargetref02_long.G [Fx] (self : TTerm → Option Bool) (t_0 : TTerm) : Option Bool :=
 Fx.fx (retargetref02_long.l0 t_0 self) 0
def retargetref02_long [Fx] (t_0 : TTerm) : Option Bool := itr (fun self a => retargetref02_long.G self a) (t_0.nodes.length + 1) (t_0)
theorem retargetref02_long_step [Fx] {self : TTerm → Option Bool} (ih : ∀ {a : TTerm} {r : Bool}, self a = some r → PCall Tryd.prog EE 44 [.agg a.row] fun v => v = .bool r) {t_0 : TTerm} {r : Bool} (hF : retargetref02_long.G self t_0 = some r) : PCall Tryd.prog EE 44 [.agg t_0.row] fun v => v = .bool r := by
 refine PCall.of_fun EOK (F := Tryd.f44) 21 [.tmp 2] (by kernel_rfl) rfl rfl rfl rfl (Nat.le_of_ble_eq_true rfl) (by simp) ?_
 simp only [slotsA]
 unfold retargetref02_long.G at hF
 refine rg fun K hK => ?_
 refine We rfl ?_; simp
 intro b1 _
 refine Wq (by simp; rfl) ?_
 refine hK _ _ ?_; clear hK K
 refine Run.seq ?_
 refine rg fun K hK => ?_
 refine Wq (by simp; rfl) ?_
 refine hK _ _ ?_; clear hK K
 refine Run.block ?_
 refine Run.fixX hF [1, 3] [] [b1] [] (by simp) (by simp) (by simp) (fun i_x1 f σ => f = ⟨21, [(1, .ptr b1 0), (3, .int .i64 i_x1)], [], []⟩ ∧ σ = ⟨[(b1, t_0.row)], []⟩) ?_ ?_
 ·
  exact ⟨by simp [Fm.rst, nn, nn1], by simp [St.only, nn1]⟩
 clear hF
 rintro i_x1 _ _ yy1 ⟨rfl, rfl⟩ hF hR1
 simp only [retargetref02_long.l0] at hF
 refine Run.seq ?_
 refine rg fun K hK => ?_
 iterate 5 refine Wq (by simp; rfl) ?_
 refine hK _ _ ?_; clear hK K
 refine Run.testEnd (b := (decide (i_x1 < (t_0.sub.length : Int)))) (by simp) (fun h3 => ?_) (fun h3 => ?_)
 ·
  rw [itet h3] at hF; try simp at h3
  refine Run.skip ?_
  show Run _ _ _ _ _ _
  refine Run.seq ?_
  refine Run.block ?_
  replace hF := chkO hF; obtain ⟨hc4, hF⟩ := hF
  replace hF := bindO hF; obtain ⟨y5, hy5, hF⟩ := hF
  refine rg fun K hK => ?_
  have q := h3
  iterate 3 refine wq ?_
  refine Wq (evF_ix (tg := .none) (rw := TTerm.row) (xs := t_0.sub) (k := .i64) (n := i_x1) (by simp; rfl) rfl (by simp; rfl) (by simp [q]) (by simp [q]) hc4.1 hc4.2 (by simp)) ?_
  refine wq ?_
  refine wcq (ih hy5) ?_; rintro _ rfl; simp
  refine hK _ _ ?_; clear hK K
  refine Run.testEnd (b := y5) (by simp [q]) (fun h6 => ?_) (fun h6 => ?_)
  ·
   rw [itet h6] at hF; try simp at h6
   refine rg fun K hK => ?_
   have q := And.intro q h6
   refine wq ?_
   refine hK _ _ ?_; clear hK K
   refine Run.ret ?_
   have hv := hR1 _ (Option.some.inj hF).symm
   subst hv
   simp [tupA, h3, h6]
  rw [itef h6] at hF; try simp at h6
  refine Run.skip ?_
  show Run _ _ _ _ _ _
  refine rge fun K hK => ?_
  have q := And.intro q h6
  iterate 3 refine wq ?_
  refine hK _ _ ?_; clear hK K
  exact ⟨_, (Option.some.inj hF).symm, by simp [q, Fm.rst, nn, nn1], by simp [q, St.only, nn1]⟩
 rw [itef h3] at hF; try simp at h3
 refine Run.exit ?_
 replace hF := mapO hF; obtain ⟨z7, hF, hz⟩ := hF; have hz2 := (hR1 _ hz.symm).symm; subst hz2; clear hz
 show Run _ _ _ _ _ _
 refine rg fun K hK => ?_
 have q := h3
 iterate 5 refine wq ?_
 refine hK _ _ ?_; clear hK K
 refine Run.ret ?_
 obtain rfl := Option.some.inj hF
 simp [tupA, h3]
theorem retargetref02_long_ok [Fx] {t_0 : TTerm} {r : Bool} (hF : retargetref02_long t_0 = some r) : PCall Tryd.prog EE 44 [.agg t_0.row] fun v => v = .bool r :=
  itr_ind (C := fun (a : TTerm) (r : Bool) => PCall Tryd.prog EE 44 [.agg a.row] fun v => v = .bool r) (fun self ih {a r} h => retargetref02_long_step (fun {a r} h => ih h) h) _ hF

/-! retargetref02_Great -/

def retargetref02_Great [Fx] (t_0 : TTerm) : Option Bool :=
 ((retargetref02_count t_0 500 80).bind fun y1 =>
 ((if (!((!y1.2) || (decide (500 < y1.1)))) then retargetref02_long t_0 else some default).bind fun y4 =>
 some (((!y1.2) || (decide (500 < y1.1))) || y4)))
theorem retargetref02_Great_ok [Fx] {t_0 : TTerm} {r : Bool} (hF : retargetref02_Great t_0 = some r) : PCall Tryd.prog EE 12 [.agg t_0.row] fun v => v = .bool r := by
 refine PCall.of_fun EOK (F := Tryd.f12) 20 [.tmp 2] (by kernel_rfl) rfl rfl rfl rfl (Nat.le_of_ble_eq_true rfl) (by simp) ?_
 simp only [slotsA]
 unfold retargetref02_Great at hF
 refine rg fun K hK => ?_
 refine We rfl ?_; simp
 intro b1 _
 refine Wq (by simp; rfl) ?_
 refine hK _ _ ?_; clear hK K
 replace hF := bindO hF; obtain ⟨y1, hy1, hF⟩ := hF
 refine rg fun K hK => ?_
 refine Wq (by simp; rfl) ?_
 refine Wc rfl rfl rfl (by first | (simp; rfl) | (simp; done)) (by simp; done) (retargetref02_count_ok hy1) ?_; rintro _ rfl; simp
 iterate 5 refine Wq (by simp; rfl) ?_
 refine hK _ _ ?_; clear hK K
 replace hF := bindO hF; obtain ⟨y4, hy4, hF⟩ := hF
 refine rg fun K hK => ?_
 iterate 3 refine Wq (by simp; rfl) ?_
 obtain ⟨g2, e2⟩ : ∃ g, g = y1.2 := ⟨_, rfl⟩
 iterate 2 refine Wg rfl (b := g2) (by simp [e2]) (fun hg => by simp [hg]; rfl) ?_
 refine Wor (t := (!y1.2)) (β := (decide (500 < y1.1))) (by simp) rfl (fun hh => by have h0 := e2.trans (nnot (notf hh)); simp [h0]) (by first | (simp; done) | (simp; rfl)) ?_
 refine Wq (by simp; rfl) ?_
 obtain ⟨g3, e3⟩ : ∃ g, g = (!((!y1.2) || (decide (500 < y1.1)))) := ⟨_, rfl⟩
 refine Wg rfl (b := g3) (by simp [e3]) (fun hg => by simp [hg]; rfl) ?_
 refine Wgc rfl rfl (b := g3) (by simp [e3]) rfl rfl (fun hg => by simp [hg]; rfl) (fun hg => by simp [hg]; done) (fun hg => retargetref02_long_ok ((itet (e3.symm.trans hg)).symm.trans hy4)) ?_
 simp
 refine Wor (t := ((!y1.2) || (decide (500 < y1.1)))) (β := y4) (by simp) rfl (fun hh => by have h0 := e3.trans (notf hh); simp [h0]) (by first | (simp; done) | (simp; rfl)) ?_
 refine Wq (by simp; rfl) ?_
 refine hK _ _ ?_; clear hK K
 refine Run.ret ?_
 obtain rfl := Option.some.inj hF
 simp [tupA]

/-! retargetref08_Nodes -/
def retargetref08_Nodes.l1 [Fx] (m_0 : TMachine) (i_x2 : Int) : Int × Int → Option ((Int × Int) ⊕ ((Int × Int) ⊕ Int)) := fun v =>
 match v with
 | (n_x6, k_x7) =>
 (if (0 : Int) ≤ i_x2 ∧ i_x2 < (m_0.instrs.length : Int) then
 (if (decide (k_x7 < (((nth m_0.instrs i_x2).effects).length : Int))) then
 (if (0 : Int) ≤ i_x2 ∧ i_x2 < (m_0.instrs.length : Int) then
 (if (0 : Int) ≤ k_x7 ∧ k_x7 < (((nth m_0.instrs i_x2).effects).length : Int) then
 ((retargetref02_Size ((nth ((nth m_0.instrs i_x2).effects) k_x7).addr)).bind fun y14 =>
 ((retargetref02_Size ((nth ((nth m_0.instrs i_x2).effects) k_x7).value)).bind fun y15 =>
 ((retargetref02_Size ((nth ((nth m_0.instrs i_x2).effects) k_x7).cond)).bind fun y16 =>
 some (.inl ((IntKind.i64.wrap (n_x6 + (IntKind.i64.wrap ((IntKind.i64.wrap (y14 + y15)) + y16)))), (IntKind.i64.wrap (k_x7 + 1)))))))
 else none)
 else none)
 else
 (Option.map Sum.inr (some (.inl (n_x6, (IntKind.i64.wrap (i_x2 + 1)))))))
 else none)
def retargetref08_Nodes.l0 [Fx] (m_0 : TMachine) : Int × Int → Option ((Int × Int) ⊕ Int) := fun v =>
 match v with
 | (n_x1, i_x2) =>
 (if (decide (i_x2 < (m_0.instrs.length : Int))) then
 Fx.fx (retargetref08_Nodes.l1 m_0 i_x2) (n_x1, 0)
 else
 (Option.map Sum.inr (some n_x1)))
def retargetref08_Nodes [Fx] (m_0 : TMachine) : Option Int :=
 Fx.fx (retargetref08_Nodes.l0 m_0) (0, 0)
theorem retargetref08_Nodes_ok [Fx] {m_0 : TMachine} {r : Int} (hF : retargetref08_Nodes m_0 = some r) : PCall Tryd.prog EE 25 [.agg m_0.row] fun v => v = .int .i64 r := by
 refine PCall.of_fun EOK (F := Tryd.f25) 48 [.tmp 2] (by kernel_rfl) rfl rfl rfl rfl (Nat.le_of_ble_eq_true rfl) (by simp) ?_
 simp only [slotsA]
 unfold retargetref08_Nodes at hF
 refine rg fun K hK => ?_
 refine We rfl ?_; simp
 intro b1 _
 refine Wq (by simp; rfl) ?_
 refine hK _ _ ?_; clear hK K
 refine rg fun K hK => ?_
 refine Wq (by simp; rfl) ?_
 refine hK _ _ ?_; clear hK K
 refine Run.seq ?_
 refine rg fun K hK => ?_
 refine Wq (by simp; rfl) ?_
 refine hK _ _ ?_; clear hK K
 refine Run.block ?_
 refine Run.fixX hF [1, 3, 4] [] [b1] [] (by simp) (by simp) (by simp) (fun v f σ => ∃ n_x1 : Int, ∃ i_x2 : Int, v = (n_x1, i_x2) ∧ f = ⟨48, [(1, .ptr b1 0), (3, .int .i64 n_x1), (4, .int .i64 i_x2)], [], []⟩ ∧ σ = ⟨[(b1, m_0.row)], []⟩) ?_ ?_
 ·
  exact ⟨0, 0, rfl, by simp [Fm.rst, nn, nn1], by simp [St.only, nn1]⟩
 clear hF
 rintro _ _ _ yy1 ⟨n_x1, i_x2, rfl, rfl, rfl⟩ hF hR1
 simp only [retargetref08_Nodes.l0] at hF
 refine Run.seq ?_
 refine rg fun K hK => ?_
 iterate 5 refine Wq (by simp; rfl) ?_
 refine hK _ _ ?_; clear hK K
 refine Run.testEnd (b := (decide (i_x2 < (m_0.instrs.length : Int)))) (by simp) (fun h5 => ?_) (fun h5 => ?_)
 ·
  rw [itet h5] at hF; try simp at h5
  refine Run.skip ?_
  show Run _ _ _ _ _ _
  refine Run.seq ?_
  refine Run.block ?_
  refine rg fun K hK => ?_
  have q := h5
  refine wq ?_
  refine hK _ _ ?_; clear hK K
  refine Run.block ?_
  refine Run.fixX hF [1, 3, 4, 5] [] [b1] [] (by simp) (by simp) (by simp) (fun v f σ => ∃ n_x6 : Int, ∃ k_x7 : Int, v = (n_x6, k_x7) ∧ f = ⟨48, [(1, .ptr b1 0), (3, .int .i64 n_x6), (4, .int .i64 i_x2), (5, .int .i64 k_x7)], [], []⟩ ∧ σ = ⟨[(b1, m_0.row)], []⟩) ?_ ?_
  ·
   exact ⟨n_x1, 0, rfl, by simp [q, Fm.rst, nn, nn1], by simp [q, St.only, nn1]⟩
  clear hF
  rintro _ _ _ yy2 ⟨n_x6, k_x7, rfl, rfl, rfl⟩ hF hR2
  simp only [retargetref08_Nodes.l1] at hF
  refine Run.seq ?_
  replace hF := chkO hF; obtain ⟨hc10, hF⟩ := hF
  refine rg fun K hK => ?_
  iterate 4 refine Wq (by simp; rfl) ?_
  refine Wq (evF_ix (tg := .none) (rw := TMachInstr.row) (xs := m_0.instrs) (k := .i64) (n := i_x2) (by simp; rfl) rfl (by simp; rfl) (by simp) (by simp) hc10.1 hc10.2 (by simp)) ?_
  iterate 4 refine Wq (by simp; rfl) ?_
  refine hK _ _ ?_; clear hK K
  refine Run.testEnd (b := (decide (k_x7 < (((nth m_0.instrs i_x2).effects).length : Int)))) (by simp) (fun h11 => ?_) (fun h11 => ?_)
  ·
   rw [itet h11] at hF; try simp at h11
   refine Run.skip ?_
   show Run _ _ _ _ _ _
   refine Run.seq ?_
   refine Run.block ?_
   replace hF := chkO hF; obtain ⟨hc12, hF⟩ := hF
   replace hF := chkO hF; obtain ⟨hc13, hF⟩ := hF
   refine rg fun K hK => ?_
   have q := h11
   iterate 3 refine wq ?_
   refine Wq (evF_ix (tg := .none) (rw := TMachInstr.row) (xs := m_0.instrs) (k := .i64) (n := i_x2) (by simp; rfl) rfl (by simp; rfl) (by simp [q]) (by simp [q]) hc12.1 hc12.2 (by simp)) ?_
   iterate 3 refine wq ?_
   refine Wq (evF_ix (tg := .none) (rw := TMachEffect.row) (xs := ((nth m_0.instrs i_x2).effects)) (k := .i64) (n := k_x7) (by simp; rfl) rfl (by simp; rfl) (by simp [q]) (by simp [q]) hc13.1 hc13.2 (by simp)) ?_
   refine wq ?_
   refine We rfl ?_; simp [q]
   intro b6 hb6; simp [Fresh] at hb6; have hq6 : ¬b1 = b6 := by omega
   have q := And.intro (And.intro q hb6) hq6
   refine We rfl ?_; simp [q]
   refine hK _ _ ?_; clear hK K
   replace hF := bindO hF; obtain ⟨y14, hy14, hF⟩ := hF
   replace hF := bindO hF; obtain ⟨y15, hy15, hF⟩ := hF
   replace hF := bindO hF; obtain ⟨y16, hy16, hF⟩ := hF
   refine Run.draw EOK mixed 12 [0, 1, 2, 4, 5, 8, 9, 3, 6, 7, 10, 11] rfl (by kernel_rfl) fun K hK => ?_
   iterate 7 refine Pq rfl (by simp [q]; rfl) ?_
   refine Pc rfl rfl rfl rfl (by first | (simp [q]; rfl) | (simp [q]; done)) (by simp [q]; done) (retargetref02_Size_ok hy14) ?_; rintro _ rfl; simp
   refine Pc rfl rfl rfl rfl (by first | (simp [q]; rfl) | (simp [q]; done)) (by simp [q]; done) (retargetref02_Size_ok hy15) ?_; rintro _ rfl; simp
   refine Pq rfl (by simp [q]; rfl) ?_
   refine Pc rfl rfl rfl rfl (by first | (simp [q]; rfl) | (simp [q]; done)) (by simp [q]; done) (retargetref02_Size_ok hy16) ?_; rintro _ rfl; simp
   refine Pq rfl (by simp [q]; rfl) ?_
   refine Pd ?_
   iterate 2 refine wq ?_
   refine hK _ _ ?_; clear hK K
   show Run _ _ _ _ _ _
   refine rge fun K hK => ?_
   iterate 3 refine wq ?_
   refine hK _ _ ?_; clear hK K
   exact ⟨_, (Option.some.inj hF).symm, (IntKind.i64.wrap (n_x6 + (IntKind.i64.wrap ((IntKind.i64.wrap (y14 + y15)) + y16)))), (IntKind.i64.wrap (k_x7 + 1)), rfl, by simp [q, Fm.rst, nn, nn1], by simp [q, St.only, nn1]⟩
  rw [itef h11] at hF; try simp at h11
  refine Run.exit ?_
  replace hF := mapO hF; obtain ⟨z17, hF, hz⟩ := hF; have hz2 := (hR2 _ hz.symm).symm; subst hz2; clear hz
  show Run _ _ _ _ _ _
  refine rge fun K hK => ?_
  have q := h11
  iterate 3 refine wq ?_
  refine hK _ _ ?_; clear hK K
  exact ⟨_, (Option.some.inj hF).symm, n_x6, (IntKind.i64.wrap (i_x2 + 1)), rfl, by simp [q, Fm.rst, nn, nn1], by simp [q, St.only, nn1]⟩
 rw [itef h5] at hF; try simp at h5
 refine Run.exit ?_
 replace hF := mapO hF; obtain ⟨z18, hF, hz⟩ := hF; have hz2 := (hR1 _ hz.symm).symm; subst hz2; clear hz
 show Run _ _ _ _ _ _
 refine rg fun K hK => ?_
 have q := h5
 iterate 2 refine wq ?_
 refine hK _ _ ?_; clear hK K
 refine Run.ret ?_
 obtain rfl := Option.some.inj hF
 simp [tupA, h5]

/-! retargetref08_Great -/
def retargetref08_Great.l3 [Fx] (m_0 : TMachine) (i_x13 : Int) : Int → Option (Int ⊕ (Int ⊕ Bool)) := fun v =>
 match v with
 | k_x27 =>
 (if (decide (k_x27 < (((nth m_0.instrs i_x13).effects).length : Int))) then
 (if (0 : Int) ≤ k_x27 ∧ k_x27 < (((nth m_0.instrs i_x13).effects).length : Int) then
 ((retargetref02_Great ((nth ((nth m_0.instrs i_x13).effects) k_x27).addr)).bind fun y31 =>
 (if ((!y31) = true → (0 : Int) ≤ k_x27 ∧ k_x27 < (((nth m_0.instrs i_x13).effects).length : Int)) then
 ((if (!y31) then retargetref02_Great ((nth ((nth m_0.instrs i_x13).effects) k_x27).value) else some default).bind fun y34 =>
 (if ((!(y31 || y34)) = true → (0 : Int) ≤ k_x27 ∧ k_x27 < (((nth m_0.instrs i_x13).effects).length : Int)) then
 ((if (!(y31 || y34)) then retargetref02_Great ((nth ((nth m_0.instrs i_x13).effects) k_x27).cond) else some default).bind fun y37 =>
 (if ((y31 || y34) || y37) then
 some (.inr (.inr true))
 else
 some (.inl (IntKind.i64.wrap (k_x27 + 1)))))
 else none))
 else none))
 else none)
 else
 (Option.map Sum.inr (some (.inl (IntKind.i64.wrap (i_x13 + 1))))))
def retargetref08_Great.l2 [Fx] (m_0 : TMachine) (i_x13 : Int) : Int → Option (Int ⊕ (Int ⊕ Bool)) := fun v =>
 match v with
 | k_x20 =>
 (if (decide (k_x20 < (((nth m_0.instrs i_x13).operands).length : Int))) then
 (if (0 : Int) ≤ k_x20 ∧ k_x20 < (((nth m_0.instrs i_x13).operands).length : Int) then
 (if ((!(decide (14 < (((nth ((nth m_0.instrs i_x13).operands) k_x20).pieces).length : Int)))) = true → (0 : Int) ≤ k_x20 ∧ k_x20 < (((nth m_0.instrs i_x13).operands).length : Int)) then
 (if ((decide (14 < (((nth ((nth m_0.instrs i_x13).operands) k_x20).pieces).length : Int))) || (decide (100 < (((nth ((nth m_0.instrs i_x13).operands) k_x20).name).length : Int)))) then
 some (.inr (.inr true))
 else
 some (.inl (IntKind.i64.wrap (k_x20 + 1))))
 else none)
 else none)
 else
 (Option.map Sum.inr (Fx.fx (retargetref08_Great.l3 m_0 i_x13) 0)))
def retargetref08_Great.l1 [Fx] (m_0 : TMachine) : Int → Option (Int ⊕ Bool) := fun v =>
 match v with
 | i_x13 =>
 (if (decide (i_x13 < (m_0.instrs.length : Int))) then
 (if (0 : Int) ≤ i_x13 ∧ i_x13 < (m_0.instrs.length : Int) then
 (if (((decide (14 < (((nth m_0.instrs i_x13).operands).length : Int))) || (decide (14 < (((nth m_0.instrs i_x13).effects).length : Int)))) || (decide (100 < (((nth m_0.instrs i_x13).name).length : Int)))) then
 some (.inr true)
 else
 Fx.fx (retargetref08_Great.l2 m_0 i_x13) 0)
 else none)
 else
 (Option.map Sum.inr ((retargetref08_Nodes m_0).bind fun y41 =>
 some (decide (1500 < y41)))))
def retargetref08_Great.l0 [Fx] (m_0 : TMachine) : Int → Option (Int ⊕ Bool) := fun v =>
 match v with
 | i_x6 =>
 (if (decide (i_x6 < (m_0.banks.length : Int))) then
 (if (0 : Int) ≤ i_x6 ∧ i_x6 < (m_0.banks.length : Int) then
 (if ((!(decide (74 < (((nth m_0.banks i_x6).regs).length : Int)))) = true → (0 : Int) ≤ i_x6 ∧ i_x6 < (m_0.banks.length : Int)) then
 (if ((decide (74 < (((nth m_0.banks i_x6).regs).length : Int))) || (decide (100 < (((nth m_0.banks i_x6).name).length : Int)))) then
 some (.inr true)
 else
 some (.inl (IntKind.i64.wrap (i_x6 + 1))))
 else none)
 else none)
 else
 (Option.map Sum.inr (Fx.fx (retargetref08_Great.l1 m_0) 0)))
def retargetref08_Great [Fx] (m_0 : TMachine) : Option Bool :=
 (if (((((decide (100 < (m_0.name.length : Int))) || (decide (74 < (m_0.regs.length : Int)))) || (decide (26 < (m_0.banks.length : Int)))) || (decide (18 < (m_0.units.length : Int)))) || (decide (74 < (m_0.instrs.length : Int)))) then
 some true
 else
 Fx.fx (retargetref08_Great.l0 m_0) 0)
theorem retargetref08_Great_ok [Fx] {m_0 : TMachine} {r : Bool} (hF : retargetref08_Great m_0 = some r) : PCall Tryd.prog EE 7 [.agg m_0.row] fun v => v = .bool r := by
 refine PCall.of_fun EOK (F := Tryd.f7) 149 [.tmp 2] (by kernel_rfl) rfl rfl rfl rfl (Nat.le_of_ble_eq_true rfl) (by simp) ?_
 simp only [slotsA]
 unfold retargetref08_Great at hF
 refine rg fun K hK => ?_
 refine We rfl ?_; simp
 intro b1 _
 refine Wq (by simp; rfl) ?_
 refine hK _ _ ?_; clear hK K
 refine Run.seq ?_
 refine rg fun K hK => ?_
 iterate 5 refine Wq (by simp; rfl) ?_
 obtain ⟨g1, e1⟩ : ∃ g, g = (!(decide (100 < (m_0.name.length : Int)))) := ⟨_, rfl⟩
 iterate 4 refine Wg rfl (b := g1) (by simp [e1]) (fun hg => by simp [hg]; rfl) ?_
 refine Wor (t := (decide (100 < (m_0.name.length : Int)))) (β := (decide (74 < (m_0.regs.length : Int)))) (by simp) rfl (fun hh => by have h0 := e1.trans (notf hh); simp [h0]) (by first | (simp; done) | (simp; rfl)) ?_
 refine Wq (by simp; rfl) ?_
 obtain ⟨g2, e2⟩ : ∃ g, g = (!((decide (100 < (m_0.name.length : Int))) || (decide (74 < (m_0.regs.length : Int))))) := ⟨_, rfl⟩
 iterate 4 refine Wg rfl (b := g2) (by simp [e2]) (fun hg => by simp [hg]; rfl) ?_
 refine Wor (t := ((decide (100 < (m_0.name.length : Int))) || (decide (74 < (m_0.regs.length : Int))))) (β := (decide (26 < (m_0.banks.length : Int)))) (by simp) rfl (fun hh => by have h0 := e2.trans (notf hh); simp [h0]) (by first | (simp; done) | (simp; rfl)) ?_
 refine Wq (by simp; rfl) ?_
 obtain ⟨g3, e3⟩ : ∃ g, g = (!(((decide (100 < (m_0.name.length : Int))) || (decide (74 < (m_0.regs.length : Int)))) || (decide (26 < (m_0.banks.length : Int))))) := ⟨_, rfl⟩
 iterate 4 refine Wg rfl (b := g3) (by simp [e3]) (fun hg => by simp [hg]; rfl) ?_
 refine Wor (t := (((decide (100 < (m_0.name.length : Int))) || (decide (74 < (m_0.regs.length : Int)))) || (decide (26 < (m_0.banks.length : Int))))) (β := (decide (18 < (m_0.units.length : Int)))) (by simp) rfl (fun hh => by have h0 := e3.trans (notf hh); simp [h0]) (by first | (simp; done) | (simp; rfl)) ?_
 refine Wq (by simp; rfl) ?_
 obtain ⟨g4, e4⟩ : ∃ g, g = (!((((decide (100 < (m_0.name.length : Int))) || (decide (74 < (m_0.regs.length : Int)))) || (decide (26 < (m_0.banks.length : Int)))) || (decide (18 < (m_0.units.length : Int))))) := ⟨_, rfl⟩
 iterate 4 refine Wg rfl (b := g4) (by simp [e4]) (fun hg => by simp [hg]; rfl) ?_
 refine Wor (t := ((((decide (100 < (m_0.name.length : Int))) || (decide (74 < (m_0.regs.length : Int)))) || (decide (26 < (m_0.banks.length : Int)))) || (decide (18 < (m_0.units.length : Int))))) (β := (decide (74 < (m_0.instrs.length : Int)))) (by simp) rfl (fun hh => by have h0 := e4.trans (notf hh); simp [h0]) (by first | (simp; done) | (simp; rfl)) ?_
 refine hK _ _ ?_; clear hK K
 refine Run.testEnd (b := (((((decide (100 < (m_0.name.length : Int))) || (decide (74 < (m_0.regs.length : Int)))) || (decide (26 < (m_0.banks.length : Int)))) || (decide (18 < (m_0.units.length : Int)))) || (decide (74 < (m_0.instrs.length : Int))))) (by simp) (fun h5 => ?_) (fun h5 => ?_)
 ·
  rw [itet h5] at hF; try simp at h5
  refine rg fun K hK => ?_
  have q := h5
  refine wq ?_
  refine hK _ _ ?_; clear hK K
  refine Run.ret ?_
  obtain rfl := Option.some.inj hF
  simp [tupA, h5]
 rw [itef h5] at hF; try simp at h5
 refine Run.skip ?_
 show Run _ _ _ _ _ _
 refine Run.seq ?_
 refine rg fun K hK => ?_
 have q := h5
 refine wq ?_
 refine hK _ _ ?_; clear hK K
 refine Run.block ?_
 refine Run.fixX hF [1, 3] [] [b1] [] (by simp) (by simp) (by simp) (fun i_x6 f σ => f = ⟨149, [(1, .ptr b1 0), (3, .int .i64 i_x6)], [], []⟩ ∧ σ = ⟨[(b1, m_0.row)], []⟩) ?_ ?_
 ·
  exact ⟨by simp [q, Fm.rst, nn, nn1], by simp [q, St.only, nn1]⟩
 clear hF
 rintro i_x6 _ _ yy1 ⟨rfl, rfl⟩ hF hR1
 simp only [retargetref08_Great.l0] at hF
 refine Run.seq ?_
 refine rg fun K hK => ?_
 iterate 5 refine Wq (by simp; rfl) ?_
 refine hK _ _ ?_; clear hK K
 refine Run.testEnd (b := (decide (i_x6 < (m_0.banks.length : Int)))) (by simp) (fun h8 => ?_) (fun h8 => ?_)
 ·
  rw [itet h8] at hF; try simp at h8
  refine Run.skip ?_
  show Run _ _ _ _ _ _
  refine Run.seq ?_
  refine Run.block ?_
  replace hF := chkO hF; obtain ⟨hc9, hF⟩ := hF
  replace hF := chkO hF; obtain ⟨hc11, hF⟩ := hF
  refine rg fun K hK => ?_
  have q := h8
  iterate 3 refine wq ?_
  refine Wq (evF_ix (tg := .none) (rw := TMachBank.row) (xs := m_0.banks) (k := .i64) (n := i_x6) (by simp; rfl) rfl (by simp; rfl) (by simp [q]) (by simp [q]) hc9.1 hc9.2 (by simp)) ?_
  iterate 5 refine wq ?_
  obtain ⟨g10, e10⟩ : ∃ g, g = (!(decide (74 < (((nth m_0.banks i_x6).regs).length : Int)))) := ⟨_, rfl⟩
  iterate 3 refine Wg rfl (b := g10) (by simp [q, e10]) (fun hg => by simp [q, hg]; rfl) ?_
  refine Wg rfl (b := g10) (by simp [q, e10]) (fun hg => evF_ix (tg := .none) (rw := TMachBank.row) (xs := m_0.banks) (k := .i64) (n := i_x6) (by simp; rfl) rfl (by simp; rfl) (by simp [q, hg]) (by simp [q, hg]) (hc11 (e10.symm.trans hg)).1 (hc11 (e10.symm.trans hg)).2 (by simp)) ?_
  iterate 4 refine Wg rfl (b := g10) (by simp [q, e10]) (fun hg => by simp [q, hg]; rfl) ?_
  refine Wor (t := (decide (74 < (((nth m_0.banks i_x6).regs).length : Int)))) (β := (decide (100 < (((nth m_0.banks i_x6).name).length : Int)))) (by simp [q]) rfl (fun hh => by have h0 := e10.trans (notf hh); simp [q, h0]) (by first | (simp; done) | (simp; rfl)) ?_
  refine hK _ _ ?_; clear hK K
  refine Run.testEnd (b := ((decide (74 < (((nth m_0.banks i_x6).regs).length : Int))) || (decide (100 < (((nth m_0.banks i_x6).name).length : Int))))) (by simp [q]) (fun h12 => ?_) (fun h12 => ?_)
  ·
   rw [itet h12] at hF; try simp at h12
   refine rg fun K hK => ?_
   have q := And.intro q h12
   refine wq ?_
   refine hK _ _ ?_; clear hK K
   refine Run.ret ?_
   have hv := hR1 _ (Option.some.inj hF).symm
   subst hv
   simp [tupA, h8, h12]
  rw [itef h12] at hF; try simp at h12
  refine Run.skip ?_
  show Run _ _ _ _ _ _
  refine rge fun K hK => ?_
  have q := And.intro q h12
  iterate 3 refine wq ?_
  refine hK _ _ ?_; clear hK K
  exact ⟨_, (Option.some.inj hF).symm, by simp [q, Fm.rst, nn, nn1], by simp [q, St.only, nn1]⟩
 rw [itef h8] at hF; try simp at h8
 refine Run.exit ?_
 replace hF := mapO hF; obtain ⟨z43, hF, hz⟩ := hF; have hz2 := (hR1 _ hz.symm).symm; subst hz2; clear hz
 show Run _ _ _ _ _ _
 refine Run.seq ?_
 refine rg fun K hK => ?_
 have q := h8
 refine wq ?_
 refine hK _ _ ?_; clear hK K
 refine Run.block ?_
 refine Run.fixX hF [1, 4] [] [b1] [] (by simp) (by simp) (by simp) (fun i_x13 f σ => f = ⟨149, [(1, .ptr b1 0), (4, .int .i64 i_x13)], [], []⟩ ∧ σ = ⟨[(b1, m_0.row)], []⟩) ?_ ?_
 ·
  exact ⟨by simp [q, Fm.rst, nn, nn1], by simp [q, St.only, nn1]⟩
 clear hF
 rintro i_x13 _ _ yy1 ⟨rfl, rfl⟩ hF hR1
 simp only [retargetref08_Great.l1] at hF
 refine Run.seq ?_
 refine rg fun K hK => ?_
 iterate 5 refine Wq (by simp; rfl) ?_
 refine hK _ _ ?_; clear hK K
 refine Run.testEnd (b := (decide (i_x13 < (m_0.instrs.length : Int)))) (by simp) (fun h15 => ?_) (fun h15 => ?_)
 ·
  rw [itet h15] at hF; try simp at h15
  refine Run.skip ?_
  show Run _ _ _ _ _ _
  refine Run.seq ?_
  refine Run.block ?_
  replace hF := chkO hF; obtain ⟨hc16, hF⟩ := hF
  refine rg fun K hK => ?_
  have q := h15
  iterate 3 refine wq ?_
  refine Wq (evF_ix (tg := .none) (rw := TMachInstr.row) (xs := m_0.instrs) (k := .i64) (n := i_x13) (by simp; rfl) rfl (by simp; rfl) (by simp [q]) (by simp [q]) hc16.1 hc16.2 (by simp)) ?_
  refine wq ?_
  refine We rfl ?_; simp [q]
  intro b5 hb5; simp [Fresh] at hb5; have hq5 : ¬b1 = b5 := by omega
  have q := And.intro (And.intro q hb5) hq5
  refine We rfl ?_; simp [q]
  refine hK _ _ ?_; clear hK K
  refine Run.seq ?_
  refine rg fun K hK => ?_
  iterate 5 refine wq ?_
  obtain ⟨g17, e17⟩ : ∃ g, g = (!(decide (14 < (((nth m_0.instrs i_x13).operands).length : Int)))) := ⟨_, rfl⟩
  iterate 4 refine Wg rfl (b := g17) (by simp [q, e17]) (fun hg => by simp [q, hg]; rfl) ?_
  refine Wor (t := (decide (14 < (((nth m_0.instrs i_x13).operands).length : Int)))) (β := (decide (14 < (((nth m_0.instrs i_x13).effects).length : Int)))) (by simp [q]) rfl (fun hh => by have h0 := e17.trans (notf hh); simp [q, h0]) (by first | (simp; done) | (simp; rfl)) ?_
  refine wq ?_
  obtain ⟨g18, e18⟩ : ∃ g, g = (!((decide (14 < (((nth m_0.instrs i_x13).operands).length : Int))) || (decide (14 < (((nth m_0.instrs i_x13).effects).length : Int))))) := ⟨_, rfl⟩
  iterate 4 refine Wg rfl (b := g18) (by simp [q, e18]) (fun hg => by simp [q, hg]; rfl) ?_
  refine Wor (t := ((decide (14 < (((nth m_0.instrs i_x13).operands).length : Int))) || (decide (14 < (((nth m_0.instrs i_x13).effects).length : Int))))) (β := (decide (100 < (((nth m_0.instrs i_x13).name).length : Int)))) (by simp [q]) rfl (fun hh => by have h0 := e18.trans (notf hh); simp [q, h0]) (by first | (simp; done) | (simp; rfl)) ?_
  refine hK _ _ ?_; clear hK K
  refine Run.testEnd (b := (((decide (14 < (((nth m_0.instrs i_x13).operands).length : Int))) || (decide (14 < (((nth m_0.instrs i_x13).effects).length : Int)))) || (decide (100 < (((nth m_0.instrs i_x13).name).length : Int))))) (by simp [q]) (fun h19 => ?_) (fun h19 => ?_)
  ·
   rw [itet h19] at hF; try simp at h19
   refine rg fun K hK => ?_
   have q := And.intro q h19
   refine wq ?_
   refine hK _ _ ?_; clear hK K
   refine Run.ret ?_
   have hv := hR1 _ (Option.some.inj hF).symm
   subst hv
   simp [tupA, h15, hb5, hq5, h19]
  rw [itef h19] at hF; try simp at h19
  refine Run.skip ?_
  show Run _ _ _ _ _ _
  refine Run.seq ?_
  refine rg fun K hK => ?_
  have q := And.intro q h19
  refine wq ?_
  refine hK _ _ ?_; clear hK K
  refine Run.block ?_
  refine Run.fixX hF [1, 4, 5, 6] [] [b5, b1] [] (by simp [q]) (by simp) (by simp) (fun k_x20 f σ => f = ⟨149, [(1, .ptr b1 0), (4, .int .i64 i_x13), (5, .ptr b5 0), (6, .int .i64 k_x20)], [], []⟩ ∧ σ = ⟨[(b5, (nth m_0.instrs i_x13).row), (b1, m_0.row)], []⟩) ?_ ?_
  ·
   exact ⟨by simp [q, Fm.rst, nn, nn1], by simp [q, St.only, nn1]⟩
  clear hF
  rintro k_x20 _ _ yy2 ⟨rfl, rfl⟩ hF hR2
  simp only [retargetref08_Great.l2] at hF
  refine Run.seq ?_
  refine rg fun K hK => ?_
  have q := And.intro hb5 hq5
  iterate 5 refine wq ?_
  refine hK _ _ ?_; clear hK K
  refine Run.testEnd (b := (decide (k_x20 < (((nth m_0.instrs i_x13).operands).length : Int)))) (by simp [q]) (fun h22 => ?_) (fun h22 => ?_)
  ·
   rw [itet h22] at hF; try simp at h22
   refine Run.skip ?_
   show Run _ _ _ _ _ _
   refine Run.seq ?_
   refine Run.block ?_
   replace hF := chkO hF; obtain ⟨hc23, hF⟩ := hF
   replace hF := chkO hF; obtain ⟨hc25, hF⟩ := hF
   refine rg fun K hK => ?_
   have q := And.intro q h22
   iterate 3 refine wq ?_
   refine Wq (evF_ix (tg := .none) (rw := TMachOperand.row) (xs := ((nth m_0.instrs i_x13).operands)) (k := .i64) (n := k_x20) (by simp; rfl) rfl (by simp; rfl) (by simp [q]) (by simp [q]) hc23.1 hc23.2 (by simp)) ?_
   iterate 5 refine wq ?_
   obtain ⟨g24, e24⟩ : ∃ g, g = (!(decide (14 < (((nth ((nth m_0.instrs i_x13).operands) k_x20).pieces).length : Int)))) := ⟨_, rfl⟩
   iterate 3 refine Wg rfl (b := g24) (by simp [q, e24]) (fun hg => by simp [q, hg]; rfl) ?_
   refine Wg rfl (b := g24) (by simp [q, e24]) (fun hg => evF_ix (tg := .none) (rw := TMachOperand.row) (xs := ((nth m_0.instrs i_x13).operands)) (k := .i64) (n := k_x20) (by simp; rfl) rfl (by simp; rfl) (by simp [q, hg]) (by simp [q, hg]) (hc25 (e24.symm.trans hg)).1 (hc25 (e24.symm.trans hg)).2 (by simp)) ?_
   iterate 4 refine Wg rfl (b := g24) (by simp [q, e24]) (fun hg => by simp [q, hg]; rfl) ?_
   refine Wor (t := (decide (14 < (((nth ((nth m_0.instrs i_x13).operands) k_x20).pieces).length : Int)))) (β := (decide (100 < (((nth ((nth m_0.instrs i_x13).operands) k_x20).name).length : Int)))) (by simp [q]) rfl (fun hh => by have h0 := e24.trans (notf hh); simp [q, h0]) (by first | (simp; done) | (simp; rfl)) ?_
   refine hK _ _ ?_; clear hK K
   refine Run.testEnd (b := ((decide (14 < (((nth ((nth m_0.instrs i_x13).operands) k_x20).pieces).length : Int))) || (decide (100 < (((nth ((nth m_0.instrs i_x13).operands) k_x20).name).length : Int))))) (by simp [q]) (fun h26 => ?_) (fun h26 => ?_)
   ·
    rw [itet h26] at hF; try simp at h26
    refine rg fun K hK => ?_
    have q := And.intro q h26
    refine wq ?_
    refine hK _ _ ?_; clear hK K
    refine Run.ret ?_
    have hv := hR2 _ (Option.some.inj hF).symm
    replace hv := hR1 _ hv.symm
    subst hv
    simp [tupA, hb5, hq5, h22, h26]
   rw [itef h26] at hF; try simp at h26
   refine Run.skip ?_
   show Run _ _ _ _ _ _
   refine rge fun K hK => ?_
   have q := And.intro q h26
   iterate 3 refine wq ?_
   refine hK _ _ ?_; clear hK K
   exact ⟨_, (Option.some.inj hF).symm, by simp [q, Fm.rst, nn, nn1], by simp [q, St.only, nn1]⟩
  rw [itef h22] at hF; try simp at h22
  refine Run.exit ?_
  replace hF := mapO hF; obtain ⟨z40, hF, hz⟩ := hF; have hz2 := (hR2 _ hz.symm).symm; subst hz2; clear hz
  show Run _ _ _ _ _ _
  refine rg fun K hK => ?_
  have q := And.intro q h22
  refine wq ?_
  refine hK _ _ ?_; clear hK K
  refine Run.block ?_
  refine Run.fixX hF [1, 4, 5, 7] [] [b5, b1] [] (by simp [q]) (by simp) (by simp) (fun k_x27 f σ => f = ⟨149, [(1, .ptr b1 0), (4, .int .i64 i_x13), (5, .ptr b5 0), (7, .int .i64 k_x27)], [], []⟩ ∧ σ = ⟨[(b5, (nth m_0.instrs i_x13).row), (b1, m_0.row)], []⟩) ?_ ?_
  ·
   exact ⟨by simp [q, Fm.rst, nn, nn1], by simp [q, St.only, nn1]⟩
  clear hF
  rintro k_x27 _ _ yy2 ⟨rfl, rfl⟩ hF hR2
  simp only [retargetref08_Great.l3] at hF
  refine Run.seq ?_
  refine rg fun K hK => ?_
  have q := And.intro hb5 hq5
  iterate 5 refine wq ?_
  refine hK _ _ ?_; clear hK K
  refine Run.testEnd (b := (decide (k_x27 < (((nth m_0.instrs i_x13).effects).length : Int)))) (by simp [q]) (fun h29 => ?_) (fun h29 => ?_)
  ·
   rw [itet h29] at hF; try simp at h29
   refine Run.skip ?_
   show Run _ _ _ _ _ _
   refine Run.seq ?_
   refine Run.block ?_
   replace hF := chkO hF; obtain ⟨hc30, hF⟩ := hF
   replace hF := bindO hF; obtain ⟨y31, hy31, hF⟩ := hF
   replace hF := chkO hF; obtain ⟨hc33, hF⟩ := hF
   replace hF := bindO hF; obtain ⟨y34, hy34, hF⟩ := hF
   replace hF := chkO hF; obtain ⟨hc36, hF⟩ := hF
   replace hF := bindO hF; obtain ⟨y37, hy37, hF⟩ := hF
   refine rg fun K hK => ?_
   have q := And.intro q h29
   iterate 3 refine wq ?_
   refine Wq (evF_ix (tg := .none) (rw := TMachEffect.row) (xs := ((nth m_0.instrs i_x13).effects)) (k := .i64) (n := k_x27) (by simp; rfl) rfl (by simp; rfl) (by simp [q]) (by simp [q]) hc30.1 hc30.2 (by simp)) ?_
   iterate 2 refine wq ?_
   refine wcq (retargetref02_Great_ok hy31) ?_; rintro _ rfl; simp
   refine wq ?_
   obtain ⟨g32, e32⟩ : ∃ g, g = (!y31) := ⟨_, rfl⟩
   iterate 3 refine Wg rfl (b := g32) (by simp [q, e32]) (fun hg => by simp [q, hg]; rfl) ?_
   refine Wg rfl (b := g32) (by simp [q, e32]) (fun hg => evF_ix (tg := .none) (rw := TMachEffect.row) (xs := ((nth m_0.instrs i_x13).effects)) (k := .i64) (n := k_x27) (by simp; rfl) rfl (by simp; rfl) (by simp [q, hg]) (by simp [q, hg]) (hc33 (e32.symm.trans hg)).1 (hc33 (e32.symm.trans hg)).2 (by simp)) ?_
   iterate 2 refine Wg rfl (b := g32) (by simp [q, e32]) (fun hg => by simp [q, hg]; rfl) ?_
   refine Wgc rfl rfl (b := g32) (by simp [q, e32]) rfl rfl (fun hg => by simp [q, hg]; rfl) (fun hg => by simp [q, hg]; done) (fun hg => retargetref02_Great_ok ((itet (e32.symm.trans hg)).symm.trans hy34)) ?_
   simp
   refine Wor (t := y31) (β := y34) (by simp [q]) rfl (fun hh => by have h0 := e32.trans (notf hh); simp [q, h0]) (by first | (simp; done) | (simp; rfl)) ?_
   refine wq ?_
   obtain ⟨g35, e35⟩ : ∃ g, g = (!(y31 || y34)) := ⟨_, rfl⟩
   iterate 3 refine Wg rfl (b := g35) (by simp [q, e35]) (fun hg => by simp [q, hg]; rfl) ?_
   refine Wg rfl (b := g35) (by simp [q, e35]) (fun hg => evF_ix (tg := .none) (rw := TMachEffect.row) (xs := ((nth m_0.instrs i_x13).effects)) (k := .i64) (n := k_x27) (by simp; rfl) rfl (by simp; rfl) (by simp [q, hg]) (by simp [q, hg]) (hc36 (e35.symm.trans hg)).1 (hc36 (e35.symm.trans hg)).2 (by simp)) ?_
   iterate 2 refine Wg rfl (b := g35) (by simp [q, e35]) (fun hg => by simp [q, hg]; rfl) ?_
   refine Wgc rfl rfl (b := g35) (by simp [q, e35]) rfl rfl (fun hg => by simp [q, hg]; rfl) (fun hg => by simp [q, hg]; done) (fun hg => retargetref02_Great_ok ((itet (e35.symm.trans hg)).symm.trans hy37)) ?_
   simp
   refine Wor (t := (y31 || y34)) (β := y37) (by simp [q]) rfl (fun hh => by have h0 := e35.trans (notf hh); simp [q, h0]) (by first | (simp; done) | (simp; rfl)) ?_
   refine hK _ _ ?_; clear hK K
   refine Run.testEnd (b := ((y31 || y34) || y37)) (by simp [q]) (fun h38 => ?_) (fun h38 => ?_)
   ·
    rw [itet h38] at hF; try simp at h38
    refine rg fun K hK => ?_
    have q := And.intro q h38
    refine wq ?_
    refine hK _ _ ?_; clear hK K
    refine Run.ret ?_
    have hv := hR2 _ (Option.some.inj hF).symm
    replace hv := hR1 _ hv.symm
    subst hv
    simp [tupA, hb5, hq5, h29, h38]
   rw [itef h38] at hF; try simp at h38
   refine Run.skip ?_
   show Run _ _ _ _ _ _
   refine rge fun K hK => ?_
   have q := And.intro q h38
   iterate 3 refine wq ?_
   refine hK _ _ ?_; clear hK K
   exact ⟨_, (Option.some.inj hF).symm, by simp [q, Fm.rst, nn, nn1], by simp [q, St.only, nn1]⟩
  rw [itef h29] at hF; try simp at h29
  refine Run.exit ?_
  replace hF := mapO hF; obtain ⟨z39, hF, hz⟩ := hF; have hz2 := (hR2 _ hz.symm).symm; subst hz2; clear hz
  show Run _ _ _ _ _ _
  refine rge fun K hK => ?_
  have q := And.intro q h29
  iterate 3 refine wq ?_
  refine hK _ _ ?_; clear hK K
  exact ⟨_, (Option.some.inj hF).symm, by simp [q, Fm.rst, nn, nn1], by simp [q, St.only, nn1]⟩
 rw [itef h15] at hF; try simp at h15
 refine Run.exit ?_
 replace hF := mapO hF; obtain ⟨z42, hF, hz⟩ := hF; have hz2 := (hR1 _ hz.symm).symm; subst hz2; clear hz
 show Run _ _ _ _ _ _
 replace hF := bindO hF; obtain ⟨y41, hy41, hF⟩ := hF
 refine rg fun K hK => ?_
 have q := h15
 refine wq ?_
 refine wcq (retargetref08_Nodes_ok hy41) ?_; rintro _ rfl; simp
 iterate 2 refine wq ?_
 refine hK _ _ ?_; clear hK K
 refine Run.ret ?_
 obtain rfl := Option.some.inj hF
 simp [tupA, h15]

/-! retargetref02_Same -/
def retargetref02_Same.l0 [Fx] (a_0 : TTerm) (b_1 : TTerm) (self : TTerm × TTerm → Option Bool) : Int → Option (Int ⊕ Bool) := fun v =>
 match v with
 | i_x7 =>
 (if (decide (i_x7 < (a_0.sub.length : Int))) then
 (if (0 : Int) ≤ i_x7 ∧ i_x7 < (a_0.sub.length : Int) then
 (if (0 : Int) ≤ i_x7 ∧ i_x7 < (b_1.sub.length : Int) then
 ((self ((nth a_0.sub i_x7), (nth b_1.sub i_x7))).bind fun y12 =>
 (if (!y12) then
 some (.inr false)
 else
 some (.inl (IntKind.i64.wrap (i_x7 + 1)))))
 else none)
 else none)
 else
 (Option.map Sum.inr (some true)))
def retargetref02_Same.G [Fx] (self : TTerm × TTerm → Option Bool) (a_0 : TTerm) (b_1 : TTerm) : Option Bool :=
 (if ((((((!decide (a_0.kind = b_1.kind)) || (!decide (a_0.width = b_1.width))) || (!decide (a_0.bits = b_1.bits))) || (!decide (a_0.name = b_1.name))) || (!decide (a_0.low = b_1.low))) || (!decide ((a_0.sub.length : Int) = (b_1.sub.length : Int)))) then
 some false
 else
 Fx.fx (retargetref02_Same.l0 a_0 b_1 self) 0)
def retargetref02_Same [Fx] (a_0 : TTerm) (b_1 : TTerm) : Option Bool := itr (fun self a => retargetref02_Same.G self a.1 a.2) (a_0.nodes.length + 1) (a_0, b_1)
theorem retargetref02_Same_step [Fx] {self : TTerm × TTerm → Option Bool} (ih : ∀ {a : TTerm × TTerm} {r : Bool}, self a = some r → PCall Tryd.prog EE 16 [.agg a.1.row, .agg a.2.row] fun v => v = .bool r) {a_0 : TTerm} {b_1 : TTerm} {r : Bool} (hF : retargetref02_Same.G self a_0 b_1 = some r) : PCall Tryd.prog EE 16 [.agg a_0.row, .agg b_1.row] fun v => v = .bool r := by
 refine PCall.of_fun EOK (F := Tryd.f16) 67 [.tmp 4] (by kernel_rfl) rfl rfl rfl rfl (Nat.le_of_ble_eq_true rfl) (by simp) ?_
 simp only [slotsA]
 unfold retargetref02_Same.G at hF
 refine rg fun K hK => ?_
 refine We rfl ?_; simp
 intro b2 _
 refine We rfl ?_; simp
 intro b3 hb3; simp [Fresh] at hb3; have hq3 : ¬b2 = b3 := by omega
 have q := And.intro hb3 hq3
 refine wq ?_
 refine hK _ _ ?_; clear hK K
 refine Run.seq ?_
 refine rg fun K hK => ?_
 iterate 6 refine wq ?_
 obtain ⟨g1, e1⟩ : ∃ g, g = (decide (a_0.kind = b_1.kind)) := ⟨_, rfl⟩
 iterate 5 refine Wg rfl (b := g1) (by simp [q, e1]) (fun hg => by simp [q, hg]; rfl) ?_
 refine Wor (t := (!decide (a_0.kind = b_1.kind))) (β := (!decide (a_0.width = b_1.width))) (by simp [q]) rfl (fun hh => by have h0 := e1.trans (nnot (notf hh)); simp [q, h0]) (by first | (simp; done) | (simp; rfl)) ?_
 refine wq ?_
 obtain ⟨g2, e2⟩ : ∃ g, g = (!((!decide (a_0.kind = b_1.kind)) || (!decide (a_0.width = b_1.width)))) := ⟨_, rfl⟩
 iterate 5 refine Wg rfl (b := g2) (by simp [q, e2]) (fun hg => by simp [q, hg]; rfl) ?_
 refine Wor (t := ((!decide (a_0.kind = b_1.kind)) || (!decide (a_0.width = b_1.width)))) (β := (!decide (a_0.bits = b_1.bits))) (by simp [q]) rfl (fun hh => by have h0 := e2.trans (notf hh); simp [q, h0]) (by first | (simp; done) | (simp; rfl)) ?_
 refine wq ?_
 obtain ⟨g3, e3⟩ : ∃ g, g = (!(((!decide (a_0.kind = b_1.kind)) || (!decide (a_0.width = b_1.width))) || (!decide (a_0.bits = b_1.bits)))) := ⟨_, rfl⟩
 iterate 5 refine Wg rfl (b := g3) (by simp [q, e3]) (fun hg => by simp [q, hg]; rfl) ?_
 refine Wor (t := (((!decide (a_0.kind = b_1.kind)) || (!decide (a_0.width = b_1.width))) || (!decide (a_0.bits = b_1.bits)))) (β := (!decide (a_0.name = b_1.name))) (by simp [q]) rfl (fun hh => by have h0 := e3.trans (notf hh); simp [q, h0]) (by first | (simp; done) | (simp; rfl)) ?_
 refine wq ?_
 obtain ⟨g4, e4⟩ : ∃ g, g = (!((((!decide (a_0.kind = b_1.kind)) || (!decide (a_0.width = b_1.width))) || (!decide (a_0.bits = b_1.bits))) || (!decide (a_0.name = b_1.name)))) := ⟨_, rfl⟩
 iterate 5 refine Wg rfl (b := g4) (by simp [q, e4]) (fun hg => by simp [q, hg]; rfl) ?_
 refine Wor (t := ((((!decide (a_0.kind = b_1.kind)) || (!decide (a_0.width = b_1.width))) || (!decide (a_0.bits = b_1.bits))) || (!decide (a_0.name = b_1.name)))) (β := (!decide (a_0.low = b_1.low))) (by simp [q]) rfl (fun hh => by have h0 := e4.trans (notf hh); simp [q, h0]) (by first | (simp; done) | (simp; rfl)) ?_
 refine wq ?_
 obtain ⟨g5, e5⟩ : ∃ g, g = (!(((((!decide (a_0.kind = b_1.kind)) || (!decide (a_0.width = b_1.width))) || (!decide (a_0.bits = b_1.bits))) || (!decide (a_0.name = b_1.name))) || (!decide (a_0.low = b_1.low)))) := ⟨_, rfl⟩
 iterate 7 refine Wg rfl (b := g5) (by simp [q, e5]) (fun hg => by simp [q, hg]; rfl) ?_
 refine Wor (t := (((((!decide (a_0.kind = b_1.kind)) || (!decide (a_0.width = b_1.width))) || (!decide (a_0.bits = b_1.bits))) || (!decide (a_0.name = b_1.name))) || (!decide (a_0.low = b_1.low)))) (β := (!decide ((a_0.sub.length : Int) = (b_1.sub.length : Int)))) (by simp [q]) rfl (fun hh => by have h0 := e5.trans (notf hh); simp [q, h0]) (by first | (simp; done) | (simp; rfl)) ?_
 refine hK _ _ ?_; clear hK K
 refine Run.testEnd (b := ((((((!decide (a_0.kind = b_1.kind)) || (!decide (a_0.width = b_1.width))) || (!decide (a_0.bits = b_1.bits))) || (!decide (a_0.name = b_1.name))) || (!decide (a_0.low = b_1.low))) || (!decide ((a_0.sub.length : Int) = (b_1.sub.length : Int))))) (by simp [q]) (fun h6 => ?_) (fun h6 => ?_)
 ·
  rw [itet h6] at hF; try simp at h6
  refine rg fun K hK => ?_
  have q := And.intro q h6
  refine wq ?_
  refine hK _ _ ?_; clear hK K
  refine Run.ret ?_
  obtain rfl := Option.some.inj hF
  simp [tupA, hb3, hq3, h6]
 rw [itef h6] at hF; try simp at h6
 refine Run.skip ?_
 show Run _ _ _ _ _ _
 refine Run.seq ?_
 refine rg fun K hK => ?_
 have q := And.intro q h6
 refine wq ?_
 refine hK _ _ ?_; clear hK K
 refine Run.block ?_
 refine Run.fixX hF [2, 3, 5] [] [b3, b2] [] (by simp [q]) (by simp) (by simp) (fun i_x7 f σ => f = ⟨67, [(2, .ptr b2 0), (3, .ptr b3 0), (5, .int .i64 i_x7)], [], []⟩ ∧ σ = ⟨[(b3, b_1.row), (b2, a_0.row)], []⟩) ?_ ?_
 ·
  exact ⟨by simp [q, Fm.rst, nn, nn1], by simp [q, St.only, nn1]⟩
 clear hF
 rintro i_x7 _ _ yy1 ⟨rfl, rfl⟩ hF hR1
 simp only [retargetref02_Same.l0] at hF
 refine Run.seq ?_
 refine rg fun K hK => ?_
 have q := And.intro hb3 hq3
 iterate 5 refine wq ?_
 refine hK _ _ ?_; clear hK K
 refine Run.testEnd (b := (decide (i_x7 < (a_0.sub.length : Int)))) (by simp [q]) (fun h9 => ?_) (fun h9 => ?_)
 ·
  rw [itet h9] at hF; try simp at h9
  refine Run.skip ?_
  show Run _ _ _ _ _ _
  refine Run.seq ?_
  refine Run.block ?_
  replace hF := chkO hF; obtain ⟨hc10, hF⟩ := hF
  replace hF := chkO hF; obtain ⟨hc11, hF⟩ := hF
  replace hF := bindO hF; obtain ⟨y12, hy12, hF⟩ := hF
  refine Run.drawReg EOK mixed 10 [0, 1, 2, 3, 4, 5, 6, 7, 8, 9] rfl (by kernel_rfl) fun K hK => ?_
  have q := And.intro q h9
  iterate 3 refine Pq rfl (by simp [q]; rfl) ?_
  refine Pq rfl (evP_of (evF_ix (tg := .none) (rw := TTerm.row) (xs := a_0.sub) (k := .i64) (n := i_x7) (by simp; rfl) rfl (by simp; rfl) (by simp [q]) (by simp [q]) hc10.1 hc10.2 (by simp))) ?_
  iterate 4 refine Pq rfl (by simp [q]; rfl) ?_
  refine Pq rfl (evP_of (evF_ix (tg := .none) (rw := TTerm.row) (xs := b_1.sub) (k := .i64) (n := i_x7) (by simp; rfl) rfl (by simp; rfl) (by simp [q]) (by simp [q]) hc11.1 hc11.2 (by simp))) ?_
  refine Pq rfl (by simp [q]; rfl) ?_
  refine Pd ?_
  refine wcq (ih hy12) ?_; rintro _ rfl; simp
  refine wq ?_
  refine hK _ _ ?_; clear hK K
  refine Run.testEnd (b := (!y12)) (by simp [q]) (fun h13 => ?_) (fun h13 => ?_)
  ·
   rw [itet h13] at hF; try simp at h13
   refine rg fun K hK => ?_
   have q := And.intro q h13
   refine wq ?_
   refine hK _ _ ?_; clear hK K
   refine Run.ret ?_
   have hv := hR1 _ (Option.some.inj hF).symm
   subst hv
   simp [tupA, hb3, hq3, h9, h13]
  rw [itef h13] at hF; try simp at h13
  refine Run.skip ?_
  show Run _ _ _ _ _ _
  refine rge fun K hK => ?_
  have q := And.intro q h13
  iterate 3 refine wq ?_
  refine hK _ _ ?_; clear hK K
  exact ⟨_, (Option.some.inj hF).symm, by simp [q, Fm.rst, nn, nn1], by simp [q, St.only, nn1]⟩
 rw [itef h9] at hF; try simp at h9
 refine Run.exit ?_
 replace hF := mapO hF; obtain ⟨z14, hF, hz⟩ := hF; have hz2 := (hR1 _ hz.symm).symm; subst hz2; clear hz
 show Run _ _ _ _ _ _
 refine rg fun K hK => ?_
 have q := And.intro q h9
 refine wq ?_
 refine hK _ _ ?_; clear hK K
 refine Run.ret ?_
 obtain rfl := Option.some.inj hF
 simp [tupA, hb3, hq3, h9]
theorem retargetref02_Same_ok [Fx] {a_0 : TTerm} {b_1 : TTerm} {r : Bool} (hF : retargetref02_Same a_0 b_1 = some r) : PCall Tryd.prog EE 16 [.agg a_0.row, .agg b_1.row] fun v => v = .bool r :=
  itr_ind (C := fun (a : TTerm × TTerm) (r : Bool) => PCall Tryd.prog EE 16 [.agg a.1.row, .agg a.2.row] fun v => v = .bool r) (fun self ih {a r} h => retargetref02_Same_step (fun {a r} h => ih h) h) _ hF

/-! retargetref24_SameArgs -/
def retargetref24_SameArgs.l0 [Fx] (a_0 : List TPatternArg) (b_1 : List TPatternArg) : Int → Option (Int ⊕ Bool) := fun v =>
 match v with
 | i_x2 =>
 (if (decide (i_x2 < (a_0.length : Int))) then
 (if (0 : Int) ≤ i_x2 ∧ i_x2 < (a_0.length : Int) then
 (if (0 : Int) ≤ i_x2 ∧ i_x2 < (b_1.length : Int) then
 (if ((decide (((nth a_0 i_x2).operand) = ((nth b_1 i_x2).operand))) = true → (0 : Int) ≤ i_x2 ∧ i_x2 < (a_0.length : Int)) then
 (if ((decide (((nth a_0 i_x2).operand) = ((nth b_1 i_x2).operand))) = true → (0 : Int) ≤ i_x2 ∧ i_x2 < (b_1.length : Int)) then
 ((if (decide (((nth a_0 i_x2).operand) = ((nth b_1 i_x2).operand))) then retargetref02_Same ((nth a_0 i_x2).term) ((nth b_1 i_x2).term) else some default).bind fun y10 =>
 (if ((!decide (((nth a_0 i_x2).operand) = ((nth b_1 i_x2).operand))) || (!y10)) then
 some (.inr false)
 else
 some (.inl (IntKind.i64.wrap (i_x2 + 1)))))
 else none)
 else none)
 else none)
 else none)
 else
 (Option.map Sum.inr (some true)))
def retargetref24_SameArgs [Fx] (a_0 : List TPatternArg) (b_1 : List TPatternArg) : Option Bool :=
 (if (!decide ((a_0.length : Int) = (b_1.length : Int))) then
 some false
 else
 Fx.fx (retargetref24_SameArgs.l0 a_0 b_1) 0)
theorem retargetref24_SameArgs_ok [Fx] {a_0 : List TPatternArg} {b_1 : List TPatternArg} {r : Bool} (hF : retargetref24_SameArgs a_0 b_1 = some r) : PCall Tryd.prog EE 17 [.list .none (a_0.map TPatternArg.row), .list .none (b_1.map TPatternArg.row)] fun v => v = .bool r := by
 refine PCall.of_fun EOK (F := Tryd.f17) 42 [.tmp 4] (by kernel_rfl) rfl rfl rfl rfl (Nat.le_of_ble_eq_true rfl) (by simp) ?_
 simp only [slotsA]
 unfold retargetref24_SameArgs at hF
 refine rg fun K hK => ?_
 refine Wq (by simp; rfl) ?_
 refine hK _ _ ?_; clear hK K
 refine Run.seq ?_
 refine rg fun K hK => ?_
 iterate 5 refine Wq (by simp; rfl) ?_
 refine hK _ _ ?_; clear hK K
 refine Run.testEnd (b := (!decide ((a_0.length : Int) = (b_1.length : Int)))) (by simp) (fun h1 => ?_) (fun h1 => ?_)
 ·
  rw [itet h1] at hF; try simp at h1
  refine rg fun K hK => ?_
  have q := h1
  refine wq ?_
  refine hK _ _ ?_; clear hK K
  refine Run.ret ?_
  obtain rfl := Option.some.inj hF
  simp [tupA, h1]
 rw [itef h1] at hF; try simp at h1
 refine Run.skip ?_
 show Run _ _ _ _ _ _
 refine Run.seq ?_
 refine rg fun K hK => ?_
 have q := h1
 refine wq ?_
 refine hK _ _ ?_; clear hK K
 refine Run.block ?_
 refine Run.fixX hF [0, 1, 5] [] [] [] (by simp) (by simp) (by simp) (fun i_x2 f σ => f = ⟨42, [(0, .list .none (a_0.map TPatternArg.row)), (1, .list .none (b_1.map TPatternArg.row)), (5, .int .i64 i_x2)], [], []⟩ ∧ σ = ⟨[], []⟩) ?_ ?_
 ·
  exact ⟨by simp [q, Fm.rst, nn, nn1], by simp [q, St.only, nn1]⟩
 clear hF
 rintro i_x2 _ _ yy1 ⟨rfl, rfl⟩ hF hR1
 simp only [retargetref24_SameArgs.l0] at hF
 refine Run.seq ?_
 refine rg fun K hK => ?_
 iterate 4 refine Wq (by simp; rfl) ?_
 refine hK _ _ ?_; clear hK K
 refine Run.testEnd (b := (decide (i_x2 < (a_0.length : Int)))) (by simp) (fun h4 => ?_) (fun h4 => ?_)
 ·
  rw [itet h4] at hF; try simp at h4
  refine Run.skip ?_
  show Run _ _ _ _ _ _
  refine Run.seq ?_
  refine Run.block ?_
  replace hF := chkO hF; obtain ⟨hc5, hF⟩ := hF
  replace hF := chkO hF; obtain ⟨hc6, hF⟩ := hF
  replace hF := chkO hF; obtain ⟨hc8, hF⟩ := hF
  replace hF := chkO hF; obtain ⟨hc9, hF⟩ := hF
  replace hF := bindO hF; obtain ⟨y10, hy10, hF⟩ := hF
  refine Run.drawReg EOK mixed 22 [0, 1, 2, 3, 4, 5, 6, 7, 8, 9, 10, 11, 12, 13, 14, 15, 16, 17, 18, 19, 20, 21] rfl (by kernel_rfl) fun K hK => ?_
  have q := h4
  iterate 2 refine Pq rfl (by simp [q]; rfl) ?_
  refine Pq rfl (evP_of (evF_ix (tg := .none) (rw := TPatternArg.row) (xs := a_0) (k := .i64) (n := i_x2) (by simp; rfl) rfl (by simp; rfl) (by simp [q]) (by simp [q]) hc5.1 hc5.2 (by simp))) ?_
  iterate 4 refine Pq rfl (by simp [q]; rfl) ?_
  refine Pq rfl (evP_of (evF_ix (tg := .none) (rw := TPatternArg.row) (xs := b_1) (k := .i64) (n := i_x2) (by simp; rfl) rfl (by simp; rfl) (by simp [q]) (by simp [q]) hc6.1 hc6.2 (by simp))) ?_
  iterate 4 refine Pq rfl (by simp [q]; rfl) ?_
  obtain ⟨g7, e7⟩ : ∃ g, g = (decide (((nth a_0 i_x2).operand) = ((nth b_1 i_x2).operand))) := ⟨_, rfl⟩
  iterate 2 refine Pg rfl rfl (b := g7) (by simp [q, e7]) (fun hg => by simp [q, hg]; rfl) ?_
  refine Pg rfl rfl (b := g7) (by simp [q, e7]) (fun hg => evP_of (evF_ix (tg := .none) (rw := TPatternArg.row) (xs := a_0) (k := .i64) (n := i_x2) (by simp; rfl) rfl (by simp; rfl) (by simp [q, hg]) (by simp [q, hg]) (hc8 (e7.symm.trans hg)).1 (hc8 (e7.symm.trans hg)).2 (by simp))) ?_
  iterate 4 refine Pg rfl rfl (b := g7) (by simp [q, e7]) (fun hg => by simp [q, hg]; rfl) ?_
  refine Pg rfl rfl (b := g7) (by simp [q, e7]) (fun hg => evP_of (evF_ix (tg := .none) (rw := TPatternArg.row) (xs := b_1) (k := .i64) (n := i_x2) (by simp; rfl) rfl (by simp; rfl) (by simp [q, hg]) (by simp [q, hg]) (hc9 (e7.symm.trans hg)).1 (hc9 (e7.symm.trans hg)).2 (by simp))) ?_
  iterate 2 refine Pg rfl rfl (b := g7) (by simp [q, e7]) (fun hg => by simp [q, hg]; rfl) ?_
  refine Pd ?_
  refine Wgc rfl rfl (b := g7) (by simp [q, e7]) rfl rfl (fun hg => by simp [q, hg]; rfl) (fun hg => by simp [q, hg]; done) (fun hg => retargetref02_Same_ok ((itet (e7.symm.trans hg)).symm.trans hy10)) ?_
  simp
  refine Wg rfl (b := g7) (by simp [q, e7]) (fun hg => by simp [q, hg]; rfl) ?_
  refine Wor (t := (!decide (((nth a_0 i_x2).operand) = ((nth b_1 i_x2).operand)))) (β := (!y10)) (by simp [q]) rfl (fun hh => by have h0 := e7.trans (nnot (notf hh)); simp [q, h0]) (by first | (simp; done) | (simp; rfl)) ?_
  refine hK _ _ ?_; clear hK K
  refine Run.testEnd (b := ((!decide (((nth a_0 i_x2).operand) = ((nth b_1 i_x2).operand))) || (!y10))) (by simp [q]) (fun h11 => ?_) (fun h11 => ?_)
  ·
   rw [itet h11] at hF; try simp at h11
   refine rg fun K hK => ?_
   have q := And.intro q h11
   refine wq ?_
   refine hK _ _ ?_; clear hK K
   refine Run.ret ?_
   have hv := hR1 _ (Option.some.inj hF).symm
   subst hv
   simp [tupA, h4, h11]
  rw [itef h11] at hF; try simp at h11
  refine Run.skip ?_
  show Run _ _ _ _ _ _
  refine rge fun K hK => ?_
  have q := And.intro q h11
  iterate 3 refine wq ?_
  refine hK _ _ ?_; clear hK K
  exact ⟨_, (Option.some.inj hF).symm, by simp [q, Fm.rst, nn, nn1], by simp [q, St.only, nn1]⟩
 rw [itef h4] at hF; try simp at h4
 refine Run.exit ?_
 replace hF := mapO hF; obtain ⟨z12, hF, hz⟩ := hF; have hz2 := (hR1 _ hz.symm).symm; subst hz2; clear hz
 show Run _ _ _ _ _ _
 refine rg fun K hK => ?_
 have q := h4
 refine wq ?_
 refine hK _ _ ?_; clear hK K
 refine Run.ret ?_
 obtain rfl := Option.some.inj hF
 simp [tupA, h4]

/-! retargetref24_GreatArgs -/
def retargetref24_GreatArgs.l0 [Fx] (l_0 : List TPatternArg) : Int → Option (Int ⊕ Bool) := fun v =>
 match v with
 | i_x1 =>
 (if ((decide (i_x1 < (l_0.length : Int))) && (decide (i_x1 ≤ 8))) then
 (if (0 : Int) ≤ i_x1 ∧ i_x1 < (l_0.length : Int) then
 ((retargetref02_Great ((nth l_0 i_x1).term)).bind fun y6 =>
 (if y6 then
 some (.inr true)
 else
 some (.inl (IntKind.i64.wrap (i_x1 + 1)))))
 else none)
 else
 (Option.map Sum.inr (some (decide (8 < (l_0.length : Int))))))
def retargetref24_GreatArgs [Fx] (l_0 : List TPatternArg) : Option Bool :=
 Fx.fx (retargetref24_GreatArgs.l0 l_0) 0
theorem retargetref24_GreatArgs_ok [Fx] {l_0 : List TPatternArg} {r : Bool} (hF : retargetref24_GreatArgs l_0 = some r) : PCall Tryd.prog EE 13 [.list .none (l_0.map TPatternArg.row)] fun v => v = .bool r := by
 refine PCall.of_fun EOK (F := Tryd.f13) 23 [.tmp 2] (by kernel_rfl) rfl rfl rfl rfl (Nat.le_of_ble_eq_true rfl) (by simp) ?_
 simp only [slotsA]
 unfold retargetref24_GreatArgs at hF
 refine rg fun K hK => ?_
 refine Wq (by simp; rfl) ?_
 refine hK _ _ ?_; clear hK K
 refine Run.seq ?_
 refine rg fun K hK => ?_
 refine Wq (by simp; rfl) ?_
 refine hK _ _ ?_; clear hK K
 refine Run.block ?_
 refine Run.fixX hF [0, 3] [] [] [] (by simp) (by simp) (by simp) (fun i_x1 f σ => f = ⟨23, [(0, .list .none (l_0.map TPatternArg.row)), (3, .int .i64 i_x1)], [], []⟩ ∧ σ = ⟨[], []⟩) ?_ ?_
 ·
  exact ⟨by simp [Fm.rst, nn, nn1], by simp [St.only, nn1]⟩
 clear hF
 rintro i_x1 _ _ yy1 ⟨rfl, rfl⟩ hF hR1
 simp only [retargetref24_GreatArgs.l0] at hF
 refine Run.seq ?_
 refine rg fun K hK => ?_
 iterate 5 refine Wq (by simp; rfl) ?_
 obtain ⟨g3, e3⟩ : ∃ g, g = (decide (i_x1 < (l_0.length : Int))) := ⟨_, rfl⟩
 iterate 2 refine Wg rfl (b := g3) (by simp [e3]) (fun hg => by simp [hg]; rfl) ?_
 refine Wand (t := (decide (i_x1 < (l_0.length : Int)))) (β := (decide (i_x1 ≤ 8))) (by simp) rfl (fun hh => by have h0 := e3.trans hh; simp [h0]) (by first | (simp; done) | (simp; rfl)) ?_
 refine hK _ _ ?_; clear hK K
 refine Run.testEnd (b := ((decide (i_x1 < (l_0.length : Int))) && (decide (i_x1 ≤ 8)))) (by simp) (fun h4 => ?_) (fun h4 => ?_)
 ·
  rw [itet h4] at hF; try simp at h4
  refine Run.skip ?_
  show Run _ _ _ _ _ _
  refine Run.seq ?_
  refine Run.block ?_
  replace hF := chkO hF; obtain ⟨hc5, hF⟩ := hF
  replace hF := bindO hF; obtain ⟨y6, hy6, hF⟩ := hF
  refine rg fun K hK => ?_
  have q := h4
  iterate 2 refine wq ?_
  refine Wq (evF_ix (tg := .none) (rw := TPatternArg.row) (xs := l_0) (k := .i64) (n := i_x1) (by simp; rfl) rfl (by simp; rfl) (by simp [q]) (by simp [q]) hc5.1 hc5.2 (by simp)) ?_
  iterate 2 refine wq ?_
  refine wcq (retargetref02_Great_ok hy6) ?_; rintro _ rfl; simp
  refine hK _ _ ?_; clear hK K
  refine Run.testEnd (b := y6) (by simp [q]) (fun h7 => ?_) (fun h7 => ?_)
  ·
   rw [itet h7] at hF; try simp at h7
   refine rg fun K hK => ?_
   have q := And.intro q h7
   refine wq ?_
   refine hK _ _ ?_; clear hK K
   refine Run.ret ?_
   have hv := hR1 _ (Option.some.inj hF).symm
   subst hv
   simp [tupA, h4, h7]
  rw [itef h7] at hF; try simp at h7
  refine Run.skip ?_
  show Run _ _ _ _ _ _
  refine rge fun K hK => ?_
  have q := And.intro q h7
  iterate 3 refine wq ?_
  refine hK _ _ ?_; clear hK K
  exact ⟨_, (Option.some.inj hF).symm, by simp [q, Fm.rst, nn, nn1], by simp [q, St.only, nn1]⟩
 rw [itef h4] at hF; try simp at h4
 refine Run.exit ?_
 replace hF := mapO hF; obtain ⟨z8, hF, hz⟩ := hF; have hz2 := (hR1 _ hz.symm).symm; subst hz2; clear hz
 show Run _ _ _ _ _ _
 refine rg fun K hK => ?_
 have q := h4
 iterate 4 refine wq ?_
 refine hK _ _ ?_; clear hK K
 refine Run.ret ?_
 obtain rfl := Option.some.inj hF
 simp [tupA, h4]

end Go.Proofs.YtpjkepfplhllfaaDoor.Av
