/-
What functions compute.
-/
import Derived.Test.YtpjkepfplhllfaaDoorAv29
import Derived.Test.YtpjkepfplhllfaaDoorFa
namespace Go.Proofs.YtpjkepfplhllfaaDoor.Av
set_option linter.unusedSimpArgs false
set_option linter.unusedVariables false
set_option maxRecDepth 100000
set_option maxHeartbeats 4000000
open Go Go.Proofs
/-! nodes -/
/- The nodes, a node ahead of what it is made of. -/
mutual
def TTerm.nodes : TTerm → List TTerm
  | ⟨a, b, c, d, e, sub⟩ => ⟨a, b, c, d, e, sub⟩ :: TTerm.nodesL sub
def TTerm.nodesL : List TTerm → List TTerm
  | [] => []
  | x :: xs => x.nodes ++ TTerm.nodesL xs
end
theorem TTerm.nodesL_app : ∀ (a b : List TTerm), TTerm.nodesL (a ++ b) = TTerm.nodesL a ++ TTerm.nodesL b
  | [], _ => rfl
  | x :: a, b => by simp only [List.cons_append, TTerm.nodesL, TTerm.nodesL_app a b, List.append_assoc]
theorem TTerm.nodes_eq (t : TTerm) : t.nodes = t :: TTerm.nodesL t.sub := by cases t; rfl
noncomputable def atGlob (gl : Nat → List AV) : Env := { EE with glob := gl }
@[simp] theorem atGlob_lay (gl : Nat → List AV) (t : TypeId) : (atGlob gl).lay t = mkLay Tryd.prog t := by simp only [atGlob, EE]
theorem EOKg (gl : Nat → List AV) : EnvOK Tryd.prog (atGlob gl) := fun t l h => by rw [atGlob_lay] at h; exact h
@[simp] theorem atGlob_rd (gl : Nat → List AV) : (atGlob gl).rd = none := by simp only [atGlob, EE]
section
variable {gl : Nat → List AV} {l : Nat} {J : List AV → St → Prop} {X : St → Prop} {xs : List AV}
set_option maxRecDepth 100000 in
set_option maxHeartbeats 4000000 in
theorem visit_step (hr : ∀ pre x, (pre ++ [x]) <+: xs → ∀ σ, J pre σ → YCall Tryd.prog (atGlob gl) l [x] σ fun r σ' => (r = .bool true ∧ J (pre ++ [x]) σ') ∨ (r = .bool false ∧ X σ')) (t : TTerm) (hl : t.sub.length < 4611686018427387904)
    (ih : ∀ s ∈ t.sub, ∀ pre, (pre ++ s.nodes.map TTerm.agg) <+: xs → ∀ σ, J pre σ → ACall Tryd.prog (atGlob gl) 63 [.agg s.row, .val (.func (.yield l) #[] #[])] σ fun r σ' => (r = .bool true ∧ J (pre ++ s.nodes.map TTerm.agg) σ') ∨ (r = .bool false ∧ X σ'))
    (pre : List AV) (hp : (pre ++ t.nodes.map TTerm.agg) <+: xs) (σ : St) (hJ : J pre σ) : ACall Tryd.prog (atGlob gl) 63 [.agg t.row, .val (.func (.yield l) #[] #[])] σ fun r σ' => (r = .bool true ∧ J (pre ++ t.nodes.map TTerm.agg) σ') ∨ (r = .bool false ∧ X σ') := by
  refine ACall.of_fun (EOKg gl) (F := Tryd.f63) 23 [.tmp 4] (by kernel_rfl) rfl rfl rfl rfl (Nat.le_of_ble_eq_true rfl) (by simp) (hrd := by simp) ?_
  simp only [slotsA]
  have hp1 : (pre ++ [TTerm.agg t]) <+: xs := by
    rw [TTerm.nodes_eq, List.map_cons] at hp
    exact List.IsPrefix.trans ⟨(TTerm.nodesL t.sub).map TTerm.agg, by simp⟩ hp
  refine Run.reg (EOKg gl) rfl fun K hK => ?_
  refine We rfl ?_; simp
  intro b2 hb2
  refine Wq (by simp; rfl) ?_
  refine Wd (hK _ _ ?_); clear hK K
  refine Run.seq ?_
  refine Run.reg (EOKg gl) rfl fun K hK => ?_
  refine Wq (by simp; rfl) ?_
  refine Wq (by simp; rfl) ?_
  refine Wy σ ⟨[(b2, _)], []⟩ rfl rfl rfl (by simp) (by simp; done) (hr pre _ hp1 σ hJ) (List.perm_append_singleton _ _).symm (by simp) ?_
  rintro r σ1 hR
  simp [noCells, noCellS, noCellV, noCellC, noCellT, St.add]
  obtain ⟨β, hβ⟩ : ∃ β, r = .bool β := by rcases hR with ⟨h, _⟩ | ⟨h, _⟩ <;> exact ⟨_, h⟩
  subst hβ
  refine Wq (by simp; rfl) ?_
  refine Wd (hK _ _ ?_); clear hK K
  refine Run.testEnd (b := !β) (by simp) (fun h => ?_) (fun h => ?_)
  · rcases hR with ⟨h1, _⟩ | ⟨_, hX⟩
    · simp at h1; subst h1; simp at h
    · refine Run.reg (EOKg gl) rfl fun K hK => ?_
      refine Wq (by simp; rfl) ?_
      refine Wd (hK _ _ ?_); clear hK K
      refine Run.ret ?_
      refine ⟨by simp, by simp, _, _, σ1, rfl, .inl rfl, ?_, ?_, ?_⟩
      · exact List.sublist_cons_self _ _
      · simp
      · simp [tupA]; exact hX
  · simp at h
    subst h
    have hJ1 : J (pre ++ [TTerm.agg t]) σ1 := by
      rcases hR with ⟨_, h⟩ | ⟨h, _⟩
      · exact h
      · simp at h
    refine Run.skip ?_
    show Run _ _ _ _ _ _
    refine Run.seq ?_
    refine Run.reg (EOKg gl) rfl fun K hK => ?_
    refine Wq (by simp; rfl) ?_
    refine Wq (by simp; rfl) ?_
    refine Wq (by simp; rfl) ?_
    refine Wq (by simp; rfl) ?_
    refine Wd (hK _ _ ?_); clear hK K
    refine Run.block ?_
    refine Run.loopOn [1, 2, 12, 13, 14] [] (fun n f σ' => ∃ (k : Nat) (σj : St) (jb : List (Nat × List AV)) (jm : List (Nat × MO)), n = t.sub.length - k ∧ k ≤ t.sub.length ∧ J (pre ++ (t :: TTerm.nodesL (t.sub.take k)).map TTerm.agg) σj ∧
      f = ⟨23, [(1, .val (.func (.yield l) #[] #[])), (2, .ptr b2 0), (12, .list .none (t.sub.map TTerm.row)), (13, .int .i64 t.sub.length), (14, .int .i64 k)], [], []⟩ ∧ σ' = ⟨(b2, t.row) :: (jb ++ σj.box), jm ++ σj.map⟩) t.sub.length ?_ ?_
    · exact ⟨0, σ1, [], [], by simp, by simp, by simpa [TTerm.nodesL] using hJ1, by simp, by simp⟩
    · rintro n _ _ ⟨k, σj, jb, jm, hn, hk, hJk, rfl, rfl⟩
      refine Run.reg (EOKg gl) rfl fun K hK => ?_
      refine Wq (by simp; rfl) ?_
      refine Wd (hK _ _ ?_); clear hK K
      refine Run.seq ?_
      refine Run.testEnd (b := decide ((k : Int) < t.sub.length)) (by simp) (fun h => ?_) (fun h => ?_)
      · simp at h
        have hkk : (0 : Int) ≤ k ∧ (k : Int) < t.sub.length := ⟨by omega, by omega⟩
        refine Run.skip ?_
        show Run _ _ _ _ _ _
        refine Run.seq ?_
        refine Run.block ?_
        refine Run.reg (EOKg gl) rfl fun K hK => ?_
        refine Wq (evF_ix (tg := .none) (rw := TTerm.row) (xs := t.sub) (k := .i64) (n := k) (by simp; rfl) rfl (by simp; rfl) (by simp) (by simp) hkk.1 hkk.2 (by simp)) ?_
        refine Wq (by simp; rfl) ?_
        refine We rfl ?_; simp
        intro b6 hb6
        simp [Fresh] at hb6
        have hne : ¬ b2 = b6 := by omega
        refine We rfl ?_; simp [hne]
        refine Wd (hK _ _ ?_); clear hK K
        refine Run.reg (EOKg gl) rfl fun K hK => ?_
        refine Wq (by simp; rfl) ?_
        refine Wq (by simp; rfl) ?_
        have hsub : t.sub[k]? = some (nth t.sub k) := by unfold nth; simp [h]
        have hpre : ((pre ++ (t :: TTerm.nodesL (t.sub.take k)).map TTerm.agg) ++ (nth t.sub k).nodes.map TTerm.agg) <+: xs := by
          refine List.IsPrefix.trans ⟨(TTerm.nodesL (t.sub.drop (k + 1))).map TTerm.agg, ?_⟩ hp
          have e1 : t.sub = t.sub.take k ++ nth t.sub k :: t.sub.drop (k + 1) := by
            have hlt : k < t.sub.length := by omega
            rw [List.getElem?_eq_getElem hlt] at hsub
            simp only [Option.some.injEq] at hsub
            rw [← hsub, List.getElem_cons_drop hlt, List.take_append_drop]
          rw [TTerm.nodes_eq t]
          conv => rhs; rw [e1, TTerm.nodesL_app]
          simp [TTerm.nodesL]
        refine Wcb σj ⟨(b6, _) :: (b2, _) :: jb, jm⟩ rfl rfl rfl (by simp; rfl) (by simp; done) (ih (nth t.sub k) (List.mem_of_getElem? hsub) _ hpre σj hJk) (List.perm_append_comm (l₁ := (b6, _) :: (b2, _) :: jb)) List.perm_append_comm ?_
        rintro r σ2 hR2
        simp [noCells, noCellS, noCellV, noCellC, noCellT, St.add]
        obtain ⟨β, hβ⟩ : ∃ β, r = .bool β := by rcases hR2 with ⟨h, _⟩ | ⟨h, _⟩ <;> exact ⟨_, h⟩
        subst hβ
        refine Wq (by simp; rfl) ?_
        refine Wd (hK _ _ ?_); clear hK K
        refine Run.testEnd (b := !β) (by simp) (fun h2 => ?_) (fun h2 => ?_)
        · rcases hR2 with ⟨h1, _⟩ | ⟨_, hX⟩
          · simp at h1; subst h1; simp at h2
          · refine Run.reg (EOKg gl) rfl fun K hK => ?_
            refine Wq (by simp; rfl) ?_
            refine Wd (hK _ _ ?_); clear hK K
            refine Run.ret ?_
            refine ⟨by simp, by simp, _, _, σ2, rfl, .inl rfl, ?_, ?_, ?_⟩
            · exact (List.sublist_append_right jb σ2.box).trans ((List.sublist_cons_self _ _).trans (List.sublist_cons_self _ _))
            · simp
            · simp [tupA]; exact hX
        · simp at h2
          subst h2
          have hJ2 : J ((pre ++ (t :: TTerm.nodesL (t.sub.take k)).map TTerm.agg) ++ (nth t.sub k).nodes.map TTerm.agg) σ2 := by
            rcases hR2 with ⟨_, h⟩ | ⟨h, _⟩
            · exact h
            · simp at h
          refine Run.skip ?_
          show Run _ _ _ _ _ _
          refine Run.perm (σ' := ⟨(b2, _) :: (b6, _) :: (jb ++ σ2.box), jm ++ σ2.map⟩) (List.Perm.swap (b2, _) (b6, _) _) (.refl _) ?_
          refine Run.regEnd (EOKg gl) rfl fun K hK => ?_
          refine Wq (by simp; rfl) ?_
          refine Wq (by simp; rfl) ?_
          refine Wd (hK _ _ ?_); clear hK K
          have hw : IntKind.i64.wrap ((k : Int) + 1) = ((k + 1 : Nat) : Int) := by
            have := w64_eq (n := (k : Int) + 1) (by omega) (by omega)
            unfold w64 at this
            rw [this]; simp
          have htake : t.sub.take (k + 1) = t.sub.take k ++ [nth t.sub k] := by
            rw [List.take_add_one, hsub]; rfl
          refine ⟨t.sub.length - (k + 1), by omega, k + 1, σ2, (b6, (nth t.sub k).row) :: jb, jm, rfl, by omega, ?_, ?_, by simp⟩
          · rw [htake, TTerm.nodesL_app]
            simpa [TTerm.nodesL] using hJ2
          · simp [hw]
      · simp at h
        have hkl : k = t.sub.length := by omega
        subst hkl
        refine Run.exit ?_
        show Run _ _ _ _ _ _
        refine Run.reg (EOKg gl) rfl fun K hK => ?_
        refine Wq (by simp; rfl) ?_
        refine Wd (hK _ _ ?_); clear hK K
        refine Run.ret ?_
        refine ⟨by simp, by simp, _, _, σj, rfl, .inl rfl, ?_, ?_, ?_⟩
        · exact (List.sublist_append_right jb σj.box).trans (List.sublist_cons_self _ _)
        · simp
        · simp [tupA]
          rw [List.take_length, ← TTerm.nodes_eq] at hJk
          exact hJk
mutual
theorem TTerm.nodes_pos : ∀ (t : TTerm), 0 < t.nodes.length
  | ⟨_, _, _, _, _, sub⟩ => by simp [TTerm.nodes]
theorem TTerm.nodesL_len : ∀ (l : List TTerm), l.length ≤ (TTerm.nodesL l).length
  | [] => by simp
  | x :: xs => by
    have h1 := TTerm.nodes_pos x
    have h2 := TTerm.nodesL_len xs
    simp only [TTerm.nodesL, List.length_cons, List.length_append]; omega
end
mutual
theorem visit_ok (hr : ∀ pre x, (pre ++ [x]) <+: xs → ∀ σ, J pre σ → YCall Tryd.prog (atGlob gl) l [x] σ fun r σ' => (r = .bool true ∧ J (pre ++ [x]) σ') ∨ (r = .bool false ∧ X σ')) :
    ∀ (t : TTerm), t.nodes.length < 4611686018427387904 → ∀ (pre : List AV), (pre ++ t.nodes.map TTerm.agg) <+: xs → ∀ (σ : St), J pre σ → ACall Tryd.prog (atGlob gl) 63 [.agg t.row, .val (.func (.yield l) #[] #[])] σ fun r σ' => (r = .bool true ∧ J (pre ++ t.nodes.map TTerm.agg) σ') ∨ (r = .bool false ∧ X σ')
  | ⟨a, b, c, d, e, sub⟩ => fun hl => visit_step hr ⟨a, b, c, d, e, sub⟩ (by have := TTerm.nodesL_len sub; simp only [TTerm.nodes, List.length_cons] at hl; simp only; omega)
      (visit_okL hr sub (by simp only [TTerm.nodes, List.length_cons] at hl; omega))
theorem visit_okL (hr : ∀ pre x, (pre ++ [x]) <+: xs → ∀ σ, J pre σ → YCall Tryd.prog (atGlob gl) l [x] σ fun r σ' => (r = .bool true ∧ J (pre ++ [x]) σ') ∨ (r = .bool false ∧ X σ')) :
    ∀ (ts : List TTerm), (TTerm.nodesL ts).length < 4611686018427387904 → ∀ s ∈ ts, ∀ (pre : List AV), (pre ++ s.nodes.map TTerm.agg) <+: xs → ∀ (σ : St), J pre σ → ACall Tryd.prog (atGlob gl) 63 [.agg s.row, .val (.func (.yield l) #[] #[])] σ fun r σ' => (r = .bool true ∧ J (pre ++ s.nodes.map TTerm.agg) σ') ∨ (r = .bool false ∧ X σ')
  | [], _, s, hs => absurd hs (by simp)
  | t :: ts, hl, s, hs => by
    simp only [TTerm.nodesL, List.length_append] at hl
    rcases List.mem_cons.1 hs with h | hs
    · rw [h]; exact visit_ok hr t (by omega)
    · exact visit_okL hr ts (by omega) s hs
end
end
set_option maxRecDepth 100000 in
set_option maxHeartbeats 4000000 in
/-- A walk over the nodes of a term. -/
theorem nodes_iter (t : TTerm) (hl : t.nodes.length < 4611686018427387904) : Iter Tryd.prog EE 62 [.cptr t.row] (t.nodes.map TTerm.agg) := by
 intro gl l J X hr σ hJ
 refine ACall.of_fun (EOKg gl) (F := Tryd.f62) 6 [] (by kernel_rfl) rfl rfl rfl rfl (Nat.le_of_ble_eq_true rfl) (by simp) (hrd := by simp) ?_
 simp only [slotsA]
 refine Run.regEnd (EOKg gl) rfl fun K hK => ?_
 refine Wq (by simp; rfl) ?_
 refine Wq (by simp; rfl) ?_
 refine Wcb σ .empty rfl rfl rfl (by simp; rfl) (by simp; done) (visit_ok (gl := gl) (l := l) (J := J) (X := X) (xs := t.nodes.map TTerm.agg) hr t hl [] (by simp) σ hJ) (by simp) (by simp) ?_
 rintro r σ1 hR
 simp [noCells, noCellS, noCellV, noCellC, noCellT, St.add]
 refine hK _ _ ?_; clear hK K
 refine ⟨by simp, by simp, _, _, σ1, rfl, .inl rfl, by simp, by simp, ?_⟩
 rcases hR with ⟨_, h⟩ | ⟨_, h⟩
 ·
  exact .inl (by simpa using h)
 exact .inr h
set_option maxRecDepth 100000 in
set_option maxHeartbeats 4000000 in
theorem nodes_ok (t : TTerm) : PCall Tryd.prog EE 38 [.agg t.row] fun v => v = .func 62 [.cptr t.row] := by
 have key : ACall Tryd.prog EE 38 [.agg t.row] .empty fun r σ' => ∃ b, r = .func 62 [.ptr b 0] ∧ σ' = ⟨[(b, t.row)], []⟩ := by
   refine ACall.of_fun EOK (F := Tryd.f38) 4 [.tmp 2] (by kernel_rfl) rfl rfl rfl rfl (Nat.le_of_ble_eq_true rfl) (by simp) ?_
   simp only [slotsA]
   refine rg fun K hK => ?_
   refine We rfl ?_; simp
   intro b1 _
   refine Wq (by simp; rfl) ?_
   refine hK _ _ ?_; clear hK K
   refine rg fun K hK => ?_
   refine Wq (by simp; rfl) ?_
   refine Wq (by simp; rfl) ?_
   refine hK _ _ ?_; clear hK K
   refine Run.ret ?_
   refine ⟨by simp, by simp, _, _, _, rfl, .inl rfl, ?_, ?_, b1, ?_, rfl⟩
   all_goals simp [tupA]
 exact key.freeze

/-! term_nodes -/

/-! term_Size -/
def term_Size.r0 : Int → TTerm → Option (Int ⊕ Unit) := fun v x_x1 =>
 match v with
 | v_x3 =>
 some (.inl (IntKind.i64.wrap (v_x3 + 1)))
def term_Size (t_0 : TTerm) : Option Int :=
 (if t_0.nodes.length < 4611686018427387904 then
 ((forL (term_Size.r0 ) 0 t_0.nodes).bind fun y => match y with
 | .inl v_x3 =>
 some v_x3
 | .inr _ =>
 none)
 else none)
theorem term_Size_ok {t_0 : TTerm} {r : Int} (hF : term_Size t_0 = some r) : PCall Tryd.prog EE 36 [.agg t_0.row] fun v => v = .int .i64 r := by
 refine PCall.of_fun EOK (F := Tryd.f36) 10 [.tmp 2] (by kernel_rfl) rfl rfl rfl rfl (Nat.le_of_ble_eq_true rfl) (by simp) ?_
 simp only [slotsA]
 unfold term_Size at hF
 refine rg fun K hK => ?_
 refine We rfl ?_; simp
 intro b1 _
 refine Wq (by simp; rfl) ?_
 refine hK _ _ ?_; clear hK K
 refine rg fun K hK => ?_
 refine We rfl ?_; simp
 intro b3 hb3; simp [Fresh] at hb3; have hq3 : ¬b1 = b3 := by omega
 have q := And.intro hb3 hq3
 refine We rfl ?_; simp [q]
 refine hK _ _ ?_; clear hK K
 refine Run.seq ?_
 refine rg fun K hK => ?_
 refine wq ?_
 refine wcq (nodes_ok t_0) ?_; rintro _ rfl; simp
 refine hK _ _ ?_; clear hK K
 refine Run.block ?_
 replace hF := chkO hF; obtain ⟨hc2, hF⟩ := hF
 replace hF := bindO hF; obtain ⟨y5, hy5, hF⟩ := hF
 refine Run.restrict [3, 5] [] [b3] [] (by simp) (by simp) (by simp) ?_
 refine Run.cast (f' := ⟨10, [(3, .ptr b3 0), (5, .func 62 [.cptr t_0.row])], [], []⟩) (σ' := ⟨[(b3, [.int .i64 0])], []⟩) (by simp [q, Fm.rst, nn, nn1]) (by simp [q, St.only, nn1]) ?_
 refine Run.forLE (enc := TTerm.agg) EOK rfl (nodes_iter _ hc2) hy5 (by simp) (by simp) (by intro x; simp) [b3] [] (by simp) (by simp) (fun v_x3 => ⟨[(b3, [.int .i64 v_x3])], []⟩) (fun _ => .empty) (by simp) ?_ ?_ ?_
 ·
  clear hF
  rintro l v_x3 x_x1 zz _ rfl hF hR
  simp only [term_Size.r0] at hF
  refine Run.cast (f' := ⟨10, [(6, .agg x_x1.row), (3, .ptr b3 0), (5, .func 62 [.cptr t_0.row])], [], []⟩) (σ' := ⟨[(b3, [.int .i64 v_x3])], []⟩) (by simp) (by simp) ?_
  refine Run.skip ?_
  show Run _ _ _ _ _ _
  refine Run.block ?_
  refine Run.regEnd (EOK.inRd _) rfl fun K hK => ?_
  iterate 2 refine wq ?_
  refine We rfl ?_; simp [q]
  refine hK _ _ ?_; clear hK K
  exact ⟨(IntKind.i64.wrap (v_x3 + 1)), (Option.some.inj hF).symm, by simp [q, St.only, nn1]⟩
 ·
  rintro D6 v_x3 rfl
  simp only at hF
  show Run _ _ _ _ _ _
  refine rg fun K hK => ?_
  iterate 2 refine wq ?_
  refine hK _ _ ?_; clear hK K
  refine Run.ret ?_
  obtain rfl := Option.some.inj hF
  simp [tupA, hb3, hq3]
 rintro D6 _ rfl
 simp only at hF
 cases hF

/-! term_Depth -/
def term_Depth.l0 [Fx] (t_0 : TTerm) (self : TTerm → Option Int) : Int × Int → Option ((Int × Int) ⊕ Int) := fun v =>
 match v with
 | (d_x1, v_x2) =>
 (if (decide (v_x2 < (t_0.sub.length : Int))) then
 (if (0 : Int) ≤ v_x2 ∧ v_x2 < (t_0.sub.length : Int) then
 ((self ((nth t_0.sub v_x2))).bind fun y7 =>
 some (.inl ((imax d_x1 y7), (IntKind.i64.wrap (v_x2 + 1)))))
 else none)
 else
 (Option.map Sum.inr (some (IntKind.i64.wrap (d_x1 + 1)))))
def term_Depth.G [Fx] (self : TTerm → Option Int) (t_0 : TTerm) : Option Int :=
 Fx.fx (term_Depth.l0 t_0 self) (0, 0)
def term_Depth [Fx] (t_0 : TTerm) : Option Int := itr (fun self a => term_Depth.G self a) (t_0.nodes.length + 1) (t_0)
theorem term_Depth_step [Fx] {self : TTerm → Option Int} (ih : ∀ {a : TTerm} {r : Int}, self a = some r → PCall Tryd.prog EE 37 [.agg a.row] fun v => v = .int .i64 r) {t_0 : TTerm} {r : Int} (hF : term_Depth.G self t_0 = some r) : PCall Tryd.prog EE 37 [.agg t_0.row] fun v => v = .int .i64 r := by
 refine PCall.of_fun EOK (F := Tryd.f37) 20 [.tmp 2] (by kernel_rfl) rfl rfl rfl rfl (Nat.le_of_ble_eq_true rfl) (by simp) ?_
 simp only [slotsA]
 unfold term_Depth.G at hF
 refine rg fun K hK => ?_
 refine We rfl ?_; simp
 intro b1 _
 refine Wq (by simp; rfl) ?_
 refine hK _ _ ?_; clear hK K
 refine rg fun K hK => ?_
 refine Wq (by simp; rfl) ?_
 refine hK _ _ ?_; clear hK K
 refine Run.seq ?_
 refine rg fun K hK => ?_
 iterate 4 refine Wq (by simp; rfl) ?_
 refine hK _ _ ?_; clear hK K
 refine Run.block ?_
 refine Run.fixX hF [3, 7, 8, 9] [] [] [] (by simp) (by simp) (by simp) (fun v f σ => ∃ d_x1 : Int, ∃ v_x2 : Int, v = (d_x1, v_x2) ∧ f = ⟨20, [(3, .int .i64 d_x1), (7, .list .none (t_0.sub.map TTerm.row)), (8, .int .i64 (t_0.sub.length : Int)), (9, .int .i64 v_x2)], [], []⟩ ∧ σ = ⟨[], []⟩) ?_ ?_
 ·
  exact ⟨0, 0, rfl, by simp [Fm.rst, nn, nn1], by simp [St.only, nn1]⟩
 clear hF
 rintro _ _ _ yy1 ⟨d_x1, v_x2, rfl, rfl, rfl⟩ hF hR1
 simp only [term_Depth.l0] at hF
 refine rg fun K hK => ?_
 refine Wq (by simp; rfl) ?_
 refine hK _ _ ?_; clear hK K
 refine Run.seq ?_
 refine Run.testEnd (b := (decide (v_x2 < (t_0.sub.length : Int)))) (by simp) (fun h5 => ?_) (fun h5 => ?_)
 ·
  rw [itet h5] at hF; try simp at h5
  refine Run.skip ?_
  show Run _ _ _ _ _ _
  refine Run.seq ?_
  refine Run.block ?_
  replace hF := chkO hF; obtain ⟨hc6, hF⟩ := hF
  refine rg fun K hK => ?_
  have q := h5
  refine Wq (evF_ix (tg := .none) (rw := TTerm.row) (xs := t_0.sub) (k := .i64) (n := v_x2) (by simp; rfl) rfl (by simp; rfl) (by simp [q]) (by simp [q]) hc6.1 hc6.2 (by simp)) ?_
  refine wq ?_
  refine We rfl ?_; simp [q]
  intro b5 _
  refine We rfl ?_; simp [q]
  refine hK _ _ ?_; clear hK K
  replace hF := bindO hF; obtain ⟨y7, hy7, hF⟩ := hF
  refine rge fun K hK => ?_
  iterate 2 refine wq ?_
  refine wcq (ih hy7) ?_; rintro _ rfl; simp
  iterate 2 refine wq ?_
  refine hK _ _ ?_; clear hK K
  show Run _ _ _ _ _ _
  refine rge fun K hK => ?_
  iterate 2 refine wq ?_
  refine hK _ _ ?_; clear hK K
  exact ⟨_, (Option.some.inj hF).symm, (imax d_x1 y7), (IntKind.i64.wrap (v_x2 + 1)), rfl, by simp [q, Fm.rst, nn, nn1], by simp [q, St.only, nn1]⟩
 rw [itef h5] at hF; try simp at h5
 refine Run.exit ?_
 replace hF := mapO hF; obtain ⟨z8, hF, hz⟩ := hF; have hz2 := (hR1 _ hz.symm).symm; subst hz2; clear hz
 show Run _ _ _ _ _ _
 refine rg fun K hK => ?_
 have q := h5
 iterate 3 refine wq ?_
 refine hK _ _ ?_; clear hK K
 refine Run.ret ?_
 obtain rfl := Option.some.inj hF
 simp [tupA, h5]
theorem term_Depth_ok [Fx] {t_0 : TTerm} {r : Int} (hF : term_Depth t_0 = some r) : PCall Tryd.prog EE 37 [.agg t_0.row] fun v => v = .int .i64 r :=
  itr_ind (C := fun (a : TTerm) (r : Int) => PCall Tryd.prog EE 37 [.agg a.row] fun v => v = .int .i64 r) (fun self ih {a r} h => term_Depth_step (fun {a r} h => ih h) h) _ hF

/-! term_shaped -/

def term_shaped (kind_0 : Int) : Option (TTermShape × Bool) :=
 (if (decide (24 < kind_0)) then
 some ((TTermShape.mk [] 0 0), false)
 else
 (if (0 : Int) ≤ kind_0 ∧ kind_0 < 25 then
 (if (0 : Int) ≤ kind_0 ∧ kind_0 < 25 then
 some ((nth shapesL kind_0), (decide (0 < ((nth shapesL kind_0).parts))))
 else none)
 else none))
theorem term_shaped_ok {kind_0 : Int} {r : TTermShape × Bool} (hF : term_shaped kind_0 = some r) : PCall Tryd.prog EE 65 [.int .u8 kind_0] fun v => v = .tup [.agg r.1.row, .bool r.2] := by
 refine PCall.of_fun EOK (F := Tryd.f65) 15 [.cell 2 130, .tmp 3] (by kernel_rfl) rfl rfl rfl rfl (Nat.le_of_ble_eq_true rfl) (by simp) ?_
 simp only [slotsA]
 unfold term_shaped at hF
 refine rg fun K hK => ?_
 refine We rfl ?_; simp
 intro b2 _
 refine Wq (by simp; rfl) ?_
 refine hK _ _ ?_; clear hK K
 refine Run.seq ?_
 refine rg fun K hK => ?_
 iterate 2 refine Wq (by simp; rfl) ?_
 refine hK _ _ ?_; clear hK K
 refine Run.testEnd (b := (decide (24 < kind_0))) (by simp) (fun h1 => ?_) (fun h1 => ?_)
 ·
  rw [itet h1] at hF; try simp at h1
  refine rg fun K hK => ?_
  have q := h1
  refine wq ?_
  refine We rfl ?_; simp [q]
  refine wq ?_
  refine hK _ _ ?_; clear hK K
  refine Run.ret ?_
  obtain rfl := Option.some.inj hF
  simp [tupA, h1]
 rw [itef h1] at hF; try simp at h1
 refine Run.skip ?_
 show Run _ _ _ _ _ _
 replace hF := chkO hF; obtain ⟨hc2, hF⟩ := hF
 obtain ⟨resths3, hs3⟩ := shapes_at hc2.1 hc2.2
 replace hF := chkO hF; obtain ⟨hc4, hF⟩ := hF
 obtain ⟨resths5, hs5⟩ := shapes_at hc4.1 hc4.2
 have q := h1
 refine Run.drawHReg EOK mixed ⟨[], []⟩ ⟨[(b2, _)], []⟩ ((pick1 (by first | (simp [q]; done) | (simp [q]; rfl) | (simp [q]; repeat' first | rfl | apply And.intro)) (by first | (simp [q]; done) | (simp [q]; rfl) | (simp [q]; repeat' first | rfl | apply And.intro))).trans List.perm_append_comm) (by exact pick0.trans List.perm_append_comm) (by simp [noCells, noCellS, noCellV, noCellC, noCellT]) 9 [0, 1, 2, 3, 4, 5, 6, 7, 8] rfl (by kernel_rfl) fun K hK => ?_
 refine Hq rfl (by simp [q]; rfl) ?_
 refine Hq rfl (evP_of (evF_gx (by simp; rfl) rfl (by simp; rfl) (by simp [q]; rfl) hc2.1 (by have := hc2.2; omega) (by simp; exact hs3))) ?_
 iterate 2 refine Hq rfl (by simp [q]; rfl) ?_
 refine Hq rfl (evP_of (evF_gx (by simp; rfl) rfl (by simp; rfl) (by simp [q]; rfl) hc4.1 (by have := hc4.2; omega) (by simp; exact hs5))) ?_
 iterate 3 refine Hq rfl (by simp [q]; rfl) ?_
 refine Hs (b := b2) (off := 0) rfl rfl rfl (by simp) (by simp; rfl) (by first | (simp [q]; done) | (simp [q]; rfl)) (by first | (simp [q]; done) | (simp [q]; rfl)) (by first | (simp [q]; done) | (simp [q]; rfl)) (by first | (simp [q]; done) | (simp [q]; rfl)) (by first | (simp [q]; done) | (simp [q]; rfl)) (by first | (simp [q]; done) | (simp [q]; rfl)) (by first | (simp [q]; done) | (simp [q]; rfl)) ?_; simp [q]
 refine Hd ?_; simp [St.add]
 refine wq ?_
 refine hK _ _ ?_; clear hK K
 refine Run.ret ?_
 obtain rfl := Option.some.inj hF
 simp [tupA, h1]

/-! internal_stringslite_HasPrefix -/

def internal_stringslite_HasPrefix (s_0 : List UInt8) (prefix_1 : List UInt8) : Option Bool :=
 (if ((decide ((prefix_1.length : Int) ≤ (s_0.length : Int))) = true → (0 : Int) ≤ 0 ∧ 0 ≤ (prefix_1.length : Int) ∧ (prefix_1.length : Int) ≤ (s_0.length : Int)) then
 some ((decide ((prefix_1.length : Int) ≤ (s_0.length : Int))) && (decide (((s_0.take (prefix_1.length : Int).toNat).drop (0 : Int).toNat) = prefix_1)))
 else none)
theorem internal_stringslite_HasPrefix_ok {s_0 : List UInt8} {prefix_1 : List UInt8} {r : Bool} (hF : internal_stringslite_HasPrefix s_0 prefix_1 = some r) : PCall Tryd.prog EE 94 [.str s_0, .str prefix_1] fun v => v = .bool r := by
 refine PCall.of_fun EOK (F := Tryd.f94) 18 [.tmp 4] (by kernel_rfl) rfl rfl rfl rfl (Nat.le_of_ble_eq_true rfl) (by simp) ?_
 simp only [slotsA]
 unfold internal_stringslite_HasPrefix at hF
 refine rg fun K hK => ?_
 refine Wq (by simp; rfl) ?_
 refine hK _ _ ?_; clear hK K
 replace hF := chkO hF; obtain ⟨hc2, hF⟩ := hF
 refine rg fun K hK => ?_
 iterate 6 refine Wq (by simp; rfl) ?_
 obtain ⟨g1, e1⟩ : ∃ g, g = (decide ((prefix_1.length : Int) ≤ (s_0.length : Int))) := ⟨_, rfl⟩
 iterate 3 refine Wg rfl (b := g1) (by simp [e1]) (fun hg => by simp [hg]; rfl) ?_
 refine Wg rfl (b := g1) (by simp [e1]) (fun hg => by have hf0 := hc2 (e1.symm.trans hg); have he0 := hf0; (try simp at he0); simp [hg, hf0, he0]; rfl) ?_
 iterate 2 refine Wg rfl (b := g1) (by simp [e1]) (fun hg => by simp [hg]; rfl) ?_
 refine Wand (t := (decide ((prefix_1.length : Int) ≤ (s_0.length : Int)))) (β := (decide (((s_0.take (prefix_1.length : Int).toNat).drop (0 : Int).toNat) = prefix_1))) (by simp) rfl (fun hh => by have h0 := e1.trans hh; simp [h0]) (by first | (simp; done) | (simp; rfl)) ?_
 refine Wq (by simp; rfl) ?_
 refine hK _ _ ?_; clear hK K
 refine Run.ret ?_
 obtain rfl := Option.some.inj hF
 simp [tupA]

/-! internal_stringslite_TrimPrefix -/

def internal_stringslite_TrimPrefix (s_0 : List UInt8) (prefix_1 : List UInt8) : Option ((List UInt8)) :=
 ((internal_stringslite_HasPrefix s_0 prefix_1).bind fun y1 =>
 (if y1 then
 (if (0 : Int) ≤ (prefix_1.length : Int) ∧ (prefix_1.length : Int) ≤ (s_0.length : Int) ∧ (s_0.length : Int) ≤ (s_0.length : Int) then
 some ((s_0.take (s_0.length : Int).toNat).drop (prefix_1.length : Int).toNat)
 else none)
 else
 some s_0))
theorem internal_stringslite_TrimPrefix_ok {s_0 : List UInt8} {prefix_1 : List UInt8} {r : (List UInt8)} (hF : internal_stringslite_TrimPrefix s_0 prefix_1 = some r) : PCall Tryd.prog EE 91 [.str s_0, .str prefix_1] fun v => v = .str r := by
 refine PCall.of_fun EOK (F := Tryd.f91) 13 [.tmp 4] (by kernel_rfl) rfl rfl rfl rfl (Nat.le_of_ble_eq_true rfl) (by simp) ?_
 simp only [slotsA]
 unfold internal_stringslite_TrimPrefix at hF
 refine rg fun K hK => ?_
 refine Wq (by simp; rfl) ?_
 refine hK _ _ ?_; clear hK K
 refine Run.seq ?_
 replace hF := bindO hF; obtain ⟨y1, hy1, hF⟩ := hF
 refine rg fun K hK => ?_
 iterate 2 refine Wq (by simp; rfl) ?_
 refine Wc rfl rfl rfl (by first | (simp; rfl) | (simp; done)) (by simp; done) (internal_stringslite_HasPrefix_ok hy1) ?_; rintro _ rfl; simp
 refine hK _ _ ?_; clear hK K
 refine Run.testEnd (b := y1) (by simp) (fun h2 => ?_) (fun h2 => ?_)
 ·
  rw [itet h2] at hF; try simp at h2
  replace hF := chkO hF; obtain ⟨hc3, hF⟩ := hF
  refine rg fun K hK => ?_
  have q := h2
  iterate 3 refine wq ?_
  refine Wq (by have hf0 := hc3; (try simp at hf0); simp [q, hc3, hf0]; rfl) ?_
  refine wq ?_
  refine hK _ _ ?_; clear hK K
  refine Run.ret ?_
  obtain rfl := Option.some.inj hF
  simp [tupA, h2]
 rw [itef h2] at hF; try simp at h2
 refine Run.skip ?_
 show Run _ _ _ _ _ _
 refine rg fun K hK => ?_
 have q := h2
 iterate 2 refine wq ?_
 refine hK _ _ ?_; clear hK K
 refine Run.ret ?_
 obtain rfl := Option.some.inj hF
 simp [tupA, h2]

/-! strings_TrimPrefix -/

def strings_TrimPrefix (s_0 : List UInt8) (prefix_1 : List UInt8) : Option ((List UInt8)) :=
 ((internal_stringslite_TrimPrefix s_0 prefix_1).bind fun y1 =>
 some y1)
theorem strings_TrimPrefix_ok {s_0 : List UInt8} {prefix_1 : List UInt8} {r : (List UInt8)} (hF : strings_TrimPrefix s_0 prefix_1 = some r) : PCall Tryd.prog EE 83 [.str s_0, .str prefix_1] fun v => v = .str r := by
 refine PCall.of_fun EOK (F := Tryd.f83) 8 [.tmp 4] (by kernel_rfl) rfl rfl rfl rfl (Nat.le_of_ble_eq_true rfl) (by simp) ?_
 simp only [slotsA]
 unfold strings_TrimPrefix at hF
 refine rg fun K hK => ?_
 refine Wq (by simp; rfl) ?_
 refine hK _ _ ?_; clear hK K
 replace hF := bindO hF; obtain ⟨y1, hy1, hF⟩ := hF
 refine rg fun K hK => ?_
 iterate 2 refine Wq (by simp; rfl) ?_
 refine Wc rfl rfl rfl (by first | (simp; rfl) | (simp; done)) (by simp; done) (internal_stringslite_TrimPrefix_ok hy1) ?_; rintro _ rfl; simp
 refine Wq (by simp; rfl) ?_
 refine hK _ _ ?_; clear hK K
 refine Run.ret ?_
 obtain rfl := Option.some.inj hF
 simp [tupA]

/-! term_variable -/

def term_variable [Fx] (s_0 : List UInt8) : Option Bool :=
 ((strings_TrimPrefix s_0 [114, 46]).bind fun y1 =>
 ((bits_Name y1).bind fun y2 =>
 some y2))
theorem term_variable_ok [Fx] {s_0 : List UInt8} {r : Bool} (hF : term_variable s_0 = some r) : PCall Tryd.prog EE 67 [.str s_0] fun v => v = .bool r := by
 refine PCall.of_fun EOK (F := Tryd.f67) 6 [.tmp 2] (by kernel_rfl) rfl rfl rfl rfl (Nat.le_of_ble_eq_true rfl) (by simp) ?_
 simp only [slotsA]
 unfold term_variable at hF
 refine rg fun K hK => ?_
 refine Wq (by simp; rfl) ?_
 refine hK _ _ ?_; clear hK K
 replace hF := bindO hF; obtain ⟨y1, hy1, hF⟩ := hF
 replace hF := bindO hF; obtain ⟨y2, hy2, hF⟩ := hF
 refine rg fun K hK => ?_
 refine Wq (by simp; rfl) ?_
 refine Wc rfl rfl rfl (by first | (simp; rfl) | (simp; done)) (by simp; done) (strings_TrimPrefix_ok hy1) ?_; rintro _ rfl; simp
 refine Wc rfl rfl rfl (by first | (simp; rfl) | (simp; done)) (by simp; done) (bits_Name_ok hy2) ?_; rintro _ rfl; simp
 refine Wq (by simp; rfl) ?_
 refine hK _ _ ?_; clear hK K
 refine Run.ret ?_
 obtain rfl := Option.some.inj hF
 simp [tupA]

/-! slices_IndexFunc_api_Term -/
def slices_IndexFunc_api_Term.l0 [Fx] (s_0 : List TTerm) (f_1 : TTerm → Option Bool) : Int → Option (Int ⊕ Int) := fun v =>
 match v with
 | v_x1 =>
 (if (decide (v_x1 < (s_0.length : Int))) then
 (if (0 : Int) ≤ v_x1 ∧ v_x1 < (s_0.length : Int) then
 ((f_1 (nth s_0 v_x1)).bind fun y5 =>
 (if y5 then
 some (.inr v_x1)
 else
 some (.inl (IntKind.i64.wrap (v_x1 + 1)))))
 else none)
 else
 (Option.map Sum.inr (some (-1))))
def slices_IndexFunc_api_Term [Fx] (s_0 : List TTerm) (f_1 : TTerm → Option Bool) : Option Int :=
 Fx.fx (slices_IndexFunc_api_Term.l0 s_0 f_1) 0
theorem slices_IndexFunc_api_Term_ok [Fx] {fn_1 : Nat} {caps_1 : List AV} {f_1 : TTerm → Option Bool} (hf_1 : ∀ {x_0 : TTerm} {r : Bool}, f_1 x_0 = some r → PCall Tryd.prog EE fn_1 ([.agg x_0.row] ++ caps_1) fun v => v = .bool r) (hk_1 : caps_1.map er = caps_1) {s_0 : List TTerm} {r : Int} (hF : slices_IndexFunc_api_Term s_0 f_1 = some r) : PCall Tryd.prog EE 92 [.list .none (s_0.map TTerm.row), .func fn_1 caps_1] fun v => v = .int .i64 r := by
 have q := hk_1
 refine PCall.of_fun EOK (F := Tryd.f92) 19 [.tmp 4] (by kernel_rfl) rfl rfl rfl rfl (Nat.le_of_ble_eq_true rfl) (by simp [q]) ?_
 simp only [slotsA]
 unfold slices_IndexFunc_api_Term at hF
 refine rg fun K hK => ?_
 refine wq ?_
 refine hK _ _ ?_; clear hK K
 refine Run.seq ?_
 refine rg fun K hK => ?_
 iterate 3 refine wq ?_
 refine hK _ _ ?_; clear hK K
 refine Run.block ?_
 refine Run.fixX hF [0, 1, 7, 8] [] [] [] (by simp) (by simp) (by simp) (fun v_x1 f σ => f = ⟨19, [(0, .list .none (s_0.map TTerm.row)), (1, .func fn_1 caps_1), (7, .int .i64 (s_0.length : Int)), (8, .int .i64 v_x1)], [], []⟩ ∧ σ = ⟨[], []⟩) ?_ ?_
 ·
  exact ⟨by simp [q, Fm.rst, nn, nn1], by simp [q, St.only, nn1]⟩
 clear hF
 rintro v_x1 _ _ yy1 ⟨rfl, rfl⟩ hF hR1
 simp only [slices_IndexFunc_api_Term.l0] at hF
 refine rg fun K hK => ?_
 refine wq ?_
 refine hK _ _ ?_; clear hK K
 refine Run.seq ?_
 refine Run.testEnd (b := (decide (v_x1 < (s_0.length : Int)))) (by simp [q]) (fun h3 => ?_) (fun h3 => ?_)
 ·
  rw [itet h3] at hF; try simp at h3
  refine Run.skip ?_
  show Run _ _ _ _ _ _
  refine Run.seq ?_
  refine Run.block ?_
  refine rg fun K hK => ?_
  have q := And.intro q h3
  iterate 2 refine wq ?_
  refine hK _ _ ?_; clear hK K
  replace hF := chkO hF; obtain ⟨hc4, hF⟩ := hF
  replace hF := bindO hF; obtain ⟨y5, hy5, hF⟩ := hF
  refine rg fun K hK => ?_
  iterate 3 refine wq ?_
  refine Wq (evF_ix (tg := .none) (rw := TTerm.row) (xs := s_0) (k := .i64) (n := v_x1) (by simp; rfl) rfl (by simp; rfl) (by simp [q]) (by simp [q]) hc4.1 hc4.2 (by simp)) ?_
  refine wq ?_
  refine wcq (hf_1 hy5) ?_; rintro _ rfl; simp
  refine hK _ _ ?_; clear hK K
  refine Run.testEnd (b := y5) (by simp [q]) (fun h6 => ?_) (fun h6 => ?_)
  ·
   rw [itet h6] at hF; try simp at h6
   refine rg fun K hK => ?_
   have q := And.intro q h6
   iterate 2 refine wq ?_
   refine hK _ _ ?_; clear hK K
   refine Run.ret ?_
   have hv := hR1 _ (Option.some.inj hF).symm
   subst hv
   simp [tupA, hk_1, h3, h6]
  rw [itef h6] at hF; try simp at h6
  refine Run.skip ?_
  show Run _ _ _ _ _ _
  refine rge fun K hK => ?_
  have q := And.intro q h6
  iterate 2 refine wq ?_
  refine hK _ _ ?_; clear hK K
  exact ⟨_, (Option.some.inj hF).symm, by simp [q, Fm.rst, nn, nn1], by simp [q, St.only, nn1]⟩
 rw [itef h3] at hF; try simp at h3
 refine Run.exit ?_
 replace hF := mapO hF; obtain ⟨z7, hF, hz⟩ := hF; have hz2 := (hR1 _ hz.symm).symm; subst hz2; clear hz
 show Run _ _ _ _ _ _
 refine rg fun K hK => ?_
 have q := And.intro q h3
 refine wq ?_
 refine hK _ _ ?_; clear hK K
 refine Run.ret ?_
 obtain rfl := Option.some.inj hF
 simp [tupA, hk_1, h3]

/-! slices_ContainsFunc_api_Term -/

def slices_ContainsFunc_api_Term [Fx] (s_0 : List TTerm) (f_1 : TTerm → Option Bool) : Option Bool :=
 ((slices_IndexFunc_api_Term s_0 f_1).bind fun y1 =>
 some (decide (0 ≤ y1)))
theorem slices_ContainsFunc_api_Term_ok [Fx] {fn_1 : Nat} {caps_1 : List AV} {f_1 : TTerm → Option Bool} (hf_1 : ∀ {x_0 : TTerm} {r : Bool}, f_1 x_0 = some r → PCall Tryd.prog EE fn_1 ([.agg x_0.row] ++ caps_1) fun v => v = .bool r) (hk_1 : caps_1.map er = caps_1) {s_0 : List TTerm} {r : Bool} (hF : slices_ContainsFunc_api_Term s_0 f_1 = some r) : PCall Tryd.prog EE 84 [.list .none (s_0.map TTerm.row), .func fn_1 caps_1] fun v => v = .bool r := by
 have q := hk_1
 refine PCall.of_fun EOK (F := Tryd.f84) 9 [.tmp 4] (by kernel_rfl) rfl rfl rfl rfl (Nat.le_of_ble_eq_true rfl) (by simp [q]) ?_
 simp only [slotsA]
 unfold slices_ContainsFunc_api_Term at hF
 refine rg fun K hK => ?_
 refine wq ?_
 refine hK _ _ ?_; clear hK K
 replace hF := bindO hF; obtain ⟨y1, hy1, hF⟩ := hF
 refine rg fun K hK => ?_
 iterate 2 refine wq ?_
 refine wcq (slices_IndexFunc_api_Term_ok (fn_1 := fn_1) (caps_1 := caps_1) (f_1 := f_1) (hf_1 := hf_1) (hk_1 := hk_1) hy1) ?_; rintro _ rfl; simp
 iterate 2 refine wq ?_
 refine hK _ _ ?_; clear hK K
 refine Run.ret ?_
 obtain rfl := Option.some.inj hF
 simp [tupA, hk_1]

/-! term_widths_1 -/

def term_widths_1 (y_0 : TTerm) (c_1 : Int) : Option Bool :=
 some (!decide (y_0.width = c_1))
theorem term_widths_1_ok {y_0 : TTerm} {c_1 : Int} {r : Bool} (hF : term_widths_1 y_0 c_1 = some r) : PCall Tryd.prog EE 85 [.agg y_0.row, .cptr [.int .i64 c_1]] fun v => v = .bool r := by
 refine PCall.of_fun EOK (F := Tryd.f85) 8 [.tmp 3] (by kernel_rfl) rfl rfl rfl rfl (Nat.le_of_ble_eq_true rfl) (by simp) ?_
 simp only [slotsA]
 unfold term_widths_1 at hF
 refine rg fun K hK => ?_
 refine We rfl ?_; simp
 intro b2 _
 refine Wq (by simp; rfl) ?_
 refine hK _ _ ?_; clear hK K
 refine rg fun K hK => ?_
 iterate 5 refine Wq (by simp; rfl) ?_
 refine hK _ _ ?_; clear hK K
 refine Run.ret ?_
 obtain rfl := Option.some.inj hF
 simp [tupA]

/-! term_widths -/

def term_widths [Fx] (t_0 : TTerm) (how_1 : Int) : Option Bool :=
 (if (0 : Int) ≤ 0 ∧ 0 < (t_0.sub.length : Int) then
 (if (decide (how_1 = 1)) then
 ((slices_ContainsFunc_api_Term t_0.sub (fun x0 => term_widths_1 x0 t_0.width)).bind fun y3 =>
 some (!y3))
 else
 (if (decide (how_1 = 2)) then
 (if ((decide (t_0.width = 1)) = true → (0 : Int) ≤ 1 ∧ 1 < (t_0.sub.length : Int)) then
 some ((decide (t_0.width = 1)) && (decide (((nth t_0.sub 1).width) = ((nth t_0.sub 0).width))))
 else none)
 else
 (if (decide (how_1 = 3)) then
 (if ((decide (((nth t_0.sub 0).width) = 1)) = true → (0 : Int) ≤ 1 ∧ 1 < (t_0.sub.length : Int)) then
 (if (((decide (((nth t_0.sub 0).width) = 1)) && (decide (((nth t_0.sub 1).width) = t_0.width))) = true → (0 : Int) ≤ 2 ∧ 2 < (t_0.sub.length : Int)) then
 some (((decide (((nth t_0.sub 0).width) = 1)) && (decide (((nth t_0.sub 1).width) = t_0.width))) && (decide (((nth t_0.sub 2).width) = t_0.width)))
 else none)
 else none)
 else
 (if (decide (how_1 = 4)) then
 ((term_wide ((nth t_0.sub 0).width)).bind fun y13 =>
 (if (y13 = true → (0 : Int) ≤ 1 ∧ 1 < (t_0.sub.length : Int)) then
 ((if y13 then term_wide ((nth t_0.sub 1).width) else some default).bind fun y16 =>
 (if ((y13 && y16) = true → (0 : Int) ≤ 1 ∧ 1 < (t_0.sub.length : Int)) then
 some ((y13 && y16) && (decide ((IntKind.i64.wrap (((nth t_0.sub 0).width) + ((nth t_0.sub 1).width))) = t_0.width)))
 else none))
 else none))
 else
 (if (decide (how_1 = 5)) then
 ((if (decide (0 ≤ t_0.low)) then term_wide ((nth t_0.sub 0).width) else some default).bind fun y21 =>
 some ((((decide (0 ≤ t_0.low)) && y21) && (decide (t_0.width ≤ ((nth t_0.sub 0).width)))) && (decide (t_0.low ≤ (IntKind.i64.wrap (((nth t_0.sub 0).width) - t_0.width))))))
 else
 (if (decide (how_1 = 6)) then
 some (decide (((nth t_0.sub 0).width) ≤ t_0.width))
 else
 ((term_loadable t_0.width).bind fun y25 =>
 some y25)))))))
 else none)
theorem term_widths_ok [Fx] {t_0 : TTerm} {how_1 : Int} {r : Bool} (hF : term_widths t_0 how_1 = some r) : PCall Tryd.prog EE 68 [.agg t_0.row, .int .i64 how_1] fun v => v = .bool r := by
 refine PCall.of_fun EOK (F := Tryd.f68) 109 [.tmp 4] (by kernel_rfl) rfl rfl rfl rfl (Nat.le_of_ble_eq_true rfl) (by simp) ?_
 simp only [slotsA]
 unfold term_widths at hF
 refine rg fun K hK => ?_
 refine We rfl ?_; simp
 intro b2 _
 refine Wq (by simp; rfl) ?_
 refine hK _ _ ?_; clear hK K
 refine rg fun K hK => ?_
 iterate 2 refine Wq (by simp; rfl) ?_
 refine We rfl ?_; simp
 intro b5 hb5; simp [Fresh] at hb5; have hq5 : ¬b2 = b5 := by omega
 have q := And.intro hb5 hq5
 refine We rfl ?_; simp [q]
 refine hK _ _ ?_; clear hK K
 replace hF := chkO hF; obtain ⟨hc1, hF⟩ := hF
 refine rg fun K hK => ?_
 iterate 2 refine wq ?_
 refine Wq (evF_ix (tg := .none) (rw := TTerm.row) (xs := t_0.sub) (k := .i64) (n := 0) (by simp; rfl) rfl (by simp; rfl) (by simp [q]) (by simp [q]) hc1.1 hc1.2 (by simp)) ?_
 iterate 3 refine wq ?_
 refine hK _ _ ?_; clear hK K
 refine Run.seq ?_
 refine rg fun K hK => ?_
 refine wq ?_
 refine hK _ _ ?_; clear hK K
 refine Run.block ?_
 refine rg fun K hK => ?_
 iterate 2 refine wq ?_
 refine hK _ _ ?_; clear hK K
 refine Run.testEnd (b := (decide (how_1 = 1))) (by simp [q]) (fun h2 => ?_) (fun h2 => ?_)
 ·
  rw [itet h2] at hF; try simp at h2
  have q := And.intro q h2
  refine Run.freezeE b5 (by simp [q]; rfl) (by simp [q]; rfl) (by simp [q]; rfl) ?_
  replace hF := bindO hF; obtain ⟨y3, hy3, hF⟩ := hF
  refine rg fun K hK => ?_
  iterate 3 refine wq ?_
  refine wcq (slices_ContainsFunc_api_Term_ok (fn_1 := 85) (caps_1 := [.cptr [.int .i64 t_0.width]]) (f_1 := (fun x0 => term_widths_1 x0 t_0.width)) (hf_1 := (fun h => term_widths_1_ok h)) (hk_1 := by simp) hy3) ?_; rintro _ rfl; simp
  iterate 2 refine wq ?_
  refine hK _ _ ?_; clear hK K
  refine Run.ret ?_
  obtain rfl := Option.some.inj hF
  simp [tupA, hb5, hq5, h2]
 rw [itef h2] at hF; try simp at h2
 refine rg fun K hK => ?_
 have q := And.intro q h2
 iterate 2 refine wq ?_
 refine hK _ _ ?_; clear hK K
 refine Run.testEnd (b := (decide (how_1 = 2))) (by simp [q]) (fun h4 => ?_) (fun h4 => ?_)
 ·
  rw [itet h4] at hF; try simp at h4
  replace hF := chkO hF; obtain ⟨hc6, hF⟩ := hF
  refine rg fun K hK => ?_
  have q := And.intro q h4
  iterate 3 refine wq ?_
  obtain ⟨g5, e5⟩ : ∃ g, g = (decide (t_0.width = 1)) := ⟨_, rfl⟩
  iterate 2 refine Wg rfl (b := g5) (by simp [q, e5]) (fun hg => by simp [q, hg]; rfl) ?_
  refine Wg rfl (b := g5) (by simp [q, e5]) (fun hg => evF_ix (tg := .none) (rw := TTerm.row) (xs := t_0.sub) (k := .i64) (n := 1) (by simp; rfl) rfl (by simp; rfl) (by simp [q, hg]) (by simp [q, hg]) (hc6 (e5.symm.trans hg)).1 (hc6 (e5.symm.trans hg)).2 (by simp)) ?_
  iterate 4 refine Wg rfl (b := g5) (by simp [q, e5]) (fun hg => by simp [q, hg]; rfl) ?_
  refine Wand (t := (decide (t_0.width = 1))) (β := (decide (((nth t_0.sub 1).width) = ((nth t_0.sub 0).width)))) (by simp [q]) rfl (fun hh => by have h0 := e5.trans hh; simp [q, h0]) (by first | (simp; done) | (simp; rfl)) ?_
  refine wq ?_
  refine hK _ _ ?_; clear hK K
  refine Run.ret ?_
  obtain rfl := Option.some.inj hF
  simp [tupA, hb5, hq5, h2, h4]
 rw [itef h4] at hF; try simp at h4
 refine rg fun K hK => ?_
 have q := And.intro q h4
 iterate 2 refine wq ?_
 refine hK _ _ ?_; clear hK K
 refine Run.testEnd (b := (decide (how_1 = 3))) (by simp [q]) (fun h7 => ?_) (fun h7 => ?_)
 ·
  rw [itet h7] at hF; try simp at h7
  replace hF := chkO hF; obtain ⟨hc9, hF⟩ := hF
  replace hF := chkO hF; obtain ⟨hc11, hF⟩ := hF
  refine Run.drawReg EOK mixed 18 [0, 1, 2, 3, 4, 5, 6, 7, 8, 9, 10, 11, 12, 13, 14, 15, 16, 17] rfl (by kernel_rfl) fun K hK => ?_
  have q := And.intro q h7
  iterate 3 refine Pq rfl (by simp [q]; rfl) ?_
  obtain ⟨g8, e8⟩ : ∃ g, g = (decide (((nth t_0.sub 0).width) = 1)) := ⟨_, rfl⟩
  iterate 2 refine Pg rfl rfl (b := g8) (by simp [q, e8]) (fun hg => by simp [q, hg]; rfl) ?_
  refine Pg rfl rfl (b := g8) (by simp [q, e8]) (fun hg => evP_of (evF_ix (tg := .none) (rw := TTerm.row) (xs := t_0.sub) (k := .i64) (n := 1) (by simp; rfl) rfl (by simp; rfl) (by simp [q, hg]) (by simp [q, hg]) (hc9 (e8.symm.trans hg)).1 (hc9 (e8.symm.trans hg)).2 (by simp))) ?_
  iterate 4 refine Pg rfl rfl (b := g8) (by simp [q, e8]) (fun hg => by simp [q, hg]; rfl) ?_
  refine Pand rfl (t := (decide (((nth t_0.sub 0).width) = 1))) (β := (decide (((nth t_0.sub 1).width) = t_0.width))) (by simp [q]) rfl (fun hh => by have h0 := e8.trans hh; simp [q, h0]) (by first | (simp; done) | (simp; rfl)) ?_
  refine Pq rfl (by simp [q]; rfl) ?_
  obtain ⟨g10, e10⟩ : ∃ g, g = ((decide (((nth t_0.sub 0).width) = 1)) && (decide (((nth t_0.sub 1).width) = t_0.width))) := ⟨_, rfl⟩
  iterate 2 refine Pg rfl rfl (b := g10) (by simp [q, e10]) (fun hg => by simp [q, hg]; rfl) ?_
  refine Pg rfl rfl (b := g10) (by simp [q, e10]) (fun hg => evP_of (evF_ix (tg := .none) (rw := TTerm.row) (xs := t_0.sub) (k := .i64) (n := 2) (by simp; rfl) rfl (by simp; rfl) (by simp [q, hg]) (by simp [q, hg]) (hc11 (e10.symm.trans hg)).1 (hc11 (e10.symm.trans hg)).2 (by simp))) ?_
  iterate 3 refine Pg rfl rfl (b := g10) (by simp [q, e10]) (fun hg => by simp [q, hg]; rfl) ?_
  refine Pd ?_
  refine Wg rfl (b := g10) (by simp [q, e10]) (fun hg => by simp [q, hg]; rfl) ?_
  refine Wand (t := ((decide (((nth t_0.sub 0).width) = 1)) && (decide (((nth t_0.sub 1).width) = t_0.width)))) (β := (decide (((nth t_0.sub 2).width) = t_0.width))) (by simp [q]) rfl (fun hh => by have h0 := e10.trans hh; simp [q, h0]) (by first | (simp; done) | (simp; rfl)) ?_
  refine wq ?_
  refine hK _ _ ?_; clear hK K
  refine Run.ret ?_
  obtain rfl := Option.some.inj hF
  simp [tupA, hb5, hq5, h2, h4, h7]
 rw [itef h7] at hF; try simp at h7
 refine rg fun K hK => ?_
 have q := And.intro q h7
 iterate 2 refine wq ?_
 refine hK _ _ ?_; clear hK K
 refine Run.testEnd (b := (decide (how_1 = 4))) (by simp [q]) (fun h12 => ?_) (fun h12 => ?_)
 ·
  rw [itet h12] at hF; try simp at h12
  replace hF := bindO hF; obtain ⟨y13, hy13, hF⟩ := hF
  replace hF := chkO hF; obtain ⟨hc15, hF⟩ := hF
  replace hF := bindO hF; obtain ⟨y16, hy16, hF⟩ := hF
  replace hF := chkO hF; obtain ⟨hc18, hF⟩ := hF
  refine Run.drawReg EOK mixed 19 [0, 1, 2, 3, 4, 5, 6, 7, 8, 9, 10, 11, 12, 13, 14, 15, 16, 17, 18] rfl (by kernel_rfl) fun K hK => ?_
  have q := And.intro q h12
  refine Pq rfl (by simp [q]; rfl) ?_
  refine Pc rfl rfl rfl rfl (by first | (simp [q]; rfl) | (simp [q]; done)) (by simp [q]; done) (term_wide_ok hy13) ?_; rintro _ rfl; simp
  refine Pq rfl (by simp [q]; rfl) ?_
  obtain ⟨g14, e14⟩ : ∃ g, g = y13 := ⟨_, rfl⟩
  iterate 2 refine Pg rfl rfl (b := g14) (by simp [q, e14]) (fun hg => by simp [q, hg]; rfl) ?_
  refine Pg rfl rfl (b := g14) (by simp [q, e14]) (fun hg => evP_of (evF_ix (tg := .none) (rw := TTerm.row) (xs := t_0.sub) (k := .i64) (n := 1) (by simp; rfl) rfl (by simp; rfl) (by simp [q, hg]) (by simp [q, hg]) (hc15 (e14.symm.trans hg)).1 (hc15 (e14.symm.trans hg)).2 (by simp))) ?_
  iterate 2 refine Pg rfl rfl (b := g14) (by simp [q, e14]) (fun hg => by simp [q, hg]; rfl) ?_
  refine Pgc rfl rfl rfl (b := g14) (by simp [q, e14]) rfl rfl (fun hg => by simp [q, hg]; rfl) (fun hg => by simp [q, hg]; done) (fun hg => term_wide_ok ((itet (e14.symm.trans hg)).symm.trans hy16)) ?_
  simp
  refine Pand rfl (t := y13) (β := y16) (by simp [q]) rfl (fun hh => by have h0 := e14.trans hh; simp [q, h0]) (by first | (simp; done) | (simp; rfl)) ?_
  refine Pq rfl (by simp [q]; rfl) ?_
  obtain ⟨g17, e17⟩ : ∃ g, g = (y13 && y16) := ⟨_, rfl⟩
  iterate 3 refine Pg rfl rfl (b := g17) (by simp [q, e17]) (fun hg => by simp [q, hg]; rfl) ?_
  refine Pg rfl rfl (b := g17) (by simp [q, e17]) (fun hg => evP_of (evF_ix (tg := .none) (rw := TTerm.row) (xs := t_0.sub) (k := .i64) (n := 1) (by simp; rfl) rfl (by simp; rfl) (by simp [q, hg]) (by simp [q, hg]) (hc18 (e17.symm.trans hg)).1 (hc18 (e17.symm.trans hg)).2 (by simp))) ?_
  iterate 4 refine Pg rfl rfl (b := g17) (by simp [q, e17]) (fun hg => by simp [q, hg]; rfl) ?_
  refine Pd ?_
  refine Wg rfl (b := g17) (by simp [q, e17]) (fun hg => by simp [q, hg]; rfl) ?_
  refine Wand (t := (y13 && y16)) (β := (decide ((IntKind.i64.wrap (((nth t_0.sub 0).width) + ((nth t_0.sub 1).width))) = t_0.width))) (by simp [q]) rfl (fun hh => by have h0 := e17.trans hh; simp [q, h0]) (by first | (simp; done) | (simp; rfl)) ?_
  refine wq ?_
  refine hK _ _ ?_; clear hK K
  refine Run.ret ?_
  obtain rfl := Option.some.inj hF
  simp [tupA, hb5, hq5, h2, h4, h7, h12]
 rw [itef h12] at hF; try simp at h12
 refine rg fun K hK => ?_
 have q := And.intro q h12
 iterate 2 refine wq ?_
 refine hK _ _ ?_; clear hK K
 refine Run.testEnd (b := (decide (how_1 = 5))) (by simp [q]) (fun h19 => ?_) (fun h19 => ?_)
 ·
  rw [itet h19] at hF; try simp at h19
  replace hF := bindO hF; obtain ⟨y21, hy21, hF⟩ := hF
  refine rg fun K hK => ?_
  have q := And.intro q h19
  iterate 4 refine wq ?_
  obtain ⟨g20, e20⟩ : ∃ g, g = (decide (0 ≤ t_0.low)) := ⟨_, rfl⟩
  refine Wg rfl (b := g20) (by simp [q, e20]) (fun hg => by simp [q, hg]; rfl) ?_
  refine Wgc rfl rfl (b := g20) (by simp [q, e20]) rfl rfl (fun hg => by simp [q, hg]; rfl) (fun hg => by simp [q, hg]; done) (fun hg => term_wide_ok ((itet (e20.symm.trans hg)).symm.trans hy21)) ?_
  simp
  refine Wand (t := (decide (0 ≤ t_0.low))) (β := y21) (by simp [q]) rfl (fun hh => by have h0 := e20.trans hh; simp [q, h0]) (by first | (simp; done) | (simp; rfl)) ?_
  refine wq ?_
  obtain ⟨g22, e22⟩ : ∃ g, g = ((decide (0 ≤ t_0.low)) && y21) := ⟨_, rfl⟩
  iterate 3 refine Wg rfl (b := g22) (by simp [q, e22]) (fun hg => by simp [q, hg]; rfl) ?_
  refine Wand (t := ((decide (0 ≤ t_0.low)) && y21)) (β := (decide (t_0.width ≤ ((nth t_0.sub 0).width)))) (by simp [q]) rfl (fun hh => by have h0 := e22.trans hh; simp [q, h0]) (by first | (simp; done) | (simp; rfl)) ?_
  refine wq ?_
  obtain ⟨g23, e23⟩ : ∃ g, g = (((decide (0 ≤ t_0.low)) && y21) && (decide (t_0.width ≤ ((nth t_0.sub 0).width)))) := ⟨_, rfl⟩
  iterate 6 refine Wg rfl (b := g23) (by simp [q, e23]) (fun hg => by simp [q, hg]; rfl) ?_
  refine Wand (t := (((decide (0 ≤ t_0.low)) && y21) && (decide (t_0.width ≤ ((nth t_0.sub 0).width))))) (β := (decide (t_0.low ≤ (IntKind.i64.wrap (((nth t_0.sub 0).width) - t_0.width))))) (by simp [q]) rfl (fun hh => by have h0 := e23.trans hh; simp [q, h0]) (by first | (simp; done) | (simp; rfl)) ?_
  refine wq ?_
  refine hK _ _ ?_; clear hK K
  refine Run.ret ?_
  obtain rfl := Option.some.inj hF
  simp [tupA, hb5, hq5, h2, h4, h7, h12, h19]
 rw [itef h19] at hF; try simp at h19
 refine rg fun K hK => ?_
 have q := And.intro q h19
 iterate 2 refine wq ?_
 refine hK _ _ ?_; clear hK K
 refine Run.testEnd (b := (decide (how_1 = 6))) (by simp [q]) (fun h24 => ?_) (fun h24 => ?_)
 ·
  rw [itet h24] at hF; try simp at h24
  refine rg fun K hK => ?_
  have q := And.intro q h24
  iterate 4 refine wq ?_
  refine hK _ _ ?_; clear hK K
  refine Run.ret ?_
  obtain rfl := Option.some.inj hF
  simp [tupA, hb5, hq5, h2, h4, h7, h12, h19, h24]
 rw [itef h24] at hF; try simp at h24
 refine Run.skip ?_
 show Run _ _ _ _ _ _
 replace hF := bindO hF; obtain ⟨y25, hy25, hF⟩ := hF
 refine rg fun K hK => ?_
 have q := And.intro q h24
 refine wq ?_
 refine wcq (term_loadable_ok hy25) ?_; rintro _ rfl; simp
 refine wq ?_
 refine hK _ _ ?_; clear hK K
 refine Run.ret ?_
 obtain rfl := Option.some.inj hF
 simp [tupA, hb5, hq5, h2, h4, h7, h12, h19, h24]

/-! term_node -/

def term_node [Fx] (t_0 : TTerm) : Option Bool :=
 ((term_wide t_0.width).bind fun y1 =>
 (if (!y1) then
 some false
 else
 ((term_shaped t_0.kind).bind fun y3 =>
 (if (!y3.2) then
 ((if (((decide ((t_0.sub.length : Int) = 0)) && (decide (t_0.low = 0))) && ((decide (t_0.kind = 1)) && (decide (t_0.name = [])))) then bits_Ok t_0.width t_0.bits else some default).bind fun y9 =>
 ((if ((((decide ((t_0.sub.length : Int) = 0)) && (decide (t_0.low = 0))) && (!(((decide (t_0.kind = 1)) && (decide (t_0.name = []))) && y9))) && ((decide (t_0.kind = 2)) && (decide (t_0.bits = 0)))) then term_variable t_0.name else some default).bind fun y13 =>
 some (((decide ((t_0.sub.length : Int) = 0)) && (decide (t_0.low = 0))) && ((((decide (t_0.kind = 1)) && (decide (t_0.name = []))) && y9) || (((decide (t_0.kind = 2)) && (decide (t_0.bits = 0))) && y13)))))
 else
 ((if ((((decide (t_0.bits = 0)) && (decide (t_0.name = []))) && ((decide (t_0.low = 0)) || (decide (y3.1.how = 5)))) && (decide ((t_0.sub.length : Int) = y3.1.parts))) then term_widths t_0 y3.1.how else some default).bind fun y19 =>
 some (((((decide (t_0.bits = 0)) && (decide (t_0.name = []))) && ((decide (t_0.low = 0)) || (decide (y3.1.how = 5)))) && (decide ((t_0.sub.length : Int) = y3.1.parts))) && y19))))))
theorem term_node_ok [Fx] {t_0 : TTerm} {r : Bool} (hF : term_node t_0 = some r) : PCall Tryd.prog EE 39 [.agg t_0.row] fun v => v = .bool r := by
 refine PCall.of_fun EOK (F := Tryd.f39) 92 [.tmp 2] (by kernel_rfl) rfl rfl rfl rfl (Nat.le_of_ble_eq_true rfl) (by simp) ?_
 simp only [slotsA]
 unfold term_node at hF
 refine rg fun K hK => ?_
 refine We rfl ?_; simp
 intro b1 _
 refine Wq (by simp; rfl) ?_
 refine hK _ _ ?_; clear hK K
 refine Run.seq ?_
 replace hF := bindO hF; obtain ⟨y1, hy1, hF⟩ := hF
 refine rg fun K hK => ?_
 iterate 2 refine Wq (by simp; rfl) ?_
 refine Wc rfl rfl rfl (by first | (simp; rfl) | (simp; done)) (by simp; done) (term_wide_ok hy1) ?_; rintro _ rfl; simp
 refine Wq (by simp; rfl) ?_
 refine hK _ _ ?_; clear hK K
 refine Run.testEnd (b := (!y1)) (by simp) (fun h2 => ?_) (fun h2 => ?_)
 ·
  rw [itet h2] at hF; try simp at h2
  refine rg fun K hK => ?_
  have q := h2
  refine wq ?_
  refine hK _ _ ?_; clear hK K
  refine Run.ret ?_
  obtain rfl := Option.some.inj hF
  simp [tupA, h2]
 rw [itef h2] at hF; try simp at h2
 refine Run.skip ?_
 show Run _ _ _ _ _ _
 replace hF := bindO hF; obtain ⟨y3, hy3, hF⟩ := hF
 refine rg fun K hK => ?_
 have q := h2
 iterate 2 refine wq ?_
 refine wcq (term_shaped_ok hy3) ?_; rintro _ rfl; simp
 iterate 3 refine wq ?_
 refine We rfl ?_; simp [q]
 intro b3 hb3; simp [Fresh] at hb3; have hq3 : ¬b1 = b3 := by omega
 have q := And.intro (And.intro q hb3) hq3
 refine We rfl ?_; simp [q]
 refine wq ?_
 refine hK _ _ ?_; clear hK K
 refine Run.seq ?_
 refine rg fun K hK => ?_
 iterate 2 refine wq ?_
 refine hK _ _ ?_; clear hK K
 refine Run.testEnd (b := (!y3.2)) (by simp [q]) (fun h4 => ?_) (fun h4 => ?_)
 ·
  rw [itet h4] at hF; try simp at h4
  refine rg fun K hK => ?_
  have q := And.intro q h4
  iterate 5 refine wq ?_
  obtain ⟨g5, e5⟩ : ∃ g, g = (decide ((t_0.sub.length : Int) = 0)) := ⟨_, rfl⟩
  iterate 3 refine Wg rfl (b := g5) (by simp [q, e5]) (fun hg => by simp [q, hg]; rfl) ?_
  refine Wand (t := (decide ((t_0.sub.length : Int) = 0))) (β := (decide (t_0.low = 0))) (by simp [q]) rfl (fun hh => by have h0 := e5.trans hh; simp [q, h0]) (by first | (simp; done) | (simp; rfl)) ?_
  refine wq ?_
  refine hK _ _ ?_; clear hK K
  replace hF := bindO hF; obtain ⟨y9, hy9, hF⟩ := hF
  replace hF := bindO hF; obtain ⟨y13, hy13, hF⟩ := hF
  refine rg fun K hK => ?_
  iterate 2 refine wq ?_
  obtain ⟨g6, e6⟩ : ∃ g, g = ((decide ((t_0.sub.length : Int) = 0)) && (decide (t_0.low = 0))) := ⟨_, rfl⟩
  iterate 4 refine Wg rfl (b := g6) (by simp [q, e6]) (fun hg => by simp [q, hg]; rfl) ?_
  obtain ⟨g7, e7⟩ : ∃ g, g = (((decide ((t_0.sub.length : Int) = 0)) && (decide (t_0.low = 0))) && (decide (t_0.kind = 1))) := ⟨_, rfl⟩
  have w7_6 : g7 = true → g6 = true := fun h => e6.trans (and1 (e7.symm.trans h))
  iterate 3 refine Wg rfl (b := g7) (by simp [q, e7, e6]) (fun hg => by simp [q, hg, w7_6 hg]; rfl) ?_
  refine Wgand rfl (b := g6) (t := (decide (t_0.kind = 1))) (β := (decide (t_0.name = []))) (by simp [q, e6]) (fun hg => by simp [q, hg]; done) rfl (fun hg hh => by have h0 := e7.trans (andI (e6.symm.trans hg) hh); simp [q, h0]) (by first | (simp; done) | (simp; rfl)) ?_
  refine Wg rfl (b := g6) (by simp [q, e6]) (fun hg => by simp [q, hg]; rfl) ?_
  obtain ⟨g8, e8⟩ : ∃ g, g = (((decide ((t_0.sub.length : Int) = 0)) && (decide (t_0.low = 0))) && ((decide (t_0.kind = 1)) && (decide (t_0.name = [])))) := ⟨_, rfl⟩
  have w8_6 : g8 = true → g6 = true := fun h => e6.trans (and1 (e8.symm.trans h))
  iterate 4 refine Wg rfl (b := g8) (by simp [q, e8, e6]) (fun hg => by simp [q, hg, w8_6 hg]; rfl) ?_
  refine Wgc rfl rfl (b := g8) (by simp [q, e8, e6]) rfl rfl (fun hg => by simp [q, hg, w8_6 hg]; rfl) (fun hg => by simp [q, hg, w8_6 hg]; done) (fun hg => bits_Ok_ok ((itet (e8.symm.trans hg)).symm.trans hy9)) ?_
  simp
  refine Wgand rfl (b := g6) (t := ((decide (t_0.kind = 1)) && (decide (t_0.name = [])))) (β := y9) (by simp [q, e6]) (fun hg => by simp [q, hg]; done) rfl (fun hg hh => by have h0 := e8.trans (andI (e6.symm.trans hg) hh); simp [q, h0]) (by first | (simp; done) | (simp; rfl)) ?_
  refine Wg rfl (b := g6) (by simp [q, e6]) (fun hg => by simp [q, hg]; rfl) ?_
  obtain ⟨g10, e10⟩ : ∃ g, g = (((decide ((t_0.sub.length : Int) = 0)) && (decide (t_0.low = 0))) && (!(((decide (t_0.kind = 1)) && (decide (t_0.name = []))) && y9))) := ⟨_, rfl⟩
  have w10_6 : g10 = true → g6 = true := fun h => e6.trans (and1 (e10.symm.trans h))
  iterate 4 refine Wg rfl (b := g10) (by simp [q, e10, e6]) (fun hg => by simp [q, hg, w10_6 hg]; rfl) ?_
  obtain ⟨g11, e11⟩ : ∃ g, g = ((((decide ((t_0.sub.length : Int) = 0)) && (decide (t_0.low = 0))) && (!(((decide (t_0.kind = 1)) && (decide (t_0.name = []))) && y9))) && (decide (t_0.kind = 2))) := ⟨_, rfl⟩
  have w11_10 : g11 = true → g10 = true := fun h => e10.trans (and1 (e11.symm.trans h))
  iterate 3 refine Wg rfl (b := g11) (by simp [q, e11, e10]) (fun hg => by simp [q, hg, w11_10 hg]; rfl) ?_
  refine Wgand rfl (b := g10) (t := (decide (t_0.kind = 2))) (β := (decide (t_0.bits = 0))) (by simp [q, e10, e6]) (fun hg => by simp [q, hg, w10_6 hg]; done) rfl (fun hg hh => by have h0 := e11.trans (andI (e10.symm.trans hg) hh); simp [q, h0]) (by first | (simp; done) | (simp; rfl)) ?_
  refine Wg rfl (b := g10) (by simp [q, e10, e6]) (fun hg => by simp [q, hg, w10_6 hg]; rfl) ?_
  obtain ⟨g12, e12⟩ : ∃ g, g = ((((decide ((t_0.sub.length : Int) = 0)) && (decide (t_0.low = 0))) && (!(((decide (t_0.kind = 1)) && (decide (t_0.name = []))) && y9))) && ((decide (t_0.kind = 2)) && (decide (t_0.bits = 0)))) := ⟨_, rfl⟩
  have w12_10 : g12 = true → g10 = true := fun h => e10.trans (and1 (e12.symm.trans h))
  iterate 2 refine Wg rfl (b := g12) (by simp [q, e12, e10]) (fun hg => by simp [q, hg, w12_10 hg]; rfl) ?_
  refine Wgc rfl rfl (b := g12) (by simp [q, e12, e10]) rfl rfl (fun hg => by simp [q, hg, w12_10 hg]; rfl) (fun hg => by simp [q, hg, w12_10 hg]; done) (fun hg => term_variable_ok ((itet (e12.symm.trans hg)).symm.trans hy13)) ?_
  simp
  refine Wgand rfl (b := g10) (t := ((decide (t_0.kind = 2)) && (decide (t_0.bits = 0)))) (β := y13) (by simp [q, e10, e6]) (fun hg => by simp [q, hg, w10_6 hg]; done) rfl (fun hg hh => by have h0 := e12.trans (andI (e10.symm.trans hg) hh); simp [q, h0]) (by first | (simp; done) | (simp; rfl)) ?_
  refine Wgor rfl (b := g6) (t := (((decide (t_0.kind = 1)) && (decide (t_0.name = []))) && y9)) (β := (((decide (t_0.kind = 2)) && (decide (t_0.bits = 0))) && y13)) (by simp [q, e6]) (fun hg => by simp [q, hg]; done) rfl (fun hg hh => by have h0 := e10.trans (andI (e6.symm.trans hg) (notf hh)); simp [q, h0]) (by first | (simp; done) | (simp; rfl)) ?_
  refine Wand (t := ((decide ((t_0.sub.length : Int) = 0)) && (decide (t_0.low = 0)))) (β := ((((decide (t_0.kind = 1)) && (decide (t_0.name = []))) && y9) || (((decide (t_0.kind = 2)) && (decide (t_0.bits = 0))) && y13))) (by simp [q]) rfl (fun hh => by have h0 := e6.trans hh; simp [q, h0]) (by first | (simp; done) | (simp; rfl)) ?_
  refine wq ?_
  refine hK _ _ ?_; clear hK K
  refine Run.ret ?_
  obtain rfl := Option.some.inj hF
  simp [tupA, h2, hb3, hq3, h4]
 rw [itef h4] at hF; try simp at h4
 refine Run.skip ?_
 show Run _ _ _ _ _ _
 replace hF := bindO hF; obtain ⟨y19, hy19, hF⟩ := hF
 refine rg fun K hK => ?_
 have q := And.intro q h4
 iterate 4 refine wq ?_
 obtain ⟨g14, e14⟩ : ∃ g, g = (decide (t_0.bits = 0)) := ⟨_, rfl⟩
 iterate 3 refine Wg rfl (b := g14) (by simp [q, e14]) (fun hg => by simp [q, hg]; rfl) ?_
 refine Wand (t := (decide (t_0.bits = 0))) (β := (decide (t_0.name = []))) (by simp [q]) rfl (fun hh => by have h0 := e14.trans hh; simp [q, h0]) (by first | (simp; done) | (simp; rfl)) ?_
 refine wq ?_
 obtain ⟨g15, e15⟩ : ∃ g, g = ((decide (t_0.bits = 0)) && (decide (t_0.name = []))) := ⟨_, rfl⟩
 iterate 4 refine Wg rfl (b := g15) (by simp [q, e15]) (fun hg => by simp [q, hg]; rfl) ?_
 obtain ⟨g16, e16⟩ : ∃ g, g = (((decide (t_0.bits = 0)) && (decide (t_0.name = []))) && (!(decide (t_0.low = 0)))) := ⟨_, rfl⟩
 have w16_15 : g16 = true → g15 = true := fun h => e15.trans (and1 (e16.symm.trans h))
 iterate 3 refine Wg rfl (b := g16) (by simp [q, e16, e15]) (fun hg => by simp [q, hg, w16_15 hg]; rfl) ?_
 refine Wgor rfl (b := g15) (t := (decide (t_0.low = 0))) (β := (decide (y3.1.how = 5))) (by simp [q, e15]) (fun hg => by simp [q, hg]; done) rfl (fun hg hh => by have h0 := e16.trans (andI (e15.symm.trans hg) (notf hh)); simp [q, h0]) (by first | (simp; done) | (simp; rfl)) ?_
 refine Wand (t := ((decide (t_0.bits = 0)) && (decide (t_0.name = [])))) (β := ((decide (t_0.low = 0)) || (decide (y3.1.how = 5)))) (by simp [q]) rfl (fun hh => by have h0 := e15.trans hh; simp [q, h0]) (by first | (simp; done) | (simp; rfl)) ?_
 refine wq ?_
 obtain ⟨g17, e17⟩ : ∃ g, g = (((decide (t_0.bits = 0)) && (decide (t_0.name = []))) && ((decide (t_0.low = 0)) || (decide (y3.1.how = 5)))) := ⟨_, rfl⟩
 iterate 6 refine Wg rfl (b := g17) (by simp [q, e17]) (fun hg => by simp [q, hg]; rfl) ?_
 refine Wand (t := (((decide (t_0.bits = 0)) && (decide (t_0.name = []))) && ((decide (t_0.low = 0)) || (decide (y3.1.how = 5))))) (β := (decide ((t_0.sub.length : Int) = y3.1.parts))) (by simp [q]) rfl (fun hh => by have h0 := e17.trans hh; simp [q, h0]) (by first | (simp; done) | (simp; rfl)) ?_
 refine wq ?_
 obtain ⟨g18, e18⟩ : ∃ g, g = ((((decide (t_0.bits = 0)) && (decide (t_0.name = []))) && ((decide (t_0.low = 0)) || (decide (y3.1.how = 5)))) && (decide ((t_0.sub.length : Int) = y3.1.parts))) := ⟨_, rfl⟩
 iterate 3 refine Wg rfl (b := g18) (by simp [q, e18]) (fun hg => by simp [q, hg]; rfl) ?_
 refine Wgc rfl rfl (b := g18) (by simp [q, e18]) rfl rfl (fun hg => by simp [q, hg]; rfl) (fun hg => by simp [q, hg]; done) (fun hg => term_widths_ok ((itet (e18.symm.trans hg)).symm.trans hy19)) ?_
 simp
 refine Wand (t := ((((decide (t_0.bits = 0)) && (decide (t_0.name = []))) && ((decide (t_0.low = 0)) || (decide (y3.1.how = 5)))) && (decide ((t_0.sub.length : Int) = y3.1.parts)))) (β := y19) (by simp [q]) rfl (fun hh => by have h0 := e18.trans hh; simp [q, h0]) (by first | (simp; done) | (simp; rfl)) ?_
 refine wq ?_
 refine hK _ _ ?_; clear hK K
 refine Run.ret ?_
 obtain rfl := Option.some.inj hF
 simp [tupA, h2, hb3, hq3, h4]

/-! term_variables -/
def term_variables.r0 : ((List (List UInt8 × Int))) → TTerm → Option (((List (List UInt8 × Int))) ⊕ (Bool × (List (List UInt8 × Int)))) := fun v x_x1 =>
 match v with
 | v_x3 =>
 (if (!decide (x_x1.kind = 2)) then
 some (.inl v_x3)
 else
 (if (((aget v_x3 x_x1.name).isSome) && (!decide (((aget v_x3 x_x1.name).getD 0) = x_x1.width))) then
 some (.inr (false, v_x3))
 else
 some (.inl (aput v_x3 x_x1.name x_x1.width))))
def term_variables (t_0 : TTerm) : Option Bool :=
 (if t_0.nodes.length < 4611686018427387904 then
 ((forL (term_variables.r0 ) [] t_0.nodes).bind fun y => match y with
 | .inl v_x3 =>
 some true
 | .inr (v_x5, v_x6) =>
 some v_x5)
 else none)
theorem term_variables_ok {t_0 : TTerm} {r : Bool} (hF : term_variables t_0 = some r) : PCall Tryd.prog EE 40 [.agg t_0.row] fun v => ∃ x_0, v = .tup [x_0, .bool r] := by
 refine PCall.of_fun EOK (F := Tryd.f40) 35 [.cell 2 91, .cell 3 4] (by kernel_rfl) rfl rfl rfl rfl (Nat.le_of_ble_eq_true rfl) (by simp) ?_
 simp only [slotsA]
 unfold term_variables at hF
 refine rg fun K hK => ?_
 refine We rfl ?_; simp
 intro b1 _
 refine We rfl ?_; simp
 intro b2 hb2; simp [Fresh] at hb2; have hq2 : ¬b1 = b2 := by omega
 have q := And.intro hb2 hq2
 refine We rfl ?_; simp [q]
 intro b3 hb3; simp [Fresh] at hb3; have hq3 : ¬b2 = b3 ∧ ¬b1 = b3 := by omega
 refine hK _ _ ?_; clear hK K
 refine rg fun K hK => ?_
 have q := And.intro (And.intro q hb3) hq3
 refine We rfl ?_; simp [q]
 intro b8 hb8; simp [Fresh] at hb8; have hq8 : ¬b3 = b8 ∧ ¬b2 = b8 ∧ ¬b1 = b8 := by omega
 have q := And.intro (And.intro q hb8) hq8
 refine We rfl ?_; simp [q]
 intro b4 hb4; simp [Fresh] at hb4; have hq4 : ¬b3 = b4 ∧ ¬b2 = b4 ∧ ¬b1 = b4 ∧ ¬b8 = b4 := by omega
 have q := And.intro (And.intro q hb4) hq4
 refine We rfl ?_; simp [q]
 refine hK _ _ ?_; clear hK K
 refine Run.seq ?_
 refine rg fun K hK => ?_
 refine wq ?_
 refine wcq (nodes_ok t_0) ?_; rintro _ rfl; simp
 refine hK _ _ ?_; clear hK K
 refine Run.block ?_
 replace hF := chkO hF; obtain ⟨hc2, hF⟩ := hF
 replace hF := bindO hF; obtain ⟨y11, hy11, hF⟩ := hF
 refine Run.restrict [2, 3, 4, 10] [] [b4, b3, b2] [b8] (by simp [q]) (by simp) (by simp) ?_
 refine Run.cast (f' := ⟨35, [(2, .ptr b2 0), (3, .ptr b3 0), (4, .ptr b4 0), (10, .func 62 [.cptr t_0.row])], [], []⟩) (σ' := ⟨[(b4, [.map b8]), (b3, [.bool false]), (b2, [.nilm])], [(b8, .mp ([].map (mS (AV.int .i64))))]⟩) (by simp [q, Fm.rst, nn, nn1]) (by simp [q, St.only, nn1]) ?_
 refine Run.forLE (enc := TTerm.agg) EOK rfl (nodes_iter _ hc2) hy11 (by simp) (by simp) (by intro x; simp) [b4, b3, b2] [b8] (by simp [q]) (by simp) (fun v_x3 => ⟨[(b4, [.map b8]), (b3, [.bool false]), (b2, [.nilm])], [(b8, .mp (v_x3.map (mS (AV.int .i64))))]⟩) (fun v => match v with | (v_x5, v_x6) => ⟨[(b4, [.map b8]), (b3, [.bool v_x5]), (b2, [.nilm])], [(b8, .mp (v_x6.map (mS (AV.int .i64))))]⟩) (by simp) ?_ ?_ ?_
 ·
  clear hF
  rintro l v_x3 x_x1 zz _ rfl hF hR
  simp only [term_variables.r0] at hF
  refine Run.cast (f' := ⟨35, [(11, .agg x_x1.row), (2, .ptr b2 0), (3, .ptr b3 0), (4, .ptr b4 0), (10, .func 62 [.cptr t_0.row])], [], []⟩) (σ' := ⟨[(b4, [.map b8]), (b3, [.bool false]), (b2, [.nilm])], [(b8, .mp (v_x3.map (mS (AV.int .i64))))]⟩) (by simp) (by simp) ?_
  refine Run.regEnd (EOK.inRd _) rfl fun K hK => ?_
  refine We rfl ?_; simp [q]
  intro b5 hb5; simp [Fresh] at hb5; have hq5 : ¬b4 = b5 ∧ ¬b3 = b5 ∧ ¬b2 = b5 ∧ ¬b8 = b5 := by omega
  have q := And.intro (And.intro q hb5) hq5
  refine We rfl ?_; simp [q]
  refine hK _ _ ?_; clear hK K
  show Run _ _ _ _ _ _
  refine Run.block ?_
  refine Run.seq ?_
  refine Run.reg (EOK.inRd _) rfl fun K hK => ?_
  iterate 3 refine wq ?_
  refine hK _ _ ?_; clear hK K
  refine Run.testEnd (b := (!decide (x_x1.kind = 2))) (by simp [q]) (fun h7 => ?_) (fun h7 => ?_)
  ·
   rw [itet h7] at hF; try simp at h7
   refine Run.exit ?_
   have q := And.intro q h7
   exact ⟨v_x3, (Option.some.inj hF).symm, by simp [q, St.only, nn1]⟩
  rw [itef h7] at hF; try simp at h7
  refine Run.skip ?_
  show Run _ _ _ _ _ _
  refine Run.seq ?_
  refine Run.reg (EOK.inRd _) rfl fun K hK => ?_
  have q := And.intro q h7
  iterate 3 refine wq ?_
  refine Wq (evF_lkS (g := (AV.int .i64)) (m := v_x3) (k := x_x1.name) (b := b8) (z := 0) (by simp; rfl) rfl (by simp; rfl) rfl (by simp; rfl) (by simp) (by simp) (by simp) (by simp [q]) (by simp [q]) (by simp [q])) ?_
  iterate 5 refine wq ?_
  refine hK _ _ ?_; clear hK K
  refine Run.reg (EOK.inRd _) rfl fun K hK => ?_
  iterate 2 refine wq ?_
  obtain ⟨g8, e8⟩ : ∃ g, g = ((aget v_x3 x_x1.name).isSome) := ⟨_, rfl⟩
  iterate 4 refine Wg rfl (b := g8) (by simp [q, e8]) (fun hg => by simp [q, hg]; rfl) ?_
  refine Wand (t := (aget v_x3 x_x1.name).isSome) (β := (!decide (((aget v_x3 x_x1.name).getD 0) = x_x1.width))) (by simp [q]) rfl (fun hh => by have h0 := e8.trans hh; simp [q, h0]) (by first | (simp; done) | (simp; rfl)) ?_
  refine hK _ _ ?_; clear hK K
  refine Run.testEnd (b := (((aget v_x3 x_x1.name).isSome) && (!decide (((aget v_x3 x_x1.name).getD 0) = x_x1.width)))) (by simp [q]) (fun h9 => ?_) (fun h9 => ?_)
  ·
   rw [itet h9] at hF; try simp at h9
   refine Run.reg (EOK.inRd _) rfl fun K hK => ?_
   have q := And.intro q h9
   iterate 2 refine We rfl ?_; simp [q]
   refine hK _ _ ?_; clear hK K
   refine Run.ret ?_
   exact ⟨rfl, (false, v_x3), hR _ (Option.some.inj hF).symm, by simp [q, St.only, nn1]⟩
  rw [itef h9] at hF; try simp at h9
  refine Run.skip ?_
  show Run _ _ _ _ _ _
  refine Run.regEnd (EOK.inRd _) rfl fun K hK => ?_
  have q := And.intro q h9
  iterate 5 refine wq ?_
  have hp10 := putA_S (AV.int .i64) x_x1.name x_x1.width v_x3
  have hp10b := hp10; refine We rfl ?_; first | (simp at hp10b; simp [q, hp10, hp10b]) | simp [q, hp10]
  refine hK _ _ ?_; clear hK K
  exact ⟨(aput v_x3 x_x1.name x_x1.width), (Option.some.inj hF).symm, by simp [q, St.only, nn1]⟩
 ·
  rintro D11 v_x3 rfl
  simp only at hF
  show Run _ _ _ _ _ _
  refine rg fun K hK => ?_
  refine wq ?_
  iterate 2 refine We rfl ?_; simp [q]
  refine hK _ _ ?_; clear hK K
  refine Run.ret ?_
  obtain rfl := Option.some.inj hF
  simp [tupA, hb2, hq2, hb3, hq3, hb8, hq8, hb4, hq4]
 rintro D11 ⟨v_x5, v_x6⟩ rfl
 simp only at hF
 obtain rfl := Option.some.inj hF
 simp [tupA, hb2, hq2, hb3, hq3, hb8, hq8, hb4, hq4]

/-! term_Check -/
def term_Check.r0 [Fx] (t_0 : TTerm) : Unit → TTerm → Option (Unit ⊕ (Int × TTerm)) := fun v x_x5 =>
 match v with
 | () =>
 ((term_node x_x5).bind fun y9 =>
 (if (!y9) then
 some (.inr (8, t_0))
 else
 some (.inl ())))
def term_Check [Fx] (t_0 : TTerm) : Option Int :=
 ((term_Size t_0).bind fun y1 =>
 ((if (!(decide (400 < y1))) then term_Depth t_0 else some default).bind fun y3 =>
 (if ((decide (400 < y1)) || (decide (60 < y3))) then
 some 4
 else
 (if t_0.nodes.length < 4611686018427387904 then
 ((forL (term_Check.r0 t_0) () t_0.nodes).bind fun y => match y with
 | .inl _ =>
 ((term_variables t_0).bind fun y11 =>
 (if (!y11) then
 some 14
 else
 some 0))
 | .inr (v_x7, v_x8) =>
 some v_x7)
 else none))))
theorem term_Check_ok [Fx] {t_0 : TTerm} {r : Int} (hF : term_Check t_0 = some r) : PCall Tryd.prog EE 10 [.agg t_0.row] fun v => v = .int .i64 r := by
 refine PCall.of_fun EOK (F := Tryd.f10) 27 [.cell 2 31] (by kernel_rfl) rfl rfl rfl rfl (Nat.le_of_ble_eq_true rfl) (by simp) ?_
 simp only [slotsA]
 unfold term_Check at hF
 refine rg fun K hK => ?_
 refine We rfl ?_; simp
 intro b1 _
 refine We rfl ?_; simp
 intro b2 hb2; simp [Fresh] at hb2; have hq2 : ¬b1 = b2 := by omega
 refine hK _ _ ?_; clear hK K
 refine Run.seq ?_
 replace hF := bindO hF; obtain ⟨y1, hy1, hF⟩ := hF
 replace hF := bindO hF; obtain ⟨y3, hy3, hF⟩ := hF
 refine rg fun K hK => ?_
 have q := And.intro hb2 hq2
 refine wq ?_
 refine wcq (term_Size_ok hy1) ?_; rintro _ rfl; simp
 iterate 2 refine wq ?_
 obtain ⟨g2, e2⟩ : ∃ g, g = (!(decide (400 < y1))) := ⟨_, rfl⟩
 refine Wg rfl (b := g2) (by simp [q, e2]) (fun hg => by simp [q, hg]; rfl) ?_
 refine Wgc rfl rfl (b := g2) (by simp [q, e2]) rfl rfl (fun hg => by simp [q, hg]; rfl) (fun hg => by simp [q, hg]; done) (fun hg => term_Depth_ok ((itet (e2.symm.trans hg)).symm.trans hy3)) ?_
 simp
 refine Wg rfl (b := g2) (by simp [q, e2]) (fun hg => by simp [q, hg]; rfl) ?_
 refine Wor (t := (decide (400 < y1))) (β := (decide (60 < y3))) (by simp [q]) rfl (fun hh => by have h0 := e2.trans (notf hh); simp [q, h0]) (by first | (simp; done) | (simp; rfl)) ?_
 refine hK _ _ ?_; clear hK K
 refine Run.testEnd (b := ((decide (400 < y1)) || (decide (60 < y3)))) (by simp [q]) (fun h4 => ?_) (fun h4 => ?_)
 ·
  rw [itet h4] at hF; try simp at h4
  refine rg fun K hK => ?_
  have q := And.intro q h4
  refine We rfl ?_; simp [q]
  refine hK _ _ ?_; clear hK K
  refine Run.ret ?_
  obtain rfl := Option.some.inj hF
  simp [tupA, hb2, hq2, h4]
 rw [itef h4] at hF; try simp at h4
 refine Run.skip ?_
 show Run _ _ _ _ _ _
 refine Run.seq ?_
 refine rg fun K hK => ?_
 have q := And.intro q h4
 refine wq ?_
 refine wcq (nodes_ok t_0) ?_; rintro _ rfl; simp
 refine hK _ _ ?_; clear hK K
 refine Run.block ?_
 replace hF := chkO hF; obtain ⟨hc6, hF⟩ := hF
 replace hF := bindO hF; obtain ⟨y13, hy13, hF⟩ := hF
 refine Run.restrict [1, 2, 15] [] [b2, b1] [] (by simp [q]) (by simp) (by simp) ?_
 refine Run.cast (f' := ⟨27, [(1, .ptr b1 0), (2, .ptr b2 0), (15, .func 62 [.cptr t_0.row])], [], []⟩) (σ' := ⟨[(b2, [.int .i64 0]), (b1, t_0.row)], []⟩) (by simp [q, Fm.rst, nn, nn1]) (by simp [q, St.only, nn1]) ?_
 refine Run.forLE (enc := TTerm.agg) EOK rfl (nodes_iter _ hc6) hy13 (by simp) (by simp) (by intro x; simp) [b2, b1] [] (by simp [q]) (by simp) (fun _ => ⟨[(b2, [.int .i64 0]), (b1, t_0.row)], []⟩) (fun v => match v with | (v_x7, v_x8) => ⟨[(b2, [.int .i64 v_x7]), (b1, v_x8.row)], []⟩) (by simp) ?_ ?_ ?_
 ·
  clear hF
  rintro l _ x_x5 zz _ rfl hF hR
  simp only [term_Check.r0] at hF
  refine Run.cast (f' := ⟨27, [(16, .agg x_x5.row), (1, .ptr b1 0), (2, .ptr b2 0), (15, .func 62 [.cptr t_0.row])], [], []⟩) (σ' := ⟨[(b2, [.int .i64 0]), (b1, t_0.row)], []⟩) (by simp) (by simp) ?_
  refine Run.regEnd (EOK.inRd _) rfl fun K hK => ?_
  have q := And.intro hb2 hq2
  refine We rfl ?_; simp [q]
  intro b3 hb3; simp [Fresh] at hb3; have hq3 : ¬b2 = b3 ∧ ¬b1 = b3 := by omega
  have q := And.intro (And.intro q hb3) hq3
  refine We rfl ?_; simp [q]
  refine hK _ _ ?_; clear hK K
  show Run _ _ _ _ _ _
  refine Run.block ?_
  replace hF := bindO hF; obtain ⟨y9, hy9, hF⟩ := hF
  refine Run.reg (EOK.inRd _) rfl fun K hK => ?_
  refine wq ?_
  refine wcq ((term_node_ok hy9).inRd _) ?_; rintro _ rfl; simp
  refine wq ?_
  refine hK _ _ ?_; clear hK K
  refine Run.testEnd (b := (!y9)) (by simp [q]) (fun h10 => ?_) (fun h10 => ?_)
  ·
   rw [itet h10] at hF; try simp at h10
   refine Run.reg (EOK.inRd _) rfl fun K hK => ?_
   have q := And.intro q h10
   refine We rfl ?_; simp [q]
   refine hK _ _ ?_; clear hK K
   refine Run.ret ?_
   exact ⟨rfl, (8, t_0), hR _ (Option.some.inj hF).symm, by simp [q, St.only, nn1]⟩
  rw [itef h10] at hF; try simp at h10
  refine Run.skip ?_
  have q := And.intro q h10
  exact ⟨(), (Option.some.inj hF).symm, by simp [q, St.only, nn1]⟩
 ·
  rintro D16 _ rfl
  simp only at hF
  show Run _ _ _ _ _ _
  refine Run.seq ?_
  replace hF := bindO hF; obtain ⟨y11, hy11, hF⟩ := hF
  refine rg fun K hK => ?_
  have q := And.intro hb2 hq2
  refine wq ?_
  refine wcq (term_variables_ok hy11) ?_; rintro _ ⟨_, rfl⟩; simp
  iterate 5 refine wq ?_
  refine hK _ _ ?_; clear hK K
  refine rg fun K hK => ?_
  iterate 2 refine wq ?_
  refine hK _ _ ?_; clear hK K
  refine Run.testEnd (b := (!y11)) (by simp [q]) (fun h12 => ?_) (fun h12 => ?_)
  ·
   rw [itet h12] at hF; try simp at h12
   refine rg fun K hK => ?_
   have q := And.intro q h12
   refine We rfl ?_; simp [q]
   refine hK _ _ ?_; clear hK K
   refine Run.ret ?_
   obtain rfl := Option.some.inj hF
   simp [tupA, hb2, hq2, h12]
  rw [itef h12] at hF; try simp at h12
  refine Run.skip ?_
  show Run _ _ _ _ _ _
  refine rg fun K hK => ?_
  have q := And.intro q h12
  refine We rfl ?_; simp [q]
  refine hK _ _ ?_; clear hK K
  refine Run.ret ?_
  obtain rfl := Option.some.inj hF
  simp [tupA, hb2, hq2, h12]
 rintro D16 ⟨v_x7, v_x8⟩ rfl
 simp only at hF
 obtain rfl := Option.some.inj hF
 simp [tupA, hb2, hq2]

/-! machine_checker_leaves -/
def machine_checker_leaves.l0 [Fx] (t_2 : TTerm) (self : TMachineChecker × (List (List UInt8 × Int)) × TTerm → Option (TMachineChecker × (List (List UInt8 × Int)))) : Int × TMachineChecker × (List (List UInt8 × Int)) → Option ((Int × TMachineChecker × (List (List UInt8 × Int))) ⊕ (TMachineChecker × (List (List UInt8 × Int)))) := fun v =>
 match v with
 | (v_x2, v_x3, v_x4) =>
 (if (decide (v_x2 < (t_2.sub.length : Int))) then
 (if (0 : Int) ≤ v_x2 ∧ v_x2 < (t_2.sub.length : Int) then
 ((self (v_x3, v_x4, (nth t_2.sub v_x2))).bind fun y10 =>
 some (.inl ((IntKind.i64.wrap (v_x2 + 1)), y10.1, y10.2)))
 else none)
 else
 (Option.map Sum.inr (some (v_x3, v_x4))))
def machine_checker_leaves.j0 [Fx] (vars_1 : List (List UInt8 × Int)) (t_2 : TTerm) (self : TMachineChecker × (List (List UInt8 × Int)) × TTerm → Option (TMachineChecker × (List (List UInt8 × Int)))) (v_x1 : TMachineChecker) : Option (TMachineChecker × (List (List UInt8 × Int))) :=
 Fx.fx (machine_checker_leaves.l0 t_2 self) (0, v_x1, vars_1)
def machine_checker_leaves.G [Fx] (self : TMachineChecker × (List (List UInt8 × Int)) × TTerm → Option (TMachineChecker × (List (List UInt8 × Int)))) (c_0 : TMachineChecker) (vars_1 : List (List UInt8 × Int)) (t_2 : TTerm) : Option (TMachineChecker × (List (List UInt8 × Int))) :=
 (if (decide (t_2.kind = 2)) then
 ((machine_checker_must c_0 [(decide (((aget vars_1 t_2.name).getD 0) = t_2.width))]).bind fun y13 =>
 machine_checker_leaves.j0 vars_1 t_2 self y13)
 else
 (if (decide (t_2.kind = 24)) then
 (if (0 : Int) ≤ 0 ∧ 0 < (t_2.sub.length : Int) then
 ((machine_checker_must c_0 [(decide (((nth t_2.sub 0).width) = c_0.machine.address))]).bind fun y16 =>
 machine_checker_leaves.j0 vars_1 t_2 self y16)
 else none)
 else
 machine_checker_leaves.j0 vars_1 t_2 self c_0))
def machine_checker_leaves [Fx] (c_0 : TMachineChecker) (vars_1 : List (List UInt8 × Int)) (t_2 : TTerm) : Option (TMachineChecker × (List (List UInt8 × Int))) := itr (fun self a => machine_checker_leaves.G self a.1 a.2.1 a.2.2) (t_2.nodes.length + 1) (c_0, vars_1, t_2)
theorem machine_checker_leaves_step [Fx] {self : TMachineChecker × (List (List UInt8 × Int)) × TTerm → Option (TMachineChecker × (List (List UInt8 × Int)))} (ih : ∀ {a : TMachineChecker × (List (List UInt8 × Int)) × TTerm} {r : TMachineChecker × (List (List UInt8 × Int))}, self a = some r → ∀ b_0 b_1 : Nat, ACall Tryd.prog EE 90 [.ptr b_0 0, .map b_1, .agg a.2.2.row] ⟨[(b_0, a.1.row)], [(b_1, .mp (a.2.1.map (mS (AV.int .i64))))]⟩ fun v σ => v = .tup [] ∧ σ = ⟨[(b_0, r.1.row)], [(b_1, .mp (r.2.map (mS (AV.int .i64))))]⟩) {b_0 : Nat} {b_1 : Nat} {c_0 : TMachineChecker} {vars_1 : List (List UInt8 × Int)} {t_2 : TTerm} {r : TMachineChecker × (List (List UInt8 × Int))} (hF : machine_checker_leaves.G self c_0 vars_1 t_2 = some r) : ACall Tryd.prog EE 90 [.ptr b_0 0, .map b_1, .agg t_2.row] ⟨[(b_0, c_0.row)], [(b_1, .mp (vars_1.map (mS (AV.int .i64))))]⟩ fun v σ => v = .tup [] ∧ σ = ⟨[(b_0, r.1.row)], [(b_1, .mp (r.2.map (mS (AV.int .i64))))]⟩ := by
 refine ACall.of_fun EOK (F := Tryd.f90) 50 [] (by kernel_rfl) rfl rfl rfl rfl (Nat.le_of_ble_eq_true rfl) (by simp) ?_
 simp only [slotsA]
 unfold machine_checker_leaves.G at hF
 refine rg fun K hK => ?_
 refine We rfl ?_; simp
 intro b5 hb5; simp [Fresh] at hb5; have hq5 : ¬b_0 = b5 ∧ ¬b_1 = b5 := by omega
 refine hK _ _ ?_; clear hK K
 have q := And.intro hb5 hq5
 refine Run.join [0, 1, 5] [] [b5, b_0] [b_1] (by simp [q]) (by simp) (by simp) (fun f σ => ∃ v_x1 : TMachineChecker, f = ⟨50, [(0, .ptr b_0 0), (1, .map b_1), (5, .ptr b5 0)], [], []⟩ ∧ σ = ⟨[(b5, t_2.row), (b_0, v_x1.row)], [(b_1, .mp (vars_1.map (mS (AV.int .i64))))]⟩ ∧ machine_checker_leaves.j0 vars_1 t_2 self v_x1 = some r) ?_ ?_
 ·
  clear hF
  rintro _ _ ⟨v_x1, rfl, rfl, hF⟩
  unfold machine_checker_leaves.j0 at hF
  refine rg fun K hK => ?_
  iterate 4 refine wq ?_
  refine hK _ _ ?_; clear hK K
  refine Run.block ?_
  refine Run.fixX hF [0, 1, 39, 40, 41] [] [b_0] [b_1] (by simp) (by simp) (by simp) (fun v f σ => ∃ v_x2 : Int, ∃ v_x3 : TMachineChecker, ∃ v_x4 : List (List UInt8 × Int), v = (v_x2, v_x3, v_x4) ∧ f = ⟨50, [(0, .ptr b_0 0), (1, .map b_1), (39, .list .none (t_2.sub.map TTerm.row)), (40, .int .i64 (t_2.sub.length : Int)), (41, .int .i64 v_x2)], [], []⟩ ∧ σ = ⟨[(b_0, v_x3.row)], [(b_1, .mp (v_x4.map (mS (AV.int .i64))))]⟩) ?_ ?_
  ·
   exact ⟨0, v_x1, vars_1, rfl, by simp [q, Fm.rst, nn, nn1], by simp [q, St.only, nn1]⟩
  clear hF
  rintro _ _ _ yy1 ⟨v_x2, v_x3, v_x4, rfl, rfl, rfl⟩ hF hR1
  simp only [machine_checker_leaves.l0] at hF
  refine rg fun K hK => ?_
  refine wq ?_
  refine hK _ _ ?_; clear hK K
  refine Run.seq ?_
  refine Run.testEnd (b := (decide (v_x2 < (t_2.sub.length : Int)))) (by simp [q]) (fun h8 => ?_) (fun h8 => ?_)
  ·
   rw [itet h8] at hF; try simp at h8
   refine Run.skip ?_
   show Run _ _ _ _ _ _
   refine Run.seq ?_
   refine Run.block ?_
   replace hF := chkO hF; obtain ⟨hc9, hF⟩ := hF
   refine rg fun K hK => ?_
   have q := And.intro q h8
   refine Wq (evF_ix (tg := .none) (rw := TTerm.row) (xs := t_2.sub) (k := .i64) (n := v_x2) (by simp; rfl) rfl (by simp; rfl) (by simp [q]) (by simp [q]) hc9.1 hc9.2 (by simp)) ?_
   refine wq ?_
   refine We rfl ?_; simp [q]
   intro b7 hb7; simp [Fresh] at hb7; have hq7 : ¬b_0 = b7 ∧ ¬b_1 = b7 := by omega
   have q := And.intro (And.intro q hb7) hq7
   refine We rfl ?_; simp [q]
   refine hK _ _ ?_; clear hK K
   replace hF := bindO hF; obtain ⟨y10, hy10, hF⟩ := hF
   refine rge fun K hK => ?_
   iterate 3 refine wq ?_
   refine Wcb ⟨[(b_0, _)], [(b_1, _)]⟩ ⟨[(b7, _)], []⟩ rfl rfl rfl (by simp [q]; rfl) (by simp [q]; done) (ih hy10 b_0 b_1) pk1 pk1 ?_
   rintro _ _ ⟨rfl, rfl⟩; simp [noCells, noCellS, noCellV, noCellC, noCellT, St.add]
   refine hK _ _ ?_; clear hK K
   show Run _ _ _ _ _ _
   refine rge fun K hK => ?_
   iterate 2 refine wq ?_
   refine hK _ _ ?_; clear hK K
   exact ⟨_, (Option.some.inj hF).symm, (IntKind.i64.wrap (v_x2 + 1)), y10.1, y10.2, rfl, by simp [q, Fm.rst, nn, nn1], by simp [q, St.only, nn1]⟩
  rw [itef h8] at hF; try simp at h8
  refine Run.exit ?_
  replace hF := mapO hF; obtain ⟨z11, hF, hz⟩ := hF; have hz2 := (hR1 _ hz.symm).symm; subst hz2; clear hz
  obtain rfl := Option.some.inj hF
  refine ⟨by simp, by simp, _, _, _, rfl, .inl rfl, ?_, ?_, ?_, rfl⟩
  all_goals simp [tupA, hb5, hq5, h8]
 skip
 refine rg fun K hK => ?_
 iterate 2 refine wq ?_
 refine hK _ _ ?_; clear hK K
 refine Run.block ?_
 refine rg fun K hK => ?_
 iterate 2 refine wq ?_
 refine hK _ _ ?_; clear hK K
 refine Run.testEnd (b := (decide (t_2.kind = 2))) (by simp [q]) (fun h12 => ?_) (fun h12 => ?_)
 ·
  rw [itet h12] at hF; try simp at h12
  replace hF := bindO hF; obtain ⟨y13, hy13, hF⟩ := hF
  refine rge fun K hK => ?_
  have q := And.intro q h12
  iterate 4 refine wq ?_
  refine Wq (evF_lkS (g := (AV.int .i64)) (m := vars_1) (k := t_2.name) (b := b_1) (z := 0) (by simp; rfl) rfl (by simp; rfl) rfl (by simp; rfl) (by simp) (by simp) (by simp) (by simp [q]) (by simp [q]) (by simp [q])) ?_
  iterate 3 refine wq ?_
  refine We rfl ?_; simp [q]; refine .inr ?_
  refine Wcb ⟨[(b_0, _)], []⟩ ⟨[(b5, _)], [(b_1, _)]⟩ rfl rfl rfl (by simp [q]; rfl) (by simp [q]; done) (machine_checker_must_ok (b_0 := b_0) hy13) pk1 (by exact pick0) ?_
  rintro _ _ ⟨rfl, rfl⟩; simp [noCells, noCellS, noCellV, noCellC, noCellT, St.add]
  refine hK _ _ ?_; clear hK K
  exact ⟨y13, by simp [q, Fm.rst, nn, nn1], by simp [q, St.only, nn1], hF⟩
 rw [itef h12] at hF; try simp at h12
 refine rg fun K hK => ?_
 have q := And.intro q h12
 iterate 2 refine wq ?_
 refine hK _ _ ?_; clear hK K
 refine Run.testEnd (b := (decide (t_2.kind = 24))) (by simp [q]) (fun h14 => ?_) (fun h14 => ?_)
 ·
  rw [itet h14] at hF; try simp at h14
  replace hF := chkO hF; obtain ⟨hc15, hF⟩ := hF
  replace hF := bindO hF; obtain ⟨y16, hy16, hF⟩ := hF
  refine Run.draw EOK mixed 13 [0, 1, 2, 3, 4, 5, 6, 7, 8, 9, 10, 11, 12] rfl (by kernel_rfl) fun K hK => ?_
  have q := And.intro q h14
  iterate 3 refine Pq rfl (by simp [q]; rfl) ?_
  refine Pq rfl (evP_of (evF_ix (tg := .none) (rw := TTerm.row) (xs := t_2.sub) (k := .i64) (n := 0) (by simp; rfl) rfl (by simp; rfl) (by simp [q]) (by simp [q]) hc15.1 hc15.2 (by simp))) ?_
  iterate 9 refine Pq rfl (by simp [q]; rfl) ?_
  refine Pd ?_
  refine Wcb ⟨[(b_0, _)], []⟩ ⟨[(b5, _)], [(b_1, _)]⟩ rfl rfl rfl (by simp [q]; rfl) (by simp [q]; done) (machine_checker_must_ok (b_0 := b_0) hy16) pk1 (by exact pick0) ?_
  rintro _ _ ⟨rfl, rfl⟩; simp [noCells, noCellS, noCellV, noCellC, noCellT, St.add]
  refine hK _ _ ?_; clear hK K
  exact ⟨y16, by simp [q, Fm.rst, nn, nn1], by simp [q, St.only, nn1], hF⟩
 rw [itef h14] at hF; try simp at h14
 refine Run.skip ?_
 have q := And.intro q h14
 exact ⟨c_0, by simp [q, Fm.rst, nn, nn1], by simp [q, St.only, nn1], hF⟩
theorem machine_checker_leaves_ok [Fx] {b_0 : Nat} {b_1 : Nat} {c_0 : TMachineChecker} {vars_1 : List (List UInt8 × Int)} {t_2 : TTerm} {r : TMachineChecker × (List (List UInt8 × Int))} (hF : machine_checker_leaves c_0 vars_1 t_2 = some r) : ACall Tryd.prog EE 90 [.ptr b_0 0, .map b_1, .agg t_2.row] ⟨[(b_0, c_0.row)], [(b_1, .mp (vars_1.map (mS (AV.int .i64))))]⟩ fun v σ => v = .tup [] ∧ σ = ⟨[(b_0, r.1.row)], [(b_1, .mp (r.2.map (mS (AV.int .i64))))]⟩ :=
  itr_ind (C := fun (a : TMachineChecker × (List (List UInt8 × Int)) × TTerm) (r : TMachineChecker × (List (List UInt8 × Int))) => ∀ b_0 b_1 : Nat, ACall Tryd.prog EE 90 [.ptr b_0 0, .map b_1, .agg a.2.2.row] ⟨[(b_0, a.1.row)], [(b_1, .mp (a.2.1.map (mS (AV.int .i64))))]⟩ fun v σ => v = .tup [] ∧ σ = ⟨[(b_0, r.1.row)], [(b_1, .mp (r.2.map (mS (AV.int .i64))))]⟩) (fun self ih {a r} h => fun b_0 b_1 => machine_checker_leaves_step (fun {a r} h => ih h) h) _ hF b_0 b_1

/-! machine_checker_fits -/
def machine_checker_fits.l0 [Fx] (l_2 : List TTerm) : Int × TMachineChecker × (List (List UInt8 × Int)) → Option ((Int × TMachineChecker × (List (List UInt8 × Int))) ⊕ (TMachineChecker × (List (List UInt8 × Int)))) := fun v =>
 match v with
 | (v_x1, v_x2, v_x3) =>
 (if (decide (v_x1 < (l_2.length : Int))) then
 (if (0 : Int) ≤ v_x1 ∧ v_x1 < (l_2.length : Int) then
 ((term_Check (nth l_2 v_x1)).bind fun y9 =>
 ((machine_checker_must v_x2 [(decide (y9 = 0))]).bind fun y10 =>
 (if (!y10.ok) then
 some (.inr (y10, v_x3))
 else
 ((machine_checker_leaves y10 v_x3 (nth l_2 v_x1)).bind fun y12 =>
 some (.inl ((IntKind.i64.wrap (v_x1 + 1)), y12.1, y12.2))))))
 else none)
 else
 (Option.map Sum.inr (some (v_x2, v_x3))))
def machine_checker_fits [Fx] (c_0 : TMachineChecker) (vars_1 : List (List UInt8 × Int)) (l_2 : List TTerm) : Option (TMachineChecker × (List (List UInt8 × Int))) :=
 Fx.fx (machine_checker_fits.l0 l_2) (0, c_0, vars_1)
theorem machine_checker_fits_ok [Fx] {b_0 : Nat} {b_1 : Nat} {c_0 : TMachineChecker} {vars_1 : List (List UInt8 × Int)} {l_2 : List TTerm} {r : TMachineChecker × (List (List UInt8 × Int))} (hF : machine_checker_fits c_0 vars_1 l_2 = some r) : ACall Tryd.prog EE 81 [.ptr b_0 0, .map b_1, .full (l_2.map TTerm.row)] ⟨[(b_0, c_0.row)], [(b_1, .mp (vars_1.map (mS (AV.int .i64))))]⟩ fun v σ => v = .tup [] ∧ σ = ⟨[(b_0, r.1.row)], [(b_1, .mp (r.2.map (mS (AV.int .i64))))]⟩ := by
 refine ACall.of_fun EOK (F := Tryd.f81) 30 [] (by kernel_rfl) rfl rfl rfl rfl (Nat.le_of_ble_eq_true rfl) (by simp) ?_
 simp only [slotsA]
 unfold machine_checker_fits at hF
 refine rg fun K hK => ?_
 iterate 3 refine Wq (by simp; rfl) ?_
 refine hK _ _ ?_; clear hK K
 refine Run.block ?_
 refine Run.fixX hF [0, 1, 8, 9, 10] [] [b_0] [b_1] (by simp) (by simp) (by simp) (fun v f σ => ∃ v_x1 : Int, ∃ v_x2 : TMachineChecker, ∃ v_x3 : List (List UInt8 × Int), v = (v_x1, v_x2, v_x3) ∧ f = ⟨30, [(0, .ptr b_0 0), (1, .map b_1), (8, .full (l_2.map TTerm.row)), (9, .int .i64 (l_2.length : Int)), (10, .int .i64 v_x1)], [], []⟩ ∧ σ = ⟨[(b_0, v_x2.row)], [(b_1, .mp (v_x3.map (mS (AV.int .i64))))]⟩) ?_ ?_
 ·
  exact ⟨0, c_0, vars_1, rfl, by simp [Fm.rst, nn, nn1], by simp [St.only, nn1]⟩
 clear hF
 rintro _ _ _ yy1 ⟨v_x1, v_x2, v_x3, rfl, rfl, rfl⟩ hF hR1
 simp only [machine_checker_fits.l0] at hF
 refine rg fun K hK => ?_
 refine Wq (by simp; rfl) ?_
 refine hK _ _ ?_; clear hK K
 refine Run.seq ?_
 refine Run.testEnd (b := (decide (v_x1 < (l_2.length : Int)))) (by simp) (fun h7 => ?_) (fun h7 => ?_)
 ·
  rw [itet h7] at hF; try simp at h7
  refine Run.skip ?_
  show Run _ _ _ _ _ _
  refine Run.seq ?_
  refine Run.block ?_
  replace hF := chkO hF; obtain ⟨hc8, hF⟩ := hF
  refine rg fun K hK => ?_
  have q := h7
  refine Wq (evF_ix (tg := .none) (rw := TTerm.row) (xs := l_2) (k := .i64) (n := v_x1) (by simp; rfl) rfl (by simp; rfl) (by simp [q]) (by simp [q]) hc8.1 hc8.2 (by simp)) ?_
  refine wq ?_
  refine We rfl ?_; simp [q]
  intro b7 hb7; simp [Fresh] at hb7; have hq7 : ¬b_0 = b7 ∧ ¬b_1 = b7 := by omega
  have q := And.intro (And.intro q hb7) hq7
  refine We rfl ?_; simp [q]
  refine hK _ _ ?_; clear hK K
  replace hF := bindO hF; obtain ⟨y9, hy9, hF⟩ := hF
  replace hF := bindO hF; obtain ⟨y10, hy10, hF⟩ := hF
  refine rg fun K hK => ?_
  iterate 2 refine wq ?_
  refine wcq (term_Check_ok hy9) ?_; rintro _ rfl; simp
  refine wq ?_
  refine We rfl ?_; simp [q]; refine .inr ?_
  refine Wcb ⟨[(b_0, _)], []⟩ ⟨[(b7, _)], [(b_1, _)]⟩ rfl rfl rfl (by simp [q]; rfl) (by simp [q]; done) (machine_checker_must_ok (b_0 := b_0) hy10) pk1 (by exact pick0) ?_
  rintro _ _ ⟨rfl, rfl⟩; simp [noCells, noCellS, noCellV, noCellC, noCellT, St.add]
  refine hK _ _ ?_; clear hK K
  refine Run.seq ?_
  refine rg fun K hK => ?_
  iterate 5 refine wq ?_
  refine hK _ _ ?_; clear hK K
  refine Run.testEnd (b := (!y10.ok)) (by simp [q]) (fun h11 => ?_) (fun h11 => ?_)
  ·
   rw [itet h11] at hF; try simp at h11
   refine Run.ret ?_
   have hv := hR1 _ (Option.some.inj hF).symm
   subst hv
   refine ⟨by simp, by simp, _, _, _, rfl, .inl rfl, ?_, ?_, ?_, rfl⟩
   all_goals simp [tupA, h7, hb7, hq7, h11]
  rw [itef h11] at hF; try simp at h11
  refine Run.skip ?_
  show Run _ _ _ _ _ _
  replace hF := bindO hF; obtain ⟨y12, hy12, hF⟩ := hF
  refine rge fun K hK => ?_
  have q := And.intro q h11
  iterate 3 refine wq ?_
  refine Wcb ⟨[(b_0, _)], [(b_1, _)]⟩ ⟨[(b7, _)], []⟩ rfl rfl rfl (by simp [q]; rfl) (by simp [q]; done) (machine_checker_leaves_ok (b_0 := b_0) (b_1 := b_1) hy12) pk1 pk1 ?_
  rintro _ _ ⟨rfl, rfl⟩; simp [noCells, noCellS, noCellV, noCellC, noCellT, St.add]
  refine hK _ _ ?_; clear hK K
  show Run _ _ _ _ _ _
  refine rge fun K hK => ?_
  iterate 2 refine wq ?_
  refine hK _ _ ?_; clear hK K
  exact ⟨_, (Option.some.inj hF).symm, (IntKind.i64.wrap (v_x1 + 1)), y12.1, y12.2, rfl, by simp [q, Fm.rst, nn, nn1], by simp [q, St.only, nn1]⟩
 rw [itef h7] at hF; try simp at h7
 refine Run.exit ?_
 replace hF := mapO hF; obtain ⟨z13, hF, hz⟩ := hF; have hz2 := (hR1 _ hz.symm).symm; subst hz2; clear hz
 obtain rfl := Option.some.inj hF
 refine ⟨by simp, by simp, _, _, _, rfl, .inl rfl, ?_, ?_, ?_, rfl⟩
 all_goals simp [tupA, h7]

/-! machine_checker_variables -/
def machine_checker_variables.l1 [Fx] (c_0 : TMachineChecker) (s_1 : TMachInstr) : Int × (List (List UInt8 × Int)) → Option ((Int × (List (List UInt8 × Int))) ⊕ (TMachineChecker × (List (List UInt8 × Int)))) := fun v =>
 match v with
 | (v_x10, v_x11) =>
 (if (decide (v_x10 < (s_1.operands.length : Int))) then
 (if (0 : Int) ≤ v_x10 ∧ v_x10 < (s_1.operands.length : Int) then
 ((machine_wide c_0.machine (nth s_1.operands v_x10)).bind fun y16 =>
 some (.inl ((IntKind.i64.wrap (v_x10 + 1)), (aput v_x11 ((nth s_1.operands v_x10).name) y16))))
 else none)
 else
 (Option.map Sum.inr (some (c_0, v_x11))))
def machine_checker_variables.l0 [Fx] (c_0 : TMachineChecker) (s_1 : TMachInstr) : Int × (List (List UInt8 × Int)) → Option ((Int × (List (List UInt8 × Int))) ⊕ (TMachineChecker × (List (List UInt8 × Int)))) := fun v =>
 match v with
 | (v_x2, v_x3) =>
 (if (decide (v_x2 < (c_0.machine.regs.length : Int))) then
 (if (0 : Int) ≤ v_x2 ∧ v_x2 < (c_0.machine.regs.length : Int) then
 (if [114, 46].length + ((nth c_0.machine.regs v_x2).name).length ≤ 4611686018427387904 then
 some (.inl ((IntKind.i64.wrap (v_x2 + 1)), (aput v_x3 ([114, 46] ++ ((nth c_0.machine.regs v_x2).name)) ((nth c_0.machine.regs v_x2).width))))
 else none)
 else none)
 else
 (Option.map Sum.inr (Fx.fx (machine_checker_variables.l1 c_0 s_1) (0, v_x3))))
def machine_checker_variables [Fx] (c_0 : TMachineChecker) (s_1 : TMachInstr) : Option (TMachineChecker × (List (List UInt8 × Int))) :=
 Fx.fx (machine_checker_variables.l0 c_0 s_1) (0, (aput [] [112, 99] c_0.machine.address))
theorem machine_checker_variables_ok [Fx] {b_0 : Nat} {c_0 : TMachineChecker} {s_1 : TMachInstr} {r : TMachineChecker × (List (List UInt8 × Int))} (hF : machine_checker_variables c_0 s_1 = some r) : ACall Tryd.prog EE 60 [.ptr b_0 0, .agg s_1.row] ⟨[(b_0, c_0.row)], []⟩ fun v σ => ∃ m_0, v = .map m_0 ∧ σ = ⟨[(b_0, r.1.row)], [(m_0, .mp (r.2.map (mS (AV.int .i64))))]⟩ := by
 refine ACall.of_fun EOK (F := Tryd.f60) 52 [.tmp 4] (by kernel_rfl) rfl rfl rfl rfl (Nat.le_of_ble_eq_true rfl) (by simp) ?_
 simp only [slotsA]
 unfold machine_checker_variables at hF
 refine rg fun K hK => ?_
 refine We rfl ?_; simp
 intro b3 hb3; simp [Fresh] at hb3; have hq3 : ¬b_0 = b3 := by omega
 have q := And.intro hb3 hq3
 refine wq ?_
 refine hK _ _ ?_; clear hK K
 refine rg fun K hK => ?_
 refine We rfl ?_; simp [q]
 intro b10 hb10; simp [Fresh] at hb10; have hq10 : ¬b3 = b10 ∧ ¬b_0 = b10 := by omega
 have q := And.intro (And.intro q hb10) hq10
 iterate 5 refine wq ?_
 have hp1 := putA_S (AV.int .i64) [112, 99] c_0.machine.address []
 have hp1b := hp1; refine We rfl ?_; first | (simp at hp1b; simp [q, hp1, hp1b]) | simp [q, hp1]
 iterate 2 refine wq ?_
 refine hK _ _ ?_; clear hK K
 refine Run.seq ?_
 refine rg fun K hK => ?_
 iterate 7 refine wq ?_
 refine hK _ _ ?_; clear hK K
 refine Run.block ?_
 refine Run.fixX hF [0, 3, 5, 21, 22, 23] [] [b3, b_0] [b10] (by simp [q]) (by simp) (by simp) (fun v f σ => ∃ v_x2 : Int, ∃ v_x3 : List (List UInt8 × Int), v = (v_x2, v_x3) ∧ f = ⟨52, [(0, .ptr b_0 0), (3, .ptr b3 0), (5, .map b10), (21, .list .none (c_0.machine.regs.map TMachReg.row)), (22, .int .i64 (c_0.machine.regs.length : Int)), (23, .int .i64 v_x2)], [], []⟩ ∧ σ = ⟨[(b3, s_1.row), (b_0, c_0.row)], [(b10, .mp (v_x3.map (mS (AV.int .i64))))]⟩) ?_ ?_
 ·
  exact ⟨0, (aput [] [112, 99] c_0.machine.address), rfl, by simp [q, Fm.rst, nn, nn1], by simp [q, St.only, nn1]⟩
 clear hF
 rintro _ _ _ yy1 ⟨v_x2, v_x3, rfl, rfl, rfl⟩ hF hR1
 simp only [machine_checker_variables.l0] at hF
 refine rg fun K hK => ?_
 refine wq ?_
 refine hK _ _ ?_; clear hK K
 refine Run.seq ?_
 refine Run.testEnd (b := (decide (v_x2 < (c_0.machine.regs.length : Int)))) (by simp [q]) (fun h6 => ?_) (fun h6 => ?_)
 ·
  rw [itet h6] at hF; try simp at h6
  refine Run.skip ?_
  show Run _ _ _ _ _ _
  refine Run.seq ?_
  refine Run.block ?_
  replace hF := chkO hF; obtain ⟨hc7, hF⟩ := hF
  refine rg fun K hK => ?_
  have q := And.intro q h6
  refine Wq (evF_ix (tg := .none) (rw := TMachReg.row) (xs := c_0.machine.regs) (k := .i64) (n := v_x2) (by simp; rfl) rfl (by simp; rfl) (by simp [q]) (by simp [q]) hc7.1 hc7.2 (by simp)) ?_
  refine wq ?_
  refine We rfl ?_; simp [q]
  intro b7 hb7; simp [Fresh] at hb7; have hq7 : ¬b3 = b7 ∧ ¬b_0 = b7 ∧ ¬b10 = b7 := by omega
  have q := And.intro (And.intro q hb7) hq7
  refine We rfl ?_; simp [q]
  refine hK _ _ ?_; clear hK K
  replace hF := chkO hF; obtain ⟨hc8, hF⟩ := hF
  refine rge fun K hK => ?_
  iterate 3 refine wq ?_
  refine Wq (by have hf0 := hc8; (try simp at hf0); simp [q, hc8, hf0]; rfl) ?_
  iterate 2 refine wq ?_
  have hp9 := putA_S (AV.int .i64) ([114, 46] ++ ((nth c_0.machine.regs v_x2).name)) ((nth c_0.machine.regs v_x2).width) v_x3
  have hp9b := hp9; refine We rfl ?_; first | (simp at hp9b; simp [q, hp9, hp9b]) | simp [q, hp9]
  refine hK _ _ ?_; clear hK K
  show Run _ _ _ _ _ _
  refine rge fun K hK => ?_
  iterate 2 refine wq ?_
  refine hK _ _ ?_; clear hK K
  exact ⟨_, (Option.some.inj hF).symm, (IntKind.i64.wrap (v_x2 + 1)), (aput v_x3 ([114, 46] ++ ((nth c_0.machine.regs v_x2).name)) ((nth c_0.machine.regs v_x2).width)), rfl, by simp [q, Fm.rst, nn, nn1], by simp [q, St.only, nn1]⟩
 rw [itef h6] at hF; try simp at h6
 refine Run.exit ?_
 replace hF := mapO hF; obtain ⟨z19, hF, hz⟩ := hF; have hz2 := (hR1 _ hz.symm).symm; subst hz2; clear hz
 show Run _ _ _ _ _ _
 refine Run.seq ?_
 refine rg fun K hK => ?_
 have q := And.intro q h6
 iterate 4 refine wq ?_
 refine hK _ _ ?_; clear hK K
 refine Run.block ?_
 refine Run.fixX hF [0, 5, 35, 36, 37] [] [b_0] [b10] (by simp) (by simp) (by simp) (fun v f σ => ∃ v_x10 : Int, ∃ v_x11 : List (List UInt8 × Int), v = (v_x10, v_x11) ∧ f = ⟨52, [(0, .ptr b_0 0), (5, .map b10), (35, .list .none (s_1.operands.map TMachOperand.row)), (36, .int .i64 (s_1.operands.length : Int)), (37, .int .i64 v_x10)], [], []⟩ ∧ σ = ⟨[(b_0, c_0.row)], [(b10, .mp (v_x11.map (mS (AV.int .i64))))]⟩) ?_ ?_
 ·
  exact ⟨0, v_x3, rfl, by simp [q, Fm.rst, nn, nn1], by simp [q, St.only, nn1]⟩
 clear hF
 rintro _ _ _ yy1 ⟨v_x10, v_x11, rfl, rfl, rfl⟩ hF hR1
 simp only [machine_checker_variables.l1] at hF
 refine rg fun K hK => ?_
 have q := And.intro hb3 (And.intro hq3 (And.intro hb10 hq10))
 refine wq ?_
 refine hK _ _ ?_; clear hK K
 refine Run.seq ?_
 refine Run.testEnd (b := (decide (v_x10 < (s_1.operands.length : Int)))) (by simp [q]) (fun h14 => ?_) (fun h14 => ?_)
 ·
  rw [itet h14] at hF; try simp at h14
  refine Run.skip ?_
  show Run _ _ _ _ _ _
  refine Run.seq ?_
  refine Run.block ?_
  replace hF := chkO hF; obtain ⟨hc15, hF⟩ := hF
  refine rg fun K hK => ?_
  have q := And.intro q h14
  refine Wq (evF_ix (tg := .none) (rw := TMachOperand.row) (xs := s_1.operands) (k := .i64) (n := v_x10) (by simp; rfl) rfl (by simp; rfl) (by simp [q]) (by simp [q]) hc15.1 hc15.2 (by simp)) ?_
  refine wq ?_
  refine We rfl ?_; simp [q]
  intro b9 hb9; simp [Fresh] at hb9; have hq9 : ¬b_0 = b9 ∧ ¬b10 = b9 := by omega
  have q := And.intro (And.intro q hb9) hq9
  refine We rfl ?_; simp [q]
  refine hK _ _ ?_; clear hK K
  replace hF := bindO hF; obtain ⟨y16, hy16, hF⟩ := hF
  refine Run.draw EOK mixed 9 [0, 1, 2, 3, 4, 5, 6, 7, 8] rfl (by kernel_rfl) fun K hK => ?_
  iterate 8 refine Pq rfl (by simp [q]; rfl) ?_
  refine Pc rfl rfl rfl rfl (by first | (simp [q]; rfl) | (simp [q]; done)) (by simp [q]; done) (machine_wide_ok hy16) ?_; rintro _ rfl; simp
  refine Pd ?_
  have hp17 := putA_S (AV.int .i64) ((nth s_1.operands v_x10).name) y16 v_x11
  have hp17b := hp17; refine We rfl ?_; first | (simp at hp17b; simp [q, hp17, hp17b]) | simp [q, hp17]
  refine hK _ _ ?_; clear hK K
  show Run _ _ _ _ _ _
  refine rge fun K hK => ?_
  iterate 2 refine wq ?_
  refine hK _ _ ?_; clear hK K
  exact ⟨_, (Option.some.inj hF).symm, (IntKind.i64.wrap (v_x10 + 1)), (aput v_x11 ((nth s_1.operands v_x10).name) y16), rfl, by simp [q, Fm.rst, nn, nn1], by simp [q, St.only, nn1]⟩
 rw [itef h14] at hF; try simp at h14
 refine Run.exit ?_
 replace hF := mapO hF; obtain ⟨z18, hF, hz⟩ := hF; have hz2 := (hR1 _ hz.symm).symm; subst hz2; clear hz
 show Run _ _ _ _ _ _
 refine rg fun K hK => ?_
 have q := And.intro q h14
 iterate 2 refine wq ?_
 refine hK _ _ ?_; clear hK K
 refine Run.ret ?_
 obtain rfl := Option.some.inj hF
 refine ⟨by simp, by simp, _, _, _, rfl, .inl rfl, ?_, ?_, b10, ?_, rfl⟩
 all_goals simp [tupA, hb3, hq3, hb10, hq10, h14]

/-! machine_checker_operand -/
def machine_checker_operand.j0 [Fx] (taken_x2 : Int) (v_x16 : TMachineChecker) : Option (TMachineChecker × Int) :=
 some (v_x16, taken_x2)
def machine_checker_operand.j1 [Fx] (s_1 : TMachInstr) (i_2 : Int) (taken_x2 : Int) (v_x4 : TMachineChecker) (v_x32 : Bool) : Option (TMachineChecker × Int) :=
 (if v_x32 then
 ((machine_field (nth s_1.operands i_2)).bind fun y34 =>
 ((machine_within ((nth s_1.operands i_2).scale) 0 3).bind fun y35 =>
 ((machine_checker_must v_x4 [(decide (((nth s_1.operands i_2).bank) = 0)), (decide (((nth s_1.operands i_2).tied) = (-1))), y35, (decide (0 < y34)), (decide ((IntKind.i64.wrap (y34 + ((nth s_1.operands i_2).scale))) ≤ v_x4.machine.address))]).bind fun y36 =>
 machine_checker_operand.j0 taken_x2 y36)))
 else
 ((machine_checker_must v_x4 [false]).bind fun y37 =>
 machine_checker_operand.j0 taken_x2 y37))
def machine_checker_operand.l0 [Fx] (s_1 : TMachInstr) (i_2 : Int) : Int × Int × TMachineChecker → Option ((Int × Int × TMachineChecker) ⊕ (TMachineChecker × Int)) := fun v =>
 match v with
 | (taken_x2, v_x3, v_x4) =>
 (if (decide (v_x3 < (((nth s_1.operands i_2).pieces).length : Int))) then
 (if (0 : Int) ≤ v_x3 ∧ v_x3 < (((nth s_1.operands i_2).pieces).length : Int) then
 ((machine_within ((nth ((nth s_1.operands i_2).pieces) v_x3).len) 1 (IntKind.i64.wrap (8 * v_x4.machine.word))).bind fun y10 =>
 ((machine_checker_must v_x4 [y10, (decide (0 ≤ ((nth ((nth s_1.operands i_2).pieces) v_x3).at_))), (decide (((nth ((nth s_1.operands i_2).pieces) v_x3).at_) ≤ (IntKind.i64.wrap ((IntKind.i64.wrap (8 * v_x4.machine.word)) - ((nth ((nth s_1.operands i_2).pieces) v_x3).len)))))]).bind fun y11 =>
 (if (!y11.ok) then
 some (.inr (y11, 0))
 else
 ((bits_Mask ((nth ((nth s_1.operands i_2).pieces) v_x3).len)).bind fun y13 =>
 (if (0 : Int) ≤ ((nth ((nth s_1.operands i_2).pieces) v_x3).at_) then
 ((machine_checker_must y11 [(decide ((iand .u64 taken_x2 (ishl .u64 y13 ((nth ((nth s_1.operands i_2).pieces) v_x3).at_))) = 0))]).bind fun y15 =>
 some (.inl ((ior .u64 taken_x2 (ishl .u64 y13 ((nth ((nth s_1.operands i_2).pieces) v_x3).at_))), (IntKind.i64.wrap (v_x3 + 1)), y15)))
 else none)))))
 else none)
 else
 (Option.map Sum.inr (if (decide (((nth s_1.operands i_2).kind) = 1)) then
 ((machine_within ((nth s_1.operands i_2).bank) 0 (IntKind.i64.wrap ((v_x4.machine.banks.length : Int) - 1))).bind fun y18 =>
 ((machine_checker_must v_x4 [y18, (decide (((nth s_1.operands i_2).scale) = 0))]).bind fun y19 =>
 (if (!y19.ok) then
 some (y19, 0)
 else
 (if (decide (((nth s_1.operands i_2).tied) = (-1))) then
 ((machine_field (nth s_1.operands i_2)).bind fun y22 =>
 (if ((!(decide (6 < y22))) = true → (0 : Int) ≤ ((nth s_1.operands i_2).bank) ∧ ((nth s_1.operands i_2).bank) < (y19.machine.banks.length : Int)) then
 (if ((!(decide (6 < y22))) = true → (0 : Int) ≤ y22) then
 ((machine_checker_must y19 [(decide (0 < y22)), ((decide (6 < y22)) || (decide ((((nth y19.machine.banks ((nth s_1.operands i_2).bank)).regs).length : Int) ≤ (ishl .i64 1 y22))))]).bind fun y26 =>
 machine_checker_operand.j0 taken_x2 y26)
 else none)
 else none))
 else
 ((machine_within ((nth s_1.operands i_2).tied) 0 (IntKind.i64.wrap (i_2 - 1))).bind fun y27 =>
 ((machine_checker_must y19 [y27, (decide ((((nth s_1.operands i_2).pieces).length : Int) = 0))]).bind fun y28 =>
 (if y28.ok then
 (if (0 : Int) ≤ ((nth s_1.operands i_2).tied) ∧ ((nth s_1.operands i_2).tied) < (s_1.operands.length : Int) then
 ((machine_checker_must y28 [(decide (((nth s_1.operands ((nth s_1.operands i_2).tied)).kind) = 1)), (decide (((nth s_1.operands ((nth s_1.operands i_2).tied)).bank) = ((nth s_1.operands i_2).bank))), (decide (((nth s_1.operands ((nth s_1.operands i_2).tied)).tied) = (-1)))]).bind fun y31 =>
 machine_checker_operand.j0 taken_x2 y31)
 else none)
 else
 machine_checker_operand.j0 taken_x2 y28)))))))
 else
 (if (decide (((nth s_1.operands i_2).kind) = 2)) then
 machine_checker_operand.j1 s_1 i_2 taken_x2 v_x4 (decide (((nth s_1.operands i_2).kind) = 2))
 else
 (if (decide (((nth s_1.operands i_2).kind) = 3)) then
 machine_checker_operand.j1 s_1 i_2 taken_x2 v_x4 (decide (((nth s_1.operands i_2).kind) = 3))
 else
 machine_checker_operand.j1 s_1 i_2 taken_x2 v_x4 (decide (((nth s_1.operands i_2).kind) = 4)))))))
def machine_checker_operand [Fx] (c_0 : TMachineChecker) (s_1 : TMachInstr) (i_2 : Int) : Option (TMachineChecker × Int) :=
 (if (0 : Int) ≤ i_2 ∧ i_2 < (s_1.operands.length : Int) then
 Fx.fx (machine_checker_operand.l0 s_1 i_2) (0, 0, c_0)
 else none)
theorem machine_checker_operand_ok [Fx] {b_0 : Nat} {c_0 : TMachineChecker} {s_1 : TMachInstr} {i_2 : Int} {r : TMachineChecker × Int} (hF : machine_checker_operand c_0 s_1 i_2 = some r) : ACall Tryd.prog EE 59 [.ptr b_0 0, .agg s_1.row, .int .i64 i_2] ⟨[(b_0, c_0.row)], []⟩ fun v σ => v = .int .u64 r.2 ∧ σ = ⟨[(b_0, r.1.row)], []⟩ := by
 refine ACall.of_fun EOK (F := Tryd.f59) 198 [.tmp 6] (by kernel_rfl) rfl rfl rfl rfl (Nat.le_of_ble_eq_true rfl) (by simp) ?_
 simp only [slotsA]
 unfold machine_checker_operand at hF
 refine rg fun K hK => ?_
 refine We rfl ?_; simp
 intro b4 hb4; simp [Fresh] at hb4; have hq4 : ¬b_0 = b4 := by omega
 have q := And.intro hb4 hq4
 refine wq ?_
 refine hK _ _ ?_; clear hK K
 replace hF := chkO hF; obtain ⟨hc1, hF⟩ := hF
 refine rg fun K hK => ?_
 iterate 3 refine wq ?_
 refine Wq (evF_ix (tg := .none) (rw := TMachOperand.row) (xs := s_1.operands) (k := .i64) (n := i_2) (by simp; rfl) rfl (by simp; rfl) (by simp [q]) (by simp [q]) hc1.1 hc1.2 (by simp)) ?_
 refine wq ?_
 refine We rfl ?_; simp [q]
 intro b7 hb7; simp [Fresh] at hb7; have hq7 : ¬b4 = b7 ∧ ¬b_0 = b7 := by omega
 have q := And.intro (And.intro q hb7) hq7
 refine We rfl ?_; simp [q]
 refine hK _ _ ?_; clear hK K
 refine Run.seq ?_
 refine rg fun K hK => ?_
 iterate 4 refine wq ?_
 refine hK _ _ ?_; clear hK K
 refine Run.block ?_
 refine Run.fixX hF [0, 2, 4, 6, 7, 20, 21, 22] [] [b7, b4, b_0] [] (by simp [q]) (by simp) (by simp) (fun v f σ => ∃ taken_x2 : Int, ∃ v_x3 : Int, ∃ v_x4 : TMachineChecker, v = (taken_x2, v_x3, v_x4) ∧ f = ⟨198, [(0, .ptr b_0 0), (2, .int .i64 i_2), (4, .ptr b4 0), (6, .int .u64 taken_x2), (7, .ptr b7 0), (20, .list .none (((nth s_1.operands i_2).pieces).map TMachPiece.row)), (21, .int .i64 (((nth s_1.operands i_2).pieces).length : Int)), (22, .int .i64 v_x3)], [], []⟩ ∧ σ = ⟨[(b7, (nth s_1.operands i_2).row), (b4, s_1.row), (b_0, v_x4.row)], []⟩) ?_ ?_
 ·
  exact ⟨0, 0, c_0, rfl, by simp [q, Fm.rst, nn, nn1], by simp [q, St.only, nn1]⟩
 clear hF
 rintro _ _ _ yy1 ⟨taken_x2, v_x3, v_x4, rfl, rfl, rfl⟩ hF hR1
 simp only [machine_checker_operand.l0] at hF
 refine rg fun K hK => ?_
 refine wq ?_
 refine hK _ _ ?_; clear hK K
 refine Run.seq ?_
 refine Run.testEnd (b := (decide (v_x3 < (((nth s_1.operands i_2).pieces).length : Int)))) (by simp [q]) (fun h8 => ?_) (fun h8 => ?_)
 ·
  rw [itet h8] at hF; try simp at h8
  refine Run.skip ?_
  show Run _ _ _ _ _ _
  refine Run.seq ?_
  refine Run.block ?_
  replace hF := chkO hF; obtain ⟨hc9, hF⟩ := hF
  refine rg fun K hK => ?_
  have q := And.intro q h8
  refine Wq (evF_ix (tg := .none) (rw := TMachPiece.row) (xs := ((nth s_1.operands i_2).pieces)) (k := .i64) (n := v_x3) (by simp; rfl) rfl (by simp; rfl) (by simp [q]) (by simp [q]) hc9.1 hc9.2 (by simp)) ?_
  refine wq ?_
  refine We rfl ?_; simp [q]
  intro b9 hb9; simp [Fresh] at hb9; have hq9 : ¬b7 = b9 ∧ ¬b4 = b9 ∧ ¬b_0 = b9 := by omega
  have q := And.intro (And.intro q hb9) hq9
  refine We rfl ?_; simp [q]
  refine hK _ _ ?_; clear hK K
  replace hF := bindO hF; obtain ⟨y10, hy10, hF⟩ := hF
  replace hF := bindO hF; obtain ⟨y11, hy11, hF⟩ := hF
  refine Run.drawReg EOK mixed 26 [0, 1, 2, 3, 4, 5, 6, 7, 8, 10, 11, 12, 13, 14, 15, 16, 17, 18, 19, 20, 21, 22, 23, 24, 9, 25] rfl (by kernel_rfl) fun K hK => ?_
  iterate 24 refine Pq rfl (by simp [q]; rfl) ?_
  refine Pc rfl rfl rfl rfl (by first | (simp [q]; rfl) | (simp [q]; done)) (by simp [q]; done) (machine_within_ok hy10) ?_; rintro _ rfl; simp
  refine Pq rfl (by simp [q]; rfl) ?_
  refine Pd ?_
  refine Wcb ⟨[(b_0, _)], []⟩ ⟨[(b9, _), (b7, _), (b4, _)], []⟩ rfl rfl rfl (by simp [q]; rfl) (by simp [q]; done) (machine_checker_must_ok (b_0 := b_0) hy11) pk1 (by exact pick0) ?_
  rintro _ _ ⟨rfl, rfl⟩; simp [noCells, noCellS, noCellV, noCellC, noCellT, St.add]
  refine hK _ _ ?_; clear hK K
  refine Run.seq ?_
  refine rg fun K hK => ?_
  iterate 5 refine wq ?_
  refine hK _ _ ?_; clear hK K
  refine Run.testEnd (b := (!y11.ok)) (by simp [q]) (fun h12 => ?_) (fun h12 => ?_)
  ·
   rw [itet h12] at hF; try simp at h12
   refine rg fun K hK => ?_
   have q := And.intro q h12
   refine wq ?_
   refine hK _ _ ?_; clear hK K
   refine Run.ret ?_
   have hv := hR1 _ (Option.some.inj hF).symm
   subst hv
   refine ⟨by simp, by simp, _, _, _, rfl, .inl rfl, ?_, ?_, ?_, rfl⟩
   all_goals simp [tupA, hb4, hq4, hb7, hq7, h8, hb9, hq9, h12]
  rw [itef h12] at hF; try simp at h12
  refine Run.skip ?_
  show Run _ _ _ _ _ _
  replace hF := bindO hF; obtain ⟨y13, hy13, hF⟩ := hF
  replace hF := chkO hF; obtain ⟨hc14, hF⟩ := hF
  refine Run.drawReg EOK mixed 5 [0, 1, 3, 4, 2] rfl (by kernel_rfl) fun K hK => ?_
  have q := And.intro q h12
  iterate 4 refine Pq rfl (by simp [q]; rfl) ?_
  refine Pc rfl rfl rfl rfl (by first | (simp [q]; rfl) | (simp [q]; done)) (by simp [q]; done) (bits_Mask_ok hy13) ?_; rintro _ rfl; simp
  refine Pd ?_
  refine Wq (by have hf0 := hc14; (try simp at hf0); simp [q, hc14, hf0]; rfl) ?_
  refine wq ?_
  refine hK _ _ ?_; clear hK K
  replace hF := bindO hF; obtain ⟨y15, hy15, hF⟩ := hF
  refine rg fun K hK => ?_
  iterate 5 refine wq ?_
  refine We rfl ?_; simp [q]; refine .inr ?_
  refine Wcb ⟨[(b_0, _)], []⟩ ⟨[(b9, _), (b7, _), (b4, _)], []⟩ rfl rfl rfl (by simp [q]; rfl) (by simp [q]; done) (machine_checker_must_ok (b_0 := b_0) hy15) pk1 (by exact pick0) ?_
  rintro _ _ ⟨rfl, rfl⟩; simp [noCells, noCellS, noCellV, noCellC, noCellT, St.add]
  refine hK _ _ ?_; clear hK K
  refine rge fun K hK => ?_
  iterate 4 refine wq ?_
  refine hK _ _ ?_; clear hK K
  show Run _ _ _ _ _ _
  refine rge fun K hK => ?_
  iterate 2 refine wq ?_
  refine hK _ _ ?_; clear hK K
  exact ⟨_, (Option.some.inj hF).symm, (ior .u64 taken_x2 (ishl .u64 y13 ((nth ((nth s_1.operands i_2).pieces) v_x3).at_))), (IntKind.i64.wrap (v_x3 + 1)), y15, rfl, by simp [q, Fm.rst, nn, nn1], by simp [q, St.only, nn1]⟩
 rw [itef h8] at hF; try simp at h8
 refine Run.exit ?_
 replace hF := mapO hF; obtain ⟨z40, hF, hz⟩ := hF; have hz2 := (hR1 _ hz.symm).symm; subst hz2; clear hz
 show Run _ _ _ _ _ _
 refine Run.join [0, 6] [] [b_0] [] (by simp) (by simp) (by simp) (fun f σ => ∃ v_x16 : TMachineChecker, f = ⟨198, [(0, .ptr b_0 0), (6, .int .u64 taken_x2)], [], []⟩ ∧ σ = ⟨[(b_0, v_x16.row)], []⟩ ∧ machine_checker_operand.j0 taken_x2 v_x16 = some r) ?_ ?_
 ·
  clear hF
  rintro _ _ ⟨v_x16, rfl, rfl, hF⟩
  unfold machine_checker_operand.j0 at hF
  refine rg fun K hK => ?_
  iterate 2 refine wq ?_
  refine hK _ _ ?_; clear hK K
  refine Run.ret ?_
  obtain rfl := Option.some.inj hF
  refine ⟨by simp, by simp, _, _, _, rfl, .inl rfl, ?_, ?_, ?_, rfl⟩
  all_goals simp [tupA, hb4, hq4, hb7, hq7]
 skip
 refine rg fun K hK => ?_
 have q := And.intro q h8
 iterate 2 refine wq ?_
 refine hK _ _ ?_; clear hK K
 refine Run.block ?_
 refine rg fun K hK => ?_
 iterate 2 refine wq ?_
 refine hK _ _ ?_; clear hK K
 refine Run.testEnd (b := (decide (((nth s_1.operands i_2).kind) = 1))) (by simp [q]) (fun h17 => ?_) (fun h17 => ?_)
 ·
  rw [itet h17] at hF; try simp at h17
  replace hF := bindO hF; obtain ⟨y18, hy18, hF⟩ := hF
  replace hF := bindO hF; obtain ⟨y19, hy19, hF⟩ := hF
  refine Run.drawReg EOK mixed 15 [0, 1, 2, 3, 4, 5, 6, 7, 8, 9, 11, 12, 13, 10, 14] rfl (by kernel_rfl) fun K hK => ?_
  have q := And.intro q h17
  iterate 13 refine Pq rfl (by simp [q]; rfl) ?_
  refine Pc rfl rfl rfl rfl (by first | (simp [q]; rfl) | (simp [q]; done)) (by simp [q]; done) (machine_within_ok hy18) ?_; rintro _ rfl; simp
  refine Pq rfl (by simp [q]; rfl) ?_
  refine Pd ?_
  refine Wcb ⟨[(b_0, _)], []⟩ ⟨[(b7, _), (b4, _)], []⟩ rfl rfl rfl (by simp [q]; rfl) (by simp [q]; done) (machine_checker_must_ok (b_0 := b_0) hy19) pk1 (by exact pick0) ?_
  rintro _ _ ⟨rfl, rfl⟩; simp [noCells, noCellS, noCellV, noCellC, noCellT, St.add]
  refine hK _ _ ?_; clear hK K
  refine Run.seq ?_
  refine rg fun K hK => ?_
  iterate 5 refine wq ?_
  refine hK _ _ ?_; clear hK K
  refine Run.testEnd (b := (!y19.ok)) (by simp [q]) (fun h20 => ?_) (fun h20 => ?_)
  ·
   rw [itet h20] at hF; try simp at h20
   refine rg fun K hK => ?_
   have q := And.intro q h20
   refine wq ?_
   refine hK _ _ ?_; clear hK K
   refine Run.ret ?_
   obtain rfl := Option.some.inj hF
   refine ⟨by simp, by simp, _, _, _, rfl, .inl rfl, ?_, ?_, ?_, rfl⟩
   all_goals simp [tupA, hb4, hq4, hb7, hq7, h8, h17, h20]
  rw [itef h20] at hF; try simp at h20
  refine Run.skip ?_
  show Run _ _ _ _ _ _
  refine Run.seq ?_
  refine rg fun K hK => ?_
  have q := And.intro q h20
  iterate 3 refine wq ?_
  refine hK _ _ ?_; clear hK K
  refine Run.testEnd (b := (decide (((nth s_1.operands i_2).tied) = (-1)))) (by simp [q]) (fun h21 => ?_) (fun h21 => ?_)
  ·
   rw [itet h21] at hF; try simp at h21
   replace hF := bindO hF; obtain ⟨y22, hy22, hF⟩ := hF
   refine rg fun K hK => ?_
   have q := And.intro q h21
   refine wq ?_
   refine wcq (machine_field_ok hy22) ?_; rintro _ rfl; simp
   refine wq ?_
   refine hK _ _ ?_; clear hK K
   replace hF := chkO hF; obtain ⟨hc24, hF⟩ := hF
   replace hF := chkO hF; obtain ⟨hc25, hF⟩ := hF
   replace hF := bindO hF; obtain ⟨y26, hy26, hF⟩ := hF
   refine Run.drawReg EOK mixed 22 [0, 1, 2, 3, 4, 5, 6, 7, 8, 9, 10, 11, 12, 13, 14, 15, 16, 17, 18, 19, 20, 21] rfl (by kernel_rfl) fun K hK => ?_
   iterate 6 refine Pq rfl (by simp [q]; rfl) ?_
   obtain ⟨g23, e23⟩ : ∃ g, g = (!(decide (6 < y22))) := ⟨_, rfl⟩
   iterate 7 refine Pg rfl rfl (b := g23) (by simp [q, e23]) (fun hg => by simp [q, hg]; rfl) ?_
   refine Pg rfl rfl (b := g23) (by simp [q, e23]) (fun hg => evP_of (evF_ix (tg := .none) (rw := TMachBank.row) (xs := y19.machine.banks) (k := .i64) (n := ((nth s_1.operands i_2).bank)) (by simp; rfl) rfl (by simp; rfl) (by simp [q, hg]) (by simp [q, hg]) (hc24 (e23.symm.trans hg)).1 (hc24 (e23.symm.trans hg)).2 (by simp))) ?_
   iterate 4 refine Pg rfl rfl (b := g23) (by simp [q, e23]) (fun hg => by simp [q, hg]; rfl) ?_
   refine Pg rfl rfl (b := g23) (by simp [q, e23]) (fun hg => by have hf0 := hc25 (e23.symm.trans hg); have he0 := hf0; (try simp at he0); simp [q, hg, hf0, he0]; rfl) ?_
   refine Pg rfl rfl (b := g23) (by simp [q, e23]) (fun hg => by simp [q, hg]; rfl) ?_
   refine Por rfl (t := (decide (6 < y22))) (β := (decide ((((nth y19.machine.banks ((nth s_1.operands i_2).bank)).regs).length : Int) ≤ (ishl .i64 1 y22)))) (by simp [q]) rfl (fun hh => by have h0 := e23.trans (notf hh); simp [q, h0]) (by first | (simp; done) | (simp; rfl)) ?_
   refine Pq rfl (by simp [q]; rfl) ?_
   refine Pd ?_
   refine Wcb ⟨[(b_0, _)], []⟩ ⟨[(b7, _), (b4, _)], []⟩ rfl rfl rfl (by simp [q]; rfl) (by simp [q]; done) (machine_checker_must_ok (b_0 := b_0) hy26) pk1 (by exact pick0) ?_
   rintro _ _ ⟨rfl, rfl⟩; simp [noCells, noCellS, noCellV, noCellC, noCellT, St.add]
   refine hK _ _ ?_; clear hK K
   refine Run.exit ?_
   exact ⟨y26, by simp [q, Fm.rst, nn, nn1], by simp [q, St.only, nn1], hF⟩
  rw [itef h21] at hF; try simp at h21
  refine Run.skip ?_
  show Run _ _ _ _ _ _
  replace hF := bindO hF; obtain ⟨y27, hy27, hF⟩ := hF
  replace hF := bindO hF; obtain ⟨y28, hy28, hF⟩ := hF
  refine Run.drawReg EOK mixed 11 [0, 1, 2, 3, 4, 6, 7, 8, 9, 5, 10] rfl (by kernel_rfl) fun K hK => ?_
  have q := And.intro q h21
  iterate 9 refine Pq rfl (by simp [q]; rfl) ?_
  refine Pc rfl rfl rfl rfl (by first | (simp [q]; rfl) | (simp [q]; done)) (by simp [q]; done) (machine_within_ok hy27) ?_; rintro _ rfl; simp
  refine Pq rfl (by simp [q]; rfl) ?_
  refine Pd ?_
  refine Wcb ⟨[(b_0, _)], []⟩ ⟨[(b7, _), (b4, _)], []⟩ rfl rfl rfl (by simp [q]; rfl) (by simp [q]; done) (machine_checker_must_ok (b_0 := b_0) hy28) pk1 (by exact pick0) ?_
  rintro _ _ ⟨rfl, rfl⟩; simp [noCells, noCellS, noCellV, noCellC, noCellT, St.add]
  refine hK _ _ ?_; clear hK K
  refine rg fun K hK => ?_
  iterate 4 refine wq ?_
  refine hK _ _ ?_; clear hK K
  refine Run.testEnd (b := y28.ok) (by simp [q]) (fun h29 => ?_) (fun h29 => ?_)
  ·
   rw [itet h29] at hF; try simp at h29
   replace hF := chkO hF; obtain ⟨hc30, hF⟩ := hF
   refine rg fun K hK => ?_
   have q := And.intro q h29
   iterate 4 refine wq ?_
   refine Wq (evF_ix (tg := .none) (rw := TMachOperand.row) (xs := s_1.operands) (k := .i64) (n := ((nth s_1.operands i_2).tied)) (by simp; rfl) rfl (by simp; rfl) (by simp [q]) (by simp [q]) hc30.1 hc30.2 (by simp)) ?_
   refine wq ?_
   refine We rfl ?_; simp [q]
   intro b12 hb12; simp [Fresh] at hb12; have hq12 : ¬b7 = b12 ∧ ¬b4 = b12 ∧ ¬b_0 = b12 := by omega
   have q := And.intro (And.intro q hb12) hq12
   refine We rfl ?_; simp [q]
   refine hK _ _ ?_; clear hK K
   replace hF := bindO hF; obtain ⟨y31, hy31, hF⟩ := hF
   refine rge fun K hK => ?_
   iterate 12 refine wq ?_
   refine We rfl ?_; simp [q]; refine .inr ?_
   refine Wcb ⟨[(b_0, _)], []⟩ ⟨[(b12, _), (b7, _), (b4, _)], []⟩ rfl rfl rfl (by simp [q]; rfl) (by simp [q]; done) (machine_checker_must_ok (b_0 := b_0) hy31) pk1 (by exact pick0) ?_
   rintro _ _ ⟨rfl, rfl⟩; simp [noCells, noCellS, noCellV, noCellC, noCellT, St.add]
   refine hK _ _ ?_; clear hK K
   exact ⟨y31, by simp [q, Fm.rst, nn, nn1], by simp [q, St.only, nn1], hF⟩
  rw [itef h29] at hF; try simp at h29
  refine Run.skip ?_
  have q := And.intro q h29
  exact ⟨y28, by simp [q, Fm.rst, nn, nn1], by simp [q, St.only, nn1], hF⟩
 rw [itef h17] at hF; try simp at h17
 have q := And.intro q h17
 refine Run.join [0, 6, 7, 167] [] [b7, b_0] [] (by simp [q]) (by simp) (by simp) (fun f σ => ∃ v_x32 : Bool, f = ⟨198, [(0, .ptr b_0 0), (6, .int .u64 taken_x2), (7, .ptr b7 0), (167, .bool v_x32)], [], []⟩ ∧ σ = ⟨[(b7, (nth s_1.operands i_2).row), (b_0, v_x4.row)], []⟩ ∧ machine_checker_operand.j1 s_1 i_2 taken_x2 v_x4 v_x32 = some r) ?_ ?_
 ·
  clear hF
  rintro _ _ ⟨v_x32, rfl, rfl, hF⟩
  unfold machine_checker_operand.j1 at hF
  have q := And.intro hb4 (And.intro hq4 (And.intro hb7 hq7))
  refine Run.testEnd (b := v_x32) (by simp [q]) (fun h33 => ?_) (fun h33 => ?_)
  ·
   rw [itet h33] at hF; try simp at h33
   replace hF := bindO hF; obtain ⟨y34, hy34, hF⟩ := hF
   refine rg fun K hK => ?_
   have q := And.intro q h33
   refine wq ?_
   refine wcq (machine_field_ok hy34) ?_; rintro _ rfl; simp
   refine wq ?_
   refine hK _ _ ?_; clear hK K
   replace hF := bindO hF; obtain ⟨y35, hy35, hF⟩ := hF
   replace hF := bindO hF; obtain ⟨y36, hy36, hF⟩ := hF
   refine Run.draw EOK mixed 23 [0, 1, 2, 3, 4, 5, 6, 7, 8, 10, 11, 12, 13, 14, 15, 16, 17, 18, 19, 20, 21, 9, 22] rfl (by kernel_rfl) fun K hK => ?_
   iterate 21 refine Pq rfl (by simp [q]; rfl) ?_
   refine Pc rfl rfl rfl rfl (by first | (simp [q]; rfl) | (simp [q]; done)) (by simp [q]; done) (machine_within_ok hy35) ?_; rintro _ rfl; simp
   refine Pq rfl (by simp [q]; rfl) ?_
   refine Pd ?_
   refine Wcb ⟨[(b_0, _)], []⟩ ⟨[(b7, _)], []⟩ rfl rfl rfl (by simp [q]; rfl) (by simp [q]; done) (machine_checker_must_ok (b_0 := b_0) hy36) pk1 (by exact pick0) ?_
   rintro _ _ ⟨rfl, rfl⟩; simp [noCells, noCellS, noCellV, noCellC, noCellT, St.add]
   refine hK _ _ ?_; clear hK K
   exact ⟨y36, by simp [q, Fm.rst, nn, nn1], by simp [q, St.only, nn1], hF⟩
  rw [itef h33] at hF; try simp at h33
  replace hF := bindO hF; obtain ⟨y37, hy37, hF⟩ := hF
  refine rge fun K hK => ?_
  have q := And.intro q h33
  refine wq ?_
  refine We rfl ?_; simp [q]; refine .inr ?_
  refine Wcb ⟨[(b_0, _)], []⟩ ⟨[(b7, _)], []⟩ rfl rfl rfl (by simp [q]; rfl) (by simp [q]; done) (machine_checker_must_ok (b_0 := b_0) hy37) pk1 (by exact pick0) ?_
  rintro _ _ ⟨rfl, rfl⟩; simp [noCells, noCellS, noCellV, noCellC, noCellT, St.add]
  refine hK _ _ ?_; clear hK K
  exact ⟨y37, by simp [q, Fm.rst, nn, nn1], by simp [q, St.only, nn1], hF⟩
 skip
 refine rg fun K hK => ?_
 iterate 2 refine wq ?_
 refine hK _ _ ?_; clear hK K
 refine Run.testEnd (b := (decide (((nth s_1.operands i_2).kind) = 2))) (by simp [q]) (fun h38 => ?_) (fun h38 => ?_)
 ·
  rw [itet h38] at hF; try simp at h38
  refine Run.skip ?_
  have q := And.intro q h38
  exact ⟨(decide (((nth s_1.operands i_2).kind) = 2)), by simp [q, Fm.rst, nn, nn1], by simp [q, St.only, nn1], hF⟩
 rw [itef h38] at hF; try simp at h38
 refine rg fun K hK => ?_
 have q := And.intro q h38
 iterate 2 refine wq ?_
 refine hK _ _ ?_; clear hK K
 refine Run.testEnd (b := (decide (((nth s_1.operands i_2).kind) = 3))) (by simp [q]) (fun h39 => ?_) (fun h39 => ?_)
 ·
  rw [itet h39] at hF; try simp at h39
  refine Run.skip ?_
  have q := And.intro q h39
  exact ⟨(decide (((nth s_1.operands i_2).kind) = 3)), by simp [q, Fm.rst, nn, nn1], by simp [q, St.only, nn1], hF⟩
 rw [itef h39] at hF; try simp at h39
 refine rge fun K hK => ?_
 have q := And.intro q h39
 iterate 2 refine wq ?_
 refine hK _ _ ?_; clear hK K
 exact ⟨(decide (((nth s_1.operands i_2).kind) = 4)), by simp [q, Fm.rst, nn, nn1], by simp [q, St.only, nn1], hF⟩

/-! machine_checker_effect -/
def machine_checker_effect.j0 [Fx] (s_1 : TMachInstr) (x_2 : TMachEffect) (vars_3 : List (List UInt8 × Int)) (v_x1 : TMachineChecker) : Option (TMachineChecker × (List (List UInt8 × Int))) :=
 ((machine_checker_fits v_x1 vars_3 [x_2.value]).bind fun y2 =>
 (if (decide (x_2.kind = 1)) then
 ((machine_none [x_2.addr, x_2.cond]).bind fun y4 =>
 ((machine_checker_must y2.1 [y4]).bind fun y5 =>
 ((if (decide (x_2.operand = (-1))) then machine_within x_2.reg 0 (IntKind.i64.wrap ((y5.machine.regs.length : Int) - 1)) else some default).bind fun y7 =>
 (if ((decide (x_2.operand = (-1))) && y7) then
 (if (0 : Int) ≤ x_2.reg ∧ x_2.reg < (y5.machine.regs.length : Int) then
 ((machine_checker_must y5 [(decide (x_2.value.width = ((nth y5.machine.regs x_2.reg).width)))]).bind fun y10 =>
 some (y10, y2.2))
 else none)
 else
 ((if (decide (x_2.reg = 0)) then machine_within x_2.operand 0 (IntKind.i64.wrap ((s_1.operands.length : Int) - 1)) else some default).bind fun y12 =>
 (if ((decide (x_2.reg = 0)) && y12) then
 (if (0 : Int) ≤ x_2.operand ∧ x_2.operand < (s_1.operands.length : Int) then
 ((machine_wide y5.machine (nth s_1.operands x_2.operand)).bind fun y15 =>
 ((machine_checker_must y5 [(decide (((nth s_1.operands x_2.operand).kind) = 1)), (decide (x_2.value.width = y15))]).bind fun y16 =>
 some (y16, y2.2)))
 else none)
 else
 ((machine_checker_must y5 [false]).bind fun y17 =>
 some (y17, y2.2))))))))
 else
 (if (decide (x_2.kind = 2)) then
 ((machine_checker_fits y2.1 y2.2 [x_2.addr]).bind fun y19 =>
 ((machine_none [x_2.cond]).bind fun y20 =>
 ((slices_Contains_int [8, 16, 32, 64] x_2.value.width).bind fun y21 =>
 ((machine_checker_must y19.1 [y20, (decide (x_2.addr.width = y19.1.machine.address)), y21]).bind fun y22 =>
 some (y22, y19.2)))))
 else
 (if (decide (x_2.kind = 3)) then
 ((machine_none [x_2.addr]).bind fun y24 =>
 ((machine_checker_must y2.1 [y24, (decide (x_2.value.width = y2.1.machine.address))]).bind fun y25 =>
 ((machine_none [x_2.cond]).bind fun y26 =>
 (if (!y26) then
 ((machine_checker_fits y25 y2.2 [x_2.cond]).bind fun y28 =>
 ((machine_checker_must y28.1 [(decide (x_2.cond.width = 1))]).bind fun y29 =>
 some (y29, y28.2)))
 else
 some (y25, y2.2)))))
 else
 (if (decide (x_2.kind = 4)) then
 ((machine_none [x_2.addr, x_2.cond]).bind fun y31 =>
 ((machine_checker_must y2.1 [y31]).bind fun y32 =>
 some (y32, y2.2)))
 else
 ((machine_checker_must y2.1 [false]).bind fun y33 =>
 some (y33, y2.2)))))))
def machine_checker_effect [Fx] (c_0 : TMachineChecker) (s_1 : TMachInstr) (x_2 : TMachEffect) (vars_3 : List (List UInt8 × Int)) : Option (TMachineChecker × (List (List UInt8 × Int))) :=
 (if (!decide (x_2.kind = 1)) then
 ((machine_checker_must c_0 [(decide (x_2.operand = 0)), (decide (x_2.reg = 0))]).bind fun y35 =>
 machine_checker_effect.j0 s_1 x_2 vars_3 y35)
 else
 machine_checker_effect.j0 s_1 x_2 vars_3 c_0)
theorem machine_checker_effect_ok [Fx] {b_0 : Nat} {b_3 : Nat} {c_0 : TMachineChecker} {s_1 : TMachInstr} {x_2 : TMachEffect} {vars_3 : List (List UInt8 × Int)} {r : TMachineChecker × (List (List UInt8 × Int))} (hF : machine_checker_effect c_0 s_1 x_2 vars_3 = some r) : ACall Tryd.prog EE 61 [.ptr b_0 0, .agg s_1.row, .agg x_2.row, .map b_3] ⟨[(b_0, c_0.row)], [(b_3, .mp (vars_3.map (mS (AV.int .i64))))]⟩ fun v σ => v = .tup [] ∧ σ = ⟨[(b_0, r.1.row)], [(b_3, .mp (r.2.map (mS (AV.int .i64))))]⟩ := by
 refine ACall.of_fun EOK (F := Tryd.f61) 190 [] (by kernel_rfl) rfl rfl rfl rfl (Nat.le_of_ble_eq_true rfl) (by simp) ?_
 simp only [slotsA]
 unfold machine_checker_effect at hF
 refine rg fun K hK => ?_
 refine We rfl ?_; simp
 intro b5 hb5; simp [Fresh] at hb5; have hq5 : ¬b_0 = b5 ∧ ¬b_3 = b5 := by omega
 have q := And.intro hb5 hq5
 refine We rfl ?_; simp [q]
 intro b6 hb6; simp [Fresh] at hb6; have hq6 : ¬b5 = b6 ∧ ¬b_0 = b6 ∧ ¬b_3 = b6 := by omega
 refine hK _ _ ?_; clear hK K
 have q := And.intro (And.intro q hb6) hq6
 refine Run.join [0, 3, 5, 6] [] [b6, b5, b_0] [b_3] (by simp [q]) (by simp) (by simp) (fun f σ => ∃ v_x1 : TMachineChecker, f = ⟨190, [(0, .ptr b_0 0), (3, .map b_3), (5, .ptr b5 0), (6, .ptr b6 0)], [], []⟩ ∧ σ = ⟨[(b6, x_2.row), (b5, s_1.row), (b_0, v_x1.row)], [(b_3, .mp (vars_3.map (mS (AV.int .i64))))]⟩ ∧ machine_checker_effect.j0 s_1 x_2 vars_3 v_x1 = some r) ?_ ?_
 ·
  clear hF
  rintro _ _ ⟨v_x1, rfl, rfl, hF⟩
  unfold machine_checker_effect.j0 at hF
  replace hF := bindO hF; obtain ⟨y2, hy2, hF⟩ := hF
  refine rg fun K hK => ?_
  iterate 4 refine wq ?_
  refine We rfl ?_; simp [q]; refine .inr ?_
  refine Wcb ⟨[(b_0, _)], [(b_3, _)]⟩ ⟨[(b6, _), (b5, _)], []⟩ rfl rfl rfl (by simp [q]; rfl) (by simp [q]; done) (machine_checker_fits_ok (b_0 := b_0) (b_1 := b_3) hy2) pk1 pk1 ?_
  rintro _ _ ⟨rfl, rfl⟩; simp [noCells, noCellS, noCellV, noCellC, noCellT, St.add]
  refine hK _ _ ?_; clear hK K
  refine rg fun K hK => ?_
  iterate 2 refine wq ?_
  refine hK _ _ ?_; clear hK K
  refine Run.block ?_
  refine rg fun K hK => ?_
  iterate 2 refine wq ?_
  refine hK _ _ ?_; clear hK K
  refine Run.testEnd (b := (decide (x_2.kind = 1))) (by simp [q]) (fun h3 => ?_) (fun h3 => ?_)
  ·
   rw [itet h3] at hF; try simp at h3
   replace hF := bindO hF; obtain ⟨y4, hy4, hF⟩ := hF
   replace hF := bindO hF; obtain ⟨y5, hy5, hF⟩ := hF
   refine rg fun K hK => ?_
   have q := And.intro q h3
   iterate 5 refine wq ?_
   refine We rfl ?_; simp [q]; refine .inr ?_
   refine wcq (machine_none_ok hy4) ?_; rintro _ rfl; simp
   refine We rfl ?_; simp [q]; refine .inr ?_
   refine Wcb ⟨[(b_0, _)], []⟩ ⟨[(b6, _), (b5, _)], [(b_3, _)]⟩ rfl rfl rfl (by simp [q]; rfl) (by simp [q]; done) (machine_checker_must_ok (b_0 := b_0) hy5) pk1 (by exact pick0) ?_
   rintro _ _ ⟨rfl, rfl⟩; simp [noCells, noCellS, noCellV, noCellC, noCellT, St.add]
   refine hK _ _ ?_; clear hK K
   refine Run.block ?_
   replace hF := bindO hF; obtain ⟨y7, hy7, hF⟩ := hF
   refine Run.drawReg EOK mixed 13 [0, 1, 2, 3, 4, 5, 6, 7, 8, 9, 10, 11, 12] rfl (by kernel_rfl) fun K hK => ?_
   iterate 4 refine Pq rfl (by simp [q]; rfl) ?_
   obtain ⟨g6, e6⟩ : ∃ g, g = (decide (x_2.operand = (-1))) := ⟨_, rfl⟩
   iterate 9 refine Pg rfl rfl (b := g6) (by simp [q, e6]) (fun hg => by simp [q, hg]; rfl) ?_
   refine Pd ?_
   refine Wgc rfl rfl (b := g6) (by simp [q, e6]) rfl rfl (fun hg => by simp [q, hg]; rfl) (fun hg => by simp [q, hg]; done) (fun hg => machine_within_ok ((itet (e6.symm.trans hg)).symm.trans hy7)) ?_
   simp
   refine Wand (t := (decide (x_2.operand = (-1)))) (β := y7) (by simp [q]) rfl (fun hh => by have h0 := e6.trans hh; simp [q, h0]) (by first | (simp; done) | (simp; rfl)) ?_
   refine wq ?_
   refine hK _ _ ?_; clear hK K
   refine Run.testEnd (b := ((decide (x_2.operand = (-1))) && y7)) (by simp [q]) (fun h8 => ?_) (fun h8 => ?_)
   ·
    rw [itet h8] at hF; try simp at h8
    replace hF := chkO hF; obtain ⟨hc9, hF⟩ := hF
    replace hF := bindO hF; obtain ⟨y10, hy10, hF⟩ := hF
    refine Run.draw EOK mixed 16 [0, 1, 2, 3, 4, 5, 6, 7, 8, 9, 10, 11, 12, 13, 14, 15] rfl (by kernel_rfl) fun K hK => ?_
    have q := And.intro q h8
    iterate 11 refine Pq rfl (by simp [q]; rfl) ?_
    refine Pq rfl (evP_of (evF_ix (tg := .none) (rw := TMachReg.row) (xs := y5.machine.regs) (k := .i64) (n := x_2.reg) (by simp; rfl) rfl (by simp; rfl) (by simp [q]) (by simp [q]) hc9.1 hc9.2 (by simp))) ?_
    iterate 4 refine Pq rfl (by simp [q]; rfl) ?_
    refine Pd ?_
    refine Wcb ⟨[(b_0, _)], []⟩ ⟨[(b6, _), (b5, _)], [(b_3, _)]⟩ rfl rfl rfl (by simp [q]; rfl) (by simp [q]; done) (machine_checker_must_ok (b_0 := b_0) hy10) pk1 (by exact pick0) ?_
    rintro _ _ ⟨rfl, rfl⟩; simp [noCells, noCellS, noCellV, noCellC, noCellT, St.add]
    refine hK _ _ ?_; clear hK K
    obtain rfl := Option.some.inj hF
    refine ⟨by simp, by simp, _, _, _, rfl, .inl rfl, ?_, ?_, ?_, rfl⟩
    all_goals simp [tupA, hb5, hq5, hb6, hq6, h3, h8]
   rw [itef h8] at hF; try simp at h8
   replace hF := bindO hF; obtain ⟨y12, hy12, hF⟩ := hF
   refine rg fun K hK => ?_
   have q := And.intro q h8
   iterate 4 refine wq ?_
   obtain ⟨g11, e11⟩ : ∃ g, g = (decide (x_2.reg = 0)) := ⟨_, rfl⟩
   iterate 6 refine Wg rfl (b := g11) (by simp [q, e11]) (fun hg => by simp [q, hg]; rfl) ?_
   refine Wgc rfl rfl (b := g11) (by simp [q, e11]) rfl rfl (fun hg => by simp [q, hg]; rfl) (fun hg => by simp [q, hg]; done) (fun hg => machine_within_ok ((itet (e11.symm.trans hg)).symm.trans hy12)) ?_
   simp
   refine Wand (t := (decide (x_2.reg = 0))) (β := y12) (by simp [q]) rfl (fun hh => by have h0 := e11.trans hh; simp [q, h0]) (by first | (simp; done) | (simp; rfl)) ?_
   refine wq ?_
   refine hK _ _ ?_; clear hK K
   refine Run.testEnd (b := ((decide (x_2.reg = 0)) && y12)) (by simp [q]) (fun h13 => ?_) (fun h13 => ?_)
   ·
    rw [itet h13] at hF; try simp at h13
    replace hF := chkO hF; obtain ⟨hc14, hF⟩ := hF
    refine rg fun K hK => ?_
    have q := And.intro q h13
    iterate 4 refine wq ?_
    refine Wq (evF_ix (tg := .none) (rw := TMachOperand.row) (xs := s_1.operands) (k := .i64) (n := x_2.operand) (by simp; rfl) rfl (by simp; rfl) (by simp [q]) (by simp [q]) hc14.1 hc14.2 (by simp)) ?_
    refine wq ?_
    refine We rfl ?_; simp [q]
    intro b8 hb8; simp [Fresh] at hb8; have hq8 : ¬b6 = b8 ∧ ¬b5 = b8 ∧ ¬b_0 = b8 ∧ ¬b_3 = b8 := by omega
    have q := And.intro (And.intro q hb8) hq8
    refine We rfl ?_; simp [q]
    refine hK _ _ ?_; clear hK K
    replace hF := bindO hF; obtain ⟨y15, hy15, hF⟩ := hF
    replace hF := bindO hF; obtain ⟨y16, hy16, hF⟩ := hF
    refine Run.draw EOK mixed 15 [0, 1, 2, 3, 4, 5, 6, 7, 8, 9, 10, 11, 12, 13, 14] rfl (by kernel_rfl) fun K hK => ?_
    iterate 12 refine Pq rfl (by simp [q]; rfl) ?_
    refine Pc rfl rfl rfl rfl (by first | (simp [q]; rfl) | (simp [q]; done)) (by simp [q]; done) (machine_wide_ok hy15) ?_; rintro _ rfl; simp
    iterate 2 refine Pq rfl (by simp [q]; rfl) ?_
    refine Pd ?_
    refine Wcb ⟨[(b_0, _)], []⟩ ⟨[(b8, _), (b6, _), (b5, _)], [(b_3, _)]⟩ rfl rfl rfl (by simp [q]; rfl) (by simp [q]; done) (machine_checker_must_ok (b_0 := b_0) hy16) pk1 (by exact pick0) ?_
    rintro _ _ ⟨rfl, rfl⟩; simp [noCells, noCellS, noCellV, noCellC, noCellT, St.add]
    refine hK _ _ ?_; clear hK K
    obtain rfl := Option.some.inj hF
    refine ⟨by simp, by simp, _, _, _, rfl, .inl rfl, ?_, ?_, ?_, rfl⟩
    all_goals simp [tupA, hb5, hq5, hb6, hq6, h3, h8, h13, hb8, hq8]
   rw [itef h13] at hF; try simp at h13
   replace hF := bindO hF; obtain ⟨y17, hy17, hF⟩ := hF
   refine rge fun K hK => ?_
   have q := And.intro q h13
   refine wq ?_
   refine We rfl ?_; simp [q]; refine .inr ?_
   refine Wcb ⟨[(b_0, _)], []⟩ ⟨[(b6, _), (b5, _)], [(b_3, _)]⟩ rfl rfl rfl (by simp [q]; rfl) (by simp [q]; done) (machine_checker_must_ok (b_0 := b_0) hy17) pk1 (by exact pick0) ?_
   rintro _ _ ⟨rfl, rfl⟩; simp [noCells, noCellS, noCellV, noCellC, noCellT, St.add]
   refine hK _ _ ?_; clear hK K
   obtain rfl := Option.some.inj hF
   refine ⟨by simp, by simp, _, _, _, rfl, .inl rfl, ?_, ?_, ?_, rfl⟩
   all_goals simp [tupA, hb5, hq5, hb6, hq6, h3, h8, h13]
  rw [itef h3] at hF; try simp at h3
  refine rg fun K hK => ?_
  have q := And.intro q h3
  iterate 2 refine wq ?_
  refine hK _ _ ?_; clear hK K
  refine Run.testEnd (b := (decide (x_2.kind = 2))) (by simp [q]) (fun h18 => ?_) (fun h18 => ?_)
  ·
   rw [itet h18] at hF; try simp at h18
   replace hF := bindO hF; obtain ⟨y19, hy19, hF⟩ := hF
   refine rg fun K hK => ?_
   have q := And.intro q h18
   iterate 4 refine wq ?_
   refine We rfl ?_; simp [q]; refine .inr ?_
   refine Wcb ⟨[(b_0, _)], [(b_3, _)]⟩ ⟨[(b6, _), (b5, _)], []⟩ rfl rfl rfl (by simp [q]; rfl) (by simp [q]; done) (machine_checker_fits_ok (b_0 := b_0) (b_1 := b_3) hy19) pk1 pk1 ?_
   rintro _ _ ⟨rfl, rfl⟩; simp [noCells, noCellS, noCellV, noCellC, noCellT, St.add]
   refine hK _ _ ?_; clear hK K
   replace hF := bindO hF; obtain ⟨y20, hy20, hF⟩ := hF
   replace hF := bindO hF; obtain ⟨y21, hy21, hF⟩ := hF
   replace hF := bindO hF; obtain ⟨y22, hy22, hF⟩ := hF
   refine Run.draw EOK mixed 20 [0, 1, 2, 3, 5, 6, 7, 8, 9, 10, 11, 12, 13, 14, 15, 16, 17, 4, 18, 19] rfl (by kernel_rfl) fun K hK => ?_
   iterate 17 refine Pq rfl (by simp [q]; rfl) ?_
   refine Pc rfl rfl rfl rfl (by first | (simp [q]; rfl) | (simp [q]; done)) (by simp [q]; done) (machine_none_ok hy20) ?_; rintro _ rfl; simp
   refine Pc rfl rfl rfl rfl (by first | (simp [q]; rfl) | (simp [q]; done)) (by simp [q]; done) (PCall.unfull (pre := []) (post := [.int .i64 x_2.value.width]) (slices_Contains_int_ok hy21)) ?_; rintro _ rfl; simp
   refine Pq rfl (by simp [q]; rfl) ?_
   refine Pd ?_
   refine Wcb ⟨[(b_0, _)], []⟩ ⟨[(b6, _), (b5, _)], [(b_3, _)]⟩ rfl rfl rfl (by simp [q]; rfl) (by simp [q]; done) (machine_checker_must_ok (b_0 := b_0) hy22) pk1 (by exact pick0) ?_
   rintro _ _ ⟨rfl, rfl⟩; simp [noCells, noCellS, noCellV, noCellC, noCellT, St.add]
   refine hK _ _ ?_; clear hK K
   obtain rfl := Option.some.inj hF
   refine ⟨by simp, by simp, _, _, _, rfl, .inl rfl, ?_, ?_, ?_, rfl⟩
   all_goals simp [tupA, hb5, hq5, hb6, hq6, h3, h18]
  rw [itef h18] at hF; try simp at h18
  refine rg fun K hK => ?_
  have q := And.intro q h18
  iterate 2 refine wq ?_
  refine hK _ _ ?_; clear hK K
  refine Run.testEnd (b := (decide (x_2.kind = 3))) (by simp [q]) (fun h23 => ?_) (fun h23 => ?_)
  ·
   rw [itet h23] at hF; try simp at h23
   replace hF := bindO hF; obtain ⟨y24, hy24, hF⟩ := hF
   replace hF := bindO hF; obtain ⟨y25, hy25, hF⟩ := hF
   refine Run.drawReg EOK mixed 15 [0, 1, 2, 3, 5, 6, 7, 8, 9, 10, 11, 12, 13, 4, 14] rfl (by kernel_rfl) fun K hK => ?_
   have q := And.intro q h23
   iterate 13 refine Pq rfl (by simp [q]; rfl) ?_
   refine Pc rfl rfl rfl rfl (by first | (simp [q]; rfl) | (simp [q]; done)) (by simp [q]; done) (machine_none_ok hy24) ?_; rintro _ rfl; simp
   refine Pq rfl (by simp [q]; rfl) ?_
   refine Pd ?_
   refine Wcb ⟨[(b_0, _)], []⟩ ⟨[(b6, _), (b5, _)], [(b_3, _)]⟩ rfl rfl rfl (by simp [q]; rfl) (by simp [q]; done) (machine_checker_must_ok (b_0 := b_0) hy25) pk1 (by exact pick0) ?_
   rintro _ _ ⟨rfl, rfl⟩; simp [noCells, noCellS, noCellV, noCellC, noCellT, St.add]
   refine hK _ _ ?_; clear hK K
   replace hF := bindO hF; obtain ⟨y26, hy26, hF⟩ := hF
   refine rg fun K hK => ?_
   iterate 2 refine wq ?_
   refine We rfl ?_; simp [q]; refine .inr ?_
   refine wcq (machine_none_ok hy26) ?_; rintro _ rfl; simp
   refine wq ?_
   refine hK _ _ ?_; clear hK K
   refine Run.testEnd (b := (!y26)) (by simp [q]) (fun h27 => ?_) (fun h27 => ?_)
   ·
    rw [itet h27] at hF; try simp at h27
    replace hF := bindO hF; obtain ⟨y28, hy28, hF⟩ := hF
    refine rg fun K hK => ?_
    have q := And.intro q h27
    iterate 4 refine wq ?_
    refine We rfl ?_; simp [q]; refine .inr ?_
    refine Wcb ⟨[(b_0, _)], [(b_3, _)]⟩ ⟨[(b6, _), (b5, _)], []⟩ rfl rfl rfl (by simp [q]; rfl) (by simp [q]; done) (machine_checker_fits_ok (b_0 := b_0) (b_1 := b_3) hy28) pk1 pk1 ?_
    rintro _ _ ⟨rfl, rfl⟩; simp [noCells, noCellS, noCellV, noCellC, noCellT, St.add]
    refine hK _ _ ?_; clear hK K
    replace hF := bindO hF; obtain ⟨y29, hy29, hF⟩ := hF
    refine rge fun K hK => ?_
    iterate 5 refine wq ?_
    refine We rfl ?_; simp [q]; refine .inr ?_
    refine Wcb ⟨[(b_0, _)], []⟩ ⟨[(b6, _), (b5, _)], [(b_3, _)]⟩ rfl rfl rfl (by simp [q]; rfl) (by simp [q]; done) (machine_checker_must_ok (b_0 := b_0) hy29) pk1 (by exact pick0) ?_
    rintro _ _ ⟨rfl, rfl⟩; simp [noCells, noCellS, noCellV, noCellC, noCellT, St.add]
    refine hK _ _ ?_; clear hK K
    obtain rfl := Option.some.inj hF
    refine ⟨by simp, by simp, _, _, _, rfl, .inl rfl, ?_, ?_, ?_, rfl⟩
    all_goals simp [tupA, hb5, hq5, hb6, hq6, h3, h18, h23, h27]
   rw [itef h27] at hF; try simp at h27
   refine Run.skip ?_
   obtain rfl := Option.some.inj hF
   refine ⟨by simp, by simp, _, _, _, rfl, .inl rfl, ?_, ?_, ?_, rfl⟩
   all_goals simp [tupA, hb5, hq5, hb6, hq6, h3, h18, h23, h27]
  rw [itef h23] at hF; try simp at h23
  refine rg fun K hK => ?_
  have q := And.intro q h23
  iterate 2 refine wq ?_
  refine hK _ _ ?_; clear hK K
  refine Run.testEnd (b := (decide (x_2.kind = 4))) (by simp [q]) (fun h30 => ?_) (fun h30 => ?_)
  ·
   rw [itet h30] at hF; try simp at h30
   replace hF := bindO hF; obtain ⟨y31, hy31, hF⟩ := hF
   replace hF := bindO hF; obtain ⟨y32, hy32, hF⟩ := hF
   refine rge fun K hK => ?_
   have q := And.intro q h30
   iterate 5 refine wq ?_
   refine We rfl ?_; simp [q]; refine .inr ?_
   refine wcq (machine_none_ok hy31) ?_; rintro _ rfl; simp
   refine We rfl ?_; simp [q]; refine .inr ?_
   refine Wcb ⟨[(b_0, _)], []⟩ ⟨[(b6, _), (b5, _)], [(b_3, _)]⟩ rfl rfl rfl (by simp [q]; rfl) (by simp [q]; done) (machine_checker_must_ok (b_0 := b_0) hy32) pk1 (by exact pick0) ?_
   rintro _ _ ⟨rfl, rfl⟩; simp [noCells, noCellS, noCellV, noCellC, noCellT, St.add]
   refine hK _ _ ?_; clear hK K
   obtain rfl := Option.some.inj hF
   refine ⟨by simp, by simp, _, _, _, rfl, .inl rfl, ?_, ?_, ?_, rfl⟩
   all_goals simp [tupA, hb5, hq5, hb6, hq6, h3, h18, h23, h30]
  rw [itef h30] at hF; try simp at h30
  replace hF := bindO hF; obtain ⟨y33, hy33, hF⟩ := hF
  refine rge fun K hK => ?_
  have q := And.intro q h30
  refine wq ?_
  refine We rfl ?_; simp [q]; refine .inr ?_
  refine Wcb ⟨[(b_0, _)], []⟩ ⟨[(b6, _), (b5, _)], [(b_3, _)]⟩ rfl rfl rfl (by simp [q]; rfl) (by simp [q]; done) (machine_checker_must_ok (b_0 := b_0) hy33) pk1 (by exact pick0) ?_
  rintro _ _ ⟨rfl, rfl⟩; simp [noCells, noCellS, noCellV, noCellC, noCellT, St.add]
  refine hK _ _ ?_; clear hK K
  obtain rfl := Option.some.inj hF
  refine ⟨by simp, by simp, _, _, _, rfl, .inl rfl, ?_, ?_, ?_, rfl⟩
  all_goals simp [tupA, hb5, hq5, hb6, hq6, h3, h18, h23, h30]
 skip
 refine rg fun K hK => ?_
 iterate 3 refine wq ?_
 refine hK _ _ ?_; clear hK K
 refine Run.testEnd (b := (!decide (x_2.kind = 1))) (by simp [q]) (fun h34 => ?_) (fun h34 => ?_)
 ·
  rw [itet h34] at hF; try simp at h34
  replace hF := bindO hF; obtain ⟨y35, hy35, hF⟩ := hF
  refine rge fun K hK => ?_
  have q := And.intro q h34
  iterate 7 refine wq ?_
  refine We rfl ?_; simp [q]; refine .inr ?_
  refine Wcb ⟨[(b_0, _)], []⟩ ⟨[(b6, _), (b5, _)], [(b_3, _)]⟩ rfl rfl rfl (by simp [q]; rfl) (by simp [q]; done) (machine_checker_must_ok (b_0 := b_0) hy35) pk1 (by exact pick0) ?_
  rintro _ _ ⟨rfl, rfl⟩; simp [noCells, noCellS, noCellV, noCellC, noCellT, St.add]
  refine hK _ _ ?_; clear hK K
  exact ⟨y35, by simp [q, Fm.rst, nn, nn1], by simp [q, St.only, nn1], hF⟩
 rw [itef h34] at hF; try simp at h34
 refine Run.skip ?_
 have q := And.intro q h34
 exact ⟨c_0, by simp [q, Fm.rst, nn, nn1], by simp [q, St.only, nn1], hF⟩

/-! machine_checker_instr -/
def machine_checker_instr.l1 [Fx] (s_1 : TMachInstr) : Int × TMachineChecker × (List (Int × Int)) × (List (List UInt8 × Int)) → Option ((Int × TMachineChecker × (List (Int × Int)) × (List (List UInt8 × Int))) ⊕ TMachineChecker) := fun v =>
 match v with
 | (v_x20, v_x21, v_x22, v_x23) =>
 (if (decide (v_x20 < (s_1.effects.length : Int))) then
 (if (0 : Int) ≤ v_x20 ∧ v_x20 < (s_1.effects.length : Int) then
 ((machine_checker_effect v_x21 s_1 (nth s_1.effects v_x20) v_x23).bind fun y30 =>
 some (.inl ((IntKind.i64.wrap (v_x20 + 1)), y30.1, (aput v_x22 ((nth s_1.effects v_x20).kind) (IntKind.i64.wrap (((aget v_x22 ((nth s_1.effects v_x20).kind)).getD 0) + 1))), y30.2)))
 else none)
 else
 (Option.map Sum.inr ((machine_within s_1.unit 0 (IntKind.i64.wrap ((v_x21.machine.units.length : Int) - 1))).bind fun y33 =>
 ((machine_within s_1.busy 1 15).bind fun y34 =>
 ((machine_within s_1.latency 1 15).bind fun y35 =>
 ((machine_within s_1.slots 0 2).bind fun y36 =>
 ((machine_checker_must v_x21 [(decide (((aget v_x22 3).getD 0) ≤ 1)), ((decide (((aget v_x22 4).getD 0) = 0)) || (decide ((s_1.effects.length : Int) = 1))), y33, y34, y35, y36, ((decide (s_1.slots = 0)) || (decide (((aget v_x22 3).getD 0) = 1)))]).bind fun y38 =>
 some y38)))))))
def machine_checker_instr.l0 [Fx] (s_1 : TMachInstr) : Int × Int × (List (List UInt8)) × TMachineChecker → Option ((Int × Int × (List (List UInt8)) × TMachineChecker) ⊕ TMachineChecker) := fun v =>
 match v with
 | (taken_x3, v_x4, v_x5, v_x6) =>
 (if (decide (v_x4 < (s_1.operands.length : Int))) then
 (if (0 : Int) ≤ v_x4 ∧ v_x4 < (s_1.operands.length : Int) then
 ((machine_names_fresh (TMachineNames.mk v_x5) ((nth s_1.operands v_x4).name)).bind fun y13 =>
 ((machine_checker_must v_x6 [y13.2]).bind fun y14 =>
 ((machine_checker_operand y14 s_1 v_x4).bind fun y15 =>
 ((machine_checker_must y15.1 [(decide ((iand .u64 taken_x3 y15.2) = 0))]).bind fun y16 =>
 some (.inl ((ior .u64 taken_x3 y15.2), (IntKind.i64.wrap (v_x4 + 1)), y13.1.used, y16))))))
 else none)
 else
 (Option.map Sum.inr (if (!v_x6.ok) then
 some v_x6
 else
 ((machine_checker_variables v_x6 s_1).bind fun y18 =>
 Fx.fx (machine_checker_instr.l1 s_1) (0, y18.1, [], y18.2)))))
def machine_checker_instr [Fx] (c_0 : TMachineChecker) (s_1 : TMachInstr) : Option TMachineChecker :=
 ((bits_Mask (IntKind.i64.wrap (8 * c_0.machine.word))).bind fun y1 =>
 ((machine_checker_must c_0 [(decide ((iandNot .u64 s_1.mask y1) = 0)), (decide ((iandNot .u64 s_1.match_ s_1.mask) = 0))]).bind fun y2 =>
 Fx.fx (machine_checker_instr.l0 s_1) (s_1.mask, 0, [[112, 99]], y2)))
theorem machine_checker_instr_ok [Fx] {b_0 : Nat} {c_0 : TMachineChecker} {s_1 : TMachInstr} {r : TMachineChecker} (hF : machine_checker_instr c_0 s_1 = some r) : ACall Tryd.prog EE 35 [.ptr b_0 0, .agg s_1.row] ⟨[(b_0, c_0.row)], []⟩ fun v σ => v = .tup [] ∧ σ = ⟨[(b_0, r.row)], []⟩ := by
 refine ACall.of_fun EOK (F := Tryd.f35) 136 [] (by kernel_rfl) rfl rfl rfl rfl (Nat.le_of_ble_eq_true rfl) (by simp) ?_
 simp only [slotsA]
 unfold machine_checker_instr at hF
 refine rg fun K hK => ?_
 refine We rfl ?_; simp
 intro b3 hb3; simp [Fresh] at hb3; have hq3 : ¬b_0 = b3 := by omega
 refine hK _ _ ?_; clear hK K
 replace hF := bindO hF; obtain ⟨y1, hy1, hF⟩ := hF
 replace hF := bindO hF; obtain ⟨y2, hy2, hF⟩ := hF
 refine Run.drawReg EOK mixed 19 [0, 1, 2, 3, 4, 5, 6, 7, 8, 12, 13, 14, 15, 16, 17, 9, 10, 11, 18] rfl (by kernel_rfl) fun K hK => ?_
 have q := And.intro hb3 hq3
 iterate 15 refine Pq rfl (by simp [q]; rfl) ?_
 refine Pc rfl rfl rfl rfl (by first | (simp [q]; rfl) | (simp [q]; done)) (by simp [q]; done) (bits_Mask_ok hy1) ?_; rintro _ rfl; simp
 iterate 3 refine Pq rfl (by simp [q]; rfl) ?_
 refine Pd ?_
 refine Wcb ⟨[(b_0, _)], []⟩ ⟨[(b3, _)], []⟩ rfl rfl rfl (by simp [q]; rfl) (by simp [q]; done) (machine_checker_must_ok (b_0 := b_0) hy2) pk1 (by exact pick0) ?_
 rintro _ _ ⟨rfl, rfl⟩; simp [noCells, noCellS, noCellV, noCellC, noCellT, St.add]
 refine hK _ _ ?_; clear hK K
 refine rg fun K hK => ?_
 refine We rfl ?_; simp [q]; refine .inl ?_
 refine wq ?_
 refine We rfl ?_; simp [q]
 intro b4 hb4; simp [Fresh] at hb4; have hq4 : ¬b3 = b4 ∧ ¬b_0 = b4 := by omega
 have q := And.intro (And.intro q hb4) hq4
 refine We rfl ?_; simp [q]
 refine hK _ _ ?_; clear hK K
 refine rg fun K hK => ?_
 iterate 3 refine wq ?_
 refine hK _ _ ?_; clear hK K
 refine Run.seq ?_
 refine rg fun K hK => ?_
 iterate 4 refine wq ?_
 refine hK _ _ ?_; clear hK K
 refine Run.block ?_
 refine Run.fixX hF [0, 3, 4, 5, 39, 40, 41] [] [b4, b3, b_0] [] (by simp [q]) (by simp) (by simp) (fun v f σ => ∃ taken_x3 : Int, ∃ v_x4 : Int, ∃ v_x5 : List (List UInt8), ∃ v_x6 : TMachineChecker, v = (taken_x3, v_x4, v_x5, v_x6) ∧ f = ⟨136, [(0, .ptr b_0 0), (3, .ptr b3 0), (4, .ptr b4 0), (5, .int .u64 taken_x3), (39, .list .none (s_1.operands.map TMachOperand.row)), (40, .int .i64 (s_1.operands.length : Int)), (41, .int .i64 v_x4)], [], []⟩ ∧ σ = ⟨[(b4, ([.grow 1 (v_x5.map rwS)])), (b3, s_1.row), (b_0, v_x6.row)], []⟩) ?_ ?_
 ·
  exact ⟨s_1.mask, 0, [[112, 99]], y2, rfl, by simp [q, Fm.rst, nn, nn1], by simp [q, St.only, nn1]⟩
 clear hF
 rintro _ _ _ yy1 ⟨taken_x3, v_x4, v_x5, v_x6, rfl, rfl, rfl⟩ hF hR1
 simp only [machine_checker_instr.l0] at hF
 refine rg fun K hK => ?_
 refine wq ?_
 refine hK _ _ ?_; clear hK K
 refine Run.seq ?_
 refine Run.testEnd (b := (decide (v_x4 < (s_1.operands.length : Int)))) (by simp [q]) (fun h11 => ?_) (fun h11 => ?_)
 ·
  rw [itet h11] at hF; try simp at h11
  refine Run.skip ?_
  show Run _ _ _ _ _ _
  refine Run.seq ?_
  refine Run.block ?_
  replace hF := chkO hF; obtain ⟨hc12, hF⟩ := hF
  refine rg fun K hK => ?_
  have q := And.intro q h11
  refine wq ?_
  refine Wq (evF_ix (tg := .none) (rw := TMachOperand.row) (xs := s_1.operands) (k := .i64) (n := v_x4) (by simp; rfl) rfl (by simp; rfl) (by simp [q]) (by simp [q]) hc12.1 hc12.2 (by simp)) ?_
  refine wq ?_
  refine We rfl ?_; simp [q]
  intro b7 hb7; simp [Fresh] at hb7; have hq7 : ¬b4 = b7 ∧ ¬b3 = b7 ∧ ¬b_0 = b7 := by omega
  have q := And.intro (And.intro q hb7) hq7
  refine wq ?_
  refine We rfl ?_; simp [q]
  refine hK _ _ ?_; clear hK K
  replace hF := bindO hF; obtain ⟨y13, hy13, hF⟩ := hF
  replace hF := bindO hF; obtain ⟨y14, hy14, hF⟩ := hF
  refine rg fun K hK => ?_
  iterate 3 refine wq ?_
  refine Wcb ⟨[(b4, _)], []⟩ ⟨[(b7, _), (b3, _), (b_0, _)], []⟩ rfl rfl rfl (by simp [q]; rfl) (by simp [q]; done) (machine_names_fresh_ok (b_0 := b4) hy13) pk1 (by exact pick0) ?_
  rintro _ _ ⟨rfl, rfl⟩; simp [noCells, noCellS, noCellV, noCellC, noCellT, St.add]
  refine We rfl ?_; simp [q]; refine .inr ?_
  refine Wcb ⟨[(b_0, _)], []⟩ ⟨[(b7, _), (b3, _), (b4, _)], []⟩ rfl rfl rfl (by simp [q]; rfl) (by simp [q]; done) (machine_checker_must_ok (b_0 := b_0) hy14) pk1 (by exact pick0) ?_
  rintro _ _ ⟨rfl, rfl⟩; simp [noCells, noCellS, noCellV, noCellC, noCellT, St.add]
  refine hK _ _ ?_; clear hK K
  replace hF := bindO hF; obtain ⟨y15, hy15, hF⟩ := hF
  refine rg fun K hK => ?_
  iterate 3 refine wq ?_
  refine Wcb ⟨[(b_0, _)], []⟩ ⟨[(b7, _), (b3, _), (b4, _)], []⟩ rfl rfl rfl (by simp [q]; rfl) (by simp [q]; done) (machine_checker_operand_ok (b_0 := b_0) hy15) pk1 (by exact pick0) ?_
  rintro _ _ ⟨rfl, rfl⟩; simp [noCells, noCellS, noCellV, noCellC, noCellT, St.add]
  refine wq ?_
  refine hK _ _ ?_; clear hK K
  replace hF := bindO hF; obtain ⟨y16, hy16, hF⟩ := hF
  refine rg fun K hK => ?_
  iterate 5 refine wq ?_
  refine We rfl ?_; simp [q]; refine .inr ?_
  refine Wcb ⟨[(b_0, _)], []⟩ ⟨[(b7, _), (b3, _), (b4, _)], []⟩ rfl rfl rfl (by simp [q]; rfl) (by simp [q]; done) (machine_checker_must_ok (b_0 := b_0) hy16) pk1 (by exact pick0) ?_
  rintro _ _ ⟨rfl, rfl⟩; simp [noCells, noCellS, noCellV, noCellC, noCellT, St.add]
  refine hK _ _ ?_; clear hK K
  refine rge fun K hK => ?_
  iterate 4 refine wq ?_
  refine hK _ _ ?_; clear hK K
  show Run _ _ _ _ _ _
  refine rge fun K hK => ?_
  iterate 2 refine wq ?_
  refine hK _ _ ?_; clear hK K
  exact ⟨_, (Option.some.inj hF).symm, (ior .u64 taken_x3 y15.2), (IntKind.i64.wrap (v_x4 + 1)), y13.1.used, y16, rfl, by simp [q, Fm.rst, nn, nn1], by simp [q, St.only, nn1]⟩
 rw [itef h11] at hF; try simp at h11
 refine Run.exit ?_
 replace hF := mapO hF; obtain ⟨z40, hF, hz⟩ := hF; have hz2 := (hR1 _ hz.symm).symm; subst hz2; clear hz
 show Run _ _ _ _ _ _
 refine Run.seq ?_
 refine rg fun K hK => ?_
 have q := And.intro q h11
 iterate 5 refine wq ?_
 refine hK _ _ ?_; clear hK K
 refine Run.testEnd (b := (!v_x6.ok)) (by simp [q]) (fun h17 => ?_) (fun h17 => ?_)
 ·
  rw [itet h17] at hF; try simp at h17
  refine Run.ret ?_
  obtain rfl := Option.some.inj hF
  refine ⟨by simp, by simp, _, _, _, rfl, .inl rfl, ?_, ?_, ?_, rfl⟩
  all_goals simp [tupA, hb3, hq3, hb4, hq4, h11, h17]
 rw [itef h17] at hF; try simp at h17
 refine Run.skip ?_
 show Run _ _ _ _ _ _
 replace hF := bindO hF; obtain ⟨y18, hy18, hF⟩ := hF
 refine rg fun K hK => ?_
 have q := And.intro q h17
 iterate 2 refine wq ?_
 refine Wcb ⟨[(b_0, _)], []⟩ ⟨[(b4, _), (b3, _)], []⟩ rfl rfl rfl (by simp [q]; rfl) (by simp [q]; done) (machine_checker_variables_ok (b_0 := b_0) hy18) pk1 (by exact pick0) ?_
 rintro _ _ ⟨m19, rfl, rfl⟩; simp [noCells, noCellS, noCellV, noCellC, noCellT, St.add]
 refine wq ?_
 refine hK _ _ ?_; clear hK K
 refine rg fun K hK => ?_
 refine We rfl ?_; simp [q]
 intro b75 hb75; simp [Fresh] at hb75; have hq75 : ¬b4 = b75 ∧ ¬b3 = b75 ∧ ¬b_0 = b75 ∧ ¬m19 = b75 := by omega
 have q := And.intro (And.intro q hb75) hq75
 refine wq ?_
 refine hK _ _ ?_; clear hK K
 refine Run.seq ?_
 refine rg fun K hK => ?_
 iterate 4 refine wq ?_
 refine hK _ _ ?_; clear hK K
 refine Run.block ?_
 refine Run.fixX hF [0, 3, 9, 10, 77, 78, 79] [] [b3, b_0] [b75, m19] (by simp [q]) (by simp [q]) (by simp) (fun v f σ => ∃ v_x20 : Int, ∃ v_x21 : TMachineChecker, ∃ v_x22 : List (Int × Int), ∃ v_x23 : List (List UInt8 × Int), v = (v_x20, v_x21, v_x22, v_x23) ∧ f = ⟨136, [(0, .ptr b_0 0), (3, .ptr b3 0), (9, .map m19), (10, .map b75), (77, .list .none (s_1.effects.map TMachEffect.row)), (78, .int .i64 (s_1.effects.length : Int)), (79, .int .i64 v_x20)], [], []⟩ ∧ σ = ⟨[(b3, s_1.row), (b_0, v_x21.row)], [(b75, .mp (v_x22.map (mI .u8 (AV.int .i64)))), (m19, .mp (v_x23.map (mS (AV.int .i64))))]⟩) ?_ ?_
 ·
  exact ⟨0, y18.1, [], y18.2, rfl, by simp [q, Fm.rst, nn, nn1], by simp [q, St.only, nn1]⟩
 clear hF
 rintro _ _ _ yy1 ⟨v_x20, v_x21, v_x22, v_x23, rfl, rfl, rfl⟩ hF hR1
 simp only [machine_checker_instr.l1] at hF
 refine rg fun K hK => ?_
 have q := And.intro hb3 (And.intro hq3 (And.intro hb4 (And.intro hq4 (And.intro hb75 hq75))))
 refine wq ?_
 refine hK _ _ ?_; clear hK K
 refine Run.seq ?_
 refine Run.testEnd (b := (decide (v_x20 < (s_1.effects.length : Int)))) (by simp [q]) (fun h28 => ?_) (fun h28 => ?_)
 ·
  rw [itet h28] at hF; try simp at h28
  refine Run.skip ?_
  show Run _ _ _ _ _ _
  refine Run.seq ?_
  refine Run.block ?_
  replace hF := chkO hF; obtain ⟨hc29, hF⟩ := hF
  refine rg fun K hK => ?_
  have q := And.intro q h28
  refine Wq (evF_ix (tg := .none) (rw := TMachEffect.row) (xs := s_1.effects) (k := .i64) (n := v_x20) (by simp; rfl) rfl (by simp; rfl) (by simp [q]) (by simp [q]) hc29.1 hc29.2 (by simp)) ?_
  refine wq ?_
  refine We rfl ?_; simp [q]
  intro b12 hb12; simp [Fresh] at hb12; have hq12 : ¬b3 = b12 ∧ ¬b_0 = b12 ∧ ¬b75 = b12 ∧ ¬m19 = b12 := by omega
  have q := And.intro (And.intro q hb12) hq12
  refine We rfl ?_; simp [q]
  refine hK _ _ ?_; clear hK K
  replace hF := bindO hF; obtain ⟨y30, hy30, hF⟩ := hF
  refine rg fun K hK => ?_
  iterate 4 refine wq ?_
  refine Wcb ⟨[(b_0, _)], [(m19, _)]⟩ ⟨[(b12, _), (b3, _)], [(b75, _)]⟩ rfl rfl rfl (by simp [q]; rfl) (by simp [q]; done) (machine_checker_effect_ok (b_0 := b_0) (b_3 := m19) hy30) pk1 pk1 ?_
  rintro _ _ ⟨rfl, rfl⟩; simp [noCells, noCellS, noCellV, noCellC, noCellT, St.add]
  refine hK _ _ ?_; clear hK K
  refine rge fun K hK => ?_
  iterate 3 refine wq ?_
  refine Wq (evF_lkI (g := (AV.int .i64)) (m := v_x22) (k := ((nth s_1.effects v_x20).kind)) (b := b75) (z := 0) (by simp; rfl) rfl (by simp; rfl) rfl (by simp; rfl) (by simp) (by simp) (by simp) (by simp [q]) (by simp [q]) (by simp [q])) ?_
  refine wq ?_
  have hp31 := putA_I (AV.int .i64) .u8 ((nth s_1.effects v_x20).kind) (IntKind.i64.wrap (((aget v_x22 ((nth s_1.effects v_x20).kind)).getD 0) + 1)) v_x22
  have hp31b := hp31; refine We rfl ?_; first | (simp at hp31b; simp [q, hp31, hp31b]) | simp [q, hp31]
  refine hK _ _ ?_; clear hK K
  show Run _ _ _ _ _ _
  refine rge fun K hK => ?_
  iterate 2 refine wq ?_
  refine hK _ _ ?_; clear hK K
  exact ⟨_, (Option.some.inj hF).symm, (IntKind.i64.wrap (v_x20 + 1)), y30.1, (aput v_x22 ((nth s_1.effects v_x20).kind) (IntKind.i64.wrap (((aget v_x22 ((nth s_1.effects v_x20).kind)).getD 0) + 1))), y30.2, rfl, by simp [q, Fm.rst, nn, nn1], by simp [q, St.only, nn1]⟩
 rw [itef h28] at hF; try simp at h28
 refine Run.exit ?_
 replace hF := mapO hF; obtain ⟨z39, hF, hz⟩ := hF; have hz2 := (hR1 _ hz.symm).symm; subst hz2; clear hz
 show Run _ _ _ _ _ _
 refine rg fun K hK => ?_
 have q := And.intro q h28
 refine wq ?_
 refine Wq (evF_lkI (g := (AV.int .i64)) (m := v_x22) (k := 3) (b := b75) (z := 0) (by simp; rfl) rfl (by simp; rfl) rfl (by simp; rfl) (by simp) (by simp) (by simp) (by simp [q]) (by simp [q]) (by simp [q])) ?_
 refine wq ?_
 refine hK _ _ ?_; clear hK K
 replace hF := bindO hF; obtain ⟨y33, hy33, hF⟩ := hF
 replace hF := bindO hF; obtain ⟨y34, hy34, hF⟩ := hF
 replace hF := bindO hF; obtain ⟨y35, hy35, hF⟩ := hF
 replace hF := bindO hF; obtain ⟨y36, hy36, hF⟩ := hF
 replace hF := bindO hF; obtain ⟨y38, hy38, hF⟩ := hF
 refine Run.draw EOK mixed 39 [0, 1, 2, 3, 4, 5, 6, 7, 8, 9, 10, 11, 12, 13, 14, 15, 16, 17, 18, 19, 20, 22, 23, 25, 26, 28, 29, 31, 32, 33, 21, 24, 27, 30, 34, 35, 36, 37, 38] rfl (by kernel_rfl) fun K hK => ?_
 iterate 4 refine Pq rfl (by simp [q]; rfl) ?_
 refine Pq rfl (evP_of (evF_lkI (g := (AV.int .i64)) (m := v_x22) (k := 4) (b := b75) (z := 0) (by simp; rfl) rfl (by simp; rfl) rfl (by simp; rfl) (by simp) (by simp) (by simp) (by simp [q]) (by simp [q]) (by simp [q]))) ?_
 iterate 2 refine Pq rfl (by simp [q]; rfl) ?_
 obtain ⟨g32, e32⟩ : ∃ g, g = (!(decide (((aget v_x22 4).getD 0) = 0))) := ⟨_, rfl⟩
 iterate 4 refine Pg rfl rfl (b := g32) (by simp [q, e32]) (fun hg => by simp [q, hg]; rfl) ?_
 refine Por rfl (t := (decide (((aget v_x22 4).getD 0) = 0))) (β := (decide ((s_1.effects.length : Int) = 1))) (by simp [q]) rfl (fun hh => by have h0 := e32.trans (notf hh); simp [q, h0]) (by first | (simp; done) | (simp; rfl)) ?_
 iterate 18 refine Pq rfl (by simp [q]; rfl) ?_
 refine Pc rfl rfl rfl rfl (by first | (simp [q]; rfl) | (simp [q]; done)) (by simp [q]; done) (machine_within_ok hy33) ?_; rintro _ rfl; simp
 refine Pc rfl rfl rfl rfl (by first | (simp [q]; rfl) | (simp [q]; done)) (by simp [q]; done) (machine_within_ok hy34) ?_; rintro _ rfl; simp
 refine Pc rfl rfl rfl rfl (by first | (simp [q]; rfl) | (simp [q]; done)) (by simp [q]; done) (machine_within_ok hy35) ?_; rintro _ rfl; simp
 refine Pc rfl rfl rfl rfl (by first | (simp [q]; rfl) | (simp [q]; done)) (by simp [q]; done) (machine_within_ok hy36) ?_; rintro _ rfl; simp
 refine Pq rfl (by simp [q]; rfl) ?_
 obtain ⟨g37, e37⟩ : ∃ g, g = (!(decide (s_1.slots = 0))) := ⟨_, rfl⟩
 iterate 2 refine Pg rfl rfl (b := g37) (by simp [q, e37]) (fun hg => by simp [q, hg]; rfl) ?_
 refine Por rfl (t := (decide (s_1.slots = 0))) (β := (decide (((aget v_x22 3).getD 0) = 1))) (by simp [q]) rfl (fun hh => by have h0 := e37.trans (notf hh); simp [q, h0]) (by first | (simp; done) | (simp; rfl)) ?_
 refine Pq rfl (by simp [q]; rfl) ?_
 refine Pd ?_
 refine Wcb ⟨[(b_0, _)], []⟩ ⟨[(b3, _)], [(b75, _), (m19, _)]⟩ rfl rfl rfl (by simp [q]; rfl) (by simp [q]; done) (machine_checker_must_ok (b_0 := b_0) hy38) pk1 (by exact pick0) ?_
 rintro _ _ ⟨rfl, rfl⟩; simp [noCells, noCellS, noCellV, noCellC, noCellT, St.add]
 refine hK _ _ ?_; clear hK K
 obtain rfl := Option.some.inj hF
 refine ⟨by simp, by simp, _, _, _, rfl, .inl rfl, ?_, ?_, ?_, rfl⟩
 all_goals simp [tupA, hb3, hq3, hb4, hq4, hb75, hq75, h28]

/-! machine_Check -/
def machine_Check.j0 [Fx] (v_x10 : TMachineChecker) : Option Int :=
 (if (!v_x10.ok) then
 some 8
 else
 some 0)
def machine_Check.l0 [Fx] (m_0 : TMachine) : Int × (List (List UInt8)) × TMachineChecker → Option ((Int × (List (List UInt8)) × TMachineChecker) ⊕ Int) := fun v =>
 match v with
 | (v_x12, v_x13, v_x14) =>
 (if (decide (v_x12 < (m_0.instrs.length : Int))) then
 (if (0 : Int) ≤ v_x12 ∧ v_x12 < (m_0.instrs.length : Int) then
 (if (!v_x14.ok) then
 (Option.map Sum.inr (machine_Check.j0  v_x14))
 else
 ((machine_names_fresh (TMachineNames.mk v_x13) ((nth m_0.instrs v_x12).name)).bind fun y22 =>
 ((machine_checker_must v_x14 [y22.2]).bind fun y23 =>
 ((machine_checker_instr y23 (nth m_0.instrs v_x12)).bind fun y24 =>
 some (.inl ((IntKind.i64.wrap (v_x12 + 1)), y22.1.used, y24))))))
 else none)
 else
 (Option.map Sum.inr (machine_Check.j0  v_x14)))
def machine_Check [Fx] (m_0 : TMachine) : Option Int :=
 ((machine_small m_0).bind fun y1 =>
 (if (!y1) then
 some 4
 else
 ((bits_Name m_0.name).bind fun y3 =>
 ((machine_within m_0.word 1 4).bind fun y4 =>
 ((machine_checker_must (TMachineChecker.mk m_0 true) [y3, y4, ((decide (m_0.address = 16)) || (decide (m_0.address = 32)))]).bind fun y6 =>
 ((machine_checker_regs y6).bind fun y7 =>
 ((machine_checker_banks y7).bind fun y8 =>
 ((machine_checker_units y8).bind fun y9 =>
 Fx.fx (machine_Check.l0 m_0) (0, [], y9)))))))))
theorem machine_Check_ok [Fx] {m_0 : TMachine} {r : Int} (hF : machine_Check m_0 = some r) : PCall Tryd.prog EE 9 [.agg m_0.row] fun v => v = .int .i64 r := by
 refine PCall.of_fun EOK (F := Tryd.f9) 63 [.tmp 2] (by kernel_rfl) rfl rfl rfl rfl (Nat.le_of_ble_eq_true rfl) (by simp) ?_
 simp only [slotsA]
 unfold machine_Check at hF
 refine rg fun K hK => ?_
 refine We rfl ?_; simp
 intro b1 _
 refine Wq (by simp; rfl) ?_
 refine hK _ _ ?_; clear hK K
 refine Run.seq ?_
 replace hF := bindO hF; obtain ⟨y1, hy1, hF⟩ := hF
 refine rg fun K hK => ?_
 refine Wq (by simp; rfl) ?_
 refine Wc rfl rfl rfl (by first | (simp; rfl) | (simp; done)) (by simp; done) (machine_small_ok hy1) ?_; rintro _ rfl; simp
 refine Wq (by simp; rfl) ?_
 refine hK _ _ ?_; clear hK K
 refine Run.testEnd (b := (!y1)) (by simp) (fun h2 => ?_) (fun h2 => ?_)
 ·
  rw [itet h2] at hF; try simp at h2
  refine rg fun K hK => ?_
  have q := h2
  refine wq ?_
  refine hK _ _ ?_; clear hK K
  refine Run.ret ?_
  obtain rfl := Option.some.inj hF
  simp [tupA, h2]
 rw [itef h2] at hF; try simp at h2
 refine Run.skip ?_
 show Run _ _ _ _ _ _
 refine rg fun K hK => ?_
 have q := h2
 iterate 2 refine wq ?_
 refine We rfl ?_; simp [q]
 intro b12 hb12; simp [Fresh] at hb12; have hq12 : ¬b1 = b12 := by omega
 have q := And.intro (And.intro q hb12) hq12
 refine wq ?_
 refine hK _ _ ?_; clear hK K
 replace hF := bindO hF; obtain ⟨y3, hy3, hF⟩ := hF
 replace hF := bindO hF; obtain ⟨y4, hy4, hF⟩ := hF
 replace hF := bindO hF; obtain ⟨y6, hy6, hF⟩ := hF
 refine Run.drawReg EOK mixed 16 [0, 1, 2, 4, 5, 7, 8, 9, 3, 6, 10, 11, 12, 13, 14, 15] rfl (by kernel_rfl) fun K hK => ?_
 iterate 8 refine Pq rfl (by simp [q]; rfl) ?_
 refine Pc rfl rfl rfl rfl (by first | (simp [q]; rfl) | (simp [q]; done)) (by simp [q]; done) (bits_Name_ok hy3) ?_; rintro _ rfl; simp
 refine Pc rfl rfl rfl rfl (by first | (simp [q]; rfl) | (simp [q]; done)) (by simp [q]; done) (machine_within_ok hy4) ?_; rintro _ rfl; simp
 refine Pq rfl (by simp [q]; rfl) ?_
 obtain ⟨g5, e5⟩ : ∃ g, g = (!(decide (m_0.address = 16))) := ⟨_, rfl⟩
 iterate 3 refine Pg rfl rfl (b := g5) (by simp [q, e5]) (fun hg => by simp [q, hg]; rfl) ?_
 refine Por rfl (t := (decide (m_0.address = 16))) (β := (decide (m_0.address = 32))) (by simp [q]) rfl (fun hh => by have h0 := e5.trans (notf hh); simp [q, h0]) (by first | (simp; done) | (simp; rfl)) ?_
 refine Pq rfl (by simp [q]; rfl) ?_
 refine Pd ?_
 refine Wcb ⟨[(b12, _)], []⟩ ⟨[(b1, _)], []⟩ rfl rfl rfl (by simp [q]; rfl) (by simp [q]; done) (machine_checker_must_ok (b_0 := b12) hy6) pk1 (by exact pick0) ?_
 rintro _ _ ⟨rfl, rfl⟩; simp [noCells, noCellS, noCellV, noCellC, noCellT, St.add]
 refine hK _ _ ?_; clear hK K
 replace hF := bindO hF; obtain ⟨y7, hy7, hF⟩ := hF
 refine rg fun K hK => ?_
 refine wq ?_
 refine Wcb ⟨[(b12, _)], []⟩ ⟨[(b1, _)], []⟩ rfl rfl rfl (by simp [q]; rfl) (by simp [q]; done) (machine_checker_regs_ok (b_0 := b12) hy7) pk1 (by exact pick0) ?_
 rintro _ _ ⟨rfl, rfl⟩; simp [noCells, noCellS, noCellV, noCellC, noCellT, St.add]
 refine hK _ _ ?_; clear hK K
 replace hF := bindO hF; obtain ⟨y8, hy8, hF⟩ := hF
 refine rg fun K hK => ?_
 refine wq ?_
 refine Wcb ⟨[(b12, _)], []⟩ ⟨[(b1, _)], []⟩ rfl rfl rfl (by simp [q]; rfl) (by simp [q]; done) (machine_checker_banks_ok (b_0 := b12) hy8) pk1 (by exact pick0) ?_
 rintro _ _ ⟨rfl, rfl⟩; simp [noCells, noCellS, noCellV, noCellC, noCellT, St.add]
 refine hK _ _ ?_; clear hK K
 replace hF := bindO hF; obtain ⟨y9, hy9, hF⟩ := hF
 refine rg fun K hK => ?_
 refine wq ?_
 refine Wcb ⟨[(b12, _)], []⟩ ⟨[(b1, _)], []⟩ rfl rfl rfl (by simp [q]; rfl) (by simp [q]; done) (machine_checker_units_ok (b_0 := b12) hy9) pk1 (by exact pick0) ?_
 rintro _ _ ⟨rfl, rfl⟩; simp [noCells, noCellS, noCellV, noCellC, noCellT, St.add]
 refine hK _ _ ?_; clear hK K
 refine rg fun K hK => ?_
 refine We rfl ?_; simp [q]
 intro b4 hb4; simp [Fresh] at hb4; have hq4 : ¬b1 = b4 ∧ ¬b12 = b4 := by omega
 refine hK _ _ ?_; clear hK K
 have q := And.intro (And.intro q hb4) hq4
 refine Run.retagBE b4 0 1 (by simp [q]; rfl) (by simp) (by omega) (by simp [q]; rfl) (by simp [q]; rfl) ?_
 refine Run.join [3] [] [b12] [] (by simp) (by simp) (by simp) (fun f σ => ∃ v_x10 : TMachineChecker, f = ⟨63, [(3, .ptr b12 0)], [], []⟩ ∧ σ = ⟨[(b12, v_x10.row)], []⟩ ∧ machine_Check.j0  v_x10 = some r) ?_ ?_
 ·
  clear hF
  rintro _ _ ⟨v_x10, rfl, rfl, hF⟩
  unfold machine_Check.j0 at hF
  refine Run.seq ?_
  refine rg fun K hK => ?_
  have q := And.intro hb12 (And.intro hq12 (And.intro hb4 hq4))
  iterate 5 refine wq ?_
  refine hK _ _ ?_; clear hK K
  refine Run.testEnd (b := (!v_x10.ok)) (by simp [q]) (fun h11 => ?_) (fun h11 => ?_)
  ·
   rw [itet h11] at hF; try simp at h11
   refine rg fun K hK => ?_
   have q := And.intro q h11
   refine wq ?_
   refine hK _ _ ?_; clear hK K
   refine Run.ret ?_
   obtain rfl := Option.some.inj hF
   simp [tupA, hb12, hq12, hb4, hq4, h11]
  rw [itef h11] at hF; try simp at h11
  refine Run.skip ?_
  show Run _ _ _ _ _ _
  refine rg fun K hK => ?_
  have q := And.intro q h11
  refine wq ?_
  refine hK _ _ ?_; clear hK K
  refine Run.ret ?_
  obtain rfl := Option.some.inj hF
  simp [tupA, hb12, hq12, hb4, hq4, h11]
 skip
 refine rg fun K hK => ?_
 iterate 4 refine wq ?_
 refine hK _ _ ?_; clear hK K
 refine Run.block ?_
 refine Run.fixX hF [3, 4, 37, 38, 39] [] [b4, b12] [] (by simp [q]) (by simp) (by simp) (fun v f σ => ∃ v_x12 : Int, ∃ v_x13 : List (List UInt8), ∃ v_x14 : TMachineChecker, v = (v_x12, v_x13, v_x14) ∧ f = ⟨63, [(3, .ptr b12 0), (4, .ptr b4 0), (37, .list .none (m_0.instrs.map TMachInstr.row)), (38, .int .i64 (m_0.instrs.length : Int)), (39, .int .i64 v_x12)], [], []⟩ ∧ σ = ⟨[(b4, ([.grow 1 (v_x13.map rwS)])), (b12, v_x14.row)], []⟩) ?_ ?_
 ·
  exact ⟨0, [], y9, rfl, by simp [q, Fm.rst, nn, nn1], by simp [q, St.only, nn1]⟩
 clear hF
 rintro _ _ _ yy1 ⟨v_x12, v_x13, v_x14, rfl, rfl, rfl⟩ hF hR1
 simp only [machine_Check.l0] at hF
 refine rg fun K hK => ?_
 have q := And.intro hb12 (And.intro hq12 (And.intro hb4 hq4))
 refine wq ?_
 refine hK _ _ ?_; clear hK K
 refine Run.seq ?_
 refine Run.testEnd (b := (decide (v_x12 < (m_0.instrs.length : Int)))) (by simp [q]) (fun h18 => ?_) (fun h18 => ?_)
 ·
  rw [itet h18] at hF; try simp at h18
  refine Run.skip ?_
  show Run _ _ _ _ _ _
  refine Run.seq ?_
  refine Run.block ?_
  replace hF := chkO hF; obtain ⟨hc19, hF⟩ := hF
  refine rg fun K hK => ?_
  have q := And.intro q h18
  refine Wq (evF_ix (tg := .none) (rw := TMachInstr.row) (xs := m_0.instrs) (k := .i64) (n := v_x12) (by simp; rfl) rfl (by simp; rfl) (by simp [q]) (by simp [q]) hc19.1 hc19.2 (by simp)) ?_
  refine wq ?_
  refine We rfl ?_; simp [q]
  intro b6 hb6; simp [Fresh] at hb6; have hq6 : ¬b4 = b6 ∧ ¬b12 = b6 := by omega
  have q := And.intro (And.intro q hb6) hq6
  refine We rfl ?_; simp [q]
  refine hK _ _ ?_; clear hK K
  refine Run.seq ?_
  refine rg fun K hK => ?_
  iterate 5 refine wq ?_
  refine hK _ _ ?_; clear hK K
  refine Run.testEnd (b := (!v_x14.ok)) (by simp [q]) (fun h20 => ?_) (fun h20 => ?_)
  ·
   rw [itet h20] at hF; try simp at h20
   refine Run.exit ?_
   replace hF := mapO hF; obtain ⟨z21, hF, hz⟩ := hF; have hz2 := (hR1 _ hz.symm).symm; subst hz2; clear hz
   have q := And.intro q h20
   exact ⟨v_x14, by simp [q, Fm.rst, nn, nn1], by simp [q, St.only, nn1], hF⟩
  rw [itef h20] at hF; try simp at h20
  refine Run.skip ?_
  show Run _ _ _ _ _ _
  replace hF := bindO hF; obtain ⟨y22, hy22, hF⟩ := hF
  replace hF := bindO hF; obtain ⟨y23, hy23, hF⟩ := hF
  refine rg fun K hK => ?_
  have q := And.intro q h20
  iterate 3 refine wq ?_
  refine Wcb ⟨[(b4, _)], []⟩ ⟨[(b6, _), (b12, _)], []⟩ rfl rfl rfl (by simp [q]; rfl) (by simp [q]; done) (machine_names_fresh_ok (b_0 := b4) hy22) pk1 (by exact pick0) ?_
  rintro _ _ ⟨rfl, rfl⟩; simp [noCells, noCellS, noCellV, noCellC, noCellT, St.add]
  refine We rfl ?_; simp [q]; refine .inr ?_
  refine Wcb ⟨[(b12, _)], []⟩ ⟨[(b6, _), (b4, _)], []⟩ rfl rfl rfl (by simp [q]; rfl) (by simp [q]; done) (machine_checker_must_ok (b_0 := b12) hy23) pk1 (by exact pick0) ?_
  rintro _ _ ⟨rfl, rfl⟩; simp [noCells, noCellS, noCellV, noCellC, noCellT, St.add]
  refine hK _ _ ?_; clear hK K
  replace hF := bindO hF; obtain ⟨y24, hy24, hF⟩ := hF
  refine rge fun K hK => ?_
  iterate 2 refine wq ?_
  refine Wcb ⟨[(b12, _)], []⟩ ⟨[(b6, _), (b4, _)], []⟩ rfl rfl rfl (by simp [q]; rfl) (by simp [q]; done) (machine_checker_instr_ok (b_0 := b12) hy24) pk1 (by exact pick0) ?_
  rintro _ _ ⟨rfl, rfl⟩; simp [noCells, noCellS, noCellV, noCellC, noCellT, St.add]
  refine hK _ _ ?_; clear hK K
  show Run _ _ _ _ _ _
  refine rge fun K hK => ?_
  iterate 2 refine wq ?_
  refine hK _ _ ?_; clear hK K
  exact ⟨_, (Option.some.inj hF).symm, (IntKind.i64.wrap (v_x12 + 1)), y22.1.used, y24, rfl, by simp [q, Fm.rst, nn, nn1], by simp [q, St.only, nn1]⟩
 rw [itef h18] at hF; try simp at h18
 refine Run.exit ?_
 replace hF := mapO hF; obtain ⟨z25, hF, hz⟩ := hF; have hz2 := (hR1 _ hz.symm).symm; subst hz2; clear hz
 have q := And.intro q h18
 exact ⟨v_x14, by simp [q, Fm.rst, nn, nn1], by simp [q, St.only, nn1], hF⟩

end Go.Proofs.YtpjkepfplhllfaaDoor.Av
