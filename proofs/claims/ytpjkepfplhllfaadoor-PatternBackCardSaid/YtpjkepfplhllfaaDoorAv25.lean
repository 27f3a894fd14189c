/-
Regions that draw their order, in which calls are given boxes of ours.
-/
import Derived.Test.YtpjkepfplhllfaaDoorAv24
namespace Go.Proofs.YtpjkepfplhllfaaDoor.Av
set_option linter.unusedSimpArgs false
set_option linter.unusedVariables false
open Go
section
variable {E : Env} {f : Fm} {σ τ : St} {ops : Array Oper}
theorem getB_app {α : Type} : ∀ {l m : List (Nat × α)} {b : Nat} {x : α}, getB l b = some x → getB (l ++ m) b = some x
  | (k, v) :: l, m, b, x, h => by
    simp only [getB, List.cons_append] at h ⊢
    split
    · rename_i e; rw [if_pos e] at h; exact h
    · rename_i e; rw [if_neg e] at h; exact getB_app h
theorem getM_app {l m : List (Nat × MO)} {b : Nat} {x : List (AV × AV)} (h : getM l b = some x) : getM (l ++ m) b = some x := by
  have := getB_app (m := m) (getM_some h)
  unfold getM
  rw [this]
theorem loadA_mono {t : TypeId} {p x : AV} (h : loadA E σ t p = some x) : loadA E (σ.add τ) t p = some x := by
  unfold loadA at h ⊢
  cases hl : E.lay t with
  | none => rw [hl] at h; cases h
  | some l =>
    rw [hl] at h
    simp only at h ⊢
    cases p <;> simp only [reduceCtorEq] at h ⊢
    · rename_i b o
      cases hb : getB σ.box b with
      | none => rw [hb] at h; cases h
      | some cs =>
        rw [hb] at h
        have : getB (σ.add τ).box b = some cs := getB_app hb
        rw [this]; exact h
    · exact h
theorem lenA_mono {t : TypeId} {p x : AV} (h : lenA E σ t p = some x) : lenA E (σ.add τ) t p = some x := by
  unfold lenA at h ⊢
  cases hl : E.lay t with
  | none => rw [hl] at h; cases h
  | some l =>
    rw [hl] at h
    simp only at h ⊢
    split at h
    all_goals first
      | exact h
      | (obtain ⟨es, he, rfl⟩ := Option.map_eq_some_iff.1 h
         have : getM (σ.add τ).map _ = some es := getM_app he
         simp only [this, Option.map_some])
      | cases h
theorem lookA_mono {t : TypeId} {m k x : AV} {ok : Bool} (h : lookA E σ t m k ok = some x) : lookA E (σ.add τ) t m k ok = some x := by
  unfold lookA at h ⊢
  cases hl : E.lay t with
  | none => rw [hl] at h; cases h
  | some l =>
    rw [hl] at h
    obtain ⟨z, s, ag, n, kd⟩ := l
    cases kd <;> simp only [reduceCtorEq] at h ⊢
    rename_i kt e
    cases h1 : E.lay kt with
    | none => rw [h1] at h; cases h
    | some lk =>
      cases h2 : E.lay e with
      | none => rw [h1, h2] at h; cases h
      | some le =>
        rw [h1, h2] at h
        simp only at h ⊢
        split at h
        · rename_i hc
          rw [if_pos hc]
          cases m <;> simp only [reduceCtorEq] at h ⊢
          · rename_i b
            cases hb : getM σ.map b with
            | none => rw [hb] at h; cases h
            | some es =>
              rw [hb] at h
              have : getM (σ.add τ).map b = some es := getM_app hb
              rw [this]; exact h
          · exact h
        · cases h
theorem evF_mono {o : Op} {x : AV} (h : evF E f σ o = some x) : evF E f (σ.add τ) o = some x := by
  cases o
  case load t p => exact loadA_mono h
  case lookup t m k ok => exact lookA_mono h
  case call c =>
    simp only [evF] at h ⊢
    cases hc : c.callee <;> simp only [hc, reduceCtorEq] at h ⊢
    rename_i b
    split at h
    · exact lenA_mono h
    · exact h
    · exact h
    · cases h
  case makeFunc a b c => cases a <;> exact h
  case slice a b c d m => cases m <;> exact h
  all_goals exact h
theorem evP_mono {o : Oper} {x : AV} (h : evP E f σ o = some x) : evP E f (σ.add τ) o = some x := by
  unfold evP at h ⊢
  cases hf : evF E f σ o.op with
  | some y => rw [hf] at h; rw [evF_mono hf]; exact h
  | none =>
    rw [hf] at h
    simp only at h
    split at h
    · rename_i t len ps hop
      have : evF E f (σ.add τ) o.op = none := by rw [hop]; rfl
      rw [this]
      simp only [hop]
      exact h
    · cases h
theorem QP_mono {o : Oper} {z : AV} (h : QP E f σ o z) : QP E f (σ.add τ) o z := by
  obtain ⟨x, hx, hw⟩ := h
  exact ⟨x, evP_mono hx, hw⟩
theorem Det_mono {o : Oper} {x : AV} (h : Det E ops σ o f x) : Det E ops (σ.add τ) o f x := by
  unfold Det at h ⊢
  cases hg : o.guard with
  | none => rw [hg] at h; exact QP_mono h
  | some jw =>
    obtain ⟨j, want⟩ := jw
    rw [hg] at h
    simp only at h ⊢
    cases hd : (ops[j]?).bind (·.dst) with
    | none => rw [hd] at h; exact h.elim
    | some d =>
      rw [hd] at h
      simp only at h ⊢
      cases hb : guardB want (getA f.sl d) <;> rw [hb] at h <;> simp only at h ⊢
      rcases h with h | ⟨z, hz, h⟩
      · exact .inl ⟨fun e => evP_mono (h.1 e), h.2⟩
      · exact .inr ⟨z, hz, fun e => QP_mono (h e)⟩
theorem perm3 {α : Type} (a b c : List α) : (a ++ (b ++ c)).Perm (b ++ (a ++ c)) := by
  rw [← List.append_assoc, ← List.append_assoc]; exact List.Perm.append_right _ List.perm_append_comm
theorem noCellC_ec (x : AV) : noCellC (ec x) = ec x := by
  cases x with
  | list t xs => cases t <;> rfl
  | _ => rfl
theorem noCellV_es (x : AV) : noCellV (es x) = es x := by
  cases x with
  | list t xs => rfl
  | agg cs => simp only [es, noCellV, List.map_map]; congr 2; funext c; exact noCellC_ec c
  | _ => rfl
end

section
variable (P : Program) (E : Env)
def untagged : AV → Bool
  | .list .none _ => true
  | .list _ _ => false
  | _ => true
/-- Calls, new boxes, what is put into a box. -/
def heavy (o : Oper) : Bool := isCall o || match o.op with | .alloc _ => true | .store .. => true | _ => false
theorem heavy_call {o : Oper} (h : heavy o = false) : isCall o = false := by
  unfold heavy at h; simp only [Bool.or_eq_false_iff] at h; exact h.1
/-- One operation: a value out of what no call is given; a call of a function that owns nothing; a call that is given boxes; a new box; something put into a box. -/
def StepH (ops : Array Oper) (σc : St) (o : Oper) (f : Fm) (σh : St) (K : Fm → St → Prop) : Prop :=
  (heavy o = false ∧ ∃ x, Det E ops σc o f x ∧ noCellV x = x ∧ K (f.put o.dst x) σh) ∨
  (isCall o = true ∧ StepP P E ops σc o f fun f' => noCells f' = f' ∧ K f' σh) ∨
  (isCall o = true ∧ o.guard = none ∧ ∃ c x fn caps, ∃ σ1 σ2 : St, o.op = .call c ∧ c.callee = .value x ∧ evX E f x = .func fn caps ∧ σh.box.Perm (σ1.box ++ σ2.box) ∧ σh.map.Perm (σ1.map ++ σ2.map) ∧
    ACall P E fn ((c.args.toList.map fun y => ers (evX E f y)) ++ caps) σ1 fun r σ1' => K (f.put o.dst (es r)) (σ2.add σ1')) ∨
  (heavy o = true ∧ o.guard = none ∧ ∃ t l, o.op = .alloc t ∧ E.lay t = some l ∧ l.zero.cells.all AV.one = true ∧ isAny l.zero = false ∧ ∀ b, Fresh b (σc.add σh) → K (f.put o.dst (.ptr b 0)) { σh with box := (b, l.zero.cells.map plainC) :: σh.box }) ∨
  (heavy o = true ∧ o.guard = none ∧ f.ow = [] ∧ ∃ t l p x b off cs, o.op = .store t p x ∧ E.lay t = some l ∧ evX E f p = .ptr b off ∧ b ∉ σc.box.map (·.1) ∧ getB σh.box b = some cs ∧ untagged (evX E f x) = true ∧
    (evX E f x).cells.all AV.one = true ∧ (evX E f x).cells.length = l.size ∧ off + (evX E f x).cells.length ≤ cs.length ∧ K (f.put o.dst .any) { σh with box := setB σh.box b (cs.take off ++ (evX E f x).cells.map plainC ++ cs.drop (off + (evX E f x).cells.length)) })
def WPH (ops : Array Oper) (σc : St) (K : Fm → St → Prop) : List Nat → Fm → St → Prop
  | [], f, σh => K f σh
  | i :: rest, f, σh => match ops[i]? with
    | some o => StepH P E ops σc o f σh (WPH ops σc K rest)
    | none => False
def PAnyH (ops : Array Oper) (n : Nat) (σc : St) (K : Fm → St → Prop) : Nat → Array Bool → Fm → St → Prop
  | 0, L, f, σh => allL n L ∧ K f σh
  | k + 1, L, f, σh => (allL n L → K f σh) ∧ ∀ j ∈ Region.ready .any ops L, j < n → ∀ o, ops[j]? = some o → StepH P E ops σc o f σh (PAnyH ops n σc K k (L.setIfInBounds j true))
end

section
variable {P : Program} {E : Env} {f f' : Fm} {σc σh : St} {ops : Array Oper} {n : Nat} {K : Fm → St → Prop} {w : World} {φ : Nat → Nat} {a : Act} {Ω : List Own} {g : Gh}
theorem StepH.congr {o : Oper} {K K' : Fm → St → Prop} (h : ∀ s ∈ o.looksAt ops, getA f.sl s = getA f'.sl s) (hw : f.ow = f'.ow) (hn : noCells f = f) (hn' : noCells f' = f') (hk : ∀ r σ, noCellV r = r → K (f.put o.dst r) σ → K' (f'.put o.dst r) σ) (hh : StepH P E ops σc o f σh K) : StepH P E ops σc o f' σh K' := by
  have nput : ∀ (f : Fm) (d : Option Nat) (r : AV), noCells (f.put d r) = f.put d r → d.isSome = true → noCellV r = r := fun f d r h hd => by
    cases d with
    | none => cases hd
    | some d => simp only [noCells, Fm.put, Fm.upd, noCellS, Fm.mk.injEq, List.cons.injEq, Prod.mk.injEq, true_and] at h; exact h.1.1
  have nput' : ∀ (f : Fm) (d : Option Nat) (r : AV), noCells f = f → noCellV r = r → noCells (f.put d r) = f.put d r := fun f d r h hr => by
    cases d with
    | none => exact h
    | some d =>
      have h1 := congrArg Fm.sl h
      have h2 := congrArg Fm.ow h
      simp only [noCells] at h1 h2
      simp only [noCells, Fm.put, Fm.upd, noCellS, hr, h1, h2]
  rcases hh with ⟨hc, x, hx, hnx, hh⟩ | ⟨hc, hh⟩ | ⟨hc, hg, c, x, fn, caps, σ1, σ2, hop, hcc, hx, pb, pm, hh⟩ | ⟨hc, hg, t, l, hop, hl, h1, h2, hh⟩ | ⟨hc, hg, ho, t, l, p, x, b, off, cs, hop, hl, hp, hbc, hb, h1, h2, h3, h4, hh⟩
  · exact .inl ⟨hc, x, hx.congr h, hnx, hk _ _ hnx hh⟩
  · refine .inr (.inl ⟨hc, StepP.congr h (fun r hr => ?_) hh⟩)
    cases hd : o.dst with
    | none =>
      rw [hd] at hr
      refine ⟨hn', ?_⟩
      have := hk .any σh rfl (by rw [hd]; exact hr.2)
      rw [hd] at this; exact this
    | some d =>
      have hnr : noCellV r = r := nput _ _ _ hr.1 (by rw [hd]; rfl)
      rw [hd] at hr
      refine ⟨nput' f' (some d) r hn' hnr, ?_⟩
      have := hk r σh hnr (by rw [hd]; exact hr.2)
      rw [hd] at this; exact this
  · have h1 := evX_looks (E := E) h
    rw [hop] at h1
    refine .inr (.inr (.inl ⟨hc, hg, c, x, fn, caps, σ1, σ2, hop, hcc, ?_, pb, pm, ?_⟩))
    · rw [← h1 x (by simp [Op.operands, Call.operands, hcc])]; exact hx
    · have ha : (c.args.toList.map fun y => ers (evX E f y)) = (c.args.toList.map fun y => ers (evX E f' y)) := List.map_congr_left fun y hy => by
        rw [h1 y (by simp [Op.operands, Call.operands, hcc, Array.mem_toList_iff.1 hy])]
      rw [← ha]
      exact ACall.mono hh fun r σ hr => hk _ _ (noCellV_es r) hr
  · exact .inr (.inr (.inr (.inl ⟨hc, hg, t, l, hop, hl, h1, h2, fun b hb => hk _ _ rfl (hh b hb)⟩)))
  · have h5 := evX_looks (E := E) h
    rw [hop] at h5
    have ep := h5 p (by simp [Op.operands])
    have ex := h5 x (by simp [Op.operands])
    rw [ep] at hp
    rw [ex] at h1 h2 h3 h4 hh
    exact .inr (.inr (.inr (.inr ⟨hc, hg, by rw [← hw]; exact ho, t, l, p, x, b, off, cs, hop, hl, hp, hbc, hb, h1, h2, h3, h4, hk _ _ rfl hh⟩)))
theorem noCells_put {d : Option Nat} {r : AV} (h : noCells f = f) (hr : noCellV r = r) : noCells (f.put d r) = f.put d r := by
  cases d with
  | none => exact h
  | some d =>
    have h1 := congrArg Fm.sl h
    have h2 := congrArg Fm.ow h
    simp only [noCells] at h1 h2
    simp only [noCells, Fm.put, Fm.upd, noCellS, hr, h1, h2]
theorem PAnyH.alike (hK : ∀ f f' σ, Alike f f' → K f σ → K f' σ) : ∀ (k : Nat) (L : Array Bool) (f f' : Fm) (σh : St), Alike f f' → noCells f = f → noCells f' = f' → PAnyH P E ops n σc K k L f σh → PAnyH P E ops n σc K k L f' σh
  | 0, _, _, _, _, ha, _, _, h => ⟨h.1, hK _ _ _ ha h.2⟩
  | k + 1, L, f, f', σh, ha, h1, h2, h => ⟨fun hl => hK _ _ _ ha (h.1 hl), fun j hj hn o ho => StepH.congr (fun s _ => ha.2.2 s) ha.2.1.1 h1 h2 (fun r σ hr hh => PAnyH.alike hK k _ _ _ _ (ha.put _ _) (noCells_put h1 hr) (noCells_put h2 hr) hh) (h.2 j hj hn o ho)⟩
theorem StepH.det {o : Oper} (h : heavy o = false) (hh : StepH P E ops σc o f σh K) : ∃ x, Det E ops σc o f x ∧ noCellV x = x ∧ K (f.put o.dst x) σh := by
  have hcl := heavy_call h
  rcases hh with ⟨_, x, hx⟩ | ⟨hc, _⟩ | ⟨hc, _⟩ | ⟨hc, _⟩ | ⟨hc, _⟩
  · exact ⟨x, hx⟩
  · rw [hcl] at hc; cases hc
  · rw [hcl] at hc; cases hc
  · rw [h] at hc; cases hc
  · rw [h] at hc; cases hc
theorem PAnyH.first (hK : ∀ f f' σ, Alike f f' → K f σ → K f' σ) {i : Nat} {oi : Oper} {x : AV} (hi : ops[i]? = some oi) (hin : i < n) (hci : heavy oi = false) (hnx : noCellV x = x) : ∀ (k : Nat) (L : Array Bool) (f : Fm) (σh : St), noCells f = f →
    (∀ j oj, ops[j]? = some oj → j ≠ i → L.getD j true = false → (∀ e ∈ oj.after, Region.binds .any e = true → e.on ≠ i) → oi.apart ops oj = true) →
    i ∈ Region.ready .any ops L → Det E ops σc oi f x → PAnyH P E ops n σc K k (L.setIfInBounds i true) (f.put oi.dst x) σh → PAnyH P E ops n σc K (k + 1) L f σh := by
  intro k
  induction k with
  | zero =>
    intro L f σh hnc _ hr hy H
    refine ⟨fun hl => absurd (hl i hin) (unlisted_ne (j := i) (mem_ready.1 hr).1), fun j hj hn o ho => ?_⟩
    by_cases hji : j = i
    · subst hji
      rw [hi] at ho; cases ho
      exact .inl ⟨hci, x, hy, hnx, H⟩
    · have := (mem_ready.1 hj).1
      have h2 := H.1 j hn
      rw [getD_set_ne false (Ne.symm hji)] at h2
      exact absurd h2 (unlisted_ne (j := j) this)
  | succ k ih =>
    intro L f σh hnc hfree hr hy H
    refine ⟨fun hl => absurd (hl i hin) (unlisted_ne (j := i) (mem_ready.1 hr).1), fun j hj hn oj hoj => ?_⟩
    by_cases hji : j = i
    · subst hji
      rw [hi] at hoj; cases hoj
      exact .inl ⟨hci, x, hy, hnx, H⟩
    · have h1 := H.2 j (ready_mono hj hji) hn oj hoj
      obtain ⟨hjun, oj', hoj', hall⟩ := mem_ready.1 hj
      rw [hoj] at hoj'; cases hoj'
      have hnot : ∀ e ∈ oj.after, Region.binds .any e = true → e.on ≠ i := fun e he hb heq => by
        have h1 := hall e he hb
        rw [heq] at h1
        exact absurd h1 (unlisted_ne (j := i) (mem_ready.1 hr).1)
      obtain ⟨a1, a2, a3⟩ := Oper.apart_spec (hfree j oj hoj hji hjun hnot)
      refine StepH.congr (getA_put x a1) (by cases oi.dst <;> rfl) (noCells_put hnc hnx) hnc (fun r σ hnr hr' => ?_) h1
      refine ih (L.setIfInBounds j true) (f.put oj.dst r) σ (noCells_put hnc hnr) (fun m om hm hmi hun hno => hfree m om hm hmi ?_ hno) (ready_mono hr (Ne.symm hji)) (hy.congr fun s hs => (getA_put r a3 s hs).symm) ?_
      · by_cases hjm : j = m
        · subst hjm; exact hjun
        · rw [getD_set_ne true hjm] at hun; exact hun
      · rw [Array.setIfInBounds_comm _ _ hji]
        exact PAnyH.alike hK _ _ _ _ _ (put_alike f _ _ a2) (noCells_put (noCells_put hnc hnx) hnr) (noCells_put (noCells_put hnc hnr) hnx) hr'
def chkOrdH (ops : Array Oper) (n : Nat) : Array Bool → List Nat → Bool
  | L, [] => (List.range n).all fun i => L.getD i false
  | L, i :: rest => decide (i < n) && (Region.ready .any ops L).contains i &&
      (if ((ops[i]?).map heavy).getD true then (Region.ready .any ops L).all (fun j => j == i || decide (n ≤ j)) else Region.free .any ops L i) && chkOrdH ops n (L.setIfInBounds i true) rest
def drawOKH (ops : Array Oper) (n : Nat) (ord : List Nat) : Bool := edgesOK ops && lastOK ops n && decide (n ≤ ops.size) && decide (ord.length = n) && chkOrdH ops n (Array.replicate ops.size false) ord
theorem PAnyH.of_WPH (hK : ∀ f f' σ, Alike f f' → K f σ → K f' σ) : ∀ (ord : List Nat) (L : Array Bool) (f : Fm) (σh : St), noCells f = f → chkOrdH ops n L ord = true → WPH P E ops σc K ord f σh → PAnyH P E ops n σc K ord.length L f σh
  | [], L, f, σh, _, hc, h => ⟨fun i hi => by
      simp only [chkOrdH, List.all_eq_true, List.mem_range] at hc
      exact hc i hi, h⟩
  | i :: ord, L, f, σh, hnc, hc, h => by
    simp only [chkOrdH, Bool.and_eq_true, decide_eq_true_eq] at hc
    obtain ⟨⟨⟨hin, hr⟩, hf⟩, hc⟩ := hc
    have hr' : i ∈ Region.ready .any ops L := by simpa using hr
    simp only [WPH] at h
    cases ho : ops[i]? with
    | none => rw [ho] at h; exact h.elim
    | some oi =>
      rw [ho] at h
      simp only at h
      simp only [ho, Option.map_some, Option.getD_some] at hf
      cases hcall : heavy oi with
      | true =>
        rw [hcall] at hf
        simp only [if_true, List.all_eq_true] at hf
        refine ⟨fun hl => absurd (hl i hin) (unlisted_ne (j := i) (mem_ready.1 hr').1), fun j hj hn o hoj => ?_⟩
        have hji : j = i := by
          have := hf j hj
          simp only [Bool.or_eq_true, beq_iff_eq, decide_eq_true_eq] at this
          omega
        subst hji
        rw [ho] at hoj; cases hoj
        exact StepH.congr (fun _ _ => rfl) rfl hnc hnc (fun r σ hr hh => PAnyH.of_WPH hK ord _ _ _ (noCells_put hnc hr) hc hh) h
      | false =>
        rw [hcall] at hf
        simp only [Bool.false_eq_true, if_false] at hf
        obtain ⟨x, hx, hnx, hw⟩ := h.det hcall
        exact PAnyH.first hK ho hin hcall hnx _ _ _ _ hnc (Region.free_spec ho hf) hr' hx (PAnyH.of_WPH hK ord _ _ _ (noCells_put hnc hnx) hc hw)

theorem SR.mono_only (h : SR E g f (σc.add σh) a w φ Ω) : SR E g f (σc.add σh) a w φ Ω := h
theorem stepH_wp (hE : EnvOK P E) (h : SR E g f (σc.add σh) a w φ Ω) (hnc : noCells f = f) {o : Oper} {K : Fm → St → Prop} (hk : StepH P E ops σc o f σh K) (hd : ∀ d, o.dst = some d → d < f.nt) {nx : Act → World → Prop} {Q : Exit → Act → World → Prop}
    (hn : ∀ f' σh' a' φ' Ω' w', K f' σh' → f'.nt = f.nt → noCells f' = f' → SR E g f' (σc.add σh') a' w' φ' Ω' → nx a' w') :
    if Region.wanted o (yielded ops a.tmps) then o.wpIn (Fw E.rd) 0 P a w nx Q else (∀ f, o.about P w a.eval = some f → (Fw E.rd).fn f) ∧ nx (a.put o.dst undef) w := by
  have one : o.guard = none → One P E f (σc.add σh) o (fun f' σ' => ∃ σh', σ'.box.Perm (σc.add σh').box ∧ σ'.map.Perm (σc.add σh').map ∧ noCells f' = f' ∧ K f' σh') → if Region.wanted o (yielded ops a.tmps) then o.wpIn (Fw E.rd) 0 P a w nx Q else (∀ f, o.about P w a.eval = some f → (Fw E.rd).fn f) ∧ nx (a.put o.dst undef) w := fun hg ho => by
    have hw : Region.wanted o (yielded ops a.tmps) = true := by unfold Region.wanted; rw [hg]
    rw [if_pos hw]
    refine one_wp hE h ho hd fun f' σ' a' φ' Ω' w' k1 k2 k3 => ?_
    obtain ⟨σh', p1, p2, k4, k5⟩ := k1
    exact hn _ _ _ φ' Ω' w' k5 k2 k4 (k3.perm p1 p2)
  rcases hk with ⟨hc, x, hx, hnx, hk⟩ | ⟨hc, hk⟩ | ⟨hc, hg, c, x, fn, caps, σ1, σ2, hop, hcc, hx, pb, pm, hcall⟩ | ⟨hc, hg, t, l, hop, hl, h1, h2, hk⟩ | ⟨hc, hg, ho, t, l, p, x, b, off, cs, hop, hl, hp, hbc, hb, h1, h2, h3, h4, hk⟩
  rotate_left 3
  · refine one hg ?_
    unfold One evF Eff
    simp only [hop, hl]
    exact ⟨h1, h2, fun b hb => ⟨{ σh with box := (b, l.zero.cells.map plainC) :: σh.box }, List.perm_middle.symm, .refl _, noCells_put hnc rfl, hk b hb⟩⟩
  · refine one hg ?_
    unfold One evF Eff
    have e1 : ∀ (l m : List (Nat × List AV)) (b : Nat), b ∉ l.map (·.1) → getB (l ++ m) b = getB m b := by
      intro l m b hb
      induction l with
      | nil => rfl
      | cons p l ih =>
        obtain ⟨k, v⟩ := p
        simp only [List.map_cons, List.mem_cons, not_or] at hb
        simp only [List.cons_append, getB]
        rw [if_neg (by first | exact hb.1 | exact fun e => hb.1 e.symm)]
        exact ih hb.2
    have e2 : ∀ (l m : List (Nat × List AV)) (b : Nat) (cs : List AV), b ∉ l.map (·.1) → setB (l ++ m) b cs = l ++ setB m b cs := by
      intro l m b cs hb
      induction l with
      | nil => rfl
      | cons p l ih =>
        obtain ⟨k, v⟩ := p
        simp only [List.map_cons, List.mem_cons, not_or] at hb
        simp only [List.cons_append, setB]
        rw [if_neg (by first | exact hb.1 | exact fun e => hb.1 e.symm), ih hb.2]
    have e3 : ∀ n, delCells b off n f.ow = [] := by
      rw [ho]; intro n
      induction n with
      | zero => rfl
      | succ n ih => simp only [delCells, delT]; exact ih
    have e4 : ∀ cs, gives f.ow cs = false := by
      rw [ho]; intro cs
      induction cs with
      | nil => rfl
      | cons c cs ih => cases c with
        | list t xs => cases t <;> simp [gives, ih, getO, getT]
        | _ => simp [gives, ih]
    have e5 : ∀ cs, giveF f b off cs = f := fun cs => by
      unfold giveF; rw [e4, e3, ← ho]; rfl
    have e6 : ∀ cs, giveB f b off cs = cs.map plainC := fun cs => by
      unfold giveB; rw [e4]; rfl
    have hb' : getB (σc.add σh).box b = some cs := by simp only [St.add]; rw [e1 _ _ _ hbc]; exact hb
    have hfin : storeW E f (σc.add σh) t (.ptr b off) (evX E f x) fun f' σ' => (∃ σh', σ'.box.Perm (σc.add σh').box ∧ σ'.map.Perm (σc.add σh').map ∧ noCells (f'.put o.dst .any) = f'.put o.dst .any ∧ K (f'.put o.dst .any) σh') := by
      unfold storeW
      simp only [hl, hb']
      have hgen : (evX E f x).cells.all AV.one = true ∧ (evX E f x).cells.length = l.size ∧ off + (evX E f x).cells.length ≤ cs.length ∧ (∃ σh', ({ (σc.add σh) with box := setB (σc.add σh).box b (cs.take off ++ giveB f b off (evX E f x).cells ++ cs.drop (off + (evX E f x).cells.length)) } : St).box.Perm (σc.add σh').box ∧ ({ (σc.add σh) with box := setB (σc.add σh).box b (cs.take off ++ giveB f b off (evX E f x).cells ++ cs.drop (off + (evX E f x).cells.length)) } : St).map.Perm (σc.add σh').map ∧ noCells ((giveF f b off (evX E f x).cells).put o.dst .any) = (giveF f b off (evX E f x).cells).put o.dst .any ∧ K ((giveF f b off (evX E f x).cells).put o.dst .any) σh') := by
        refine ⟨h2, h3, h4, { σh with box := setB σh.box b (cs.take off ++ (evX E f x).cells.map plainC ++ cs.drop (off + (evX E f x).cells.length)) }, ?_, .refl _, ?_, ?_⟩
        · simp only [St.add, e6]; rw [e2 _ _ _ _ hbc]
        · rw [e5]; exact noCells_put hnc rfl
        · rw [e5]; exact hk
      cases hx : evX E f x with
      | list t xs =>
        rw [hx] at h1 hgen
        cases t with
        | none => exact hgen
        | _ => cases h1
      | _ => rw [hx] at hgen; exact hgen
    simp only [hop, hp]
    exact hfin
  · refine stepP_wp (K := fun f' => noCells f' = f' ∧ K f' σh) hE h ((Det_mono (τ := σh) hx).step ⟨noCells_put hnc hnx, hk⟩) hd fun f' a' φ' Ω' w' k1 k2 k3 => ?_
    exact hn _ _ _ φ' Ω' w' k1.2 k2 k1.1 k3
  · have hk' : StepP P E ops (σc.add σh) o f fun f' => noCells f' = f' ∧ K f' σh := by
      unfold StepP at hk ⊢
      have one : OneP P E f σc o (fun f' => noCells f' = f' ∧ K f' σh) → OneP P E f (σc.add σh) o (fun f' => noCells f' = f' ∧ K f' σh) := fun hh => by
        unfold OneP at hh ⊢
        unfold isCall at hc
        cases hev : evP E f σc o with
        | some y => rw [hev] at hh; rw [evP_mono hev]; exact hh
        | none =>
          rw [hev] at hh
          simp only at hh
          split at hc
          · rename_i c hop
            split at hc
            · rename_i y hcc
              have : evP E f (σc.add σh) o = none := by unfold evP evF; simp only [hop, hcc]
              rw [this]
              simp only [hop, hcc] at hh ⊢
              exact hh
            · cases hc
          · cases hc
      cases hg : o.guard with
      | none =>
        rw [hg] at hk
        rcases hk with hk | ⟨z, hz, hk⟩
        · exact .inl (one hk)
        · exact .inr ⟨z, QP_mono hz, hk⟩
      | some jw =>
        obtain ⟨j, want⟩ := jw
        rw [hg] at hk
        simp only at hk ⊢
        cases hdj : (ops[j]?).bind (·.dst) with
        | none => rw [hdj] at hk; exact hk.elim
        | some dj =>
          rw [hdj] at hk
          simp only at hk ⊢
          cases hb : guardB want (getA f.sl dj) <;> rw [hb] at hk <;> simp only at hk ⊢
          rcases hk with hk | ⟨z, hz, hk⟩ | hk
          · exact .inl (iteW.2 ⟨fun e => one ((iteW.1 hk).1 e), fun e => (iteW.1 hk).2 e⟩)
          · exact .inr (.inl ⟨z, fun e => QP_mono (hz e), hk⟩)
          · exact .inr (.inr hk)
    exact stepP_wp (K := fun f' => noCells f' = f' ∧ K f' σh) hE h hk' hd fun f' a' φ' Ω' w' k1 k2 k3 => hn _ _ _ φ' Ω' w' k1.2 k2 k1.1 k3
  · have hw : Region.wanted o (yielded ops a.tmps) = true := by unfold Region.wanted; rw [hg]
    rw [if_pos hw]
    have hxv := (evX_rep (E := E) h.ss h.fs x).1
    rw [hx] at hxv
    simp only [Rep] at hxv
    obtain ⟨cvs, hxv, hcr⟩ := hxv
    have hargs := RepL.append (evXs_rep h.ss h.fs c.args.toList) hcr
    have hcw : CallW P E fn ((c.args.toList.map fun y => ers (evX E f y)) ++ caps) f (σc.add σh) (fun f' σ' r => ∃ σh', σ' = σc.add σh' ∧ K (f'.put o.dst r) σh' ∧ noCellV r = r) := by
      refine ⟨σ1, σc.add σ2, ?_, ?_, ACall.mono hcall fun r σ1' hr => ⟨σ2.add σ1', ?_, ?_, noCellV_es r⟩⟩
      · simp only [St.add]
        exact (pb.append_left _).trans (perm3 _ _ _)
      · simp only [St.add]
        exact (pm.append_left _).trans (perm3 _ _ _)
      · simp only [St.add, List.append_assoc]
      · rw [hnc]; exact hr
    refine wpIn_call (fun c' e => by rw [hop] at e; cases e) (run_callee hop hcc hxv hcall.callable) ((h.callW hcw hargs).mono ?_)
    rintro e w' ⟨v, φ', Ω', r, σ', rfl, ⟨σh', rfl, hK, hnr⟩, k2, k3⟩
    refine ⟨v, rfl, ?_⟩
    rw [hnc] at k3 hK
    refine hn _ _ _ φ' Ω' w' hK (by cases o.dst <;> rfl) (noCells_put hnc hnr) (k3.put hd k2 (TagOK.es (fun y hy => (k3.ss.own y hy).tag) _))

/-- The first ones, in any order. -/
theorem any_wpH (hE : EnvOK P E) {m : Nat} {Q : Exit → Act → World → Prop} (he : edgesOK ops = true) (hlast : lastOK ops n = true) (hnm : n + m = ops.size)
    (hK : ∀ k L f' σh' a' φ' Ω' w', m ≤ k → K f' σh' → dstsOK f'.nt ops.toList = true → SR E g f' (σc.add σh') a' w' φ' Ω' → L.size = ops.size → Closed ops L → (∀ i, i < n → L.getD i false = true) → (∀ i, n ≤ i → i < ops.size → L.getD i true = false) → wpAnyIn (Fw E.rd) 0 P .any ops Q k L a' w') :
    ∀ (k : Nat) (L : Array Bool) {f : Fm} {σh : St} {a : Act} {w : World} {φ : Nat → Nat} {Ω : List Own}, L.size = ops.size → Closed ops L → (∀ i, n ≤ i → i < ops.size → L.getD i true = false) →
      SR E g f (σc.add σh) a w φ Ω → noCells f = f → dstsOK f.nt ops.toList = true → PAnyH P E ops n σc K k L f σh → wpAnyIn (Fw E.rd) 0 P .any ops Q (k + m) L a w := by
  intro k
  induction k with
  | zero =>
    intro L f σh a w φ Ω hL hc h2 hs hnc hd hk
    exact hK _ L f σh a φ Ω w (by omega) hk.2 hd hs hL hc hk.1 h2
  | succ k ih =>
    intro L f σh a w φ Ω hL hc h2 hs hnc hd hk
    by_cases hall : allL n L
    · exact hK _ L f σh a φ Ω w (by omega) (hk.1 hall) hd hs hL hc hall h2
    rw [show k + 1 + m = (k + m) + 1 by omega]
    have hlow : ∀ j ∈ Region.ready .any ops L, j < n := fun j hj => by
      rcases Nat.lt_or_ge j n with h | h
      · exact h
      · exact absurd (fun i hi => last_ready hlast hc hj h i (by omega)) hall
    refine ⟨fun hr => ?_, fun j hj => ?_⟩
    · exfalso
      have key : ∀ p, p ≤ n → ∀ i, i < p → L.getD i false = true := by
        intro p
        induction p with
        | zero => intro _ i hi; omega
        | succ p ihp =>
          intro hp i hi
          rcases Nat.lt_or_ge i p with h | h
          · exact ihp (by omega) i h
          · have : i = p := by omega
            subst this
            cases hl : L.getD i true with
            | true =>
              have hlt : i < L.size := by omega
              simpa [hlt] using hl
            | false =>
              have := first_ready he (by omega : i < ops.size) (ihp (by omega)) hl
              rw [hr] at this; cases this
      exact hall (key n (Nat.le_refl _))
    · have hjn := hlow j hj
      have hlt : j < ops.size := by omega
      have ho : ops[j]? = some ops[j] := Array.getElem?_eq_getElem hlt
      have hst := hk.2 j hj hjn _ ho
      have hdo : ∀ d, (ops[j]).dst = some d → d < f.nt := fun d e => by
        simp only [dstsOK, List.all_eq_true] at hd
        have := hd ops[j] (by simp)
        rw [e] at this; simpa using this
      unfold wpOpIn
      simp only [ho]
      exact stepH_wp hE hs hnc hst hdo fun f' σh' a' φ' Ω' w' k1 k2 k3 k4 =>
        ih _ (by simpa using hL) (hc.list hj) (fun i hi hil => by rw [getD_set_ne true (by omega)]; exact h2 i hi hil) k4 k3 (by rw [k2]; exact hd) k1

theorem WPH.mono {K K' : Fm → St → Prop} (hk : ∀ f σ, K f σ → K' f σ) : ∀ (ord : List Nat) (f : Fm) (σh : St), noCells f = f → WPH P E ops σc K ord f σh → WPH P E ops σc K' ord f σh
  | [], f, σh, _, h => hk f σh h
  | i :: ord, f, σh, hnc, h => by
    simp only [WPH] at h ⊢
    split
    · rename_i o ho
      rw [ho] at h
      exact StepH.congr (fun _ _ => rfl) rfl hnc hnc (fun r σ hr hh => WPH.mono hk ord _ _ (noCells_put hnc hr) hh) h
    · rename_i ho; rw [ho] at h; exact h.elim

/-- A region that draws its order, with calls that are given boxes out of σh. -/
theorem Run.drawH (hE : EnvOK P E) (hm : P.follows .mixedOrders = true) {σ : St} {id : Nat} {Q : Post} (σc σh : St) (pb : σ.box.Perm (σc.box ++ σh.box)) (pm : σ.map.Perm (σc.map ++ σh.map)) (hnc : noCells f = f) (n : Nat) (ord : List Nat) (hd : dstsOK f.nt ops.toList = true) (hc : drawOKH ops n ord = true)
    (h : ∀ K : Fm → St → Prop, (∀ f σ, Q .normal f σ → K f σ) → WPH P E ops σc (fun f σh => W P E ops (ops.toList.drop n) f (σc.add σh) K) ord f σh) : Run P E (.region id ops true) f σ Q := by
  intro g a w φ Ω hs0
  simp only [drawOKH, Bool.and_eq_true, decide_eq_true_eq] at hc
  obtain ⟨⟨⟨⟨c1, c2⟩, c3⟩, c4⟩, c5⟩ := hc
  have hs : SR E g f (σc.add σh) a w φ Ω := hs0.perm pb pm
  refine wpIn_region_any hm ?_
  have hs' : SR E g f (σc.add σh) a { w with drawn := w.drawn + 1 } φ Ω :=
    have H : Ext w φ { w with drawn := w.drawn + 1 } φ := fun b off hb => ⟨hb, rfl⟩
    ⟨hs.ss.keep H (fun b _ => ⟨rfl, rfl⟩) hs.ss.fits (Nat.le_refl _), hs.fs.mono H, hs.since.step H rfl rfl rfl (Nat.le_refl _) (fun b _ _ => ⟨rfl, rfl⟩), hs.mine⟩
  have hQ : ∀ f' σ' a' φ' Ω' w', Q .normal f' σ' → SR E g f' σ' a' w' φ' Ω' → (Q.lift E g) .normal a' w' := fun f' σ' a' φ' Ω' w' k1 k2 => ⟨f', σ', φ', Ω', k2, k1⟩
  have hw := h (fun f σ => Q .normal f σ) (fun _ _ h => h)
  have hp := PAnyH.of_WPH (n := n) (K := fun f σh => ∀ (k : Nat) (L : Array Bool) a φ Ω w, ops.size - n ≤ k → dstsOK f.nt ops.toList = true → SR E g f (σc.add σh) a w φ Ω → L.size = ops.size → Closed ops L → (∀ i, i < n → L.getD i false = true) → (∀ i, n ≤ i → i < ops.size → L.getD i true = false) → wpAnyIn (Fw E.rd) 0 P .any ops (Q.lift E g) k L a w)
    (fun f f' σ ha hk k L a φ Ω w k1 k2 k3 k4 k5 k6 k7 => hk k L a φ Ω w k1 (by rw [ha.1]; exact k2) (k3.alike ⟨ha.1.symm, ⟨ha.2.1.1.symm, ha.2.1.2.symm⟩, fun s => (ha.2.2 s).symm⟩) k4 k5 k6 k7) ord _ f σh hnc c5 (WPH.mono (fun f σh hk k L a φ Ω w k1 k2 k3 k4 k5 k6 k7 => ?_) ord f σh hnc hw)
  · have := any_wpH (n := n) (m := ops.size - n) hE c1 c2 (by omega) (fun k L f' σh' a' φ' Ω' w' k1 k2 k3 k4 => k2 k L a' φ' Ω' w' k1 k3 k4) ord.length (Array.replicate ops.size false) (by simp) (fun j o ho hj => by
      rcases Nat.lt_or_ge j ops.size with h | h
      · simp [h] at hj
      · have := (Array.getElem?_eq_some_iff.1 ho).1; omega) (fun i hi hil => by simp [hil]) hs' hnc hd hp
    rw [c4, show n + (ops.size - n) = ops.size by omega] at this
    exact this
  · refine last_wp hE hQ c1 c2 k n L (Nat.le_refl _) (by omega) k4 k5 (fun i hi => .inl (k6 i hi)) k7 k3 ?_ hk
    simp only [dstsOK, List.all_eq_true] at k2 ⊢
    exact fun o ho => k2 o (List.mem_of_mem_drop ho)
theorem Run.drawHReg (hE : EnvOK P E) (hm : P.follows .mixedOrders = true) {σ : St} {id : Nat} {c : Code} {Q : Post} (σc σh : St) (pb : σ.box.Perm (σc.box ++ σh.box)) (pm : σ.map.Perm (σc.map ++ σh.map)) (hnc : noCells f = f) (n : Nat) (ord : List Nat) (hd : dstsOK f.nt ops.toList = true) (hc : drawOKH ops n ord = true)
    (h : ∀ K : Fm → St → Prop, (∀ f σ, Run P E c f σ Q → K f σ) → WPH P E ops σc (fun f σh => W P E ops (ops.toList.drop n) f (σc.add σh) K) ord f σh) : Run P E (.seq (.region id ops true) c) f σ Q :=
  Run.seq (Run.drawH hE hm σc σh pb pm hnc n ord hd hc fun K hK => h K hK)
end

section
variable {P : Program} {E : Env} {f : Fm} {σ σh : St} {ops : Array Oper} {rest : List Nat} {i d : Nat} {op : Op} {ty : TypeId} {pos : String} {after : Array Edge} {j dj : Nat} {want b : Bool} {K : Fm → St → Prop} {nt : Nat} {sl : List (Nat × AV)} {ow : List (Tag × (Nat × Nat))} {df : List Nat} {x z : AV}
theorem WPH_cons {o : Oper} (ho : ops[i]? = some o) : WPH P E ops σ K (i :: rest) f σh = StepH P E ops σ o f σh (WPH P E ops σ K rest) := by
  simp only [WPH, ho]
theorem Hd (k : K f σh) : WPH P E ops σ K [] f σh := k
theorem Hq (ho : ops[i]? = some ⟨some d, op, ty, pos, after, none⟩) (h : evP E ⟨nt, sl, ow, df⟩ σ ⟨some d, op, ty, pos, after, none⟩ = some x) (k : WPH P E ops σ K rest ⟨nt, (d, x) :: sl, ow, df⟩ σh) (hc : heavy ⟨some d, op, ty, pos, after, none⟩ = false := by rfl) (hx : noCellV x = x := by rfl) : WPH P E ops σ K (i :: rest) ⟨nt, sl, ow, df⟩ σh := by
  rw [WPH_cons ho]
  exact .inl ⟨hc, x, ⟨x, h, .inl rfl⟩, hx, k⟩
theorem Hl {xs : List (List AV)} (ho : ops[i]? = some ⟨some d, op, ty, pos, after, none⟩) (h : evP E ⟨nt, sl, ow, df⟩ σ ⟨some d, op, ty, pos, after, none⟩ = some (.full xs)) (k : WPH P E ops σ K rest ⟨nt, (d, .list .none xs) :: sl, ow, df⟩ σh) (hc : heavy ⟨some d, op, ty, pos, after, none⟩ = false := by rfl) : WPH P E ops σ K (i :: rest) ⟨nt, sl, ow, df⟩ σh := by
  rw [WPH_cons ho]
  exact .inl ⟨hc, _, ⟨_, h, full_weak⟩, rfl, k⟩
theorem Hg (ho : ops[i]? = some ⟨some d, op, ty, pos, after, some (j, want)⟩) (hj : (ops[j]?).bind (·.dst) = some dj) (hb : guardB want (getA sl dj) = some b) (h : b = true → evP E ⟨nt, sl, ow, df⟩ σ ⟨some d, op, ty, pos, after, some (j, want)⟩ = some x) (k : WPH P E ops σ K rest ⟨nt, (d, .when b (es x)) :: sl, ow, df⟩ σh) (hc : heavy ⟨some d, op, ty, pos, after, some (j, want)⟩ = false := by rfl) :
    WPH P E ops σ K (i :: rest) ⟨nt, sl, ow, df⟩ σh := by
  rw [WPH_cons ho]
  refine .inl ⟨hc, .when b (es x), ?_, rfl, k⟩
  simp only [Det, hj, hb]
  exact .inr ⟨x, rfl, fun e => ⟨x, h e, .inl rfl⟩⟩
theorem Hp {c p q : Operand} {t β : Bool} {X Y : AV} (ho : ops[i]? = some ⟨some d, .pick c p q, ty, pos, after, none⟩) (hc : evX E ⟨nt, sl, ow, df⟩ c = .bool t) (hx : evX E ⟨nt, sl, ow, df⟩ p = X) (hy : evX E ⟨nt, sl, ow, df⟩ q = Y) (h1 : t = true → gOK X) (h2 : t = false → gOK Y) (hβ : (if t then pv X else pv Y) = β)
    (k : WPH P E ops σ K rest ⟨nt, (d, .bool β) :: sl, ow, df⟩ σh) : WPH P E ops σ K (i :: rest) ⟨nt, sl, ow, df⟩ σh := by
  rw [WPH_cons ho]
  exact .inl ⟨rfl, .bool β, ⟨_, evP_pick rfl hc hx hy, pick_weak h1 h2 hβ⟩, rfl, k⟩
theorem Hand {c p : Operand} {t β : Bool} {X : AV} (ho : ops[i]? = some ⟨some d, .pick c p (.const (.bool false)), ty, pos, after, none⟩) (hc : evX E ⟨nt, sl, ow, df⟩ c = .bool t) (hx : evX E ⟨nt, sl, ow, df⟩ p = X) (h1 : t = true → gOK X) (hβ : pv X = β)
    (k : WPH P E ops σ K rest ⟨nt, (d, .bool (t && β)) :: sl, ow, df⟩ σh) : WPH P E ops σ K (i :: rest) ⟨nt, sl, ow, df⟩ σh :=
  Hp ho hc hx rfl h1 (fun _ => trivial) (by subst hβ; cases t <;> rfl) k
theorem Hor {c p : Operand} {t β : Bool} {X : AV} (ho : ops[i]? = some ⟨some d, .pick c (.const (.bool true)) p, ty, pos, after, none⟩) (hc : evX E ⟨nt, sl, ow, df⟩ c = .bool t) (hx : evX E ⟨nt, sl, ow, df⟩ p = X) (h1 : t = false → gOK X) (hβ : pv X = β)
    (k : WPH P E ops σ K rest ⟨nt, (d, .bool (t || β)) :: sl, ow, df⟩ σh) : WPH P E ops σ K (i :: rest) ⟨nt, sl, ow, df⟩ σh :=
  Hp ho hc rfl hx (fun _ => trivial) h1 (by subst hβ; cases t <;> rfl) k
theorem Hc {o : Oper} {c : Call} {x : Operand} {fn : Nat} {caps args : List AV} {R : AV → Prop} (ho : ops[i]? = some o) (hg : o.guard = none) (hop : o.op = .call c) (hc : c.callee = .value x) (hx : evX E f x = .func fn caps)
    (hargs : (c.args.toList.map fun y => ers (evX E f y)) ++ caps = args) (h : PCall P E fn args R) (hnc : noCells f = f) (k : ∀ r, R r → WPH P E ops σ K rest (f.put o.dst (es r)) σh) : WPH P E ops σ K (i :: rest) f σh := by
  subst hargs
  rw [WPH_cons ho]
  refine .inr (.inl ⟨by unfold isCall; simp only [hop, hc], ?_⟩)
  unfold StepP
  rw [hg]
  refine .inl ?_
  unfold OneP evP evF
  simp only [hop, hc, hx]
  exact PCall.useP h fun r hr => ⟨noCells_put hnc (noCellV_es r), k r hr⟩
theorem Hcb {o : Oper} {c : Call} {x : Operand} {fn : Nat} {caps args : List AV} {R : AV → St → Prop} (σ1 σ2 : St) (ho : ops[i]? = some o) (hg : o.guard = none) (hop : o.op = .call c) (hc : c.callee = .value x) (hx : evX E f x = .func fn caps)
    (hargs : (c.args.toList.map fun y => ers (evX E f y)) ++ caps = args) (h : ACall P E fn args σ1 R) (pb : σh.box.Perm (σ1.box ++ σ2.box)) (pm : σh.map.Perm (σ1.map ++ σ2.map)) (k : ∀ r σ1', R r σ1' → WPH P E ops σ K rest (f.put o.dst (es r)) (σ2.add σ1')) : WPH P E ops σ K (i :: rest) f σh := by
  subst hargs
  rw [WPH_cons ho]
  exact .inr (.inr (.inl ⟨by unfold isCall; simp only [hop, hc], hg, c, x, fn, caps, σ1, σ2, hop, hc, hx, pb, pm, ACall.mono h fun r σ hr => k r σ hr⟩))
theorem Hn {o : Oper} {t : TypeId} {l : Lay} (ho : ops[i]? = some o) (hg : o.guard = none) (hop : o.op = .alloc t) (hl : E.lay t = some l) (h1 : l.zero.cells.all AV.one = true) (h2 : isAny l.zero = false)
    (k : ∀ b, Fresh b (σ.add σh) → WPH P E ops σ K rest (f.put o.dst (.ptr b 0)) { σh with box := (b, l.zero.cells.map plainC) :: σh.box }) : WPH P E ops σ K (i :: rest) f σh := by
  rw [WPH_cons ho]
  exact .inr (.inr (.inr (.inl ⟨by unfold heavy; simp only [hop, Bool.or_true], hg, t, l, hop, hl, h1, h2, k⟩)))
theorem Hs {o : Oper} {t : TypeId} {l : Lay} {p x : Operand} {b off : Nat} {cs : List AV} (ho : ops[i]? = some o) (hg : o.guard = none) (hop : o.op = .store t p x) (how : f.ow = []) (hl : E.lay t = some l) (hp : evX E f p = .ptr b off) (hbc : b ∉ σ.box.map (·.1)) (hb : getB σh.box b = some cs) (h1 : untagged (evX E f x) = true)
    (h2 : (evX E f x).cells.all AV.one = true) (h3 : (evX E f x).cells.length = l.size) (h4 : off + (evX E f x).cells.length ≤ cs.length)
    (k : WPH P E ops σ K rest (f.put o.dst .any) { σh with box := setB σh.box b (cs.take off ++ (evX E f x).cells.map plainC ++ cs.drop (off + (evX E f x).cells.length)) }) : WPH P E ops σ K (i :: rest) f σh := by
  rw [WPH_cons ho]
  exact .inr (.inr (.inr (.inr ⟨by unfold heavy; simp only [hop, Bool.or_true], hg, how, t, l, p, x, b, off, cs, hop, hl, hp, hbc, hb, h1, h2, h3, h4, k⟩)))
end
end Go.Proofs.YtpjkepfplhllfaaDoor.Av
