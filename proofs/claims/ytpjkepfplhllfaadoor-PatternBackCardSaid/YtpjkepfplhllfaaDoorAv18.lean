/-
Regions that draw their order.
-/
import Derived.Test.YtpjkepfplhllfaaDoorAv17
import Derived.Orders
namespace Go.Proofs.YtpjkepfplhllfaaDoor.Av
set_option linter.unusedSimpArgs false
set_option linter.unusedVariables false
open Go


def isCall (o : Oper) : Bool := match o.op with | .call c => (match c.callee with | .value _ => true | _ => false) | _ => false
section
variable (P : Program) (E : Env)
def OneP (f : Fm) (σ : St) (o : Oper) (K : Fm → Prop) : Prop :=
  match evP E f σ o with
  | some x => K (f.put o.dst x)
  | none => match o.op with
    | .call c => match c.callee with
      | .value x => match evX E f x with
        | .func fn caps => CallPure P E fn ((c.args.toList.map fun y => ers (evX E f y)) ++ caps) fun r => K (f.put o.dst r)
        | _ => False
      | _ => False
    | _ => False
def OneGP (f : Fm) (σ : St) (o : Oper) (b : Bool) (K : Fm → Prop) : Prop :=
  (∃ z, (b = true → QP E f σ o z) ∧ K (f.put o.dst (.when b (es z)))) ∨
  (isCall o = true ∧ ∃ z : AV, (b = true → ∃ c x fn caps, o.op = .call c ∧ c.callee = .value x ∧ evX E f x = .func fn caps ∧ ACall P E fn ((c.args.toList.map fun y => ers (evX E f y)) ++ caps) .empty fun r σ' => σ' = .empty ∧ r = z) ∧ K (f.put o.dst (.when b (es z))))
def StepP (ops : Array Oper) (σ : St) (o : Oper) (f : Fm) (K : Fm → Prop) : Prop :=
  match o.guard with
  | none => OneP P E f σ o K ∨ ∃ z, QP E f σ o z ∧ K (f.put o.dst z)
  | some (j, want) =>
    match (ops[j]?).bind (·.dst) with
    | some d => match guardB want (getA f.sl d) with
      | some b => wif b true (OneP P E f σ o K) (K (f.put o.dst .any)) ∨ OneGP P E f σ o b K
      | none => False
    | none => False
/-- Operations in an order. -/
def WP (ops : Array Oper) (σ : St) (K : Fm → Prop) : List Nat → Fm → Prop
  | [], f => K f
  | i :: rest, f => match ops[i]? with
    | some o => StepP P E ops σ o f (WP ops σ K rest)
    | none => False
end

def Alike (f f' : Fm) : Prop := f.nt = f'.nt ∧ (f.ow = f'.ow ∧ f.df = f'.df) ∧ ∀ s, getA f.sl s = getA f'.sl s

section
variable {P : Program} {E : Env} {f f' : Fm} {σ : St} {ops : Array Oper}

theorem evF_congr {o : Op} (h : ∀ x ∈ o.operands, evX E f x = evX E f' x) : evF E f σ o = evF E f' σ o := by
  have ps : ∀ ps : Array (Nat × Operand), (∀ x ∈ (ps.toList.map (·.2)), evX E f x = evX E f' x) → (ps.toList.map fun p => (p.1, evX E f p.2)) = (ps.toList.map fun p => (p.1, evX E f' p.2)) := fun ps hp =>
    List.map_congr_left fun p hm => by rw [hp p.2 (List.mem_map.2 ⟨p, hm, rfl⟩)]
  cases o <;> simp only [Op.operands] at h <;> simp only [evF]
  case build t xs => rw [ps xs fun x hx => h x (by simpa using hx)]
  case makeFunc fn first caps =>
    have : (caps.toList.map fun x => er (evX E f x)) = (caps.toList.map fun x => er (evX E f' x)) := List.map_congr_left fun x hx => by rw [h x (by simp [Array.mem_toList_iff.1 hx])]
    cases fn <;> simp only [evF, this]
  case call c =>
    cases hc : c.callee with
    | builtin b =>
      simp only []
      have hargs : ∀ x ∈ c.args.toList, evX E f x = evX E f' x := fun x hx => h x (by simp [Call.operands, hc, Array.mem_toList_iff.1 hx])
      revert hargs
      generalize c.args.toList = l
      intro hargs
      generalize c.argTypes.toList = m
      cases b with
      | len => rcases l with _ | ⟨x, _ | ⟨y, l⟩⟩ <;> rcases m with _ | ⟨t, _ | ⟨u, m⟩⟩ <;> first | rfl | (simp only; rw [hargs x (by simp)])
      | max => rcases l with _ | ⟨x, _ | ⟨y, _ | ⟨z, l⟩⟩⟩ <;> first | rfl | (simp only; rw [hargs x (by simp), hargs y (by simp)])
      | min => rcases l with _ | ⟨x, _ | ⟨y, _ | ⟨z, l⟩⟩⟩ <;> first | rfl | (simp only; rw [hargs x (by simp), hargs y (by simp)])
      | _ => rfl
    | _ => rfl
  case slice t x lo hi mx =>
    cases mx with
    | some _ => rfl
    | none =>
      have e0 : evX E f x = evX E f' x := h x (by simp)
      have e1 : lo.map (evX E f) = lo.map (evX E f') := by cases lo with | none => rfl | some y => simp only [Option.map_some]; rw [h y (by simp)]
      have e2 : hi.map (evX E f) = hi.map (evX E f') := by cases hi with | none => rfl | some y => simp only [Option.map_some]; rw [h y (by simp)]
      simp only [e0, e1, e2]
  case pick c a b => rw [h c (by simp), h a (by simp), h b (by simp)]
  case binOp op t x y _ => rw [h x (by simp), h y (by simp)]
  case indexAddr t x i => rw [h x (by simp), h i (by simp)]
  case index t x i => rw [h x (by simp), h i (by simp)]
  case lookup t x i _ => rw [h x (by simp), h i (by simp)]
  all_goals (first | rfl | rw [h _ (by simp; done)])

theorem evX_looks {o : Oper} (h : ∀ s ∈ o.looksAt ops, getA f.sl s = getA f'.sl s) : ∀ x ∈ o.op.operands, evX E f x = evX E f' x := by
  intro x hx
  cases x with
  | tmp t => exact congrArg stripW (h t (List.mem_append_left _ (List.mem_filterMap.2 ⟨.tmp t, by simpa using hx, rfl⟩)))
  | _ => rfl

theorem evP_congr {o : Oper} (h : ∀ s ∈ o.looksAt ops, getA f.sl s = getA f'.sl s) : evP E f σ o = evP E f' σ o := by
  have h1 := evX_looks (E := E) h
  unfold evP
  rw [evF_congr h1]
  split
  · rfl
  · split
    · rename_i t len ps hop
      rw [hop] at h1
      have : (ps.toList.map fun p => (p.1, evX E f p.2)) = (ps.toList.map fun p => (p.1, evX E f' p.2)) := List.map_congr_left fun p hm => by
        rw [h1 p.2 (by simp only [Op.operands]; simp; exact ⟨p.1, by simpa using hm⟩)]
      rw [this]
    · rfl

theorem OneP.congr {o : Oper} {K K' : Fm → Prop} (h : ∀ s ∈ o.looksAt ops, getA f.sl s = getA f'.sl s) (hk : ∀ r, K (f.put o.dst r) → K' (f'.put o.dst r)) (hh : OneP P E f σ o K) : OneP P E f' σ o K' := by
  have h1 := evX_looks (E := E) h
  unfold OneP at *
  rw [evP_congr h] at hh
  split at hh
  · exact hk _ hh
  · split at hh
    · rename_i c hop
      rw [hop] at h1
      split at hh
      · rename_i x hc
        have hx : evX E f x = evX E f' x := h1 x (by simp [Op.operands, Call.operands, hc])
        have ha : (c.args.toList.map fun y => ers (evX E f y)) = (c.args.toList.map fun y => ers (evX E f' y)) := List.map_congr_left fun y hy => by
          rw [h1 y (by simp [Op.operands, Call.operands, hc, Array.mem_toList_iff.1 hy])]
        rw [hx, ha] at hh
        split at hh
        · rename_i fn caps hfn
          exact ACall.mono hh fun r σ' hr => ⟨hr.1, hk _ hr.2⟩
        · exact hh.elim
      · exact hh.elim
    · exact hh.elim

theorem QP_congr {o : Oper} {z : AV} (h : ∀ s ∈ o.looksAt ops, getA f.sl s = getA f'.sl s) (hq : QP E f σ o z) : QP E f' σ o z := by
  obtain ⟨x, hx, hw⟩ := hq
  exact ⟨x, by rw [← evP_congr h]; exact hx, hw⟩
theorem StepP.congr {o : Oper} {K K' : Fm → Prop} (h : ∀ s ∈ o.looksAt ops, getA f.sl s = getA f'.sl s) (hk : ∀ r, K (f.put o.dst r) → K' (f'.put o.dst r)) (hh : StepP P E ops σ o f K) : StepP P E ops σ o f' K' := by
  unfold StepP at *
  cases hg : o.guard with
  | none =>
    rw [hg] at hh
    rcases hh with hh | ⟨z, hz, hh⟩
    · exact .inl (OneP.congr h hk hh)
    · exact .inr ⟨z, QP_congr h hz, hk _ hh⟩
  | some jw =>
    obtain ⟨j, want⟩ := jw
    rw [hg] at hh
    simp only at hh ⊢
    cases hd : (ops[j]?).bind (·.dst) with
    | none => rw [hd] at hh; exact hh.elim
    | some d =>
      rw [hd] at hh
      have : getA f.sl d = getA f'.sl d := h d (by simp [Oper.looksAt, hg, hd])
      simp only [this] at hh
      simp only
      cases hb : guardB want (getA f'.sl d) <;> rw [hb] at hh <;> simp only at hh ⊢
      rcases hh with hh | ⟨z, hz, hh⟩ | ⟨hc, z, hz, hh⟩
      · exact .inl (iteW.2 ⟨fun e => OneP.congr h hk ((iteW.1 hh).1 e), fun e => hk _ ((iteW.1 hh).2 e)⟩)
      · exact .inr (.inl ⟨z, fun e => QP_congr h (hz e), hk _ hh⟩)
      · refine .inr (.inr ⟨hc, z, fun e => ?_, hk _ hh⟩)
        obtain ⟨c, x, fn, caps, hop, hcc, hx, hcall⟩ := hz e
        have h1 := evX_looks (E := E) h
        rw [hop] at h1
        refine ⟨c, x, fn, caps, hop, hcc, ?_, ?_⟩
        · rw [← h1 x (by simp [Op.operands, Call.operands, hcc])]; exact hx
        · have ha : (c.args.toList.map fun y => ers (evX E f y)) = (c.args.toList.map fun y => ers (evX E f' y)) := List.map_congr_left fun y hy => by
            rw [h1 y (by simp [Op.operands, Call.operands, hcc, Array.mem_toList_iff.1 hy])]
          rw [← ha]; exact hcall

/-- What an operation that calls nothing puts. -/
def Det (E : Env) (ops : Array Oper) (σ : St) (o : Oper) (f : Fm) (x : AV) : Prop :=
  match o.guard with
  | none => QP E f σ o x
  | some (j, want) =>
    match (ops[j]?).bind (·.dst) with
    | some d => match guardB want (getA f.sl d) with
      | some b => ((b = true → evP E f σ o = some x) ∧ (b ≠ true → x = .any)) ∨ ∃ z, x = .when b (es z) ∧ (b = true → QP E f σ o z)
      | none => False
    | none => False
theorem Det.congr {o : Oper} {x : AV} (h : ∀ s ∈ o.looksAt ops, getA f.sl s = getA f'.sl s) (hh : Det E ops σ o f x) : Det E ops σ o f' x := by
  unfold Det at *
  cases hg : o.guard with
  | none => rw [hg] at hh; exact QP_congr h hh
  | some jw =>
    obtain ⟨j, want⟩ := jw
    rw [hg] at hh
    simp only at hh ⊢
    cases hd : (ops[j]?).bind (·.dst) with
    | none => rw [hd] at hh; exact hh.elim
    | some d =>
      rw [hd] at hh
      have : getA f.sl d = getA f'.sl d := h d (by simp [Oper.looksAt, hg, hd])
      simp only at hh
      simp only [← this]
      cases hb : guardB want (getA f.sl d) <;> rw [hb] at hh <;> simp only at hh ⊢
      rw [← evP_congr h]
      rcases hh with hh | ⟨z, hz, hh⟩
      · exact .inl hh
      · exact .inr ⟨z, hz, fun e => QP_congr h (hh e)⟩
theorem OneP.det {o : Oper} {K : Fm → Prop} (hc : isCall o = false) (h : OneP P E f σ o K) : ∃ x, evP E f σ o = some x ∧ K (f.put o.dst x) := by
  unfold OneP at h
  split at h
  · rename_i x hx; exact ⟨x, hx, h⟩
  · unfold isCall at hc
    split at h
    · rename_i c hop
      rw [hop] at hc
      split at h
      · rename_i x hcc; simp [hcc] at hc
      · exact h.elim
    · exact h.elim
theorem StepP.det {o : Oper} {K : Fm → Prop} (hc : isCall o = false) (h : StepP P E ops σ o f K) : ∃ x, Det E ops σ o f x ∧ K (f.put o.dst x) := by
  unfold StepP at h
  unfold Det
  cases hg : o.guard with
  | none =>
    rw [hg] at h
    rcases h with h | ⟨z, hz, h⟩
    · obtain ⟨x, h1, h2⟩ := OneP.det hc h
      exact ⟨x, ⟨x, h1, .inl rfl⟩, h2⟩
    · exact ⟨z, hz, h⟩
  | some jw =>
    obtain ⟨j, want⟩ := jw
    rw [hg] at h
    simp only at h ⊢
    cases hd : (ops[j]?).bind (·.dst) with
    | none => rw [hd] at h; exact h.elim
    | some d =>
      rw [hd] at h
      simp only at h ⊢
      cases hb : guardB want (getA f.sl d) <;> rw [hb] at h <;> simp only at h ⊢
      rename_i b
      rcases h with h | ⟨z, hz, h⟩ | ⟨hc', _⟩
      · by_cases e : b = true
        · obtain ⟨x, h1, h2⟩ := OneP.det hc ((iteW.1 h).1 e)
          exact ⟨x, .inl ⟨fun _ => h1, fun hne => absurd e hne⟩, h2⟩
        · exact ⟨.any, .inl ⟨fun he => absurd he e, fun _ => rfl⟩, (iteW.1 h).2 e⟩
      · exact ⟨_, .inr ⟨z, rfl, hz⟩, h⟩
      · rw [hc] at hc'; cases hc'
theorem Det.step {o : Oper} {x : AV} {K : Fm → Prop} (h : Det E ops σ o f x) (hk : K (f.put o.dst x)) : StepP P E ops σ o f K := by
  unfold StepP
  unfold Det at h
  have one : evP E f σ o = some x → OneP P E f σ o K := fun h => by unfold OneP; rw [h]; exact hk
  cases hg : o.guard with
  | none => rw [hg] at h; exact .inr ⟨x, h, hk⟩
  | some jw =>
    obtain ⟨j, want⟩ := jw
    rw [hg] at h
    simp only at h ⊢
    cases hd : (ops[j]?).bind (·.dst) with
    | none => rw [hd] at h; exact h.elim
    | some d =>
      rw [hd] at h
      simp only at h ⊢
      cases hb : guardB want (getA f.sl d) <;> rw [hb] at h <;> simp only at h ⊢
      rcases h with h | ⟨z, rfl, hz⟩
      · exact .inl (iteW.2 ⟨fun e => one (h.1 e), fun e => by rw [← h.2 e]; exact hk⟩)
      · exact .inr (.inl ⟨z, hz, hk⟩)

theorem Alike.put (h : Alike f f') (d : Option Nat) (x : AV) : Alike (f.put d x) (f'.put d x) := by
  cases d with
  | none => exact h
  | some d => exact ⟨h.1, h.2.1, fun s => by simp only [Fm.put, Fm.upd, getA]; split <;> simp [h.2.2 s]⟩
theorem Alike.refl (f : Fm) : Alike f f := ⟨rfl, ⟨rfl, rfl⟩, fun _ => rfl⟩
theorem put_alike (f : Fm) {d e : Option Nat} (x y : AV) (hne : ∀ k, d = some k → e ≠ some k) : Alike ((f.put d x).put e y) ((f.put e y).put d x) := by
  cases d with
  | none => exact .refl _
  | some d =>
    cases e with
    | none => exact .refl _
    | some e =>
      refine ⟨rfl, ⟨rfl, rfl⟩, fun s => ?_⟩
      simp only [Fm.put, Fm.upd, getA]
      by_cases h1 : e = s
      · subst h1
        have : d ≠ e := fun h => hne d rfl (by rw [h])
        simp [this]
      · simp [h1]
theorem getA_put {o : Oper} {d : Option Nat} (x : AV) (h : ∀ k, d = some k → k ∉ o.looksAt ops) : ∀ s ∈ o.looksAt ops, getA (f.put d x).sl s = getA f.sl s := by
  intro s hs
  cases d with
  | none => rfl
  | some d =>
    have : d ≠ s := fun e => h d rfl (e ▸ hs)
    simp [Fm.put, Fm.upd, getA, this]

def allL (n : Nat) (L : Array Bool) : Prop := ∀ i, i < n → L.getD i false = true
def PAny (P : Program) (E : Env) (ops : Array Oper) (n : Nat) (σ : St) (K : Fm → Prop) : Nat → Array Bool → Fm → Prop
  | 0, L, f => allL n L ∧ K f
  | k + 1, L, f => (allL n L → K f) ∧ ∀ j ∈ Region.ready .any ops L, j < n → ∀ o, ops[j]? = some o → StepP P E ops σ o f (PAny P E ops n σ K k (L.setIfInBounds j true))

variable {n : Nat} {K : Fm → Prop}
theorem PAny.alike (hK : ∀ f f', Alike f f' → K f → K f') : ∀ (k : Nat) (L : Array Bool) (f f' : Fm), Alike f f' → PAny P E ops n σ K k L f → PAny P E ops n σ K k L f'
  | 0, _, _, _, ha, h => ⟨h.1, hK _ _ ha h.2⟩
  | k + 1, L, f, f', ha, h => ⟨fun hl => hK _ _ ha (h.1 hl), fun j hj hn o ho => StepP.congr (fun s _ => ha.2.2 s) (fun r hr => PAny.alike hK k _ _ _ (ha.put _ _) hr) (h.2 j hj hn o ho)⟩

theorem unlisted_ne {i j : Nat} {L : Array Bool} (hi : L.getD i true = false) : ¬ L.getD i false = true := by
  intro h
  rcases Nat.lt_or_ge i L.size with h' | h'
  · simp [h'] at hi h; rw [hi] at h; cases h
  · simp [Array.getElem?_eq_none h'] at h

theorem PAny.first (hK : ∀ f f', Alike f f' → K f → K f') {i : Nat} {oi : Oper} {x : AV} (hi : ops[i]? = some oi) (hin : i < n) : ∀ (k : Nat) (L : Array Bool) (f : Fm),
    (∀ j oj, ops[j]? = some oj → j ≠ i → L.getD j true = false → (∀ e ∈ oj.after, Region.binds .any e = true → e.on ≠ i) → oi.apart ops oj = true) →
    i ∈ Region.ready .any ops L → Det E ops σ oi f x → PAny P E ops n σ K k (L.setIfInBounds i true) (f.put oi.dst x) → PAny P E ops n σ K (k + 1) L f := by
  intro k
  induction k with
  | zero =>
    intro L f _ hr hy H
    refine ⟨fun hl => absurd (hl i hin) (unlisted_ne (j := i) (mem_ready.1 hr).1), fun j hj hn o ho => ?_⟩
    by_cases hji : j = i
    · subst hji
      rw [hi] at ho; cases ho
      exact hy.step H
    · have := (mem_ready.1 hj).1
      have h2 := H.1 j hn
      rw [getD_set_ne false (Ne.symm hji)] at h2
      exact absurd h2 (unlisted_ne (j := i) this)
  | succ k ih =>
    intro L f hfree hr hy H
    refine ⟨fun hl => absurd (hl i hin) (unlisted_ne (j := i) (mem_ready.1 hr).1), fun j hj hn oj hoj => ?_⟩
    by_cases hji : j = i
    · subst hji
      rw [hi] at hoj; cases hoj
      exact hy.step H
    · have h1 := H.2 j (ready_mono hj hji) hn oj hoj
      obtain ⟨hjun, oj', hoj', hall⟩ := mem_ready.1 hj
      rw [hoj] at hoj'; cases hoj'
      have hnot : ∀ e ∈ oj.after, Region.binds .any e = true → e.on ≠ i := fun e he hb heq => by
        have h1 := hall e he hb
        rw [heq] at h1
        exact absurd h1 (unlisted_ne (j := i) (mem_ready.1 hr).1)
      obtain ⟨a1, a2, a3⟩ := Oper.apart_spec (hfree j oj hoj hji hjun hnot)
      refine StepP.congr (getA_put x a1) (fun r hr' => ?_) h1
      refine ih (L.setIfInBounds j true) (f.put oj.dst r) (fun m om hm hmi hun hno => hfree m om hm hmi ?_ hno) (ready_mono hr (Ne.symm hji)) (hy.congr fun s hs => (getA_put r a3 s hs).symm) ?_
      · by_cases hjm : j = m
        · subst hjm; exact hjun
        · rw [getD_set_ne true hjm] at hun; exact hun
      · rw [Array.setIfInBounds_comm _ _ hji]
        exact PAny.alike hK _ _ _ _ (put_alike f _ _ a2) hr'

/-- The order may be proved in. -/
def chkOrd (ops : Array Oper) (n : Nat) : Array Bool → List Nat → Bool
  | L, [] => (List.range n).all fun i => L.getD i false
  | L, i :: rest => decide (i < n) && (Region.ready .any ops L).contains i &&
      (if ((ops[i]?).map isCall).getD true then (Region.ready .any ops L).all (fun j => j == i || decide (n ≤ j)) else Region.free .any ops L i) && chkOrd ops n (L.setIfInBounds i true) rest

theorem PAny.of_WP (hK : ∀ f f', Alike f f' → K f → K f') : ∀ (ord : List Nat) (L : Array Bool) (f : Fm), chkOrd ops n L ord = true → WP P E ops σ K ord f → PAny P E ops n σ K ord.length L f
  | [], L, f, hc, h => ⟨fun i hi => by
      simp only [chkOrd, List.all_eq_true, List.mem_range] at hc
      exact hc i hi, h⟩
  | i :: ord, L, f, hc, h => by
    simp only [chkOrd, Bool.and_eq_true, decide_eq_true_eq] at hc
    obtain ⟨⟨⟨hin, hr⟩, hf⟩, hc⟩ := hc
    have hr' : i ∈ Region.ready .any ops L := by simpa using hr
    simp only [WP] at h
    cases ho : ops[i]? with
    | none => rw [ho] at h; exact h.elim
    | some oi =>
      rw [ho] at h
      simp only at h
      simp only [ho, Option.map_some, Option.getD_some] at hf
      cases hcall : isCall oi with
      | true =>
        rw [hcall] at hf
        simp only [if_true, List.all_eq_true] at hf
        refine ⟨fun hl => absurd (hl i hin) (unlisted_ne (j := i) (mem_ready.1 hr').1), fun j hj hn o hoj => ?_⟩
        have hji : j = i := by
          have := hf j hj
          simp only [Bool.or_eq_true, beq_iff_eq, decide_eq_true_eq] at this
          omega
        subst hji
        rw [ho] at hoj; cases hoj
        exact StepP.congr (fun _ _ => rfl) (fun r hr => PAny.of_WP hK ord _ _ hc hr) h
      | false =>
        rw [hcall] at hf
        simp only [Bool.false_eq_true, if_false] at hf
        obtain ⟨x, hx, hw⟩ := StepP.det hcall h
        exact PAny.first hK ho hin _ _ _ (Region.free_spec ho hf) hr' hx (PAny.of_WP hK ord _ _ hc hw)
end
end Go.Proofs.YtpjkepfplhllfaaDoor.Av
