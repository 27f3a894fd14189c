/-
Plain words about terms: their variables, valid terms; terms that fit an instruction.
-/
import Derived.Test.YtpjkepfplhllfaaDoorL4
namespace Go.Proofs.YtpjkepfplhllfaaDoor.Av
set_option linter.unusedSimpArgs false
set_option linter.unusedVariables false
open Go
theorem aget_aput {κ α : Type} [DecidableEq κ] (k k' : κ) (v : α) : ∀ l : List (κ × α), aget (aput l k v) k' = if k' = k then some v else aget l k'
  | [] => by simp [aput, aget]
  | (a, b) :: l => by
    simp only [aput]
    split
    · rename_i e; subst e
      simp only [aget]
      split <;> rfl
    · rename_i e
      simp only [aget, aget_aput k k' v l]
      split
      · rename_i e2; subst e2; rw [if_neg (fun e3 => e e3.symm)]
      · rfl
/-- Variables with one name have one width. -/
def OneWidth (l : List TTerm) : Prop := ∀ x ∈ l, ∀ y ∈ l, x.kind = 2 → y.kind = 2 → x.name = y.name → x.width = y.width
/-- What has been seen of the variables. -/
def Seen (M : List (List UInt8 × Int)) (l : List TTerm) : Prop := ∀ n w, aget M n = some w ↔ (∃ x ∈ l, x.kind = 2 ∧ x.name = n ∧ x.width = w)
theorem Seen.nil : Seen [] [] := fun n w => by simp [aget]
theorem Seen.skip {M : List (List UInt8 × Int)} {l : List TTerm} {x : TTerm} (h : Seen M l) (hx : x.kind ≠ 2) : Seen M (l ++ [x]) := fun n w => by
  rw [h n w]
  constructor
  · rintro ⟨y, hy, h⟩; exact ⟨y, List.mem_append_left _ hy, h⟩
  · rintro ⟨y, hy, h1, h2⟩
    rcases List.mem_append.1 hy with hy | hy
    · exact ⟨y, hy, h1, h2⟩
    · rw [List.mem_singleton] at hy; subst hy; exact absurd h1 hx
theorem Seen.put {M : List (List UInt8 × Int)} {l : List TTerm} {x : TTerm} (h : Seen M l) (hx : x.kind = 2) (hc : ∀ w, aget M x.name = some w → w = x.width) : Seen (aput M x.name x.width) (l ++ [x]) := fun n w => by
  rw [aget_aput]
  split
  · rename_i e; subst e
    constructor
    · intro e; cases e; exact ⟨x, List.mem_append_right _ (List.mem_singleton.2 rfl), hx, rfl, rfl⟩
    · rintro ⟨y, hy, h1, h2, h3⟩
      rcases List.mem_append.1 hy with hy | hy
      · rw [← hc w ((h _ w).2 ⟨y, hy, h1, h2, h3⟩)]
      · rw [List.mem_singleton] at hy; subst hy; rw [h3]
  · rename_i e
    rw [h n w]
    constructor
    · rintro ⟨y, hy, h⟩; exact ⟨y, List.mem_append_left _ hy, h⟩
    · rintro ⟨y, hy, h1, h2, h3⟩
      rcases List.mem_append.1 hy with hy | hy
      · exact ⟨y, hy, h1, h2, h3⟩
      · rw [List.mem_singleton] at hy; subst hy; exact absurd h2.symm e
theorem vars_walk : ∀ (rest pre : List TTerm) (M : List (List UInt8 × Int)), Seen M pre → OneWidth pre → ∃ y, forL term_variables.r0 M rest = some y ∧ ((∃ M', y = .inl M' ∧ Seen M' (pre ++ rest) ∧ OneWidth (pre ++ rest)) ∨ (∃ M', y = .inr (false, M')) ∧ ¬ OneWidth (pre ++ rest))
  | [], pre, M, h1, h2 => ⟨_, rfl, .inl ⟨M, rfl, by simpa using h1, by simpa using h2⟩⟩
  | x :: rest, pre, M, h1, h2 => by
    simp only [forL, term_variables.r0]
    by_cases hk : x.kind = 2
    · rw [if_neg (by simpa using hk)]
      by_cases hc : ∀ w, aget M x.name = some w → w = x.width
      · rw [if_neg (by
          cases hg : aget M x.name with
          | none => simp
          | some w => simp [hc w hg])]
        have hw : OneWidth (pre ++ [x]) := by
          intro a ha b hb ka kb e
          have one : ∀ y ∈ pre, y.kind = 2 → y.name = x.name → y.width = x.width := fun y hy ky ey => hc _ ((h1 _ _).2 ⟨y, hy, ky, ey, rfl⟩)
          rcases List.mem_append.1 ha with ha1 | ha1 <;> rcases List.mem_append.1 hb with hb1 | hb1
          · exact h2 a ha1 b hb1 ka kb e
          · rw [List.mem_singleton.1 hb1] at e ⊢; exact one a ha1 ka e
          · rw [List.mem_singleton.1 ha1] at e ⊢; exact (one b hb1 kb e.symm).symm
          · rw [List.mem_singleton.1 ha1, List.mem_singleton.1 hb1]
        have := vars_walk rest (pre ++ [x]) _ (h1.put hk hc) hw
        simpa using this
      · simp only [Classical.not_forall] at hc
        obtain ⟨w, hg, hne⟩ := hc
        rw [if_pos (by simp [hg, hne])]
        refine ⟨_, rfl, .inr ⟨⟨_, rfl⟩, fun hw => ?_⟩⟩
        obtain ⟨y, hy, ky, ey, wy⟩ := (h1 _ _).1 hg
        exact hne (by rw [← wy]; exact hw y (List.mem_append_left _ hy) x (List.mem_append_right _ List.mem_cons_self) ky hk ey)
    · rw [if_pos (by simpa using hk)]
      have hw : OneWidth (pre ++ [x]) := by
        intro a ha b hb ka kb e
        rcases List.mem_append.1 ha with ha | ha
        · rcases List.mem_append.1 hb with hb | hb
          · exact h2 a ha b hb ka kb e
          · rw [List.mem_singleton] at hb; subst hb; exact absurd kb hk
        · rw [List.mem_singleton] at ha; subst ha; exact absurd ka hk
      have := vars_walk rest (pre ++ [x]) _ (h1.skip hk) hw
      simpa using this
theorem variables_tells {t : TTerm} (h : t.nodes.length < 4611686018427387904) : Tells (term_variables t) (OneWidth t.nodes) := by
  unfold term_variables
  rw [if_pos h]
  obtain ⟨y, hy, h1⟩ := vars_walk t.nodes [] [] Seen.nil (fun x hx => by cases hx)
  rw [hy, Option.bind_some]
  simp only [List.nil_append] at h1
  rcases h1 with ⟨M, rfl, _, h1⟩ | ⟨⟨M, rfl⟩, h1⟩
  · exact ⟨_, rfl, by simpa using h1⟩
  · exact ⟨_, rfl, by simpa using h1⟩
theorem wf_nodes {t : TTerm} (h : t.wf) : ∀ x ∈ t.nodes, x.wf := by
  refine term_ind (P := fun t => t.wf → ∀ x ∈ t.nodes, x.wf) (fun t ih hw => ?_) t h
  rw [nodes_forall]
  refine ⟨hw, fun s hs => ih s hs ?_⟩
  rw [TTerm.wf_iff] at hw
  exact hw.2.2.2.2.2.1.2 s hs
theorem inK_u8 {n : Int} (h : inK .u8 n) : 0 ≤ n ∧ n ≤ 255 := h
/-- A valid term. -/
def TermP (t : TTerm) : Prop := (t.nodes.length ≤ 400 ∧ t.depth ≤ 60) ∧ (∀ x ∈ t.nodes, nodeB x = true) ∧ OneWidth t.nodes
theorem nodes_walk (t : TTerm) : ∀ l : List TTerm, (∀ x ∈ l, x.wf) → ∃ y, forL (term_Check.r0 t) () l = some y ∧ ((y = .inl () ∧ ∀ x ∈ l, nodeB x = true) ∨ (y = .inr (8, t) ∧ ¬ ∀ x ∈ l, nodeB x = true))
  | [], _ => ⟨_, rfl, .inl ⟨rfl, by simp⟩⟩
  | x :: l, h => by
    have hx := (TTerm.wf_iff x).1 (h x List.mem_cons_self)
    simp only [forL, term_Check.r0]
    rw [node_eq (inK_u8 hx.1).1 hx.2.2.2.2.2.1.1, Option.bind_some]
    cases hb : nodeB x with
    | true =>
      obtain ⟨y, hy, h1⟩ := nodes_walk t l fun z hz => h z (List.mem_cons_of_mem _ hz)
      refine ⟨y, by simpa using hy, ?_⟩
      simpa [hb] using h1
    | false => exact ⟨_, rfl, .inr ⟨rfl, by simp [hb]⟩⟩
theorem Check_eq {t : TTerm} (hw : t.wf) (h : t.nodes.length < 4611686018427387904) : ∃ e, term_Check t = some e ∧ (e = 0 ↔ TermP t) := by
  unfold term_Check
  rw [Size_eq h, Option.bind_some, Depth_eq h]
  unfold TermP
  by_cases h1 : t.nodes.length ≤ 400
  · rw [if_pos (by simp; omega), Option.bind_some]
    by_cases h2 : t.depth ≤ 60
    · rw [if_neg (by simp; omega), if_pos h]
      obtain ⟨y, hy, h3⟩ := nodes_walk t t.nodes (wf_nodes hw)
      rw [hy, Option.bind_some]
      rcases h3 with ⟨rfl, h3⟩ | ⟨rfl, h3⟩
      · obtain ⟨b, hb, hb2⟩ := variables_tells h
        simp only [hb, Option.bind_some]
        cases b with
        | true => exact ⟨_, rfl, by simp only [true_iff]; exact ⟨⟨h1, h2⟩, h3, hb2.1 rfl⟩⟩
        | false => exact ⟨_, rfl, ⟨fun e => by simp at e, fun h => by simpa using hb2.2 h.2.2⟩⟩
      · exact ⟨_, rfl, ⟨fun e => by simp at e, fun h => absurd h.2.1 h3⟩⟩
    · rw [if_pos (by simp; omega)]
      exact ⟨_, rfl, ⟨fun e => by simp at e, fun h => absurd h.1.2 h2⟩⟩
  · rw [if_neg (by simp; omega), Option.bind_some, if_pos (by simp; omega)]
    exact ⟨_, rfl, ⟨fun e => by simp at e, fun h => absurd h.1.1 h1⟩⟩
theorem TermP.sub {t s : TTerm} (h : TermP t) (hs : s ∈ t.sub) : TermP s := by
  refine ⟨⟨by have := sub_lt hs; have := h.1.1; omega, ?_⟩, fun x hx => h.2.1 x (sub_nodes hs hx), fun x hx y hy => h.2.2 x (sub_nodes hs hx) y (sub_nodes hs hy)⟩
  have := h.1.2
  rw [depth_eq] at this
  have key : ∀ l : List TTerm, s ∈ l → s.depth ≤ TTerm.depthL l := by
    intro l
    induction l with
    | nil => intro h; cases h
    | cons x l ih =>
      intro h
      simp only [TTerm.depthL]
      rcases List.mem_cons.1 h with rfl | h
      · omega
      · have := ih h; omega
  have := key t.sub hs
  omega
/-- The leaves and loads of a term, against the variables of an instruction. -/
def LeafP (vars : List (List UInt8 × Int)) (addr : Int) (x : TTerm) : Prop := (x.kind = 2 → (aget vars x.name).getD 0 = x.width) ∧ (x.kind = 24 → (nth x.sub 0).width = addr)
theorem load_sub {x : TTerm} (hk : x.kind = 24) (h : nodeB x = true) : 0 < x.sub.length := by
  unfold nodeB term_node term_wide at h
  simp only [Option.bind_some] at h
  split at h
  · simp at h
  · unfold term_shaped at h
    rw [hk, if_neg (by simp), if_pos (by simp), if_pos (by simp)] at h
    have e : nth shapesL (24 : Int) = ⟨[108, 111, 97, 100], 1, 7⟩ := rfl
    simp only [Option.bind_some, e] at h
    rw [if_neg (by simp)] at h
    by_cases hl : x.sub.length = 1
    · omega
    · rw [if_neg (by simp; omega)] at h
      simp at h
theorem leaves_eq (addr : Int) {c : TMachineChecker} (vars : List (List UInt8 × Int)) {t : TTerm} (ha : c.machine.address = addr) (hn : ∀ x ∈ t.nodes, nodeB x = true) (hl : t.nodes.length ≤ 1000) :
    ∃ c', machine_checker_leaves c vars t = some (c', vars) ∧ c'.machine = c.machine ∧ (c'.ok = true ↔ c.ok = true ∧ ∀ x ∈ t.nodes, LeafP vars addr x) := by
  unfold machine_checker_leaves
  have := itr_tells (G := fun self a => machine_checker_leaves.G self a.1 a.2.1 a.2.2) (fun a : TMachineChecker × (List (List UInt8 × Int)) × TTerm => a.2.2.nodes.length)
    (fun a => a.1.machine = c.machine ∧ a.2.1 = vars ∧ (∀ x ∈ a.2.2.nodes, nodeB x = true) ∧ a.2.2.nodes.length ≤ 1000) (fun a r => r.2 = vars ∧ r.1.machine = c.machine ∧ (r.1.ok = true ↔ a.1.ok = true ∧ ∀ x ∈ a.2.2.nodes, LeafP vars addr x)) (fun self a ⟨a1, a2, a3, a4⟩ ih => by
      obtain ⟨d, vs, u⟩ := a
      simp only at a1 a2 a3 a4 ih ⊢
      subst a2
      unfold machine_checker_leaves.G
      have hsl := sub_len u
      have loop : ∀ d1 : TMachineChecker, d1.machine = c.machine → ∃ r, machine_checker_leaves.j0 vs u self d1 = some r ∧ r.2 = vs ∧ r.1.machine = c.machine ∧ (r.1.ok = true ↔ d1.ok = true ∧ ∀ s ∈ u.sub, ∀ x ∈ s.nodes, LeafP vs addr x) := by
        intro d1 hd1
        unfold machine_checker_leaves.j0
        refine fx_for (step := machine_checker_leaves.l0 u self) u.sub.length (fun i w => w.1 = (i : Int) ∧ w.2.1.machine = c.machine ∧ w.2.2 = vs ∧ (w.2.1.ok = true ↔ d1.ok = true ∧ ∀ s ∈ u.sub.take i, ∀ x ∈ s.nodes, LeafP vs addr x)) _ ⟨rfl, hd1, rfl, by simp⟩ (fun i w hi ⟨w1, w2, w3, w4⟩ => ?_) (fun w ⟨w1, w2, w3, w4⟩ => ?_)
        · obtain ⟨j, e, vs'⟩ := w
          simp only at w1 w2 w3 w4
          subst w1 w3
          simp only [machine_checker_leaves.l0]
          have hs := List.getElem_mem hi
          obtain ⟨r, hr, r1, r2, r3⟩ := ih (e, vs', u.sub[i]) (sub_lt hs) ⟨w2, rfl, fun x hx => a3 x (sub_nodes hs hx), by have := sub_lt hs; show u.sub[i].nodes.length ≤ 1000; omega⟩
          rw [if_pos (by simpa using hi), if_pos (inb hi), nth_nat _ hi, hr]
          refine .inl ⟨_, rfl, wrap_succ (by omega), r2, r1, ?_⟩
          rw [take_all hi, r3, ← and_assoc, ← w4]
        · obtain ⟨j, e, vs'⟩ := w
          simp only at w1 w2 w3 w4
          subst w1 w3
          simp only [machine_checker_leaves.l0]
          rw [if_neg (by simp)]
          exact ⟨_, rfl, rfl, w2, by simpa using w4⟩
      rw [nodes_forall]
      by_cases hk : u.kind = 2
      · rw [if_pos (by simpa using hk), must1, Option.bind_some]
        obtain ⟨r, hr, r1, r2, r3⟩ := loop ⟨d.machine, d.ok && decide ((aget vs u.name).getD 0 = u.width)⟩ a1
        refine ⟨r, hr, r1, r2, ?_⟩
        rw [r3]
        simp only [Bool.and_eq_true, decide_eq_true_eq, and_assoc]
        have : LeafP vs addr u ↔ (aget vs u.name).getD 0 = u.width := by simp [LeafP, hk]
        rw [this]
      · rw [if_neg (by simpa using hk)]
        by_cases hk2 : u.kind = 24
        · rw [if_pos (by simpa using hk2), if_pos (by have := load_sub hk2 (a3 u (self_nodes u)); omega), must1, Option.bind_some]
          obtain ⟨r, hr, r1, r2, r3⟩ := loop ⟨d.machine, d.ok && decide ((nth u.sub 0).width = d.machine.address)⟩ a1
          refine ⟨r, hr, r1, r2, ?_⟩
          rw [r3]
          simp only [Bool.and_eq_true, decide_eq_true_eq, and_assoc]
          have : LeafP vs addr u ↔ (nth u.sub 0).width = d.machine.address := by rw [a1, ha]; simp [LeafP, hk2]
          rw [this]
        · rw [if_neg (by simpa using hk2)]
          obtain ⟨r, hr, r1, r2, r3⟩ := loop d a1
          refine ⟨r, hr, r1, r2, ?_⟩
          rw [r3]
          simp [LeafP, hk, hk2]) (t.nodes.length + 1) (c, vars, t) (Nat.lt_succ_self _) ⟨rfl, rfl, hn, hl⟩
  obtain ⟨⟨c', v'⟩, h1, h2, h3, h4⟩ := this
  simp only at h2 h3 h4
  subst h2
  exact ⟨c', h1, h3, h4⟩
/-- A term that fits an instruction with these variables. -/
def FitsP (vars : List (List UInt8 × Int)) (addr : Int) (t : TTerm) : Prop := TermP t ∧ ∀ x ∈ t.nodes, LeafP vars addr x
theorem fits_eq {c : TMachineChecker} (vars : List (List UInt8 × Int)) {t : TTerm} (hw : t.wf) (hl : t.nodes.length ≤ 100000) :
    ∃ c', machine_checker_fits c vars [t] = some (c', vars) ∧ c'.machine = c.machine ∧ (c'.ok = true ↔ c.ok = true ∧ FitsP vars c.machine.address t) := by
  unfold machine_checker_fits
  obtain ⟨e, he, he2⟩ := Check_eq hw (by omega)
  have e0 : nth [t] (0 : Int) = t := rfl
  by_cases hok : (c.ok && decide (e = 0)) = true
  · have ht : TermP t := he2.1 (by simpa using (Bool.and_eq_true _ _ ▸ hok : c.ok = true ∧ decide (e = 0) = true).2)
    obtain ⟨c', h1, h2, h3⟩ := leaves_eq (c := ⟨c.machine, c.ok && decide (e = 0)⟩) c.machine.address vars rfl ht.2.1 (by have := ht.1.1; omega)
    have s1 : machine_checker_fits.l0 [t] (0, c, vars) = some (.inl (1, c', vars)) := by
      simp only [machine_checker_fits.l0]
      rw [if_pos (by simp), if_pos (by simp), e0, he, Option.bind_some, must1, Option.bind_some, if_neg (by simpa using hok), h1, Option.bind_some]
      rfl
    have s2 : machine_checker_fits.l0 [t] (1, c', vars) = some (.inr (c', vars)) := by
      simp only [machine_checker_fits.l0]
      rw [if_neg (by simp)]
      rfl
    rw [fx_on s1, fx_done s2]
    refine ⟨c', rfl, h2, h3.trans ?_⟩
    have hc : c.ok = true := by simp only [Bool.and_eq_true] at hok; exact hok.1
    simp [hc, he2.2 ht, FitsP, ht]
  · have s1 : machine_checker_fits.l0 [t] (0, c, vars) = some (.inr (⟨c.machine, c.ok && decide (e = 0)⟩, vars)) := by
      simp only [machine_checker_fits.l0]
      rw [if_pos (by simp), if_pos (by simp), e0, he, Option.bind_some, must1, Option.bind_some, if_pos (by rw [Bool.not_eq_true']; exact Bool.eq_false_iff.2 hok)]
    rw [fx_done s1]
    refine ⟨_, rfl, rfl, ⟨fun h => absurd h hok, fun ⟨h1, h2⟩ => absurd ?_ hok⟩⟩
    simp [h1, he2.2 h2.1]
def ZeroT (t : TTerm) : Prop := t.kind = 0 ∧ t.width = 0 ∧ t.bits = 0 ∧ t.name = [] ∧ t.low = 0 ∧ t.sub.length = 0
theorem none_tells {l : List TTerm} (hl : l.length ≤ maxLen) : Tells (machine_none l) (∀ t ∈ l, ZeroT t) := by
  rw [maxLen_eq] at hl
  unfold machine_none
  refine fx_for (step := machine_none.l0 l) l.length (fun i w => w = (i : Int) ∧ ∀ x ∈ l.take i, ZeroT x) _ ⟨rfl, by simp⟩ (fun i w hi ⟨hw, hn⟩ => ?_) (fun w ⟨hw, hn⟩ => ?_)
  · subst hw
    simp only [machine_none.l0]
    rw [if_pos (by simpa using hi), if_pos (inb hi), nth_nat _ hi]
    have hz : ZeroT l[i] ↔ ¬ ((((((!decide (l[i].kind = 0)) || (!decide (l[i].width = 0))) || (!decide (l[i].bits = 0))) || (!decide (l[i].name = []))) || (!decide (l[i].low = 0))) || (decide (0 < (l[i].sub.length : Int)))) = true := by
      simp only [ZeroT, Bool.or_eq_true, Bool.not_eq_true', decide_eq_false_iff_not, decide_eq_true_eq, not_or, Classical.not_not, and_assoc]
      have e : (l[i].sub.length = 0) ↔ ¬ (0 < (l[i].sub.length : Int)) := by omega
      rw [e]
    split
    · rename_i h
      exact .inr ⟨_, rfl, ⟨fun e => by simp at e, fun h2 => absurd h (hz.1 (h2 _ (List.getElem_mem hi)))⟩⟩
    · rename_i h
      exact .inl ⟨_, rfl, wrap_succ (by omega), by rw [take_all hi]; exact ⟨hn, hz.2 h⟩⟩
  · subst hw
    simp only [machine_none.l0]
    rw [if_neg (by simp)]
    exact ⟨_, rfl, by simpa using hn⟩
end Go.Proofs.YtpjkepfplhllfaaDoor.Av
