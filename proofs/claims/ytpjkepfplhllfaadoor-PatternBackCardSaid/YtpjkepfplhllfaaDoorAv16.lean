/-
Regions, code, functions.
-/
import Derived.Test.YtpjkepfplhllfaaDoorAv15
import Derived.OrdersIn
import Derived.TacticsIn
import Derived.RangeFuncLeaves
namespace Go.Proofs.YtpjkepfplhllfaaDoor.Av
set_option linter.unusedSimpArgs false
set_option linter.unusedVariables false
open Go
section
variable {P : Program} {w : World} {φ : Nat → Nat} {E : Env} {f : Fm} {σ : St} {a : Act} {Ω : List Own} {g : Gh}

theorem Act.put_none (a : Act) (v : Value) : a.put none v = a := rfl

/-- A Go function is called. -/
theorem run_callee {o : Oper} {c : Call} {x : Operand} {fn : Nat} {cvs : List Value} (ho : o.op = .call c) (hc : c.callee = .value x) (hx : a.eval x = .func (.func fn) #[] cvs.toArray) (hcal : Callable P fn) :
    (execOp a.eval o).run P w = .ok (.enter fn ((c.args.toList.map a.eval) ++ cvs).toArray) w := by
  obtain ⟨F, h1, h2, h3⟩ := hcal
  unfold execOp
  simp only [ho, resolve, hc, hx, Deferred.ofValue, Sem.run_bind, Sem.run_pure, Result.andThen_ok, invoke, callFunc, run_program, h1, h2, h3, Bool.false_eq_true, if_false]
  congr 2
  apply Array.ext'
  simp

theorem callsIn_fw {r : Option Nat} {n : Nat} {fn : FuncId} {args : Array Value} {R : Ending → World → Prop} (h : Calls P fn args w R) : CallsIn (Fw r) n P fn args w R :=
  (callsIn_wide (n := n)).2 h
theorem wpIn_of_run {r : Option Nat} {o : Oper} {nx : Act → World → Prop} {Q : Exit → Act → World → Prop} (hnd : ∀ c, o.op ≠ .defer c) {res : Result Next} (hres : (execOp a.eval o).run P w = res) (h : o.uponIn (Fw r) 0 P a nx Q res) : o.wpIn (Fw r) 0 P a w nx Q := by
  refine ⟨fun _ _ => trivial, ?_⟩
  have : Oper.semAt (Fw r).round a.eval o = execOp a.eval o := by
    cases r with
    | none => rfl
    | some l => exact Oper.semAt_some l _ _ hnd
  rw [this, hres]
  exact h
theorem wpIn_call {r : Option Nat} {o : Oper} {nx : Act → World → Prop} {Q : Exit → Act → World → Prop} (hnd : ∀ c, o.op ≠ .defer c) {fn : FuncId} {args : Array Value} (hres : (execOp a.eval o).run P w = .ok (.enter fn args) w)
    (h : Calls P fn args w fun e w' => ∃ v, e = .returned v ∧ nx (a.put o.dst v) w') : o.wpIn (Fw r) 0 P a w nx Q := by
  refine wpIn_of_run hnd hres ⟨fun hh => Bool.noConfusion hh, callsIn_fw (Calls.mono h ?_)⟩
  rintro e w' ⟨v, rfl, h⟩
  exact h
/-- Yield is called. -/
theorem run_yieldee {o : Oper} {c : Call} {x : Operand} {l : Nat} {nx : Next} {vs : List Value} (ho : o.op = .call c) (hc : c.callee = .value x) (hx : a.eval x = .func (.yield l) #[] #[]) (hvs : c.args.toList.map a.eval = vs) (hy : (Instr.yield l vs.toArray).run P w = .ok nx w) :
    (execOp a.eval o).run P w = .ok nx w := by
  subst hvs
  have e : c.args.map a.eval = (c.args.toList.map a.eval).toArray := by apply Array.ext'; simp
  unfold execOp
  simp only [ho, resolve, hc, hx, Deferred.ofValue, Sem.run_bind, Sem.run_pure, Result.andThen_ok, invoke]
  simpa [e] using hy

theorem eff_wp (hE : EnvOK P E) (h : SR E g f σ a w φ Ω) {o : Oper} {K : Fm → St → AV → Prop} (hk : Eff P E f σ o K) {nx : Act → World → Prop} {Q : Exit → Act → World → Prop}
    (hn : ∀ v w', Leaves E g a o.dst f.nt K v w' → nx (a.put o.dst v) w')
    (hnu : ∀ f' σ' φ' Ω' w', K f' σ' .any → f'.nt = f.nt → SR E g f' σ' a w' φ' Ω' → nx (a.put o.dst undef) w') : o.wpIn (Fw E.rd) 0 P a w nx Q := by
  have ev := fun x => evX_rep (E := E) h.ss h.fs x
  have hnd : ∀ c, o.op ≠ .defer c := fun c e => by unfold Eff at hk; rw [e] at hk; exact hk
  unfold Eff at hk
  split at hk
  · -- alloc
    rename_i t hop
    split at hk
    · rename_i l hl
      obtain ⟨k1, k2, k3⟩ := hk
      obtain ⟨w', r1, r2⟩ := h.alloc hE hl k1 k2
      have : (execOp a.eval o).run P w = .ok (.value (.pointer (some ⟨w.heap.size, 0, none⟩))) w' := by
        unfold execOp; simp only [hop, Sem.run_bind, r1, Result.andThen_ok, Sem.run_pure]
      refine wpIn_of_run hnd this ?_
      exact hn _ _ ⟨f, _, _, φ, Ω, k3 _ h.fresh_size, rfl, r2, by simp only [Rep], trivial⟩
    · exact hk.elim
  · -- box
    rename_i t x hop
    obtain ⟨k1, k3⟩ := hk
    obtain ⟨w', Ω', r1, r2⟩ := h.box (P := P) t (ev x).1 (ev x).2 k1
    have : (execOp a.eval o).run P w = .ok (.value (.pointer (some ⟨w.heap.size, 0, none⟩))) w' := by
      unfold execOp; simp only [hop, Sem.run_bind, r1, Result.andThen_ok, Sem.run_pure]
    refine wpIn_of_run hnd this ?_
    exact hn _ _ ⟨_, _, _, φ, Ω', k3 _ h.fresh_size, by split <;> rfl, r2, by simp only [Rep], trivial⟩
  · -- store
    rename_i t p x hop
    obtain ⟨w', f', σ', Ω', r1, r2, r3, r4⟩ := storeW_run hE h hk (ev p).1 (ev x).1 (ev x).2
    have : (execOp a.eval o).run P w = .ok .skip w' := by
      unfold execOp; simp only [hop, Sem.run_bind, r1, Result.andThen_ok, Sem.run_pure]
    refine wpIn_of_run hnd this ?_
    exact hnu f' σ' φ Ω' w' r2 r3 r4
  · -- buildSlice
    rename_i t len ps hop
    split at hk
    · rename_i d size agg bytes zero e hd hl
      split at hk
      · rename_i le hle
        obtain ⟨⟨z1, z2, z3, z4⟩, k1, k2, k3⟩ := hk
        split at k3
        · rename_i rows hseq
          have run : ∀ v w', (Instr.buildSlice t len (ps.toList.map fun p => (p.1, a.eval p.2)).toArray).run P w = .ok v w' → (execOp a.eval o).run P w = .ok (.value v) w' := fun v w' r1 => by
            unfold execOp
            simp only [hop, Sem.run_bind]
            have e : (ps.map fun (i, x) => (i, a.eval x)) = (ps.toList.map fun p => (p.1, a.eval p.2)).toArray := by apply Array.ext'; simp
            rw [e, r1]
            rfl
          rcases k3 with k3 | k3
          · obtain ⟨v, w', φ', Ω', r1, r2, r3, r4, _⟩ := h.buildSlice (gA := evX E f) (uA := a.eval) (d := d) hE hl rfl hle z1 z2 z3 z4 hseq k1 k2 (fun p _ => ev p.2)
            refine wpIn_of_run hnd (run v w' r1) ?_
            exact hn v w' ⟨_, σ, _, φ', Ω', k3, rfl, r4, r2, r3⟩
          · obtain ⟨N1, hN1⟩ := free_s f.sl
            obtain ⟨N2, hN2⟩ := free_o f.ow
            obtain ⟨v, w', φ', Ω', r1, r2, r3, r4, r5⟩ := h.buildSlice (gA := evX E f) (uA := a.eval) (d := max N1 N2) hE hl rfl hle z1 z2 z3 z4 hseq k1 k2 (fun p _ => ev p.2)
            have r4' := r4.unslot (hN1 _ (Nat.le_max_left _ _)) (hN2 _ (Nat.le_max_right _ _))
            refine wpIn_of_run hnd (run v w' r1) ?_
            exact hn v w' ⟨_, σ, _, φ', Ω', k3, rfl, r4', r5, trivial⟩
        · exact k3.elim
      · exact hk.elim
    · exact hk.elim
  · -- makeMap
    rename_i t hop
    have : (execOp a.eval o).run P w = .ok (.value (.map (some w.heap.size))) (w.alloc (.map #[] 0)) := by
      unfold execOp; simp only [hop]; rfl
    refine wpIn_of_run hnd this ?_
    exact hn _ _ ⟨f, _, _, φ, Ω, hk _ h.fresh_size, rfl, h.newMap, by simp only [Rep], trivial⟩
  · -- mapUpdate
    rename_i t m k v hop
    split at hk
    · rename_i b size agg bytes zero kt e hm hl
      split at hk
      · rename_i lk es hlk hes
        obtain ⟨k1, k2⟩ := hk
        split at k2
        · rename_i r hr
          have hmv := (ev m).1
          rw [hm] at hmv
          simp only [Rep] at hmv
          obtain ⟨w', r1, r2⟩ := h.mapUpdate hE hl rfl hlk k1 hes (ev k).1 (ev v).1 hr
          have : (execOp a.eval o).run P w = .ok .skip w' := by
            unfold execOp; simp only [hop, hmv, Sem.run_bind, r1, Result.andThen_ok, Sem.run_pure]
          refine wpIn_of_run hnd this ?_
          exact hnu f _ φ Ω w' k2 rfl r2
        · exact k2.elim
      · exact hk.elim
    · exact hk.elim
  · -- insert
    rename_i t m k v hop
    split at hk
    · rename_i b size agg bytes zero kt e hm hl
      split at hk
      · rename_i lk es hlk hes
        obtain ⟨k1, k2⟩ := hk
        split at k2
        · rename_i r hr
          have hmv := (ev m).1
          rw [hm] at hmv
          simp only [Rep] at hmv
          obtain ⟨w', r1, r2⟩ := h.mapUpdate hE hl rfl hlk k1 hes (ev k).1 (ev v).1 hr
          have : (execOp a.eval o).run P w = .ok .skip w' := by
            unfold execOp; simp only [hop, hmv, Sem.run_bind, r1, Result.andThen_ok, Sem.run_pure]
          refine wpIn_of_run hnd this ?_
          exact hnu f _ φ Ω w' k2 rfl r2
        · exact k2.elim
      · exact hk.elim
    · exact hk.elim
  · -- call
    rename_i c hop
    split at hk
    · rename_i hc
      split at hk
      · rename_i s x t t' ha ht
        obtain ⟨rfl, hk⟩ := hk
        have e1 : c.args = #[s, x] := by apply Array.ext'; simpa using ha
        have e2 : c.argTypes = #[t, t] := by apply Array.ext'; simpa using ht
        obtain ⟨v, w', r1, r2⟩ := appendW_run (ty := o.type) hE h hk (ev s).1 (ev s).2 (ev x).1.unfull
        have : (execOp a.eval o).run P w = .ok (.value v) w' := by
          unfold execOp; simp [hop, resolve, hc, e1, e2, invoke, builtin, r1]
        refine wpIn_of_run hnd this ?_
        exact hn v w' r2
      · exact hk.elim
    · rename_i hc
      split at hk
      · rename_i m k t t' ha ht
        have e1 : c.args = #[m, k] := by apply Array.ext'; simpa using ha
        have e2 : c.argTypes = #[t, t'] := by apply Array.ext'; simpa using ht
        split at hk
        · rename_i b size agg bytes zero kt e hm hl
          split at hk
          · rename_i lk es hlk hes
            obtain ⟨k1, k2⟩ := hk
            split at k2
            · rename_i r hr
              have hmv := (ev m).1
              rw [hm] at hmv
              simp only [Rep] at hmv
              obtain ⟨w', r1, r2⟩ := h.mapDelete (t2 := t') (ty := o.type) hE hl rfl hlk k1 hes (ev k).1 hr
              have : (execOp a.eval o).run P w = .ok (.value (.tuple #[])) w' := by
                unfold execOp; simp [hop, resolve, hc, e1, e2, invoke, builtin, hmv, r1]
              refine wpIn_of_run hnd this ?_
              exact hn _ w' ⟨f, _, _, φ, Ω, k2, rfl, r2, by simp only [Rep]; exact ⟨[], rfl, RepL.nil⟩, trivial⟩
            · exact k2.elim
          · exact hk.elim
        · exact hk.elim
      · exact hk.elim
    · rename_i x hc
      split at hk
      · rename_i fn caps hx
        have hxv := (ev x).1
        rw [hx] at hxv
        simp only [Rep] at hxv
        obtain ⟨cvs, hxv, hcr⟩ := hxv
        have hargs := RepL.append (evXs_rep h.ss h.fs c.args.toList) hcr
        rcases hk with hk | hk
        · refine wpIn_call hnd (run_callee hop hc hxv hk.callable) ((h.callPure hk hargs).mono ?_)
          rintro e w' ⟨v, φ', r, rfl, k1, k2, k3⟩
          refine ⟨v, rfl, ?_⟩
          exact hn v w' ⟨f, σ, _, φ', Ω, k1, rfl, k3, k2, TagOK.es (fun y hy => (k3.ss.own y hy).tag) _⟩
        · have hcal : Callable P fn := by obtain ⟨_, _, _, _, hh⟩ := hk; exact hh.callable
          refine wpIn_call hnd (run_callee hop hc hxv hcal) ((h.callW hk hargs).mono ?_)
          rintro e w' ⟨v, φ', Ω', r, σ', rfl, k1, k2, k3⟩
          refine ⟨v, rfl, ?_⟩
          exact hn v w' ⟨_, σ', _, φ', Ω', k1, rfl, k3, k2, TagOK.es (fun y hy => (k3.ss.own y hy).tag) _⟩
      · rename_i l hx
        have hxv := (ev x).1
        rw [hx] at hxv
        simp only [Rep] at hxv
        obtain ⟨fn, tmps, assign, body, hy, hr⟩ := h.callY hk (evXs_rep h.ss h.fs c.args.toList)
        refine wpIn_of_run hnd (run_yieldee hop hc hxv rfl hy) ⟨fun hh => Bool.noConfusion hh, RoundIn.mono (F := Fw E.rd) hr ?_⟩
        rintro e w' ⟨v, φ', Ω', r, σ', rfl, k1, k2, k3⟩
        exact hn v w' ⟨_, σ', _, φ', Ω', k1, rfl, k3, k2, TagOK.es (fun y hy => (k3.ss.own y hy).tag) _⟩
      · exact hk.elim
    · exact hk.elim
  · exact hk.elim

/-- One operation. -/
theorem one_wp (hE : EnvOK P E) (h : SR E g f σ a w φ Ω) {o : Oper} {K : Fm → St → Prop} (hk : One P E f σ o K) (hd : ∀ d, o.dst = some d → d < f.nt) {nx : Act → World → Prop} {Q : Exit → Act → World → Prop}
    (hn : ∀ f' σ' a' φ' Ω' w', K f' σ' → f'.nt = f.nt → SR E g f' σ' a' w' φ' Ω' → nx a' w') : o.wpIn (Fw E.rd) 0 P a w nx Q := by
  unfold One at hk
  split at hk
  · rename_i x hx
    obtain ⟨v, r1, r2, r3⟩ := evF_run hE h.ss h.fs hx
    refine wpIn_of_run (fun c e => by rw [e] at hx; simp [evF] at hx) r1 ?_
    exact hn _ _ _ φ Ω w hk (by cases o.dst <;> rfl) (h.put hd r2 r3)
  · refine eff_wp hE h hk (fun v w' hl => ?_) fun f' σ' φ' Ω' w' k1 k2 k3 => ?_
    · obtain ⟨f', σ', x, φ', Ω', k1, k2, k3, k4, k5⟩ := hl
      exact hn _ _ _ φ' Ω' w' k1 (by rw [← k2]; cases o.dst <;> rfl) (k3.put (fun d e => by rw [k2]; exact hd d e) k4 k5)
    · exact hn _ _ _ φ' Ω' w' k1 (by rw [← k2]; cases o.dst <;> rfl) (k3.put (fun d e => by rw [k2]; exact hd d e) (by simp only [Rep]) trivial)

theorem QW_run (hE : EnvOK P E) (h : SR E g f σ a w φ Ω) {o : Op} {z : AV} {oo : Oper} (ho : oo.op = o) (hq : QW E f σ o z) : ∃ v, (execOp a.eval oo).run P w = .ok (.value v) w ∧ Rep w φ z v ∧ TagOK Ω z v := by
  subst ho
  obtain ⟨x, hx, hw⟩ := hq
  obtain ⟨v, r1, r2, r3⟩ := evF_run hE h.ss h.fs hx
  rcases hw with rfl | ⟨⟨β, rfl⟩ | ⟨xs, rfl⟩, hw⟩
  · exact ⟨v, r1, r2, r3⟩
  · exact ⟨v, r1, hw _ _ _ r2, trivial⟩
  · exact ⟨v, r1, hw _ _ _ r2, TagOK.none fun y hy => (h.ss.own y hy).tag⟩
theorem QW_defer {o : Oper} {z : AV} (h : QW E f σ o.op z) : ∀ c, o.op ≠ .defer c := fun c e => by
  obtain ⟨x, hx, _⟩ := h
  rw [e] at hx; simp [evF] at hx
/-- What the guard at an operation says to the machine. -/
theorem guardB_wanted (h : SR E g f σ a w φ Ω) {ops : Array Oper} {o : Oper} {j : Nat} {want : Bool} {d : Nat} {b : Bool} (hg : o.guard = some (j, want)) (hdj : (ops[j]?).bind (·.dst) = some d) (hb : guardB want (getA f.sl d) = some b) :
    Region.wanted o (yielded ops a.tmps) = b := by
  have hv := h.fs.rep d
  have hget : ∀ c, a.tmps.getD d undef = .bool c → a.tmps[d]? = some (.bool c) := fun c hv => by
    rw [Array.getD_eq_getD_getElem?] at hv
    cases hh : a.tmps[d]? with
    | none => rw [hh] at hv; cases hv
    | some u => rw [hh] at hv; simp only [Option.getD_some] at hv; rw [hv]
  have hyes : ∀ c, a.tmps.getD d undef = .bool c → Region.wanted o (yielded ops a.tmps) = (c == want) := fun c hc => by
    have hy : yielded ops a.tmps j = some c := by
      unfold yielded; rw [hdj]; simp only [Option.bind_some, hget c hc]
    unfold Region.wanted; rw [hg]; simp [hy]
  revert hv hb
  generalize getA f.sl d = x
  intro hb hv
  cases x <;> simp only [guardB, reduceCtorEq, Option.some.injEq] at hb
  · subst hb
    simp only [Rep] at hv
    exact hyes _ hv
  · rename_i gg y
    cases y <;> simp only [guardB, reduceCtorEq, Option.some.injEq] at hb
    rename_i c
    subst hb
    simp only [Rep] at hv
    cases gg with
    | true => simpa using hyes _ (hv.1 rfl)
    | false =>
      have hu := hv.2 rfl
      have hy : yielded ops a.tmps j = none := by
        unfold yielded; rw [hdj]; simp only [Option.bind_some]
        rw [Array.getD_eq_getD_getElem?] at hu
        cases hh : a.tmps[d]? with
        | none => rfl
        | some u => rw [hh] at hu; simp only [Option.getD_some] at hu; rw [hu]; rfl
      unfold Region.wanted; rw [hg]; simp [hy]
theorem oneQP_wp (hE : EnvOK P E) (h : SR E g f σ a w φ Ω) {o : Oper} {z : AV} {d : Option Nat → AV → AV} (hq : QP E f σ o z) (hd : ∀ d, o.dst = some d → d < f.nt) {nx : Act → World → Prop} {Q : Exit → Act → World → Prop}
    (hn : ∀ a' φ' Ω' w' v, a' = a.put o.dst v → Rep w' φ' z v → SR E g f σ a w' φ' Ω' → TagOK Ω' z v → nx a' w') : o.wpIn (Fw E.rd) 0 P a w nx Q := by
  obtain ⟨x, hx, hw⟩ := hq
  have ev := fun x => evX_rep (E := E) h.ss h.fs x
  have fin : ∀ v w' φ' Ω', Rep w' φ' x v → TagOK Ω' x v → SR E g f σ a w' φ' Ω' → nx (a.put o.dst v) w' := fun v w' φ' Ω' h1 h2 h3 => by
    rcases hw with rfl | ⟨⟨β, rfl⟩ | ⟨xs, rfl⟩, hw⟩
    · exact hn _ φ' Ω' w' v rfl h1 h3 h2
    · exact hn _ φ' Ω' w' v rfl (hw _ _ _ h1) h3 trivial
    · exact hn _ φ' Ω' w' v rfl (hw _ _ _ h1) h3 (TagOK.none fun y hy => (h3.ss.own y hy).tag)
  unfold evP at hx
  split at hx
  · rename_i y hy
    cases hx
    obtain ⟨v, r1, r2, r3⟩ := evF_run hE h.ss h.fs hy
    exact wpIn_of_run (fun c e => by rw [e] at hy; simp [evF] at hy) r1 (fin v w φ Ω r2 r3 h)
  · split at hx
    · rename_i t len ps hop
      split at hx
      · rename_i size agg bytes zero e hl
        split at hx
        · rename_i le hle
          split at hx
          · rename_i hc
            obtain ⟨⟨z1, z2, z3, z4⟩, k1, k2⟩ := hc
            obtain ⟨rows, hseq, rfl⟩ := Option.map_eq_some_iff.1 hx
            obtain ⟨N1, hN1⟩ := free_s f.sl
            obtain ⟨N2, hN2⟩ := free_o f.ow
            obtain ⟨v, w', φ', Ω', r1, r2, r3, r4, r5⟩ := h.buildSlice (gA := evX E f) (uA := a.eval) (d := max N1 N2) hE hl rfl hle z1 z2 z3 z4 hseq k1 k2 (fun p _ => ev p.2)
            have r4' := r4.unslot (hN1 _ (Nat.le_max_left _ _)) (hN2 _ (Nat.le_max_right _ _))
            have : (execOp a.eval o).run P w = .ok (.value v) w' := by
              unfold execOp
              simp only [hop, Sem.run_bind]
              have e : (ps.map fun (i, x) => (i, a.eval x)) = (ps.toList.map fun p => (p.1, a.eval p.2)).toArray := by apply Array.ext'; simp
              rw [e, r1]
              rfl
            exact wpIn_of_run (fun c e => by rw [hop] at e; cases e) this (fin v w' φ' Ω' r5 trivial r4')
          · cases hx
        · cases hx
      · cases hx
    · cases hx

theorem oneG_wp (hE : EnvOK P E) (h : SR E g f σ a w φ Ω) {o : Oper} {K : Fm → St → Prop} (hk : OneG P E f σ o true K) (hd : ∀ d, o.dst = some d → d < f.nt) {nx : Act → World → Prop} {Q : Exit → Act → World → Prop}
    (hn : ∀ f' σ' a' φ' Ω' w', K f' σ' → f'.nt = f.nt → SR E g f' σ' a' w' φ' Ω' → nx a' w') : o.wpIn (Fw E.rd) 0 P a w nx Q := by
  have rw1 : ∀ {w φ} {x : AV} {v : Value}, Rep w φ x v → Rep w φ (.when true x) v := fun h => by simp only [Rep]; exact ⟨fun _ => h, fun e => by cases e⟩
  rcases hk with ⟨z, hz, hk⟩ | ⟨z, hz, hk⟩
  · refine oneQP_wp (d := fun _ x => x) hE h (hz rfl) hd fun a' φ' Ω' w' v e h1 h2 h3 => ?_
    subst e
    exact hn _ _ _ φ' Ω' w' hk (by cases o.dst <;> rfl) (h2.put hd (rw1 h1.es) trivial)
  · obtain ⟨c, x, fn, caps, hop, hc, hx, hcall⟩ := hz rfl
    have hxv := (evX_rep (E := E) h.ss h.fs x).1
    rw [hx] at hxv
    simp only [Rep] at hxv
    obtain ⟨cvs, hxv, hcr⟩ := hxv
    have hargs := RepL.append (evXs_rep h.ss h.fs c.args.toList) hcr
    refine wpIn_call (fun c e => by rw [hop] at e; cases e) (run_callee hop hc hxv hcall.callable) ((h.callPure (K := fun r => r = es z) (ACall.mono hcall fun r σ' hr => ⟨hr.1, by rw [hr.2]⟩) hargs).mono ?_)
    rintro e w' ⟨v, φ', r, rfl, kr, k2, k3⟩
    rw [kr] at k2
    refine ⟨v, rfl, ?_⟩
    exact hn _ _ _ φ' Ω w' hk (by cases o.dst <;> rfl) (k3.put hd (rw1 k2) trivial)
theorem W_wp (hE : EnvOK P E) {ops : Array Oper} {K : Fm → St → Prop} {Q : Exit → Act → World → Prop} (hQ : ∀ f' σ' a' φ' Ω' w', K f' σ' → SR E g f' σ' a' w' φ' Ω' → Q .normal a' w') :
    ∀ (l : List Oper) {f : Fm} {σ : St} {a : Act} {w : World} {φ : Nat → Nat} {Ω : List Own}, SR E g f σ a w φ Ω → dstsOK f.nt l = true → W P E ops l f σ K → wpListIn (Fw E.rd) 0 P ops Q l a w
  | [], _, _, _, _, _, _, h, _, hk => hQ _ _ _ _ _ _ hk h
  | o :: l, f, σ, a, w, φ, Ω, h, hd, hk => by
    simp only [dstsOK, List.all_cons, Bool.and_eq_true] at hd
    obtain ⟨hd1, hd2⟩ := hd
    have hdo : ∀ d, o.dst = some d → d < f.nt := fun d e => by rw [e] at hd1; simpa using hd1
    have rest : ∀ f' σ' a' φ' Ω' w', W P E ops l f' σ' K → f'.nt = f.nt → SR E g f' σ' a' w' φ' Ω' → wpListIn (Fw E.rd) 0 P ops Q l a' w' := fun f' σ' a' φ' Ω' w' k1 k2 k3 =>
      W_wp hE hQ l k3 (by rw [k2]; exact hd2) k1
    simp only [wpListIn]
    simp only [W] at hk
    split at hk
    · rename_i hg
      have : Region.wanted o (yielded ops a.tmps) = true := by unfold Region.wanted; rw [hg]
      rw [if_pos this]
      rcases hk with hk | ⟨z, hz, hk⟩
      · exact one_wp hE h hk hdo rest
      · obtain ⟨v, r1, r2, r3⟩ := QW_run hE h rfl hz
        exact wpIn_of_run (QW_defer hz) r1 (rest _ _ _ φ Ω w hk (by cases o.dst <;> rfl) (h.put hdo r2 r3))
    · rename_i j want hg
      split at hk
      · rename_i d hdj
        split at hk
        · rename_i b hb
          have hw := guardB_wanted h (ops := ops) hg hdj hb
          rw [hw]
          cases b with
          | true =>
            rw [if_pos rfl]
            rcases hk with hk | hk
            · exact one_wp hE h ((iteW.1 hk).1 rfl) hdo rest
            · exact oneG_wp hE h hk hdo rest
          | false =>
            rw [if_neg (by simp)]
            refine ⟨fun _ _ => trivial, ?_⟩
            have skip : ∀ {w φ} {x : AV}, Rep w φ (.when false x) undef := by intro w φ x; simp only [Rep]; exact ⟨fun e => Bool.noConfusion e, fun _ => trivial⟩
            rcases hk with hk | ⟨z, _, hk⟩ | ⟨z, _, hk⟩
            · exact rest _ _ _ φ Ω w ((iteW.1 hk).2 (by simp)) (by cases o.dst <;> rfl) (h.put hdo (by simp only [Rep]) trivial)
            · exact rest _ _ _ φ Ω w hk (by cases o.dst <;> rfl) (h.put hdo skip trivial)
            · exact rest _ _ _ φ Ω w hk (by cases o.dst <;> rfl) (h.put hdo skip trivial)
        · exact hk.elim
      · exact hk.elim

/-! ### Code -/
/-- What holds at an exit. -/
def Post := Exit → Fm → St → Prop
def Post.lift (E : Env) (g : Gh) (Q : Post) (e : Exit) (a' : Act) (w' : World) : Prop := ∃ f' σ' φ' Ω', SR E g f' σ' a' w' φ' Ω' ∧ Q e f' σ'

theorem Run.region (hE : EnvOK P E) {id : Nat} {ops : Array Oper} {Q : Post} (hd : dstsOK f.nt ops.toList = true) (h : ∀ K : Fm → St → Prop, (∀ f σ, Q .normal f σ → K f σ) → W P E ops ops.toList f σ K) : Run P E (.region id ops false) f σ Q := by
  intro g a w φ Ω hs
  exact wpIn_region_list (W_wp hE (fun f' σ' a' φ' Ω' w' k1 k2 => ⟨f', σ', φ', Ω', k2, k1⟩) ops.toList hs hd (h _ fun _ _ h => h))

theorem Run.skip {Q : Post} (h : Q .normal f σ) : Run P E .skip f σ Q := fun g a w φ Ω hs => wpIn_skip ⟨f, σ, φ, Ω, hs, h⟩
theorem Run.exit {Q : Post} {id : Nat} (h : Q (.exit id) f σ) : Run P E (.exit id) f σ Q := fun g a w φ Ω hs => wpIn_exit ⟨f, σ, φ, Ω, hs, h⟩
theorem Run.ret {Q : Post} (h : Q .ret f σ) : Run P E .ret f σ Q := fun g a w φ Ω hs => wpIn_ret ⟨f, σ, φ, Ω, hs, h⟩
/-- The post of the first of two. -/
def Post.then (Q : Post) (nx : Fm → St → Prop) : Post := fun e f σ => match e with | .normal => nx f σ | e => Q e f σ
def Post.inBlock (Q : Post) (id : Nat) : Post := fun e f σ => match e with | .exit i => if i = id then Q .normal f σ else Q (.exit i) f σ | e => Q e f σ
theorem Run.seq {x y : Code} {Q : Post} (h : Run P E x f σ (Q.then fun f σ => Run P E y f σ Q)) : Run P E (.seq x y) f σ Q := by
  intro g a w φ Ω hs
  refine wpIn_seq (wpIn_mono (h g a w φ Ω hs) ?_)
  rintro e a' w' ⟨f', σ', φ', Ω', k1, k2⟩
  cases e with
  | normal => exact k2 g a' w' φ' Ω' k1
  | _ => exact ⟨f', σ', φ', Ω', k1, k2⟩
theorem Run.mono {c : Code} {Q Q' : Post} (h : Run P E c f σ Q) (hq : ∀ e f σ, Q e f σ → Q' e f σ) : Run P E c f σ Q' := by
  intro g a w φ Ω hs
  refine wpIn_mono (h g a w φ Ω hs) ?_
  rintro e a' w' ⟨f', σ', φ', Ω', k1, k2⟩
  exact ⟨f', σ', φ', Ω', k1, hq _ _ _ k2⟩
theorem Run.cond {c : Operand} {x y : Code} {Q : Post} {b : Bool} (hc : evX E f c = .bool b) (h : Run P E (if b then x else y) f σ Q) : Run P E (.cond c x y) f σ Q := by
  intro g a w φ Ω hs
  have := (evX_rep (E := E) hs.ss hs.fs c).1
  rw [hc] at this
  simp only [Rep] at this
  exact wpIn_cond this (h g a w φ Ω hs)
theorem Run.block {id : Nat} {c : Code} {Q : Post} (h : Run P E c f σ (Q.inBlock id)) : Run P E (.block id c) f σ Q := by
  intro g a w φ Ω hs
  refine wpIn_block (wpIn_mono (h g a w φ Ω hs) ?_)
  rintro e a' w' ⟨f', σ', φ', Ω', k1, k2⟩
  cases e with
  | exit i =>
    simp only [Exit.inBlock]
    simp only [Post.inBlock] at k2
    split
    · rename_i e; rw [if_pos e] at k2; exact ⟨f', σ', φ', Ω', k1, k2⟩
    · rename_i e; rw [if_neg e] at k2; exact ⟨f', σ', φ', Ω', k1, k2⟩
  | _ => exact ⟨f', σ', φ', Ω', k1, k2⟩
theorem Run.scope {c : Code} {Q : Post} (h : Run P E c f σ Q) (hs : ∀ Q a w, c.wpIn (Fw E.rd) 0 P Q a w → (Code.scope c).wpIn (Fw E.rd) 0 P Q a w) : Run P E (.scope c) f σ Q :=
  fun g a w φ Ω hh => hs _ _ _ (h g a w φ Ω hh)
/-- A loop: the relation I holds at each head, with a number that each round lowers. -/
theorem Run.loop {c : Code} {Q : Post} (I : Nat → Fm → St → Prop) (n : Nat) (h0 : I n f σ) (round : ∀ n f σ, I n f σ → Run P E c f σ (Q.then fun f' σ' => ∃ m, m < n ∧ I m f' σ')) : Run P E (.loop c) f σ Q := by
  intro g a w φ Ω hs b k cs hro hb hr
  have key : ∀ n f σ a w φ Ω, I n f σ → SR E g f σ a w φ Ω →
      ∃ e a' w', Q.lift E g e a' w' ∧ ArrivesIn (Machine.fenced P (Fw E.rd)) P (lone (b.atR a (.code c :: .inLoop c :: k)) cs w) b k cs e a' w' := by
    intro n
    induction n using Nat.strongRecOn with
    | _ n ih =>
      intro f σ a w φ Ω hI hs
      obtain ⟨e, a₁, w₁, ⟨f', σ', φ', Ω', k1, k2⟩, harr⟩ := round n f σ hI g a w φ Ω hs b (.inLoop c :: k) cs hro hb hr
      cases e with
      | normal =>
        obtain ⟨m, hm, hI'⟩ := k2
        obtain ⟨e₂, a₂, w₂, hq₂, harr₂⟩ := ih m hm f' σ' a₁ w₁ φ' Ω' hI' k1
        exact ⟨e₂, a₂, w₂, hq₂, .of_steps (StepsIn.trans harr (.one (fenced_calm hb hr rfl) stepR_inLoop)) harr₂⟩
      | exit id => exact ⟨_, a₁, w₁, ⟨f', σ', φ', Ω', k1, k2⟩, .pass (x := .inLoop c) rfl (fun _ _ => .inl (by simp)) harr⟩
      | goto l => exact ⟨_, a₁, w₁, ⟨f', σ', φ', Ω', k1, k2⟩, .pass (x := .inLoop c) rfl (fun _ _ => .inl (by simp)) harr⟩
      | ret => exact ⟨_, a₁, w₁, ⟨f', σ', φ', Ω', k1, k2⟩, .pass (x := .inLoop c) rfl (fun _ _ => .inl (by simp)) harr⟩
      | panic ch => exact ⟨_, a₁, w₁, ⟨f', σ', φ', Ω', k1, k2⟩, .pass (x := .inLoop c) rfl (fun _ _ => .inl (by simp)) harr⟩
      | outgrown => exact ⟨_, a₁, w₁, ⟨f', σ', φ', Ω', k1, k2⟩, .pass (x := .inLoop c) rfl (fun _ _ => .inl (by simp)) harr⟩
  obtain ⟨e, a', w', hq, harr⟩ := key n f σ a w φ Ω h0 hs
  exact ⟨e, a', w', hq, .of_steps (.one (fenced_calm hb hr rfl) stepR_loop) harr⟩

/-! ### Functions -/
/-- What a result variable holds. -/
def resA (E : Env) (f : Fm) (σ : St) : ResultVar → Option AV
  | .tmp t => some (getA f.sl t)
  | .cell a t => loadA E σ t (getA f.sl a)
def resAs (E : Env) (f : Fm) (σ : St) : List ResultVar → Option (List AV)
  | [] => some []
  | r :: rs => match resA E f σ r, resAs E f σ rs with | some x, some xs => some (x :: xs) | _, _ => none
def tupA : List AV → AV
  | [x] => x
  | xs => .tup xs

theorem resAs_run (hE : EnvOK P E) (h : SR E g f σ a w φ Ω) : ∀ (rs : List ResultVar) {xs : List AV}, resAs E f σ rs = some xs →
    ∃ vs : List Value, (rs.mapM fun r => (match r with
      | .tmp t => pure (a.tmps.getD t undef)
      | .cell a' t => do loadVar t (← asAddr (a.tmps.getD a' undef)) : Sem Value)).run P w = .ok vs w ∧ RepL w φ xs vs
  | [], _, hr => by
    simp only [resAs, Option.some.injEq] at hr; subst hr
    exact ⟨[], rfl, RepL.nil⟩
  | r :: rs, xs, hr => by
    simp only [resAs] at hr
    split at hr
    · rename_i x xs' hx hxs
      simp only [Option.some.injEq] at hr; subst hr
      obtain ⟨vs, h1, h2⟩ := resAs_run hE h rs hxs
      cases r with
      | tmp t =>
        simp only [resA, Option.some.injEq] at hx; subst hx
        refine ⟨_ :: vs, ?_, RepL.cons (h.fs.rep t) h2⟩
        simp only [List.mapM_cons, Sem.run_bind, Sem.run_pure, Result.andThen_ok, h1]
      | cell b t =>
        simp only [resA] at hx
        obtain ⟨v, k1, k2, _⟩ := loadA_run hE h.ss hx (h.fs.rep b)
        refine ⟨v :: vs, ?_, RepL.cons k2 h2⟩
        have : (do loadVar t (← asAddr (a.tmps.getD b undef)) : Sem Value).run P w = .ok v w := by
          have hp := h.fs.rep b
          revert k1 hp hx
          generalize getA f.sl b = p
          generalize a.tmps.getD b undef = u
          intro hx k1 hp
          cases p <;> simp only [loadA] at hx <;> (split at hx <;> try cases hx)
          · simp only [Rep] at hp; subst hp; exact k1
          · simp only [Rep] at hp; obtain ⟨b', o', rfl, _⟩ := hp; exact k1
        simp only [List.mapM_cons, Sem.run_bind, this, Sem.run_pure, Result.andThen_ok, h1]
    · cases hr

theorem results_run (hE : EnvOK P E) (h : SR E g f σ a w φ Ω) {fn : Func} {xs : List AV} (hr : resAs E f σ fn.results.toList = some xs) : ∃ v, (results fn a.tmps).run P w = .ok v w ∧ Rep w φ (tupA xs) v := by
  obtain ⟨vs, h1, h2⟩ := resAs_run hE h fn.results.toList hr
  have hm : (fn.results.mapM fun r => (match r with
      | .tmp t => pure (a.tmps.getD t undef)
      | .cell a' t => do loadVar t (← asAddr (a.tmps.getD a' undef)) : Sem Value)).run P w = .ok vs.toArray w := by
    rw [Array.mapM_eq_mapM_toList, Sem.run_map, h1]
    rfl
  have hlen := h2.length
  have hres : results fn a.tmps = (fn.results.mapM fun r => (match r with
      | .tmp t => pure (a.tmps.getD t undef)
      | .cell a' t => do loadVar t (← asAddr (a.tmps.getD a' undef)) : Sem Value)) >>= fun vs => pure (if h : vs.size = 1 then vs[0] else .tuple vs) := rfl
  rw [hres, Sem.run_bind, hm]
  refine ⟨if h : vs.toArray.size = 1 then vs.toArray[0] else .tuple vs.toArray, rfl, ?_⟩
  · cases vs with
    | nil => cases xs with
      | nil => simp only [tupA, Rep]; exact ⟨[], by simp, RepL.nil⟩
      | cons x xs => simp at hlen
    | cons v vs =>
      cases vs with
      | nil =>
        cases xs with
        | nil => simp at hlen
        | cons x xs =>
          cases xs with
          | nil => simp only [RepL] at h2; obtain ⟨_, _, e, h3, _⟩ := h2; simp at e; simp [tupA, e.1, h3]
          | cons y ys => simp at hlen
      | cons u us =>
        cases xs with
        | nil => simp at hlen
        | cons x xs =>
          cases xs with
          | nil => simp at hlen
          | cons y ys => simp only [tupA, Rep]; exact ⟨v :: u :: us, by simp, h2⟩

theorem args_get (args : List Value) (n s : Nat) (hle : args.length ≤ n) : (args.toArray ++ Array.replicate (n - args.toArray.size) undef).getD s undef = args.getD s undef := by
  simp only [Array.getD_eq_getD_getElem?, List.getD]
  rw [Array.getElem?_append]
  split
  · simp
  · rename_i h
    simp only [Array.getElem?_replicate]
    rw [List.getElem?_eq_none (by simpa using h)]
    split <;> rfl

def slotsA : Nat → List AV → List (Nat × AV)
  | _, [] => []
  | k, x :: xs => (k, x) :: slotsA (k + 1) xs
theorem slotsA_rep : ∀ {xs : List AV} {vs : List Value} (k s : Nat), RepL w φ xs vs → Rep w φ (getA (slotsA k xs) s) (if k ≤ s then vs.getD (s - k) undef else undef)
  | [], _, k, s, _ => by simp [slotsA, getA, Rep]
  | x :: xs, _, k, s, h => by
    simp only [RepL] at h
    obtain ⟨v, vs', rfl, h1, h2⟩ := h
    simp only [slotsA, getA]
    split
    · rename_i e; subst e; simpa using h1
    · rename_i e
      have := slotsA_rep (k + 1) s h2
      by_cases hle : k + 1 ≤ s
      · rw [if_pos hle] at this
        rw [if_pos (by omega)]
        obtain ⟨d, rfl⟩ : ∃ d, s = k + 1 + d := ⟨s - (k + 1), by omega⟩
        rw [show k + 1 + d - (k + 1) = d by omega] at this
        rw [show k + 1 + d - k = d + 1 by omega]
        simpa using this
      · rw [if_neg hle] at this
        rw [if_neg (by omega)]
        exact this

/-! ### The marks among the deferred calls -/
def unmark : List Nat → List (Nat × MO) → List (Nat × MO)
  | [], m => m
  | D :: df, m => unmark df (m.filter fun p => !(p.1 == D))
def marked : List Nat → List (Nat × MO) → Prop
  | [], _ => True
  | D :: df, m => (D, MO.ob (.deferred (some []))) ∈ m ∧ marked df (m.filter fun p => !(p.1 == D))
@[simp] theorem unmark_nil (m : List (Nat × MO)) : unmark [] m = m := rfl
@[simp] theorem marked_nil (m : List (Nat × MO)) : marked [] m = True := rfl
theorem mem_getB : ∀ {α : Type} {l : List (Nat × α)} {b : Nat} {x : α}, (l.map (·.1)).Nodup → (b, x) ∈ l → getB l b = some x
  | _, (k, v) :: l, b, x, hn, h => by
    simp only [List.map_cons, List.nodup_cons] at hn
    simp only [getB]
    rcases List.mem_cons.1 h with h | h
    · cases h; simp
    · have : k ≠ b := fun e => hn.1 (by subst e; exact List.mem_map.2 ⟨_, h, rfl⟩)
      rw [if_neg this]; exact mem_getB hn.2 h
theorem filter_setB : ∀ {α : Type} (l : List (Nat × α)) (b : Nat) (x : α), (setB l b x).filter (fun p => !(p.1 == b)) = l.filter fun p => !(p.1 == b)
  | _, [], _, _ => rfl
  | _, (k, v) :: l, b, x => by
    simp only [setB]
    by_cases e : k = b
    · subst e; simp
    · rw [if_neg e]; simp only [List.filter_cons, filter_setB l b x]
theorem SR.sub (h : SR E g f σ a w φ Ω) {m : List (Nat × MO)} (hm : m.Sublist σ.map) : SR E g f ⟨σ.box, m⟩ a w φ Ω := by
  have ho : (owned Ω ⟨σ.box, m⟩).Sublist (owned Ω σ) := List.Sublist.append (List.Sublist.append (List.Sublist.refl _) (List.Sublist.map _ hm)) (List.Sublist.refl _)
  exact ⟨⟨h.ss.box, fun b l hb => h.ss.map b l (hm.subset hb), h.ss.own, h.ss.tags, h.ss.nodup.sublist ho, h.ss.glob, h.ss.fits⟩, h.fs, h.since, fun b hb => h.mine b (ho.subset hb)⟩
theorem leaves_marks {F : Func} {R : Ending → World → Prop} : ∀ (df : List Nat) {f : Fm} {σ : St} {a : Act} {w : World}, SR E g f σ a w φ Ω → f.df = df → marked df σ.map →
    (∀ a' w', a'.tmps = a.tmps → SR E g { f with df := [] } ⟨σ.box, unmark df σ.map⟩ a' w' φ Ω → LeavesIn Fence.wide 0 P F a.tmps R [] .returning w') → LeavesInM Fence.wide 0 P F a.tmps R a.defers .returning w
  | [], f, σ, a, w, h, hdf, _, k => by
    have hd := h.fs.defers
    rw [hdf] at hd
    rw [hd]
    have hf : { f with df := [] } = f := by rw [← hdf]
    exact k a w rfl (by rw [hf]; exact h)
  | D :: df, f, σ, a, w, h, hdf, hm, k => by
    have hd := h.fs.defers
    rw [hdf] at hd
    rw [hd]
    have hnm : (σ.map.map (·.1)).Nodup := (List.nodup_append.1 (nodup_app_left h.ss.nodup)).2.1
    obtain ⟨hm1, hm2⟩ := hm
    have hg := mem_getB hnm hm1
    obtain ⟨⟨o, ho, hmo⟩, _⟩ := mo_get h.ss hg
    simp only [MORep] at hmo
    subst hmo
    have h1 := h.setObj (l' := .ob (.deferred none)) (o' := .deferred none) hg (by simp only [MORep])
    have h2 : SR E g { f with df := df } { σ with map := setB σ.map D (.ob (.deferred none)) } { a with defers := df.map fun D => { target := .collected D, args := #[] } } (w.putObj D (.deferred none)) φ Ω :=
      ⟨h1.ss, ⟨h1.fs.size, rfl, h1.fs.rep, h1.fs.tag, h1.fs.ow⟩, h1.since, h1.mine⟩
    have h3 := h2.sub (m := σ.map.filter fun p => !(p.1 == D)) (by rw [← filter_setB σ.map D (.ob (.deferred none))]; exact List.filter_sublist)
    refine ⟨by simp, .inl ⟨D, _, rfl, run_takeDeferred ho, ?_⟩⟩
    exact leaves_marks df h3 rfl hm2 fun a' w' ha' hs => k a' w' ha' hs

/-- A function's body shows what its call does. Its arguments have no tags. -/
theorem ACall.of_run (hE : EnvOK P E) {fn : FuncId} {F : Func} {c : Code} {args : List AV} {R : AV → St → Prop} (hF : P.funcs[fn]? = some F) (hname : (F.name == "runtime.NumGoroutine") = false) (hb : F.body = some c) (hn : args.length ≤ F.ntmps) (hargs : ∀ x ∈ args, ers x = x)
    (h : Run P E c ⟨F.ntmps, slotsA 0 args, [], []⟩ σ fun e f' σ' => (e = .normal ∨ e = .ret) ∧ marked f'.df σ'.map ∧ ∃ xs r σ'', resAs E f' σ' F.results.toList = some xs ∧ (r = ers (tupA xs) ∨ r = es (tupA xs)) ∧ σ''.box.Sublist σ'.box ∧ σ''.map.Sublist (unmark f'.df σ'.map) ∧ R r σ'') (hrd : E.rd = none := by rfl) : ACall P E fn args σ R := by
  refine ⟨⟨F, hF, hname, by rw [hb]; rfl⟩, fun w φ Ω vs hss hr => ?_⟩
  have hvl := hr.length
  have hw : Fw E.rd = Fence.wide := by rw [hrd]; rfl
  refine (callsIn_wide (n := 0)).1 (callsIn_of_wp_marks hF hb trivial ?_)
  rw [← hw]
  refine wpIn_mono (h ⟨w, φ, owned Ω σ⟩ { tmps := vs.toArray ++ Array.replicate (F.ntmps - vs.toArray.size) undef, defers := [] } w φ Ω ⟨hss, ⟨?_, rfl, fun s => ?_, fun s => ?_, fun t n ht => by simp [getT] at ht⟩, ⟨rfl, rfl, rfl, Nat.le_refl _, fun b _ _ => ⟨rfl, rfl⟩, Ext.refl w φ⟩, fun b hb => .inl hb⟩) ?_
  · simp; omega
  · rw [args_get vs F.ntmps s (by omega)]
    have := slotsA_rep (w := w) (φ := φ) 0 s hr
    simpa using this
  · have hno : ∀ (xs : List AV) (k : Nat), (∀ x ∈ xs, ers x = x) → ∀ v, TagOK Ω (getA (slotsA k xs) s) v := by
      intro xs
      induction xs with
      | nil => intro k _ v; simp [slotsA, getA, TagOK]
      | cons x xs ih =>
        intro k hx v
        simp only [slotsA, getA]
        split
        · rw [← hx x (by simp)]; exact TagOK.ers (fun y hy => (hss.own y hy).tag) _
        · exact ih (k + 1) (fun y hy => hx y (by simp [hy])) v
    exact hno args 0 hargs _
  · rintro e a' w1 ⟨f', σ1, φ', Ω', hs1, he, hmk, xs, r, σ'', hxs, hr0, sb, sm, hR⟩
    have fin : LeavesInM (Fw E.rd) 0 P F a'.tmps (APost E w φ Ω σ R) a'.defers .returning w1 := by
      rw [hw]
      refine leaves_marks f'.df hs1 rfl hmk fun a2 w' ha2 hs => ?_
      have hxs' : resAs E { f' with df := [] } ⟨σ1.box, unmark f'.df σ1.map⟩ F.results.toList = some xs := by
        rw [← hxs]
        generalize F.results.toList = l
        have one : ∀ r, resA E { f' with df := [] } ⟨σ1.box, unmark f'.df σ1.map⟩ r = resA E f' σ1 r := fun r => by cases r <;> rfl
        induction l with
        | nil => rfl
        | cons r l ih => simp only [resAs, one, ih]
      obtain ⟨v, r1, r2⟩ := results_run hE hs hxs'
      rw [ha2] at r1
      refine ⟨v, r1, v, φ', Ω'.filter (inBox (σ''.box.map (·.1))), _, σ'', rfl, hR, (by rcases hr0 with rfl | rfl; exact r2.ers; exact r2.es), ?_, hs.since, fun x hx => inBox_true (List.mem_filter.1 hx).2, fun b hb => hs.mine b ?_⟩
      · refine ⟨fun b cs hm => ?_, fun b l hm => hs.ss.map b l (sm.subset hm), fun x hx => hs.ss.own x (List.mem_filter.1 hx).1, hs.ss.tags.sublist (List.Sublist.map _ List.filter_sublist), ?_, hs.ss.glob, hs.ss.fits⟩
        · obtain ⟨⟨c, T, k1, k2, k3⟩, k4, k5⟩ := hs.ss.box b cs (sb.subset hm)
          refine ⟨⟨c, T, k1, k2, fun o sz xs ho => ?_⟩, k4, k5⟩
          obtain ⟨x, hx, e1, e2⟩ := k3 o sz xs ho
          exact ⟨x, List.mem_filter.2 ⟨hx, inBox_of e1 (List.mem_map.2 ⟨_, hm, rfl⟩)⟩, e1, e2⟩
        · exact hs.ss.nodup.sublist (List.Sublist.append (List.Sublist.append (List.Sublist.map _ sb) (List.Sublist.map _ sm)) (List.Sublist.filterMap _ List.filter_sublist))
      · simp only [owned, List.mem_append] at hb ⊢
        rcases hb with (hb | hb) | hb
        · exact .inl (.inl ((List.Sublist.map _ sb).subset hb))
        · exact .inl (.inr ((List.Sublist.map _ sm).subset hb))
        · exact .inr ((List.Sublist.filterMap _ List.filter_sublist).subset hb)
    rcases he with rfl | rfl
    · exact fin
    · exact fin
end
end Go.Proofs.YtpjkepfplhllfaaDoor.Av
