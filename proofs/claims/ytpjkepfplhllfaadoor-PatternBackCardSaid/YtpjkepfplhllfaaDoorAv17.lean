/-
Rules for writing proofs; what simp unfolds.
-/
import Derived.Test.YtpjkepfplhllfaaDoorAv16
namespace Go.Proofs.YtpjkepfplhllfaaDoor.Av
set_option linter.unusedSimpArgs false
set_option linter.unusedVariables false
open Go
section
variable {P : Program} {E : Env} {f : Fm} {σ : St}
/-- A region with code behind it. -/
theorem Run.reg (hE : EnvOK P E) {id : Nat} {ops : Array Oper} {c : Code} {Q : Post} (hd : dstsOK f.nt ops.toList = true) (h : ∀ K : Fm → St → Prop, (∀ f σ, Run P E c f σ Q → K f σ) → W P E ops ops.toList f σ K) : Run P E (.seq (.region id ops false) c) f σ Q :=
  Run.seq (Run.region hE hd fun K hK => h K hK)
theorem Run.regEnd (hE : EnvOK P E) {id : Nat} {ops : Array Oper} {Q : Post} (hd : dstsOK f.nt ops.toList = true) (h : ∀ K : Fm → St → Prop, (∀ f σ, Q .normal f σ → K f σ) → W P E ops ops.toList f σ K) : Run P E (.region id ops false) f σ Q :=
  Run.region hE hd h
theorem Run.skipSeq {c : Code} {Q : Post} (h : Run P E c f σ Q) : Run P E (.seq .skip c) f σ Q := Run.seq (Run.skip h)
/-- A test with code behind it. -/
theorem Run.test {c : Operand} {x y z : Code} {Q : Post} {b : Bool} (hc : evX E f c = .bool b) (ht : b = true → Run P E x f σ (Q.then fun f σ => Run P E z f σ Q)) (hf : b = false → Run P E y f σ (Q.then fun f σ => Run P E z f σ Q)) : Run P E (.seq (.cond c x y) z) f σ Q := by
  refine Run.seq (Run.cond hc ?_)
  cases b
  · exact hf rfl
  · exact ht rfl
theorem Run.forget {c : Code} {Q : Post} (sl : List (Nat × AV)) (ow : List (Tag × (Nat × Nat))) (h : Run P E c ⟨f.nt, sl, ow, f.df⟩ σ Q) (hsl : ∀ p ∈ sl, p.2 = getA f.sl p.1) (how : ow = [] ∨ ow = f.ow) : Run P E c f σ Q := by
  intro g a w φ Ω hs
  refine h g a w φ Ω ⟨hs.ss, ⟨hs.fs.size, hs.fs.defers, fun s => ?_, fun s => ?_, fun t n ht => ?_⟩, hs.since, hs.mine⟩
  · have key : ∀ l : List (Nat × AV), (∀ p ∈ l, p.2 = getA f.sl p.1) → getA l s = .any ∨ getA l s = getA f.sl s := by
      intro l
      induction l with
      | nil => intro _; exact .inl rfl
      | cons p l ih =>
        intro hl
        simp only [getA]
        split
        · rename_i e; right; rw [hl p (by simp), e]
        · exact ih fun q hq => hl q (by simp [hq])
    rcases key sl hsl with e | e <;> simp only [e]
    · simp only [Rep]
    · exact hs.fs.rep s
  · have key : ∀ l : List (Nat × AV), (∀ p ∈ l, p.2 = getA f.sl p.1) → getA l s = .any ∨ getA l s = getA f.sl s := by
      intro l
      induction l with
      | nil => intro _; exact .inl rfl
      | cons p l ih =>
        intro hl
        simp only [getA]
        split
        · rename_i e; right; rw [hl p (by simp), e]
        · exact ih fun q hq => hl q (by simp [hq])
    rcases key sl hsl with e | e <;> simp only [e]
    · trivial
    · exact hs.fs.tag s
  · rcases how with rfl | rfl
    · simp [getT] at ht
    · exact hs.fs.ow t n ht
/-- A test at the end. -/
theorem Run.testEnd {c : Operand} {x y : Code} {Q : Post} {b : Bool} (hc : evX E f c = .bool b) (ht : b = true → Run P E x f σ Q) (hf : b = false → Run P E y f σ Q) : Run P E (.cond c x y) f σ Q := by
  refine Run.cond hc ?_
  cases b
  · exact hf rfl
  · exact ht rfl

/-- A part of a frame. -/
def Fm.only (f : Fm) (ss : List Nat) (ts : List Tag) : Fm := { f with sl := ss.map fun s => (s, getA f.sl s), ow := ts.filterMap fun t => (getT f.ow t).map fun n => (t, n) }
theorem getT_only (ow : List (Tag × (Nat × Nat))) (ts : List Tag) (t : Tag) (n : Nat × Nat) (h : getT (ts.filterMap fun t => (getT ow t).map fun n => (t, n)) t = some n) : getT ow t = some n := by
  induction ts with
  | nil => simp [getT] at h
  | cons u ts ih =>
    simp only [List.filterMap_cons] at h
    cases hu : getT ow u with
    | none => rw [hu] at h; exact ih h
    | some m =>
      rw [hu] at h
      simp only [Option.map_some, getT] at h
      split at h
      · rename_i e; subst e; rw [hu]; exact h
      · exact ih h
theorem getA_only (l : List (Nat × AV)) (ss : List Nat) (s : Nat) : getA (ss.map fun s => (s, getA l s)) s = .any ∨ getA (ss.map fun s => (s, getA l s)) s = getA l s := by
  induction ss with
  | nil => exact .inl rfl
  | cons u ss ih =>
    simp only [List.map_cons, getA]
    split
    · rename_i e; right; rw [e]
    · exact ih
theorem SR.only {g : Gh} {a : Act} {w : World} {φ : Nat → Nat} {Ω : List Own} (h : SR E g f σ a w φ Ω) (ss : List Nat) (ts : List Tag) : SR E g (f.only ss ts) σ a w φ Ω := by
  refine ⟨h.ss, ⟨h.fs.size, h.fs.defers, fun s => ?_, fun s => ?_, fun t n ht => h.fs.ow t n (getT_only _ _ _ _ ht)⟩, h.since, h.mine⟩
  · rcases getA_only f.sl ss s with e | e <;> simp only [Fm.only, e]
    · simp only [Rep]
    · exact h.fs.rep s
  · rcases getA_only f.sl ss s with e | e <;> simp only [Fm.only, e]
    · trivial
    · exact h.fs.tag s
theorem Run.only {c : Code} {Q : Post} (ss : List Nat) (ts : List Tag) (h : Run P E c (f.only ss ts) σ Q) : Run P E c f σ Q :=
  fun g a w φ Ω hs => h g a w φ Ω (hs.only ss ts)
/-- A loop: only these slots and tags count at its head. -/
theorem Run.loopOn {c : Code} {Q : Post} (ss : List Nat) (ts : List Tag) (I : Nat → Fm → St → Prop) (n : Nat) (h0 : I n (f.only ss ts) σ) (round : ∀ n f σ, I n f σ → Run P E c f σ (Q.then fun f' σ' => ∃ m, m < n ∧ I m (f'.only ss ts) σ')) : Run P E (.loop c) f σ Q := by
  refine Run.loop (fun n f σ => I n (f.only ss ts) σ) n h0 fun n f σ hI => ?_
  exact Run.only ss ts (round n _ σ hI)
/-- What is nil may be grown. -/
theorem Run.retag {c : Code} {Q : Post} (s d sz : Nat) (hs : getA f.sl s = .nils) (hz : 0 < sz) (hd : s < f.nt) (h : Run P E c ⟨f.nt, (s, .list (.slot d) []) :: untagS (.slot d) f.sl, (.slot d, (0, sz)) :: delT f.ow (.slot d), f.df⟩ σ Q) : Run P E c f σ Q := by
  intro g a w φ Ω hh
  have hu := hh.untag (.slot d)
  have hnt : ∀ s, NoTag (.slot d) (getA (untagS (.slot d) f.sl) s) := fun s => by rw [getA_untag]; exact NoTag.self (by simp) _
  have how : owned (⟨.slot d, .slice none 0 0, 0, sz, 0⟩ :: Ω.filter (fun x => decide (x.tag ≠ .slot d))) σ = owned (Ω.filter (fun x => decide (x.tag ≠ .slot d))) σ := by
    simp only [owned, List.filterMap_cons, Value.ownBlock]
  have hsubl : (owned (Ω.filter (fun x => decide (x.tag ≠ .slot d))) σ).Sublist (owned Ω σ) := List.Sublist.append (List.Sublist.refl _) (List.Sublist.filterMap _ List.filter_sublist)
  have hv : a.tmps.getD s undef = .slice none 0 0 := by have := hh.fs.rep s; rw [hs] at this; simpa only [Rep] using this
  refine h g a w φ (⟨.slot d, .slice none 0 0, 0, sz, 0⟩ :: Ω.filter (fun x => decide (x.tag ≠ .slot d))) ⟨⟨fun b cs hm => ?_, hh.ss.map, fun x hx => ?_, ?_, ?_, hh.ss.glob, hh.ss.fits⟩, ⟨hh.fs.size, hh.fs.defers, fun s' => ?_, fun s' => ?_, fun t n ht => ?_⟩, hh.since, fun b hb => ?_⟩
  · obtain ⟨⟨c, T, k1, k2, k3⟩, k4, k5⟩ := hh.ss.box b cs hm
    refine ⟨⟨c, T, k1, k2, fun o sz xs ho => ?_⟩, k4, k5⟩
    obtain ⟨x, hx, e1, e2⟩ := k3 o sz xs ho
    exact ⟨x, List.mem_cons_of_mem _ (List.mem_filter.2 ⟨hx, by simp [e1]⟩), e1, e2⟩
  · rcases List.mem_cons.1 hx with rfl | hx
    · exact ⟨by simp, ⟨[], World.ownsRow_nil w 0 0 sz⟩, hz, fun g hg => by simp [Value.ownBlock] at hg, fun b o e => by cases e⟩
    · exact hh.ss.own x (List.mem_filter.1 hx).1
  · simp only [List.map_cons, List.nodup_cons]
    refine ⟨fun hm => ?_, hh.ss.tags.sublist (List.Sublist.map _ List.filter_sublist)⟩
    obtain ⟨y, hy, e⟩ := List.mem_map.1 hm
    have := (List.mem_filter.1 hy).2
    simp only [decide_eq_true_eq] at this
    exact this e
  · rw [how]; exact hh.ss.nodup.sublist hsubl
  · simp only [getA]
    split
    · rename_i e; subst e; rw [hv]; simp only [Rep]; exact ⟨_, _, _, rfl, rfl, Nat.le_refl _, .inl trivial⟩
    · exact hu.fs.rep s'
  · simp only [getA]
    split
    · rename_i e; subst e; rw [hv]
      intro x hx hxt hxn
      rcases List.mem_cons.1 hx with rfl | hx
      · rfl
      · have := (List.mem_filter.1 hx).2
        simp only [decide_eq_true_eq] at this
        exact absurd hxt this
    · have hto := hu.fs.tag s'
      have hnt' := hnt s'
      simp only at hto
      revert hto hnt'
      generalize getA (untagS (.slot d) f.sl) s' = v
      intro hto hnt'
      cases v with
      | list t' ys =>
        intro x hx hxt hxn
        rcases List.mem_cons.1 hx with rfl | hx
        · exact absurd rfl (fun e : AV.list t' ys = AV.list t' ys => hnt'.1 ys (by rw [← hxt]))
        · exact hto x (List.mem_filter.1 hx).1 hxt hxn
      | agg es =>
        intro vs hvs i t' ys hi x hx hxt hxn
        rcases List.mem_cons.1 hx with rfl | hx
        · exact absurd (List.mem_of_getElem? hi) (by rw [← hxt]; exact hnt'.2 es rfl ys)
        · exact hto vs hvs i t' ys hi x (List.mem_filter.1 hx).1 hxt hxn
      | _ => trivial
  · simp only [getT] at ht
    split at ht
    · rename_i e1
      subst e1
      simp only [Option.some.injEq] at ht
      exact ⟨_, List.mem_cons_self, rfl, ht⟩
    · rename_i e1
      rw [getT_del, if_neg e1] at ht
      obtain ⟨x, hx, k1, k2⟩ := hh.fs.ow t n ht
      exact ⟨x, List.mem_cons_of_mem _ (List.mem_filter.2 ⟨hx, by simp only [decide_eq_true_eq]; rw [k1]; exact fun e => e1 e.symm⟩), k1, k2⟩
  · rw [how] at hb; exact hh.mine b (hsubl.subset hb)

/-- A call of a function that owns nothing of its caller's. -/
def PCall (P : Program) (E : Env) (fn : FuncId) (args : List AV) (R : AV → Prop) : Prop := ACall P E fn args .empty fun r σ => σ = .empty ∧ R r
theorem PCall.use {fn : FuncId} {args : List AV} {R K : AV → Prop} {M : Prop} (h : PCall P E fn args R) (hr : ∀ r, R r → K (es r)) : CallPure P E fn args K ∨ M :=
  .inl (ACall.mono h fun r σ hh => ⟨hh.1, hr r hh.2⟩)
theorem PCall.of_run (hE : EnvOK P E) {fn : FuncId} {F : Func} {c : Code} {args : List AV} {R : AV → Prop} (hF : P.funcs[fn]? = some F) (hname : (F.name == "runtime.NumGoroutine") = false) (hb : F.body = some c) (hn : args.length ≤ F.ntmps) (hargs : ∀ x ∈ args, ers x = x)
    (h : Run P E c ⟨F.ntmps, slotsA 0 args, [], []⟩ .empty fun e f' σ' => (e = .normal ∨ e = .ret) ∧ marked f'.df σ'.map ∧ ∃ xs, resAs E f' σ' F.results.toList = some xs ∧ R (ers (tupA xs))) (hrd : E.rd = none := by rfl) : PCall P E fn args R :=
  ACall.of_run hE hF hname hb hn hargs (hrd := hrd) (Run.mono h fun e f' σ' ⟨h1, hm, xs, h2, h3⟩ => ⟨h1, hm, xs, _, .empty, h2, .inl rfl, List.nil_sublist _, List.nil_sublist _, rfl, h3⟩)
end

attribute [simp] One evF evX getA getB setB getT delT getO slotsA Fm.put Fm.upd ofC ofC1 giveC gives giveF giveB untagS untagV untagCells delCells ldC loadA fieldA partA fillA buildA intOp strOp binA unA convA indexAddrA indexA optI sliceA lenA maxA minA keyEq keyLK findA lookA Eff storeW rowsOf appendW ownLen ungrow seqA putA resA resAs tupA noCells noCellS noCellV noCellC noCellT St.empty St.add Lay.elemOK Post.then Post.inBlock Fm.only
end Go.Proofs.YtpjkepfplhllfaaDoor.Av
