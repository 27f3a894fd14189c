import Derived.Test.YtpjkepfplhllfaaDoorAv3
import Derived.Lib.Strings
namespace Go.Proofs.YtpjkepfplhllfaaDoor.Av
set_option linter.unusedSimpArgs false
set_option linter.unusedVariables false
open Go
section
variable {P : Program} {w : World} {φ : Nat → Nat} {E : Env} {f : Fm} {σ : St} {a : Act} {Ω : List Own}

theorem mkKind_struct {d : TypeDesc} {fs : List (Nat × Nat × Bool)} (h : LK.struct fs = mkKind P d) : ∃ fields : Array Field, d = .struct fields ∧
    (fs = fields.toList.map fun f => (f.offset, ((P.info? f.type).map (·.size)).getD 0, ((P.underlying f.type).map aggOf).getD false)) ∧
    ∀ f ∈ fields.toList, ∃ i d, P.info? f.type = some i ∧ P.underlying f.type = some d := by
  cases d with
  | struct fields =>
    simp only [mkKind] at h
    split at h
    · rename_i hall
      refine ⟨_, rfl, by simpa using h, fun f hf => ?_⟩
      have := List.all_eq_true.1 hall f hf
      simp only [Bool.and_eq_true, Option.isSome_iff_exists] at this
      obtain ⟨⟨i, hi⟩, ⟨d, hd⟩⟩ := this
      exact ⟨i, d, hi, hd⟩
    · cases h
  | _ => simp [mkKind] at h
theorem mkKind_slice {d : TypeDesc} {e : TypeId} (h : LK.slice e = mkKind P d) : d = .slice e := by
  cases d <;> simp [mkKind] at h <;> try (split at h <;> simp at h; done)
  rw [h]
theorem mkKind_array {d : TypeDesc} {n : Nat} {e : TypeId} (h : LK.array n e = mkKind P d) : d = .array n e := by
  cases d <;> simp [mkKind] at h <;> try (split at h <;> simp at h; done)
  rw [h.1, h.2]
theorem mkKind_map {d : TypeDesc} {k e : TypeId} (h : LK.map k e = mkKind P d) : d = .map k e := by
  cases d <;> simp [mkKind] at h <;> try (split at h <;> simp at h; done)
  rw [h.1, h.2]
theorem mkKind_int {d : TypeDesc} {k : IntKind} (h : LK.int k = mkKind P d) : d = .int k := by
  cases d <;> simp [mkKind] at h <;> try (split at h <;> simp at h; done)
  rw [h]
theorem mkKind_bool {d : TypeDesc} (h : LK.bool = mkKind P d) : d = .bool := by
  cases d <;> simp [mkKind] at h <;> first | rfl | (split at h <;> simp at h; done)
theorem mkKind_string {d : TypeDesc} (h : LK.string = mkKind P d) : d = .string := by
  cases d <;> simp [mkKind] at h <;> first | rfl | (split at h <;> simp at h; done)

theorem addr_add (b o n : Nat) : (⟨b, o, none⟩ : Addr).add n = ⟨b, o + n, none⟩ := by unfold Addr.add; split <;> simp_all

theorem fieldA_run (hE : EnvOK P E) {t : TypeId} {p x : AV} {u : Value} {i : Nat} (h : fieldA E t p i = some x) (hp : Rep w φ p u) :
    ∃ v, (Instr.fieldAt t u i).run P w = .ok v w ∧ Rep w φ x v ∧ TagOK Ω x v := by
  unfold fieldA at h
  split at h
  · rename_i size agg bytes zero fs hl
    obtain ⟨ti, d, hi, hd, e1, e2, e3, e4, e5⟩ := mkLay_spec (hE t _ hl)
    obtain ⟨fields, rfl, hfs, hall⟩ := mkKind_struct e4
    split at h
    · rename_i off sz ag hf
      split at h
      · cases h
      rename_i hsz
      rw [hfs, List.getElem?_map] at hf
      obtain ⟨fd, hfd, hf⟩ := Option.map_eq_some_iff.1 hf
      simp only [Prod.mk.injEq] at hf
      obtain ⟨h1, h2, h3⟩ := hf
      have hfd' : fields[i]? = some fd := by simpa using hfd
      obtain ⟨ti', hti'⟩ : ∃ ti', P.info? fd.type = some ti' := by
        cases hh : P.info? fd.type with
        | none => rw [hh] at h2; simp at h2; exact absurd h2.symm hsz
        | some x => exact ⟨x, rfl⟩
      rw [hti'] at h2
      simp at h2
      have hz : (sizeOf fd.type).run P w = .ok sz w := by rw [run_sizeOf' hti', h2]
      have hrun : ∀ b o, (Instr.fieldAt t (.pointer (some ⟨b, o, none⟩)) i).run P w = .ok (.pointer (some ⟨b, o + off, none⟩)) w := by
        intro b o
        simp [Instr.fieldAt, run_underlying hd, hfd', Instr.sureAddr, fieldPlace, hz, hsz, h1, addr_add]
      split at h
      · simp only [Option.some.injEq] at h; subst h
        simp only [Rep] at hp; subst hp
        exact ⟨_, hrun _ _, by simp only [Rep], trivial⟩
      · simp only [Option.some.injEq] at h; subst h
        simp only [Rep] at hp; obtain ⟨b, o, rfl, hp⟩ := hp
        exact ⟨_, hrun _ _, by simp only [Rep]; exact ⟨b, o + off, rfl, hp.drop off⟩, trivial⟩
      · cases h
    · cases h
  · cases h

theorem partA_run (hE : EnvOK P E) {t : TypeId} {p x : AV} {u : Value} {i : Nat} (h : partA E t p i = some x) (hp : Rep w φ p u) (ht : TagOK Ω p u) :
    ∃ v, (Instr.field t u i).run P w = .ok v w ∧ Rep w φ x v ∧ TagOK Ω x v := by
  unfold partA at h
  split at h
  · rename_i size agg bytes zero fs hl
    obtain ⟨ti, d, hi, hd, e1, e2, e3, e4, e5⟩ := mkLay_spec (hE t _ hl)
    obtain ⟨fields, rfl, hfs, hall⟩ := mkKind_struct e4
    split at h
    · rename_i off sz ag cs hf
      rw [hfs, List.getElem?_map] at hf
      obtain ⟨fd, hfd, hf⟩ := Option.map_eq_some_iff.1 hf
      simp only [Prod.mk.injEq] at hf
      obtain ⟨h1, h2, h3⟩ := hf
      have hfd' : fields[i]? = some fd := by simpa using hfd
      simp only [Rep] at hp
      obtain ⟨vs, rfl, hp⟩ := hp
      obtain ⟨ti', d', hi', hd'⟩ := hall fd (List.mem_of_getElem? hfd)
      rw [hi'] at h2
      rw [hd'] at h3
      simp only [Option.map_some, Option.getD_some] at h2 h3
      have hz := run_sizeOf' (P := P) hi' w
      rw [h2] at hz
      have hag := run_isAgg (P := P) hd' w
      rw [h3] at hag
      cases ag with
      | true =>
        simp only [if_true, Option.some.injEq] at h
        subst h
        refine ⟨.agg (vs.toArray.extract off (off + sz)), ?_, ?_, ?_⟩
        · simp [Instr.field, run_underlying hd, hfd', asAgg, part, hag, hz, h1]
        · simp only [Rep]
          refine ⟨(vs.drop off).take sz, ?_, (hp.drop off).take sz⟩
          simp [List.extract_toArray, List.take_drop, Nat.add_comm]
        · intro us hus j t' xs hj x hx htg hn
          injection hus with hus
          subst hus
          simp only [List.getElem?_take, List.getElem?_drop] at hj
          split at hj
          · rename_i hlt
            have := ht vs.toArray rfl _ t' xs hj x hx htg hn
            simp only [List.getElem?_toArray] at this ⊢
            simp [List.extract_toArray, List.getElem?_take, List.getElem?_drop, this]
            omega
          · cases hj
      | false =>
        simp only [Bool.false_eq_true, if_false] at h
        split at h
        · rename_i c hc
          split at h
          · rename_i hone
            simp only [Option.some.injEq] at h
            subst h
            obtain ⟨v, hv, hr⟩ := hp.get hc
            refine ⟨v, ?_, hr, ?_⟩
            · simp [Instr.field, run_underlying hd, hfd', asAgg, part, hag, hz, h1, hv]
            · cases c with
              | list t' xs => intro x hx htg hn; have := ht vs.toArray rfl off t' xs hc x hx htg hn; simp only [List.getElem?_toArray] at this; rw [hv] at this; simpa using this
              | agg ds => simp [AV.one] at hone
              | _ => trivial
          · cases h
        · cases h
    · cases h
  · cases h

theorem pickA_run {c x y r : AV} {cv xv yv : Value} (h : (match c with | .bool t => some (if t then x else y) | _ => none) = some r) (hc : Rep w φ c cv) (hx : Rep w φ x xv) (hy : Rep w φ y yv)
    (tx : TagOK Ω x xv) (ty : TagOK Ω y yv) : ∃ b, cv = .bool b ∧ Rep w φ r (if b then xv else yv) ∧ TagOK Ω r (if b then xv else yv) := by
  split at h
  · rename_i t
    simp only [Option.some.injEq] at h; subst h
    simp only [Rep] at hc
    refine ⟨t, hc, ?_⟩
    cases t
    · exact ⟨hy, ty⟩
    · exact ⟨hx, tx⟩
  · cases h

theorem bs_toList (s : List UInt8) : (⟨s.toArray⟩ : ByteArray).toList = s := by rw [Lib.toList_data]
theorem bs_size (s : List UInt8) : (⟨s.toArray⟩ : ByteArray).size = s.length := by simp [ByteArray.size]

theorem intOp_run {op : BinOp} {k : IntKind} {x y : Int} {r : AV} (h : intOp op k x y = some r) (hop : op ≠ .shl ∧ op ≠ .shr) (t : TypeId) (w : World) :
    ∃ v, (binOp op t (.int k x) (.int k y)).run P w = .ok v w ∧ ∀ w φ, Rep w φ r v ∧ TagOK Ω r v := by
  obtain ⟨n1, n2⟩ := hop
  unfold intOp at h
  split at h
  all_goals first | (cases h; done) | skip
  all_goals first
    | (simp only [Option.some.injEq] at h; subst h
       refine ⟨_, by simp [binOp, Op.intArith, Op.intCmp, Op.intBits]; rfl, fun w φ => ⟨by simp [Rep], trivial⟩⟩)
    | (split at h
       · cases h
       · rename_i hy
         simp only [Option.some.injEq] at h; subst h
         refine ⟨_, by simp [binOp, Op.intDiv, hy]; rfl, fun w φ => ⟨by simp [Rep], trivial⟩⟩)

theorem lbeq (x y : List UInt8) : (x == y) = decide (x = y) := by by_cases h : x = y <;> simp [h]
theorem strOp_run {op : BinOp} {x y : List UInt8} {r : AV} (h : strOp op x y = some r) (t : TypeId) (w : World) :
    ∃ v, (binOp op t (.string ⟨x.toArray⟩) (.string ⟨y.toArray⟩)).run P w = .ok v w ∧ ∀ w φ, Rep w φ r v ∧ TagOK Ω r v := by
  unfold strOp at h
  split at h
  all_goals first | (cases h; done) | skip
  all_goals first
    | (simp only [Option.some.injEq] at h; subst h
       refine ⟨_, by simp [binOp, Op.stringOp, bs_toList, lbeq]; rfl, fun w φ => ⟨by simp [Rep], trivial⟩⟩)
    | (split at h
       · rename_i hy
         simp only [Option.some.injEq] at h; subst h
         have hle : ¬ ((x.length : Int) + (y.length : Int) > IntKind.i64.max) := by simp [IntKind.max, IntKind.bits]; omega
         refine ⟨.string ⟨(x ++ y).toArray⟩, ?_, fun w φ => ⟨by simp [Rep], trivial⟩⟩
         have e : (⟨x.toArray⟩ : ByteArray) ++ ⟨y.toArray⟩ = ⟨(x ++ y).toArray⟩ := by
           show ByteArray.append _ _ = _
           simp [ByteArray.append, ByteArray.copySlice]
         simp [binOp, Op.stringOp, bs_size]
         rw [if_neg (by simpa using hle), e]
       · cases h)

end
end Go.Proofs.YtpjkepfplhllfaaDoor.Av
