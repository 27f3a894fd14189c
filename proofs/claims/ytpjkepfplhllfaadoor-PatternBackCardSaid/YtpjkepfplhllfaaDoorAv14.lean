/-
Operations one after the other; calls.
-/
import Derived.Test.YtpjkepfplhllfaaDoorAv13
import Derived.Tactics
namespace Go.Proofs.YtpjkepfplhllfaaDoor.Av
set_option linter.unusedSimpArgs false
set_option linter.unusedVariables false
open Go

def noCellC : AV → AV
  | .list (.cell _ _) xs => .list .none xs
  | c => c
def noCellV : AV → AV
  | .list (.cell _ _) xs => .list .none xs
  | .agg cs => .agg (cs.map noCellC)
  | a => a
def noCellS : List (Nat × AV) → List (Nat × AV)
  | [] => []
  | (k, v) :: l => (k, noCellV v) :: noCellS l
def noCellT : List (Tag × (Nat × Nat)) → List (Tag × (Nat × Nat))
  | [] => []
  | (.slot k, n) :: l => (.slot k, n) :: noCellT l
  | _ :: l => noCellT l
def noCells (f : Fm) : Fm := { f with sl := noCellS f.sl, ow := noCellT f.ow }

def St.empty : St := ⟨[], []⟩
def St.add (s t : St) : St := ⟨s.box ++ t.box, s.map ++ t.map⟩
def Fresh (b : Nat) (σ : St) : Prop := b ∉ σ.box.map (·.1) ∧ b ∉ σ.map.map (·.1)

section
variable (P : Program) (E : Env)

def CallPure (fn : FuncId) (args : List AV) (K : AV → Prop) : Prop := ACall P E fn args .empty fun r σ' => σ' = .empty ∧ K (es r)
def CallW (fn : FuncId) (args : List AV) (f : Fm) (σ : St) (K : Fm → St → AV → Prop) : Prop :=
  ∃ σ1 σ2 : St, σ.box.Perm (σ1.box ++ σ2.box) ∧ σ.map.Perm (σ1.map ++ σ2.map) ∧ ACall P E fn args σ1 fun r σ1' => K (noCells f) (σ2.add σ1') (es r)
/-- A call of yield. -/
def CallY (l : Nat) (args : List AV) (f : Fm) (σ : St) (K : Fm → St → AV → Prop) : Prop :=
  ∃ σ1 σ2 : St, σ.box.Perm (σ1.box ++ σ2.box) ∧ σ.map.Perm (σ1.map ++ σ2.map) ∧ YCall P E l args σ1 fun r σ1' => K (noCells f) (σ2.add σ1') (es r)

/-- A lay that elements of slices may have. -/
def Lay.elemOK (l : Lay) : Prop := isAny l.zero = false ∧ l.zero.cells.length = l.size ∧ l.zero.cells.all AV.one = true ∧ 0 < l.size
instance (l : Lay) : Decidable l.elemOK := by unfold Lay.elemOK; infer_instance
def storeW (f : Fm) (σ : St) (t : TypeId) (p x : AV) (K : Fm → St → Prop) : Prop :=
  match p, E.lay t with
  | .ptr b o, some l =>
    match getB σ.box b with
    | some cs =>
      match x with
      | .list (.cell b' o') xs =>
        if b' = b ∧ o' = o then
          match getO f.ow (.cell b o) xs with
          | some sz => l.size = 1 ∧ o < cs.length ∧ K { f with ow := delT f.ow (.cell b o) } { σ with box := setB σ.box b (cs.set o (.grow sz xs)) }
          | none => False
        else False
      | x => x.cells.all AV.one = true ∧ x.cells.length = l.size ∧ o + x.cells.length ≤ cs.length ∧
          K (giveF f b o x.cells) { σ with box := setB σ.box b (cs.take o ++ giveB f b o x.cells ++ cs.drop (o + x.cells.length)) }
    | none => False
  | _, _ => False
def rowsOf : AV → Option (List (List AV))
  | .list _ ys => some ys
  | .nils => some []
  | _ => none
def appendW (f : Fm) (σ : St) (dst : Option Nat) (t : TypeId) (s x : AV) (K : Fm → St → AV → Prop) : Prop :=
  match E.lay t with
  | some { kind := .slice e, .. } =>
    match E.lay e, rowsOf x with
    | some le, some ys =>
      match ys with
      | [] => match s with
        | .nils => K f σ .nils
        | .list tg xs => K f σ (.list tg xs)
        | _ => False
      | y :: ys' =>
        le.elemOK ∧ (∀ z ∈ y :: ys', z.length = le.size) ∧ (y :: ys').flatten.all AV.one = true ∧
        match s with
        | .full xs => match dst with
          | some d => (∀ z ∈ xs, z.length = le.size) ∧ (xs.length + (y :: ys').length) * (le.bytes + 1) ≤ 140737488351232 ∧
              K { f with sl := untagS (.slot d) f.sl, ow := (.slot d, (xs.length + (y :: ys').length, le.size)) :: delT f.ow (.slot d) } σ (.list (.slot d) (xs.map (fun z => z.map er) ++ (y :: ys').map fun z => z.map er))
          | none => False
        | .nils => match dst with
          | some d => (y :: ys').length * (le.bytes + 1) ≤ 140737488351232 ∧
              K { f with sl := untagS (.slot d) f.sl, ow := (.slot d, ((y :: ys').length, le.size)) :: delT f.ow (.slot d) } σ (.list (.slot d) ((y :: ys').map fun z => z.map er))
          | none => False
        | .list tg xs => tg ≠ .none ∧ ownLen f σ tg = some (xs.length, le.size) ∧ (∀ z ∈ xs, z.length = le.size) ∧ (xs.length + (y :: ys').length) * (le.bytes + 1) ≤ 140737488351232 ∧
            K { f with sl := untagS tg f.sl, ow := (tg, (xs.length + (y :: ys').length, le.size)) :: delT f.ow tg } (ungrow σ tg) (.list tg (xs ++ (y :: ys').map fun z => z.map er))
        | _ => False
    | _, _ => False
  | _ => False

/-- A guard. -/
def wif (b want : Bool) (p q : Prop) : Prop := if b = want then p else q
theorem iteW {b want : Bool} {p q : Prop} : wif b want p q ↔ (b = want → p) ∧ (¬ b = want → q) := by
  unfold wif
  by_cases h : b = want <;> simp [h]
@[congr] theorem wif_congr {b b' want : Bool} {p q : Prop} (h : b = b') : wif b want p q = wif b' want p q := by rw [h]
@[simp] theorem wif_tt (p q : Prop) : wif true true p q = p := by simp [wif]
@[simp] theorem wif_ff (p q : Prop) : wif false false p q = p := by simp [wif]
@[simp] theorem wif_tf (p q : Prop) : wif true false p q = q := by simp [wif]
@[simp] theorem wif_ft (p q : Prop) : wif false true p q = q := by simp [wif]
/-- Both ways of a guard. -/
theorem wif_cases {b want : Bool} {p q : Prop} (h1 : b = true → wif true want p q) (h2 : b = false → wif false want p q) : wif b want p q := by
  cases b
  · exact h2 rfl
  · exact h1 rfl

/-- An operation with an effect. -/
def Eff (f : Fm) (σ : St) (o : Oper) (K : Fm → St → AV → Prop) : Prop :=
  match o.op with
  | .alloc t => match E.lay t with
    | some l => l.zero.cells.all AV.one = true ∧ isAny l.zero = false ∧ ∀ b, Fresh b σ → K f { σ with box := (b, l.zero.cells.map plainC) :: σ.box } (.ptr b 0)
    | none => False
  | .box _ x => (evX E f x).cells.all AV.one = true ∧ ∀ b, Fresh b σ →
      K (if gives f.ow (evX E f x).cells then { f with sl := untagCells b 0 (evX E f x).cells.length f.sl, ow := (giveC f.ow (evX E f x).cells).2 } else f)
        { σ with box := (b, if gives f.ow (evX E f x).cells then (giveC f.ow (evX E f x).cells).1 else (evX E f x).cells.map plainC) :: σ.box } (.ptr b 0)
  | .store t p x => storeW E f σ t (evX E f p) (evX E f x) fun f σ => K f σ .any
  | .buildSlice t len ps => match o.dst, E.lay t with
    | some d, some { kind := .slice e, .. } => match E.lay e with
      | some le => le.elemOK ∧ ps.toList.length = len ∧ len * le.size ≤ 16777216 ∧
          match seqA le.size 0 (ps.toList.map fun p => (p.1, evX E f p.2)) with
          | some rows => K { f with sl := untagS (.slot d) f.sl, ow := (.slot d, (len, le.size)) :: delT f.ow (.slot d) } σ (.list (.slot d) (rows.map fun y => y.map er)) ∨ K f σ (.full (rows.map fun y => y.map er))
          | none => False
      | none => False
    | _, _ => False
  | .makeMap _ none => ∀ b, Fresh b σ → K f { σ with map := (b, .mp []) :: σ.map } (.map b)
  | .mapUpdate t m k v => match evX E f m, E.lay t with
    | .map b, some { kind := .map kt _, .. } => match E.lay kt, getM σ.map b with
      | some lk, some es => keyLK (evX E f k) lk.kind = true ∧ match putA (evX E f k) (ers (evX E f v)) es with
        | some r => K f { σ with map := setB σ.map b (.mp r) } .any
        | none => False
      | _, _ => False
    | _, _ => False
  | .insert t m k v => match evX E f m, E.lay t with
    | .map b, some { kind := .map kt _, .. } => match E.lay kt, getM σ.map b with
      | some lk, some es => keyLK (evX E f k) lk.kind = true ∧ match putA (evX E f k) (ers (evX E f v)) es with
        | some r => K f { σ with map := setB σ.map b (.mp r) } .any
        | none => False
      | _, _ => False
    | _, _ => False
  | .call c => match c.callee with
    | .builtin .append => match c.args.toList, c.argTypes.toList with
      | [s, x], [t, t'] => t = t' ∧ appendW E f σ o.dst t (evX E f s) (unfull (evX E f x)) K
      | _, _ => False
    | .builtin .delete => match c.args.toList, c.argTypes.toList with
      | [m, k], [t, t'] => match evX E f m, E.lay t with
        | .map b, some { kind := .map kt _, .. } => match E.lay kt, getM σ.map b with
          | some lk, some es => keyLK (evX E f k) lk.kind = true ∧ match dropA (evX E f k) es with
            | some r => K f { σ with map := setB σ.map b (.mp r) } (.tup [])
            | none => False
          | _, _ => False
        | _, _ => False
      | _, _ => False
    | .value x => match evX E f x with
      | .func fn caps => CallPure P E fn ((c.args.toList.map fun y => ers (evX E f y)) ++ caps) (fun r => K f σ r) ∨ CallW P E fn ((c.args.toList.map fun y => ers (evX E f y)) ++ caps) f σ K
      | .val (.func (.yield l) ⟨[]⟩ ⟨[]⟩) => CallY P E l (c.args.toList.map fun y => ers (evX E f y)) f σ K
      | _ => False
    | _ => False
  | _ => False

/-- One operation. -/
def One (f : Fm) (σ : St) (o : Oper) (K : Fm → St → Prop) : Prop :=
  match evF E f σ o.op with
  | some x => K (f.put o.dst x) σ
  | none => Eff P E f σ o fun f' σ' x => K (f'.put o.dst x) σ'

/-- What an operation yields that leaves all else as it was. -/
def evP (f : Fm) (σ : St) (o : Oper) : Option AV :=
  match evF E f σ o.op with
  | some x => some x
  | none => match o.op with
    | .buildSlice t len ps => match E.lay t with
      | some { kind := .slice e, .. } => match E.lay e with
        | some le => if le.elemOK ∧ ps.toList.length = len ∧ len * le.size ≤ 16777216 then (seqA le.size 0 (ps.toList.map fun p => (p.1, evX E f p.2))).map fun rows => .full (rows.map fun y => y.map er) else none
        | none => none
      | _ => none
    | _ => none
/-- A value may be looked at as less. -/
def Weak (x z : AV) : Prop := x = z ∨ ((∃ β, z = .bool β) ∨ ∃ xs, z = .list .none xs) ∧ ∀ w φ v, Rep w φ x v → Rep w φ z v
def QW (f : Fm) (σ : St) (o : Op) (z : AV) : Prop := ∃ x, evF E f σ o = some x ∧ Weak x z
def QP (f : Fm) (σ : St) (o : Oper) (z : AV) : Prop := ∃ x, evP E f σ o = some x ∧ Weak x z
/-- Does the guard let it run? -/
def guardB (want : Bool) : AV → Option Bool
  | .bool b => some (b == want)
  | .when g (.bool b) => some (g && (b == want))
  | _ => none
/-- An operation under a condition. -/
def OneG (f : Fm) (σ : St) (o : Oper) (b : Bool) (K : Fm → St → Prop) : Prop :=
  (∃ z, (b = true → QP E f σ o z) ∧ K (f.put o.dst (.when b (es z))) σ) ∨
  (∃ z : AV, (b = true → ∃ c x fn caps, o.op = .call c ∧ c.callee = .value x ∧ evX E f x = .func fn caps ∧ ACall P E fn ((c.args.toList.map fun y => ers (evX E f y)) ++ caps) .empty fun r σ' => σ' = .empty ∧ r = z) ∧ K (f.put o.dst (.when b (es z))) σ)
/-- Operations in their order. -/
def W (ops : Array Oper) : List Oper → Fm → St → (Fm → St → Prop) → Prop
  | [], f, σ, K => K f σ
  | o :: rest, f, σ, K =>
    match o.guard with
    | none => One P E f σ o (fun f' σ' => W ops rest f' σ' K) ∨ ∃ z, QW E f σ o.op z ∧ W ops rest (f.put o.dst z) σ K
    | some (j, want) =>
      match (ops[j]?).bind (·.dst) with
      | some d => match guardB want (getA f.sl d) with
        | some b => wif b true (One P E f σ o (fun f' σ' => W ops rest f' σ' K)) (W ops rest (f.put o.dst .any) σ K) ∨ OneG P E f σ o b (fun f' σ' => W ops rest f' σ' K)
        | none => False
      | none => False

/-- The temporaries that are written are there. -/
def dstsOK (nt : Nat) (ops : List Oper) : Bool := ops.all fun o => match o.dst with | some d => decide (d < nt) | none => true
end

section
variable {P : Program} {w : World} {φ : Nat → Nat} {E : Env} {f : Fm} {σ : St} {a : Act} {Ω : List Own} {g : Gh}

theorem SR.fresh_size (h : SR E g f σ a w φ Ω) : Fresh w.heap.size σ := by
  refine ⟨fun hm => ?_, fun hm => ?_⟩
  · have := owned_lt h.ss (b := w.heap.size) (by simp only [owned, List.mem_append]; exact .inl (.inl hm)); omega
  · have := owned_lt h.ss (b := w.heap.size) (by simp only [owned, List.mem_append]; exact .inl (.inr hm)); omega

theorem evXs_rep (hs : SS E w φ Ω σ) (hf : FS w φ Ω f a) : ∀ l : List Operand, RepL w φ (l.map fun x => ers (evX E f x)) (l.map a.eval)
  | [] => RepL.nil
  | x :: l => RepL.cons (evX_rep hs hf x).1.ers (evXs_rep hs hf l)

/-- What an operation with an effect leaves. -/
def Leaves (E : Env) (g : Gh) (a : Act) (dst : Option Nat) (nt : Nat) (K : Fm → St → AV → Prop) (v : Value) (w' : World) : Prop :=
  ∃ f' σ' x φ' Ω', K f' σ' x ∧ f'.nt = nt ∧ SR E g f' σ' a w' φ' Ω' ∧ Rep w' φ' x v ∧ TagOK Ω' x v

theorem giveF_nt (f : Fm) (b o : Nat) (ds : List AV) : (giveF f b o ds).nt = f.nt := by unfold giveF; split <;> rfl

theorem storeW_run (hE : EnvOK P E) (h : SR E g f σ a w φ Ω) {t : TypeId} {p x : AV} {pv xv : Value} {K : Fm → St → Prop} (hk : storeW E f σ t p x K) (hp : Rep w φ p pv) (hx : Rep w φ x xv) (ht : TagOK Ω x xv) :
    ∃ w' f' σ' Ω', (Instr.storeAt t pv xv).run P w = .ok () w' ∧ K f' σ' ∧ f'.nt = f.nt ∧ SR E g f' σ' a w' φ Ω' := by
  unfold storeW at hk
  split at hk
  · rename_i b o l hl
    simp only [Rep] at hp
    subst hp
    split at hk
    · rename_i cs hb
      split at hk
      · rename_i b' o' xs
        split at hk
        · rename_i hbo
          obtain ⟨rfl, rfl⟩ := hbo
          split at hk
          · rename_i sz hsz
            obtain ⟨k1, k2, k3⟩ := hk
            obtain ⟨w', Ω', r1, r2⟩ := h.storeBack hE hl hb hx ht k1 k2 hsz
            exact ⟨w', _, _, Ω', r1, k3, rfl, r2⟩
          · exact hk.elim
        · exact hk.elim
      · obtain ⟨k1, k2, k3, k4⟩ := hk
        obtain ⟨w', Ω', r1, r2⟩ := h.store hE hl hb hx ht k1 k2 k3
        exact ⟨w', _, _, Ω', r1, k4, giveF_nt _ _ _ _, r2⟩
    · exact hk.elim
  · exact hk.elim

theorem appendW_run (hE : EnvOK P E) (h : SR E g f σ a w φ Ω) {dst : Option Nat} {t ty : TypeId} {s x : AV} {sv xv : Value} {K : Fm → St → AV → Prop} (hk : appendW E f σ dst t s x K) (hs : Rep w φ s sv) (hts : TagOK Ω s sv) (hx : Rep w φ x xv) :
    ∃ v w', (Builtin.append_ #[t, t] ty #[sv, xv]).run P w = .ok v w' ∧ Leaves E g a dst f.nt K v w' := by
  unfold appendW at hk
  split at hk
  · rename_i size agg bytes zero e hl
    split at hk
    · rename_i le ys hle hys
      obtain ⟨ti, d, hti, hd, _, _, _, e4, _⟩ := mkLay_spec (hE t _ hl)
      have := mkKind_slice e4
      subst this
      obtain ⟨te, de, hte, hde, _⟩ := mkLay_spec (hE e le hle)
      split at hk
      · -- nothing
        have hxz : ∃ B c', xv = .slice B 0 c' := by
          cases x <;> simp only [rowsOf, Option.some.injEq, reduceCtorEq] at hys
          · subst hys
            simp only [Rep] at hx
            obtain ⟨A, n, c, rfl, h1, _⟩ := hx
            simp only [List.length_nil] at h1
            subst h1
            exact ⟨_, _, rfl⟩
          · simp only [Rep] at hx; exact ⟨_, _, hx⟩
        obtain ⟨B, c', rfl⟩ := hxz
        split at hk
        · simp only [Rep] at hs; subst hs
          exact ⟨_, w, append_zero hd hte none 0 0 B c' (Nat.le_refl _) w, f, σ, _, φ, Ω, hk, rfl, h, by simp only [Rep], trivial⟩
        · have hs0 := hs
          simp only [Rep] at hs
          obtain ⟨A, n, c, rfl, h1, h2, _⟩ := hs
          exact ⟨_, w, append_zero hd hte A n c B c' h2 w, f, σ, _, φ, Ω, hk, rfl, h, hs0, hts⟩
        · exact hk.elim
      · rename_i y ys'
        obtain ⟨⟨z1, z2, z3, z4⟩, c1, c2, hk⟩ := hk
        have hxl : ∃ tgy, Rep w φ (.list tgy (y :: ys')) xv := by
          cases x <;> simp only [rowsOf, Option.some.injEq, reduceCtorEq] at hys
          subst hys
          exact ⟨_, hx⟩
        obtain ⟨tgy, hx'⟩ := hxl
        split at hk
        · rename_i xs'
          split at hk
          · rename_i d
            obtain ⟨m1, m2, k1⟩ := hk
            obtain ⟨v', w', φ', Ω', r1, r2, r3, r4⟩ := h.appendFull (ty := ty) (d := d) hE hl rfl hle z1 z2 z3 z4 hs m1 hx' c1 c2 (by simp) m2
            exact ⟨v', w', r1, _, _, _, φ', Ω', k1, rfl, r4, r2, r3⟩
          · exact hk.elim
        · split at hk
          · rename_i d
            obtain ⟨m1, k1⟩ := hk
            simp only [Rep] at hs; subst hs
            obtain ⟨v', w', φ', Ω', r1, r2, r3, r4⟩ := h.appendNil (ty := ty) (d := d) hE hl rfl hle z1 z2 z3 z4 hx' c1 c2 (by simp) m1
            exact ⟨v', w', r1, _, _, _, φ', Ω', k1, rfl, r4, r2, r3⟩
          · exact hk.elim
        · obtain ⟨m1, m2, m3, m4, k1⟩ := hk
          obtain ⟨v', w', φ', Ω', r1, r2, r3, r4⟩ := h.append (ty := ty) hE hl rfl hle z1 z2 z3 z4 hs m1 m2 hts m3 hx' c1 c2 (by simp) m4
          exact ⟨v', w', r1, _, _, _, φ', Ω', k1, rfl, r4, r2, r3⟩
        · exact hk.elim
    · exact hk.elim
  · exact hk.elim
end
end Go.Proofs.YtpjkepfplhllfaaDoor.Av
