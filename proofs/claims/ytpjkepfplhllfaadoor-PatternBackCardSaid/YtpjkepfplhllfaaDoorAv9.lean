/-
Boxes: arrays that go over from a slot to a box.
-/
import Derived.Test.YtpjkepfplhllfaaDoorAv8
namespace Go.Proofs.YtpjkepfplhllfaaDoor.Av
set_option linter.unusedSimpArgs false
set_option linter.unusedVariables false
open Go
section
variable {P : Program} {w : World} {φ : Nat → Nat} {E : Env} {f : Fm} {σ : St} {a : Act} {Ω : List Own} {g : Gh}

def NoTag (t : Tag) (x : AV) : Prop := (∀ xs, x ≠ .list t xs) ∧ ∀ cs, x = .agg cs → ∀ xs, AV.list t xs ∉ cs

theorem getA_untag (t : Tag) : ∀ (l : List (Nat × AV)) (s : Nat), getA (untagS t l) s = untagV t (getA l s)
  | [], _ => rfl
  | (k, v) :: l, s => by simp only [untagS, getA]; split <;> simp [getA_untag t l s]
theorem Rep.untag {x : AV} {v : Value} (t : Tag) (h : Rep w φ x v) : Rep w φ (untagV t x) v := by
  cases x with
  | list t' xs => simp only [untagV]; split <;> (simp only [Rep] at h ⊢; exact h)
  | agg cs =>
    simp only [untagV, Rep] at h ⊢
    obtain ⟨vs, rfl, h⟩ := h
    refine ⟨vs, rfl, h.map_of fun x v hx => ?_⟩
    split
    · split <;> (simp only [Rep] at hx ⊢; exact hx)
    · exact hx
  | _ => exact h
theorem TagOK.untag {x : AV} {v : Value} (t : Tag) (hΩ : ∀ x ∈ Ω, x.tag ≠ .none) (h : TagOK Ω x v) : TagOK Ω (untagV t x) v := by
  cases x with
  | list t' xs => simp only [untagV]; split; exact TagOK.none hΩ; exact h
  | agg cs =>
    intro vs hv i t' xs hi x hx ht hn
    simp only [List.getElem?_map, Option.map_eq_some_iff] at hi
    obtain ⟨c, hc, he⟩ := hi
    split at he
    · split at he
      · simp only [AV.list.injEq] at he
        obtain ⟨rfl, rfl⟩ := he
        exact absurd ht (hΩ x hx)
      · simp only [AV.list.injEq] at he
        obtain ⟨rfl, rfl⟩ := he
        exact h vs hv i _ _ hc x hx ht hn
    · subst he
      exact h vs hv i _ _ hc x hx ht hn
  | _ => trivial
theorem SR.untag (t : Tag) (h : SR E g f σ a w φ Ω) : SR E g { f with sl := untagS t f.sl } σ a w φ Ω :=
  ⟨h.ss, ⟨h.fs.size, h.fs.defers, fun s => by simp only; rw [getA_untag]; exact (h.fs.rep s).untag t, fun s => by simp only; rw [getA_untag]; exact (h.fs.tag s).untag t fun x hx => (h.ss.own x hx).tag, h.fs.ow⟩, h.since, h.mine⟩
theorem NoTag.self {t : Tag} (ht : t ≠ .none) (x : AV) : NoTag t (untagV t x) := by
  cases x with
  | list t' xs =>
    simp only [untagV]
    refine ⟨fun ys he => ?_, fun cs he => ?_⟩
    · split at he <;> rename_i hh <;> simp only [AV.list.injEq] at he
      · exact ht he.1.symm
      · exact hh he.1
    · split at he <;> cases he
  | agg cs =>
    refine ⟨fun ys he => (by cases he), fun ds he xs hm => ?_⟩
    simp only [untagV, AV.agg.injEq] at he
    subst he
    obtain ⟨c, _, hc⟩ := List.mem_map.1 hm
    split at hc
    · split at hc <;> rename_i hh <;> simp only [AV.list.injEq] at hc
      · exact ht hc.1.symm
      · exact hh hc.1
    · rename_i hne
      exact hne t xs hc
  | _ => exact ⟨fun ys he => (by cases he), fun ds he => (by cases he)⟩
theorem NoTag.untag {t t' : Tag} (ht : t ≠ .none) {x : AV} (h : NoTag t x) : NoTag t (untagV t' x) := by
  cases x with
  | list s xs =>
    simp only [untagV]
    refine ⟨fun ys he => ?_, fun cs he => ?_⟩
    · split at he <;> simp only [AV.list.injEq] at he
      · exact ht he.1.symm
      · exact h.1 xs (by rw [he.1])
    · split at he <;> cases he
  | agg cs =>
    refine ⟨fun ys he => (by cases he), fun ds he xs hm => ?_⟩
    simp only [untagV, AV.agg.injEq] at he
    subst he
    obtain ⟨c, hcm, hc⟩ := List.mem_map.1 hm
    split at hc
    · split at hc <;> simp only [AV.list.injEq] at hc
      · exact ht hc.1.symm
      · exact h.2 cs rfl _ (by rw [← hc.1]; exact hcm)
    · subst hc; exact h.2 cs rfl xs hcm
  | _ => exact h
theorem SR.untagCells (b o : Nat) : ∀ (n : Nat) {f : Fm}, SR E g f σ a w φ Ω → SR E g { f with sl := untagCells b o n f.sl } σ a w φ Ω
  | 0, _, h => h
  | n + 1, _, h => SR.untagCells b o n (h.untag (.cell b (o + n)))
theorem NoTag.cells_keep (b o : Nat) {t : Tag} (ht : t ≠ .none) : ∀ (n : Nat) {l : List (Nat × AV)} (s : Nat), NoTag t (getA l s) → NoTag t (getA (Av.untagCells b o n l) s)
  | 0, _, _, h => h
  | n + 1, _, s, h => NoTag.cells_keep b o ht n s (by rw [getA_untag]; exact h.untag ht)
theorem NoTag.cells (b o : Nat) : ∀ (n : Nat) (l : List (Nat × AV)) (s i : Nat), i < n → NoTag (.cell b (o + i)) (getA (Av.untagCells b o n l) s)
  | 0, _, _, _, h => by omega
  | n + 1, l, s, i, h => by
    by_cases e : i = n
    · subst e
      exact NoTag.cells_keep b o (by simp) i s (by rw [getA_untag]; exact NoTag.self (by simp) _)
    · exact NoTag.cells b o n _ s i (by omega)

theorem getB_set {α : Type} : ∀ (l : List (Nat × α)) (b b' : Nat) (x : α), getB (setB l b x) b' = if b = b' then (getB l b).map (fun _ => x) else getB l b'
  | [], b, b', x => by simp [setB, getB]
  | (k, v) :: l, b, b', x => by
    simp only [setB]
    split
    · rename_i e; subst e
      simp only [getB]
      split <;> simp
    · rename_i e
      simp only [getB]
      split
      · rename_i e'; subst e'; rw [if_neg (fun h => e h.symm)]
      · rename_i e'
        rw [getB_set l b b' x]; try simp [e]
theorem setB_setB {α : Type} : ∀ (l : List (Nat × α)) (b : Nat) (x y : α), setB (setB l b x) b y = setB l b y
  | [], _, _, _ => rfl
  | (k, v) :: l, b, x, y => by
    simp only [setB]
    split
    · rename_i e; simp [setB, e]
    · rename_i e; simp [setB, e, setB_setB l b x y]
theorem setB_same {α : Type} : ∀ (l : List (Nat × α)) (b : Nat) (x : α), getB l b = some x → setB l b x = l
  | [], _, _, _ => rfl
  | (k, v) :: l, b, x, h => by
    simp only [getB] at h
    simp only [setB]
    split at h
    · rename_i e; simp only [Option.some.injEq] at h; simp [e, h]
    · rename_i e; simp [e, setB_same l b x h]

/-- An array goes over to a box's cell. -/
theorem SR.promote (h : SR E g f σ a w φ Ω) {b i k : Nat} {cs : List AV} {xs : List (List AV)} {x : Own} (hb : getB σ.box b = some cs) (hi : cs[i]? = some (.list .none xs)) (hx : x ∈ Ω) (ht : x.tag = .slot k)
    (hn : x.n = xs.length) (hcell : w.cell? ⟨b, i, none⟩ = some x.v) (hno : ∀ y ∈ Ω, y.tag ≠ .cell b i) (hsl : ∀ s, NoTag (.cell b i) (getA f.sl s)) :
    SR E g { f with ow := delT f.ow (.slot k) } { σ with box := setB σ.box b (cs.set i (.grow x.sz xs)) } a w φ (Ω.map fun y => if y.tag = .slot k then { y with tag := .cell b i } else y) := by
  have hbo : ∀ y : Own, (if y.tag = .slot k then { y with tag := .cell b i } else y).v = y.v := fun y => by split <;> rfl
  have hfm : (Ω.map fun y => if y.tag = .slot k then { y with tag := .cell b i } else y).filterMap (fun z => z.v.ownBlock) = Ω.filterMap (fun z => z.v.ownBlock) := by
    rw [List.filterMap_map]; congr 1; funext y; simp only [Function.comp]; rw [hbo]
  have how : owned (Ω.map fun y => if y.tag = .slot k then { y with tag := .cell b i } else y) { σ with box := setB σ.box b (cs.set i (.grow x.sz xs)) } = owned Ω σ := by
    simp only [owned, setB_keys]; rw [hfm]
  have hnd := h.ss.nodup
  have hnb : (σ.box.map (·.1)).Nodup := nodup_app_left (nodup_app_left hnd)
  have key : ∀ y ∈ Ω, ∀ t, y.tag = t → t ≠ .slot k → y ∈ Ω.map fun y => if y.tag = .slot k then { y with tag := .cell b i } else y :=
    fun y hy t hyt hne => List.mem_map.2 ⟨y, hy, by rw [if_neg (by rw [hyt]; exact hne)]⟩
  have tago : ∀ v u, NoTag (.cell b i) v → TagOK Ω v u → TagOK (Ω.map fun y => if y.tag = .slot k then { y with tag := .cell b i } else y) v u := by
    intro v u hnt hto
    cases v with
    | list t ys =>
      intro y hy hyt hyn
      obtain ⟨z, hz, rfl⟩ := List.mem_map.1 hy
      split at hyt
      · exact absurd rfl (fun e : AV.list t ys = AV.list t ys => hnt.1 ys (by rw [← hyt]))
      · rename_i hzk; rw [if_neg hzk] at hyn ⊢; exact hto z hz hyt hyn
    | agg es =>
      intro vs hvs j t ys hj y hy hyt hyn
      obtain ⟨z, hz, rfl⟩ := List.mem_map.1 hy
      split at hyt
      · exact absurd (List.mem_of_getElem? hj) (by rw [← hyt]; exact hnt.2 es rfl ys)
      · rename_i hzk; rw [if_neg hzk] at hyn ⊢; exact hto vs hvs j t ys hj z hz hyt hyn
    | _ => trivial
  refine ⟨⟨fun b' es hm => ?_, h.ss.map, fun y hy => ?_, ?_, by rw [how]; exact hnd, h.ss.glob, h.ss.fits⟩, ⟨h.fs.size, h.fs.defers, h.fs.rep, fun s => tago _ _ (hsl s) (h.fs.tag s), fun t n htn => ?_⟩, h.since, fun b' hb' => h.mine b' (by rw [how] at hb'; exact hb')⟩
  · rcases mem_setB hnb hm with ⟨rfl, rfl⟩ | ⟨hk, hm⟩
    · obtain ⟨⟨c, T, k1, k2, k3⟩, k4, k5⟩ := box_get h.ss hb
      have hci : c[i]? = some x.v := by simpa [World.cell?, k1] using hcell
      refine ⟨⟨c, T, k1, ?_, fun j sz ys hj => ?_⟩, k4, ?_⟩
      · obtain ⟨u, hu, hru⟩ := k2.get hi
        have e : u = x.v := by have : c.toList[i]? = some x.v := by simpa using hci
                               rw [hu] at this; simpa using this
        have hset := RepL.set (i := i) k2 (c := .grow x.sz xs) (v := u) (by simp only [Rep] at hru ⊢; exact hru)
        have : c.toList.set i u = c.toList := by
          apply List.ext_getElem?
          intro j
          rw [List.getElem?_set]
          split
          · rename_i hij; subst hij; split
            · exact hu.symm
            · rename_i hlt; rw [List.getElem?_eq_none (by omega)] at hu; cases hu
          · rfl
        rwa [this] at hset
      · rw [List.getElem?_set] at hj
        split at hj
        · rename_i hij
          subst hij
          split at hj
          · simp only [Option.some.injEq, AV.grow.injEq] at hj
            obtain ⟨rfl, rfl⟩ := hj
            exact ⟨{ x with tag := .cell b' i }, List.mem_map.2 ⟨x, hx, by rw [if_pos ht]⟩, rfl, by simp [hn], hci⟩
          · cases hj
        · obtain ⟨y, hy, e1, e2, e3⟩ := k3 j sz ys hj
          exact ⟨y, key y hy _ e1 (by simp), e1, e2, e3⟩
      · simp only [List.all_eq_true] at k5 ⊢
        intro z hz
        rcases List.mem_or_eq_of_mem_set hz with hz | rfl
        · exact k5 z hz
        · rfl
    · obtain ⟨⟨c, T, k1, k2, k3⟩, k4, k5⟩ := h.ss.box b' es hm
      refine ⟨⟨c, T, k1, k2, fun j sz ys hj => ?_⟩, k4, k5⟩
      obtain ⟨y, hy, e1, e2, e3⟩ := k3 j sz ys hj
      exact ⟨y, key y hy _ e1 (by simp), e1, e2, e3⟩
  · obtain ⟨z, hz, rfl⟩ := List.mem_map.1 hy
    have := h.ss.own z hz
    split
    · exact ⟨by simp, this.row, this.pos, this.front, fun b' o' e => by
        injection e with e1 e2
        subst e1
        obtain ⟨⟨c, T, k1, _⟩, _⟩ := box_get h.ss hb
        exact (Array.getElem?_eq_some_iff.1 k1).1⟩
    · exact this
  · have htn := h.ss.tags
    rw [List.map_map]
    have : ∀ (l : List Own), (∀ y ∈ l, y ∈ Ω) → (l.map (·.tag)).Nodup → (l.map ((fun y => y.tag) ∘ fun y => if y.tag = .slot k then { y with tag := .cell b i } else y)).Nodup := by
      intro l
      induction l with
      | nil => intro _ _; simp
      | cons y l ih =>
        intro hl hnd
        simp only [List.map_cons, List.nodup_cons] at hnd ⊢
        refine ⟨fun hm => ?_, ih (fun z hz => hl z (List.mem_cons_of_mem _ hz)) hnd.2⟩
        obtain ⟨z, hz, he⟩ := List.mem_map.1 hm
        simp only [Function.comp] at he
        have h1 := hno y (hl y List.mem_cons_self)
        have h2 := hno z (hl z (List.mem_cons_of_mem _ hz))
        have : z.tag = y.tag := by
          split at he <;> split at he
          · rename_i e1 e2; rw [e1, e2]
          · exact absurd he.symm h1
          · exact absurd he h2
          · exact he
        exact hnd.1 (List.mem_map.2 ⟨z, hz, this⟩)
    exact this Ω (fun y hy => hy) htn
  · rw [getT_del] at htn
    split at htn
    · cases htn
    · rename_i hne
      obtain ⟨y, hy, e1, e2⟩ := h.fs.ow t n htn
      exact ⟨y, key y hy t e1 (fun e => hne e.symm), e1, e2⟩
end
end Go.Proofs.YtpjkepfplhllfaaDoor.Av
