/-
Loops and recursion as functions, two ways to answer; a range over a list of nodes; boxes that stay as they are.
-/
import Derived.Test.YtpjkepfplhllfaaDoorAv25
namespace Go.Proofs.YtpjkepfplhllfaaDoor.Av
set_option linter.unusedSimpArgs false
set_option linter.unusedVariables false
open Go

/-- How loops answer: as far as they end, or as far as the fuel goes. -/
class Fx where
  fx : {V R : Type} → (V → Option (V ⊕ R)) → V → Option R
  ok : ∀ {V R : Type} {step : V → Option (V ⊕ R)} {v : V} {r : R}, fx step v = some r → fixL step v = some r
theorem fixN_ok {V R : Type} {step : V → Option (V ⊕ R)} {r : R} (n : Nat) {v : V} (h : fixN step n v = some r) : fixL step v = some r := fixL_iff.2 ⟨n, h⟩
@[reducible] noncomputable def Fx.least : Fx := ⟨fixL, id⟩
@[reducible] def Fx.fuel (n : Nat) : Fx := ⟨fun step v => fixN step n v, fixN_ok n⟩
/-- Recursion: as deep as a number tells. -/
def itr {A R : Type} (G : (A → Option R) → A → Option R) : Nat → A → Option R
  | 0, _ => none
  | n + 1, a => G (itr G n) a
theorem itr_ind {A R : Type} {G : (A → Option R) → A → Option R} {C : A → R → Prop} (h : ∀ self : A → Option R, (∀ {a r}, self a = some r → C a r) → ∀ {a r}, G self a = some r → C a r) :
    ∀ (n : Nat) {a : A} {r : R}, itr G n a = some r → C a r
  | 0, _, _, e => by cases e
  | n + 1, _, _, e => h (itr G n) (fun {a r} e => itr_ind h n e) e
/-- Over a list: on with what is held, or out. -/
def forL {T V R : Type} (step : V → T → Option (V ⊕ R)) : V → List T → Option (V ⊕ R)
  | v, [] => some (.inl v)
  | v, x :: xs => match step v x with
    | none => none
    | some (.inl v') => forL step v' xs
    | some (.inr r) => some (.inr r)
theorem forL_app {T V R : Type} {step : V → T → Option (V ⊕ R)} : ∀ {a b : List T} {v v' : V}, forL step v a = some (.inl v') → forL step v (a ++ b) = forL step v' b
  | [], b, v, v', h => by simp only [forL, Option.some.injEq, Sum.inl.injEq] at h; subst h; rfl
  | x :: a, b, v, v', h => by
    simp only [forL, List.cons_append] at h ⊢
    cases hs : step v x with
    | none => rw [hs] at h; cases h
    | some y =>
      rw [hs] at h
      cases y with
      | inl v1 => exact forL_app h
      | inr r => cases h

section
variable {P : Program} {E : Env} {f : Fm} {σ : St}
theorem Run.fixX [Fx] {V R : Type} {step : V → Option (V ⊕ R)} {v0 : V} {r : R} {c : Code} {Q : Post} (hF : Fx.fx step v0 = some r) (ss : List Nat) (ts : List Tag) (bs ms : List Nat) (nb : bs.Nodup) (nm : ms.Nodup) (hts : ∀ t ∈ ts, ∃ k, t = .slot k) (J : V → Fm → St → Prop)
    (h0 : J v0 (f.rst ss ts) (σ.only bs ms)) (round : ∀ v f σ y, J v f σ → step v = some y → (∀ r', y = .inr r' → r' = r) → Run P E c f σ (Q.then fun f' σ' => ∃ v', y = .inl v' ∧ J v' (f'.rst ss ts) (σ'.only bs ms))) : Run P E (.loop c) f σ Q :=
  Run.fix (Fx.ok hF) ss ts bs ms nb nm hts J h0 round
theorem Run.perm {c : Code} {Q : Post} {σ' : St} (pb : σ.box.Perm σ'.box) (pm : σ.map.Perm σ'.map) (h : Run P E c f σ' Q) : Run P E c f σ Q :=
  fun g a w φ Ω hs => h g a w φ Ω (hs.perm pb pm)
theorem SS.inRd {w : World} {φ : Nat → Nat} {Ω : List Own} {l : Nat} : SS (E.inRd l) w φ Ω σ ↔ SS E w φ Ω σ := ⟨fun h => ⟨h.box, h.map, h.own, h.tags, h.nodup, h.glob, h.fits⟩, fun h => ⟨h.box, h.map, h.own, h.tags, h.nodup, h.glob, h.fits⟩⟩
theorem ACall.inRd {fn : FuncId} {args : List AV} {R : AV → St → Prop} (l : Nat) (h : ACall P E fn args σ R) : ACall P (E.inRd l) fn args σ R :=
  ⟨h.callable, fun w φ Ω vs h1 h2 => (h.calls w φ Ω vs (SS.inRd.1 h1) h2).mono fun e w' ⟨v, φ', Ω', r, σ', k1, k2, k3, k4, k5⟩ => ⟨v, φ', Ω', r, σ', k1, k2, k3, SS.inRd.2 k4, k5⟩⟩
theorem PCall.inRd {fn : FuncId} {args : List AV} {R : AV → Prop} (l : Nat) (h : PCall P E fn args R) : PCall P (E.inRd l) fn args R := ACall.inRd l h
theorem EnvOK.inRd (h : EnvOK P E) (l : Nat) : EnvOK P (E.inRd l) := h
@[simp] theorem inRd_lay (l : Nat) : (E.inRd l).lay = E.lay := rfl
@[simp] theorem inRd_glob (l : Nat) : (E.inRd l).glob = E.glob := rfl
/-- A box that nobody will write any more is looked at as what stays. -/
theorem ACall.freeze {fn k : FuncId} {args cs : List AV} (h : ACall P E fn args σ fun r σ' => ∃ b, r = .func k [.ptr b 0] ∧ σ' = ⟨[(b, cs)], []⟩) : ACall P E fn args σ fun r σ' => σ' = .empty ∧ r = .func k [.cptr cs] := by
  refine ⟨h.callable, fun w φ Ω vs h1 h2 => (h.calls w φ Ω vs h1 h2).mono ?_⟩
  rintro e w' ⟨v, φ', Ω', r, σ', rfl, ⟨b, rfl, rfl⟩, hv, hss, hsi, htag, hown⟩
  obtain ⟨⟨c, T, k1, k2, _⟩, kz, ko⟩ := hss.box b cs List.mem_cons_self
  have hlt : b < w'.heap.size := (Array.getElem?_eq_some_iff.1 k1).1
  have hX : Ext w' φ' w' (fun x => if x = b then cs.length else φ' x) := fun b' o ho => by
    refine ⟨?_, rfl⟩
    by_cases e : b' = b
    · subst e; rw [kz] at ho; omega
    · simp only [if_neg e]; exact ho
  have hcs : RepAt w' (fun x => if x = b then cs.length else φ' x) b 0 cs := by
    have key : ∀ (l : List AV) (o : Nat), o + l.length = cs.length → cs.drop o = l → RepL w' φ' l (c.toList.drop o) → RepAt w' (fun x => if x = b then cs.length else φ' x) b o l := by
      intro l
      induction l with
      | nil => intro o _ _ _; simp only [RepAt]
      | cons x l ih =>
        intro o hlen hdr hrep
        simp only [RepAt]
        have hol : o < cs.length := by simp at hlen; omega
        have hrl := k2.length
        have hoc : o < c.toList.length := by omega
        rw [List.drop_eq_getElem_cons hoc] at hrep
        obtain ⟨v1, vs1, he, hr1, hr2⟩ := hrep
        injection he with he1 he2
        subst he1 he2
        refine ⟨by simpa using hol, ⟨c.toList[o], ?_, Rep.mono hX _ _ hr1⟩, ih (o + 1) (by simp at hlen; omega) ?_ hr2⟩
        · unfold World.cell?
          simp only [k1]
          simp at hoc
          simp [hoc]
        · rw [List.drop_eq_getElem_cons hol] at hdr
          injection hdr
    exact key cs 0 (by simp) (by simp) (by simpa using k2)
  have hem : SS E w' (fun x => if x = b then cs.length else φ' x) [] .empty := by
    refine ⟨fun _ _ h => absurd h (by simp [St.empty]), fun _ _ h => absurd h (by simp [St.empty]), fun _ h => absurd h (by simp), List.nodup_nil, by simp [owned, St.empty], fun g => RepAt.mono hX _ _ _ (hss.glob g), fun b' hb' => ?_⟩
    have : b' ≠ b := by omega
    simp only [if_neg this]; exact hss.fits b' hb'
  refine ⟨v, fun x => if x = b then cs.length else φ' x, [], .func k [.cptr cs], .empty, rfl, ⟨rfl, rfl⟩, ?_, hem, ?_, fun _ h => absurd h (by simp), fun b' h => absurd h (by simp [owned, St.empty])⟩
  · simp only [Rep] at hv ⊢
    obtain ⟨us, rfl, hv⟩ := hv
    obtain ⟨v1, vs1, rfl, hv1, hv2⟩ := hv
    refine ⟨_, rfl, ⟨_, _, rfl, ?_, hv2⟩⟩
    simp only [Rep] at hv1 ⊢
    exact ⟨b, 0, hv1, hcs⟩
  · refine ⟨hsi.os, hsi.tape, hsi.output, hsi.size, fun b' h3 h4 => ?_, hsi.ext.trans hX⟩
    have hb : b ∈ owned Ω σ ∨ w.heap.size ≤ b := hown b (by simp [owned])
    have hne : b' ≠ b := by
      rintro rfl
      rcases hb with hb | hb
      · exact h4 hb
      · exact absurd h3 (by simp only; omega)
    simp only [if_neg hne]
    exact hsi.block b' h3 h4
/-- A range over a function that yields what a list has. -/
theorem Run.forL (hE : EnvOK P E) (hrd : E.rd = none) {T V R : Type} {enc : T → AV} {ts : List T} {gop : Operand} {p : Nat} {assign body : Code} {Q : Post} {fn : FuncId} {caps : List AV} (hit : Iter P E fn caps (ts.map enc)) {step : V → T → Option (V ⊕ R)} {v0 : V} {y : V ⊕ R} (hF : forL step v0 ts = some y)
    (hg : evX E f gop = .func fn caps) (hp : p < f.nt) (hxs : ∀ x, es (enc x) = enc x) (σ1 σ2 : St) (pb : σ.box.Perm (σ1.box ++ σ2.box)) (pm : σ.map.Perm (σ1.map ++ σ2.map)) (J : V → St → Prop) (X : Exit → St → Prop) (h0 : J v0 σ1)
    (round : ∀ l v x z σ, J v σ → step v x = some z → (∀ r, z = .inr r → y = .inr r) → Run P (E.inRd l) assign (f.round p (enc x)) σ (Post.then (fun _ _ _ => False) fun f' σ' => Run P (E.inRd l) body f' σ' (roundA (fun σ => ∃ v', z = .inl v' ∧ J v' σ) X)))
    (hdone : ∀ D v σ', y = .inl v → J v σ' → Q .normal (aroundA f D) (behindA D σ2 σ')) (hstop : ∀ D e σ', X e σ' → Q e (aroundA f D) (behindA D σ2 σ')) : Run P E (.rangeFunc gop #[p] assign body) f σ Q := by
  refine Run.rangeFunc hE hrd hg hit hp (fun x hx => ?_) σ1 σ2 pb pm (fun pre σ => ∃ tp, pre = tp.map enc ∧ ∃ tr, ts = tp ++ tr ∧ ∃ v, Av.forL step v0 tp = some (.inl v) ∧ J v σ) X ⟨[], rfl, ts, rfl, v0, rfl, h0⟩ ?_ ?_ hstop
  · obtain ⟨t, _, rfl⟩ := List.mem_map.1 hx
    exact hxs t
  · rintro l pre x ⟨s, hs⟩ σ ⟨tp, rfl, tr, rfl, v, hv, hJ⟩
    rw [List.map_append, List.append_assoc, List.append_cancel_left_eq] at hs
    cases tr with
    | nil => cases hs
    | cons t tr =>
      simp only [List.map_cons, List.cons_append, List.nil_append, List.cons.injEq] at hs
      obtain ⟨rfl, _⟩ := hs
      rw [forL_app hv] at hF
      simp only [Av.forL] at hF
      cases hz : step v t with
      | none => rw [hz] at hF; cases hF
      | some z =>
        refine Run.mono (round l v t z σ hJ hz fun r e => ?_) fun e f' σ' h => ?_
        · subst e; rw [hz] at hF; simp only [Option.some.injEq] at hF; exact hF.symm
        · cases e with
          | normal =>
            refine Run.mono h fun e f2 σ2 h2 => ?_
            cases e with
            | normal =>
              obtain ⟨v', rfl, hJ'⟩ := h2
              refine ⟨tp ++ [t], by simp, tr, by simp, v', ?_, hJ'⟩
              rw [forL_app hv]; simp only [Av.forL, hz]
            | _ => exact h2
          | _ => exact h
  · rintro D σ' ⟨tp, he, tr, rfl, v, hv, hJ⟩
    have : tr = [] := by
      have := congrArg List.length he
      simp at this; exact this
    subst this
    rw [List.append_nil] at hF
    rw [hv] at hF
    simp only [Option.some.injEq] at hF
    exact hdone D v σ' hF.symm hJ
end
end Go.Proofs.YtpjkepfplhllfaaDoor.Av
