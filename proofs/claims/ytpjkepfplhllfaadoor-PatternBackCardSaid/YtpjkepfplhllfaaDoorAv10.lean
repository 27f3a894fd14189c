/-
Boxes: the rules.
-/
import Derived.Test.YtpjkepfplhllfaaDoorAv9
namespace Go.Proofs.YtpjkepfplhllfaaDoor.Av
set_option linter.unusedSimpArgs false
set_option linter.unusedVariables false
open Go
section
variable {P : Program} {w : World} {φ : Nat → Nat} {E : Env} {f : Fm} {σ : St} {a : Act} {Ω : List Own} {g : Gh}

/-- Only slots' arrays are given. -/
def slotC : AV → AV
  | .list (.cell _ _) xs => .list .none xs
  | c => c
theorem giveC_slotC : ∀ (cs : List AV) (ow : List (Tag × (Nat × Nat))), giveC ow (cs.map slotC) = giveC ow cs
  | [], _ => rfl
  | c :: cs, ow => by
    cases c with
    | list t xs => cases t <;> simp [slotC, giveC, plainC, giveC_slotC cs]
    | _ => simp [slotC, giveC, plainC, giveC_slotC cs]
theorem giveC_length : ∀ (cs : List AV) (ow : List (Tag × (Nat × Nat))), (giveC ow cs).1.length = cs.length
  | [], _ => rfl
  | c :: cs, ow => by
    cases c with
    | list t xs => cases t <;> simp only [giveC] <;> (try split) <;> simp [giveC_length cs]
    | _ => simp [giveC, giveC_length cs]
theorem plainC_slotC (c : AV) : plainC (slotC c) = plainC c := by
  cases c with
  | list t xs => cases t <;> rfl
  | _ => rfl

theorem take_set_drop {α : Type} (l : List α) (o : Nat) (x : α) (m : List α) (n : Nat) (h : o < l.length) :
    (l.set o x).take (o + 1) ++ m ++ (l.set o x).drop (o + 1 + n) = l.take o ++ (x :: m) ++ l.drop (o + (n + 1)) := by
  rw [List.take_set, List.drop_set_of_lt (by omega)]
  have : (l.take (o + 1)).set o x = l.take o ++ [x] := by
    rw [List.take_succ_eq_append_getElem h, List.set_append_right _ _ (by simp; omega)]
    simp [Nat.min_eq_left (Nat.le_of_lt h)]
  rw [this]
  simp only [List.append_assoc, List.cons_append, List.nil_append]
  congr 3
  rw [Nat.add_assoc, Nat.add_comm 1 n]

/-- The arrays that a store brings along go over to the box, cell by cell. -/
theorem SR.give : ∀ (ds : List AV) {f : Fm} {σ : St} {Ω : List Own} {b o : Nat} {cs : List AV} {vs : List Value}, SR E g f σ a w φ Ω → getB σ.box b = some cs → (cs.drop o).take ds.length = ds.map plainC → o + ds.length ≤ cs.length →
    (∀ j u, vs[j]? = some u → w.cell? ⟨b, o + j, none⟩ = some u) → vs.length = ds.length → TagL Ω ds vs → (∀ y ∈ Ω, ∀ j, j < ds.length → y.tag ≠ .cell b (o + j)) → (∀ s j, j < ds.length → NoTag (.cell b (o + j)) (getA f.sl s)) →
    (∀ (j : Nat) t xs, ds[j]? = some (AV.list t xs) → t = .none ∨ ∃ k, t = .slot k) →
    ∃ Ω', SR E g { f with ow := (giveC f.ow ds).2 } { σ with box := setB σ.box b (cs.take o ++ (giveC f.ow ds).1 ++ cs.drop (o + ds.length)) } a w φ Ω'
  | [], f, σ, Ω, b, o, cs, vs, h, hb, hcs, hle, hv, hvl, htl, hno, hsl, hnt => by
    refine ⟨Ω, ?_⟩
    simp only [giveC, List.append_nil, List.length_nil, Nat.add_zero, List.take_append_drop]
    rw [setB_same _ _ _ hb]
    exact h
  | d :: ds, f, σ, Ω, b, o, cs, vs, h, hb, hcs, hle, hv, hvl, htl, hno, hsl, hnt => by
    simp only [List.length_cons] at hle hvl
    cases vs with
    | nil => simp at hvl
    | cons v vs =>
      simp only [List.length_cons, Nat.add_right_cancel_iff] at hvl
      have hco : cs[o]? = some (plainC d) := by
        have : ((cs.drop o).take (ds.length + 1))[0]? = some (plainC d) := by
          have := hcs; simp only [List.length_cons] at this; rw [this]; rfl
        simpa [List.getElem?_take] using this
      have hc1 : (cs.drop (o + 1)).take ds.length = ds.map plainC := by
        have := congrArg (List.drop 1) hcs
        simpa [List.drop_take, List.drop_drop, Nat.add_comm] using this
      have tl1 : TagL Ω ds vs := fun i t xs hi => htl (i + 1) t xs (by simpa using hi)
      have hv1 : ∀ (j : Nat) u, vs[j]? = some u → w.cell? ⟨b, o + 1 + j, none⟩ = some u := fun j u hj => by
        rw [show o + 1 + j = o + (j + 1) by omega]; exact hv (j + 1) u (by simpa using hj)
      have hno1 : ∀ y ∈ Ω, ∀ j, j < ds.length → y.tag ≠ .cell b (o + 1 + j) := fun y hy j hj => by
        rw [show o + 1 + j = o + (j + 1) by omega]; exact hno y hy (j + 1) (by simp; omega)
      have hsl1 : ∀ s j, j < ds.length → NoTag (.cell b (o + 1 + j)) (getA f.sl s) := fun s j hj => by
        rw [show o + 1 + j = o + (j + 1) by omega]; exact hsl s (j + 1) (by simp; omega)
      have hnt1 : ∀ (j : Nat) t xs, ds[j]? = some (AV.list t xs) → t = .none ∨ ∃ k, t = .slot k := fun j t xs hj => hnt (j + 1) t xs (by simpa using hj)
      -- a cell that brings nothing along
      have plain : giveC f.ow (d :: ds) = (plainC d :: (giveC f.ow ds).1, (giveC f.ow ds).2) →
          ∃ Ω', SR E g { f with ow := (giveC f.ow (d :: ds)).2 } { σ with box := setB σ.box b (cs.take o ++ (giveC f.ow (d :: ds)).1 ++ cs.drop (o + (d :: ds).length)) } a w φ Ω' := by
        intro e
        obtain ⟨Ω', h'⟩ := SR.give ds h hb hc1 (by omega) hv1 hvl tl1 hno1 hsl1 hnt1
        refine ⟨Ω', ?_⟩
        rw [e]
        have hlt : o < cs.length := by omega
        have hset : cs.set o (plainC d) = cs := by
          rw [List.getElem?_eq_getElem hlt] at hco
          simp only [Option.some.injEq] at hco
          rw [← hco]; simp
        have := take_set_drop cs o (plainC d) (giveC f.ow ds).1 ds.length hlt
        rw [hset] at this
        simp only [List.length_cons]
        rw [← this]
        exact h'
      cases d with
      | list t xs =>
        cases t with
        | slot k =>
          cases hgo : getO f.ow (.slot k) xs with
          | some sz =>
            have hg := getO_some hgo
            obtain ⟨x, hx, ht, hnp⟩ := h.fs.ow _ _ hg
            simp only [Prod.mk.injEq] at hnp
            obtain ⟨hn, hns⟩ := hnp
            have hvx : v = x.v := by have := htl 0 (.slot k) xs rfl x hx ht hn; simpa using this
            subst hvx
            have hcell : w.cell? ⟨b, o, none⟩ = some x.v := by have := hv 0 x.v rfl; simpa using this
            have hp := h.promote hb hco hx ht hn hcell (fun y hy => by have := hno y hy 0 (by simp); simpa using this) (fun s => by have := hsl s 0 (by simp); simpa using this)
            have hb2 : getB (setB σ.box b (cs.set o (.grow x.sz xs))) b = some (cs.set o (.grow x.sz xs)) := by rw [getB_set, if_pos rfl, hb]; rfl
            have hlt : o < cs.length := by omega
            obtain ⟨Ω', h'⟩ := SR.give ds hp hb2 (o := o + 1) (by
                rw [List.drop_set_of_lt (by omega)]; exact hc1) (by simp; omega) hv1 hvl (by
                intro i t ys hi y hy hyt hyn
                obtain ⟨z, hz, rfl⟩ := List.mem_map.1 hy
                split at hyt
                · rcases hnt1 i t ys hi with e | ⟨k', e⟩ <;> rw [e] at hyt <;> simp at hyt
                · rename_i hzk; rw [if_neg hzk] at hyn ⊢; exact tl1 i t ys hi z hz hyt hyn) (by
                intro y hy j hj
                obtain ⟨z, hz, rfl⟩ := List.mem_map.1 hy
                split
                · simp; omega
                · exact hno1 z hz j hj) hsl1 hnt1
            refine ⟨Ω', ?_⟩
            have e : giveC f.ow (AV.list (.slot k) xs :: ds) = (.grow x.sz xs :: (giveC (delT f.ow (.slot k)) ds).1, (giveC (delT f.ow (.slot k)) ds).2) := by
              simp only [giveC, hgo]; rw [hns]
            rw [e]
            simp only [List.length_cons]
            have hts := take_set_drop cs o (.grow x.sz xs) (giveC (delT f.ow (.slot k)) ds).1 ds.length hlt
            simp only [setB_setB] at h'
            rw [hts] at h'
            exact h'
          | none => exact plain (by simp only [giveC, hgo]; rfl)
        | none => exact plain (by simp [giveC])
        | cell b' i' => exact plain (by simp [giveC])
      | _ => exact plain (by simp [giveC])

/-- What becomes of slots and tags when cells go into a box from cell o on. -/
def giveF (f : Fm) (b o : Nat) (ds : List AV) : Fm :=
  if gives f.ow ds then { f with sl := untagCells b o ds.length f.sl, ow := (giveC (delCells b o ds.length f.ow) ds).2 } else { f with ow := delCells b o ds.length f.ow }
def giveB (f : Fm) (b o : Nat) (ds : List AV) : List AV := if gives f.ow ds then (giveC (delCells b o ds.length f.ow) ds).1 else ds.map plainC

theorem run_storeAt (hE : EnvOK P E) {t : TypeId} {b o : Nat} {v : Value} {l : Lay} {c : Array Value} {T : TypeId} (hl : E.lay t = some l) (hrow : w.heap[b]? = some (.cells c T (0, 0))) (hsz : v.cells.size = l.size) (hle : o + v.cells.size ≤ c.size)
    (hone : ∀ u ∈ v.cells.toList, u.oneCell' = true) :
    (Instr.storeAt t (.pointer (some ⟨b, o, none⟩)) v).run P w = .ok () (w.setRow b (c.toList.take o ++ v.cells.toList ++ c.toList.drop (o + v.cells.toList.length)).toArray) := by
  obtain ⟨ti, d, hti, hd, e1, _⟩ := mkLay_spec (hE t l hl)
  have h1 := run_sizeOf' (P := P) hti w
  have h2 := run_storeCells_at P b o T v.cells.toList 0 c w hrow (by simpa using hle) hone
  simp only [Nat.add_zero] at h2
  simp only [Instr.storeAt, Instr.sureAddr, Sem.run_bind, Sem.run_pure, Result.andThen_ok, storeVar, h1]
  rw [← e1, ← hsz]
  simp only [ne_eq, not_true_eq_false, if_false, Sem.run_pure, pure_bind]
  exact h2

theorem gives_false_give : ∀ (ds : List AV) (ow : List (Tag × (Nat × Nat))), gives ow ds = false → giveC ow ds = (ds.map plainC, ow)
  | [], _, _ => rfl
  | d :: ds, ow, h => by
    cases d with
    | list t xs =>
      cases t with
      | slot k =>
        simp only [gives, Bool.or_eq_false_iff, Option.isSome_eq_false_iff, Option.isNone_iff_eq_none] at h
        simp [giveC, h.1, gives_false_give ds ow h.2, plainC]
      | _ => simp only [gives] at h; simp [giveC, gives_false_give ds ow h, plainC]
    | _ => simp only [gives] at h; simp [giveC, gives_false_give ds ow h, plainC]

/-- A store. -/
theorem SR.store (hE : EnvOK P E) (h : SR E g f σ a w φ Ω) {t : TypeId} {l : Lay} {b o : Nat} {cs : List AV} {x : AV} {v : Value} (hl : E.lay t = some l) (hb : getB σ.box b = some cs) (hx : Rep w φ x v) (ht : TagOK Ω x v)
    (hone : x.cells.all AV.one = true) (hsz : x.cells.length = l.size) (hle : o + x.cells.length ≤ cs.length) :
    ∃ w' Ω', (Instr.storeAt t (.pointer (some ⟨b, o, none⟩)) v).run P w = .ok () w' ∧
      SR E g (giveF f b o x.cells) { σ with box := setB σ.box b (cs.take o ++ giveB f b o x.cells ++ cs.drop (o + x.cells.length)) } a w' φ Ω' := by
  obtain ⟨k1, k2⟩ := hx.cellsOf hone
  obtain ⟨c, T, h1, h2, h3⟩ := h.storePlain hb hle k1 hone
  have hcl := h2.length
  have hrun := run_storeAt (o := o) hE hl h1 (by rw [k2, hsz]) (by rw [k2]; simp at hcl; omega) (k1.one hone)
  refine ⟨w.setRow b (c.toList.take o ++ v.cells.toList ++ c.toList.drop (o + v.cells.toList.length)).toArray, ?_⟩
  by_cases hg : gives f.ow x.cells = true
  · have h4 := h3.untagCells b o x.cells.length
    have hlt : (cs.take o).length = o := by simp; omega
    have hb2 : getB (setB σ.box b (cs.take o ++ x.cells.map plainC ++ cs.drop (o + x.cells.length))) b = some (cs.take o ++ x.cells.map plainC ++ cs.drop (o + x.cells.length)) := by
      rw [getB_set, if_pos rfl, hb]; rfl
    have hvlen : v.cells.toList.length = x.cells.length := by simpa using k2
    have htag := ht.cells hx hone
    obtain ⟨Ω', h5⟩ := SR.give (x.cells.map slotC) h4 hb2 (o := o) (vs := v.cells.toList) (by
        rw [List.append_assoc, List.drop_append_of_le_length (by omega), List.drop_of_length_le (by omega), List.nil_append, List.take_append_of_le_length (by simp)]
        simp only [List.length_map, List.map_map]
        rw [List.take_of_length_le (by simp)]
        congr 1; funext c; simp only [Function.comp, plainC_slotC]) (by simp; omega) (by
        intro j u hj
        have hj' : j < v.cells.toList.length := by
          rcases Nat.lt_or_ge j v.cells.toList.length with h | h
          · exact h
          · rw [List.getElem?_eq_none h] at hj; cases hj
        simp only [World.cell?]
        rw [setRow_heap w b c _ T _ h1]
        simp only [Option.isSome_none, Bool.false_eq_true, if_false, List.getElem?_toArray]
        have htc : (c.toList.take o).length = o := by simp at hcl ⊢; omega
        rw [List.append_assoc, List.getElem?_append_right (by omega), htc, List.getElem?_append_left (by omega)]
        rwa [show o + j - o = j by omega]) (by simpa using hvlen) (by
        intro i t' xs hi y hy hyt hyn
        simp only [List.getElem?_map, Option.map_eq_some_iff] at hi
        obtain ⟨z, hz, he⟩ := hi
        have : z = .list t' xs ∨ t' = .none := by
          cases z with
          | list t2 ys => cases t2 <;> simp only [slotC, AV.list.injEq] at he <;> first | (left; rw [he.1, he.2]) | (right; exact he.1.symm)
          | _ => simp [slotC] at he
        rcases this with rfl | rfl
        · exact htag i t' xs hz y (List.mem_filter.1 hy).1 hyt hyn
        · exact absurd hyt (h.ss.own y (List.mem_filter.1 hy).1).tag) (by
        intro y hy j hj
        simp only [List.length_map] at hj
        exact notCell_true (List.mem_filter.1 hy).2 hj) (by
        intro s j hj
        simp only [List.length_map] at hj
        exact NoTag.cells b o _ _ s j hj) (by
        intro j t' xs hj
        simp only [List.getElem?_map, Option.map_eq_some_iff] at hj
        obtain ⟨z, _, he⟩ := hj
        cases z with
        | list t2 ys => cases t2 <;> simp only [slotC, AV.list.injEq] at he
                        · exact .inl he.1.symm
                        · exact .inr ⟨_, he.1.symm⟩
                        · exact .inl he.1.symm
        | _ => simp [slotC] at he)
    refine ⟨Ω', hrun, ?_⟩
    unfold giveF giveB
    rw [if_pos hg, if_pos hg]
    simp only [giveC_slotC, setB_setB, List.length_map] at h5
    have e1 : (cs.take o ++ x.cells.map plainC ++ cs.drop (o + x.cells.length)).take o = cs.take o := by
      rw [List.append_assoc, List.take_append_of_le_length (by omega), List.take_of_length_le (by omega)]
    have e2 : (cs.take o ++ x.cells.map plainC ++ cs.drop (o + x.cells.length)).drop (o + x.cells.length) = cs.drop (o + x.cells.length) := by
      rw [List.drop_append_of_le_length (by simp; omega), List.drop_of_length_le (by simp; omega), List.nil_append]
    rw [e1, e2] at h5
    exact h5
  · refine ⟨Ω.filter (notCell b o x.cells.length), hrun, ?_⟩
    unfold giveF giveB
    rw [if_neg hg, if_neg hg]
    exact h3

theorem allC_one {zs : List AV} (hone : zs.all AV.one = true) : (zs.map plainC).all AV.one = true := by
  rw [List.all_eq_true] at hone ⊢
  intro x hx
  obtain ⟨y, hy, rfl⟩ := List.mem_map.1 hx
  have := hone y hy
  cases y <;> first | exact this | rfl

/-- A store of an array back into the cell that it was taken from. -/
theorem SR.storeBack (hE : EnvOK P E) (h : SR E g f σ a w φ Ω) {t : TypeId} {l : Lay} {b o : Nat} {cs : List AV} {xs : List (List AV)} {v : Value} (hl : E.lay t = some l) (hb : getB σ.box b = some cs)
    (hx : Rep w φ (.list (.cell b o) xs) v) (ht : TagOK Ω (.list (.cell b o) xs) v) (hsz : l.size = 1) (hle : o < cs.length) {sz : Nat} (how : getO f.ow (.cell b o) xs = some sz) :
    ∃ w' Ω', (Instr.storeAt t (.pointer (some ⟨b, o, none⟩)) v).run P w = .ok () w' ∧
      SR E g { f with ow := delT f.ow (.cell b o) } { σ with box := setB σ.box b (cs.set o (.grow sz xs)) } a w' φ Ω' := by
  have hvc : v.cells = #[v] := by simp only [Rep] at hx; obtain ⟨A, n, c, rfl, _⟩ := hx; rfl
  have hv1 : v.oneCell' = true := hx.one rfl
  obtain ⟨⟨c, T, h1, h2, h3⟩, h4, h5⟩ := box_get h.ss hb
  have hlen := h2.length
  have hrun := run_storeAt (o := o) hE hl h1 (by rw [hvc, hsz]; rfl) (by rw [hvc]; simp at hlen ⊢; omega) (by rw [hvc]; simpa using hv1)
  rw [hvc] at hrun
  simp only [List.length_cons, List.length_nil, Nat.zero_add] at hrun
  obtain ⟨x, hxm, hxt, hxp⟩ := h.fs.ow _ _ (getO_some how)
  have hxn : x.n = xs.length := congrArg Prod.fst hxp
  have hvx := ht x hxm hxt hxn
  subst hvx
  have H := setRow_ext b c (c.toList.take o ++ [x.v] ++ c.toList.drop (o + 1)).toArray T h1 h4
  refine ⟨_, Ω, hrun, ?_⟩
  generalize hw' : w.setRow b (c.toList.take o ++ [x.v] ++ c.toList.drop (o + 1)).toArray = w' at H
  have hrow : w'.heap[b]? = some (.cells (c.toList.take o ++ [x.v] ++ c.toList.drop (o + 1)).toArray T (0, 0)) := by
    rw [← hw']; exact setRow_heap w b c _ T _ h1
  have hoth : ∀ k, k ≠ b → w'.heap[k]? = w.heap[k]? := fun k hk => by rw [← hw']; exact setRow_other w b k _ hk
  have hsz' : w'.heap.size = w.heap.size := by rw [← hw']; simp
  have hmem : b ∈ owned Ω σ := by simp only [owned, List.mem_append, List.mem_map]; exact .inl (.inl ⟨_, getB_mem hb, rfl⟩)
  have hnd := h.ss.nodup
  have hnb : (σ.box.map (·.1)).Nodup := nodup_app_left (nodup_app_left hnd)
  have hne : ∀ x ∈ Ω, ∀ k, x.v.ownBlock = some k → k ≠ b := by
    intro y hy k hk e
    subst e
    have := (List.nodup_append.1 hnd).2.2 k (by simp only [List.mem_append, List.mem_map]; exact .inl ⟨_, getB_mem hb, rfl⟩) k (List.mem_filterMap.2 ⟨y, hy, hk⟩)
    exact this rfl
  have hneM : ∀ k l, (k, l) ∈ σ.map → k ≠ b := by
    intro k l hk e
    subst e
    have := (List.nodup_append.1 (nodup_app_left hnd)).2.2 k (List.mem_map.2 ⟨_, getB_mem hb, rfl⟩) k (List.mem_map.2 ⟨_, hk, rfl⟩)
    exact this rfl
  have how' : owned Ω { σ with box := setB σ.box b (cs.set o (.grow sz xs)) } = owned Ω σ := by simp only [owned, setB_keys]
  have hnew : c.toList.take o ++ [x.v] ++ c.toList.drop (o + 1) = c.toList.set o x.v := by
    rw [List.set_eq_take_append_cons_drop, if_pos (by omega)]; simp
  refine ⟨⟨fun b' es hm => ?_, fun b' l hm => ?_, fun x hx => ?_, h.ss.tags, by rw [how']; exact hnd, fun g => RepAt.mono H _ _ _ (h.ss.glob g), fun b' hb' => h.ss.fits b' (by omega)⟩, ⟨h.fs.size, h.fs.defers, fun s => Rep.mono H _ _ (h.fs.rep s), h.fs.tag, fun t n ht => ?_⟩,
    h.since.step H (by rw [← hw']; rfl) (by rw [← hw']; rfl) (by rw [← hw']; rfl) (by omega) fun b' hb' hD => ⟨hoth b' ?_, rfl⟩, fun b' hb' => h.mine b' (by rw [how'] at hb'; exact hb')⟩
  · rcases mem_setB hnb hm with ⟨rfl, rfl⟩ | ⟨hk, hm⟩
    · refine ⟨⟨_, T, hrow, ?_, fun i sz' ys hi => ?_⟩, h4, ?_⟩
      · simp only
        rw [hnew]
        exact RepL.set (RepL.mono H _ _ h2) (Rep.mono H _ _ (by simp only [Rep] at hx ⊢; exact hx))
      · rw [List.getElem?_set] at hi
        simp only [List.getElem?_toArray]
        rw [hnew, List.getElem?_set]
        split at hi
        · rename_i hoi
          subst hoi
          simp only [Option.some.injEq, AV.grow.injEq] at hi
          obtain ⟨rfl, rfl⟩ := hi
          exact ⟨x, hxm, hxt, hxp, by rw [if_pos rfl, if_pos (by omega)]⟩
        · rename_i hoi
          obtain ⟨y, hy, e1, e2, e3⟩ := h3 i sz' ys hi
          exact ⟨y, hy, e1, e2, by rw [if_neg hoi]; simpa using e3⟩
      · rw [List.all_eq_true] at h5 ⊢
        intro z hz
        rcases List.mem_or_eq_of_mem_set hz with hz | rfl
        · exact h5 z hz
        · rfl
    · obtain ⟨⟨c', T', k1, k2, k3⟩, k4, k5⟩ := h.ss.box b' es hm
      exact ⟨⟨c', T', (hoth b' hk).trans k1, RepL.mono H _ _ k2, k3⟩, k4, k5⟩
  · obtain ⟨⟨o, k1, k2⟩, k3⟩ := h.ss.map b' l hm
    exact ⟨⟨o, (hoth b' (hneM b' l hm)).trans k1, MORep.mono H k2⟩, k3⟩
  · exact (h.ss.own x hx).keep (fun k hk => ⟨hoth k (hne x hx k hk), rfl⟩) (by omega)
  · rw [getT_del] at ht
    split at ht
    · cases ht
    · exact h.fs.ow t n ht
  · intro e
    subst e
    rcases h.mine b' hmem with hh | hh
    · exact hD hh
    · omega

theorem noGrow_plain (zs : List AV) : ∀ (o : Nat) sz xs, (zs.map plainC)[o]? ≠ some (AV.grow sz xs) := by
  intro o sz xs hc
  simp only [List.getElem?_map, Option.map_eq_some_iff] at hc
  obtain ⟨z, _, he⟩ := hc
  cases z <;> simp [plainC] at he

/-- A new variable with its zero value. -/
theorem SR.alloc (hE : EnvOK P E) (h : SR E g f σ a w φ Ω) {t : TypeId} {l : Lay} (hl : E.lay t = some l) (hone : l.zero.cells.all AV.one = true) (hz : isAny l.zero = false) :
    ∃ w', (Instr.alloc t true (.tuple #[])).run P w = .ok (.pointer (some ⟨w.heap.size, 0, none⟩)) w' ∧ SR E g f { σ with box := (w.heap.size, l.zero.cells.map plainC) :: σ.box } a w' φ Ω := by
  obtain ⟨ti, d, hti, hd, e1, e2, e3, e4, e5⟩ := mkLay_spec (hE t l hl)
  obtain ⟨z, hz1, hz2⟩ := zero_rep e5 hz
  have hrz : Rep w φ l.zero z := by rw [hz2]; exact Rep.ofC z
  obtain ⟨k1, k2⟩ := hrz.cellsOf hone
  have hp : RepL w φ (l.zero.cells.map plainC) z.cells.toList := k1.map_of fun x v hx => by
    cases x <;> simp only [plainC] <;> first | exact hx | (simp only [Rep] at hx ⊢; exact hx)
  refine ⟨w.alloc (.cells z.cells.toList.toArray t), ?_, h.newBox t hp (allC_one hone) (noGrow_plain _)⟩
  simp [Instr.alloc, run_zeroValue hti hz1, newVar, newRow]

/-- A new variable with a value. -/
theorem SR.box (h : SR E g f σ a w φ Ω) (t : TypeId) {x : AV} {v : Value} (hx : Rep w φ x v) (ht : TagOK Ω x v) (hone : x.cells.all AV.one = true) :
    ∃ w' Ω', (Instr.box t v).run P w = .ok (.pointer (some ⟨w.heap.size, 0, none⟩)) w' ∧
      SR E g (if gives f.ow x.cells then { f with sl := Av.untagCells w.heap.size 0 x.cells.length f.sl, ow := (giveC f.ow x.cells).2 } else f)
        { σ with box := (w.heap.size, if gives f.ow x.cells then (giveC f.ow x.cells).1 else x.cells.map plainC) :: σ.box } a w' φ Ω' := by
  obtain ⟨k1, k2⟩ := hx.cellsOf hone
  have hp : RepL w φ (x.cells.map plainC) v.cells.toList := k1.map_of fun x v hx => by
    cases x <;> simp only [plainC] <;> first | exact hx | (simp only [Rep] at hx ⊢; exact hx)
  have h3 := h.newBox t hp (allC_one hone) (noGrow_plain _)
  have hrun : (Instr.box t v).run P w = .ok (.pointer (some ⟨w.heap.size, 0, none⟩)) (w.alloc (.cells v.cells.toList.toArray t)) := by
    simp [Instr.box, newVar, newRow]
  refine ⟨w.alloc (.cells v.cells.toList.toArray t), ?_⟩
  by_cases hg : gives f.ow x.cells = true
  · rw [if_pos hg, if_pos hg]
    have h4 := h3.untagCells w.heap.size 0 x.cells.length
    have hb2 : getB ((w.heap.size, x.cells.map plainC) :: σ.box) w.heap.size = some (x.cells.map plainC) := by simp [getB]
    have hvlen : v.cells.toList.length = x.cells.length := by simpa using k2
    have htag := ht.cells hx hone
    obtain ⟨Ω', h5⟩ := SR.give (x.cells.map slotC) h4 hb2 (o := 0) (vs := v.cells.toList) (by
        simp only [List.drop_zero, List.length_map, List.map_map]
        rw [List.take_of_length_le (by simp)]
        congr 1; funext c; simp only [Function.comp, plainC_slotC]) (by simp) (by
        intro j u hj
        rw [Nat.zero_add, World.cell?_alloc_new]
        simpa using hj) (by simpa using hvlen) (by
        intro i t' xs hi y hy hyt hyn
        simp only [List.getElem?_map, Option.map_eq_some_iff] at hi
        obtain ⟨z, hz, he⟩ := hi
        have : z = .list t' xs ∨ t' = .none := by
          cases z with
          | list t2 ys => cases t2 <;> simp only [slotC, AV.list.injEq] at he <;> first | (left; rw [he.1, he.2]) | (right; exact he.1.symm)
          | _ => simp [slotC] at he
        rcases this with rfl | rfl
        · exact htag i t' xs hz y hy hyt hyn
        · exact absurd hyt (h.ss.own y hy).tag) (by
        intro y hy j hj e
        have := (h.ss.own y hy).lim _ _ e
        omega) (by
        intro s j hj
        simp only [List.length_map] at hj
        exact NoTag.cells _ 0 _ _ s j hj) (by
        intro j t' xs hj
        simp only [List.getElem?_map, Option.map_eq_some_iff] at hj
        obtain ⟨z, _, he⟩ := hj
        cases z with
        | list t2 ys => cases t2 <;> simp only [slotC, AV.list.injEq] at he
                        · exact .inl he.1.symm
                        · exact .inr ⟨_, he.1.symm⟩
                        · exact .inl he.1.symm
        | _ => simp [slotC] at he)
    refine ⟨Ω', hrun, ?_⟩
    simp only [giveC_slotC, List.length_map, List.take_zero, List.nil_append, Nat.zero_add] at h5
    have e2 : (x.cells.map plainC).drop x.cells.length = [] := by rw [List.drop_of_length_le (by simp)]
    rw [e2, List.append_nil] at h5
    simp only [setB, if_true] at h5
    exact h5
  · rw [if_neg hg, if_neg hg]
    exact ⟨Ω, hrun, h3⟩
end
end Go.Proofs.YtpjkepfplhllfaaDoor.Av
