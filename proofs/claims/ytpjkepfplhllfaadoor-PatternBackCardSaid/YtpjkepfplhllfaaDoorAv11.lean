/-
Arrays of one's own: made, and grown.
-/
import Derived.Test.YtpjkepfplhllfaaDoorAv10
namespace Go.Proofs.YtpjkepfplhllfaaDoor.Av
set_option linter.unusedSimpArgs false
set_option linter.unusedVariables false
open Go
section
variable {P : Program} {w : World} {φ : Nat → Nat} {E : Env} {f : Fm} {σ : St} {a : Act} {Ω : List Own} {g : Gh}

/-- How many elements the array with a tag has, if it may be grown. -/
def ownLen (f : Fm) (σ : St) (t : Tag) : Option (Nat × Nat) :=
  match getT f.ow t with
  | some n => some n
  | none => match t with
    | .cell b o => match getB σ.box b with
      | some cs => match cs[o]? with | some (.grow sz zs) => some (zs.length, sz) | _ => none
      | none => none
    | _ => none
/-- The box's cell gives its array away. -/
def ungrow (σ : St) : Tag → St
  | .cell b o => match getB σ.box b with
    | some cs => match cs[o]? with
      | some c => { σ with box := setB σ.box b (cs.set o (plainC c)) }
      | none => σ
    | none => σ
  | _ => σ

theorem ownLen_entry (h : SR E g f σ a w φ Ω) {t : Tag} {n : Nat × Nat} (hl : ownLen f σ t = some n) : ∃ x ∈ Ω, x.tag = t ∧ (x.n, x.sz) = n := by
  unfold ownLen at hl
  cases hm : getT f.ow t with
  | some m =>
    rw [hm] at hl
    simp only [Option.some.injEq] at hl; subst hl
    exact h.fs.ow t m hm
  | none =>
    rw [hm] at hl
    cases t with
    | cell b o =>
      simp only at hl
      cases hb : getB σ.box b with
      | none => rw [hb] at hl; cases hl
      | some cs =>
        rw [hb] at hl
        simp only at hl
        cases hc : cs[o]? with
        | none => rw [hc] at hl; cases hl
        | some c =>
          rw [hc] at hl
          cases c <;> simp only [reduceCtorEq, Option.some.injEq] at hl
          subst hl
          obtain ⟨⟨c, T, k1, k2, k3⟩, _⟩ := box_get h.ss hb
          obtain ⟨x, hx, e1, e2, _⟩ := k3 o _ _ hc
          exact ⟨x, hx, e1, e2⟩
    | _ => cases hl

theorem ungrow_keys (σ : St) (t : Tag) : (ungrow σ t).box.map (·.1) = σ.box.map (·.1) ∧ (ungrow σ t).map = σ.map := by
  unfold ungrow
  cases t with
  | cell b o =>
    simp only
    split
    · split
      · exact ⟨setB_keys _ _ _, rfl⟩
      · exact ⟨rfl, rfl⟩
    · exact ⟨rfl, rfl⟩
  | _ => exact ⟨rfl, rfl⟩

/-- The boxes when the entries with one tag may have turned. -/
theorem ungrow_box (h : SS E w φ Ω σ) {t : Tag} {b : Nat} {cs : List AV} (hm : (b, cs) ∈ (ungrow σ t).box) :
    ∃ (c : Array Value) (T : TypeId), w.heap[b]? = some (.cells c T (0, 0)) ∧ RepL w φ cs c.toList ∧ φ b = 0 ∧ cs.all AV.one = true ∧
      ∀ o sz xs, cs[o]? = some (.grow sz xs) → Tag.cell b o ≠ t ∧ ∃ x ∈ Ω, x.tag = .cell b o ∧ (x.n, x.sz) = (xs.length, sz) ∧ c[o]? = some x.v := by
  have hnb : (σ.box.map (·.1)).Nodup := nodup_app_left (nodup_app_left h.nodup)
  have other : (b, cs) ∈ σ.box → (∀ o sz xs, cs[o]? = some (.grow sz xs) → Tag.cell b o ≠ t) → ∃ (c : Array Value) (T : TypeId), w.heap[b]? = some (.cells c T (0, 0)) ∧ RepL w φ cs c.toList ∧ φ b = 0 ∧ cs.all AV.one = true ∧
      ∀ o sz xs, cs[o]? = some (.grow sz xs) → Tag.cell b o ≠ t ∧ ∃ x ∈ Ω, x.tag = .cell b o ∧ (x.n, x.sz) = (xs.length, sz) ∧ c[o]? = some x.v := by
    intro hm hne
    obtain ⟨⟨c, T, k1, k2, k3⟩, k4, k5⟩ := h.box b cs hm
    exact ⟨c, T, k1, k2, k4, k5, fun o sz xs ho => ⟨hne o sz xs ho, k3 o sz xs ho⟩⟩
  have getm : ∀ {l : List (Nat × List AV)}, (l.map (·.1)).Nodup → (b, cs) ∈ l → getB l b = some cs := by
    intro l
    induction l with
    | nil => intro _ hm; cases hm
    | cons p l ih =>
      intro hn hm
      obtain ⟨k, v⟩ := p
      simp only [List.map_cons, List.nodup_cons] at hn
      rcases List.mem_cons.1 hm with he | hm'
      · injection he with e1 e2; subst e1 e2; simp [getB]
      · have : k ≠ b := fun e => hn.1 (List.mem_map.2 ⟨_, hm', e.symm⟩)
        simp only [getB, if_neg this]; exact ih hn.2 hm'
  unfold ungrow at hm
  cases t with
  | cell b' o' =>
    simp only at hm
    cases hb : getB σ.box b' with
    | none =>
      rw [hb] at hm
      refine other hm fun o sz xs ho e => ?_
      injection e with e1 e2; subst e1
      have := getm hnb hm
      rw [hb] at this; cases this
    | some ds =>
      rw [hb] at hm
      simp only at hm
      cases hc : ds[o']? with
      | none =>
        rw [hc] at hm
        refine other hm fun o sz xs ho e => ?_
        injection e with e1 e2; subst e1 e2
        have := getm hnb hm
        rw [hb] at this; simp only [Option.some.injEq] at this; subst this
        rw [hc] at ho; cases ho
      | some c0 =>
        rw [hc] at hm
        simp only at hm
        rcases mem_setB hnb hm with ⟨rfl, rfl⟩ | ⟨hk, hm⟩
        · obtain ⟨⟨c, T, k1, k2, k3⟩, k4, k5⟩ := box_get h hb
          obtain ⟨u, hu, hru⟩ := k2.get hc
          have hset := RepL.set (i := o') k2 (c := plainC c0) (v := u) (by
            cases c0 <;> simp only [plainC] <;> first | exact hru | (simp only [Rep] at hru ⊢; exact hru))
          have e : c.toList.set o' u = c.toList := by
            apply List.ext_getElem?
            intro j
            rw [List.getElem?_set]
            split
            · rename_i hij; subst hij; split
              · exact hu.symm
              · rename_i hlt; rw [List.getElem?_eq_none (by omega)] at hu; cases hu
            · rfl
          rw [e] at hset
          refine ⟨c, T, k1, hset, k4, ?_, fun o sz xs ho => ?_⟩
          · rw [List.all_eq_true] at k5 ⊢
            intro z hz
            rcases List.mem_or_eq_of_mem_set hz with hz | rfl
            · exact k5 z hz
            · have := k5 c0 (List.mem_of_getElem? hc)
              cases c0 <;> first | exact this | rfl
          · rw [List.getElem?_set] at ho
            split at ho
            · split at ho
              · simp only [Option.some.injEq] at ho
                cases c0 <;> simp [plainC] at ho
              · cases ho
            · rename_i hne
              exact ⟨fun e => by injection e with _ e2; exact hne e2.symm, k3 o sz xs ho⟩
        · exact other hm fun o sz xs ho e => by injection e with e1 _; exact hk e1
  | _ => exact other hm fun o sz xs ho => by simp

theorem SR.newArr (h : SR E g f σ a w φ Ω) {w' : World} {t : Tag} {v' : Value} {e : TypeId} {sz n' g' : Nat} {zs : List Value} (htn : t ≠ .none) (htl : ∀ b o, t = .cell b o → b < w.heap.size)
    (hrow : w'.ownsRow 0 e sz v' n' zs) (hg : v'.ownBlock = some g') (hpos : 0 < sz) (hos : w'.os = w.os) (htape : w'.tape = w.tape) (hout : w'.output = w.output)
    (hcase : (g' = w.heap.size ∧ w.heap.size ≤ w'.heap.size ∧ ∀ k, k < w.heap.size → w'.heap[k]? = w.heap[k]?) ∨
      (∃ x ∈ Ω, x.tag = t ∧ x.v.ownBlock = some g' ∧ w'.heap.size = w.heap.size ∧ (∀ k, k < w.heap.size → k ≠ g' → w'.heap[k]? = w.heap[k]?) ∧ x.n * x.sz ≤ n' * sz ∧ ∀ off, off < x.n * x.sz → w'.cell? ⟨g', off, none⟩ = w.cell? ⟨g', off, none⟩)) :
    SR E g { f with sl := untagS t f.sl, ow := (t, (n', sz)) :: delT f.ow t } (ungrow σ t) a w' (fun b => if b = g' then n' * sz else φ b) (⟨t, v', e, sz, n'⟩ :: Ω.filter (fun x => decide (x.tag ≠ t))) := by
  have hglt : g' < w'.heap.size := (hrow.lt g' hg).2
  have hsize : w.heap.size ≤ w'.heap.size := by rcases hcase with ⟨_, h1, _⟩ | ⟨x, _, _, _, h1, _⟩ <;> omega
  have hkeep : ∀ k, k < w.heap.size → k ≠ g' → w'.heap[k]? = w.heap[k]? := by
    rcases hcase with ⟨h1, _, h2⟩ | ⟨x, _, _, _, _, h2, _⟩
    · exact fun k hk _ => h2 k hk
    · exact h2
  have H : Ext w φ w' (fun b => if b = g' then n' * sz else φ b) := by
    intro b off hb
    have hlt : b < w.heap.size := by
      rcases Nat.lt_or_ge b w.heap.size with h' | h'
      · exact h'
      · have := h.ss.fits b h'; omega
    by_cases e : b = g'
    · subst e
      rcases hcase with ⟨h1, _, _⟩ | ⟨x, hx, _, hv, _, _, h3, h4⟩
      · omega
      · have := (h.ss.own x hx).front b hv
        rw [this] at hb
        simp only [if_true]
        exact ⟨by omega, h4 off hb⟩
    · simp only [if_neg e]
      exact ⟨hb, World.cell?_of_block (hkeep b hlt e)⟩
  -- the block is nobody else's
  have hfresh : ∀ y ∈ Ω, y.tag ≠ t → ∀ k, y.v.ownBlock = some k → k ≠ g' := by
    intro y hy hyt k hk ek
    subst ek
    rcases hcase with ⟨h1, _⟩ | ⟨x, hx, hxt, hv, _⟩
    · have := own_lt (h.ss.own y hy) hk; omega
    · have hn := (List.nodup_append.1 h.ss.nodup).2.1
      have : y = x := by
        have key : ∀ {l : List Own}, (l.filterMap (·.v.ownBlock)).Nodup → y ∈ l → x ∈ l → y = x := by
          intro l
          induction l with
          | nil => intro _ hy; cases hy
          | cons z l ih =>
            intro hn hy hx
            simp only [List.filterMap_cons] at hn
            rcases List.mem_cons.1 hy with e1 | hy' <;> rcases List.mem_cons.1 hx with e2 | hx'
            · rw [e1, e2]
            · subst e1; rw [hk] at hn; simp only [List.nodup_cons] at hn
              exact absurd (List.mem_filterMap.2 ⟨x, hx', hv⟩) hn.1
            · subst e2; rw [hv] at hn; simp only [List.nodup_cons] at hn
              exact absurd (List.mem_filterMap.2 ⟨y, hy', hk⟩) hn.1
            · refine ih ?_ hy' hx'
              split at hn
              · exact hn
              · exact (List.nodup_cons.1 hn).2
        exact key hn hy hx
      exact hyt (this ▸ hxt)
  have hboxne : ∀ b, b ∈ σ.box.map (·.1) ++ σ.map.map (·.1) → b ≠ g' := by
    intro b hb e
    subst e
    rcases hcase with ⟨h1, _⟩ | ⟨x, hx, _, hv, _⟩
    · have := owned_lt h.ss (b := b) (by simp only [owned, List.mem_append] at hb ⊢; exact .inl hb); omega
    · exact (List.nodup_append.1 h.ss.nodup).2.2 b hb b (List.mem_filterMap.2 ⟨x, hx, hv⟩) rfl
  obtain ⟨uk1, uk2⟩ := ungrow_keys σ t
  have hnt : ∀ s, NoTag t (getA (untagS t f.sl) s) := fun s => by rw [getA_untag]; exact NoTag.self htn _
  have hh := h.untag t
  refine ⟨⟨fun b cs hm => ?_, fun b l hm => ?_, fun x hx => ?_, ?_, ?_, fun g => RepAt.mono H _ _ _ (h.ss.glob g), fun b hb => ?_⟩, ⟨h.fs.size, h.fs.defers, fun s => Rep.mono H _ _ (hh.fs.rep s), fun s => ?_, fun t' n ht' => ?_⟩,
    h.since.step H hos htape hout hsize fun b hb hD => ?_, fun b hb => ?_⟩
  · obtain ⟨c, T, k1, k2, k3, k4, k5⟩ := ungrow_box h.ss hm
    have hbm : b ∈ σ.box.map (·.1) := by rw [← uk1]; exact List.mem_map.2 ⟨_, hm, rfl⟩
    have hne := hboxne b (List.mem_append.2 (.inl hbm))
    have hlt : b < w.heap.size := (Array.getElem?_eq_some_iff.1 k1).1
    refine ⟨⟨c, T, (hkeep b hlt hne).trans k1, RepL.mono H _ _ k2, fun o sz xs ho => ?_⟩, by simp only [if_neg hne]; exact k3, k4⟩
    obtain ⟨hne', x, hx, e1, e2, e3⟩ := k5 o sz xs ho
    exact ⟨x, List.mem_cons_of_mem _ (List.mem_filter.2 ⟨hx, by simp only [decide_eq_true_eq]; rw [e1]; exact hne'⟩), e1, e2, e3⟩
  · rw [uk2] at hm
    obtain ⟨⟨o, k1, k2⟩, k3⟩ := h.ss.map b l hm
    have hne := hboxne b (List.mem_append.2 (.inr (List.mem_map.2 ⟨_, hm, rfl⟩)))
    have hlt : b < w.heap.size := (Array.getElem?_eq_some_iff.1 k1).1
    exact ⟨⟨o, (hkeep b hlt hne).trans k1, MORep.mono H k2⟩, by simp only [if_neg hne]; exact k3⟩
  · rcases List.mem_cons.1 hx with rfl | hx
    · exact ⟨htn, ⟨zs, hrow⟩, hpos, fun k hk => by rw [hg] at hk; simp only [Option.some.injEq] at hk; subst hk; simp, fun b o e => Nat.lt_of_lt_of_le (htl b o e) hsize⟩
    · obtain ⟨hx1, hx2⟩ := List.mem_filter.1 hx
      simp only [decide_eq_true_eq] at hx2
      exact (h.ss.own x hx1).keep (fun k hk => ⟨hkeep k (own_lt (h.ss.own x hx1) hk) (hfresh x hx1 hx2 k hk), if_neg (hfresh x hx1 hx2 k hk)⟩) hsize
  · simp only [List.map_cons, List.nodup_cons]
    refine ⟨fun hm => ?_, h.ss.tags.sublist (List.Sublist.map _ List.filter_sublist)⟩
    obtain ⟨y, hy, e⟩ := List.mem_map.1 hm
    have := (List.mem_filter.1 hy).2
    simp only [decide_eq_true_eq] at this
    exact this e
  · show (owned _ _).Nodup
    simp only [owned, uk1, uk2, List.filterMap_cons, hg]
    have hn : (σ.box.map (·.1) ++ σ.map.map (·.1) ++ Ω.filterMap (·.v.ownBlock)).Nodup := h.ss.nodup
    rw [List.nodup_append] at hn ⊢
    refine ⟨hn.1, List.nodup_cons.2 ⟨fun hm => ?_, hn.2.1.sublist (List.Sublist.filterMap _ List.filter_sublist)⟩, fun x hx y hy => ?_⟩
    · obtain ⟨y, hy, e⟩ := List.mem_filterMap.1 hm
      obtain ⟨hy1, hy2⟩ := List.mem_filter.1 hy
      simp only [decide_eq_true_eq] at hy2
      exact hfresh y hy1 hy2 g' e rfl
    · rcases List.mem_cons.1 hy with rfl | hy
      · exact hboxne x hx
      · obtain ⟨z, hz, e⟩ := List.mem_filterMap.1 hy
        exact hn.2.2 x hx y (List.mem_filterMap.2 ⟨z, (List.mem_filter.1 hz).1, e⟩)
  · have hb1 : w'.heap.size ≤ b := hb
    have : b ≠ g' := by omega
    simp only [if_neg this]
    exact h.ss.fits b (by omega)
  · have hto := hh.fs.tag s
    have hnt' := hnt s
    simp only at hto
    revert hto hnt'
    generalize getA (untagS t f.sl) s = v
    intro hto hnt'
    cases v with
    | list t' ys =>
      intro x hx hxt hxn
      rcases List.mem_cons.1 hx with rfl | hx
      · exact absurd rfl (fun e : AV.list t' ys = AV.list t' ys => hnt'.1 ys (by rw [← hxt]))
      · exact hto x (List.mem_filter.1 hx).1 hxt hxn
    | agg es =>
      intro vs hvs i t' ys hi x hx hxt hxn
      rcases List.mem_cons.1 hx with rfl | hx
      · exact absurd (List.mem_of_getElem? hi) (by rw [← hxt]; exact hnt'.2 es rfl ys)
      · exact hto vs hvs i t' ys hi x (List.mem_filter.1 hx).1 hxt hxn
    | _ => trivial
  · simp only [getT] at ht'
    split at ht'
    · rename_i e1
      subst e1
      simp only [Option.some.injEq] at ht'
      exact ⟨_, List.mem_cons_self, rfl, ht'⟩
    · rename_i e1
      rw [getT_del, if_neg e1] at ht'
      obtain ⟨x, hx, k1, k2⟩ := h.fs.ow t' n ht'
      exact ⟨x, List.mem_cons_of_mem _ (List.mem_filter.2 ⟨hx, by simp only [decide_eq_true_eq]; rw [k1]; exact fun e => e1 e.symm⟩), k1, k2⟩
  · have hlt : b < w.heap.size := Nat.lt_of_lt_of_le hb h.since.size
    have hne : b ≠ g' := by
      intro e
      subst e
      rcases hcase with ⟨h1, _⟩ | ⟨x, hx, _, hv, _⟩
      · omega
      · rcases h.mine b (by simp only [owned, List.mem_append, List.mem_filterMap]; exact .inr ⟨x, hx, hv⟩) with hh | hh
        · exact hD hh
        · omega
    exact ⟨hkeep b hlt hne, if_neg hne⟩
  · simp only [owned, uk1, uk2, List.filterMap_cons, hg, List.mem_append, List.mem_cons] at hb
    rcases hb with hb | rfl | hb
    · exact h.mine b (by simp only [owned, List.mem_append]; exact .inl hb)
    · rcases hcase with ⟨h1, _⟩ | ⟨x, hx, _, hv, _⟩
      · exact .inr (by rw [h1]; exact h.since.size)
      · exact h.mine _ (by simp only [owned, List.mem_append, List.mem_filterMap]; exact .inr ⟨x, hx, hv⟩)
    · obtain ⟨y, hy, e⟩ := List.mem_filterMap.1 hb
      exact h.mine b (by simp only [owned, List.mem_append, List.mem_filterMap]; exact .inr ⟨y, (List.mem_filter.1 hy).1, e⟩)

theorem append_room (t ty e e0 : TypeId) (i : TypeInfo) (ht : P.underlying t = some (.slice e)) (hi : P.info? e = some i)
    (g sLen sCap : Nat) (cur : Array Value) (hg : w.heap[g]? = some (.cells cur e0 (0, 0)))
    (a : Addr) (m c : Nat) (news : List Value) (hl : news.length = m * i.size) (hnews : ∀ j u, news[j]? = some u → w.cell? (a.add j) = some u) (h1 : ∀ u ∈ news, u.oneCell' = true)
    (hroom : sLen + m ≤ sCap) (hfit : sLen * i.size + news.length ≤ cur.size) :
    (Builtin.append_ #[t, t] ty #[.slice (some ⟨g, 0, none⟩) sLen sCap, .slice (some a) m c]).run P w =
      .ok (.slice (some ⟨g, 0, none⟩) (sLen + m) sCap) (w.setRow g (cur.toList.take (sLen * i.size) ++ news ++ cur.toList.drop (sLen * i.size + news.length)).toArray) := by
  have hf := run_firstCells_some (P := P) w i.size m a m c news hl hnews
  have hst := run_storeCells_at P g (sLen * i.size) e0 news 0 cur w hg (by simpa using hfit) h1
  simp only [Nat.add_zero] at hst
  simp [Builtin.append_, run_underlying ht, sizeOf, typeInfo, hi, Builtin.lenOf, hroom, hf, Addr.add_lit, hst]

/-- Growing an array of one's own by at least one element. -/
theorem append_cases (t ty e e0 : TypeId) (i : TypeInfo) (z : Value) (size bytes : Nat) (ht : P.underlying t = some (.slice e)) (hi : P.info? e = some i) (hz : i.zero = some z)
    (hsize : i.size = size) (hby : i.bytes = bytes) (hzs : z.cells.size = size) (hsz : 0 < size)
    (v : Value) (n : Nat) (xs : List Value) (hown : w.ownsRow 0 e0 size v n xs)
    (A : Addr) (m c : Nat) (news : List Value) (hl : news.length = m * size) (hnews : ∀ j u, news[j]? = some u → w.cell? (A.add j) = some u) (h1 : ∀ u ∈ news, u.oneCell' = true)
    (hm : 0 < m) (h63 : n + m ≤ maxLen) (hbytes : (n + m) * bytes ≤ 140737488355328) :
    ∃ w' g' cap' cur' e1, (Builtin.append_ #[t, t] ty #[v, .slice (some A) m c]).run P w = .ok (.slice (some ⟨g', 0, none⟩) (n + m) cap') w' ∧ w'.heap[g']? = some (.cells cur' e1 (0, 0)) ∧ n + m ≤ cap' ∧ cap' ≤ maxLen ∧
      cur'.size = cap' * size ∧ cur'.toList.take ((n + m) * size) = xs ++ news ∧ w.grownBy w' v.ownBlock ∧
      ((g' = w.heap.size ∧ ∀ k, k < w.heap.size → w'.heap[k]? = w.heap[k]?) ∨ (v.ownBlock = some g' ∧ w'.heap.size = w.heap.size)) := by
  subst hsize
  subst hby
  have hsmall : n + m ≤ 9223372036854775807 := by simp only [maxLen] at h63; omega
  have hlen : (xs ++ news).length = (n + m) * i.size := by rw [List.length_append, hown.1, hl, Nat.add_mul]
  have grown : ∀ (old : Nat), (w.drew.alloc (.cells (xs.toArray ++ news.toArray ++ Builtin.zeroCells z.cells (grownCap w (n + m) old e - (n + m))) e)).heap[w.heap.size]? = some (.cells (xs.toArray ++ news.toArray ++ Builtin.zeroCells z.cells (grownCap w (n + m) old e - (n + m))) e (0, 0)) ∧
      n + m ≤ grownCap w (n + m) old e ∧ grownCap w (n + m) old e ≤ maxLen ∧ (xs.toArray ++ news.toArray ++ Builtin.zeroCells z.cells (grownCap w (n + m) old e - (n + m))).size = grownCap w (n + m) old e * i.size ∧
      (xs.toArray ++ news.toArray ++ Builtin.zeroCells z.cells (grownCap w (n + m) old e - (n + m))).toList.take ((n + m) * i.size) = xs ++ news ∧ ∀ row, w.grownBy (w.drew.alloc (.cells (xs.toArray ++ news.toArray ++ Builtin.zeroCells z.cells (grownCap w (n + m) old e - (n + m))) e)) row := by
    intro old
    have hge := grownCap_ge w (n + m) old e
    have hcm : grownCap w (n + m) old e ≤ maxLen := grownCap_le_maxLen w (n + m) old e h63
    refine ⟨heap_alloc_new w.drew _, hge, hcm, ?_, ?_, fun row => ⟨rfl, rfl, rfl, by simp, fun k hk _ => heap_alloc_old w.drew _ hk⟩⟩
    · simp only [Array.size_append, List.size_toArray, size_zeroCells, hzs, hown.1, hl, ← Nat.add_mul]
      congr 1
      omega
    · simp only [Array.toList_append, List.append_assoc]
      rw [← List.append_assoc, ← hlen]
      exact List.take_left
  rcases hown.2 with ⟨rfl, rfl⟩ | ⟨g, cap, cur, rfl, hbg, hg, hnc, hcm, hcs, htake⟩
  · have hx : xs = [] := List.eq_nil_of_length_eq_zero (by simpa using hown.1)
    subst hx
    have hr := run_append_nil (P := P) w t ty e i z ht hi hz A m c news hl hnews (by omega) (by omega) (by have hb := hbytes; simp only [Nat.zero_add] at hb; omega)
    obtain ⟨g1, g2, g3, g4, g5, g6⟩ := grown 0
    simp only [Nat.zero_add, List.nil_append, Array.empty_append] at g1 g2 g3 g4 g5 g6 ⊢
    exact ⟨_, _, _, _, e, hr, g1, g2, g3, g4, g5, g6 _, .inl ⟨rfl, fun k hk => heap_alloc_old w.drew _ hk⟩⟩
  · by_cases hroom : n + m ≤ cap
    · have hfit : n * i.size + news.length ≤ cur.size := by rw [hl, hcs, ← Nat.add_mul]; exact Nat.mul_le_mul_right _ hroom
      have hr := append_room (P := P) t ty e e0 i ht hi g n cap cur hg A m c news hl hnews h1 hroom hfit
      refine ⟨_, _, _, _, e0, hr, setRow_heap w g cur _ e0 _ hg, hroom, hcm, ?_, ?_, ⟨rfl, rfl, rfl, by simp, fun k _ hk => setRow_other w g k _ (fun e => hk (by simp [Value.ownBlock, e]))⟩, .inr ⟨rfl, by simp⟩⟩
      · simp only [List.size_toArray, List.length_append, List.length_take, List.length_drop, Array.length_toList]
        omega
      · rw [htake, ← hlen]
        exact List.take_left
    · have holds : ∀ j u, xs[j]? = some u → w.cell? ((⟨g, 0, none⟩ : Addr).add j) = some u := hown.cells (g := g) rfl
      have hr := run_append_grow (P := P) w t ty e i z ht hi hz ⟨g, 0, none⟩ n cap xs hown.1 holds A m c news hl hnews (by omega) (by omega) (growslice_fits (by omega) hbytes)
      obtain ⟨g1, g2, g3, g4, g5, g6⟩ := grown cap
      exact ⟨_, _, _, _, e, hr, g1, g2, g3, g4, g5, g6 _, .inl ⟨rfl, fun k hk => heap_alloc_old w.drew _ hk⟩⟩

theorem ownsRow_of {e : TypeId} {size n cap g' : Nat} {cur : Array Value} {xs : List Value} (hx : xs.length = n * size) (hg : w.heap[g']? = some (.cells cur e (0, 0))) (h1 : n ≤ cap) (h2 : cap ≤ maxLen) (h3 : cur.size = cap * size) (h4 : cur.toList.take (n * size) = xs) :
    w.ownsRow 0 e size (.slice (some ⟨g', 0, none⟩) n cap) n xs := ⟨hx, .inr ⟨g', cap, cur, rfl, Nat.zero_le _, hg, h1, h2, h3, h4⟩⟩

theorem row_cell {g' off : Nat} {cur : Array Value} {e : TypeId} (hg : w.heap[g']? = some (.cells cur e (0, 0))) : w.cell? ⟨g', off, none⟩ = cur[off]? := by
  simp [World.cell?, hg]

theorem RepL.erRows : ∀ {xs : List (List AV)} {vs : List Value}, RepL w φ xs.flatten vs → RepL w φ (xs.map fun x => x.map Av.er).flatten vs
  | [], _, h => h
  | x :: xs, _, h => by
    simp only [List.flatten_cons] at h
    obtain ⟨us, ts, rfl, h1, h2⟩ := RepL.of_append h
    simp only [List.map_cons, List.flatten_cons]
    exact RepL.append h1.er (RepL.erRows h2)

/-- What a slice's elements are made of. -/
theorem list_vals {tg : Tag} {ys : List (List AV)} {v : Value} {sz : Nat} (h : Rep w φ (.list tg ys) v) (hne : ys ≠ []) (hsz : ∀ y ∈ ys, y.length = sz) :
    ∃ A c news, v = .slice (some A) ys.length c ∧ news.length = ys.length * sz ∧ RepL w φ ys.flatten news ∧ ∀ j u, news[j]? = some u → w.cell? (A.add j) = some u := by
  simp only [Rep] at h
  obtain ⟨A, n, c, rfl, h1, h2, h3⟩ := h
  obtain ⟨b, o, s, rfl, h4⟩ := h3.resolve_left hne
  obtain ⟨vs, k1, k2, k3⟩ := RepRows.vals h4
  have : s = sz := by
    cases ys with
    | nil => exact absurd rfl hne
    | cons y ys => simp only [RepRows] at h4; rw [← h4.1, hsz y (by simp)]
  subst this
  exact ⟨_, c, vs, by rw [h1], k1, k2, fun j u hj => by rw [addr_add]; exact k3 j u hj⟩

theorem flatten_len {ys : List (List AV)} {sz : Nat} (h : ∀ y ∈ ys, y.length = sz) : ys.flatten.length = ys.length * sz := by
  induction ys with
  | nil => simp
  | cons y ys ih => simp [ih fun z hz => h z (by simp [hz]), h y (by simp), Nat.add_mul]; omega

/-- append: an array of one's own, and at least one element. -/
theorem SR.append (hE : EnvOK P E) (h : SR E g f σ a w φ Ω) {t ty e : TypeId} {l le : Lay} {tg tgy : Tag} {xs ys : List (List AV)} {v u : Value} (hl : E.lay t = some l) (hk : l.kind = .slice e) (hle : E.lay e = some le) (hz : isAny le.zero = false) (hzc : le.zero.cells.length = le.size) (hzo : le.zero.cells.all AV.one = true)
    (hpos : 0 < le.size) (hx : Rep w φ (.list tg xs) v) (htag : tg ≠ .none) (hown : ownLen f σ tg = some (xs.length, le.size)) (hto : TagOK Ω (.list tg xs) v) (hxs : ∀ y ∈ xs, y.length = le.size) (hu : Rep w φ (.list tgy ys) u) (hys : ∀ y ∈ ys, y.length = le.size) (hyo : ys.flatten.all AV.one = true) (hne : ys ≠ [])
    (hmax : (xs.length + ys.length) * (le.bytes + 1) ≤ 140737488351232) :
    ∃ v' w' φ' Ω', (Builtin.append_ #[t, t] ty #[v, u]).run P w = .ok v' w' ∧ Rep w' φ' (.list tg (xs ++ ys.map fun y => y.map er)) v' ∧ TagOK Ω' (.list tg (xs ++ ys.map fun y => y.map er)) v' ∧
      SR E g { f with sl := untagS tg f.sl, ow := (tg, (xs.length + ys.length, le.size)) :: delT f.ow tg } (ungrow σ tg) a w' φ' Ω' := by
  obtain ⟨ti, d, hti, hd, _, _, _, e4, _⟩ := mkLay_spec (hE t l hl)
  have := mkKind_slice (hk.symm.trans e4)
  subst this
  obtain ⟨te, de, hte, hde, f1, f2, f3, f4, f5⟩ := mkLay_spec (hE e le hle)
  obtain ⟨z, hz1, hz2⟩ := zero_rep f5 hz
  have hrz : Rep w φ le.zero z := by rw [hz2]; exact Rep.ofC z
  have hzs : z.cells.size = le.size := by rw [(hrz.cellsOf hzo).2, hzc]
  obtain ⟨x, hxm, hxt, hxp⟩ := ownLen_entry h hown
  have hxn : x.n = xs.length := congrArg Prod.fst hxp
  have hxs' : x.sz = le.size := congrArg Prod.snd hxp
  have hvx := hto x hxm hxt hxn
  subst hvx
  obtain ⟨zs, hrow⟩ := (h.ss.own x hxm).row
  obtain ⟨A, c, news, rfl, n1, n2, n3⟩ := list_vals hu hne hys
  have hym : 0 < ys.length := List.length_pos_iff.2 hne
  rw [hxn, hxs'] at hrow
  have hml : xs.length + ys.length ≤ (xs.length + ys.length) * (le.bytes + 1) := Nat.le_mul_of_pos_right _ (by omega)
  have hmb : (xs.length + ys.length) * le.bytes ≤ (xs.length + ys.length) * (le.bytes + 1) := Nat.mul_le_mul_left _ (by omega)
  -- the cells of what is there
  have hzl : RepL w φ xs.flatten zs := by
    by_cases hx0 : xs = []
    · subst hx0
      have : zs = [] := List.eq_nil_of_length_eq_zero (by rw [hrow.1]; simp)
      subst this
      exact RepL.nil
    · obtain ⟨A', c', vs, hv, m1, m2, m3⟩ := list_vals hx hx0 hxs
      rcases hrow.2 with ⟨hvn, _⟩ | ⟨g0, cap, cur, hvg, _, hg0, _, _, _, htake⟩
      · rw [hvn] at hv; cases hv
      · rw [hvg] at hv
        injection hv with hA _ _
        injection hA with hA
        have : vs = zs := by
          apply List.ext_getElem?
          intro j
          rcases Nat.lt_or_ge j vs.length with hj | hj
          · have h1 := m3 j vs[j] (List.getElem?_eq_getElem hj)
            rw [← hA, addr_add, Nat.zero_add, row_cell hg0] at h1
            rw [List.getElem?_eq_getElem hj, ← htake, List.getElem?_take, if_pos (by rw [← m1]; exact hj), Array.getElem?_toList, h1]
          · rw [List.getElem?_eq_none hj, List.getElem?_eq_none (by rw [hrow.1, ← m1]; exact hj)]
        rw [← this]; exact m2
  obtain ⟨w', g', cap', cur', e1', r1, r2, r3, r4, r5, r6, r7, r8⟩ := append_cases (P := P) t ty e x.e te z le.size le.bytes hd hte hz1 f1.symm f2.symm hzs hpos x.v xs.length zs hrow A ys.length c news n1 n3 (n2.one hyo) hym (by unfold maxLen; omega) (by omega)
  have hrow' : w'.ownsRow 0 e1' le.size (.slice (some ⟨g', 0, none⟩) (xs.length + ys.length) cap') (xs.length + ys.length) (zs ++ news) :=
    ownsRow_of (by rw [List.length_append, hrow.1, n1, Nat.add_mul]) r2 r3 r4 r5 r6
  have hcell' : ∀ j u, (zs ++ news)[j]? = some u → w'.cell? ⟨g', j, none⟩ = some u := by
    intro j u hj
    rw [row_cell r2]
    rw [← r6, List.getElem?_take] at hj
    split at hj
    · simpa using hj
    · cases hj
  have hsr := h.newArr (w' := w') (t := tg) (n' := xs.length + ys.length) htag (fun b o e => by
      have := (h.ss.own x hxm).lim b o (hxt.trans e); exact this) hrow' rfl hpos r7.os r7.tape r7.output (by
      rcases r8 with ⟨e1, e2⟩ | ⟨e1, e2⟩
      · exact .inl ⟨e1, r7.size, e2⟩
      · refine .inr ⟨x, hxm, hxt, e1, e2, fun k hk hne => r7.block k hk (by rw [e1]; simpa using hne), ?_, fun off hoff => ?_⟩
        · rw [hxn, hxs']; exact Nat.mul_le_mul_right _ (by omega)
        · rw [hxn, hxs'] at hoff
          rcases hrow.2 with ⟨hvn, _⟩ | ⟨g0, cap, cur, hvg, _, hg0, _, _, _, htake⟩
          · rw [hvn] at e1; cases e1
          · have hgg : g0 = g' := by rw [hvg] at e1; simpa [Value.ownBlock] using e1
            subst hgg
            have hlt : off < zs.length := by rw [hrow.1]; exact hoff
            rw [hcell' off zs[off] (by rw [List.getElem?_append_left hlt, List.getElem?_eq_getElem hlt]), row_cell hg0]
            have : zs[off]? = some zs[off] := List.getElem?_eq_getElem hlt
            rw [← this, ← htake, List.getElem?_take, if_pos hoff, Array.getElem?_toList])
  have H : Ext w φ w' (fun b => if b = g' then (xs.length + ys.length) * le.size else φ b) := by
    intro b off hb
    have hlt : b < w.heap.size := by
      rcases Nat.lt_or_ge b w.heap.size with h' | h'
      · exact h'
      · have := h.ss.fits b h'; omega
    by_cases eb : b = g'
    · subst eb
      rcases r8 with ⟨e1, _⟩ | ⟨e1, _⟩
      · omega
      · have hfr := (h.ss.own x hxm).front b e1
        rw [hxn, hxs'] at hfr
        rw [hfr] at hb
        simp only [if_true]
        refine ⟨Nat.lt_of_lt_of_le hb (Nat.mul_le_mul_right _ (by omega)), ?_⟩
        rcases hrow.2 with ⟨hvn, _⟩ | ⟨g0, cap, cur, hvg, _, hg0, _, _, _, htake⟩
        · rw [hvn] at e1; cases e1
        · have hgg : g0 = b := by rw [hvg] at e1; simpa [Value.ownBlock] using e1
          subst hgg
          have hlt : off < zs.length := by rw [hrow.1]; exact hb
          rw [hcell' off zs[off] (by rw [List.getElem?_append_left hlt, List.getElem?_eq_getElem hlt]), row_cell hg0]
          have : zs[off]? = some zs[off] := List.getElem?_eq_getElem hlt
          rw [← this, ← htake, List.getElem?_take, if_pos hb, Array.getElem?_toList]
    · simp only [if_neg eb]
      rcases r8 with ⟨_, e2⟩ | ⟨e1, _⟩
      · exact ⟨hb, World.cell?_of_block (e2 b hlt)⟩
      · exact ⟨hb, World.cell?_of_block (r7.block b hlt (by rw [e1]; simpa using eb))⟩
  refine ⟨_, w', _, _, r1, ?_, ?_, hsr⟩
  · simp only [Rep]
    refine ⟨_, _, _, rfl, by simp, r3, .inr ⟨g', 0, le.size, rfl, ?_⟩⟩
    refine RepRows.of_vals (vs := zs ++ news) (fun y hy => ?_) ?_ ?_ (fun j u hj => by rw [Nat.zero_add]; exact hcell' j u hj)
    · rcases List.mem_append.1 hy with hy | hy
      · exact hxs y hy
      · obtain ⟨y', hy', rfl⟩ := List.mem_map.1 hy
        simp [hys y' hy']
    · rw [List.flatten_append]
      exact RepL.append (RepL.mono H _ _ hzl) (RepL.mono H _ _ n2.erRows)
    · simp only [if_true, Nat.zero_add, List.length_append, hrow.1, n1, ← Nat.add_mul]; exact Nat.le_refl _
  · intro y hy hyt hyn
    rcases List.mem_cons.1 hy with rfl | hy
    · rfl
    · have := (List.mem_filter.1 hy).2
      simp only [decide_eq_true_eq] at this
      exact absurd hyt this
end
end Go.Proofs.YtpjkepfplhllfaaDoor.Av
