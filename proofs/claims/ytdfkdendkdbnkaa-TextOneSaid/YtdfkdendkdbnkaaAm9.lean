/- The abstract machine's append stands for the model's. -/
import Derived.Test.YtdfkdendkdbnkaaAm8
set_option linter.all false
namespace Go.AM
open Go Go.RowKit

section
variable {P : Program} {G : Gh} {w0 w : World} {st : St}

theorem getElem?_app_left {l r : List Value} {q : Nat} {v : Value} (h : l[q]? = some v) : (l ++ r)[q]? = some v := by
  rw [List.getElem?_append]
  have : q < l.length := by
    rcases Nat.lt_or_ge q l.length with h' | h'
    · exact h'
    · rw [List.getElem?_eq_none h'] at h; cases h
  rw [if_pos this]
  exact h

theorem ownAt_lt {n g cap size : Nat} (h : OwnAt G w0 w n g cap size) : g < w.heap.size := by
  obtain ⟨cur, e, _, h2, _⟩ := h
  exact block_lt h2

theorem grow_ok (hR : Rel G w0 st w) {t t2 ty e : TypeId} {d2 : TypeDesc} {ti : TypeInfo} {z : Value} (ht : P.underlying t = some (.slice e)) (ht2 : P.underlying t2 = some d2) (hd2 : d2 = .string ∨ ∃ e2, d2 = .slice e2) (hi : P.info? e = some ti) (hz : ti.zero = some z) (hzs : z.cells.size = ti.size)
    {A : Option Addr} {cap : Nat} {rows news : List (List AV)} (hF : Fz G.H (.sl .ext rows) (.slice A rows.length cap)) (hrs : ∀ row ∈ rows, row.length = ti.size) (hns : ∀ row ∈ news, row.length = ti.size) {vx : Value} {us : Nat → Nat → Value} (hsrc : Src P G.H w vx ti.size news us)
    (hpos : 0 < ti.size) (hlt : cap < rows.length + news.length) (h63 : rows.length + news.length ≤ 9223372036854775807) (hfit : (rows.length + news.length) * ti.bytes ≤ 2 ^ 47)
    {d site ver : Nat} (hω : G.ω (d, site) ver = none) (hv : ver < st.nx) {ow' : List (Key × Nat × Nat)} (hk : lk ow' (d, site) = some (ver, rows.length + news.length)) (hne : ∀ k x, k ≠ (d, site) → lk ow' k = some x → lk st.ow k = some x) :
    ∃ v w' G', (Builtin.append_ #[t, t2] ty #[.slice A rows.length cap, vx]).run P w = .ok v w' ∧ R G' (.sl (.id (d, site) ver) (rows ++ news)) v ∧ Step G G' w0 st { st with ow := ow' } w' d site ver := by
  obtain ⟨us1, h1⟩ := Src.slice (P := P) hR hF hrs
  have hdrew : w.drew.heap = w.heap := rfl
  have hrun := run_app_grow (ty := ty) ht ht2 hd2 hi hz (base := A) (cap := cap) (hsrc.len w) (hsrc.first w.drew hdrew) (h1.first w.drew hdrew) hlt h63 hfit
  have hall := flat_append us1 us rows.length news.length ti.size hpos
  have hrows : ∀ row ∈ rows ++ news, row.length = ti.size := by
    intro row h
    rcases List.mem_append.1 h with h | h
    · exact hrs row h
    · exact hns row h
  have hfz := rows_append (H := G.H) (p := fun a v => Fz G.H a v) h1.fz hsrc.fz rfl
  have hone := rows_append (H := G.H) (p := fun _ v => v.oneCell' = true) h1.one hsrc.one rfl
  generalize hcap' : grownCap w (rows.length + news.length) cap e = cap' at hrun
  have hcapge : rows.length + news.length ≤ cap' := by
    rw [← hcap']; unfold grownCap Question.cut; exact Nat.le_add_right _ _
  have hcs : ∀ (q : Nat) v, (flat (fun i j => if i < rows.length then us1 i j else us (i - rows.length) j) (rows ++ news).length ti.size)[q]? = some v →
      ((flat us1 rows.length ti.size).toArray ++ (flat us news.length ti.size).toArray ++ Builtin.zeroCells z.cells (cap' - (rows.length + news.length)))[q]? = some v := by
    intro q v h
    rw [List.length_append, hall] at h
    rw [← Array.getElem?_toList]
    simp only [Array.toList_append]
    exact getElem?_app_left h
  obtain ⟨hstep, hF'⟩ := newRows (w1 := w.drew) hR hrows hfz hone hcs (e := e) hdrew ((Below.refl _ _).drew) cap' (by rw [List.length_append]; exact hcapge) (d := d) (site := site) (ver := ver)
  simp only [List.length_append] at hstep hF'
  have hnew := heap_alloc_new w.drew (.cells ((flat us1 rows.length ti.size).toArray ++ (flat us news.length ti.size).toArray ++ Builtin.zeroCells z.cells (cap' - (rows.length + news.length))) e)
  rw [show w.drew.heap.size = w.heap.size from rfl] at hnew
  have hrel := hR.newOwn (g := w.heap.size) (cap := cap') (size := ti.size) (n := rows.length + news.length) (key := (d, site)) (ver := ver)
    (w' := w.drew.alloc (.cells ((flat us1 rows.length ti.size).toArray ++ (flat us news.length ti.size).toArray ++ Builtin.zeroCells z.cells (cap' - (rows.length + news.length))) e))
    (H' := fun g o => if g = w.heap.size then (flat (fun i j => if i < rows.length then us1 i j else us (i - rows.length) j) (rows.length + news.length) ti.size)[o]? else G.H g o)
    hR.bel.size rfl rfl rfl (by simp) (fun i hi2 _ => Below.heap_alloc _ _ _ hi2) (fun k v cs h1 h2 => by
      obtain ⟨_, _, _, hb, _⟩ := hR.bx k v cs _ h1 h2
      have := block_lt hb
      omega) hstep.le.H (fun g o v h => by
      have h' : (if g = w.heap.size then (flat (fun i j => if i < rows.length then us1 i j else us (i - rows.length) j) (rows.length + news.length) ti.size)[o]? else G.H g o) = some v := h
      split at h'
      · rename_i hg
        subst hg
        refine .inr ⟨rfl, (hstep.rel.ext _ o v (by show (if w.heap.size = w.heap.size then _ else _) = _; rw [if_pos rfl]; exact h')).1, (hstep.rel.ext _ o v (by show (if w.heap.size = w.heap.size then _ else _) = _; rw [if_pos rfl]; exact h')).2, ?_⟩
        rw [flat_get] at h'
        split at h'
        · rename_i hq; exact hq
        · cases h'
      · rename_i hg; exact .inl ⟨hg, h'⟩) hnew (by
      simp only [Array.size_append, List.size_toArray, flat_len, size_zeroCells, hzs]
      rw [← Nat.add_mul, ← Nat.add_mul]
      congr 1
      omega) hcapge hpos hω hv hk hne (fun k v m g' c s hk1 hk2 hk3 => by
      obtain ⟨g1, c1, s1, e1, e2, _⟩ := hR.ow k v m (hne k _ hk1 hk2)
      rw [hk3] at e1
      cases e1
      have := ownAt_lt e2
      omega)
  refine ⟨_, _, _, hrun, ?_, ⟨?_, hrel, Nat.le_refl _, ?_, fun _ _ _ _ _ _ _ h => h, hstep.newH⟩⟩
  · refine .sl _ _ _ _ _ hF' ⟨w.heap.size, ti.size, ?_, rfl, fun i row hrow => ⟨hrows row (List.mem_of_getElem? hrow), fun j a ha => ?_⟩⟩
    · show (if _ = _ ∧ _ = _ then some (w.heap.size, cap', ti.size) else _) = _
      rw [if_pos ⟨rfl, rfl⟩]
    · refine ⟨(fun i j => if i < rows.length then us1 i j else us (i - rows.length) j) i j, ?_⟩
      show (if w.heap.size = w.heap.size then _ else _) = _
      rw [if_pos rfl]
      refine flat_at (fun i j => if i < rows.length then us1 i j else us (i - rows.length) j) ?_ ?_
      · rcases Nat.lt_or_ge i (rows ++ news).length with h | h
        · rw [List.length_append] at h; exact h
        · rw [List.getElem?_eq_none h] at hrow; cases hrow
      · rw [← hrows row (List.mem_of_getElem? hrow)]
        rcases Nat.lt_or_ge j row.length with h | h
        · exact h
        · rw [List.getElem?_eq_none h] at ha; cases ha
  · exact Gh.le_setω hstep.le.H hω _
  · intro k v _ hkv
    refine ⟨rfl, ?_⟩
    show (if k = (d, site) ∧ v = ver then _ else G.ω k v) = _
    rw [if_neg (by rintro ⟨rfl, rfl⟩; exact hkv rfl)]

theorem room_ok (hR : Rel G w0 st w) {t t2 ty e : TypeId} {d2 : TypeDesc} {ti : TypeInfo} (ht : P.underlying t = some (.slice e)) (ht2 : P.underlying t2 = some d2) (hd2 : d2 = .string ∨ ∃ e2, d2 = .slice e2) (hi : P.info? e = some ti)
    {k : Key} {v g cap : Nat} {rows news : List (List AV)} (hF : Fz G.H (.sl .ext rows) (.slice (some ⟨g, 0, none⟩) rows.length cap)) (hrs : ∀ row ∈ rows, row.length = ti.size) (hns : ∀ row ∈ news, row.length = ti.size) {vx : Value} {us : Nat → Nat → Value} (hsrc : Src P G.H w vx ti.size news us)
    (hlk : lk st.ow k = some (v, rows.length)) (hωk : G.ω k v = some (g, cap, ti.size)) (hle : rows.length + news.length ≤ cap)
    {d site ver : Nat} (hω : G.ω (d, site) ver = none) (hv : ver < st.nx) (hrows0 : 0 < rows.length) :
    ∃ x w' G', (Builtin.append_ #[t, t2] ty #[.slice (some ⟨g, 0, none⟩) rows.length cap, vx]).run P w = .ok x w' ∧ R G' (.sl (.id (d, site) ver) (rows ++ news)) x ∧ Step G G' w0 st { st with ow := st_ (del st.ow k) (d, site) (ver, rows.length + news.length) } w' d site ver := by
  obtain ⟨g1, cap1, size1, e1, ⟨cur, eb, hge, hheap, hcur, hncap, hpos, hnone⟩, hbox⟩ := hR.ow k v _ hlk
  rw [hωk] at e1
  cases e1
  obtain ⟨us1, h1⟩ := Src.slice (P := P) hR hF hrs
  have hmul : (rows.length + news.length) * ti.size ≤ cap * ti.size := Nat.mul_le_mul_right _ hle
  rw [Nat.add_mul] at hmul
  have hst := run_storeCells_at (P := P) g (rows.length * ti.size) eb (flat us news.length ti.size) 0 cur w hheap (by rw [flat_len]; omega) (by
    intro x hx
    obtain ⟨q, hq, rfl⟩ := List.getElem_of_mem hx
    have hq2 : (flat us news.length ti.size)[q]? = some (flat us news.length ti.size)[q] := List.getElem?_eq_getElem hq
    generalize (flat us news.length ti.size)[q] = x0 at hq2 ⊢
    rw [flat_get] at hq2
    split at hq2
    · rename_i hlt
      cases hq2
      have hi2 : q / ti.size < news.length := Nat.div_lt_of_lt_mul (by rw [Nat.mul_comm]; exact hlt)
      have hm : q % ti.size < news[q / ti.size].length := by rw [hns _ (List.getElem_mem hi2)]; exact Nat.mod_lt _ hpos
      exact hsrc.one _ _ _ _ (List.getElem?_eq_getElem hi2) (List.getElem?_eq_getElem hm)
    · cases hq2)
  simp only [Nat.add_zero] at hst
  have hrun := run_app_room (ty := ty) ht ht2 hd2 hi (base := some ⟨g, 0, none⟩) (hsrc.len w) (hsrc.first w rfl) hle
  simp only [Addr.add_lit, Nat.zero_add] at hrun
  rw [hst] at hrun
  have hrows : ∀ row ∈ rows ++ news, row.length = ti.size := by
    intro row h
    rcases List.mem_append.1 h with h | h
    · exact hrs row h
    · exact hns row h
  -- the block behind the store
  have hw' := setRow_heap w g cur (cur.toList.take (rows.length * ti.size) ++ flat us news.length ti.size ++ cur.toList.drop (rows.length * ti.size + (flat us news.length ti.size).length)).toArray eb (0, 0) hheap
  generalize hW : w.setRow g (cur.toList.take (rows.length * ti.size) ++ flat us news.length ti.size ++ cur.toList.drop (rows.length * ti.size + (flat us news.length ti.size).length)).toArray = w' at hw' hrun
  have hcurl : cur.toList.length = cap * ti.size := by simp [hcur]
  have hleH : HLe G.H (fun g' o => if g' = g ∧ rows.length * ti.size ≤ o then (flat us news.length ti.size)[o - rows.length * ti.size]? else G.H g' o) := fun g' o x h => by
    show (if g' = g ∧ rows.length * ti.size ≤ o then _ else G.H g' o) = some x
    rw [if_neg (by rintro ⟨rfl, h2⟩; rw [hnone o h2] at h; cases h)]
    exact h
  -- the cells of rows, told by H
  have hold : ∀ o, o < rows.length * ti.size → ∀ x, cur[o]? = some x → w'.cell? ⟨g, o, none⟩ = some x := by
    intro o ho x hx
    simp only [World.cell?, hw', Option.isSome_none, Bool.false_eq_true, if_false]
    rw [← Array.getElem?_toList]
    rw [List.append_assoc]
    refine getElem?_app_left ?_
    rw [List.getElem?_take, if_pos ho, Array.getElem?_toList]
    exact hx
  have hnewc : ∀ (q : Nat) x, (flat us news.length ti.size)[q]? = some x → w'.cell? ⟨g, rows.length * ti.size + q, none⟩ = some x := by
    intro q x hx
    simp only [World.cell?, hw', Option.isSome_none, Bool.false_eq_true, if_false]
    rw [← Array.getElem?_toList]
    simp only []
    refine getElem?_app_left ?_
    rw [List.getElem?_append]
    have hl : (cur.toList.take (rows.length * ti.size)).length = rows.length * ti.size := by rw [List.length_take, hcurl]; omega
    rw [if_neg (by omega), hl, Nat.add_sub_cancel_left]
    exact hx
  have hnlen : ∀ (q : Nat) x, (flat us news.length ti.size)[q]? = some x → q < news.length * ti.size ∧ x.oneCell' = true := by
    intro q x hq
    rw [flat_get] at hq
    split at hq
    · rename_i hlt
      cases hq
      have hi2 : q / ti.size < news.length := Nat.div_lt_of_lt_mul (by rw [Nat.mul_comm]; exact hlt)
      have hm : q % ti.size < news[q / ti.size].length := by rw [hns _ (List.getElem_mem hi2)]; exact Nat.mod_lt _ hpos
      exact ⟨hlt, hsrc.one _ _ _ _ (List.getElem?_eq_getElem hi2) (List.getElem?_eq_getElem hm)⟩
    · cases hq
  have hrel := hR.newOwn (w' := w') (g := g) (cap := cap) (size := ti.size) (n := rows.length + news.length) (key := (d, site)) (ver := ver)
    (H' := fun g' o => if g' = g ∧ rows.length * ti.size ≤ o then (flat us news.length ti.size)[o - rows.length * ti.size]? else G.H g' o)
    (ow' := st_ (del st.ow k) (d, site) (ver, rows.length + news.length)) hge (by rw [← hW]; rfl) (by rw [← hW]; rfl) (by rw [← hW]; rfl) (by rw [← hW]; simp) (fun i hi2 hne => by rw [← hW]; exact setRow_other w g i _ hne) hbox hleH
    (fun g' o x h => by
      have h' : (if g' = g ∧ rows.length * ti.size ≤ o then (flat us news.length ti.size)[o - rows.length * ti.size]? else G.H g' o) = some x := h
      split at h'
      · rename_i hg
        obtain ⟨rfl, hg2⟩ := hg
        obtain ⟨h3, h4⟩ := hnlen _ _ h'
        have h5 := hnewc _ _ h'
        rw [show rows.length * ti.size + (o - rows.length * ti.size) = o from by omega] at h5
        exact .inr ⟨rfl, h5, h4, by rw [Nat.add_mul]; omega⟩
      · rename_i hg
        by_cases hgg : g' = g
        · subst hgg
          have ho : o < rows.length * ti.size := by
            rcases Nat.lt_or_ge o (rows.length * ti.size) with h3 | h3
            · exact h3
            · exact absurd ⟨rfl, h3⟩ hg
          obtain ⟨h3, h4⟩ := hR.ext _ o x h'
          simp only [World.cell?, hheap, Option.isSome_none, Bool.false_eq_true, if_false] at h3
          exact .inr ⟨rfl, hold o ho x h3, h4, by rw [Nat.add_mul]; omega⟩
        · exact .inl ⟨hgg, h'⟩) hw' (by simp only [List.size_toArray, List.length_append, List.length_take, List.length_drop, hcurl, flat_len]; omega) hle hpos hω hv (lk_st_same _ _ _)
    (fun k2 x hk2 h => by
      rw [lk_st_ne _ _ (Ne.symm hk2), lk_del] at h
      split at h
      · cases h
      · exact h)
    (fun k2 v2 m g2 c s hk2 h3 h4 => by
      rw [lk_st_ne _ _ (Ne.symm hk2), lk_del] at h3
      split at h3
      · cases h3
      · rename_i hn
        rintro rfl
        exact hn (hR.owinj k2 k v2 v m _ _ _ _ _ _ h3 hlk h4 hωk))
  obtain ⟨_, _, us0, g0, off0, hA0, hc0, hf0⟩ := hF.cells_of hrs
  have hgo := hA0 (by intro h; rw [h] at hrows0; simp at hrows0)
  injection hgo with hgo
  injection hgo with hg0 hoff0
  subst hg0
  subst hoff0
  have hfz := rows_append (H := G.H) (p := fun a v => Fz G.H a v) hf0 hsrc.fz rfl
  have hall := flat_append us0 us rows.length news.length ti.size hpos
  have hcell : ∀ (q : Nat) x, (flat (fun i j => if i < rows.length then us0 i j else us (i - rows.length) j) (rows.length + news.length) ti.size)[q]? = some x →
      (if g = g ∧ rows.length * ti.size ≤ q then (flat us news.length ti.size)[q - rows.length * ti.size]? else G.H g q) = some x := by
    intro q x hq
    rw [hall, List.getElem?_append, flat_len] at hq
    by_cases h : q < rows.length * ti.size
    · rw [if_pos h] at hq
      rw [if_neg (by omega)]
      have := hc0 q x hq
      simpa using this
    · rw [if_neg h] at hq
      rw [if_pos ⟨rfl, by omega⟩]
      exact hq
  have hat : ∀ (i : Nat) row (j : Nat) a, (rows ++ news)[i]? = some row → row[j]? = some a → i < rows.length + news.length ∧ j < ti.size := by
    intro i row j a h2 h3
    constructor
    · rcases Nat.lt_or_ge i (rows ++ news).length with h | h
      · rw [List.length_append] at h; exact h
      · rw [List.getElem?_eq_none h] at h2; cases h2
    · rw [← hrows row (List.mem_of_getElem? h2)]
      rcases Nat.lt_or_ge j row.length with h | h
      · exact h
      · rw [List.getElem?_eq_none h] at h3; cases h3
  refine ⟨_, _, _, hrun, ?_, ⟨Gh.le_setω hleH hω _, hrel, Nat.le_refl _, ?_, fun _ _ _ _ _ _ _ h => h, ?_⟩⟩
  · have hF2 : Fz (fun g' o => if g' = g ∧ rows.length * ti.size ≤ o then (flat us news.length ti.size)[o - rows.length * ti.size]? else G.H g' o) (.sl .ext (rows ++ news)) (.slice (some ⟨g, 0, none⟩) (rows ++ news).length cap) := by
      refine .sl _ _ _ ti.size g 0 (fun i j => if i < rows.length then us0 i j else us (i - rows.length) j) (fun _ => rfl) (by rw [List.length_append]; exact hle) (fun i row h => hrows row (List.mem_of_getElem? h)) ?_ (fun i row j a h2 h3 => (hfz i row j a h2 h3).mono hleH)
      intro i row j a h2 h3
      obtain ⟨hi2, hj⟩ := hat i row j a h2 h3
      have := hcell _ _ (flat_at (fun i j => if i < rows.length then us0 i j else us (i - rows.length) j) hi2 hj)
      rw [Nat.zero_add]
      exact this
    rw [List.length_append] at hF2
    refine .sl _ _ _ _ _ hF2 ⟨g, ti.size, ?_, rfl, fun i row hrow => ⟨hrows row (List.mem_of_getElem? hrow), fun j a ha => ?_⟩⟩
    · show (if _ = _ ∧ _ = _ then some (g, cap, ti.size) else _) = _
      rw [if_pos ⟨rfl, rfl⟩]
    · obtain ⟨hi2, hj⟩ := hat i row j a hrow ha
      exact ⟨_, hcell _ _ (flat_at (fun i j => if i < rows.length then us0 i j else us (i - rows.length) j) hi2 hj)⟩
  · intro k2 v2 _ hkv
    refine ⟨rfl, ?_⟩
    show (if k2 = (d, site) ∧ v2 = ver then _ else G.ω k2 v2) = _
    rw [if_neg (by rintro ⟨rfl, rfl⟩; exact hkv rfl)]
  · intro g' o x h
    have h' : (if g' = g ∧ rows.length * ti.size ≤ o then (flat us news.length ti.size)[o - rows.length * ti.size]? else G.H g' o) = some x := h
    split at h'
    · rename_i hg; obtain ⟨rfl, _⟩ := hg; exact .inr hge
    · exact .inl h'

end
end Go.AM
