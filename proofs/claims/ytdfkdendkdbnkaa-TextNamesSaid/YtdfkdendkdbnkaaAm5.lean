/- The abstract machine's operations with state: boxes. -/
import Derived.Test.YtdfkdendkdbnkaaAm4
set_option linter.all false
namespace Go.AM
open Go Go.RowKit

section lists
variable {α : Type}
theorem lk_st (l : List (Key × α)) (k : Key) (a : α) (k' : Key) : lk (st_ l k a) k' = if k = k' then some a else lk l k' := by
  induction l with
  | nil => simp [st_, lk]
  | cons x r ih =>
    obtain ⟨k1, b⟩ := x
    simp only [st_]
    split
    · rename_i h; subst h; simp only [lk]; split <;> rfl
    · rename_i h
      simp only [lk]
      split
      · rename_i h2; subst h2; rw [if_neg (fun e => h e.symm)]
      · rw [ih]
theorem lk_st_same (l : List (Key × α)) (k : Key) (a : α) : lk (st_ l k a) k = some a := by rw [lk_st, if_pos rfl]
theorem lk_st_ne (l : List (Key × α)) {k k' : Key} (a : α) (h : k ≠ k') : lk (st_ l k a) k' = lk l k' := by rw [lk_st, if_neg h]
theorem lk_filter (l : List (Key × α)) (p : Key → Bool) (k : Key) : lk (l.filter fun x => p x.1) k = if p k then lk l k else none := by
  induction l with
  | nil => simp [lk]
  | cons x r ih =>
    obtain ⟨k1, b⟩ := x
    simp only [List.filter_cons]
    by_cases h : k1 = k
    · subst h
      cases hp : p k1 with
      | true => simp [lk]
      | false => simp [ih, hp]
    · split
      · simp only [lk, if_neg h, ih]
      · simp only [ih, lk, if_neg h]
theorem lk_del (l : List (Key × α)) (k k' : Key) : lk (del l k) k' = if k' = k then none else lk l k' := by
  unfold del
  have := lk_filter l (fun x => decide (x ≠ k)) k'
  rw [this]
  by_cases h : k' = k <;> simp [h]
end lists

/-- What one operation at (d, site), version ver, does to ghost, state and world. -/
structure Step (G G' : Gh) (w0 : World) (st st' : St) (w' : World) (d site ver : Nat) : Prop where
  le : G.Le G'
  rel : Rel G' w0 st' w'
  nx : st.nx ≤ st'.nx
  old : ∀ k v, v < st.nx → (k, v) ≠ ((d, site), ver) → G'.ρ k v = G.ρ k v ∧ G'.ω k v = G.ω k v
  pend : ∀ k v cs, k.1 ≤ d → v < st.nx → k ≠ (d, site) → G.ρ k v = none → lk st.bx k = some (v, cs) → lk st'.bx k = some (v, cs)
  newH : ∀ g o v, G'.H g o = some v → G.H g o = some v ∨ w0.heap.size ≤ g

section
variable {P : Program} {G : Gh} {w0 w : World} {st : St}

theorem Step.same {w' : World} {d site ver : Nat} (hR : Rel G w0 st w') : Step G G w0 st st w' d site ver :=
  ⟨.refl G, hR, Nat.le_refl _, fun _ _ _ _ => ⟨rfl, rfl⟩, fun _ _ _ _ _ _ _ h => h, fun _ _ _ h => .inl h⟩

theorem block_lt {w : World} {g : Nat} {o : Obj} (h : w.heap[g]? = some o) : g < w.heap.size := by
  rcases Nat.lt_or_ge g w.heap.size with h' | h'
  · exact h'
  · rw [Array.getElem?_eq_none h'] at h; cases h

theorem Rel.cell (hR : Rel G w0 st w) : ∀ g o v, G.H g o = some v → w.cell? ⟨g, o, none⟩ = some v := fun g o v h => (hR.ext g o v h).1

theorem Rel.Hlt (hR : Rel G w0 st w) {g o : Nat} {v : Value} (h : G.H g o = some v) : g < w.heap.size := block_lt_of_cell (hR.ext g o v h).1

/-- New memory, some of it told for good. -/
theorem Rel.grow (hR : Rel G w0 st w) {w' : World} (hb : Below w.heap.size w w') {H' : Hp} (hle : HLe G.H H')
    (hH : ∀ g o v, H' g o = some v → G.H g o = some v ∨ (w.heap.size ≤ g ∧ w'.cell? ⟨g, o, none⟩ = some v ∧ v.oneCell' = true)) : Rel ⟨H', G.ρ, G.ω, G.fm⟩ w0 st w' := by
  have hbox : ∀ g cs, BoxAt G w0 w cs g → BoxAt ⟨H', G.ρ, G.ω, G.fm⟩ w0 w' cs g := by
    rintro g cs ⟨us, e, h1, h2, h3, h4, h5⟩
    refine ⟨us, e, h1, by rw [hb.block g (block_lt h2)]; exact h2, Rs.mono (G' := ⟨H', G.ρ, G.ω, G.fm⟩) ⟨hle, fun _ _ _ h => h, fun _ _ _ h => h, rfl⟩ h3, h4, fun o => ?_⟩
    cases h : H' g o with
    | none => exact h
    | some v =>
      rcases hH g o v h with h' | ⟨h', _⟩
      · rw [h5 o] at h'; cases h'
      · have := block_lt h2; omega
  refine ⟨?_, ?_, fun k ver cs g h1 h2 => hbox g cs (hR.bx k ver cs g h1 h2), hR.inj, ?_, hR.owinj, hR.fresh⟩
  · have hsz := hR.bel.size
    exact hR.bel.trans (hb.mono hsz)
  · intro g o v h
    rcases hH g o v h with h' | ⟨_, h1, h2⟩
    · have hlt := hR.Hlt h'
      obtain ⟨h1, h2⟩ := hR.ext g o v h'
      exact ⟨by rw [hb.cell (p := ⟨g, o, none⟩) hlt]; exact h1, h2⟩
    · exact ⟨h1, h2⟩
  · intro k ver n h
    obtain ⟨g, cap, size, h1, ⟨cur, e, h2, h3, h4, h5, h6, h7⟩, h8⟩ := hR.ow k ver n h
    refine ⟨g, cap, size, h1, ⟨cur, e, h2, by rw [hb.block g (block_lt h3)]; exact h3, h4, h5, h6, fun o ho => ?_⟩, h8⟩
    cases h' : H' g o with
    | none => exact h'
    | some v =>
      rcases hH g o v h' with h'' | ⟨h'', _⟩
      · rw [h7 o ho] at h''; cases h''
      · have := block_lt h3; omega

theorem Rel.below (hR : Rel G w0 st w) {w' : World} (hb : Below w.heap.size w w') : Rel G w0 st w' :=
  hR.grow hb (H' := G.H) (fun _ _ _ h => h) (fun _ _ _ h => .inl h)

theorem Step.grow (hR : Rel G w0 st w) {w' : World} (hb : Below w.heap.size w w') {H' : Hp} (hle : HLe G.H H')
    (hH : ∀ g o v, H' g o = some v → G.H g o = some v ∨ (w.heap.size ≤ g ∧ w'.cell? ⟨g, o, none⟩ = some v ∧ v.oneCell' = true)) {d site ver : Nat} : Step G ⟨H', G.ρ, G.ω, G.fm⟩ w0 st st w' d site ver :=
  ⟨⟨hle, fun _ _ _ h => h, fun _ _ _ h => h, rfl⟩, hR.grow hb hle hH, Nat.le_refl _, fun _ _ _ _ => ⟨rfl, rfl⟩, fun _ _ _ _ _ _ _ h => h, fun g o v h => by
    rcases hH g o v h with h' | ⟨h', _⟩
    · exact .inl h'
    · exact .inr (Nat.le_trans hR.bel.size h')⟩

/-! ### load -/
theorem aload_ok (hR : Rel G w0 st w) {t : TypeId} {i : TI} (hT : TOk P t i) (_h1 : i.kind.agg = false → i.size = 1) {x r : AV} {vx : Value} (h : aload st i.size i.kind.agg x = some r) (hx : R G x vx) :
    ∃ v, (Instr.loadAt t vx).run P w = .ok v w ∧ R G r v := by
  obtain ⟨ti, z, hi, hsz, _⟩ := hT.info
  have key : ∀ (g o : Nat) (us : List Value), us.length = i.size → (∀ (j : Nat) v, us[j]? = some v → w.cell? ⟨g, o + j, none⟩ = some v) → ∀ {cs : List AV}, Rs G cs us → ofCells i.kind.agg cs = some r →
      ∃ v, (Instr.loadAt t (.pointer (some ⟨g, o, none⟩))).run P w = .ok v w ∧ R G r v := by
    intro g o us hl hc cs hr ho
    rcases ofCells_ok hr ho with ⟨ha, hv⟩ | ⟨ha, v, rfl, hv⟩
    · refine ⟨_, ?_, hv⟩
      have hlc := run_loadCells_list (P := P) w ⟨g, o, none⟩ us (fun j v h => by rw [Addr.add_lit]; exact hc j v h)
      rw [hl] at hlc
      simp only [Instr.loadAt, Instr.sureAddr, Sem.run_bind, Sem.run_pure, Result.andThen_ok, loadVar, run_isAgg hT.kind, ha, if_true, sizeOf, typeInfo, run_program, hi, hsz, hlc]
    · refine ⟨v, ?_, hv⟩
      have := hc 0 v rfl
      simp only [Nat.add_zero] at this
      simp only [Instr.loadAt, Instr.sureAddr, Sem.run_bind, Sem.run_pure, Result.andThen_ok, loadVar, run_isAgg hT.kind, ha, Bool.false_eq_true, if_false, run_load, this]
  unfold aload at h
  revert hx
  split at h
  · rename_i cs
    intro hx
    split at h
    · rename_i hle
      obtain ⟨g, o, us, rfl, hH, hF⟩ := hx.fp_inv
      have hlen : (cs.take i.size).length = i.size := by simp; omega
      refine key g o ((List.range i.size).map us) (by simp) ?_ (cs := cs.take i.size) ⟨by simp [hlen], ?_⟩ h
      · intro j v hv
        simp only [List.getElem?_map, Option.map_eq_some_iff] at hv
        obtain ⟨j', hj, rfl⟩ := hv
        have hj2 : j' = j ∧ j < i.size := by
          rcases Nat.lt_or_ge j i.size with h' | h'
          · rw [List.getElem?_range h'] at hj; injection hj with hj; exact ⟨hj.symm, h'⟩
          · rw [List.getElem?_eq_none (by simpa using h')] at hj; cases hj
        obtain ⟨rfl, hlt⟩ := hj2
        exact (hR.ext _ _ _ (hH j' cs[j'] (List.getElem?_eq_getElem (by omega)))).1
      · intro j b u hb hu
        rw [List.getElem?_take] at hb
        split at hb
        · rename_i hj
          simp only [List.getElem?_map, List.getElem?_range hj, Option.map_some] at hu
          injection hu with hu
          rw [← hu]
          exact .fz _ _ (hF j b hb)
        · cases hb
    · cases h
  · rename_i k v o
    intro hx
    split at h
    · rename_i v' cs hlk
      split at h
      · rename_i hle
        obtain ⟨rfl, hle⟩ := hle
        obtain ⟨g, rfl, hρ⟩ := hx.p_inv
        obtain ⟨us, e, _, hheap, hr, _, _⟩ := hR.bx k v' cs g hlk hρ
        have hl : us.length = cs.length := hr.1.symm
        refine key g o ((us.drop o).take i.size) (by simp; omega) ?_ (hr.sub o i.size) h
        intro j u hu
        rw [List.getElem?_take] at hu
        split at hu
        · rw [List.getElem?_drop] at hu
          simp [World.cell?, hheap, hu]
        · cases hu
      · cases h
    · cases h
  · cases h

/-! ### store -/
theorem Rel.setBox (hR : Rel G w0 st w) {k : Key} {ver g : Nat} {cs : List AV} (hk : lk st.bx k = some (ver, cs)) (hρ : G.ρ k ver = some g) {us : List Value} {cs' : List AV} (hr : Rs G cs' us) (h1 : ∀ x ∈ us, x.oneCell' = true) :
    Rel G w0 { st with bx := st_ st.bx k (ver, cs') } (w.setRow g us.toArray) := by
  obtain ⟨us0, e, hge, hheap, _, _, hnone⟩ := hR.bx k ver cs g hk hρ
  have hget : ∀ k' ver' cs1, lk (st_ st.bx k (ver, cs')) k' = some (ver', cs1) → (k' = k ∧ ver' = ver ∧ cs1 = cs') ∨ (k' ≠ k ∧ lk st.bx k' = some (ver', cs1)) := by
    intro k' ver' cs1 h
    rw [lk_st] at h
    split at h
    · rename_i he; cases h; exact .inl ⟨he.symm, rfl, rfl⟩
    · rename_i he; exact .inr ⟨fun e => he e.symm, h⟩
  refine ⟨?_, ?_, ?_, ?_, ?_, hR.owinj, hR.fresh⟩
  · exact hR.bel.trans ⟨rfl, rfl, rfl, by simp, fun i hi => setRow_other w g i us.toArray (by omega)⟩
  · intro g' o v h
    obtain ⟨h2, h3⟩ := hR.ext g' o v h
    refine ⟨?_, h3⟩
    rw [cell_setRow_other w g us.toArray ⟨g', o, none⟩ (by rintro rfl; rw [hnone o] at h; cases h)]
    exact h2
  · intro k' ver' cs1 g' h hg'
    rcases hget _ _ _ h with ⟨rfl, rfl, rfl⟩ | ⟨hne, h⟩
    · rw [hρ] at hg'
      cases hg'
      exact ⟨us, e, hge, setRow_heap w g _ _ e (0, 0) hheap, hr, h1, hnone⟩
    · obtain ⟨us1, e1, a1, a2, a3, a4, a5⟩ := hR.bx k' ver' cs1 g' h hg'
      refine ⟨us1, e1, a1, ?_, a3, a4, a5⟩
      rw [setRow_other w g g' us.toArray (fun e => hne (hR.inj k' k ver' ver cs1 cs g' h hk hg' (e ▸ hρ)))]
      exact a2
  · intro k1 k2 v1 v2 c1 c2 g' h1 h2 r1 r2
    have conv : ∀ k' v' c', lk (st_ st.bx k (ver, cs')) k' = some (v', c') → ∃ c'', lk st.bx k' = some (v', c'') := by
      intro k' v' c' h
      rcases hget _ _ _ h with ⟨rfl, rfl, rfl⟩ | ⟨_, h⟩
      · exact ⟨_, hk⟩
      · exact ⟨_, h⟩
    obtain ⟨c1', h1'⟩ := conv _ _ _ h1
    obtain ⟨c2', h2'⟩ := conv _ _ _ h2
    exact hR.inj k1 k2 v1 v2 c1' c2' g' h1' h2' r1 r2
  · intro k' ver' n h
    obtain ⟨g', cap, size, h1', ⟨cur, e', a1, a2, a3, a4, a5, a6⟩, h8⟩ := hR.ow k' ver' n h
    refine ⟨g', cap, size, h1', ⟨cur, e', a1, ?_, a3, a4, a5, a6⟩, ?_⟩
    · rw [setRow_other w g g' us.toArray (fun e => h8 k ver cs hk (e ▸ hρ))]
      exact a2
    · intro k2 v2 c2 h2 r2
      rcases hget _ _ _ h2 with ⟨rfl, rfl, rfl⟩ | ⟨_, h2⟩
      · exact h8 _ _ _ hk r2
      · exact h8 _ _ _ h2 r2

theorem setAt_length : ∀ (vs : List AV) (cs : List AV) (o : Nat), (setAt cs o vs).length = cs.length
  | [], cs, o => rfl
  | v :: r, cs, o => by simp [setAt, setAt_length r]

theorem setAt_get : ∀ (vs : List AV) (cs : List AV) (o : Nat), o + vs.length ≤ cs.length → ∀ j, (setAt cs o vs)[j]? = if o ≤ j ∧ j < o + vs.length then vs[j - o]? else cs[j]?
  | [], cs, o, _, j => by simp [setAt]; omega
  | v :: r, cs, o, h, j => by
    simp only [List.length_cons] at h
    rw [setAt, setAt_get r (cs.set o v) (o + 1) (by simp; omega) j]
    by_cases hj : o = j
    · subst hj
      rw [if_neg (by omega), if_pos (by simp), List.getElem?_set_self (by omega)]
      simp
    · by_cases h2 : o + 1 ≤ j ∧ j < o + 1 + r.length
      · rw [if_pos h2, if_pos (by simp; omega)]
        have : j - o = (j - (o + 1)) + 1 := by omega
        rw [this, List.getElem?_cons_succ]
      · rw [if_neg h2, if_neg (by simp; omega), List.getElem?_set_ne hj]

theorem Rs.setAt_ {cs vs : List AV} {us xs : List Value} (hr : Rs G cs us) (hv : Rs G vs xs) {o : Nat} (hle : o + vs.length ≤ cs.length) : Rs G (setAt cs o vs) (us.take o ++ xs ++ us.drop (o + xs.length)) := by
  have hl := hr.1
  have hlx := hv.1
  refine ⟨by rw [setAt_length]; simp; omega, fun j a u h1 h2 => ?_⟩
  rw [setAt_get vs cs o hle j] at h1
  rw [List.append_assoc, List.getElem?_append] at h2
  simp only [List.length_take] at h2
  by_cases hj : j < o
  · rw [if_neg (by omega)] at h1
    rw [if_pos (by omega), List.getElem?_take, if_pos hj] at h2
    exact hr.2 j a u h1 h2
  · rw [if_neg (by omega), List.getElem?_append, show min o us.length = o from by omega] at h2
    by_cases hj2 : j < o + vs.length
    · rw [if_pos ⟨by omega, hj2⟩] at h1
      rw [if_pos (by omega)] at h2
      exact hv.2 _ a u h1 h2
    · rw [if_neg (by omega)] at h1
      rw [if_neg (by omega), List.getElem?_drop] at h2
      refine hr.2 j a u h1 ?_
      rw [← h2]
      congr 1
      omega

theorem astore_ok (hR : Rel G w0 st w) {t : TypeId} {i : TI} (hT : TOk P t i) {x y : AV} {vx vy : Value} {st' : St} (h : astore st i.size x y = some st') (hx : R G x vx) (hy : R G y vy) {d site ver : Nat} :
    ∃ w', (Instr.storeAt t vx vy).run P w = .ok () w' ∧ Step G G w0 st st' w' d site ver := by
  obtain ⟨ti, z, hi, hsz, _⟩ := hT.info
  unfold astore at h
  revert hx
  split at h
  · rename_i k v o
    intro hx
    split at h
    · rename_i v' cs hlk
      split at h
      · rename_i hle
        obtain ⟨rfl, hle, hlen, hone⟩ := hle
        cases h
        obtain ⟨g, rfl, hρ⟩ := hx.p_inv
        obtain ⟨us, e, hge, hheap, hr, hu1, hnone⟩ := hR.bx k v' cs g hlk hρ
        obtain ⟨xs, hxs, hrx, hlx, hx1⟩ := hy.cells hone
        have hl : us.length = cs.length := hr.1.symm
        have hst := run_storeCells_at (P := P) g o e xs 0 us.toArray w hheap (by simp; omega) hx1
        simp only [Nat.add_zero] at hst
        refine ⟨_, ?_, ⟨.refl G, hR.setBox hlk hρ (hr.setAt_ hrx (by omega)) ?_, Nat.le_refl _, fun _ _ _ _ => ⟨rfl, rfl⟩, ?_, fun _ _ _ h => .inl h⟩⟩
        · have hsize : ¬ (xs.toArray.size ≠ ti.size) := by rw [hsz]; simp; omega
          simp only [Instr.storeAt, Instr.sureAddr, Sem.run_bind, Sem.run_pure, Result.andThen_ok, storeVar, sizeOf, typeInfo, run_program, hi, hxs]
          rw [if_neg hsize, hst]
        · intro u hu
          simp only [List.mem_append] at hu
          rcases hu with (hu | hu) | hu
          · exact hu1 u (List.mem_of_mem_take hu)
          · exact hx1 u hu
          · exact hu1 u (List.mem_of_mem_drop hu)
        · intro k' v2 cs2 _ _ _ hn h2
          have hne : k ≠ k' := by
            rintro rfl
            rw [hlk] at h2
            cases h2
            rw [hρ] at hn
            cases hn
          simpa [lk_st_ne st.bx _ hne] using h2
      · cases h
    · cases h
  · cases h

end
end Go.AM
