/- The abstract machine's rows: made and grown. -/
import Derived.Test.YtdfkdendkdbnkaaAm6
set_option linter.all false
namespace Go.AM
open Go Go.RowKit

def flat (us : Nat → Nat → Value) (n size : Nat) : List Value := (List.range (n * size)).map fun q => us (q / size) (q % size)

theorem flat_len (us : Nat → Nat → Value) (n size : Nat) : (flat us n size).length = n * size := by simp [flat]

theorem flat_get (us : Nat → Nat → Value) (n size q : Nat) : (flat us n size)[q]? = if q < n * size then some (us (q / size) (q % size)) else none := by
  unfold flat
  rw [List.getElem?_map]
  by_cases h : q < n * size
  · rw [List.getElem?_range h, if_pos h]; rfl
  · rw [List.getElem?_eq_none (by simpa using h), if_neg h]; rfl

theorem divmod_of {i j size : Nat} (hj : j < size) : (i * size + j) / size = i ∧ (i * size + j) % size = j := by
  have hs : 0 < size := by omega
  constructor
  · rw [Nat.mul_comm, Nat.mul_add_div hs, Nat.div_eq_of_lt hj]; omega
  · rw [Nat.mul_comm, Nat.mul_add_mod, Nat.mod_eq_of_lt hj]

theorem flat_at (us : Nat → Nat → Value) {n size i j : Nat} (hi : i < n) (hj : j < size) : (flat us n size)[i * size + j]? = some (us i j) := by
  rw [flat_get, if_pos]
  · obtain ⟨h1, h2⟩ := divmod_of (i := i) hj; rw [h1, h2]
  · have : (i + 1) * size ≤ n * size := Nat.mul_le_mul_right _ (by omega)
    rw [Nat.succ_mul] at this; omega

/-- A row in memory, told for good: what of it is known. -/
theorem Fz.cells_of {H : Hp} {rows : List (List AV)} {A : Option Addr} {n cap : Nat} (h : Fz H (.sl .ext rows) (.slice A n cap)) {size : Nat} (hsz : ∀ row ∈ rows, row.length = size) :
    n = rows.length ∧ n ≤ cap ∧ ∃ (us : Nat → Nat → Value) (g off : Nat), (rows ≠ [] → A = some ⟨g, off, none⟩) ∧ (∀ (q : Nat) v, (flat us rows.length size)[q]? = some v → H g (off + q) = some v) ∧
      (∀ (i : Nat) row (j : Nat) a, rows[i]? = some row → row[j]? = some a → Fz H a (us i j)) := by
  cases h with
  | sl _ A cap size' g off us hA hcap hs hH hF =>
  refine ⟨rfl, hcap, us, g, off, hA, ?_, hF⟩
  intro q v hq
  rw [flat_get] at hq
  split at hq
  · rename_i hlt
    cases hq
    have hpos : 0 < size := by
      rcases Nat.eq_zero_or_pos size with h | h
      · subst h; simp at hlt
      · exact h
    have hi : q / size < rows.length := Nat.div_lt_of_lt_mul (by rw [Nat.mul_comm]; exact hlt)
    have hrow : rows[q / size]? = some rows[q / size] := List.getElem?_eq_getElem hi
    have hl1 := hs _ _ hrow
    have hl2 := hsz _ (List.getElem_mem hi)
    have hss : size' = size := by omega
    subst hss
    have hm : q % size' < rows[q / size'].length := by rw [hl1]; exact Nat.mod_lt _ hpos
    have := hH _ _ (q % size') _ hrow (List.getElem?_eq_getElem hm)
    rw [← this]
    congr 1
    have := Nat.div_add_mod q size'
    rw [Nat.mul_comm] at this
    omega
  · cases hq

section
variable {P : Program} {G : Gh} {w0 w : World} {st : St}

/-- New memory holds rows. -/
theorem newRows (hR : Rel G w0 st w) {rows : List (List AV)} {size : Nat} (hsz : ∀ row ∈ rows, row.length = size) {us : Nat → Nat → Value} (hF : ∀ (i : Nat) row (j : Nat) a, rows[i]? = some row → row[j]? = some a → Fz G.H a (us i j))
    (h1 : ∀ (i : Nat) row (j : Nat) a, rows[i]? = some row → row[j]? = some a → (us i j).oneCell' = true) {cs : Array Value} {e : TypeId} (hcs : ∀ (q : Nat) v, (flat us rows.length size)[q]? = some v → cs[q]? = some v) {w1 : World} (hw1 : w1.heap = w.heap) (hw1b : Below w.heap.size w w1) (cap : Nat) (hcap : rows.length ≤ cap) {d site ver : Nat} :
    Step G ⟨fun g o => if g = w.heap.size then (flat us rows.length size)[o]? else G.H g o, G.ρ, G.ω, G.fm⟩ w0 st st (w1.alloc (.cells cs e)) d site ver ∧
      Fz (fun g o => if g = w.heap.size then (flat us rows.length size)[o]? else G.H g o) (.sl .ext rows) (.slice (some ⟨w.heap.size, 0, none⟩) rows.length cap) := by
  have hsz1 : w1.heap.size = w.heap.size := by rw [hw1]
  have hle : HLe G.H (fun g o => if g = w.heap.size then (flat us rows.length size)[o]? else G.H g o) := fun g o v h => by
    show (if g = w.heap.size then _ else G.H g o) = some v
    rw [if_neg (by have := hR.Hlt h; omega)]
    exact h
  have hone : ∀ (q : Nat) v, (flat us rows.length size)[q]? = some v → v.oneCell' = true := by
    intro q v hq
    rw [flat_get] at hq
    split at hq
    · rename_i hlt
      cases hq
      have hpos : 0 < size := by
        rcases Nat.eq_zero_or_pos size with h | h
        · subst h; simp at hlt
        · exact h
      have hi : q / size < rows.length := Nat.div_lt_of_lt_mul (by rw [Nat.mul_comm]; exact hlt)
      have hm : q % size < rows[q / size].length := by rw [hsz _ (List.getElem_mem hi)]; exact Nat.mod_lt _ hpos
      exact h1 _ _ _ _ (List.getElem?_eq_getElem hi) (List.getElem?_eq_getElem hm)
    · cases hq
  refine ⟨Step.grow hR (hw1b.alloc (by rw [hsz1]; exact Nat.le_refl _) _) hle ?_, ?_⟩
  · intro g o v h
    have h' : (if g = w.heap.size then (flat us rows.length size)[o]? else G.H g o) = some v := h
    split at h'
    · rename_i hg
      subst hg
      refine .inr ⟨Nat.le_refl _, ?_, hone _ _ h'⟩
      have := heap_alloc_new w1 (.cells cs e)
      rw [hsz1] at this
      simp [World.cell?, this, hcs _ _ h']
    · exact .inl h'
  · refine .sl rows _ cap size w.heap.size 0 us (fun _ => rfl) hcap (fun i row h => hsz _ (List.mem_of_getElem? h)) ?_ (fun i row j a h2 h3 => (hF i row j a h2 h3).mono hle)
    intro i row j a h2 h3
    show (if w.heap.size = w.heap.size then (flat us rows.length size)[0 + i * size + j]? else _) = _
    rw [if_pos rfl, Nat.zero_add]
    refine flat_at us ?_ ?_
    · rcases Nat.lt_or_ge i rows.length with h | h
      · exact h
      · rw [List.getElem?_eq_none h] at h2; cases h2
    · rw [← hsz _ (List.mem_of_getElem? h2)]
      rcases Nat.lt_or_ge j row.length with h | h
      · exact h
      · rw [List.getElem?_eq_none h] at h3; cases h3

/-! ### own rows -/
def Gh.setω (G : Gh) (H : Hp) (k : Key) (v : Nat) (x : Nat × Nat × Nat) : Gh := ⟨H, G.ρ, fun k' v' => if k' = k ∧ v' = v then some x else G.ω k' v', G.fm⟩

theorem Gh.le_setω {H : Hp} (hH : HLe G.H H) {k : Key} {v : Nat} (h : G.ω k v = none) (x : Nat × Nat × Nat) : G.Le (G.setω H k v x) :=
  ⟨hH, fun _ _ _ h => h, fun k' v' g' h' => by
    show (if k' = k ∧ v' = v then some x else G.ω k' v') = some g'
    rw [if_neg (by rintro ⟨rfl, rfl⟩; rw [h] at h'; cases h')]
    exact h', rfl⟩

theorem Rel.newOwn (hR : Rel G w0 st w) {w' : World} {H' : Hp} {g cap size n : Nat} {key : Key} {ver : Nat} (hge : w0.heap.size ≤ g)
    (hos : w'.os = w.os) (htape : w'.tape = w.tape) (hout : w'.output = w.output) (hsize : w.heap.size ≤ w'.heap.size) (hblk : ∀ i, i < w.heap.size → i ≠ g → w'.heap[i]? = w.heap[i]?)
    (hbox : ∀ k v cs, lk st.bx k = some (v, cs) → G.ρ k v ≠ some g) (hle : HLe G.H H')
    (hH : ∀ g' o v, H' g' o = some v → (g' ≠ g ∧ G.H g' o = some v) ∨ (g' = g ∧ w'.cell? ⟨g, o, none⟩ = some v ∧ v.oneCell' = true ∧ o < n * size))
    {cur : Array Value} {e : TypeId} (hheap : w'.heap[g]? = some (.cells cur e (0, 0))) (hcur : cur.size = cap * size) (hn : n ≤ cap) (hpos : 0 < size) (hω : G.ω key ver = none) (hv : ver < st.nx)
    {ow' : List (Key × Nat × Nat)} (hk : lk ow' key = some (ver, n)) (hne : ∀ k x, k ≠ key → lk ow' k = some x → lk st.ow k = some x)
    (hown : ∀ k v m g' c s, k ≠ key → lk ow' k = some (v, m) → G.ω k v = some (g', c, s) → g' ≠ g) : Rel (G.setω H' key ver (g, cap, size)) w0 { st with ow := ow' } w' := by
  have hleG : G.Le (G.setω H' key ver (g, cap, size)) := Gh.le_setω hle hω _
  have hother : ∀ g' o, g' ≠ g → G.H g' o = none → H' g' o = none := by
    intro g' o hg h
    cases h' : H' g' o with
    | none => rfl
    | some v =>
      rcases hH g' o v h' with ⟨_, h2⟩ | ⟨h2, _⟩
      · rw [h] at h2; cases h2
      · exact absurd h2 hg
  have hωe : ∀ k v x, (G.setω H' key ver (g, cap, size)).ω k v = some x → (k = key ∧ v = ver ∧ x = (g, cap, size)) ∨ ((k ≠ key ∨ v ≠ ver) ∧ G.ω k v = some x) := by
    intro k v x h
    have h' : (if k = key ∧ v = ver then some (g, cap, size) else G.ω k v) = some x := h
    split at h'
    · rename_i hh; cases h'; exact .inl ⟨hh.1, hh.2, rfl⟩
    · rename_i hh
      refine .inr ⟨?_, h'⟩
      by_cases hk' : k = key
      · exact .inr fun hv' => hh ⟨hk', hv'⟩
      · exact .inl hk'
  refine ⟨?_, ?_, ?_, hR.inj, ?_, ?_, ?_⟩
  · have hb := hR.bel
    exact ⟨hos.trans hb.os, htape.trans hb.tape, hout.trans hb.output, Nat.le_trans hb.size hsize, fun i hi => (hblk i (Nat.lt_of_lt_of_le hi hb.size) (by omega)).trans (hb.block i hi)⟩
  · intro g' o v h
    rcases hH g' o v h with ⟨h1, h2⟩ | ⟨rfl, h2, h3, _⟩
    · have hlt := hR.Hlt h2
      obtain ⟨h3, h4⟩ := hR.ext g' o v h2
      exact ⟨(World.cell?_of_block (w := w) (hblk g' hlt h1)).trans h3, h4⟩
    · exact ⟨h2, h3⟩
  · intro k v cs g' h hg'
    obtain ⟨us1, e1, a1, a2, a3, a4, a5⟩ := hR.bx k v cs g' h hg'
    have hgg : g' ≠ g := by rintro rfl; exact hbox k v cs h hg'
    exact ⟨us1, e1, a1, (hblk g' (block_lt a2) hgg).trans a2, a3.mono hleG, a4, fun o => hother g' o hgg (a5 o)⟩
  · intro k v m h
    by_cases hkk : k = key
    · subst hkk
      rw [hk] at h
      cases h
      refine ⟨g, cap, size, by show (if _ = _ ∧ _ = _ then some (g, cap, size) else _) = _; rw [if_pos ⟨rfl, rfl⟩], ⟨cur, e, hge, hheap, hcur, hn, hpos, fun o ho => ?_⟩, hbox⟩
      cases h' : H' g o with
      | none => exact h'
      | some v' =>
        rcases hH g o v' h' with ⟨h2, _⟩ | ⟨_, _, _, h2⟩
        · exact absurd rfl h2
        · omega
    · have hold := hne k _ hkk h
      obtain ⟨g', cap', size', h1', ⟨cur', e', a1, a2, a3, a4, a5, a6⟩, h8⟩ := hR.ow k v m hold
      have hgg : g' ≠ g := hown k v m g' cap' size' hkk h h1'
      refine ⟨g', cap', size', hleG.ω _ _ _ h1', ⟨cur', e', a1, (hblk g' (block_lt a2) hgg).trans a2, a3, a4, a5, fun o ho => hother g' o hgg (a6 o ho)⟩, h8⟩
  · intro k k' v v' m m' g' c s c' s' h1 h2 h3 h4
    by_cases hkk : k = key
    · by_cases hkk' : k' = key
      · rw [hkk, hkk']
      · subst hkk
        rw [hk] at h1
        cases h1
        rcases hωe _ _ _ h3 with ⟨_, _, hx⟩ | ⟨hx, _⟩
        · cases hx
          rcases hωe _ _ _ h4 with ⟨rfl, _⟩ | ⟨_, h4⟩
          · rfl
          · exact absurd rfl (hown k' v' m' _ _ _ hkk' h2 h4)
        · rcases hx with hx | hx <;> exact absurd rfl hx
    · by_cases hkk' : k' = key
      · subst hkk'
        rw [hk] at h2
        cases h2
        rcases hωe _ _ _ h4 with ⟨_, _, hx⟩ | ⟨hx, _⟩
        · cases hx
          rcases hωe _ _ _ h3 with ⟨rfl, _⟩ | ⟨_, h3⟩
          · rfl
          · exact absurd rfl (hown k v m _ _ _ hkk h1 h3)
        · rcases hx with hx | hx <;> exact absurd rfl hx
      · have o1 := hne k _ hkk h1
        have o2 := hne k' _ hkk' h2
        rcases hωe _ _ _ h3 with ⟨rfl, _⟩ | ⟨_, h3⟩
        · exact absurd rfl hkk
        · rcases hωe _ _ _ h4 with ⟨rfl, _⟩ | ⟨_, h4⟩
          · exact absurd rfl hkk'
          · exact hR.owinj k k' v v' m m' g' c s c' s' o1 o2 h3 h4
  · intro k v hkv
    have := hR.fresh k v hkv
    refine ⟨this.1, ?_⟩
    show (if k = key ∧ v = ver then some (g, cap, size) else G.ω k v) = none
    rw [if_neg (by rintro ⟨_, rfl⟩; have : st.nx ≤ v := hkv; omega)]
    exact this.2

end
end Go.AM
