/- The abstract machine's append, make, slice literals. -/
import Derived.Test.YtdfkdendkdbnkaaAm7
set_option linter.all false
namespace Go.AM
open Go Go.RowKit

section
variable {P : Program} {G : Gh} {w0 w : World} {st : St}

theorem run_app_room {t t2 ty e : TypeId} {d2 : TypeDesc} {ti : TypeInfo} (ht : P.underlying t = some (.slice e)) (ht2 : P.underlying t2 = some d2) (hd2 : d2 = .string ∨ ∃ e2, d2 = .slice e2) (hi : P.info? e = some ti)
    {base : Option Addr} {n cap m : Nat} {vx : Value} (hlen : (Builtin.lenOf vx).run P w = .ok m w) {news : Array Value} (hf : (Builtin.firstCells ti.size m vx).run P w = .ok news w) (hroom : n + m ≤ cap) :
    (Builtin.append_ #[t, t2] ty #[.slice base n cap, vx]).run P w = (match base with | some a => (storeCells (a.add (n * ti.size)) news.toList).run P w | none => .ok () w).andThen fun _ w' => .ok (.slice base (n + m) cap) w' := by
  rcases hd2 with rfl | ⟨e2, rfl⟩
  · cases base <;> simp [Builtin.append_, run_underlying ht, run_underlying ht2, sizeOf, typeInfo, hi, hlen, hroom, hf]
  · cases base <;> simp [Builtin.append_, run_underlying ht, run_underlying ht2, sizeOf, typeInfo, hi, hlen, hroom, hf]

theorem run_app_grow {t t2 ty e : TypeId} {d2 : TypeDesc} {ti : TypeInfo} {z : Value} (ht : P.underlying t = some (.slice e)) (ht2 : P.underlying t2 = some d2) (hd2 : d2 = .string ∨ ∃ e2, d2 = .slice e2) (hi : P.info? e = some ti) (hz : ti.zero = some z)
    {base : Option Addr} {n cap m : Nat} {vx : Value} (hlen : (Builtin.lenOf vx).run P w = .ok m w) {news olds : Array Value} (hf : (Builtin.firstCells ti.size m vx).run P w.drew = .ok news w.drew) (ho : (Builtin.firstCells ti.size n (.slice base n cap)).run P w.drew = .ok olds w.drew)
    (hg : cap < n + m) (h63 : n + m ≤ 9223372036854775807) (hfit : (n + m) * ti.bytes ≤ 2 ^ 47) :
    (Builtin.append_ #[t, t2] ty #[.slice base n cap, vx]).run P w = .ok (.slice (some ⟨w.heap.size, 0, none⟩) (n + m) (grownCap w (n + m) cap e))
        (w.drew.alloc (.cells (olds ++ news ++ Builtin.zeroCells z.cells (grownCap w (n + m) cap e - (n + m))) e)) := by
  have hn : ¬ (n + m ≤ cap) := by omega
  have h63' : ¬ (9223372036854775807 < ((n : Int) + (m : Int))) := by omega
  have hcap := nextslicecap_le hg
  have hmul : Builtin.nextslicecap (n + m) cap * ti.bytes ≤ 2 * (n + m) * ti.bytes := Nat.mul_le_mul_right _ hcap
  have h48' : ¬ (281474976710656 < Builtin.nextslicecap (n + m) cap * ti.bytes) := by
    rw [Nat.mul_assoc] at hmul
    omega
  rcases hd2 with rfl | ⟨e2, rfl⟩
  · simp [Builtin.append_, run_underlying ht, run_underlying ht2, sizeOf, typeInfo, zeroValue, hi, hz, hlen, hn, h63', h48', Question.forced, hf, ho, newRow, grownCap]
  · simp [Builtin.append_, run_underlying ht, run_underlying ht2, sizeOf, typeInfo, zeroValue, hi, hz, hlen, hn, h63', h48', Question.forced, hf, ho, newRow, grownCap]

/-- What is appended: rows in memory, or a string's bytes. -/
structure Src (P : Program) (H : Hp) (w : World) (vx : Value) (size : Nat) (news : List (List AV)) (us : Nat → Nat → Value) : Prop where
  len : ∀ w1 : World, (Builtin.lenOf vx).run P w1 = .ok news.length w1
  first : ∀ w1 : World, w1.heap = w.heap → (Builtin.firstCells size news.length vx).run P w1 = .ok (flat us news.length size).toArray w1
  fz : ∀ (i : Nat) row (j : Nat) a, news[i]? = some row → row[j]? = some a → Fz H a (us i j)
  one : ∀ (i : Nat) row (j : Nat) a, news[i]? = some row → row[j]? = some a → (us i j).oneCell' = true

theorem cell_of_heap {w w1 : World} (h : w1.heap = w.heap) (a : Addr) : w1.cell? a = w.cell? a := by unfold World.cell?; rw [h]

theorem Src.slice (hR : Rel G w0 st w) {news : List (List AV)} {A : Option Addr} {cap size : Nat} (h : Fz G.H (.sl .ext news) (.slice A news.length cap)) (hsz : ∀ row ∈ news, row.length = size) :
    ∃ us, Src P G.H w (.slice A news.length cap) size news us := by
  obtain ⟨_, _, us, g, off, hA, hc, hF⟩ := h.cells_of hsz
  have hone : ∀ (i : Nat) row (j : Nat) a, news[i]? = some row → row[j]? = some a → (us i j).oneCell' = true := by
    intro i row j a h1 h2
    have hi : i < news.length := by
      rcases Nat.lt_or_ge i news.length with h | h
      · exact h
      · rw [List.getElem?_eq_none h] at h1; cases h1
    have hj : j < size := by
      rw [← hsz _ (List.mem_of_getElem? h1)]
      rcases Nat.lt_or_ge j row.length with h | h
      · exact h
      · rw [List.getElem?_eq_none h] at h2; cases h2
    exact (hR.ext _ _ _ (hc _ _ (flat_at us hi hj))).2
  refine ⟨us, fun w1 => by simp [Builtin.lenOf], fun w1 hw1 => ?_, hF, hone⟩
  cases news with
  | nil =>
    cases A with
    | none => simp [Builtin.firstCells, flat]
    | some a => simp [Builtin.firstCells, flat, loadCells, loadCellsFrom]
  | cons r rs =>
    rw [hA (by simp)]
    have := run_firstCells_some (P := P) w1 size (r :: rs).length ⟨g, off, none⟩ (r :: rs).length cap (flat us (r :: rs).length size) (flat_len _ _ _) ?_
    · exact this
    · intro q v hq
      rw [Addr.add_lit, cell_of_heap hw1]
      exact (hR.ext _ _ _ (hc q v hq)).1

theorem Src.str {l : List UInt8} : Src P G.H w (.string ⟨l.toArray⟩) 1 (l.map row8) (fun i _ => .int .u8 ((l.getD i 0).toNat : Int)) := by
  refine ⟨fun w1 => by simp [Builtin.lenOf, ByteArray.size], fun w1 _ => ?_, ?_, fun _ _ _ _ _ _ => rfl⟩
  · simp only [Builtin.firstCells, Sem.run_pure]
    congr 1
    apply Array.ext'
    apply List.ext_getElem?
    intro q
    have hs : (ByteArray.mk l.toArray).extract 0 (l.map row8).length = ByteArray.mk l.toArray := by
      rw [ByteArray.extract_mk]; simp
    rw [hs]
    simp only []
    rw [flat_get]
    simp only [List.length_map, Nat.mul_one, Nat.div_one]
    simp only [Array.toList_map, List.getElem?_map]
    split
    · rename_i h; rw [List.getElem?_eq_getElem h]; simp [List.getD, List.getElem?_eq_getElem h]
    · rename_i h; rw [List.getElem?_eq_none (by omega)]; rfl
  · intro i row j a h1 h2
    simp only [List.getElem?_map, Option.map_eq_some_iff] at h1
    obtain ⟨c, hc, rfl⟩ := h1
    cases j with
    | zero =>
      simp only [row8, List.getElem?_cons_zero, Option.some.injEq] at h2
      subst h2
      have : l.getD i 0 = c := by simp [List.getD, hc]
      show Fz G.H _ (.int .u8 ((l.getD i 0).toNat : Int))
      rw [this]
      exact .i _ _
    | succ j => simp [row8] at h2

theorem flat_append (us1 us2 : Nat → Nat → Value) (n m size : Nat) (hs : 0 < size) : flat (fun i j => if i < n then us1 i j else us2 (i - n) j) (n + m) size = flat us1 n size ++ flat us2 m size := by
  apply List.ext_getElem?
  intro q
  rw [flat_get, List.getElem?_append, flat_len, flat_get, flat_get]
  have hmul : (n + m) * size = n * size + m * size := Nat.add_mul _ _ _
  by_cases h1 : q < n * size
  · rw [if_pos (by omega), if_pos h1, if_pos h1, if_pos (Nat.div_lt_of_lt_mul (by rw [Nat.mul_comm]; exact h1))]
  · rw [if_neg h1]
    by_cases h2 : q < n * size + m * size
    · have hq : q = (q - n * size) + size * n := by rw [Nat.mul_comm size n]; omega
      have hd : q / size = (q - n * size) / size + n := by
        have h4 : q / size = ((q - n * size) + size * n) / size := congrArg (· / size) hq
        rw [h4, Nat.add_mul_div_left _ _ hs]
      have hm : q % size = (q - n * size) % size := by
        have h4 : q % size = ((q - n * size) + size * n) % size := congrArg (· % size) hq
        rw [h4, Nat.add_mul_mod_self_left]
      have e1 : (if q / size < n then us1 (q / size) (q % size) else us2 (q / size - n) (q % size)) = us2 ((q - n * size) / size) ((q - n * size) % size) := by
        rw [if_neg (by rw [hd]; exact Nat.not_lt.2 (Nat.le_add_left _ _)), hd, hm, Nat.add_sub_cancel]
      rw [if_pos (by omega), e1, if_pos (by omega)]
    · rw [if_neg (by omega), if_neg (by omega)]

theorem rows_append {H : Hp} {rows news : List (List AV)} {us1 us2 : Nat → Nat → Value} {p : AV → Value → Prop} (h1 : ∀ (i : Nat) row (j : Nat) a, rows[i]? = some row → row[j]? = some a → p a (us1 i j)) (h2 : ∀ (i : Nat) row (j : Nat) a, news[i]? = some row → row[j]? = some a → p a (us2 i j)) (_ : H = H) :
    ∀ (i : Nat) row (j : Nat) a, (rows ++ news)[i]? = some row → row[j]? = some a → p a ((fun i j => if i < rows.length then us1 i j else us2 (i - rows.length) j) i j) := by
  intro i row j a hi hj
  rw [List.getElem?_append] at hi
  by_cases h : i < rows.length
  · rw [if_pos h] at hi; simp only [if_pos h]; exact h1 i row j a hi hj
  · rw [if_neg h] at hi; simp only [if_neg h]; exact h2 _ row j a hi hj

end
end Go.AM
