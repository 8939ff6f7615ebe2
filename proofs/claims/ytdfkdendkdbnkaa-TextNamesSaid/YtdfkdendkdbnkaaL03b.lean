/- Chapter 03: reading, and the tests that the chapter's functions are alive. -/
import Derived.Test.YtdfkdendkdbnkaaC03b
import Derived.Test.YtdfkdendkdbnkaaV03c
import Derived.Test.YtdfkdendkdbnkaaU03c
import Derived.Test.YtdfkdendkdbnkaaU03e
set_option linter.all false
namespace Go.AM
open Go
theorem unlist_many (s : Bytes) : many (unlist s).1 = false := by
  unfold unlist
  split
  · rfl
  split
  · rfl
  unfold unl
  split
  · rfl
  · rename_i l _
    cases h : many l with
    | true => rw [if_pos rfl]; rfl
    | false => rw [if_neg (by decide)]; exact h
theorem unlist_small (s : Bytes) : (unlist s).1.length ≤ 1000000000 := by
  have := (many_false.1 (unlist_many s)).2
  omega
theorem listR_no {l : List Bytes} (h : many l = false) : listR l = (listed l, 0) := by
  unfold listR
  rw [if_neg (by rw [h]; decide)]
theorem quoR_no {s : Bytes} (h : s.length ≤ 400) : quoR s = (quo s, 0) := by
  unfold quoR
  rw [if_neg (by omega)]
theorem law6 {prog : Prog} (H : Has03 prog) (hf : prog.fn 6 = some pf6) (s : Bytes) : Pus prog 6 [.s s] (.b true) := by
  obtain ⟨x, rfl, h⟩ := p6 hf (s0 := s) (K := fun x => x = true) (by
    unfold T6_0 T6_1
    refine ⟨fun _ => rfl, fun _ => ?_⟩
    unfold T6_2
    refine ⟨_, _, c21 H s, ?_⟩
    unfold T6_3
    refine ⟨_, _, c22 H s, ?_⟩
    unfold T6_4
    refine ⟨_, _, c23 H s, ?_⟩
    unfold T6_5
    refine ⟨_, _, c24 H s, ?_⟩
    unfold T6_6
    refine ⟨_, _, c25 H s, _, _, c26 H s, _, _, c27 H s, _, _, c28 H s, fun _ => ⟨fun _ => ⟨fun _ => ⟨fun _ => ⟨fun _ => ⟨fun _ => ⟨_, c29 H (unlist_small s), fun _ => decide_eq_true rfl, fun h => absurd h (by simp)⟩, fun h => absurd rfl h⟩, fun h => absurd rfl h⟩, fun h => absurd rfl h⟩, fun h => absurd rfl h⟩, fun h => absurd rfl h⟩, fun h => absurd rfl h⟩)
  exact h
theorem c19 {prog : Prog} (H : Has03 prog) (hf : prog.fn 19 = some pf19) : Pus prog 19 [] (.b true) := by
  obtain ⟨x, rfl, h⟩ := p19 hf (K := fun x => x = true) (by
    unfold T19_0 T19_1
    refine ⟨_, _, c21 H _, ?_⟩
    unfold T19_2
    refine ⟨_, _, c21 H _, ?_⟩
    unfold T19_3
    refine ⟨_, _, c11 H _, _, _, c13 H (by decide), _, _, c13 H (by decide), _, c15 H (by decide) (by decide), fun _ => ⟨fun _ => ⟨fun _ => ⟨_, c17 H (n := 255) (by decide), fun _ => ⟨fun _ => ⟨fun _ => ⟨fun _ => ⟨fun _ => ⟨fun _ => ⟨fun _ => decide_eq_true (by decide), fun h => absurd (by decide) h⟩, fun h => absurd (by decide) h⟩, fun h => absurd (by decide) h⟩, fun h => absurd (by decide) h⟩, fun h => absurd (by decide) h⟩, fun h => absurd (by decide) h⟩, fun h => absurd (by decide) h⟩, fun h => absurd (by decide) h⟩, fun h => absurd (by decide) h⟩, fun h => absurd (by decide) h⟩)
  exact h
theorem c20x {prog : Prog} (H : Has03 prog) {l : List Bytes} (hl : l.length ≤ maxLen) : Pus prog 20 [.sl .ext (l.map rowS)] (.b (!many l)) := by
  have hl : l.length ≤ 9223372036854775807 := hl
  obtain ⟨x, rfl, h⟩ := p20 H.f20 (l0 := l) (K := fun x => x = !many l) (by
    unfold T20_0
    intro P hP
    refine loop_long 400 l (fun hl i hi h => ?_) (fun hl => ?_) (fun i hi h ih => ?_)
    · apply hP
      unfold T20_1
      refine ⟨fun _ => ⟨by omega, _, by rw [toNat_cast]; exact getD_get hi, fun _ => by simp [many, hl], fun h2 => absurd h2 (by omega)⟩, fun h2 => absurd h2 (by omega)⟩
    · apply hP
      unfold T20_1 T20_2
      refine ⟨fun h => absurd h (by omega), fun _ => ?_⟩
      simp only [many, hl, Bool.false_or]
      rw [← decide_not]
      exact decide_eq_decide.2 (by omega)
    · apply hP
      unfold T20_1
      refine ⟨fun _ => ⟨by omega, _, by rw [toNat_cast]; exact getD_get hi, fun h2 => absurd h2 (by omega), fun h2 => by rw [wr_i64 (by omega) (by omega)]; exact ih⟩, fun h2 => absurd h2 (by omega)⟩)
  exact h
theorem law8 {prog : Prog} (H : Has03 prog) (hf : prog.fn 8 = some pf8) (ha : prog.fn 19 = some pf19) {i : Int} {n : Nat} {s : Bytes} {l : List Bytes} (h1 : -9223372036854775808 ≤ i) (h2 : i < 9223372036854775808) (hn : n < 18446744073709551616) (hl : l.length ≤ maxLen) : Pus prog 8 [.i .i64 i, .i .u64 (n : Int), .s s, .sl .ext (l.map rowS)] (.b true) := by
  obtain ⟨x, rfl, h⟩ := p8 hf (i0 := i) (n1 := (n : Int)) (s2 := s) (l3 := l) (K := fun x => x = true) (by
    unfold T8_0 T8_1
    refine ⟨fun _ => ⟨_, c19 H ha, rfl⟩, fun hs => ⟨_, c20x H hl, fun _ => ⟨_, c19 H ha, rfl⟩, fun hm => ?_⟩⟩
    have hm : many l = false := by simpa using hm
    have hl : l.length ≤ 1000000000 := by have := (many_false.1 hm).2; omega
    unfold T8_2
    refine ⟨_, c15 H h1 h2, _, _, c21 H _, ?_⟩
    unfold T8_3
    refine ⟨_, c17 H hn, _, _, c23 H _, ?_⟩
    unfold T8_4
    refine ⟨_, _, c11 H s, ?_⟩
    rw [unnum_num h1 h2, unhex_hex hn, quoR_no (by omega)]
    unfold T8_5
    refine ⟨_, _, c25 H _, _, _, c13 H hl, _, _, c27 H _, ?_⟩
    rw [unquo_quo (by omega), listR_no hm, unlist_listed hm]
    refine ⟨fun _ => ⟨fun _ => ⟨fun _ => ⟨fun _ => ⟨fun _ => ⟨fun _ => ⟨fun _ => ⟨fun _ => ⟨fun _ => ⟨_, c29 H hl, fun _ => ⟨_, c19 H ha, rfl⟩, fun h => absurd h (by simp)⟩, fun h => absurd rfl h⟩, fun h => absurd rfl h⟩, fun h => absurd rfl h⟩, fun h => absurd rfl h⟩, fun h => absurd rfl h⟩, fun h => absurd rfl h⟩, fun h => absurd rfl h⟩, fun h => absurd rfl h⟩, fun h => absurd rfl h⟩)
  exact h
theorem law9 {prog : Prog} (H : Has03 prog) (hf : prog.fn 9 = some pf9) (ha : prog.fn 19 = some pf19) (s : Bytes) : Pus prog 9 [.s s] (.b true) := by
  obtain ⟨x, rfl, h⟩ := p9 hf (s0 := s) (K := fun x => x = true) (by
    unfold T9_0 T9_1
    refine ⟨fun _ => ⟨_, c19 H ha, rfl⟩, fun hs => ?_⟩
    unfold T9_2
    refine ⟨_, _, c21 H _, ?_⟩
    unfold T9_3
    refine ⟨_, _, c23 H _, ?_⟩
    unfold T9_4
    refine ⟨_, _, c25 H _, ?_⟩
    unfold T9_5
    have h7 : T9_7 prog (fun x => x = true) := ⟨_, c19 H ha, rfl⟩
    have h6 : T9_6 prog (fun x => x = true) s (unlist s).1 (unlist s).2 := by
      unfold T9_6
      refine ⟨fun h => ⟨_, _, c13 H (unlist_small s), ?_⟩, fun _ => h7⟩
      rw [listR_no (unlist_many s), (listed_unlist h).1]
      exact ⟨fun h => absurd rfl h, fun _ => ⟨fun h => absurd rfl h, fun _ => h7⟩⟩
    have hQ : (unquo s).2 = 0 → quoR (unquo s).1 = (s, 0) := fun h => by
      rw [quoR_no (quo_unquo h).2, (quo_unquo h).1]
    have hX : (unhex s).2 = 0 → hex (unhex s).1 = s := fun h => (hex_unhex h).1
    have hX' : (unhex s).2 = 0 → (unhex s).1 < 18446744073709551616 := fun h => (hex_unhex h).2
    have hN := num_unnum (s := s)
    have g : (unquo s).2 = 0 → ∃ r : Bytes, ∃ r' : Int, Pus prog 11 [.s (unquo s).1] (.tup [.s r, .i .i64 r']) ∧ (r' ≠ 0 → false = true) ∧ (¬(r' ≠ 0) → (r ≠ s → false = true) ∧ (¬(r ≠ s) → T9_6 prog (fun x => x = true) s (unlist s).1 (unlist s).2)) := fun h => by
      refine ⟨_, _, c11 H _, ?_⟩
      rw [hQ h]
      exact ⟨fun h => absurd rfl h, fun _ => ⟨fun h => absurd rfl h, fun _ => h6⟩⟩
    have f : (unhex s).2 = 0 → ∃ r : Bytes, Pus prog 17 [.i .u64 ((unhex s).1 : Int)] (.s r) ∧ (r ≠ s → false = true) ∧ (¬(r ≠ s) → ((unquo s).2 = 0 → ∃ r : Bytes, ∃ r' : Int, Pus prog 11 [.s (unquo s).1] (.tup [.s r, .i .i64 r']) ∧ (r' ≠ 0 → false = true) ∧ (¬(r' ≠ 0) → (r ≠ s → false = true) ∧ (¬(r ≠ s) → T9_6 prog (fun x => x = true) s (unlist s).1 (unlist s).2))) ∧ (¬((unquo s).2 = 0) → T9_6 prog (fun x => x = true) s (unlist s).1 (unlist s).2)) := fun h => ⟨_, c17 H (hX' h), fun h' => absurd (hX h) h', fun _ => ⟨g, fun _ => h6⟩⟩
    exact ⟨_, _, c27 H s, fun h => ⟨_, c15 H (hN h).2.1 (hN h).2.2, fun h' => absurd (hN h).1 h', fun _ => ⟨f, fun _ => ⟨g, fun _ => h6⟩⟩⟩, fun _ => ⟨f, fun _ => ⟨g, fun _ => h6⟩⟩⟩)
  exact h
theorem many_append {l m : List Bytes} (h : many (l ++ m) = false) : many l = false ∧ many m = false := by
  obtain ⟨h1, h2⟩ := many_false.1 h
  rw [List.length_append] at h2
  exact ⟨many_false.2 ⟨fun x hx => h1 x (List.mem_append_left _ hx), by omega⟩, many_false.2 ⟨fun x hx => h1 x (List.mem_append_right _ hx), by omega⟩⟩
theorem listed_len2 (l : List Bytes) : (listed l).length = (innerQ l).length + 2 := by
  unfold listed
  simp
theorem listed_take (l : List Bytes) : (listed l).take ((listed l).length - 1) = 91 :: innerQ l := by
  rw [listed_len2]
  unfold listed
  rw [show (innerQ l).length + 2 - 1 = (innerQ l).length + 1 by omega, List.take_succ_cons, List.take_append_of_le_length (Nat.le_refl _), List.take_length]
theorem law5 {prog : Prog} (H : Has03 prog) (hf : prog.fn 5 = some pf5) (ha : prog.fn 19 = some pf19) (l m : List Bytes) : Pus prog 5 [.sl .ext (l.map rowS), .sl .ext (m.map rowS)] (.b true) := by
  obtain ⟨x, rfl, h⟩ := p5 hf (l0 := l) (m1 := m) (K := fun x => x = true) (by
    unfold T5_0 T5_1
    refine ⟨fun _ => ⟨_, c19 H ha, rfl⟩, fun hl => ⟨fun _ => ⟨_, c19 H ha, rfl⟩, fun hm => ?_⟩⟩
    have hF1 : Fit (([] : List Bytes).length + l.length) 16 := by rw [fit_iff]; simp only [List.length_nil]; omega
    have hF2 : Fit ((([] : List Bytes) ++ l).length + m.length) 16 := by rw [fit_iff]; simp only [List.nil_append]; omega
    refine ⟨hF1, hF2, _, c20 H (by simp; omega), fun _ => ⟨_, c19 H ha, rfl⟩, fun hg => ?_⟩
    have hg : many (l ++ m) = false := by simpa using hg
    obtain ⟨m1, m2⟩ := many_append hg
    unfold T5_2
    refine ⟨_, _, c13 H (by omega), ?_⟩
    unfold T5_3
    refine ⟨_, _, c13 H (by omega), hF1, hF2, _, _, c13 H (by simp; omega), ?_⟩
    rw [List.nil_append, listR_no m1, listR_no m2, listR_no hg]
    have l1 := listed_len2 l
    have l2 := listed_len2 m
    have b1 := listed_len m1
    have b2 := listed_len m2
    have hw : IntKind.i64.wrap (((listed l).length : Int) - 1) = (((listed l).length - 1 : Nat) : Int) := by
      rw [wr_i64 (by omega) (by omega)]; omega
    have h4 : ∀ b : Bytes, b.length ≤ 2 → listed (l ++ m) = ((listed l).take ((listed l).length - 1) ++ b) ++ (listed m).drop 1 → T5_4 prog (fun x => x = true) (listed l) (listed m) (listed (l ++ m)) b := by
      intro b hb he
      unfold T5_4
      rw [hw, toNat_cast, ← he]
      refine ⟨by omega, by omega, ?_, by omega, ?_, fun _ => ⟨_, c19 H ha, rfl⟩, fun h => absurd rfl h⟩
      · simp only [List.length_take, maxStr_eq]; omega
      · simp only [List.length_append, List.length_take, List.length_drop, maxStr_eq]; omega
    have e : ∀ b : Bytes, b = (if l.length > 0 ∧ m.length > 0 then [44, 32] else []) → listed (l ++ m) = ((listed l).take ((listed l).length - 1) ++ b) ++ (listed m).drop 1 := by
      intro b hb
      rw [listed_take, hb]
      unfold listed
      rw [innerQ_append]
      simp
    refine ⟨fun h => absurd rfl h, fun _ => ⟨fun h => absurd rfl h, fun _ => ⟨fun h => absurd rfl h, fun _ => ⟨fun h => absurd h (by simp only; omega), fun _ => ⟨fun h => absurd h (by simp only; omega), fun _ => ⟨fun h1 => ⟨fun h2 => ?_, fun h2 => ?_⟩, fun h1 => ?_⟩⟩⟩⟩⟩⟩
    · exact h4 _ (by simp) (e _ (by rw [if_pos ⟨by omega, by omega⟩]))
    · exact h4 _ (by simp) (e _ (by rw [if_neg (by omega)]))
    · exact h4 _ (by simp) (e _ (by rw [if_neg (by omega)])))
  exact h
end Go.AM
