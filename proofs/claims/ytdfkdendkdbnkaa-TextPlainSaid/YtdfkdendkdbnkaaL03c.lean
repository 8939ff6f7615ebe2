/- Chapter 03: printable bytes. -/
import Derived.Test.YtdfkdendkdbnkaaL03b
set_option linter.all false
namespace Go.AM
open Go
abbrev Prn (c : UInt8) : Prop := 32 ≤ c.toNat ∧ c.toNat ≤ 126
theorem hexd_prn : ∀ k : Fin 16, Prn (hexd k.val) ∧ (hexd k.val).toNat ≠ 34 ∧ (hexd k.val).toNat ≠ 92 := by decide
theorem hexd_ok {k : Nat} (h : k < 16) : Prn (hexd k) ∧ (hexd k).toNat ≠ 34 ∧ (hexd k).toNat ≠ 92 := hexd_prn ⟨k, h⟩
theorem ds_prn {b : Nat} (hb : 2 ≤ b) (hb' : b ≤ 16) : ∀ f n, ∀ c ∈ ds b f n, Prn c
  | 0, _, c, h => by cases h
  | f + 1, n, c, h => by
    unfold ds at h
    split at h
    · rename_i hn
      simp only [List.mem_singleton] at h
      subst h
      exact (hexd_ok (by omega)).1
    · rw [List.mem_append] at h
      rcases h with h | h
      · exact ds_prn hb hb' f _ c h
      · simp only [List.mem_singleton] at h
        subst h
        have : n % b < b := Nat.mod_lt _ (by omega)
        exact (hexd_ok (by omega)).1
theorem num_prn (n : Int) : ∀ c ∈ num n, Prn c := by
  intro c h
  unfold num at h
  split at h
  · rcases List.mem_cons.1 h with h | h
    · subst h; decide
    · exact ds_prn (by omega) (by omega) _ _ c h
  · exact ds_prn (by omega) (by omega) _ _ c h
theorem hex_prn (n : Nat) : ∀ c ∈ hex n, Prn c := by
  intro c h
  unfold hex at h
  rcases List.mem_cons.1 h with h | h
  · subst h; decide
  rcases List.mem_cons.1 h with h | h
  · subst h; decide
  · exact ds_prn (by omega) (by omega) _ _ c h
theorem chr_prn (x : UInt8) : ∀ c ∈ chr x, Prn c := by
  intro c h
  have hx := x.toNat_lt
  unfold chr at h
  split at h
  · rename_i h1
    simp only [List.mem_cons, List.not_mem_nil, or_false] at h
    rcases h with h | h
    · subst h; decide
    · subst h; unfold Prn; omega
  · split at h
    · simp only [List.mem_cons, List.not_mem_nil, or_false] at h
      rcases h with h | h <;> subst h <;> decide
    · split at h
      · simp only [List.mem_cons, List.not_mem_nil, or_false] at h
        rcases h with h | h | h | h
        · subst h; decide
        · subst h; decide
        · subst h; exact (hexd_ok (by omega)).1
        · subst h; exact (hexd_ok (by omega)).1
      · simp only [List.mem_cons, List.not_mem_nil, or_false] at h
        subst h
        unfold Prn; omega
theorem quo_prn (s : Bytes) : ∀ c ∈ quo s, Prn c := by
  intro c h
  unfold quo at h
  rcases List.mem_cons.1 h with h | h
  · subst h; decide
  rcases List.mem_append.1 h with h | h
  · unfold chrs at h
    obtain ⟨x, _, hx⟩ := List.mem_flatMap.1 h
    exact chr_prn x c hx
  · simp only [List.mem_singleton] at h
    subst h; decide
theorem get_app (pre : Bytes) (c : UInt8) (post : Bytes) : (pre ++ c :: post)[pre.length]? = some c := by simp
theorem quo_last (s : Bytes) : (quo s)[(quo s).length - 1]? = some 34 := by
  have e : quo s = (34 :: chrs s) ++ 34 :: [] := by simp [quo]
  rw [e]
  have := get_app (34 :: chrs s) 34 []
  rw [show ((34 :: chrs s : Bytes) ++ [34] : Bytes).length - 1 = (34 :: chrs s : Bytes).length by simp]
  exact this
section
variable {prog : Prog} {P : Int → Int → Prop} {q : Bytes}
/-- One byte of the text between the marks. -/
theorem stp {K : Bool → Prop} (hP : ∀ (sl k : Int), T4_7 prog K P q sl k → P sl k) {pre post : Bytes} {c : UInt8} {sl : Nat} (hq : q = pre ++ c :: post) (hb : q.length ≤ 10000) (hs : sl ≤ pre.length) (h34 : c.toNat = 34 → (sl % 2 = 1 ↔ post ≠ [])) (h : P (if c.toNat = 92 then ((sl + 1 : Nat) : Int) else 0) ((pre.length + 1 : Nat) : Int)) : P (sl : Int) (pre.length : Int) := by
  have hl : q.length = pre.length + (post.length + 1) := by rw [hq, List.length_append, List.length_cons]
  have hg : q[pre.length]? = some c := by rw [hq]; exact get_app pre c post
  have w1 : IntKind.i64.wrap ((pre.length : Int) + 1) = ((pre.length + 1 : Nat) : Int) := wr_succ (by omega)
  have w2 : IntKind.i64.wrap ((sl : Int) + 1) = ((sl + 1 : Nat) : Int) := wr_succ (by omega)
  have w3 : IntKind.i64.wrap ((q.length : Int) - 1) = ((pre.length + post.length : Nat) : Int) := by
    rw [wr_i64 (by omega) (by omega)]; omega
  apply hP
  have fin : 0 ≤ (pre.length : Int) ∧ ∃ c' : UInt8, q[((pre.length : Int)).toNat]? = some c' ∧ ((c'.toNat : Int) = 92 → T4_8 prog K P q (IntKind.i64.wrap ((sl : Int) + 1)) (pre.length : Int)) ∧ (¬((c'.toNat : Int) = 92) → T4_8 prog K P q 0 (pre.length : Int)) := by
    refine ⟨by omega, c, hg, fun h92 => ?_, fun h92 => ?_⟩
    · unfold T4_8
      rw [w1, w2]
      rw [if_pos (by omega)] at h
      exact h
    · unfold T4_8
      rw [w1]
      rw [if_neg (by omega)] at h
      exact h
  unfold T4_7
  refine ⟨fun _ => ⟨by omega, c, hg, fun h1 => ⟨fun h2 => ?_, fun _ => fin⟩, fun _ => fin⟩, fun h1 => absurd h1 (by omega)⟩
  exfalso
  have h3 := h34 (by omega)
  rw [w3] at h2
  have h2 : ((sl : Int).tmod 2 = 1) ↔ ((pre.length : Int) = ((pre.length + post.length : Nat) : Int)) := by simpa using h2
  have e : ((sl : Int).tmod 2 = 1) ↔ sl % 2 = 1 := by rw [Int.tmod_eq_emod_of_nonneg (by omega)]; omega
  have e2 : post ≠ [] ↔ 0 < post.length := List.length_pos_iff.symm
  rw [e, h3, e2] at h2
  omega
theorem scan {K : Bool → Prop} (hP : ∀ (sl k : Int), T4_7 prog K P q sl k → P sl k) (hT : T4_9 prog K) (hb : q.length ≤ 10000) : ∀ (r pre : Bytes) (sl : Nat), q = pre ++ (chrs r ++ [34]) → sl ≤ pre.length → sl % 2 = 0 → P (sl : Int) (pre.length : Int)
  | [], pre, sl, hq, hs, he => by
    refine stp hP (c := 34) (post := []) hq hb hs (fun _ => ⟨fun h => by omega, fun h => absurd rfl h⟩) ?_
    rw [if_neg (by decide)]
    apply hP
    unfold T4_7
    have hl := congrArg List.length hq
    simp only [chrs, List.flatMap_nil, List.nil_append, List.length_append, List.length_cons, List.length_nil] at hl
    exact ⟨fun h => absurd h (by omega), fun _ => hT⟩
  | c :: r, pre, sl, hq, hs, he => by
    have ih := fun pre' sl' h1 h2 h3 => scan hP hT hb r pre' sl' h1 h2 h3
    have hq : q = pre ++ (chr c ++ (chrs r ++ [34])) := by rw [hq]; show pre ++ (chr c ++ chrs r ++ [34]) = _; rw [List.append_assoc]
    have ne : ∀ x : Bytes, x ++ (chrs r ++ [34]) ≠ [] := by simp
    have l1 : ∀ a : UInt8, (pre ++ [a]).length = pre.length + 1 := by simp
    unfold chr at hq
    have hc := c.toNat_lt
    split at hq
    · rename_i h1
      refine stp hP (c := 92) (post := c :: (chrs r ++ [34])) hq hb hs (fun h => absurd h (by decide)) ?_
      rw [if_pos (by decide), ← l1 92]
      refine stp hP (pre := pre ++ [92]) (c := c) (post := chrs r ++ [34]) (by rw [hq]; simp) hb (by rw [l1]; omega) (fun _ => ⟨fun _ => ne [], fun _ => by omega⟩) ?_
      have hq' : q = (pre ++ [92] ++ [c]) ++ (chrs r ++ [34]) := by rw [hq]; simp
      rw [show (pre ++ [92] : Bytes).length + 1 = (pre ++ [92] ++ [c] : Bytes).length by simp]
      split
      · exact ih _ (sl + 1 + 1) hq' (by simp; omega) (by omega)
      · exact ih _ 0 hq' (by omega) (by omega)
    · split at hq
      · refine stp hP (c := 92) (post := 110 :: (chrs r ++ [34])) hq hb hs (fun h => absurd h (by decide)) ?_
        rw [if_pos (by decide), ← l1 92]
        refine stp hP (pre := pre ++ [92]) (c := 110) (post := chrs r ++ [34]) (by rw [hq]; simp) hb (by rw [l1]; omega) (fun h => absurd h (by decide)) ?_
        have hq' : q = (pre ++ [92] ++ [110]) ++ (chrs r ++ [34]) := by rw [hq]; simp
        rw [show (pre ++ [92] : Bytes).length + 1 = (pre ++ [92] ++ [110] : Bytes).length by simp]
        rw [if_neg (by decide)]
        exact ih _ 0 hq' (by omega) (by omega)
      · split at hq
        · have a1 := hexd_ok (k := c.toNat / 16) (by omega)
          have a2 := hexd_ok (k := c.toNat % 16) (by omega)
          generalize hexd (c.toNat / 16) = a at *
          generalize hexd (c.toNat % 16) = b at *
          refine stp hP (c := 92) (post := 120 :: a :: b :: (chrs r ++ [34])) hq hb hs (fun h => absurd h (by decide)) ?_
          rw [if_pos (by decide), ← l1 92]
          refine stp hP (pre := pre ++ [92]) (c := 120) (post := a :: b :: (chrs r ++ [34])) (by rw [hq]; simp) hb (by rw [l1]; omega) (fun h => absurd h (by decide)) ?_
          rw [if_neg (by decide), show (pre ++ [92] : Bytes).length + 1 = (pre ++ [92, 120] : Bytes).length by simp]
          refine stp hP (sl := 0) (pre := pre ++ [92, 120]) (c := a) (post := b :: (chrs r ++ [34])) (by rw [hq]; simp) hb (by omega) (fun h => absurd h a1.2.1) ?_
          rw [if_neg a1.2.2, show (pre ++ [92, 120] : Bytes).length + 1 = (pre ++ [92, 120, a] : Bytes).length by simp]
          refine stp hP (sl := 0) (pre := pre ++ [92, 120, a]) (c := b) (post := chrs r ++ [34]) (by rw [hq]; simp) hb (by omega) (fun h => absurd h a2.2.1) ?_
          have hq' : q = (pre ++ [92, 120, a, b]) ++ (chrs r ++ [34]) := by rw [hq]; simp
          rw [if_neg a2.2.2, show (pre ++ [92, 120, a] : Bytes).length + 1 = (pre ++ [92, 120, a, b] : Bytes).length by simp]
          exact ih _ 0 hq' (by omega) (by omega)
        · rename_i h1 h2 h3
          refine stp hP (c := c) (post := chrs r ++ [34]) hq hb hs (fun h => absurd (.inl h) h1) ?_
          have hq' : q = (pre ++ [c]) ++ (chrs r ++ [34]) := by rw [hq]; simp
          rw [if_neg (by omega), ← l1 c]
          exact ih _ 0 hq' (by omega) (by omega)
end
theorem law4 {prog : Prog} (H : Has03 prog) (hf : prog.fn 4 = some pf4) (ha : prog.fn 19 = some pf19) {i : Int} {n : Nat} {s : Bytes} (h1 : -9223372036854775808 ≤ i) (h2 : i < 9223372036854775808) (hn : n < 18446744073709551616) : Pus prog 4 [.i .i64 i, .i .u64 (n : Int), .s s] (.b true) := by
  obtain ⟨x, rfl, h⟩ := p4 hf (i0 := i) (n1 := (n : Int)) (s2 := s) (K := fun x => x = true) (by
    unfold T4_0 T4_1
    refine ⟨fun _ => ⟨_, c19 H ha, rfl⟩, fun hs => ?_⟩
    unfold T4_2
    refine ⟨_, _, c11 H s, ?_⟩
    rw [quoR_no (by omega)]
    unfold T4_3
    have hl := quo_len s
    have hl2 : 2 ≤ (quo s).length := by simp only [quo, List.length_cons, List.length_append, List.length_nil]; omega
    have hw : IntKind.i64.wrap (((quo s).length : Int) - 1) = (((quo s).length - 1 : Nat) : Int) := by
      rw [wr_i64 (by omega) (by omega)]; omega
    refine ⟨fun h => absurd rfl h, fun _ => ⟨fun h => absurd h (by simp only; omega), fun _ => ⟨34, rfl, fun h => absurd (by decide) h, fun _ => ⟨by simp only; rw [hw]; omega, 34, by simp only; rw [hw, toNat_cast]; exact quo_last s, fun h => absurd (by decide) h, fun _ => ?_⟩⟩⟩⟩
    have hT : T4_9 prog (fun x => x = true) := ⟨_, c19 H ha, rfl⟩
    have n1 : (num i).length ≤ 65 := by
      unfold num
      split
      · have := ds_len 10 64 (-i).toNat
        simp only [digs, List.length_cons]; omega
      · have := ds_len 10 64 i.toNat
        simp only [digs]; omega
    have n2 : (hex n).length ≤ 66 := by
      have := ds_len 16 64 n
      simp only [hex, digs, List.length_cons]; omega
    unfold T4_4
    refine ⟨_, c15 H h1 h2, _, c17 H hn, by rw [maxStr_eq]; omega, by rw [maxStr_eq, List.length_append]; simp only; omega, fun P hP => ?_⟩
    have hall : ∀ c ∈ (num i ++ hex n) ++ quo s, Prn c := by
      intro c hc
      rcases List.mem_append.1 hc with hc | hc
      · rcases List.mem_append.1 hc with hc | hc
        · exact num_prn i c hc
        · exact hex_prn n c hc
      · exact quo_prn s c hc
    have hal : ((num i ++ hex n) ++ quo s).length ≤ 10000 := by simp only [List.length_append]; omega
    simp only at hP
    generalize (num i ++ hex n) ++ quo s = all at hP hall hal
    refine loop_up0 all.length ?_ ?_
    · apply hP
      unfold T4_5
      refine ⟨fun h => absurd h (by omega), fun _ => ?_⟩
      unfold T4_6
      intro P1 hP1
      have := scan (q := quo s) hP1 hT (by omega) s [34] 0 rfl (by omega) rfl
      exact this
    · intro k hk ih
      apply hP
      unfold T4_5
      have hc := hall all[k] (List.getElem_mem hk)
      refine ⟨fun _ => ⟨by omega, all[k], by rw [toNat_cast]; exact List.getElem?_eq_getElem hk, fun h => absurd h (by omega), fun _ => ⟨by omega, all[k], by rw [toNat_cast]; exact List.getElem?_eq_getElem hk, fun h => absurd h (by omega), fun _ => ?_⟩⟩, fun h => absurd h (by omega)⟩
      rw [wr_succ (by omega)]
      exact ih)
  exact h
end Go.AM
