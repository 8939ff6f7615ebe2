/- Chapter 03: writing and reading are inverse, in plain Lean. -/
import Derived.Test.YtdfkdendkdbnkaaV03b
set_option linter.all false
namespace Go.AM
open Go

theorem dv_hexd_b : ∀ b : Fin 17, ∀ k : Fin 16, k.val < b.val → dv b.val (hexd k.val) = (k.val : Int) := by decide
theorem dv_of {b k : Nat} (hb : b ≤ 16) (hk : k < b) : dv b (hexd k) = (k : Int) := dv_hexd_b ⟨b, by omega⟩ ⟨k, by omega⟩ hk
theorem hexd_48 {k : Nat} (hk : k < 16) (h : hexd k = 48) : k = 0 := by
  have h1 := dv_of (b := 16) (Nat.le_refl _) hk
  rw [h] at h1
  have h2 : dv 16 48 = 0 := rfl
  omega
theorem vals_snoc (b : Nat) (s : Bytes) (c : UInt8) : vals b (s ++ [c]) = vals b s * b + (dv b c).toNat := by
  unfold vals
  rw [List.foldl_append]
  rfl
theorem okd_snoc (b : Nat) (s : Bytes) (c : UInt8) : okd b (s ++ [c]) = (okd b s && decide (0 ≤ dv b c)) := by
  unfold okd
  rw [List.all_append]
  simp
/-- Digits written are read. -/
theorem ds_read {b : Nat} (hb : 2 ≤ b) (hb' : b ≤ 16) : ∀ f n, n < b ^ f → 0 < f → vals b (ds b f n) = n ∧ okd b (ds b f n) = true ∧ ds b f n ≠ [] ∧ ((ds b f n).head? = some 48 → n = 0) ∧ (n = 0 → ds b f n = [48])
  | 0, _, _, h => absurd h (Nat.lt_irrefl _)
  | f + 1, n, h, _ => by
    unfold ds
    by_cases hn : n < b
    · rw [if_pos hn]
      have hd := dv_of hb' hn
      refine ⟨?_, ?_, by simp, fun h1 => ?_, fun h1 => by subst h1; rfl⟩
      · show 0 * b + (dv b (hexd n)).toNat = n
        omega
      · show (decide (0 ≤ dv b (hexd n)) && true) = true
        rw [hd]
        simp
      · simp at h1
        exact hexd_48 (by omega) h1
    · rw [if_neg hn]
      have h1 : n / b < b ^ f := by
        rw [Nat.div_lt_iff_lt_mul (by omega)]
        rw [Nat.pow_succ] at h
        exact h
      have h2 : 0 < f := by
        rcases Nat.eq_zero_or_pos f with rfl | h
        · simp at h1
          have := Nat.div_pos (show b ≤ n by omega) (by omega)
          omega
        · exact h
      obtain ⟨i1, i2, i3, i4, i5⟩ := ds_read hb hb' f (n / b) h1 h2
      have hr : n % b < b := Nat.mod_lt _ (by omega)
      have hd := dv_of hb' hr
      have hq := Nat.div_pos (show b ≤ n by omega) (show 0 < b by omega)
      refine ⟨?_, ?_, by simp, fun h3 => ?_, fun h3 => absurd h3 (by omega)⟩
      · rw [vals_snoc, i1, hd]
        have := Nat.div_add_mod n b
        rw [Nat.mul_comm] at this
        omega
      · rw [okd_snoc, i2, hd, Bool.true_and]
        exact decide_eq_true (Int.natCast_nonneg _)
      · rw [List.head?_append] at h3
        cases hh : (ds b f (n / b)).head? with
        | none => exact absurd (List.head?_eq_none_iff.1 hh) i3
        | some c =>
          rw [hh] at h3
          simp at h3
          subst h3
          have := i4 hh
          omega
theorem pow64 {b n : Nat} (hb : 2 ≤ b) (hn : n < 18446744073709551616) : n < b ^ 64 :=
  Nat.lt_of_lt_of_le hn (Nat.pow_le_pow_left hb 64)
theorem rd_digs {b most n : Nat} (hb : 2 ≤ b) (hb' : b ≤ 16) (hn : n < 18446744073709551616) (hm : n ≤ most) : rd b most (digs b n) = (n, 0) := by
  obtain ⟨h1, h2, h3, h4, h5⟩ := ds_read hb hb' 64 n (pow64 hb hn) (by omega)
  have hbad : badn b (digs b n) = false := by
    unfold badn digs
    rw [decide_eq_false h3, h2]
    simp only [Bool.false_or, Bool.not_true]
    by_cases h6 : (ds b 64 n).head? = some 48
    · rw [h5 (h4 h6)]
      rfl
    · rw [decide_eq_false h6, Bool.and_false]
  unfold rd
  rw [if_neg (by rw [hbad]; decide)]
  unfold digs
  rw [h1, if_neg (by omega)]
/-- Digits read are written. -/
theorem ds_write {b : Nat} (hb : 2 ≤ b) (hb' : b ≤ 16) : ∀ (m : Nat) (s : Bytes), s.length = m → s ≠ [] → okd b s = true → ¬(1 < s.length ∧ s.head? = some 48) → ∀ f, vals b s < b ^ f → 0 < f → ds b f (vals b s) = s
  | 0, s, hm, hne, _, _, _, _, _ => absurd (List.length_eq_zero_iff.1 hm) hne
  | m + 1, s, hm, hne, hok, h48, f, hf, hf0 => by
    obtain ⟨l, c, rfl⟩ : ∃ l c, s = l ++ [c] := ⟨s.dropLast, s.getLast hne, (List.dropLast_concat_getLast hne).symm⟩
    rw [okd_snoc, Bool.and_eq_true, decide_eq_true_eq] at hok
    have hd := dv_lt hb' c
    have hc := dv_inv c hok.2
    rw [vals_snoc] at hf ⊢
    generalize hdd : (dv b c).toNat = d at *
    have hdb : d < b := by omega
    match f, hf0 with
    | f + 1, _ =>
      unfold ds
      by_cases hl : l = []
      · subst hl
        have hv : vals b [] * b + d = d := by show 0 * b + d = d; omega
        rw [hv, if_pos hdb, ← hc]
        rfl
      · have hpos : 0 < l.length := List.length_pos_iff.2 hl
        have hhead : l.head? ≠ some 48 := by
          intro h
          refine h48 ⟨by simp; omega, ?_⟩
          rw [List.head?_append, h]
          rfl
        have hv : 0 < vals b l := by
          rcases Nat.eq_zero_or_pos (vals b l) with h | h
          · exfalso
            have h1 := vals_mono (b := b) (by omega) (s := l) (i := 0 + 1) (l.length - 1) (by omega)
            rw [vals_take hpos, show 0 + 1 + (l.length - 1) = l.length by omega, List.take_length, h] at h1
            have h2 : 0 ≤ dv b l[0] := by
              have := hok.1
              unfold okd at this
              rw [List.all_eq_true] at this
              simpa using this l[0] (List.getElem_mem hpos)
            have h3 := dv_inv l[0] h2
            have h4 : (dv b l[0]).toNat = 0 := by omega
            rw [h4] at h3
            apply hhead
            rw [List.head?_eq_getElem?, List.getElem?_eq_getElem hpos, h3]
            rfl
          · exact h
        have hbig : ¬ vals b l * b + d < b := by
          have : b ≤ vals b l * b := Nat.le_mul_of_pos_left _ hv
          omega
        have hdiv : (vals b l * b + d) / b = vals b l := by
          rw [Nat.mul_comm, Nat.mul_add_div (by omega), Nat.div_eq_of_lt hdb, Nat.add_zero]
        have hmod : (vals b l * b + d) % b = d := by
          rw [Nat.mul_comm, Nat.mul_add_mod, Nat.mod_eq_of_lt hdb]
        rw [if_neg hbig, hdiv, hmod, ← hc]
        have hlt : vals b l < b ^ f := by
          rw [Nat.pow_succ] at hf
          exact Nat.lt_of_mul_lt_mul_right (a := b) (by omega)
        have hf1 : 0 < f := by
          rcases Nat.eq_zero_or_pos f with rfl | h
          · simp at hlt; omega
          · exact h
        rw [ds_write hb hb' m l (by simp at hm; exact hm) hl hok.1 (fun h => hhead h.2) f hlt hf1]
theorem digs_rd {b most : Nat} (hb : 2 ≤ b) (hb' : b ≤ 16) (hm : most < 18446744073709551616) {s : Bytes} (h : (rd b most s).2 = 0) : digs b (rd b most s).1 = s := by
  unfold rd at h ⊢
  split at h
  · exact absurd h (by decide)
  rename_i hbad
  rw [if_neg hbad]
  split at h
  · exact absurd h (by decide)
  rename_i hv
  rw [if_neg hv]
  have hbad : badn b s = false := by simpa using hbad
  unfold badn at hbad
  simp only [Bool.or_eq_false_iff, decide_eq_false_iff_not, Bool.not_eq_false', Bool.and_eq_false_iff] at hbad
  obtain ⟨⟨hne, hok⟩, h48⟩ := hbad
  exact ds_write hb hb' s.length s rfl hne hok (fun h => by rcases h48 with h1 | h1; exact h1 h.1; exact h1 h.2) 64 (pow64 hb (by omega)) (by omega)

theorem unnum_num {n : Int} (h1 : -9223372036854775808 ≤ n) (h2 : n < 9223372036854775808) : unnum (num n) = (n, 0) := by
  have hl : (num n).length ≤ 65 := by
    unfold num
    split
    · have := ds_len 10 64 (-n).toNat
      simp only [digs, List.length_cons]; omega
    · have := ds_len 10 64 n.toNat
      simp only [digs]; omega
  unfold unnum
  rw [if_neg (by omega)]
  by_cases hn : n < 0
  · have e : num n = 45 :: digs 10 (-n).toNat := by unfold num; rw [if_pos hn]
    have hr := rd_digs (b := 10) (most := 9223372036854775808) (n := (-n).toNat) (by omega) (by omega) (by omega) (by omega)
    rw [e, if_pos (show List.take 1 (45 :: digs 10 (-n).toNat) = [45] from rfl), List.drop_succ_cons, List.drop_zero, hr, if_neg (by simp only; omega)]
    simp only [Prod.mk.injEq, and_true]
    omega
  · have e : num n = digs 10 n.toNat := by unfold num; rw [if_neg hn]
    have hr := rd_digs (b := 10) (most := 9223372036854775807) (n := n.toNat) (by omega) (by omega) (by omega) (by omega)
    have h45 : ¬ (digs 10 n.toNat).take 1 = [45] := by
      intro h
      obtain ⟨_, k2, k3, _⟩ := ds_read (b := 10) (by omega) (by omega) 64 n.toNat (pow64 (by omega) (by omega)) (by omega)
      unfold digs at h
      cases hd : ds 10 64 n.toNat with
      | nil => exact k3 hd
      | cons c r =>
        rw [hd] at h k2
        simp at h
        subst h
        unfold okd at k2
        simp only [List.all_cons, Bool.and_eq_true, decide_eq_true_eq] at k2
        exact absurd k2.1 (by decide)
    rw [e, if_neg h45, hr]
    simp only [Prod.mk.injEq, and_true]
    omega
theorem num_unnum {s : Bytes} (h : (unnum s).2 = 0) : num (unnum s).1 = s ∧ -9223372036854775808 ≤ (unnum s).1 ∧ (unnum s).1 < 9223372036854775808 := by
  unfold unnum at h ⊢
  split at h
  · exact absurd h (by decide)
  rename_i hl
  rw [if_neg hl]
  split at h
  · rename_i hm
    rw [if_pos hm]
    split at h
    · exact absurd h (by decide)
    rename_i hz
    rw [if_neg hz]
    simp only at h ⊢
    have hle := rd_le 10 9223372036854775808 (s.drop 1)
    have hne : (rd 10 9223372036854775808 (s.drop 1)).1 ≠ 0 := fun h0 => hz ⟨h, h0⟩
    have hd := digs_rd (b := 10) (by omega) (by omega) (by omega) h
    refine ⟨?_, by omega, by omega⟩
    unfold num
    rw [if_pos (by omega), Int.neg_neg, Int.toNat_natCast, hd]
    have := List.take_append_drop 1 s
    rw [hm] at this
    exact this
  · rename_i hm
    rw [if_neg hm]
    simp only at h ⊢
    have hle := rd_le 10 9223372036854775807 s
    have hd := digs_rd (b := 10) (by omega) (by omega) (by omega) h
    refine ⟨?_, by omega, by omega⟩
    unfold num
    rw [if_neg (by omega), Int.toNat_natCast, hd]
theorem unhex_hex {n : Nat} (hn : n < 18446744073709551616) : unhex (hex n) = (n, 0) := by
  have hl := ds_len 16 64 n
  unfold unhex hex
  rw [if_neg (by simp only [digs, List.length_cons]; omega), if_pos (show List.take 2 (48 :: 120 :: digs 16 n) = [48, 120] from rfl)]
  exact rd_digs (by omega) (by omega) hn (by omega)
theorem hex_unhex {s : Bytes} (h : (unhex s).2 = 0) : hex (unhex s).1 = s ∧ (unhex s).1 < 18446744073709551616 := by
  unfold unhex at h ⊢
  split at h
  · exact absurd h (by decide)
  rename_i hl
  rw [if_neg hl]
  split at h
  · rename_i hm
    rw [if_pos hm]
    have hle := rd_le 16 18446744073709551615 (s.drop 2)
    have hd := digs_rd (b := 16) (by omega) (by omega) (by omega) h
    refine ⟨?_, by omega⟩
    unfold hex
    rw [hd]
    have := List.take_append_drop 2 s
    rw [hm] at this
    exact this
  · exact absurd h (by decide)
theorem unquo_quo {s : Bytes} (hs : s.length ≤ 400) : unquo (quo s) = (s, 0) := by
  have hl := quo_len s
  unfold unquo
  rw [if_neg (by omega), nxt_iff.2 (show quo s = quo s ++ [] by simp)]
  simp only
  rw [if_neg (by omega)]
theorem quo_unquo {s : Bytes} (h : (unquo s).2 = 0) : quo (unquo s).1 = s ∧ (unquo s).1.length ≤ 400 := by
  unfold unquo at h ⊢
  split at h
  · exact absurd h (by decide)
  rename_i hl
  rw [if_neg hl]
  cases hn : nxt s with
  | none => rw [hn] at h; exact absurd h (by decide)
  | some p =>
    obtain ⟨x, r⟩ := p
    rw [hn] at h
    cases r with
    | cons c r => exact absurd h (show ¬ (12 : Int) = 0 by decide)
    | nil =>
      simp only at h ⊢
      split at h
      · exact absurd h (by decide)
      rename_i hx
      rw [if_neg hx]
      have := nxt_iff.1 hn
      rw [List.append_nil] at this
      exact ⟨this.symm, by simp only; omega⟩
theorem innerQ_cons {x : Bytes} {l : List Bytes} (h : l ≠ []) : innerQ (x :: l) = quo x ++ 44 :: 32 :: innerQ l := by
  cases l with
  | nil => exact absurd rfl h
  | cons y l => simp [innerQ, tailQ]
theorem ul_yes : ∀ (n : Nat) (acc l : List Bytes), l ≠ [] → l.length ≤ n → ul n acc (innerQ l ++ [93]) = some (acc ++ l)
  | 0, acc, l, h, hn => absurd (List.length_eq_zero_iff.1 (by omega)) h
  | n + 1, acc, [], h, _ => absurd rfl h
  | n + 1, acc, x :: l, _, hn => by
    unfold ul
    by_cases hl : l = []
    · subst hl
      have e : nxt (innerQ [x] ++ [93]) = some (x, [93]) := nxt_iff.2 (by simp [innerQ, tailQ])
      rw [e]
      simp only
      rw [if_pos trivial]
    · have e : nxt (innerQ (x :: l) ++ [93]) = some (x, 44 :: 32 :: (innerQ l ++ [93])) := nxt_iff.2 (by rw [innerQ_cons hl]; simp)
      rw [e]
      simp only
      rw [if_neg (by simp), if_pos (show List.take 2 (44 :: 32 :: (innerQ l ++ [93])) = [44, 32] from rfl), List.drop_succ_cons, List.drop_succ_cons, List.drop_zero, ul_yes n (acc ++ [x]) l hl (by simp at hn; omega)]
      simp
theorem ul_inv : ∀ (n : Nat) (acc : List Bytes) (s : Bytes) (r : List Bytes), ul n acc s = some r → ∃ l, l ≠ [] ∧ r = acc ++ l ∧ s = innerQ l ++ [93]
  | 0, _, _, _, h => by cases h
  | n + 1, acc, s, r, h => by
    unfold ul at h
    cases hn : nxt s with
    | none => rw [hn] at h; cases h
    | some p =>
      obtain ⟨x, t⟩ := p
      rw [hn] at h
      simp only at h
      have hs := nxt_iff.1 hn
      split at h
      · rename_i ht
        cases h
        subst ht
        exact ⟨[x], by simp, rfl, by rw [hs]; simp [innerQ, tailQ]⟩
      · split at h
        · rename_i ht
          obtain ⟨l, h1, h2, h3⟩ := ul_inv n _ _ _ h
          refine ⟨x :: l, by simp, by rw [h2]; simp, ?_⟩
          have e := List.take_append_drop 2 t
          rw [ht, h3] at e
          rw [hs, innerQ_cons h1, ← e]
          simp
        · cases h
theorem listed_len {l : List Bytes} (h : many l = false) : (listed l).length ≤ 102700 := by
  obtain ⟨h1, h2⟩ := many_false.1 h
  have := innerQ_len h1
  unfold listed
  simp only [List.length_cons, List.length_append, List.length_nil]
  omega
theorem listed_ne {l : List Bytes} (h : l ≠ []) : listed l ≠ [91, 93] := by
  cases l with
  | nil => exact absurd rfl h
  | cons x l =>
    intro e
    have := congrArg List.length e
    simp only [listed, innerQ, quo, List.length_cons, List.length_append, List.length_nil] at this
    omega
theorem len_innerQ (l : List Bytes) : l.length ≤ (innerQ l).length := by
  cases l with
  | nil => exact Nat.le_refl _
  | cons x l =>
    have tl : ∀ l : List Bytes, l.length ≤ (tailQ l).length := by
      intro l
      induction l with
      | nil => exact Nat.le_refl _
      | cons y l ih =>
        have e : tailQ (y :: l) = 44 :: 32 :: quo y ++ tailQ l := rfl
        rw [e]
        simp only [List.length_append, List.length_cons]
        omega
    have := tl l
    simp only [innerQ, quo, List.length_append, List.length_cons]
    omega
theorem ulp_listed {l : List Bytes} (h : l ≠ []) : ulp [91] (listed l) [] ((listed l).length + 1) = some l := by
  unfold ulp
  rw [if_pos (show List.take ([91] : Bytes).length (listed l) = [91] from rfl)]
  have := ul_yes ((listed l).length + 1) [] l h (by have := len_innerQ l; unfold listed; simp only [List.length_cons, List.length_append]; omega)
  rw [List.nil_append] at this
  exact this
theorem unlist_listed {l : List Bytes} (h : many l = false) : unlist (listed l) = (l, 0) := by
  have hl := listed_len h
  unfold unlist
  rw [if_neg (by omega)]
  by_cases hn : l = []
  · subst hn
    rw [if_pos (show listed [] = [91, 93] from rfl)]
  · rw [if_neg (listed_ne hn), ulp_listed hn, unl_no h]
theorem listed_unlist {s : Bytes} (h : (unlist s).2 = 0) : listed (unlist s).1 = s ∧ many (unlist s).1 = false := by
  unfold unlist at h ⊢
  split at h
  · exact absurd h (by decide)
  rename_i hl
  rw [if_neg hl]
  split at h
  · rename_i hs
    rw [if_pos hs, hs]
    exact ⟨rfl, rfl⟩
  rename_i hs
  rw [if_neg hs]
  cases hu : ulp [91] s [] (s.length + 1) with
  | none => rw [hu] at h; exact absurd h (by decide)
  | some l =>
    rw [hu] at h
    cases hm : many l with
    | true => rw [unl_yes hm] at h; exact absurd h (by decide)
    | false =>
      rw [unl_no hm]
      refine ⟨?_, hm⟩
      unfold ulp at hu
      split at hu
      · rename_i ht
        obtain ⟨l', h1, h2, h3⟩ := ul_inv _ _ _ _ hu
        rw [List.nil_append] at h2
        subst h2
        have e := List.take_append_drop ([91] : Bytes).length s
        rw [ht, h3] at e
        exact e
      · cases hu
theorem innerQ_append (l m : List Bytes) : innerQ (l ++ m) = innerQ l ++ (if l.length > 0 ∧ m.length > 0 then [44, 32] else []) ++ innerQ m := by
  cases l with
  | nil => simp [innerQ]
  | cons x l =>
    cases m with
    | nil => simp [innerQ]
    | cons y m => simp [innerQ, tailQ]
end Go.AM
