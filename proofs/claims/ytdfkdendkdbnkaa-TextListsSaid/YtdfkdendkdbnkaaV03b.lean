/- Chapter 03: reading, in plain Lean. -/
import Derived.Test.YtdfkdendkdbnkaaV03
set_option linter.all false
namespace Go.AM
open Go

/-! digits -/
def dv (b : Nat) (c : UInt8) : Int := Lib.indexByte (DIG.take b) c
theorem dv_lt {b : Nat} (hb : b ≤ 16) (c : UInt8) : -1 ≤ dv b c ∧ dv b c < b := by
  have key : ∀ (l : Bytes), -1 ≤ Lib.indexByte l c ∧ (Lib.indexByte l c < l.length ∨ Lib.indexByte l c = -1) := by
    intro l
    induction l with
    | nil => exact ⟨Int.le_refl _, .inr rfl⟩
    | cons x l ih =>
      unfold Lib.indexByte
      split
      · simp
      · split
        · exact ⟨Int.le_refl _, .inr rfl⟩
        · simp only [List.length_cons]
          omega
  have := key (DIG.take b)
  unfold dv
  have hl : (DIG.take b).length = b := by simp [hb]
  omega
/-- The sixteen digits, each at its place. -/
theorem dv_hexd : ∀ k : Fin 16, dv 16 (hexd k) = (k.val : Int) := by decide
theorem idx_get (c : UInt8) : ∀ (l : Bytes), 0 ≤ Lib.indexByte l c → l[(Lib.indexByte l c).toNat]? = some c
  | [], h => absurd h (show ¬ (0 : Int) ≤ -1 by decide)
  | x :: l, h => by
    have ih := idx_get c l
    unfold Lib.indexByte at h ⊢
    split
    · rename_i hx
      have : x = c := by simpa using hx
      subst this
      rfl
    · rename_i hx
      rw [if_neg hx] at h
      split
      · rename_i h1
        rw [if_pos h1] at h
        exact absurd h (by decide)
      · rename_i h1
        rw [if_neg h1] at h
        have h2 := Lib.indexByte_ge l c
        have h3 : Lib.indexByte l c ≠ -1 := by simpa using h1
        have h4 : 0 ≤ Lib.indexByte l c := by omega
        have h5 : (Lib.indexByte l c + 1).toNat = (Lib.indexByte l c).toNat + 1 := by omega
        rw [h5, List.getElem?_cons_succ]
        exact ih h4
theorem dv_inv {b : Nat} (c : UInt8) (h : 0 ≤ dv b c) : c = hexd (dv b c).toNat := by
  have h1 := idx_get c (DIG.take b) h
  have h2 : DIG[(dv b c).toNat]? = some c := by
    have := (List.getElem?_eq_some_iff.1 h1)
    obtain ⟨h3, h4⟩ := this
    rw [List.getElem_take] at h4
    exact List.getElem?_eq_some_iff.2 ⟨by rw [List.length_take] at h3; exact Nat.lt_of_lt_of_le h3 (Nat.min_le_right _ _), h4⟩
  unfold hexd
  rw [List.getD_eq_getElem?_getD, h2]
  rfl
theorem dv10_hexd : ∀ k : Fin 10, dv 10 (hexd k) = (k.val : Int) := by decide
def vals (b : Nat) (s : Bytes) : Nat := s.foldl (fun n c => n * b + (dv b c).toNat) 0
def okd (b : Nat) (s : Bytes) : Bool := s.all fun c => decide (0 ≤ dv b c)
def badn (b : Nat) (s : Bytes) : Bool := decide (s = []) || !okd b s || (decide (1 < s.length) && decide (s.head? = some 48))
def rd (b most : Nat) (s : Bytes) : Nat × Int := if badn b s = true then (0, 12) else if most < vals b s then (0, 16) else (vals b s, 0)
theorem vals_take {b : Nat} {s : Bytes} {i : Nat} (h : i < s.length) : vals b (s.take (i + 1)) = vals b (s.take i) * b + (dv b s[i]).toNat := by
  unfold vals
  rw [List.take_succ_eq_append_getElem h, List.foldl_append]
  rfl
theorem okd_take {b : Nat} {s : Bytes} {i : Nat} (h : i < s.length) : okd b (s.take (i + 1)) = (okd b (s.take i) && decide (0 ≤ dv b s[i])) := by
  unfold okd
  rw [List.take_succ_eq_append_getElem h, List.all_append]
  simp
theorem okd_of {b : Nat} {s : Bytes} {i : Nat} (h : i < s.length) (hd : dv b s[i] < 0) : okd b s = false := by
  unfold okd
  rw [List.all_eq_false]
  exact ⟨s[i], List.getElem_mem h, by simpa using hd⟩
theorem far_iff {b most n d : Nat} (hb : 0 < b) (hd : d ≤ most) : (most - d) / b < n ↔ most < n * b + d := by
  rw [Nat.div_lt_iff_lt_mul hb]
  omega

/-! one byte of a text in quotes -/
def esx : Bytes → Option (UInt8 × Bytes)
  | a :: b :: r => if 0 ≤ dv 16 a ∧ 0 ≤ dv 16 b ∧ (16 * dv 16 a + dv 16 b).toNat ≠ 10 ∧ ((16 * dv 16 a + dv 16 b).toNat < 32 ∨ 126 < (16 * dv 16 a + dv 16 b).toNat) then some (UInt8.ofNat (16 * dv 16 a + dv 16 b).toNat, r) else none
  | _ => none
def esc : Bytes → Option (UInt8 × Bytes)
  | [] => none
  | c :: r => if c.toNat = 34 ∨ c.toNat = 92 then some (c, r) else if c.toNat = 110 then some (10, r) else if c.toNat = 120 then esx r else none
def one : Bytes → Option (UInt8 × Bytes)
  | [] => none
  | c :: r => if c.toNat = 34 ∨ c.toNat < 32 ∨ 126 < c.toNat then none else if c.toNat = 92 then esc r else some (c, r)
theorem u8_eq {a b : UInt8} (h : a.toNat = b.toNat) : a = b := UInt8.toNat_inj.1 h
theorem dv_hex {k : Nat} (h : k < 16) : dv 16 (hexd k) = (k : Int) := dv_hexd ⟨k, h⟩
theorem one_chr (c : UInt8) (r : Bytes) (h : (chr c ++ r).head? ≠ some 34) : one (chr c ++ r) = some (c, r) := by
  have hc := c.toNat_lt
  unfold chr at h ⊢
  split
  · rename_i h1
    simp [one, esc, h1]
  · split
    · rename_i h1 h2
      have : c = 10 := u8_eq h2
      subst this
      rfl
    · split
      · rename_i h1 h2 h3
        have e1 := dv_hex (k := c.toNat / 16) (by omega)
        have e2 := dv_hex (k := c.toNat % 16) (by omega)
        have e3 : (16 * ((c.toNat / 16 : Nat) : Int) + ((c.toNat % 16 : Nat) : Int)).toNat = c.toNat := by omega
        simp only [List.cons_append, List.nil_append, one, esc, esx, e1, e2, e3]
        rw [if_neg (by decide), if_pos (by decide), if_neg (by decide), if_neg (by decide), if_pos (by decide), if_pos ⟨by omega, by omega, h2, h3⟩]
        simp
      · rename_i h1 h2 h3
        simp only [List.cons_append, List.nil_append, one]
        rw [if_neg (by omega), if_neg (by omega)]
theorem one_inv {s : Bytes} {c : UInt8} {r : Bytes} (h : one s = some (c, r)) : s = chr c ++ r := by
  cases s with
  | nil => cases h
  | cons x s =>
    simp only [one] at h
    split at h
    · cases h
    rename_i h1
    split at h
    · rename_i h2
      have hx : x = 92 := u8_eq h2
      subst hx
      cases s with
      | nil => cases h
      | cons y s =>
        simp only [esc] at h
        split at h
        · rename_i h3
          cases h
          unfold chr
          rw [if_pos h3]
          rfl
        · split at h
          · rename_i h3 h4
            cases h
            have hy : y = 110 := u8_eq h4
            subst hy
            rfl
          · split at h
            · rename_i h3 h4 h5
              have hy : y = 120 := u8_eq h5
              subst hy
              match s, h with
              | a :: b :: r', h =>
                simp only [esx] at h
                split at h
                · rename_i h6
                  obtain ⟨ha, hb, hv, hw⟩ := h6
                  cases h
                  have la := dv_lt (b := 16) (by omega) a
                  have lb := dv_lt (b := 16) (by omega) b
                  have hv256 : (16 * dv 16 a + dv 16 b).toNat < 256 := by omega
                  have en : (UInt8.ofNat (16 * dv 16 a + dv 16 b).toNat).toNat = (16 * dv 16 a + dv 16 b).toNat := by
                    simp; omega
                  unfold chr
                  rw [en, if_neg (by omega), if_neg hv, if_pos hw]
                  have e1 : (16 * dv 16 a + dv 16 b).toNat / 16 = (dv 16 a).toNat := by omega
                  have e2 : (16 * dv 16 a + dv 16 b).toNat % 16 = (dv 16 b).toNat := by omega
                  rw [e1, e2, ← dv_inv a ha, ← dv_inv b hb]
                  rfl
                · cases h
            · cases h
    · rename_i h2
      cases h
      unfold chr
      rw [if_neg (by omega), if_neg (by omega), if_neg (by omega)]
      rfl
theorem chr_head (c : UInt8) : (chr c).head? ≠ some 34 := by
  unfold chr
  split
  · simp
  · split
    · simp
    · split
      · simp
      · rename_i h _ _
        simp
        intro he
        subst he
        exact h (.inl rfl)
theorem chr_ne (c : UInt8) : chr c ≠ [] := by
  intro h
  have := (chr_len c).1
  rw [h] at this
  simp at this
theorem chr_app_head (c : UInt8) (r : Bytes) : (chr c ++ r).head? ≠ some 34 := by
  cases hc : chr c with
  | nil => exact absurd hc (chr_ne c)
  | cons x l => have := chr_head c; rw [hc] at this; simpa using this
theorem one_iff {s : Bytes} {c : UInt8} {r : Bytes} : one s = some (c, r) ↔ s = chr c ++ r :=
  ⟨one_inv, fun h => by subst h; exact one_chr c r (chr_app_head c r)⟩

/-! a text in quotes at the beginning of a string -/
def nxtB : Nat → Bytes → Bytes → Option (Bytes × Bytes)
  | 0, _, _ => none
  | n + 1, out, s => match s with
    | [] => none
    | c :: r => if c.toNat = 34 then some (out, r) else match one (c :: r) with
      | none => none
      | some (x, r') => nxtB n (out ++ [x]) r'
def nxt : Bytes → Option (Bytes × Bytes)
  | [] => none
  | c :: r => if c.toNat = 34 then nxtB (r.length + 1) [] r else none
theorem one_len {s : Bytes} {c : UInt8} {r : Bytes} (h : one s = some (c, r)) : r.length < s.length := by
  have h1 := one_inv h
  have h2 := (chr_len c).1
  rw [h1, List.length_append]
  omega
theorem nxtB_iff : ∀ (n : Nat) (out s x r : Bytes), s.length < n → (nxtB n out s = some (x, r) ↔ ∃ y, x = out ++ y ∧ s = chrs y ++ 34 :: r)
  | 0, _, _, _, _, h => absurd h (Nat.not_lt_zero _)
  | n + 1, out, [], x, r, h => by
    refine ⟨fun h => (by cases h), fun ⟨y, _, h2⟩ => ?_⟩
    have := congrArg List.length h2
    simp at this
  | n + 1, out, c :: s, x, r, h => by
    unfold nxtB
    simp only
    by_cases hc : c.toNat = 34
    · rw [if_pos hc]
      have hc' : c = 34 := u8_eq hc
      subst hc'
      refine ⟨fun h => ?_, fun ⟨y, h1, h2⟩ => ?_⟩
      · cases h
        exact ⟨[], by simp, rfl⟩
      · cases y with
        | nil =>
          have h2 : (34 : UInt8) :: s = 34 :: r := h2
          injection h2 with _ h2
          rw [h1, h2, List.append_nil]
        | cons a y =>
          have h2 : (34 : UInt8) :: s = chr a ++ chrs y ++ 34 :: r := h2
          rw [List.append_assoc] at h2
          have := chr_app_head a (chrs y ++ 34 :: r)
          rw [← h2] at this
          exact absurd rfl this
    · rw [if_neg hc]
      cases ho : one (c :: s) with
      | none =>
        refine ⟨fun h => (by cases h), fun ⟨y, h1, h2⟩ => ?_⟩
        cases y with
        | nil =>
          have h2 : c :: s = 34 :: r := h2
          injection h2 with h2
          subst h2
          exact absurd rfl hc
        | cons a y =>
          have h2 : c :: s = chr a ++ chrs y ++ 34 :: r := h2
          rw [List.append_assoc] at h2
          have := one_iff.2 h2
          rw [ho] at this
          cases this
      | some p =>
        obtain ⟨a, r'⟩ := p
        simp only
        have hl := one_len ho
        have ih := nxtB_iff n (out ++ [a]) r' x r (by simp at h hl; omega)
        rw [ih]
        have hs := one_inv ho
        refine ⟨fun ⟨y, h1, h2⟩ => ⟨a :: y, by rw [h1]; simp, ?_⟩, fun ⟨y, h1, h2⟩ => ?_⟩
        · rw [hs, h2]
          show _ = chr a ++ chrs y ++ 34 :: r
          rw [List.append_assoc]
        · cases y with
          | nil =>
            have h2 : c :: s = 34 :: r := h2
            injection h2 with h2
            subst h2
            exact absurd rfl hc
          | cons b y =>
            have h2 : c :: s = chr b ++ chrs y ++ 34 :: r := h2
            rw [List.append_assoc] at h2
            have := one_iff.2 h2
            rw [ho] at this
            cases this
            exact ⟨y, by rw [h1]; simp, rfl⟩
theorem nxt_iff {s x r : Bytes} : nxt s = some (x, r) ↔ s = quo x ++ r := by
  cases s with
  | nil =>
    refine ⟨fun h => (by cases h), fun h => ?_⟩
    have := congrArg List.length h
    simp [quo] at this
  | cons c s =>
    simp only [nxt, quo]
    by_cases hc : c.toNat = 34
    · have hc' : c = 34 := u8_eq hc
      subst hc'
      rw [if_pos hc, nxtB_iff _ _ _ _ _ (Nat.lt_succ_self _)]
      refine ⟨fun ⟨y, h1, h2⟩ => ?_, fun h => ⟨x, by simp, ?_⟩⟩
      · simp only [List.nil_append] at h1
        subst h1
        rw [h2]
        simp
      · simp only [List.cons_append, List.append_assoc, List.nil_append, List.cons.injEq, true_and] at h
        exact h
    · rw [if_neg hc]
      refine ⟨fun h => (by cases h), fun h => ?_⟩
      injection h with h
      subst h
      exact absurd rfl hc

/-! numbers read -/
def unnum (s : Bytes) : Int × Int :=
  if 2000 < s.length then (0, 4) else
  if s.take 1 = [45] then
    if (rd 10 9223372036854775808 (s.drop 1)).2 = 0 ∧ (rd 10 9223372036854775808 (s.drop 1)).1 = 0 then (0, 12) else (-((rd 10 9223372036854775808 (s.drop 1)).1 : Int), (rd 10 9223372036854775808 (s.drop 1)).2)
  else (((rd 10 9223372036854775807 s).1 : Int), (rd 10 9223372036854775807 s).2)
theorem rd_le (b most : Nat) (s : Bytes) : (rd b most s).1 ≤ most := by
  unfold rd
  split
  · exact Nat.zero_le _
  · split
    · exact Nat.zero_le _
    · simp only; omega
theorem rd_err {b most : Nat} {s : Bytes} (h : (rd b most s).2 ≠ 0) : (rd b most s).1 = 0 := by
  unfold rd at h ⊢
  split
  · rfl
  · rename_i h1
    rw [if_neg h1] at h
    split
    · rfl
    · rename_i h2
      rw [if_neg h2] at h
      exact absurd rfl h
theorem vals_mono {b : Nat} (hb : 0 < b) {s : Bytes} {i : Nat} : ∀ k, i + k ≤ s.length → vals b (s.take i) ≤ vals b (s.take (i + k))
  | 0, _ => Nat.le_refl _
  | k + 1, h => by
    have := vals_mono hb (s := s) (i := i) k (by omega)
    rw [show i + (k + 1) = (i + k) + 1 by omega, vals_take (by omega)]
    have h3 : vals b (s.take (i + k)) ≤ vals b (s.take (i + k)) * b := Nat.le_mul_of_pos_right _ hb
    omega
theorem rd_zero {b most : Nat} (hb : 0 < b) {s : Bytes} (h : (rd b most s).2 = 0) (h0 : (rd b most s).1 = 0) : s = [48] := by
  unfold rd at h h0
  split at h
  · exact absurd h (by decide)
  rename_i hbad
  rw [if_neg hbad] at h0
  split at h
  · exact absurd h (by decide)
  rename_i hm
  rw [if_neg hm] at h0
  simp only at h0
  have hbad : badn b s = false := by simpa using hbad
  unfold badn at hbad
  simp only [Bool.or_eq_false_iff, decide_eq_false_iff_not, Bool.not_eq_false', Bool.and_eq_false_iff] at hbad
  obtain ⟨⟨hne, hok⟩, h48⟩ := hbad
  have hpos : 0 < s.length := List.length_pos_iff.2 hne
  have hz : (dv b s[0]).toNat = 0 := by
    have h1 := vals_mono hb (s := s) (i := 0 + 1) (s.length - 1) (by omega)
    rw [vals_take hpos, show 0 + 1 + (s.length - 1) = s.length by omega, List.take_length] at h1
    omega
  have hd : 0 ≤ dv b s[0] := by
    unfold okd at hok
    rw [List.all_eq_true] at hok
    simpa using hok s[0] (List.getElem_mem hpos)
  have hs0 : s[0] = 48 := by
    have := dv_inv s[0] hd
    rw [hz] at this
    exact this
  have hh : s.head? = some 48 := by rw [List.head?_eq_getElem?, List.getElem?_eq_getElem hpos, hs0]
  have hl : s.length = 1 := by
    rcases h48 with h | h
    · omega
    · exact absurd hh h
  match s, hl with
  | [c], _ => simp at hs0; rw [hs0]
def unhex (s : Bytes) : Nat × Int :=
  if 2000 < s.length then (0, 4) else if s.take 2 = [48, 120] then rd 16 18446744073709551615 (s.drop 2) else (0, 12)
def unquo (s : Bytes) : Bytes × Int :=
  if 2000 < s.length then ([], 4) else
  match nxt s with
  | some (x, []) => if 400 < x.length then ([], 4) else (x, 0)
  | _ => ([], 12)
def ul : Nat → List Bytes → Bytes → Option (List Bytes)
  | 0, _, _ => none
  | n + 1, l, s => match nxt s with
    | none => none
    | some (x, r) => if r = [93] then some (l ++ [x]) else if r.take 2 = [44, 32] then ul n (l ++ [x]) (r.drop 2) else none
def unl (o : Option (List Bytes)) : List Bytes × Int := match o with | none => ([], 12) | some l => if many l = true then ([], 4) else (l, 0)
theorem unl_yes {l : List Bytes} (h : many l = true) : unl (some l) = ([], 4) := by unfold unl; simp only; rw [if_pos h]
theorem unl_no {l : List Bytes} (h : many l = false) : unl (some l) = (l, 0) := by unfold unl; simp only; rw [if_neg (by rw [h]; decide)]
/-- A list behind its lead. -/
def ulp (p s : Bytes) (l : List Bytes) (n : Nat) : Option (List Bytes) := if s.take p.length = p then ul n l (s.drop p.length) else none
def unlist (s : Bytes) : List Bytes × Int :=
  if 200000 < s.length then ([], 4) else if s = [91, 93] then ([], 0) else unl (ulp [91] s [] (s.length + 1))
def nxtR (s : Bytes) : Bytes × Bytes × Bool := match nxt s with | some (x, r) => (x, r, true) | none => ([], [], false)
theorem take_chr {s : Bytes} {c : UInt8} : s.take (chr c).length = chr c ↔ one s = some (c, s.drop (chr c).length) := by
  rw [one_iff]
  refine ⟨fun h => ?_, fun h => ?_⟩
  · have := List.take_append_drop (chr c).length s
    rw [h] at this
    exact this.symm
  · rw [h]
    simp
end Go.AM
