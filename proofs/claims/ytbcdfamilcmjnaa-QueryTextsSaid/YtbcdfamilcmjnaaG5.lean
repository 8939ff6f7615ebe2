/- The statement QueryTexts: for every input the law returns true, and each argument reads afterwards as before. No conditions. -/
import Derived.Test.YtbcdfamilcmjnaaG2
import Derived.Test.YtbcdfamilcmjnaaG3
import Derived.Test.YtbcdfamilcmjnaaG4
set_option linter.all false
/- Parts of the proof. -/
namespace Go.AM
open Go
structure Has03 (prog : Prog) : Prop where
  f42 : prog.fn 42 = some pf42
  f46 : prog.fn 46 = some pf46
  f36 : prog.fn 36 = some pf36
  f43 : prog.fn 43 = some pf43
  f47 : prog.fn 47 = some pf47
  f11 : prog.fn 11 = some pf11
  f15 : prog.fn 15 = some pf15
  f21 : prog.fn 21 = some pf21
  f25 : prog.fn 25 = some pf25
  f30 : prog.fn 30 = some pf30
  f34 : prog.fn 34 = some pf34
  f37 : prog.fn 37 = some pf37
  f39 : prog.fn 39 = some pf39
  f45 : prog.fn 45 = some pf45
  f16 : prog.fn 16 = some pf16
  f22 : prog.fn 22 = some pf22
  f26 : prog.fn 26 = some pf26
  f31 : prog.fn 31 = some pf31
  f35 : prog.fn 35 = some pf35
  f38 : prog.fn 38 = some pf38
  f40 : prog.fn 40 = some pf40
  f41 : prog.fn 41 = some pf41
  f44 : prog.fn 44 = some pf44
  f48 : prog.fn 48 = none
  o48 : ∀ (s : Bytes) (c : UInt8), prog.orac 48 [.s s, .i .u8 (c.toNat : Int)] = some (.i .i64 (Lib.indexByte s c))
section
variable {prog : Prog} (H : Has03 prog)
include H
theorem c41 (c : UInt8) : Pus prog 41 [.i .u8 (c.toNat : Int)] (.s (chr c)) := by
  have hc := c.toNat_lt
  have hq : (c.toNat : Int).tdiv 16 = ((c.toNat / 16 : Nat) : Int) := by rw [Int.tdiv_eq_ediv_of_nonneg (by omega)]; omega
  have hr : (c.toNat : Int).tmod 16 = ((c.toNat % 16 : Nat) : Int) := by rw [Int.tmod_eq_emod_of_nonneg (by omega)]; omega
  have w1 : IntKind.u8.wrap ((c.toNat / 16 : Nat) : Int) = ((c.toNat / 16 : Nat) : Int) := wr_u8 (by omega) (by omega)
  have w2 : IntKind.u8.wrap (((c.toNat / 16 : Nat) : Int) + 1) = ((c.toNat / 16 + 1 : Nat) : Int) := by rw [wr_u8 (by omega) (by omega)]; omega
  have w3 : IntKind.u8.wrap (((c.toNat % 16 : Nat) : Int) + 1) = ((c.toNat % 16 + 1 : Nat) : Int) := by rw [wr_u8 (by omega) (by omega)]; omega
  have t1 := hexd_take (n := c.toNat / 16) (by omega) rfl
  have t2 := hexd_take (n := c.toNat % 16) (by omega) rfl
  obtain ⟨x, rfl, h⟩ := p41 H.f41 (c0 := (c.toNat : Int)) (K := fun x => x = chr c) (by
    unfold T41_0
    simp only [hq, hr, w1, w2, w3, toNat_cast, t1, t2, List.length_cons, List.length_nil, maxStr_eq, List.length_append]
    refine ⟨fun h => ⟨c, rfl, ?_⟩, fun h => ⟨fun h2 => ⟨c, rfl, ?_⟩, fun h2 => ⟨fun h3 => ?_, fun h3 => ⟨fun h4 => ⟨fun h5 => ⟨c, rfl, ?_⟩, fun h5 => ?_⟩, fun h4 => ?_⟩⟩⟩⟩
    · unfold chr; rw [if_pos (by omega)]
    · unfold chr; rw [if_pos (by omega)]
    · unfold chr; rw [if_neg (by omega), if_pos (by omega)]
    · unfold chr; rw [if_neg (by omega), if_neg (by omega), if_neg (by omega)]
    · refine ⟨by omega, by omega, by omega, by omega, by omega, by omega, by omega, by omega, ?_⟩
      unfold chr; rw [if_neg (by omega), if_neg (by omega), if_pos (by omega)]
      rfl
    · refine ⟨by omega, by omega, by omega, by omega, by omega, by omega, by omega, by omega, ?_⟩
      unfold chr; rw [if_neg (by omega), if_neg (by omega), if_pos (by omega)]
      rfl)
  exact h
theorem c31 {s : Bytes} (hs : s.length ≤ 10000000) : Pus prog 31 [.s s] (.s (quo s)) := by
  obtain ⟨x, rfl, h⟩ := p31 H.f31 (s0 := s) (K := fun x => x = quo s) (by
    unfold T31_0
    intro P hP
    refine loop_up (fun i => 34 :: chrs (s.take i)) s.length ?_ ?_
    · apply hP
      unfold T31_1 T31_2
      refine ⟨fun h => absurd h (by omega), fun _ => ⟨?_, ?_⟩⟩
      · have := chrs_len (s.take s.length)
        simp only [List.take_length] at this ⊢
        simp only [List.length_cons, List.length_nil, maxStr_eq]
        omega
      · simp only [List.take_length, quo]
        rfl
    · intro i hi ih
      apply hP
      unfold T31_1
      refine ⟨fun _ => ⟨by omega, s[i], by rw [toNat_cast, List.getElem?_eq_getElem hi], chr s[i], c41 H _, ?_, ?_⟩, fun h => absurd (show (i : Int) < s.length by omega) h⟩
      · have h1 := chrs_len (s.take i)
        have h2 := chr_len s[i]
        simp only [List.length_cons, List.length_take, maxStr_eq] at h1 ⊢
        omega
      · rw [wr_succ (by omega)]
        rw [chrs_take hi] at ih
        exact ih)
  exact h
theorem c30 {s b : Bytes} (hs : s.length ≤ 10000000) (hb : b.length ≤ 1000000000) : PuA prog 30 (b.map row8) [.s s] ((b ++ quo s).map row8) := by
  refine PuAK.to ?_
  have hp := p30 H.f30 (b0 := b) (s1 := s) (K := fun x => x = b ++ quo s) (by
    unfold T30_0 T30_1
    refine ⟨⟨by simp only [List.length_cons, List.length_nil, maxBytes_eq]; omega, by simp only [List.length_cons, List.length_nil, maxBytes_eq]; omega⟩, fun P hP => ?_⟩
    refine loop_up (fun i => b ++ 34 :: chrs (s.take i)) s.length ?_ ?_
    · apply hP
      unfold T30_2 T30_4
      have h1 := chrs_len (s.take s.length)
      simp only [List.take_length] at h1 ⊢
      refine ⟨fun h => absurd h (by omega), fun _ => ⟨⟨?_, ?_⟩, ?_⟩⟩
      · simp only [List.length_append, List.length_cons, List.length_nil, maxBytes_eq]; omega
      · simp only [List.length_append, List.length_cons, List.length_nil, maxBytes_eq]; omega
      · simp only [quo, List.append_assoc, List.cons_append]
    · intro i hi ih
      apply hP
      have h1 := chrs_len (s.take i)
      have hc := s[i].toNat_lt
      rw [chrs_take hi] at ih
      rw [← List.cons_append, ← List.append_assoc] at ih
      generalize hx : s[i] = c at ih hc
      have w1 : bShr .u8 (c.toNat : Int) 4 = ((c.toNat / 16 : Nat) : Int) := by
        show (c.toNat : Int).fdiv 16 = _
        rw [Int.fdiv_eq_ediv_of_nonneg _ (by omega)]; omega
      have w2 : bAnd .u8 (c.toNat : Int) 15 = ((c.toNat % 16 : Nat) : Int) := by
        unfold bAnd
        have hx : (BitVec.ofInt IntKind.u8.bits (c.toNat : Int) &&& BitVec.ofInt IntKind.u8.bits 15).toNat = c.toNat % 16 := by
          show (BitVec.ofInt 8 (c.toNat : Int) &&& BitVec.ofInt 8 15).toNat = c.toNat % 16
          rw [BitVec.toNat_and]
          have h1 : (BitVec.ofInt 8 (c.toNat : Int)).toNat = c.toNat := by
            simp
          rw [h1]
          exact Nat.and_two_pow_sub_one_eq_mod c.toNat 4
        rw [hx]
        exact wr_u8 (by omega) (by omega)
      have fit : ∀ x : Bytes, x.length ≤ 4 → Fit ((b ++ 34 :: chrs (s.take i)).length + x.length) 1 := by
        intro x hx
        simp only [List.length_take] at h1
        refine ⟨?_, ?_⟩ <;> (simp only [List.length_append, List.length_cons, maxBytes_eq]; omega)
      unfold T30_2 T30_3
      rw [wr_succ (by omega)]
      refine ⟨fun _ => ⟨by omega, c, by rw [toNat_cast, List.getElem?_eq_getElem hi, hx], ?_⟩, fun h => absurd (show (i : Int) < s.length by omega) h⟩
      simp only [w1, w2, toNat_cast, hexd_get (show c.toNat / 16 < 16 by omega), hexd_get (show c.toNat % 16 < 16 by omega), Option.some.injEq, exists_eq_left']
      unfold chr at ih
      refine ⟨fun h2 => ⟨fit _ (by simp), ?_⟩, fun h2 => ⟨fun h3 => ⟨fit _ (by simp), ?_⟩, fun h3 => ⟨fun h4 => ⟨fit _ (by simp), ?_⟩, fun h4 => ⟨fun h5 => ⟨by omega, by omega, fit _ (by simp), ?_⟩, fun h5 => ⟨fun h6 => ⟨by omega, by omega, fit _ (by simp), ?_⟩, fun h6 => ⟨fit _ (by simp), ?_⟩⟩⟩⟩⟩⟩
      · rwa [if_pos (by omega)] at ih
      · rwa [if_pos (by omega)] at ih
      · rwa [if_neg (by omega), if_pos (by omega)] at ih
      · rwa [if_neg (by omega), if_neg (by omega), if_pos (by omega)] at ih
      · rwa [if_neg (by omega), if_neg (by omega), if_pos (by omega)] at ih
      · rwa [if_neg (by omega), if_neg (by omega), if_neg (by omega)] at ih)
  intro d st o ha
  obtain ⟨o', st', rows', ⟨x, rfl, rfl⟩, h1, h2⟩ := hp d st o ha
  exact ⟨o', st', _, rfl, h1, h2⟩
theorem c11 (s : Bytes) : Pus prog 11 [.s s] (.tup [.s (quoR s).1, .i .i64 (quoR s).2]) := by
  obtain ⟨x, y, ⟨rfl, rfl⟩, h⟩ := p11 H.f11 (s0 := s) (K := fun x y => x = (quoR s).1 ∧ y = (quoR s).2) (by
    unfold T11_0 quoR
    refine ⟨fun h => ?_, fun h => ⟨_, c30 H (b := []) (s := s) (by omega) (by simp), ?_⟩⟩
    · rw [if_pos (by omega)]; exact ⟨rfl, rfl⟩
    · rw [if_neg (by omega)]; exact ⟨rfl, rfl⟩)
  exact h
theorem c34 {n b : Nat} (hb : 2 ≤ b) (hb' : b ≤ 16) (hn : n < 18446744073709551616) : Pus prog 34 [.i .u64 (n : Int), .i .u64 (b : Int)] (.s (digs b n)) := by
  obtain ⟨x, rfl, h⟩ := p34 H.f34 (n0 := (n : Int)) (base1 := (b : Int)) (K := fun x => x = digs b n) (by
    unfold T34_0
    intro P hP
    have key : ∀ f n', n' < b ^ f → 0 < f → n' < 18446744073709551616 → ∀ a : Nat, f ≤ a → a ≤ 64 → ∀ m : Bytes, m.length = 64 → (ds b f n' ++ m.drop a = digs b n) → P (n' : Int) (a : Int) m := by
      intro f
      induction f with
      | zero => intro _ _ h; exact absurd h (Nat.lt_irrefl _)
      | succ f ih =>
        intro n' hf _ hn' a ha ha' m hm hd
        apply hP
        have e1 : (n' : Int).tmod (b : Int) = ((n' % b : Nat) : Int) := by rw [Int.tmod_eq_emod_of_nonneg (by omega)]; omega
        have e2 : (n' : Int).tdiv (b : Int) = ((n' / b : Nat) : Int) := by rw [Int.tdiv_eq_ediv_of_nonneg (by omega)]; omega
        have e3 : IntKind.i64.wrap ((a : Int) - 1) = ((a - 1 : Nat) : Int) := by rw [wr_i64 (by omega) (by omega)]; omega
        have hq : n' / b ≤ n' := Nat.div_le_self _ _
        have hr : n' % b < b := Nat.mod_lt _ (by omega)
        have e4 : IntKind.u64.wrap ((n' / b : Nat) : Int) = ((n' / b : Nat) : Int) := wr_u64_nat (by omega)
        have hset : ∀ c : UInt8, (m.set (a - 1) c).drop (a - 1) = c :: m.drop a := by
          intro c
          rw [List.drop_eq_getElem_cons (by simp; omega), List.getElem_set_self, List.drop_set_of_lt (by omega), show a - 1 + 1 = a by omega]
        unfold T34_1
        simp only [e1, e2, e3, e4, toNat_cast, hset]
        refine ⟨by omega, by omega, hexd (n' % b), hexd_get (by omega), by omega, by omega, by omega, by omega, fun h => ⟨by simp [hm], by omega, by omega, ?_⟩, fun h => ?_⟩
        · rw [← hd]
          unfold ds
          have hz : n' / b = 0 := by omega
          have hlt : n' < b := by
            rcases Nat.lt_or_ge n' b with h | h
            · exact h
            · have := Nat.div_pos h (by omega); omega
          rw [if_pos hlt, Nat.mod_eq_of_lt hlt]
          rfl
        · have hz : n' / b ≠ 0 := by omega
          have hlt : ¬ n' < b := fun h => hz (Nat.div_eq_of_lt h)
          have h1 : n' / b < b ^ f := by
            rw [Nat.div_lt_iff_lt_mul (by omega)]
            rw [Nat.pow_succ] at hf
            exact hf
          have h2 : 0 < f := by
            rcases Nat.eq_zero_or_pos f with rfl | h
            · simp at h1; omega
            · exact h
          refine ih (n' / b) h1 h2 (by omega) (a - 1) (by omega) (by omega) _ (by simp [hm]) ?_
          rw [hset, ← hd]
          conv => rhs; unfold ds
          rw [if_neg hlt, List.append_assoc]
          rfl
    refine key 64 n ?_ (by omega) hn 64 (by omega) (by omega) _ (by simp) ?_
    · calc n < 2 ^ 64 := hn
        _ ≤ b ^ 64 := Nat.pow_le_pow_left hb 64
    · simp [digs])
  exact h
theorem c35 {n b : Nat} (hb : 2 ≤ b) (hb' : b ≤ 16) (hn : n < 18446744073709551616) : Pus prog 35 [.i .u64 (n : Int), .i .u64 (b : Int)] (.s (digs b n)) := by
  obtain ⟨x, rfl, h⟩ := p35 H.f35 (n0 := (n : Int)) (base1 := (b : Int)) (K := fun x => x = digs b n) (by
    unfold T35_0
    intro P hP
    have key : ∀ f n', n' < b ^ f → 0 < f → n' < 18446744073709551616 → f ≤ 64 → ∀ s : Bytes, s.length + f ≤ 64 → (ds b f n' ++ s = digs b n) → P (n' : Int) s := by
      intro f
      induction f with
      | zero => intro _ _ h; exact absurd h (Nat.lt_irrefl _)
      | succ f ih =>
        intro n' hf _ hn' hf64 s hs hd
        apply hP
        have e1 : (n' : Int).tmod (b : Int) = ((n' % b : Nat) : Int) := by rw [Int.tmod_eq_emod_of_nonneg (by omega)]; omega
        have e2 : (n' : Int).tdiv (b : Int) = ((n' / b : Nat) : Int) := by rw [Int.tdiv_eq_ediv_of_nonneg (by omega)]; omega
        have hq : n' / b ≤ n' := Nat.div_le_self _ _
        have hr : n' % b < b := Nat.mod_lt _ (by omega)
        have e4 : IntKind.u64.wrap ((n' / b : Nat) : Int) = ((n' / b : Nat) : Int) := wr_u64_nat (by omega)
        have e5 : IntKind.u64.wrap (((n' % b : Nat) : Int) + 1) = ((n' % b + 1 : Nat) : Int) := by rw [wr_u64 (by omega) (by omega)]; omega
        unfold T35_1
        refine ⟨fun h => ?_, fun h => ?_⟩
        · simp only [e1, e2, e4, e5, toNat_cast, hexd_take (show n' % b < 16 by omega) rfl, DIG_len]
          have hlt : ¬ n' < b := by omega
          refine ⟨by omega, by omega, by omega, by omega, by omega, ?_, by omega, ?_⟩
          · simp only [List.length_cons, List.length_nil, maxStr_eq]; omega
          have hz : n' / b ≠ 0 := by
            have := Nat.div_pos (show b ≤ n' by omega) (by omega); omega
          have h1 : n' / b < b ^ f := by
            rw [Nat.div_lt_iff_lt_mul (by omega)]
            rw [Nat.pow_succ] at hf
            exact hf
          have h2 : 0 < f := by
            rcases Nat.eq_zero_or_pos f with rfl | h
            · simp at h1; omega
            · exact h
          refine ih (n' / b) h1 h2 (by omega) (by omega) _ ?_ ?_
          · simp only [List.length_append, List.length_cons, List.length_nil]; omega
          · rw [← hd]
            conv => rhs; unfold ds
            rw [if_neg hlt, List.append_assoc]
        · have hlt : n' < b := by omega
          have e6 : IntKind.u64.wrap ((n' : Int) + 1) = ((n' + 1 : Nat) : Int) := by rw [wr_u64 (by omega) (by omega)]; omega
          unfold T35_2
          simp only [e6, toNat_cast, hexd_take (show n' < 16 by omega) rfl, DIG_len]
          refine ⟨by omega, by omega, by omega, ?_, ?_⟩
          · simp only [List.length_cons, List.length_nil, maxStr_eq]; omega
          · rw [← hd]
            unfold ds
            rw [if_pos hlt]
    refine key 64 n ?_ (by omega) hn (by omega) _ (by simp) ?_
    · calc n < 2 ^ 64 := hn
        _ ≤ b ^ 64 := Nat.pow_le_pow_left hb 64
    · simp [digs])
  exact h
theorem c15 {n : Int} (h1 : -9223372036854775808 ≤ n) (h2 : n < 9223372036854775808) : Pus prog 15 [.i .i64 n] (.s (num n)) := by
  obtain ⟨x, rfl, h⟩ := p15 H.f15 (n0 := n) (K := fun x => x = num n) (by
    unfold T15_0
    refine ⟨fun h => ?_, fun h => ?_⟩
    · have e : IntKind.u64.wrap (0 - (IntKind.u64.wrap n)) = (((-n).toNat : Nat) : Int) := by rw [IntKind.wrap_u64, IntKind.wrap_u64]; omega
      rw [e]
      refine ⟨_, c34 H (b := 10) (by omega) (by omega) (by omega), ?_, ?_⟩
      · have := ds_len 10 64 (-n).toNat
        simp only [digs, List.length_cons, List.length_nil, maxStr_eq]; omega
      · unfold num; rw [if_pos h]; rfl
    · have e : IntKind.u64.wrap n = ((n.toNat : Nat) : Int) := by rw [IntKind.wrap_u64]; omega
      rw [e]
      refine ⟨_, c34 H (b := 10) (by omega) (by omega) (by omega), ?_⟩
      unfold num; rw [if_neg h])
  exact h
theorem c16 {n : Int} (h1 : -9223372036854775808 ≤ n) (h2 : n < 9223372036854775808) : Pus prog 16 [.i .i64 n] (.s (num n)) := by
  obtain ⟨x, rfl, h⟩ := p16 H.f16 (n0 := n) (K := fun x => x = num n) (by
    unfold T16_0
    refine ⟨fun h => ?_, fun h => ?_⟩
    · have e : IntKind.u64.wrap n = ((n.toNat : Nat) : Int) := by rw [IntKind.wrap_u64]; omega
      rw [e]
      refine ⟨_, c35 H (b := 10) (by omega) (by omega) (by omega), ?_⟩
      unfold num; rw [if_neg (by omega)]
    · have e : IntKind.u64.wrap ((IntKind.u64.wrap (IntKind.i64.wrap (0 - (IntKind.i64.wrap (n + 1))))) + 1) = (((-n).toNat : Nat) : Int) := by
        rw [wr_i64 (z := n + 1) (by omega) (by omega), wr_i64 (by omega) (by omega), wr_u64 (z := 0 - (n + 1)) (by omega) (by omega), wr_u64 (by omega) (by omega)]; omega
      rw [e]
      refine ⟨_, c35 H (b := 10) (by omega) (by omega) (by omega), ?_, ?_⟩
      · have := ds_len 10 64 (-n).toNat
        simp only [digs, List.length_cons, List.length_nil, maxStr_eq]; omega
      · unfold num; rw [if_pos (by omega)]; rfl)
  exact h
end
end Go.AM

/- Parts of the proof. -/
namespace Go.AM
open Go
def cutp (p s : Bytes) : Bytes × Bool := if s.take p.length = p then (s.drop p.length, true) else (s, false)
theorem idx_first (c : UInt8) : ∀ (l : Bytes) (i : Nat), (∀ j, j < i → l[j]? ≠ some c) → (l[i]? = some c → Lib.indexByte l c = i) ∧ (l.length ≤ i → Lib.indexByte l c = -1)
  | [], i, _ => ⟨fun h => (by simp at h), fun _ => rfl⟩
  | x :: l, i, h => by
    unfold Lib.indexByte
    cases i with
    | zero =>
      refine ⟨fun h1 => ?_, fun h1 => absurd h1 (by simp)⟩
      simp at h1
      rw [if_pos (by simp [h1])]
      rfl
    | succ i =>
      have hx : x ≠ c := by have := h 0 (by omega); simpa using this
      have ih := idx_first c l i fun j hj => by have := h (j + 1) (by omega); simpa using this
      rw [if_neg (by simpa using hx)]
      refine ⟨fun h1 => ?_, fun h1 => ?_⟩
      · have h2 := ih.1 (by simpa using h1)
        rw [h2]
        rw [if_neg (by simp)]
        rfl
      · have h2 := ih.2 (by simpa using h1)
        rw [h2]
        rfl
def EscK (s : Bytes) (c : Int) (r : Bytes) (ok : Bool) : Prop := match esc s with | some (x, y) => c = (x.toNat : Int) ∧ r = y ∧ ok = true | none => ok = false
theorem EscK.yes {s : Bytes} {x : UInt8} {y : Bytes} {c : Int} (h : esc s = some (x, y)) (hc : c = (x.toNat : Int)) : EscK s c y true := by
  unfold EscK; rw [h]; exact ⟨hc, rfl, rfl⟩
theorem EscK.no {s : Bytes} {c : Int} {y : Bytes} (h : esc s = none) : EscK s c y false := by
  unfold EscK; rw [h]
section
variable {prog : Prog} (H : Has03 prog)
include H
theorem c46 (s p : Bytes) : Pus prog 46 [.s s, .s p] (.b (decide (s.take p.length = p))) := by
  obtain ⟨x, rfl, h⟩ := p46 H.f46 (s0 := s) (prefix1 := p) (K := fun x => x = decide (s.take p.length = p)) (by
    unfold T46_0
    refine ⟨fun h => ⟨by omega, by omega, rfl⟩, fun h => ?_⟩
    refine (decide_eq_false fun h1 => ?_).symm
    have := congrArg List.length h1
    simp only [List.length_take] at this
    omega)
  exact h
theorem c42 (s p : Bytes) : Pus prog 42 [.s s, .s p] (.tup [.s (cutp p s).1, .b (cutp p s).2]) := by
  obtain ⟨x, y, ⟨rfl, rfl⟩, h⟩ := p42 H.f42 (s0 := s) (prefix1 := p) (K := fun x y => x = (cutp p s).1 ∧ y = (cutp p s).2) (by
    unfold T42_0 cutp
    refine ⟨_, c46 H s p, fun h => ?_, fun h => ?_⟩
    · have h1 : ¬ s.take p.length = p := by simpa using h
      rw [if_neg h1]; exact ⟨rfl, rfl⟩
    · have h1 : s.take p.length = p := by simpa using h
      have h2 := congrArg List.length h1
      simp only [List.length_take] at h2
      rw [if_pos h1]; exact ⟨by omega, by omega, rfl, rfl⟩)
  exact h
theorem c36 (s p : Bytes) : Pus prog 36 [.s s, .s p] (.tup [.s (cutp p s).1, .b (cutp p s).2]) := by
  obtain ⟨x, y, ⟨rfl, rfl⟩, h⟩ := p36 H.f36 (s0 := s) (prefix1 := p) (K := fun x y => x = (cutp p s).1 ∧ y = (cutp p s).2) (by
    unfold T36_0
    exact ⟨_, _, c42 H s p, rfl, rfl⟩)
  exact h
theorem c47 (s : Bytes) (c : UInt8) : Pus prog 47 [.s s, .i .u8 (c.toNat : Int)] (.i .i64 (Lib.indexByte s c)) := by
  obtain ⟨x, rfl, h⟩ := p47 H.f47 (s0 := s) (c1 := (c.toNat : Int)) (K := fun x => x = Lib.indexByte s c) (by
    unfold T47_0
    exact ⟨_, Pus.orac H.f48 (H.o48 s c) rfl, rfl⟩)
  exact h
theorem c43 (s : Bytes) (c : UInt8) : Pus prog 43 [.s s, .i .u8 (c.toNat : Int)] (.i .i64 (Lib.indexByte s c)) := by
  obtain ⟨x, rfl, h⟩ := p43 H.f43 (s0 := s) (c1 := (c.toNat : Int)) (K := fun x => x = Lib.indexByte s c) (by
    unfold T43_0
    exact ⟨_, c47 H s c, rfl⟩)
  exact h
theorem c44 {b : Nat} (hb : b ≤ 16) (c : UInt8) : Pus prog 44 [.i .u8 (c.toNat : Int), .i .i64 (b : Int)] (.i .i64 (dv b c)) := by
  obtain ⟨x, rfl, h⟩ := p44 H.f44 (c0 := (c.toNat : Int)) (base1 := (b : Int)) (K := fun x => x = dv b c) (by
    unfold T44_0
    intro P hP
    have key : ∀ m i : Nat, i + m = b → (∀ j, j < i → (DIG.take b)[j]? ≠ some c) → P (i : Int) := by
      intro m
      induction m with
      | zero =>
        intro i hi hj
        apply hP
        unfold T44_1 T44_2
        refine ⟨fun h => absurd h (by omega), fun _ => ?_⟩
        exact ((idx_first c _ i hj).2 (by simp; omega)).symm
      | succ m ih =>
        intro i hi hj
        apply hP
        unfold T44_1
        refine ⟨fun _ => ⟨by omega, hexd i, by rw [toNat_cast, hexd_get (by omega)], fun h => ?_, fun h => ?_⟩, fun h => absurd h (by omega)⟩
        · have hc : hexd i = c := u8_eq (by omega)
          refine ((idx_first c _ i hj).1 ?_).symm
          rw [List.getElem?_take_of_lt (by omega), hexd_get (by omega), hc]
        · rw [wr_succ (by omega)]
          refine ih (i + 1) (by omega) fun j hj' => ?_
          rcases Nat.lt_or_ge j i with h1 | h1
          · exact hj j h1
          · have : j = i := by omega
            subst this
            rw [List.getElem?_take_of_lt (by omega), hexd_get (by omega)]
            intro h2
            injection h2 with h2
            exact h (by rw [h2])
    exact key b 0 (by omega) (by simp))
  exact h
theorem c37 {b most : Nat} (hb : 2 ≤ b) (hb' : b ≤ 16) (hm : 16 ≤ most) (hm' : most < 18446744073709551616) {s : Bytes} (hs : s.length ≤ 10000000) : Pus prog 37 [.s s, .i .u64 (b : Int), .i .u64 (most : Int)] (.tup [.i .u64 ((rd b most s).1 : Int), .i .i64 (rd b most s).2]) := by
  obtain ⟨x, y, ⟨rfl, rfl⟩, h⟩ := p37 H.f37 (s0 := s) (base1 := (b : Int)) (most2 := (most : Int)) (K := fun x y => x = ((rd b most s).1 : Int) ∧ y = (rd b most s).2) (by
    unfold T37_0 T37_1 T37_2
    intro P hP
    have key : ∀ m i : Nat, i + m = s.length → okd b (s.take i) = true → (2 ≤ i → s.head? ≠ some 48) → ∀ (n : Nat) (far : Bool), (far = false → n = vals b (s.take i) ∧ n ≤ most) → (far = true → most < vals b (s.take i)) → P (n : Int) far (i : Int) := by
      intro m
      induction m with
      | zero =>
        intro i hi ho h48 n far h0 h1
        simp only [Nat.add_zero] at hi
        subst hi
        rw [List.take_length] at ho h0 h1
        apply hP
        unfold T37_3 T37_5
        refine ⟨fun h => absurd h (by omega), fun _ => ⟨fun h => ?_, fun h => ?_⟩⟩
        · subst h; exact ⟨rfl, rfl⟩
        · have hbad : badn b s = false := by
            unfold badn
            rw [decide_eq_false h, ho]
            simp only [Bool.false_or, Bool.not_true]
            by_cases h2 : 1 < s.length
            · rw [decide_eq_false (h48 h2), Bool.and_false]
            · rw [decide_eq_false h2, Bool.false_and]
          refine ⟨fun hf => ?_, fun hf => ?_⟩
          · unfold rd
            rw [if_neg (by rw [hbad]; decide), if_pos (h1 hf)]
            exact ⟨rfl, rfl⟩
          · obtain ⟨h2, h3⟩ := h0 hf
            unfold rd
            rw [if_neg (by rw [hbad]; decide), if_neg (by omega), h2]
            exact ⟨rfl, rfl⟩
      | succ m ih =>
        intro i hi ho h48 n far h0 h1
        have hil : i < s.length := by omega
        have hd := dv_lt hb' s[i]
        have hv := vals_take (b := b) hil
        have hk := okd_take (b := b) hil
        have bad12 : badn b s = true → (0 : Int) = ((rd b most s).1 : Int) ∧ (12 : Int) = (rd b most s).2 := by
          intro h
          unfold rd
          rw [if_pos h]
          exact ⟨rfl, rfl⟩
        apply hP
        unfold T37_3 T37_4
        refine ⟨fun _ => ⟨by omega, by rw [toNat_cast]; exact hb', by omega, s[i], by rw [toNat_cast, List.getElem?_eq_getElem hil], dv b s[i], c43 H _ _, fun h => ?_, fun h => ?_⟩, fun h => absurd h (by omega)⟩
        · refine bad12 ?_
          unfold badn
          rw [okd_of hil h]
          simp
        · have hd0 : 0 ≤ dv b s[i] := by omega
          rw [ho, decide_eq_true hd0, Bool.and_true] at hk
          generalize hdd : (dv b s[i]).toNat = d at hv
          have hdi : dv b s[i] = (d : Int) := by omega
          have e1 : IntKind.u64.wrap (dv b s[i]) = (d : Int) := by rw [hdi]; exact wr_u64_nat (by omega)
          have e2 : IntKind.u64.wrap ((most : Int) - (d : Int)) = ((most - d : Nat) : Int) := by rw [wr_u64 (by omega) (by omega)]; omega
          have e3 : (((most - d : Nat) : Int)).tdiv (b : Int) = (((most - d) / b : Nat) : Int) := by rw [Int.tdiv_eq_ediv_of_nonneg (by omega)]; omega
          have hq : (most - d) / b ≤ most - d := Nat.div_le_self _ _
          have e4 : IntKind.u64.wrap (((most - d) / b : Nat) : Int) = (((most - d) / b : Nat) : Int) := wr_u64_nat (by omega)
          have hfi := far_iff (n := n) (show 0 < b by omega) (show d ≤ most by omega)
          rw [wr_succ (by omega)]
          simp only [e1, e2, e3, e4]
          have go : (2 ≤ i + 1 → s.head? ≠ some 48) → (far = true → P (n : Int) true ((i + 1 : Nat) : Int)) ∧ (far = false → (b : Int) ≠ 0 ∧ (¬((n : Int) > (((most - d) / b : Nat) : Int)) → P (IntKind.u64.wrap ((IntKind.u64.wrap ((n : Int) * (b : Int))) + (d : Int))) (decide ((n : Int) > (((most - d) / b : Nat) : Int))) ((i + 1 : Nat) : Int)) ∧ (¬(¬((n : Int) > (((most - d) / b : Nat) : Int))) → P (n : Int) (decide ((n : Int) > (((most - d) / b : Nat) : Int))) ((i + 1 : Nat) : Int))) := by
            intro h2
            refine ⟨fun hf => ?_, fun hf => ⟨by omega, fun h3 => ?_, fun h3 => ?_⟩⟩
            · refine ih (i + 1) (by omega) hk h2 n true (fun h => by cases h) fun _ => ?_
              rw [hv]
              have h4 := h1 hf
              have : vals b (s.take i) ≤ vals b (s.take i) * b := Nat.le_mul_of_pos_right _ (by omega)
              omega
            · obtain ⟨h4, h5⟩ := h0 hf
              have h6 : n * b + d ≤ most := by
                have : ¬ (most - d) / b < n := by omega
                rw [hfi] at this
                omega
              have hnb : (n : Int) * (b : Int) = ((n * b : Nat) : Int) := by rw [Int.natCast_mul]
              have e5 : IntKind.u64.wrap ((n : Int) * (b : Int)) = ((n * b : Nat) : Int) := by rw [hnb]; exact wr_u64_nat (by omega)
              have e6 : IntKind.u64.wrap (((n * b : Nat) : Int) + (d : Int)) = ((n * b + d : Nat) : Int) := by rw [wr_u64 (by omega) (by omega)]; omega
              rw [e5, e6, decide_eq_false h3]
              refine ih (i + 1) (by omega) hk h2 _ false (fun _ => ⟨?_, h6⟩) fun h => by cases h
              rw [hv, h4]
            · have h3' : (n : Int) > (((most - d) / b : Nat) : Int) := by omega
              obtain ⟨h4, h5⟩ := h0 hf
              rw [decide_eq_true h3']
              refine ih (i + 1) (by omega) hk h2 n true (fun h => by cases h) fun _ => ?_
              rw [hv, ← h4]
              exact hfi.1 (Int.ofNat_lt.1 h3')
          have hd0 : s.head? = s[0]? := List.head?_eq_getElem?
          refine ⟨fun hi1 => ?_, fun hi1 => ?_⟩
          · have h0s : s[0]? = some s[0] := List.getElem?_eq_getElem (by omega)
            refine ⟨s[0], h0s, fun h2 => ?_, fun h2 => ?_⟩
            · refine bad12 ?_
              have h3 : s[0] = 48 := u8_eq (by have e : (48 : UInt8).toNat = 48 := rfl; omega)
              unfold badn
              rw [decide_eq_true (show 1 < s.length by omega), decide_eq_true (show s.head? = some 48 by rw [hd0, h0s, h3])]
              simp
            · refine go fun _ => ?_
              rw [hd0, h0s]
              intro h3
              injection h3 with h3
              exact h2 (by rw [h3]; rfl)
          · refine go fun h2 => ?_
            have h3 : i ≠ 1 := by omega
            have h4 : i ≠ 0 := by omega
            exact h48 (by omega)
    exact key s.length 0 (by omega) rfl (by omega) 0 false (fun _ => ⟨rfl, by omega⟩) fun h => by cases h)
  exact h
theorem c38 {b most : Nat} (hb : 2 ≤ b) (hb' : b ≤ 16) (hm : 16 ≤ most) (hm' : most < 18446744073709551616) {s : Bytes} (hs : s.length ≤ 10000000) : Pus prog 38 [.s s, .i .u64 (b : Int), .i .u64 (most : Int)] (.tup [.i .u64 ((rd b most s).1 : Int), .i .i64 (rd b most s).2]) := by
  obtain ⟨x, y, ⟨rfl, rfl⟩, h⟩ := p38 H.f38 (s0 := s) (base1 := (b : Int)) (most2 := (most : Int)) (K := fun x y => x = ((rd b most s).1 : Int) ∧ y = (rd b most s).2) (by
    have wb : IntKind.i64.wrap (b : Int) = (b : Int) := wr_i64 (by omega) (by omega)
    have bad12 : badn b s = true → (0 : Int) = ((rd b most s).1 : Int) ∧ (12 : Int) = (rd b most s).2 := by
      intro h
      unfold rd
      rw [if_pos h]
      exact ⟨rfl, rfl⟩
    have hd0 : s.head? = s[0]? := List.head?_eq_getElem?
    have loop : s ≠ [] → (1 < s.length → s.head? ≠ some 48) → ∀ P0 : Int → Prop, (∀ (i8 : Int), T38_2 prog (fun x y => x = ((rd b most s).1 : Int) ∧ y = (rd b most s).2) P0 s (b : Int) (most : Int) i8 → P0 i8) → P0 0 := by
      intro hne h48 P hP
      have key : ∀ m i : Nat, i + m = s.length → okd b (s.take i) = true → P (i : Int) := by
        intro m
        induction m with
        | zero =>
          intro i hi ho
          simp only [Nat.add_zero] at hi
          subst hi
          rw [List.take_length] at ho
          have hbad : badn b s = false := by
            unfold badn
            rw [decide_eq_false hne, ho]
            simp only [Bool.false_or, Bool.not_true]
            by_cases h2 : 1 < s.length
            · rw [decide_eq_false (h48 h2), Bool.and_false]
            · rw [decide_eq_false h2, Bool.false_and]
          apply hP
          unfold T38_2 T38_3
          refine ⟨fun h => absurd h (by omega), fun _ P1 hP1 => ?_⟩
          have hall : ∀ (j : Nat) (hj : j < s.length), 0 ≤ dv b s[j] := by
            intro j hj
            unfold okd at ho
            rw [List.all_eq_true] at ho
            simpa using ho s[j] (List.getElem_mem hj)
          have key2 : ∀ m i : Nat, i + m = s.length → vals b (s.take i) ≤ most → P1 (vals b (s.take i) : Int) (i : Int) := by
            intro m
            induction m with
            | zero =>
              intro i hi hv
              simp only [Nat.add_zero] at hi
              subst hi
              apply hP1
              unfold T38_4 T38_5
              refine ⟨fun h => absurd h (by omega), fun _ => ?_⟩
              rw [List.take_length] at hv ⊢
              unfold rd
              rw [if_neg (by rw [hbad]; decide), if_neg (by omega)]
              exact ⟨rfl, rfl⟩
            | succ m ih =>
              intro i hi hv
              have hil : i < s.length := by omega
              have hd := dv_lt hb' s[i]
              have hn0 := hall i hil
              have hvt := vals_take (b := b) hil
              generalize hdd : (dv b s[i]).toNat = d at hvt
              have hdi : dv b s[i] = (d : Int) := by omega
              have e1 : IntKind.u64.wrap (dv b s[i]) = (d : Int) := by rw [hdi]; exact wr_u64_nat (by omega)
              have e2 : IntKind.u64.wrap ((most : Int) - (d : Int)) = ((most - d : Nat) : Int) := by rw [wr_u64 (by omega) (by omega)]; omega
              have e3 : (((most - d : Nat) : Int)).tdiv (b : Int) = (((most - d) / b : Nat) : Int) := by rw [Int.tdiv_eq_ediv_of_nonneg (by omega)]; omega
              have hq : (most - d) / b ≤ most - d := Nat.div_le_self _ _
              have e4 : IntKind.u64.wrap (((most - d) / b : Nat) : Int) = (((most - d) / b : Nat) : Int) := wr_u64_nat (by omega)
              have hfi := far_iff (n := vals b (s.take i)) (show 0 < b by omega) (show d ≤ most by omega)
              apply hP1
              unfold T38_4
              rw [wb, wr_succ (by omega)]
              refine ⟨fun _ => ⟨by omega, s[i], by rw [toNat_cast, List.getElem?_eq_getElem hil], dv b s[i], c44 H hb' _, by omega, fun h => ?_, fun h => ?_⟩, fun h => absurd h (by omega)⟩
              · simp only [e1, e2, e3, e4] at h
                have h1 := hfi.1 (Int.ofNat_lt.1 h)
                have h2 : most < vals b s := by
                  have mono : ∀ k, i + 1 + k ≤ s.length → most < vals b (s.take (i + 1 + k)) := by
                    intro k
                    induction k with
                    | zero => intro _; rw [Nat.add_zero, hvt]; exact h1
                    | succ k ihk =>
                      intro hk
                      have := ihk (by omega)
                      rw [show i + 1 + (k + 1) = (i + 1 + k) + 1 by omega, vals_take (by omega)]
                      have h3 : vals b (s.take (i + 1 + k)) ≤ vals b (s.take (i + 1 + k)) * b := Nat.le_mul_of_pos_right _ (by omega)
                      omega
                  have := mono (s.length - (i + 1)) (by omega)
                  rwa [show i + 1 + (s.length - (i + 1)) = s.length by omega, List.take_length] at this
                unfold rd
                rw [if_neg (by rw [hbad]; decide), if_pos h2]
                exact ⟨rfl, rfl⟩
              · simp only [e1, e2, e3, e4] at h
                have h1 : ¬ (most - d) / b < vals b (s.take i) := fun h2 => h (Int.ofNat_lt.2 h2)
                rw [hfi] at h1
                generalize hnn : vals b (s.take i) = n at *
                have hnb : (n : Int) * (b : Int) = ((n * b : Nat) : Int) := by rw [Int.natCast_mul]
                have e5 : IntKind.u64.wrap ((n : Int) * (b : Int)) = ((n * b : Nat) : Int) := by rw [hnb]; exact wr_u64_nat (by omega)
                have e6 : IntKind.u64.wrap (((n * b : Nat) : Int) + (d : Int)) = ((n * b + d : Nat) : Int) := by rw [wr_u64 (by omega) (by omega)]; omega
                rw [e1, e5, e6]
                have := ih (i + 1) (by omega) (by rw [hvt]; omega)
                rwa [hvt] at this
          exact key2 s.length 0 (by omega) (Nat.zero_le _)
        | succ m ih =>
          intro i hi ho
          have hil : i < s.length := by omega
          have hd := dv_lt hb' s[i]
          have hk := okd_take (b := b) hil
          apply hP
          unfold T38_2
          rw [wb, wr_succ (by omega)]
          refine ⟨fun _ => ⟨by omega, s[i], by rw [toNat_cast, List.getElem?_eq_getElem hil], dv b s[i], c44 H hb' _, fun h => ?_, fun h => ?_⟩, fun h => absurd h (by omega)⟩
          · refine bad12 ?_
            unfold badn
            rw [okd_of hil h]
            simp
          · refine ih (i + 1) (by omega) ?_
            rw [hk, ho, decide_eq_true (by omega), Bool.and_true]
      exact key s.length 0 (by omega) rfl
    unfold T38_0 T38_1
    refine ⟨fun h => bad12 ?_, fun h => ?_⟩
    · have : s = [] := List.length_eq_zero_iff.1 (by omega)
      subst this
      rfl
    · have hpos : 0 < s.length := by omega
      have hne : s ≠ [] := fun h => by subst h; simp at hpos
      have h0s : s[0]? = some s[0] := List.getElem?_eq_getElem hpos
      refine ⟨s[0], h0s, fun h2 => ⟨fun h3 => bad12 ?_, fun h3 => loop hne fun h4 => absurd h4 (by omega)⟩, fun h2 => loop hne fun h4 => ?_⟩
      · have h4 : s[0] = 48 := u8_eq (by have e : (48 : UInt8).toNat = 48 := rfl; omega)
        unfold badn
        rw [decide_eq_true (show 1 < s.length by omega), decide_eq_true (show s.head? = some 48 by rw [hd0, h0s, h4])]
        simp
      · rw [hd0, h0s]
        intro h5
        injection h5 with h5
        exact h2 (by rw [h5]; rfl))
  exact h
theorem c21 (s : Bytes) : Pus prog 21 [.s s] (.tup [.i .i64 (unnum s).1, .i .i64 (unnum s).2]) := by
  obtain ⟨x, y, ⟨rfl, rfl⟩, h⟩ := p21 H.f21 (s0 := s) (K := fun x y => x = (unnum s).1 ∧ y = (unnum s).2) (by
    unfold T21_0 T21_1
    refine ⟨fun h => by unfold unnum; rw [if_pos (by omega)]; exact ⟨rfl, rfl⟩, fun hs => ⟨_, _, c36 H s [45], ?_⟩⟩
    unfold unnum
    rw [if_neg (by omega)]
    by_cases hm : s.take 1 = [45]
    · have ec : cutp [45] s = (s.drop 1, true) := by unfold cutp; rw [if_pos (by exact hm)]; rfl
      rw [ec, if_pos hm]
      refine ⟨fun h => by simp at h, fun _ => ?_⟩
      have hl := rd_le 10 9223372036854775808 (s.drop 1)
      refine ⟨_, _, c37 H (b := 10) (most := 9223372036854775808) (by omega) (by omega) (by omega) (by omega) (s := s.drop 1) (by simp; omega), fun h => ⟨fun h0 => ?_, fun h0 => ?_⟩, fun h => ?_⟩
      · have e : (rd 10 9223372036854775808 (s.drop 1)).1 = 0 := by omega
        rw [if_pos ⟨h, e⟩, e]
        exact ⟨rfl, rfl⟩
      · rw [if_neg (fun hh => h0 (by rw [hh.2]; rfl))]
        refine ⟨?_, rfl⟩
        rw [IntKind.wrap_u64, IntKind.wrap_i64]
        simp only
        omega
      · have e := rd_err h
        rw [if_neg (fun hh => h hh.1), e]
        exact ⟨rfl, rfl⟩
    · have ec : cutp [45] s = (s, false) := by unfold cutp; rw [if_neg (by exact hm)]
      rw [ec, if_neg hm]
      refine ⟨fun _ => ?_, fun h => by simp at h⟩
      have hl := rd_le 10 9223372036854775807 s
      exact ⟨_, _, c37 H (b := 10) (most := 9223372036854775807) (by omega) (by omega) (by omega) (by omega) (s := s) (by omega), wr_i64 (by omega) (by omega), rfl⟩)
  exact h
theorem c22 (s : Bytes) : Pus prog 22 [.s s] (.tup [.i .i64 (unnum s).1, .i .i64 (unnum s).2]) := by
  obtain ⟨x, y, ⟨rfl, rfl⟩, h⟩ := p22 H.f22 (s0 := s) (K := fun x y => x = (unnum s).1 ∧ y = (unnum s).2) (by
    have plain : ¬ 2000 < s.length → ¬ s.take 1 = [45] → ∃ r'12 : Int, ∃ r'13 : Int, Pus prog 38 [.s s, .i .u64 10, .i .u64 9223372036854775807] (.tup [.i .u64 r'12, .i .i64 r'13]) ∧ (r'13 ≠ 0 → 0 = (unnum s).1 ∧ r'13 = (unnum s).2) ∧ (¬(r'13 ≠ 0) → IntKind.i64.wrap r'12 = (unnum s).1 ∧ 0 = (unnum s).2) := by
      intro hs hm
      have hl := rd_le 10 9223372036854775807 s
      refine ⟨_, _, c38 H (b := 10) (most := 9223372036854775807) (by omega) (by omega) (by omega) (by omega) (s := s) (by omega), fun h => ?_, fun h => ?_⟩
      · have e := rd_err h
        unfold unnum
        rw [if_neg hs, if_neg hm, e]
        exact ⟨rfl, rfl⟩
      · have e : (rd 10 9223372036854775807 s).2 = 0 := by omega
        unfold unnum
        rw [if_neg hs, if_neg hm, e]
        exact ⟨wr_i64 (by omega) (by omega), rfl⟩
    unfold T22_0
    refine ⟨fun h => by unfold unnum; rw [if_pos (by omega)]; exact ⟨rfl, rfl⟩, fun hs => ⟨fun hpos => ?_, fun hpos => plain (by omega) fun h => ?_⟩⟩
    · have h0 : 0 < s.length := by omega
      have ht : s.take 1 = [s[0]] := by
        match s, h0 with
        | c :: r, _ => rfl
      refine ⟨s[0], List.getElem?_eq_getElem h0, fun hm => ?_, fun hm => plain (by omega) fun h => ?_⟩
      · have hm' : s.take 1 = [45] := by rw [ht, u8_eq (show s[0].toNat = (45 : UInt8).toNat by have e : (45 : UInt8).toNat = 45 := rfl; omega)]
        have hl := rd_le 10 9223372036854775808 (s.drop 1)
        refine ⟨fun h => ?_, fun h => ⟨by omega, _, _, c38 H (b := 10) (most := 9223372036854775808) (by omega) (by omega) (by omega) (by omega) (s := s.drop 1) (by simp; omega), fun h1 => ?_, fun h1 => ?_⟩⟩
        · rw [h]
          decide
        · have e := rd_err h1
          unfold unnum
          rw [if_neg (by omega), if_pos hm', if_neg (fun hh => h1 hh.1), e]
          exact ⟨rfl, rfl⟩
        · have e : (rd 10 9223372036854775808 (s.drop 1)).2 = 0 := by omega
          have hn : (rd 10 9223372036854775808 (s.drop 1)).1 ≠ 0 := by
            intro h2
            have h3 := rd_zero (by omega) e h2
            have h4 := List.take_append_drop 1 s
            rw [hm', h3] at h4
            exact h h4.symm
          unfold unnum
          rw [if_neg (by omega), if_pos hm', if_neg (fun hh => hn hh.2), e]
          refine ⟨?_, rfl⟩
          simp only
          rw [IntKind.wrap_i64, IntKind.wrap_i64, IntKind.wrap_i64, IntKind.wrap_u64]
          omega
      · rw [ht] at h
        injection h with h
        exact hm (by rw [h]; rfl)
    · have := congrArg List.length h
      simp only [List.length_take, List.length_cons, List.length_nil] at this
      omega)
  exact h
theorem c45 (s : Bytes) : ∃ c r ok, EscK s c r ok ∧ Pus prog 45 [.s s] (.tup [.i .u8 c, .s r, .b ok]) := by
  refine p45 H.f45 (s0 := s) (K := EscK s) ?_
  unfold T45_0 T45_1
  refine ⟨fun h => by subst h; exact EscK.no rfl, fun h => ?_⟩
  cases s with
  | nil => exact absurd rfl h
  | cons c r =>
    have lit : ∀ {n : Nat} (_ : n < 256), (UInt8.ofNat n).toNat = n := by intro n hn; simp; omega
    unfold T45_2
    refine ⟨c, rfl, ?_⟩
    have t4 : T45_4 prog (EscK (c :: r)) (c :: r) (c.toNat : Int) (decide (c.toNat = 34 ∨ c.toNat = 92)) := by
      unfold T45_4
      refine ⟨fun h1 => ⟨c, rfl, by simp, ?_⟩, fun h1 => ?_⟩
      · have h1 := of_decide_eq_true h1
        exact EscK.yes (show (if c.toNat = 34 ∨ c.toNat = 92 then some (c, r) else _) = some (c, r) from if_pos h1) rfl
      · have h1 := of_decide_eq_false h1
        have e0 : esc (c :: r) = if c.toNat = 110 then some (10, r) else if c.toNat = 120 then esx r else none := by
          show (if c.toNat = 34 ∨ c.toNat = 92 then some (c, r) else if c.toNat = 110 then some (10, r) else if c.toNat = 120 then esx r else none) = _
          rw [if_neg h1]
        refine ⟨fun h2 => ⟨by simp, ?_⟩, fun h2 => ⟨fun h3 => ?_, fun h3 => ?_⟩⟩
        · exact EscK.yes (by rw [e0, if_pos (by omega)]; rfl) rfl
        · have e : esc (c :: r) = esx r := by rw [e0, if_neg (by omega), if_pos (by omega)]
          refine ⟨fun h4 => ?_, fun h4 => ?_⟩
          · refine EscK.no ?_
            rw [e]
            match r, h4 with
            | [], _ => rfl
            | [a], _ => rfl
            | a :: b :: r', h4 => simp at h4; omega
          · match r, h4, e with
            | [], h4, _ => exact absurd (by simp) h4
            | [a], h4, _ => exact absurd (by simp) h4
            | a :: b :: r', _, e =>
              have la := dv_lt (b := 16) (by omega) a
              have lb := dv_lt (b := 16) (by omega) b
              have ca : Pus prog 43 [.s DIG, .i .u8 (a.toNat : Int)] (.i .i64 (dv 16 a)) := c43 H DIG a
              have cb : Pus prog 43 [.s DIG, .i .u8 (b.toNat : Int)] (.i .i64 (dv 16 b)) := c43 H DIG b
              refine ⟨a, rfl, _, ca, b, rfl, _, cb, by simp, ?_⟩
              simp only [esx] at e
              by_cases hv : 0 ≤ dv 16 a ∧ 0 ≤ dv 16 b
              · have hw : IntKind.u8.wrap (IntKind.i64.wrap ((IntKind.i64.wrap (16 * dv 16 a)) + dv 16 b)) = 16 * dv 16 a + dv 16 b := by
                  rw [wr_i64 (z := 16 * dv 16 a) (by omega) (by omega), wr_i64 (by omega) (by omega), wr_u8 (by omega) (by omega)]
                have en := lit (n := (16 * dv 16 a + dv 16 b).toNat) (by omega)
                rw [hw]
                refine ⟨fun _ => ⟨fun _ => ⟨fun h5 => ⟨fun h6 => ?_, fun h6 => ?_⟩, fun h5 => ?_⟩, fun h5 => absurd hv.2 h5⟩, fun h5 => absurd hv.1 h5⟩
                · rw [if_pos ⟨hv.1, hv.2, by omega, by omega⟩] at e
                  exact EscK.yes e (by rw [en]; omega)
                · by_cases h7 : 126 < 16 * dv 16 a + dv 16 b
                  · rw [if_pos ⟨hv.1, hv.2, by omega, by omega⟩] at e
                    rw [decide_eq_true h7]
                    exact EscK.yes e (by rw [en]; omega)
                  · rw [if_neg (by omega)] at e
                    rw [decide_eq_false h7]
                    exact EscK.no e
                · rw [if_neg (by omega)] at e
                  exact EscK.no e
              · rw [if_neg (by omega)] at e
                exact ⟨fun h5 => ⟨fun h6 => absurd ⟨h5, h6⟩ hv, fun _ => EscK.no e⟩, fun _ => EscK.no e⟩
        · exact EscK.no (by rw [e0, if_neg (by omega), if_neg (by omega)])
    unfold T45_3
    refine ⟨fun h1 => ?_, fun h1 => ?_⟩
    · rw [show decide ((c.toNat : Int) = 34) = decide (c.toNat = 34 ∨ c.toNat = 92) from decide_eq_decide.2 (by omega)]
      exact t4
    · rw [show decide ((c.toNat : Int) = 92) = decide (c.toNat = 34 ∨ c.toNat = 92) from decide_eq_decide.2 (by omega)]
      exact t4
theorem c39 {s : Bytes} (hs : s.length ≤ 10000000) : Pus prog 39 [.s s] (.tup [.s (nxtR s).1, .s (nxtR s).2.1, .b (nxtR s).2.2]) := by
  obtain ⟨x, y, z, ⟨rfl, rfl, rfl⟩, h⟩ := p39 H.f39 (s0 := s) (K := fun x y z => x = (nxtR s).1 ∧ y = (nxtR s).2.1 ∧ z = (nxtR s).2.2) (by
    have no : nxt s = none → ([] : Bytes) = (nxtR s).1 ∧ ([] : Bytes) = (nxtR s).2.1 ∧ false = (nxtR s).2.2 := by
      intro h
      unfold nxtR
      rw [h]
      exact ⟨rfl, rfl, rfl⟩
    unfold T39_0 T39_1
    refine ⟨_, _, c36 H s [34], ?_⟩
    cases s with
    | nil =>
      rw [show cutp [34] [] = ([], false) from rfl]
      exact ⟨fun _ => no rfl, fun h => by simp at h⟩
    | cons q s =>
      by_cases hq : q.toNat = 34
      · have hq' : q = 34 := u8_eq hq
        subst hq'
        have ec : cutp [34] (34 :: s) = (s, true) := by unfold cutp; rw [if_pos (show List.take ([34] : Bytes).length (34 :: s) = [34] from rfl)]; rfl
        rw [ec]
        refine ⟨fun h => by simp at h, fun _ P hP => ?_⟩
        have hn : nxt (34 :: s) = nxtB (s.length + 1) [] s := by
          simp only [nxt]
          rw [if_pos hq]
        have key : ∀ n b r, r.length < n → b.length + r.length ≤ 10000000 → nxtB n b r = nxt (34 :: s) → P r b := by
          intro n
          induction n with
          | zero => intro b r h; exact absurd h (Nat.not_lt_zero _)
          | succ n ih =>
            intro b r hr hb hx
            apply hP
            unfold T39_2
            cases r with
            | nil => exact ⟨fun h => absurd rfl h, fun _ => no (by rw [← hx]; rfl)⟩
            | cons c r =>
              simp only [nxtB] at hx
              refine ⟨fun _ => ⟨c, rfl, by simp, fun h1 => ?_, fun h1 => ⟨fun h2 => ?_, fun h2 => ⟨fun h3 => ?_, fun h3 => ⟨fun h4 => ?_, fun h4 => ?_⟩⟩⟩⟩, fun h => absurd (by simp) h⟩
              · rw [if_pos (by omega)] at hx
                unfold nxtR
                rw [← hx]
                exact ⟨rfl, rfl, rfl⟩
              · refine no ?_
                rw [← hx, if_neg (by omega), show one (c :: r) = none by simp only [one]; rw [if_pos (by omega)]]
              · refine no ?_
                rw [← hx, if_neg (by omega), show one (c :: r) = none by simp only [one]; rw [if_pos (by omega)]]
              · rw [if_neg (by omega), show one (c :: r) = esc r by simp only [one]; rw [if_neg (by omega), if_pos (by omega)]] at hx
                obtain ⟨a, r', ok, hk, hp⟩ := c45 H r
                refine ⟨a, r', ok, hp, fun h5 => ?_, fun h5 => ?_⟩
                · unfold EscK at hk
                  cases he : esc r with
                  | none => rw [he] at hx; exact no hx.symm
                  | some p =>
                    rw [he] at hk
                    obtain ⟨_, _, hk⟩ := hk
                    rw [hk] at h5
                    exact absurd h5 (by decide)
                · unfold EscK at hk
                  cases he : esc r with
                  | none =>
                    rw [he] at hk
                    simp only at hk
                    rw [hk] at h5
                    exact absurd h5 (by decide)
                  | some p =>
                    obtain ⟨u, v⟩ := p
                    rw [he] at hk hx
                    obtain ⟨h6, h7, h8⟩ := hk
                    simp only at hx h6 h7
                    subst h6; subst h7
                    have hl : r'.length < (c :: r).length := one_len (c := u) (by simp only [one]; rw [if_neg (by omega), if_pos (by omega)]; exact he)
                    simp only [List.length_cons] at hl hb hr
                    unfold T39_3
                    refine ⟨u, rfl, ⟨?_, ?_⟩, ih _ _ (by omega) ?_ hx⟩
                    · simp only [List.length_cons, List.length_nil, maxBytes_eq]; omega
                    · simp only [List.length_cons, List.length_nil, maxBytes_eq]; omega
                    · simp only [List.length_append, List.length_cons, List.length_nil]; omega
              · rw [if_neg (by omega), show one (c :: r) = some (c, r) by simp only [one]; rw [if_neg (by omega), if_neg (by omega)]] at hx
                simp only [List.length_cons] at hb hr
                unfold T39_3
                refine ⟨c, rfl, ⟨?_, ?_⟩, ih _ _ (show r.length < n by omega) ?_ hx⟩
                · simp only [List.length_cons, List.length_nil, maxBytes_eq]; omega
                · simp only [List.length_cons, List.length_nil, maxBytes_eq]; omega
                · simp only [List.drop_succ_cons, List.drop_zero, List.length_append, List.length_cons, List.length_nil]; omega
        exact key (s.length + 1) [] s (by omega) (by simp at hs ⊢; omega) hn.symm
      · have ec : cutp [34] (q :: s) = (q :: s, false) := by
          unfold cutp
          rw [if_neg ?_]
          intro h
          injection h with h
          exact hq (by rw [h]; rfl)
        rw [ec]
        refine ⟨fun _ => no ?_, fun h => by simp at h⟩
        simp only [nxt]
        rw [if_neg hq])
  exact h
theorem c40 {s : Bytes} (hs : s.length ≤ 10000000) : Pus prog 40 [.s s] (.tup [.s (nxtR s).1, .s (nxtR s).2.1, .b (nxtR s).2.2]) := by
  obtain ⟨x, y, z, ⟨rfl, rfl, rfl⟩, h⟩ := p40 H.f40 (s0 := s) (K := fun x y z => x = (nxtR s).1 ∧ y = (nxtR s).2.1 ∧ z = (nxtR s).2.2) (by
    have no : nxt s = none → ([] : Bytes) = (nxtR s).1 ∧ ([] : Bytes) = (nxtR s).2.1 ∧ false = (nxtR s).2.2 := by
      intro h
      unfold nxtR
      rw [h]
      exact ⟨rfl, rfl, rfl⟩
    unfold T40_0 T40_1
    cases s with
    | nil => exact ⟨fun _ => no rfl, fun h => absurd rfl h⟩
    | cons q s =>
      refine ⟨fun h => absurd h (by simp; omega), fun _ => ⟨q, rfl, fun hq => no ?_, fun hq => ?_⟩⟩
      · simp only [nxt]
        rw [if_neg (by omega)]
      · have hn : nxt (q :: s) = nxtB (s.length + 1) [] s := by
          simp only [nxt]
          rw [if_pos (by omega)]
        unfold T40_2 T40_3 T40_4
        refine ⟨by simp, fun P hP => ?_⟩
        have key : ∀ n b r, r.length < n → b.length + r.length ≤ 10000000 → nxtB n b r = nxt (q :: s) → P r b := by
          intro n
          induction n with
          | zero => intro b r h; exact absurd h (Nat.not_lt_zero _)
          | succ n ih =>
            intro b r hr hb hx
            apply hP
            unfold T40_5
            cases r with
            | nil =>
              refine ⟨fun h => absurd h (by simp), fun _ => ?_⟩
              unfold T40_9
              exact ⟨fun _ => no (by rw [← hx]; rfl), fun h => absurd rfl h⟩
            | cons c r =>
              simp only [nxtB] at hx
              refine ⟨fun _ => ⟨c, rfl, fun h1 => ?_, fun h1 => ?_⟩, fun h => absurd (show ((c :: r).length : Int) > 0 by simp) h⟩
              · rw [if_neg (by omega)] at hx
                intro P1 hP1
                have pref : ∀ a : UInt8, (c :: r).take (chr a).length = chr a ↔ one (c :: r) = some (a, (c :: r).drop (chr a).length) := fun a => take_chr
                have lit : ∀ {i : Nat} (_ : i < 256), IntKind.u8.wrap (i : Int) = ((UInt8.ofNat i).toNat : Int) := by
                  intro i hi
                  rw [wr_u8 (by omega) (by omega)]
                  simp; omega
                -- a step that finds nothing
                have skip : ∀ i : Nat, i < 256 → one (c :: r) ≠ some (UInt8.ofNat i, (c :: r).drop (chr (UInt8.ofNat i)).length) → P1 (c :: r) b false ((i + 1 : Nat) : Int) → P1 (c :: r) b false (i : Int) := by
                  intro i hi hne hnext
                  apply hP1
                  unfold T40_6 T40_7
                  rw [lit hi, wr_succ (by omega)]
                  refine ⟨fun _ => ⟨fun _ => ⟨_, c41 H _, fun h2 => ⟨by omega, by omega, fun h3 => ?_, fun h3 => hnext⟩, fun h2 => hnext⟩, fun h => by simp at h⟩, fun h => absurd (show (i : Int) < 256 by omega) h⟩
                  exact absurd ((pref _).1 h3) hne
                cases ho : one (c :: r) with
                | none =>
                  rw [ho] at hx
                  refine loop_up0 (P := fun i => P1 (c :: r) b false i) 256 ?_ fun i hi hnext => skip i hi (by rw [ho]; intro h; cases h) hnext
                  apply hP1
                  unfold T40_6 T40_8
                  exact ⟨fun h => absurd h (by decide), fun _ => ⟨fun _ => no hx.symm, fun h => by simp at h⟩⟩
                | some p =>
                  obtain ⟨a, r'⟩ := p
                  rw [ho] at hx
                  simp only at hx
                  have hl := one_len ho
                  simp only [List.length_cons] at hl hb hr
                  have ha := a.toNat_lt
                  have hthen : P r' (b ++ [a]) := ih _ _ (by omega) (by simp only [List.length_append, List.length_cons, List.length_nil]; omega) hx
                  have hinv := one_inv ho
                  have hdr : (c :: r).drop (chr a).length = r' := by rw [hinv]; simp
                  have hfound : ∀ i : Int, P1 r' (b ++ [a]) true i := by
                    intro i
                    apply hP1
                    unfold T40_6 T40_8
                    exact ⟨fun _ => ⟨fun h => by simp at h, fun _ => ⟨fun h => by simp at h, fun _ => hthen⟩⟩, fun _ => ⟨fun h => by simp at h, fun _ => hthen⟩⟩
                  have hat : P1 (c :: r) b false (a.toNat : Int) := by
                    apply hP1
                    unfold T40_6 T40_7
                    have e1 : IntKind.u8.wrap (a.toNat : Int) = (a.toNat : Int) := wr_u8 (by omega) (by omega)
                    have hlen := congrArg List.length hinv
                    simp only [List.length_append, List.length_cons] at hlen
                    rw [e1]
                    refine ⟨fun _ => ⟨fun _ => ⟨_, c41 H a, fun h2 => ⟨by omega, by rw [toNat_cast, List.length_cons]; omega, fun h3 => ⟨a, rfl, ?_, by omega, by rw [toNat_cast, List.length_cons]; omega, ?_⟩, fun h3 => ?_⟩, fun h2 => ?_⟩, fun h => by simp at h⟩, fun h => absurd (show (a.toNat : Int) < 256 by omega) h⟩
                    · simp only [List.length_cons, List.length_nil, maxStr_eq]; omega
                    · rw [toNat_cast, hdr]
                      exact hfound _
                    · exact absurd ((pref a).2 (by rw [ho, hdr])) h3
                    · simp only [List.length_cons] at h2
                      omega
                  have below : ∀ m i : Nat, i + m = a.toNat → P1 (c :: r) b false (i : Int) := by
                    intro m
                    induction m with
                    | zero => intro i hi; simp only [Nat.add_zero] at hi; rw [hi]; exact hat
                    | succ m ihm =>
                      intro i hi
                      refine skip i (by omega) ?_ (ihm (i + 1) (by omega))
                      rw [ho]
                      intro h
                      injection h with h
                      injection h with h
                      have := congrArg UInt8.toNat h
                      simp at this
                      omega
                  exact below a.toNat 0 (by omega)
              · unfold T40_9
                rw [if_pos (by omega)] at hx
                refine ⟨fun h => absurd h (by simp; omega), fun _ => ⟨by simp, ?_⟩⟩
                unfold nxtR
                rw [← hx]
                exact ⟨rfl, rfl, rfl⟩
        exact key (s.length + 1) [] s (by omega) (by simp at hs ⊢; omega) hn.symm)
  exact h
theorem c25 (s : Bytes) : Pus prog 25 [.s s] (.tup [.s (unquo s).1, .i .i64 (unquo s).2]) := by
  obtain ⟨x, y, ⟨rfl, rfl⟩, h⟩ := p25 H.f25 (s0 := s) (K := fun x y => x = (unquo s).1 ∧ y = (unquo s).2) (by
    unfold T25_0 unquo
    refine ⟨fun h => by rw [if_pos (by omega)]; exact ⟨rfl, rfl⟩, fun hs => ⟨_, _, _, c39 H (by omega), ?_⟩⟩
    rw [if_neg (by omega)]
    unfold nxtR
    cases nxt s with
    | none => exact ⟨fun _ => ⟨rfl, rfl⟩, fun h => by simp at h⟩
    | some p =>
      obtain ⟨x, r⟩ := p
      refine ⟨fun h => by simp at h, fun _ => ⟨fun h => ?_, fun h => ?_⟩⟩
      · cases r with
        | nil => exact absurd rfl h
        | cons c r => exact ⟨rfl, rfl⟩
      · have h : r = [] := Classical.not_not.1 h
        subst h
        refine ⟨fun h => ?_, fun h => ?_⟩
        · simp only at h ⊢
          rw [if_pos (by omega)]; exact ⟨rfl, rfl⟩
        · simp only at h ⊢
          rw [if_neg (by omega)]; exact ⟨rfl, rfl⟩)
  exact h
theorem c26 (s : Bytes) : Pus prog 26 [.s s] (.tup [.s (unquo s).1, .i .i64 (unquo s).2]) := by
  obtain ⟨x, y, ⟨rfl, rfl⟩, h⟩ := p26 H.f26 (s0 := s) (K := fun x y => x = (unquo s).1 ∧ y = (unquo s).2) (by
    unfold T26_0 unquo
    refine ⟨fun h => by rw [if_pos (by omega)]; exact ⟨rfl, rfl⟩, fun hs => ⟨_, _, _, c40 H (by omega), ?_⟩⟩
    rw [if_neg (by omega)]
    unfold nxtR
    cases nxt s with
    | none => exact ⟨fun _ => ⟨rfl, rfl⟩, fun h => by simp at h⟩
    | some p =>
      obtain ⟨x, r⟩ := p
      refine ⟨fun h => by simp at h, fun _ => ⟨fun h => ?_, fun h => ?_⟩⟩
      · cases r with
        | nil => exact absurd rfl h
        | cons c r => exact ⟨rfl, rfl⟩
      · have h : r = [] := Classical.not_not.1 h
        subst h
        refine ⟨fun h => ?_, fun h => ?_⟩
        · simp only at h ⊢
          rw [if_pos (by omega)]; exact ⟨rfl, rfl⟩
        · simp only at h ⊢
          rw [if_neg (by omega)]; exact ⟨rfl, rfl⟩)
  exact h
end
end Go.AM

/- Parts of the proof. -/
namespace Go.AM
open Go
def isD (c : UInt8) : Bool := decide (48 ≤ c.toNat) && decide (c.toNat ≤ 57)
theorem unnum_rng (s : Bytes) : -9223372036854775808 ≤ (unnum s).1 ∧ (unnum s).1 < 9223372036854775808 := by
  have h1 := rd_le 10 9223372036854775808 (s.drop 1)
  have h2 := rd_le 10 9223372036854775807 s
  unfold unnum
  split
  · exact ⟨by decide, by decide⟩
  split
  · split
    · exact ⟨by decide, by decide⟩
    · dsimp only
      omega
  · dsimp only
    omega
theorem hexd_isD : ∀ n : Fin 10, isD (hexd n.val) = true := by decide
theorem ds_isD : ∀ (f n : Nat), ∀ c ∈ ds 10 f n, isD c = true
  | 0, n, c, h => by simp [ds] at h
  | f + 1, n, c, h => by
    rw [ds] at h
    split at h
    · rename_i hn
      rw [List.mem_singleton.1 h]
      exact hexd_isD ⟨n, hn⟩
    · rcases List.mem_append.1 h with h | h
      · exact ds_isD f _ c h
      · rw [List.mem_singleton.1 h]
        exact hexd_isD ⟨n % 10, Nat.mod_lt _ (by decide)⟩
end Go.AM

/- Parts of the proof. -/
namespace Go.AM
open Go
def eqQ (a b : Qry) : Bool := (a.kind == b.kind && (a.g == b.g && (a.k == b.k && (a.key == b.key && (a.name == b.name && true)))))
theorem eqQ_iff {a b : Qry} : eqQ a b = true ↔ a = b := by
  unfold eqQ
  simp only [Bool.and_eq_true, beq_iff_eq, Bool.and_true]
  constructor
  · rintro ⟨h1, h2, h3, h4, h5⟩
    cases a; cases b
    simp only [Qry.mk.injEq]
    exact ⟨h1, h2, h3, h4, h5⟩
  · rintro rfl; exact ⟨rfl, rfl, rfl, rfl, rfl⟩
def bareQ (q : Qry) : Qry := if q.kind = 1 then ⟨q.kind, 0, 0, 0, []⟩ else if q.kind = 3 then ⟨q.kind, q.g, q.k, 0, []⟩ else if q.kind = 2 ∨ q.kind = 4 ∨ q.kind = 5 then ⟨q.kind, q.g, 0, 0, []⟩ else if q.kind = 6 then ⟨q.kind, 0, 0, q.key, []⟩ else ⟨q.kind, 0, 0, 0, q.name⟩
def rngQ (q : Qry) : Bool := decide (0 ≤ q.g ∧ q.g < 16) && decide (0 ≤ q.k ∧ q.k < 170) && decide (q.name.length ≤ 16)
def okQ (q : Qry) : Bool := decide (1 ≤ q.kind ∧ q.kind ≤ 8) && eqQ q (bareQ q) && rngQ q
def chkQ (q : Qry) : Int := if okQ q = true then 0 else 8
theorem chkQ_iff {q : Qry} : chkQ q = 0 ↔ okQ q = true := by unfold chkQ; cases okQ q <;> decide
def shownQ (q : Qry) : Bytes := if q.kind = 1 then wordM q.kind else if q.kind = 3 then wordM q.kind ++ (([32] ++ num q.g ++ [32]) ++ num q.k) else if q.kind = 6 then wordM q.kind ++ ([32] ++ num q.key) else if q.kind = 7 ∨ q.kind = 8 then wordM q.kind ++ ([32] ++ quo q.name) else wordM q.kind ++ ([32] ++ num q.g)
def txtQ (q : Qry) : Bytes × Int := if okQ q = true then (shownQ q, 0) else ([], 8)
structure OkQ (q : Qry) : Prop where
  k1 : 1 ≤ q.kind
  k8 : q.kind ≤ 8
  b : q = bareQ q
  g : 0 ≤ q.g ∧ q.g < 16
  k : 0 ≤ q.k ∧ q.k < 170
  n : q.name.length ≤ 16
theorem okQ_iff {q : Qry} : okQ q = true ↔ OkQ q := by
  unfold okQ rngQ
  simp only [Bool.and_eq_true, decide_eq_true_eq, eqQ_iff]
  exact ⟨fun ⟨⟨⟨h1, h2⟩, h3⟩, ⟨h4, h5⟩, h6⟩ => ⟨h1, h2, h3, h4, h5, h6⟩, fun h => ⟨⟨⟨h.k1, h.k8⟩, h.b⟩, ⟨h.g, h.k⟩, h.n⟩⟩
def cutS (s : Bytes) : Bytes × Bytes × Bool := if 0 ≤ Lib.indexByte s 32 then (s.take (Lib.indexByte s 32).toNat, s.drop (Lib.indexByte s 32 + 1).toNat, true) else (s, [], false)
theorem ib_no {s : Bytes} (h : ∀ c ∈ s, c ≠ (32 : UInt8)) : Lib.indexByte s 32 = -1 := by
  induction s with
  | nil => rfl
  | cons c s ih =>
    rw [Lib.indexByte, if_neg (by simpa using h c List.mem_cons_self), ih fun d hd => h d (List.mem_cons_of_mem _ hd)]
    rfl
theorem ib_at {a r : Bytes} (h : ∀ c ∈ a, c ≠ (32 : UInt8)) : Lib.indexByte (a ++ 32 :: r) 32 = (a.length : Int) := by
  induction a with
  | nil => rfl
  | cons c a ih =>
    rw [List.cons_append, Lib.indexByte, if_neg (by simpa using h c List.mem_cons_self), ih fun d hd => h d (List.mem_cons_of_mem _ hd), if_neg (by simp <;> omega), List.length_cons]
    omega
theorem cutS_no {s : Bytes} (h : ∀ c ∈ s, c ≠ (32 : UInt8)) : cutS s = (s, [], false) := by unfold cutS; rw [ib_no h, if_neg (by decide)]
theorem cutS_at {a r : Bytes} (h : ∀ c ∈ a, c ≠ (32 : UInt8)) : cutS (a ++ 32 :: r) = (a, r, true) := by
  unfold cutS
  rw [ib_at h, if_pos (by omega)]
  have e : ((a.length : Int) + 1).toNat = a.length + 1 := by omega
  rw [e, show (a.length : Int).toNat = a.length from rfl]
  simp
theorem num_nosp (n : Int) : ∀ c ∈ num n, c ≠ (32 : UInt8) := by
  have hd : ∀ k, ∀ c ∈ digs 10 k, c ≠ (32 : UInt8) := fun k c hc => by
    have := ds_isD _ _ c hc
    rintro rfl
    revert this
    decide
  intro c hc
  unfold num at hc
  split at hc
  · rcases List.mem_cons.1 hc with rfl | hc
    · decide
    · exact hd _ c hc
  · exact hd _ c hc
theorem word_nosp {k : Int} (h1 : 1 ≤ k) (h8 : k ≤ 8) : ∀ c ∈ wordM k, c ≠ (32 : UInt8) := by
  obtain ⟨j, rfl⟩ := Int.eq_ofNat_of_zero_le (by omega : 0 ≤ k)
  have h1 : 1 ≤ j := by omega
  have h8 : j ≤ 8 := by omega
  match j, h1, h8 with
  | 1, _, _ | 2, _, _ | 3, _, _ | 4, _, _ | 5, _, _ | 6, _, _ | 7, _, _ | 8, _, _ => decide
theorem mpAt_word {k : Int} (h1 : 1 ≤ k) (h8 : k ≤ 8) : mpAt wordL (wordM k) = k := by
  obtain ⟨j, rfl⟩ := Int.eq_ofNat_of_zero_le (by omega : 0 ≤ k)
  have h1 : 1 ≤ j := by omega
  have h8 : j ≤ 8 := by omega
  match j, h1, h8 with
  | 1, _, _ | 2, _, _ | 3, _, _ | 4, _, _ | 5, _, _ | 6, _, _ | 7, _, _ | 8, _, _ => rfl
theorem word_len {k : Int} : (wordM k).length ≤ 10 := by
  by_cases h : 1 ≤ k ∧ k ≤ 8
  · obtain ⟨h1, h8⟩ := h
    obtain ⟨j, rfl⟩ := Int.eq_ofNat_of_zero_le (by omega : 0 ≤ k)
    have h1 : 1 ≤ j := by omega
    have h8 : j ≤ 8 := by omega
    match j, h1, h8 with
    | 1, _, _ | 2, _, _ | 3, _, _ | 4, _, _ | 5, _, _ | 6, _, _ | 7, _, _ | 8, _, _ => decide
  · rw [wordM_no h]; decide
def numQ (s : Bytes) : Int × Bool := ((unnum s).1, decide ((unnum s).2 = 0) && (decide (0 ≤ (unnum s).1) && decide ((unnum s).1 < 1000)))
def rdQ (kind : Int) (rest : Bytes) : Qry × Bool :=
  if kind = 1 then (⟨1, 0, 0, 0, []⟩, decide (rest = [])) else
  if kind = 3 then (⟨3, (numQ (cutS rest).1).1, (numQ (cutS rest).2.1).1, 0, []⟩, (numQ (cutS rest).1).2 && ((numQ (cutS rest).2.1).2 && (cutS rest).2.2)) else
  if kind = 6 then (⟨6, 0, 0, (unnum rest).1, []⟩, decide ((unnum rest).2 = 0)) else
  if kind = 7 ∨ kind = 8 then (⟨kind, 0, 0, 0, (unquo rest).1⟩, decide ((unquo rest).2 = 0)) else (⟨kind, (numQ rest).1, 0, 0, []⟩, (numQ rest).2)
def refQ (kind : Int) (rest : Bytes) : Qry :=
  if kind = 2 ∨ kind = 4 ∨ kind = 5 then ⟨kind, (unnum (cutS rest).1).1, 0, 0, []⟩ else
  if kind = 3 then ⟨kind, (unnum (cutS rest).1).1, (unnum (cutS rest).2.1).1, 0, []⟩ else
  if kind = 6 then ⟨kind, 0, 0, (unnum rest).1, []⟩ else
  if kind = 7 ∨ kind = 8 then ⟨kind, 0, 0, 0, (unquo rest).1⟩ else ⟨kind, 0, 0, 0, []⟩
abbrev qz : Qry := ⟨0, 0, 0, 0, []⟩
def gotQ (s : Bytes) : Qry × Bool := rdQ (mpAt wordL (cutS s).1) (cutS s).2.1
def rdTQ (s : Bytes) : Qry × Int := if 2000 < s.length then (qz, 4) else if (gotQ s).2 = true ∧ okQ (gotQ s).1 = true ∧ shownQ (gotQ s).1 = s then ((gotQ s).1, 0) else (qz, 12)
theorem numQ_num {n : Int} (h : 0 ≤ n ∧ n < 1000) : numQ (num n) = (n, true) := by
  unfold numQ
  rw [unnum_num (by omega) (by omega)]
  simp only [decide_eq_true h.1, decide_eq_true h.2]
  rfl
theorem back_Q {q : Qry} (h : OkQ q) (hk : -9223372036854775808 ≤ q.key ∧ q.key < 9223372036854775808) : gotQ (shownQ q) = (q, true) ∧ (cutS (shownQ q)).1 = wordM q.kind ∧ refQ q.kind (cutS (shownQ q)).2.1 = q := by
  obtain ⟨k1, k8, b, g, k, n⟩ := h
  have hw := word_nosp k1 k8
  unfold bareQ at b
  by_cases e1 : q.kind = 1
  · rw [if_pos e1] at b
    have es : cutS (shownQ q) = (wordM q.kind, [], false) := by unfold shownQ; rw [if_pos e1]; exact cutS_no hw
    unfold gotQ
    rw [es]
    simp only
    rw [mpAt_word k1 k8]
    unfold rdQ refQ
    rw [if_pos e1, if_neg (by omega), if_neg (by omega), if_neg (by omega), if_neg (by omega)]
    rw [e1] at b
    rw [e1]
    exact ⟨by rw [← b]; rfl, trivial, b.symm⟩
  rw [if_neg e1] at b
  by_cases e3 : q.kind = 3
  · rw [if_pos e3] at b
    have es : cutS (shownQ q) = (wordM q.kind, num q.g ++ 32 :: num q.k, true) := by
      unfold shownQ
      rw [if_neg e1, if_pos e3, ← cutS_at (r := num q.g ++ 32 :: num q.k) hw]
      simp
    have er : cutS (num q.g ++ 32 :: num q.k) = (num q.g, num q.k, true) := cutS_at (num_nosp _)
    unfold gotQ
    rw [es]
    simp only
    rw [mpAt_word k1 k8]
    unfold rdQ refQ
    rw [if_neg e1, if_pos e3, if_neg (by omega), if_pos e3, er]
    simp only
    rw [numQ_num (by omega), numQ_num (by omega), unnum_num (by omega) (by omega), unnum_num (by omega) (by omega)]
    rw [e3] at b
    rw [e3]
    exact ⟨by rw [← b]; rfl, trivial, b.symm⟩
  rw [if_neg e3] at b
  by_cases e2 : q.kind = 2 ∨ q.kind = 4 ∨ q.kind = 5
  · rw [if_pos e2] at b
    have es : cutS (shownQ q) = (wordM q.kind, num q.g, true) := by
      unfold shownQ
      rw [if_neg e1, if_neg e3, if_neg (by omega), if_neg (by omega), ← cutS_at (r := num q.g) hw]
      simp
    have er : cutS (num q.g) = (num q.g, [], false) := cutS_no (num_nosp _)
    unfold gotQ
    rw [es]
    simp only
    rw [mpAt_word k1 k8]
    unfold rdQ refQ
    rw [if_neg e1, if_neg e3, if_neg (by omega), if_neg (by omega), if_pos e2, er]
    simp only
    rw [numQ_num (by omega), unnum_num (by omega) (by omega)]
    exact ⟨by rw [← b], trivial, b.symm⟩
  rw [if_neg e2] at b
  by_cases e6 : q.kind = 6
  · rw [if_pos e6] at b
    have es : cutS (shownQ q) = (wordM q.kind, num q.key, true) := by
      unfold shownQ
      rw [if_neg e1, if_neg e3, if_pos e6, ← cutS_at (r := num q.key) hw]
      simp
    unfold gotQ
    rw [es]
    simp only
    rw [mpAt_word k1 k8]
    unfold rdQ refQ
    rw [if_neg e1, if_neg e3, if_pos e6, if_neg e2, if_neg e3, if_pos e6, unnum_num hk.1 hk.2]
    rw [e6] at b
    rw [e6]
    exact ⟨by rw [← b]; rfl, trivial, b.symm⟩
  · rw [if_neg e6] at b
    have e7 : q.kind = 7 ∨ q.kind = 8 := by omega
    have es : cutS (shownQ q) = (wordM q.kind, quo q.name, true) := by
      unfold shownQ
      rw [if_neg e1, if_neg e3, if_neg e6, if_pos e7, ← cutS_at (r := quo q.name) hw]
      simp
    unfold gotQ
    rw [es]
    simp only
    rw [mpAt_word k1 k8]
    unfold rdQ refQ
    rw [if_neg e1, if_neg e3, if_neg e6, if_pos e7, if_neg e2, if_neg e3, if_neg e6, if_pos e7, unquo_quo (by omega)]
    exact ⟨by rw [← b]; rfl, trivial, b.symm⟩
theorem refQ_key (kind : Int) (rest : Bytes) : -9223372036854775808 ≤ (refQ kind rest).key ∧ (refQ kind rest).key < 9223372036854775808 := by
  have := unnum_rng rest
  unfold refQ
  repeat' split
  all_goals (simp only; omega)
theorem gotQ_key (s : Bytes) : -9223372036854775808 ≤ (gotQ s).1.key ∧ (gotQ s).1.key < 9223372036854775808 := by
  have := unnum_rng (cutS s).2.1
  unfold gotQ rdQ
  repeat' split
  all_goals (simp only; omega)
theorem ref_found {s : Bytes} (hs : ¬2000 < s.length) {q : Qry} (h : okQ q = true) (hk : -9223372036854775808 ≤ q.key ∧ q.key < 9223372036854775808) (e : shownQ q = s) : rdTQ s = (q, 0) := by
  obtain ⟨h1, _, _⟩ := back_Q (okQ_iff.1 h) hk
  unfold rdTQ
  rw [if_neg hs, ← e, h1, if_pos ⟨rfl, h, rfl⟩]
theorem ref_none {s : Bytes} (hs : ¬2000 < s.length) (h : ∀ k : Int, 1 ≤ k → k ≤ 8 → wordM k = (cutS s).1 → okQ (refQ k (cutS s).2.1) = true → shownQ (refQ k (cutS s).2.1) = s → False) : rdTQ s = (qz, 12) := by
  unfold rdTQ
  rw [if_neg hs, if_neg]
  rintro ⟨_, h2, h3⟩
  have ho := okQ_iff.1 h2
  obtain ⟨_, b2, b3⟩ := back_Q ho (gotQ_key s)
  rw [h3] at b2 b3
  exact h _ ho.k1 ho.k8 b2.symm (by rw [b3]; exact h2) (by rw [b3]; exact h3)
end Go.AM

/- Parts of the proof. -/
namespace Go.AM
open Go
structure HasU (prog : Prog) : Prop extends Has03 prog where
  f197 : prog.fn 197 = some pf197
  f243 : prog.fn 243 = some pf243
  f244 : prog.fn 244 = some pf244
  f245 : prog.fn 245 = some pf245
  f246 : prog.fn 246 = some pf246
  f247 : prog.fn 247 = some pf247
  f248 : prog.fn 248 = some pf248
  f257 : prog.fn 257 = none
  f258 : prog.fn 258 = some pf258
  f259 : prog.fn 259 = some pf259
  f260 : prog.fn 260 = some pf260
  f261 : prog.fn 261 = some pf261
  f262 : prog.fn 262 = some pf262
  f263 : prog.fn 263 = some pf263
  f265 : prog.fn 265 = some pf265
  f266 : prog.fn 266 = some pf266
  f267 : prog.fn 267 = some pf267
  o257 : prog.orac 257 [] = some (.mp wordL)
def wordsQ : List Bytes := [[], [103, 111, 114, 111, 117, 116, 105, 110, 101, 115], [102, 114, 97, 109, 101, 115], [108, 111, 99, 97, 108, 115], [100, 101, 102, 101, 114, 115], [112, 97, 110, 105, 99, 115], [119, 97, 105, 116, 115], [105, 110], [115, 108, 111, 116]]
theorem wordsQ_at {k : Int} (h0 : 0 ≤ k) (h8 : k ≤ 8) : wordsQ[k.toNat]? = some (wordM k) := by
  obtain ⟨j, rfl⟩ := Int.eq_ofNat_of_zero_le h0
  have h8 : j ≤ 8 := by omega
  match j, h8 with
  | 0, _ | 1, _ | 2, _ | 3, _ | 4, _ | 5, _ | 6, _ | 7, _ | 8, _ => rfl
theorem ib_le (s : Bytes) (c : UInt8) : Lib.indexByte s c < (s.length : Int) ∨ s = [] := by
  induction s with
  | nil => exact .inr rfl
  | cons b s ih =>
    left
    rw [Lib.indexByte]
    have : (((b :: s).length : Nat) : Int) = (s.length : Int) + 1 := by rw [List.length_cons]; omega
    split
    · omega
    · split
      · omega
      · rename_i h1 h2
        rcases ih with h | h
        · omega
        · subst h; exact absurd rfl h2
section
variable {prog : Prog} (H : HasU prog)
include H
theorem c257 : Pus prog 257 [] (.mp wordL) := ⟨.mp wordL, ⟨st0, 1, by simp only [acall, H.f257, H.o257]⟩, by simp [AV.strip]⟩
theorem c258 {n : Int} (h1 : -9223372036854775808 ≤ n) (h2 : n < 9223372036854775808) : Pus prog 258 [.i .i64 n] (.s (num n)) := by
  obtain ⟨x, rfl, h⟩ := p258 H.f258 (n0 := n) (K := fun x => x = num n) (by
    unfold T258_0
    exact ⟨_, c15 H.toHas03 h1 h2, rfl⟩)
  exact h
theorem c265 {n : Int} (h1 : -9223372036854775808 ≤ n) (h2 : n < 9223372036854775808) : Pus prog 265 [.i .i64 n] (.s (num n)) := by
  obtain ⟨x, rfl, h⟩ := p265 H.f265 (n0 := n) (K := fun x => x = num n) (by
    unfold T265_0
    exact ⟨_, c16 H.toHas03 h1 h2, rfl⟩)
  exact h
theorem c263 : Pus prog 263 [] (.sl .ext (wordsQ.map rowS)) := by
  obtain ⟨x, rfl, h⟩ := p263 H.f263 (K := fun x => x = wordsQ) (by unfold T263_0; rfl)
  exact h
theorem c197 (s : Bytes) (c : UInt8) : Pus prog 197 [.s s, .s [c]] (.i .i64 (Lib.indexByte s c)) := by
  obtain ⟨x, rfl, h⟩ := p197 H.f197 (s0 := s) (substr1 := [c]) (K := fun x => x = Lib.indexByte s c) (by
    have t3 : ∀ b, (b = true → s = [c]) → T197_3 prog (fun x => x = Lib.indexByte s c) s [c] (([c] : Bytes).length : Int) b := fun b hb => by
      unfold T197_3
      refine ⟨fun h => ?_, fun _ => ⟨fun _ => ⟨c, rfl, _, c47 H.toHas03 s c, rfl⟩, fun h => absurd rfl h⟩⟩
      rw [hb h, Lib.indexByte, if_pos (by simp)]
    unfold T197_0 T197_1 T197_2
    exact ⟨fun h => absurd h (by simp), fun _ => t3 _ fun h => (of_decide_eq_true h).symm⟩)
  exact h
theorem c266 {s : Bytes} (hs : s.length ≤ 1000000000) : Pus prog 266 [.s s, .s [32]] (.tup [.s (cutS s).1, .s (cutS s).2.1, .b (cutS s).2.2]) := by
  obtain ⟨x, y, z, ⟨rfl, rfl, rfl⟩, h⟩ := p266 H.f266 (s0 := s) (sep1 := [32]) (K := fun x y z => x = (cutS s).1 ∧ y = (cutS s).2.1 ∧ z = (cutS s).2.2) (by
    have hl := ib_le s 32
    have hg := Lib.indexByte_ge s 32
    unfold T266_0
    refine ⟨_, c197 H s 32, fun h => ?_, fun h => ?_⟩
    · have hlt : Lib.indexByte s 32 < (s.length : Int) := by
        rcases hl with h' | rfl
        · exact h'
        · exact absurd h (by decide)
      have e1 : (([32] : Bytes).length : Int) = 1 := rfl
      rw [e1, wr_i64 (by omega) (by omega)]
      unfold cutS
      rw [if_pos (by omega)]
      exact ⟨by omega, by omega, by omega, by omega, rfl, rfl, rfl⟩
    · unfold cutS
      rw [if_neg (by omega)]
      exact ⟨rfl, rfl, rfl⟩)
  exact h
theorem c260 {s : Bytes} (hs : s.length ≤ 1000000000) : Pus prog 260 [.s s, .s [32]] (.tup [.s (cutS s).1, .s (cutS s).2.1, .b (cutS s).2.2]) := by
  obtain ⟨x, y, z, ⟨rfl, rfl, rfl⟩, h⟩ := p260 H.f260 (s0 := s) (sep1 := [32]) (K := fun x y z => x = (cutS s).1 ∧ y = (cutS s).2.1 ∧ z = (cutS s).2.2) (by
    unfold T260_0
    exact ⟨_, _, _, c266 H hs, rfl, rfl, rfl⟩)
  exact h
theorem c262 {s : Bytes} (hs : s.length ≤ 1000000000) : Pus prog 262 [.s s] (.tup [.s (cutS s).1, .s (cutS s).2.1]) := by
  obtain ⟨x, y, ⟨rfl, rfl⟩, h⟩ := p262 H.f262 (s0 := s) (K := fun x y => x = (cutS s).1 ∧ y = (cutS s).2.1) (by
    unfold T262_0
    intro P hP
    refine loop_inv0 s.length (fun i => ∀ c ∈ s.take i, c ≠ (32 : UInt8)) (by simp) (fun hI => hP _ ?_) fun i hi hI next => hP _ ?_
    · unfold T262_1 T262_2
      rw [List.take_length] at hI
      refine ⟨fun h => absurd h (by omega), fun _ => ?_⟩
      rw [cutS_no hI]
      exact ⟨rfl, rfl⟩
    · unfold T262_1
      refine ⟨fun _ => ⟨by omega, _, get_at hi, fun h => ?_, fun h => ?_⟩, fun h => absurd (show (i : Int) < s.length by omega) h⟩
      · rw [wr_i64 (by omega) (by omega)]
        have e : s = s.take i ++ 32 :: s.drop (i + 1) := by
          have h32 : s[i] = 32 := u8_eq (by have e3 : (UInt8.toNat 32 : Int) = 32 := rfl; omega)
          rw [← h32, ← List.drop_eq_getElem_cons hi, List.take_append_drop]
        have ec := cutS_at (r := s.drop (i + 1)) hI
        rw [← e] at ec
        rw [ec]
        exact ⟨by omega, by omega, by omega, by omega, rfl, rfl⟩
      · rw [wr_i64 (by omega) (by omega)]
        refine next fun c hc => ?_
        rw [List.take_succ_eq_append_getElem hi] at hc
        rcases List.mem_append.1 hc with hc | hc
        · exact hI c hc
        · rw [List.mem_singleton.1 hc]
          intro e
          exact h (by rw [e]; rfl))
  exact h
theorem c267 (s : Bytes) : Pus prog 267 [.s s] (.tup [.i .i64 (numQ s).1, .b (numQ s).2]) := by
  obtain ⟨x, y, ⟨rfl, rfl⟩, h⟩ := p267 H.f267 (s0 := s) (K := fun x y => x = (numQ s).1 ∧ y = (numQ s).2) (by
    unfold T267_0 numQ
    refine ⟨_, _, c21 H.toHas03 s, fun h => ⟨fun h1 => ⟨rfl, ?_⟩, fun h1 => ⟨rfl, ?_⟩⟩, fun h => ⟨rfl, ?_⟩⟩
    · rw [decide_eq_true h, decide_eq_true (p := 0 ≤ (unnum s).1) (by omega)]; rfl
    · rw [decide_eq_true h, decide_eq_false (p := 0 ≤ (unnum s).1) (by omega)]; rfl
    · rw [decide_eq_false h]; rfl)
  exact h
theorem c261 {kind : Int} {rest : Bytes} (hr : rest.length ≤ 1000000000) : Pus prog 261 [.i .u8 kind, .s rest] (.tup [(rdQ kind rest).1.av, .b (rdQ kind rest).2]) := by
  obtain ⟨x, y, ⟨rfl, rfl⟩, h⟩ := p261 H.f261 (kind0 := kind) (rest1 := rest) (K := fun x y => x = (rdQ kind rest).1 ∧ y = (rdQ kind rest).2) (by
    have t7 : ∀ (K : Qry → Bool → Prop) (ok is : Bool) (e : Int) (m q : Qry), K q (ok && (is && decide (e = 0))) → T261_7 prog K ok is e m q := fun K ok is e m q hk => by
      unfold T261_7
      refine ⟨fun h => ⟨fun h' => ?_, fun h' => ?_⟩, fun h => ?_⟩
      · rw [h, h'] at hk; exact hk
      · rw [h, h'] at hk; exact hk
      · rw [h] at hk; exact hk
    unfold T261_0 T261_1 T261_2 T261_3 T261_4 T261_5 T261_6
    refine ⟨fun h => ?_, fun h1 => ⟨fun h => ?_, fun h3 => ⟨fun h => ?_, fun h6 => ⟨fun h => ?_, fun h7 => ?_⟩⟩⟩⟩
    · have h := of_decide_eq_true h
      refine t7 _ _ _ _ _ _ ?_
      unfold rdQ
      rw [if_pos h, h]
      exact ⟨rfl, by simp⟩
    · have h1 := of_decide_eq_false h1
      have hc1 : (cutS rest).1.length ≤ 1000000000 := by unfold cutS; split <;> simp <;> omega
      refine ⟨_, _, _, c260 H hr, _, _, c267 H _, _, _, c267 H _, fun hi => t7 _ _ _ _ _ _ ?_, fun hi => t7 _ _ _ _ _ _ ?_⟩
      · unfold rdQ
        rw [if_neg h1, if_pos h, h, hi]
        exact ⟨rfl, by simp⟩
      · unfold rdQ
        rw [if_neg h1, if_pos h, h, hi]
        exact ⟨rfl, by simp⟩
    · have h1 := of_decide_eq_false h1
      refine ⟨_, _, c21 H.toHas03 rest, t7 _ _ _ _ _ _ ?_⟩
      unfold rdQ
      rw [if_neg h1, if_neg h3, if_pos h, h]
      exact ⟨rfl, by simp⟩
    · have h1 := of_decide_eq_false h1
      unfold T261_8
      refine ⟨fun _ => ⟨_, _, c25 H.toHas03 rest, t7 _ _ _ _ _ _ ?_⟩, fun h' => absurd h (of_decide_eq_false h')⟩
      unfold rdQ
      rw [if_neg h1, if_neg h3, if_neg h6, if_pos (.inl h)]
      exact ⟨rfl, by simp⟩
    · have h1 := of_decide_eq_false h1
      unfold T261_8
      refine ⟨fun h => ⟨_, _, c25 H.toHas03 rest, t7 _ _ _ _ _ _ ?_⟩, fun h => ⟨_, _, c267 H rest, t7 _ _ _ _ _ _ ?_⟩⟩
      · have h := of_decide_eq_true h
        unfold rdQ
        rw [if_neg h1, if_neg h3, if_neg h6, if_pos (.inr h)]
        exact ⟨rfl, by simp⟩
      · have h := of_decide_eq_false h
        unfold rdQ
        rw [if_neg h1, if_neg h3, if_neg h6, if_neg (by omega)]
        exact ⟨rfl, by simp⟩)
  exact h
theorem fin_chk {q b : Qry} {K : Int → Prop} (hb : bareQ q = b) (hk : 1 ≤ q.kind ∧ q.kind ≤ 8) (h : K (chkQ q)) :
    ((!(eqQ q b)) = true → K 8) ∧ ((!(eqQ q b)) = false → (q.g < 0 → K 8) ∧ (¬(q.g < 0) → (q.g ≥ 16 → K 8) ∧ (¬(q.g ≥ 16) → (q.k < 0 → K 8) ∧ (¬(q.k < 0) → (q.k ≥ 170 → K 8) ∧ (¬(q.k ≥ 170) → ((q.name.length : Int) > 16 → K 8) ∧ (¬((q.name.length : Int) > 16) → K 0)))))) := by
  have e : okQ q = (eqQ q b && rngQ q) := by unfold okQ; rw [decide_eq_true hk, hb]; rfl
  have no : okQ q = false → K 8 := fun h' => by unfold chkQ at h; rw [h'] at h; exact h
  refine ⟨fun h1 => no ?_, fun h1 => ?_⟩
  · rw [e, show eqQ q b = false by simpa using h1]; rfl
  have h1 : eqQ q b = true := by simpa using h1
  rw [h1, Bool.true_and] at e
  unfold rngQ at e
  refine ⟨fun h2 => no ?_, fun h2 => ⟨fun h3 => no ?_, fun h3 => ⟨fun h4 => no ?_, fun h4 => ⟨fun h5 => no ?_, fun h5 => ⟨fun h6 => no ?_, fun h6 => ?_⟩⟩⟩⟩⟩
  · rw [e, decide_eq_false (by omega)]; rfl
  · rw [e, decide_eq_false (by omega)]; rfl
  · rw [e, decide_eq_false (p := 0 ≤ q.k ∧ _) (by omega)]; simp
  · rw [e, decide_eq_false (p := 0 ≤ q.k ∧ _) (by omega)]; simp
  · rw [e, decide_eq_false (p := q.name.length ≤ 16) (by omega)]; simp
  · rw [decide_eq_true (by omega), decide_eq_true (by omega), decide_eq_true (by omega)] at e
    unfold chkQ at h
    rw [e] at h
    exact h
end
end Go.AM

/- Parts of the proof. -/
namespace Go.AM
open Go
theorem bare_1 {q : Qry} (h : q.kind = 1) : bareQ q = ⟨q.kind, 0, 0, 0, []⟩ := by unfold bareQ; rw [if_pos h]
theorem bare_3 {q : Qry} (h : q.kind = 3) : bareQ q = ⟨q.kind, q.g, q.k, 0, []⟩ := by unfold bareQ; rw [if_neg (by omega), if_pos h]
theorem bare_g {q : Qry} (h : q.kind = 2 ∨ q.kind = 4 ∨ q.kind = 5) : bareQ q = ⟨q.kind, q.g, 0, 0, []⟩ := by unfold bareQ; rw [if_neg (by omega), if_neg (by omega), if_pos h]
theorem bare_6 {q : Qry} (h : q.kind = 6) : bareQ q = ⟨q.kind, 0, 0, q.key, []⟩ := by unfold bareQ; rw [if_neg (by omega), if_neg (by omega), if_neg (by omega), if_pos h]
theorem bare_n {q : Qry} (h : q.kind = 7 ∨ q.kind = 8) : bareQ q = ⟨q.kind, 0, 0, 0, q.name⟩ := by unfold bareQ; rw [if_neg (by omega), if_neg (by omega), if_neg (by omega), if_neg (by omega)]
theorem chk_no {q : Qry} (h : ¬(1 ≤ q.kind ∧ q.kind ≤ 8)) : chkQ q = 8 := by unfold chkQ okQ; rw [decide_eq_false h]; rfl
section
variable {prog : Prog} (H : HasU prog)
include H
theorem c247 (q : Qry) : Pus prog 247 [q.av] (.i .i64 (chkQ q)) := by
  obtain ⟨x, rfl, h⟩ := p247 H.f247 (q0 := q) (K := fun x => x = chkQ q) (by
    have fin : ∀ b, bareQ q = b → 1 ≤ q.kind ∧ q.kind ≤ 8 → T247_3 prog (fun x => x = chkQ q) q b := fun b hb hk => by
      unfold T247_3
      exact fin_chk H (K := fun x => x = chkQ q) hb hk rfl
    have t4 : ∀ t, (t = true ↔ q.kind = 2 ∨ q.kind = 4 ∨ q.kind = 5) → q.kind ≠ 1 → q.kind ≠ 3 → T247_4 prog (fun x => x = chkQ q) q.kind t q ⟨q.kind, 0, 0, 0, []⟩ := fun t ht h1 h3 => by
      unfold T247_4 T247_5
      refine ⟨fun h => fin _ (bare_g (ht.1 h)) (by have := ht.1 h; omega), fun h => ?_⟩
      have hg : ¬(q.kind = 2 ∨ q.kind = 4 ∨ q.kind = 5) := fun h' => by rw [ht.2 h'] at h; cases h
      refine ⟨fun h6 => fin _ (bare_6 h6) (by omega), fun h6 => ⟨fun h7 => ⟨fun _ => fin _ (bare_n (.inl h7)) (by omega), fun h' => absurd h7 (of_decide_eq_false h')⟩, fun h7 => ⟨fun h' => fin _ (bare_n (.inr (of_decide_eq_true h'))) (by have := of_decide_eq_true h'; omega), fun h' => ?_⟩⟩⟩
      have h8 := of_decide_eq_false h'
      exact (chk_no (by omega)).symm
    unfold T247_0 T247_1 T247_2
    refine ⟨fun h => fin _ (bare_1 h) (by omega), fun h1 => ⟨fun h => fin _ (bare_3 h) (by omega), fun h3 => ⟨fun h => t4 _ (by rw [decide_eq_true_eq]; omega) h1 h3, fun h2 => ⟨fun h => t4 _ (by rw [decide_eq_true_eq]; omega) h1 h3, fun h4 => t4 _ (by rw [decide_eq_true_eq]; omega) h1 h3⟩⟩⟩⟩)
  exact h
theorem c248 (q : Qry) : Pus prog 248 [q.av] (.i .i64 (chkQ q)) := by
  obtain ⟨x, rfl, h⟩ := p248 H.f248 (q0 := q) (K := fun x => x = chkQ q) (by
    have fin : ∀ b, bareQ q = b → 1 ≤ q.kind ∧ q.kind ≤ 8 → T248_3 prog (fun x => x = chkQ q) q.kind q.g q.k q.key q.name b := fun b hb hk => by
      unfold T248_3
      exact fin_chk H (K := fun x => x = chkQ q) hb hk rfl
    have t4 : ∀ t, (t = true ↔ q.kind = 2 ∨ q.kind = 4 ∨ q.kind = 5) → q.kind ≠ 1 → T248_4 prog (fun x => x = chkQ q) q.kind q.g q.k q.key q.name q.kind t ⟨q.kind, 0, 0, 0, []⟩ := fun t ht h1 => by
      unfold T248_4 T248_5
      refine ⟨fun h => fin _ (bare_g (ht.1 h)) (by have := ht.1 h; omega), fun h => ?_⟩
      have hg : ¬(q.kind = 2 ∨ q.kind = 4 ∨ q.kind = 5) := fun h' => by rw [ht.2 h'] at h; cases h
      refine ⟨fun h3 => fin _ (bare_3 h3) (by omega), fun h3 => ⟨fun h6 => fin _ (bare_6 h6) (by omega), fun h6 => ⟨fun h7 => ⟨fun _ => fin _ (bare_n (.inl h7)) (by omega), fun h' => absurd h7 (of_decide_eq_false h')⟩, fun h7 => ⟨fun h' => fin _ (bare_n (.inr (of_decide_eq_true h'))) (by have := of_decide_eq_true h'; omega), fun h' => ?_⟩⟩⟩⟩
      have h8 := of_decide_eq_false h'
      exact (chk_no (by omega)).symm
    unfold T248_0 T248_1 T248_2
    refine ⟨fun h => fin _ (bare_1 h) (by omega), fun h1 => ⟨fun h => t4 _ (by rw [decide_eq_true_eq]; omega) h1, fun h2 => ⟨fun h => t4 _ (by rw [decide_eq_true_eq]; omega) h1, fun h4 => t4 _ (by rw [decide_eq_true_eq]; omega) h1⟩⟩⟩)
  exact h
theorem c259 {q : Qry} (h : OkQ q) (hk : -9223372036854775808 ≤ q.key ∧ q.key < 9223372036854775808) : Pus prog 259 [q.av] (.s (shownQ q)) := by
  obtain ⟨x, rfl, h⟩ := p259 H.f259 (q0 := q) (K := fun x => x = shownQ q) (by
    obtain ⟨k1, k8, _, hg, hk', hn⟩ := h
    have l1 := word_len (k := q.kind)
    have l2 := num_len q.g
    have l3 := num_len q.k
    have l4 := num_len q.key
    have l5 := quo_len q.name
    have t1 : ∀ t, (t = true ↔ q.kind = 2 ∨ q.kind = 4 ∨ q.kind = 5) → T259_1 prog (fun x => x = shownQ q) (wordM q.kind) q.kind t q := fun t ht => by
      unfold T259_1 T259_3 T259_2
      refine ⟨fun h => ?_, fun h => ?_⟩
      · have h := ht.1 h
        refine ⟨_, c265 H (by omega) (by omega), ?_, ?_, ?_⟩
        · rw [maxStr_eq]; simp only [List.length_cons, List.length_nil]; omega
        · rw [maxStr_eq]; simp only [List.length_append, List.length_cons, List.length_nil]; omega
        · unfold shownQ
          rw [if_neg (by omega), if_neg (by omega), if_neg (by omega), if_neg (by omega)]
      have hg : ¬(q.kind = 2 ∨ q.kind = 4 ∨ q.kind = 5) := fun h' => by rw [ht.2 h'] at h; cases h
      refine ⟨fun h3 => ⟨_, c265 H (by omega) (by omega), ?_, ?_, _, c265 H (by omega) (by omega), ?_, ?_, ?_⟩, fun h3 => ⟨fun h6 => ⟨_, c16 H.toHas03 hk.1 hk.2, ?_, ?_, ?_⟩, fun h6 => ⟨fun h7 => ⟨fun _ => ⟨_, c31 H.toHas03 (by omega), ?_, ?_, ?_⟩, fun h' => absurd h7 (of_decide_eq_false h')⟩, fun h7 => ⟨fun h' => ⟨_, c31 H.toHas03 (by omega), ?_, ?_, ?_⟩, fun h' => ?_⟩⟩⟩⟩
      case refine_5 | refine_8 | refine_11 | refine_14 =>
        unfold shownQ
        first
        | rw [if_neg (by omega), if_pos (by omega)]
        | rw [if_neg (by omega), if_neg (by omega), if_pos (by omega)]
        | (have := of_decide_eq_true h'; rw [if_neg (by omega), if_neg (by omega), if_neg (by omega), if_pos (by omega)])
        | rw [if_neg (by omega), if_neg (by omega), if_neg (by omega), if_pos (by omega)]
      case refine_15 =>
        have := of_decide_eq_false h'
        unfold shownQ
        rw [if_pos (by omega)]
      all_goals (rw [maxStr_eq]; simp only [List.length_append, List.length_cons, List.length_nil]; omega)
    unfold T259_0
    refine ⟨_, c263 H, by omega, _, wordsQ_at (by omega) k8, fun h => t1 _ (by rw [decide_eq_true_eq]; omega), fun h2 => ⟨fun h => t1 _ (by rw [decide_eq_true_eq]; omega), fun h4 => t1 _ (by rw [decide_eq_true_eq]; omega)⟩⟩)
  exact h
theorem c243 {q : Qry} (hk : -9223372036854775808 ≤ q.key ∧ q.key < 9223372036854775808) : Pus prog 243 [q.av] (.tup [.s (txtQ q).1, .i .i64 (txtQ q).2]) := by
  obtain ⟨x, y, ⟨rfl, rfl⟩, h⟩ := p243 H.f243 (q0 := q) (K := fun x y => x = (txtQ q).1 ∧ y = (txtQ q).2) (by
    unfold T243_0 T243_1
    refine ⟨_, c247 H q, fun h => ?_, fun h => ?_⟩
    · have h' : ¬okQ q = true := fun e => h (chkQ_iff.2 e)
      unfold txtQ chkQ
      rw [if_neg h', if_neg h']
      exact ⟨rfl, rfl⟩
    have ho : okQ q = true := chkQ_iff.1 (Decidable.not_not.1 h)
    have et : txtQ q = (shownQ q, 0) := by unfold txtQ; rw [if_pos ho]
    rw [et]
    obtain ⟨k1, k8, _, hg, hk', hn⟩ := okQ_iff.1 ho
    have l1 := word_len (k := q.kind)
    have l2 := num_len q.g
    have l3 := num_len q.k
    have l4 := num_len q.key
    have l5 := quo_len q.name
    have t4 : ∀ t, q.kind ≠ 1 → q.kind ≠ 3 → q.kind ≠ 6 → (t = true ↔ q.kind = 7 ∨ q.kind = 8) → T243_4 prog (fun x y => x = shownQ q ∧ y = 0) (wordM q.kind) t q := fun t h1 h3 h6 ht => by
      unfold T243_4 T243_3
      have eq : quoR q.name = (quo q.name, 0) := by unfold quoR; rw [if_neg (by omega)]
      refine ⟨fun h => ⟨_, _, c11 H.toHas03 q.name, fun h' => ?_, fun _ => ⟨?_, ?_, ?_, rfl⟩⟩, fun h => ⟨_, c258 H (by omega) (by omega), ?_, ?_, ?_, rfl⟩⟩
      case refine_1 => rw [eq] at h'; exact absurd rfl h'
      case refine_4 =>
        have := ht.1 h
        unfold shownQ
        rw [if_neg h1, if_neg h3, if_neg h6, if_pos this, eq]
      case refine_7 =>
        have : ¬(q.kind = 7 ∨ q.kind = 8) := fun h' => by rw [ht.2 h'] at h; cases h
        unfold shownQ
        rw [if_neg h1, if_neg h3, if_neg h6, if_neg this]
      all_goals (rw [maxStr_eq]; (try rw [eq]); simp only [List.length_append, List.length_cons, List.length_nil]; omega)
    unfold T243_2
    refine ⟨fun h1 => ?_, fun h1 => ⟨fun h3 => ⟨_, c258 H (by omega) (by omega), ?_, ?_, _, c258 H (by omega) (by omega), ?_, ?_, ?_⟩, fun h3 => ⟨fun h6 => ⟨_, c15 H.toHas03 hk.1 hk.2, ?_, ?_, ?_⟩, fun h6 => ⟨fun h7 => t4 _ h1 h3 h6 (by rw [decide_eq_true_eq]; omega), fun h7 => t4 _ h1 h3 h6 (by rw [decide_eq_true_eq]; omega)⟩⟩⟩⟩
    case refine_1 =>
      unfold T243_3 shownQ
      rw [if_pos h1]
      exact ⟨rfl, rfl⟩
    case refine_6 =>
      unfold T243_3 shownQ
      rw [if_neg h1, if_pos h3]
      exact ⟨rfl, rfl⟩
    case refine_9 =>
      unfold T243_3 shownQ
      rw [if_neg h1, if_neg h3, if_pos h6]
      exact ⟨rfl, rfl⟩
    all_goals (rw [maxStr_eq]; simp only [List.length_append, List.length_cons, List.length_nil]; omega))
  exact h
theorem c244 {q : Qry} (hk : -9223372036854775808 ≤ q.key ∧ q.key < 9223372036854775808) : Pus prog 244 [q.av] (.tup [.s (txtQ q).1, .i .i64 (txtQ q).2]) := by
  obtain ⟨x, y, ⟨rfl, rfl⟩, h⟩ := p244 H.f244 (q0 := q) (K := fun x y => x = (txtQ q).1 ∧ y = (txtQ q).2) (by
    unfold T244_0
    refine ⟨_, c248 H q, fun h => ?_, fun h => ?_⟩
    · have h' : ¬okQ q = true := fun e => h (chkQ_iff.2 e)
      unfold txtQ chkQ
      rw [if_neg h', if_neg h']
      exact ⟨rfl, rfl⟩
    have ho : okQ q = true := chkQ_iff.1 (Decidable.not_not.1 h)
    have et : txtQ q = (shownQ q, 0) := by unfold txtQ; rw [if_pos ho]
    rw [et]
    exact ⟨_, c259 H (okQ_iff.1 ho) hk, rfl, rfl⟩)
  exact h
theorem c245 (s : Bytes) : Pus prog 245 [.s s] (.tup [(rdTQ s).1.av, .i .i64 (rdTQ s).2]) := by
  obtain ⟨x, y, ⟨rfl, rfl⟩, h⟩ := p245 H.f245 (s0 := s) (K := fun x y => x = (rdTQ s).1 ∧ y = (rdTQ s).2) (by
    unfold T245_0
    refine ⟨fun h => ?_, fun h => ?_⟩
    · unfold rdTQ
      rw [if_pos (by omega)]
      exact ⟨rfl, rfl⟩
    have hl : ¬2000 < s.length := by omega
    have hr : (cutS s).2.1.length ≤ 1000000000 := by unfold cutS; split <;> simp <;> omega
    have no : ¬((gotQ s).2 = true ∧ okQ (gotQ s).1 = true ∧ shownQ (gotQ s).1 = s) → rdTQ s = (qz, 12) := fun h => by
      unfold rdTQ
      rw [if_neg hl, if_neg h]
    refine ⟨_, _, _, c260 H (by omega), _, c257 H, _, _, c261 H hr, fun h => ?_, fun h => ⟨_, _, c243 H (gotQ_key s), fun h' => ?_, fun h' => ⟨fun h2 => ?_, fun h2 => ?_⟩⟩⟩
    · have h : (!(gotQ s).2) = true := h
      rw [no fun h' => by rw [h'.1] at h; cases h]
      exact ⟨rfl, rfl⟩
    · have h' : (txtQ (gotQ s).1).2 ≠ 0 := h'
      rw [no fun h2 => by unfold txtQ at h'; rw [if_pos h2.2.1] at h'; exact h' rfl]
      exact ⟨rfl, rfl⟩
    · have h' : ¬(txtQ (gotQ s).1).2 ≠ 0 := h'
      have h2 : (txtQ (gotQ s).1).1 ≠ s := h2
      rw [no fun h3 => by unfold txtQ at h2; rw [if_pos h3.2.1] at h2; exact h2 h3.2.2]
      exact ⟨rfl, rfl⟩
    · have h : (!(gotQ s).2) = false := h
      have h' : ¬(txtQ (gotQ s).1).2 ≠ 0 := h'
      have h2 : ¬(txtQ (gotQ s).1).1 ≠ s := h2
      have ho : okQ (gotQ s).1 = true := by
        rcases Bool.eq_false_or_eq_true (okQ (gotQ s).1) with e | e
        · exact e
        · unfold txtQ at h'
          rw [e] at h'
          exact absurd (show (8 : Int) ≠ 0 by decide) h'
      unfold txtQ at h2
      rw [if_pos ho] at h2
      unfold rdTQ
      rw [if_neg hl, if_pos ⟨by simpa using h, ho, Decidable.not_not.1 h2⟩]
      exact ⟨rfl, rfl⟩)
  exact h
theorem c246 (s : Bytes) : Pus prog 246 [.s s] (.tup [(rdTQ s).1.av, .i .i64 (rdTQ s).2]) := by
  obtain ⟨x, y, ⟨rfl, rfl⟩, h⟩ := p246 H.f246 (s0 := s) (K := fun x y => x = (rdTQ s).1 ∧ y = (rdTQ s).2) (by
    unfold T246_0 T246_1
    refine ⟨fun h => ?_, fun h => ?_⟩
    · unfold rdTQ
      rw [if_pos (by omega)]
      exact ⟨rfl, rfl⟩
    have hl : ¬2000 < s.length := by omega
    have hr : (cutS s).2.1.length ≤ 1000000000 := by unfold cutS; split <;> simp <;> omega
    unfold T246_2
    refine ⟨_, _, c262 H (by omega), ?_⟩
    unfold T246_3 T246_4
    intro P0 hP
    refine loop_inv0 (P := fun i => P0 (i + 1) qz) 8 (fun i => ∀ k : Int, 1 ≤ k → k ≤ i → wordM k = (cutS s).1 → okQ (refQ k (cutS s).2.1) = true → shownQ (refQ k (cutS s).2.1) = s → False) (fun k h1 h0 => by omega) (fun hI => hP _ _ ?_) fun i hi hI next => hP _ _ ?_
    · unfold T246_5 T246_13
      refine ⟨fun h => absurd h (by omega), fun _ => ?_⟩
      rw [ref_none hl hI]
      exact ⟨rfl, rfl⟩
    have nx : ∀ kk : Int, kk = (i : Int) + 1 → ¬(wordM kk = (cutS s).1 ∧ okQ (refQ kk (cutS s).2.1) = true ∧ shownQ (refQ kk (cutS s).2.1) = s) → T246_7 prog (fun x y => x = (rdTQ s).1 ∧ y = (rdTQ s).2) P0 s (cutS s).1 (cutS s).2.1 kk qz := fun kk hkk hn => by
      unfold T246_7
      rw [hkk, wr_u8 (by omega) (by omega)]
      refine next fun k h1 h2 => ?_
      by_cases e : k = (i : Int) + 1
      · rw [← hkk] at e
        subst e
        exact fun a b c => hn ⟨a, b, c⟩
      · exact hI k h1 (by have h2 : k ≤ ((i + 1 : Nat) : Int) := h2; omega)
    generalize hkk : (i : Int) + 1 = kk
    have nx := nx kk hkk.symm
    have k1 : 1 ≤ kk := by omega
    have k8 : kk ≤ 8 := by omega
    unfold T246_5 T246_6
    refine ⟨fun _ => ⟨_, c263 H, by omega, _, wordsQ_at (by omega) k8, fun hne => nx fun h' => hne h'.1, fun he => ?_⟩, fun h => absurd k8 h⟩
    have t11 : ∀ m, m = refQ kk (cutS s).2.1 → T246_11 prog (fun x y => x = (rdTQ s).1 ∧ y = (rdTQ s).2) P0 s (cutS s).1 (cutS s).2.1 kk qz m := fun m hm => by
      unfold T246_11
      have hky := refQ_key kk (cutS s).2.1
      rw [← hm] at hky
      rw [← hm] at nx
      refine ⟨_, c248 H m, fun h => ⟨_, c259 H (okQ_iff.1 (chkQ_iff.1 h)) hky, fun e => ?_, fun e => nx fun h' => e h'.2.2⟩, fun h => nx fun h' => h (chkQ_iff.2 h'.2.1)⟩
      rw [ref_found hl (chkQ_iff.1 h) hky e]
      exact ⟨rfl, rfl⟩
    have t10 : ∀ t, (t = true ↔ kk = 2 ∨ kk = 4 ∨ kk = 5 ∨ kk = 3) → T246_10 prog (fun x y => x = (rdTQ s).1 ∧ y = (rdTQ s).2) P0 s (cutS s).1 (cutS s).2.1 kk kk t qz ⟨kk, 0, 0, 0, []⟩ := fun t ht => by
      unfold T246_10
      refine ⟨fun h => ⟨_, _, c262 H hr, _, _, c22 H.toHas03 _, fun h3 => ⟨_, _, c22 H.toHas03 _, t11 _ ?_⟩, fun h3 => t11 _ ?_⟩, fun h => ?_⟩
      · unfold refQ
        rw [if_neg (by omega), if_pos h3]
      · have := ht.1 h
        unfold refQ
        rw [if_pos (by omega)]
      have hg : ¬(kk = 2 ∨ kk = 4 ∨ kk = 5 ∨ kk = 3) := fun h' => by rw [ht.2 h'] at h; cases h
      have t12 : ∀ t, (t = true ↔ kk = 7 ∨ kk = 8) → kk ≠ 6 → T246_12 prog (fun x y => x = (rdTQ s).1 ∧ y = (rdTQ s).2) P0 s (cutS s).1 (cutS s).2.1 kk t qz ⟨kk, 0, 0, 0, []⟩ := fun t ht h6 => by
        unfold T246_12
        refine ⟨fun h => ⟨_, _, c26 H.toHas03 _, t11 _ ?_⟩, fun h => t11 _ ?_⟩
        · have := ht.1 h
          unfold refQ
          rw [if_neg (by omega), if_neg (by omega), if_neg (by omega), if_pos this]
        · have : ¬(kk = 7 ∨ kk = 8) := fun h' => by rw [ht.2 h'] at h; cases h
          unfold refQ
          rw [if_neg (by omega), if_neg (by omega), if_neg (by omega), if_neg this]
      refine ⟨fun h6 => ⟨_, _, c22 H.toHas03 _, t11 _ ?_⟩, fun h6 => ⟨fun h7 => t12 _ (by rw [decide_eq_true_eq]; omega) h6, fun h7 => t12 _ (by rw [decide_eq_true_eq]; omega) h6⟩⟩
      unfold refQ
      rw [if_neg (by omega), if_neg (by omega), if_pos h6]
    unfold T246_8 T246_9
    exact ⟨fun h => t10 _ (by rw [decide_eq_true_eq]; omega), fun h2 => ⟨fun h => t10 _ (by rw [decide_eq_true_eq]; omega), fun h4 => ⟨fun h => t10 _ (by rw [decide_eq_true_eq]; omega), fun h5 => t10 _ (by rw [decide_eq_true_eq]; omega)⟩⟩⟩)
  exact h
theorem law240 (hf : prog.fn 240 = some pf240) {q : Qry} {s : Bytes} (hk : -9223372036854775808 ≤ q.key ∧ q.key < 9223372036854775808) : Pus prog 240 [q.av, .s s] (.b true) := by
  obtain ⟨x, rfl, h⟩ := p240 hf (q0 := q) (s1 := s) (K := fun x => x = true) (by
    unfold T240_0 T240_1 T240_2
    refine ⟨fun _ => rfl, fun _ => ⟨fun _ => rfl, fun _ => ⟨_, _, c243 H hk, _, _, c244 H hk, _, _, c245 H s, _, _, c246 H s, _, c247 H q, _, c248 H q, fun _ => ⟨fun _ => ⟨fun _ => ⟨fun _ => decide_eq_true rfl, fun h => ?_⟩, fun h => absurd rfl h⟩, fun h => absurd rfl h⟩, fun h => absurd rfl h⟩⟩⟩
    have : eqQ (rdTQ s).1 (rdTQ s).1 = true := eqQ_iff.2 rfl
    unfold eqQ at this
    rw [this] at h
    cases h)
  exact h
end
end Go.AM

/- The statement QueryTexts: for every input the law returns true, and each argument reads afterwards as before. No conditions. -/
namespace Go.Proofs.Ytbcdfamilcmjnaa.QueryTextsProof
open Go Go.AM Go.RowKit Go.ChangeShapes Go.WideShapes Go.ChangeAt

theorem ok240 : FnOk Try.prog X 3 pf240 := FnOk.of Try.func3 (by kernel_rfl) (by kernel_rfl) (by kernel_rfl) (by kernel_rfl) (by kernel_rfl)
def fns : List (Nat × AF) := [(42, pf42), (46, pf46), (36, pf36), (43, pf43), (47, pf47), (11, pf11), (15, pf15), (21, pf21), (25, pf25), (30, pf30), (34, pf34), (37, pf37), (39, pf39), (45, pf45), (16, pf16), (22, pf22), (26, pf26), (31, pf31), (35, pf35), (38, pf38), (40, pf40), (41, pf41), (44, pf44), (197, pf197), (243, pf243), (244, pf244), (245, pf245), (246, pf246), (247, pf247), (248, pf248), (258, pf258), (259, pf259), (260, pf260), (261, pf261), (262, pf262), (263, pf263), (265, pf265), (266, pf266), (267, pf267), (240, pf240)]
def prog : Prog := ⟨fnOf fns, orcQ, orsB⟩
set_option maxRecDepth 100000 in
theorem fns_ok : FnsOk Try.prog X fns fms :=
  And.intro (fun F h => noneF (show (none : Option AF) = some F from h)) (
  And.intro (fun F h => Option.some.inj (show some pf240 = some F from h) ▸ ok240) (
  And.intro (fun F h => noneF (show (none : Option AF) = some F from h)) (
  And.intro (fun F h => noneF (show (none : Option AF) = some F from h)) (
  And.intro (fun F h => Option.some.inj (show some pf243 = some F from h) ▸ ok243) (
  And.intro (fun F h => Option.some.inj (show some pf244 = some F from h) ▸ ok244) (
  And.intro (fun F h => Option.some.inj (show some pf245 = some F from h) ▸ ok245) (
  And.intro (fun F h => Option.some.inj (show some pf246 = some F from h) ▸ ok246) (
  And.intro (fun F h => Option.some.inj (show some pf247 = some F from h) ▸ ok247) (
  And.intro (fun F h => Option.some.inj (show some pf248 = some F from h) ▸ ok248) (
  And.intro (fun F h => noneF (show (none : Option AF) = some F from h)) (
  And.intro (fun F h => noneF (show (none : Option AF) = some F from h)) (
  And.intro (fun F h => noneF (show (none : Option AF) = some F from h)) (
  And.intro (fun F h => noneF (show (none : Option AF) = some F from h)) (
  And.intro (fun F h => noneF (show (none : Option AF) = some F from h)) (
  And.intro (fun F h => noneF (show (none : Option AF) = some F from h)) (
  And.intro (fun F h => noneF (show (none : Option AF) = some F from h)) (
  And.intro (fun F h => noneF (show (none : Option AF) = some F from h)) (
  And.intro (fun F h => noneF (show (none : Option AF) = some F from h)) (
  And.intro (fun F h => Option.some.inj (show some pf258 = some F from h) ▸ ok258) (
  And.intro (fun F h => Option.some.inj (show some pf15 = some F from h) ▸ ok15) (
  And.intro (fun F h => Option.some.inj (show some pf11 = some F from h) ▸ ok11) (
  And.intro (fun F h => Option.some.inj (show some pf259 = some F from h) ▸ ok259) (
  And.intro (fun F h => Option.some.inj (show some pf260 = some F from h) ▸ ok260) (
  And.intro (fun F h => Option.some.inj (show some pf261 = some F from h) ▸ ok261) (
  And.intro (fun F h => Option.some.inj (show some pf262 = some F from h) ▸ ok262) (
  And.intro (fun F h => Option.some.inj (show some pf263 = some F from h) ▸ ok263) (
  And.intro (fun F h => Option.some.inj (show some pf22 = some F from h) ▸ ok22) (
  And.intro (fun F h => Option.some.inj (show some pf26 = some F from h) ▸ ok26) (
  And.intro (fun F h => noneF (show (none : Option AF) = some F from h)) (
  And.intro (fun F h => noneF (show (none : Option AF) = some F from h)) (
  And.intro (fun F h => Option.some.inj (show some pf34 = some F from h) ▸ ok34) (
  And.intro (fun F h => Option.some.inj (show some pf30 = some F from h) ▸ ok30) (
  And.intro (fun F h => Option.some.inj (show some pf265 = some F from h) ▸ ok265) (
  And.intro (fun F h => Option.some.inj (show some pf16 = some F from h) ▸ ok16) (
  And.intro (fun F h => Option.some.inj (show some pf31 = some F from h) ▸ ok31) (
  And.intro (fun F h => Option.some.inj (show some pf266 = some F from h) ▸ ok266) (
  And.intro (fun F h => Option.some.inj (show some pf267 = some F from h) ▸ ok267) (
  And.intro (fun F h => Option.some.inj (show some pf21 = some F from h) ▸ ok21) (
  And.intro (fun F h => Option.some.inj (show some pf25 = some F from h) ▸ ok25) (
  And.intro (fun F h => Option.some.inj (show some pf38 = some F from h) ▸ ok38) (
  And.intro (fun F h => Option.some.inj (show some pf40 = some F from h) ▸ ok40) (
  And.intro (fun F h => noneF (show (none : Option AF) = some F from h)) (
  And.intro (fun F h => noneF (show (none : Option AF) = some F from h)) (
  And.intro (fun F h => noneF (show (none : Option AF) = some F from h)) (
  And.intro (fun F h => noneF (show (none : Option AF) = some F from h)) (
  And.intro (fun F h => noneF (show (none : Option AF) = some F from h)) (
  And.intro (fun F h => noneF (show (none : Option AF) = some F from h)) (
  And.intro (fun F h => noneF (show (none : Option AF) = some F from h)) (
  And.intro (fun F h => noneF (show (none : Option AF) = some F from h)) (
  And.intro (fun F h => noneF (show (none : Option AF) = some F from h)) (
  And.intro (fun F h => Option.some.inj (show some pf35 = some F from h) ▸ ok35) (
  And.intro (fun F h => Option.some.inj (show some pf41 = some F from h) ▸ ok41) (
  And.intro (fun F h => Option.some.inj (show some pf197 = some F from h) ▸ ok197) (
  And.intro (fun F h => Option.some.inj (show some pf36 = some F from h) ▸ ok36) (
  And.intro (fun F h => Option.some.inj (show some pf37 = some F from h) ▸ ok37) (
  And.intro (fun F h => Option.some.inj (show some pf39 = some F from h) ▸ ok39) (
  And.intro (fun F h => Option.some.inj (show some pf44 = some F from h) ▸ ok44) (
  And.intro (fun F h => noneF (show (none : Option AF) = some F from h)) (
  And.intro (fun F h => noneF (show (none : Option AF) = some F from h)) (
  And.intro (fun F h => noneF (show (none : Option AF) = some F from h)) (
  And.intro (fun F h => noneF (show (none : Option AF) = some F from h)) (
  And.intro (fun F h => noneF (show (none : Option AF) = some F from h)) (
  And.intro (fun F h => noneF (show (none : Option AF) = some F from h)) (
  And.intro (fun F h => Option.some.inj (show some pf47 = some F from h) ▸ ok47) (
  And.intro (fun F h => noneF (show (none : Option AF) = some F from h)) (
  And.intro (fun F h => noneF (show (none : Option AF) = some F from h)) (
  And.intro (fun F h => Option.some.inj (show some pf42 = some F from h) ▸ ok42) (
  And.intro (fun F h => Option.some.inj (show some pf43 = some F from h) ▸ ok43) (
  And.intro (fun F h => Option.some.inj (show some pf45 = some F from h) ▸ ok45) (
  And.intro (fun F h => noneF (show (none : Option AF) = some F from h)) (
  And.intro (fun F h => noneF (show (none : Option AF) = some F from h)) (
  And.intro (fun F h => noneF (show (none : Option AF) = some F from h)) (
  And.intro (fun F h => noneF (show (none : Option AF) = some F from h)) (
  And.intro (fun F h => noneF (show (none : Option AF) = some F from h)) (
  And.intro (fun F h => noneF (show (none : Option AF) = some F from h)) (
  And.intro (fun F h => noneF (show (none : Option AF) = some F from h)) (
  And.intro (fun F h => noneF (show (none : Option AF) = some F from h)) (
  And.intro (fun F h => noneF (show (none : Option AF) = some F from h)) (
  And.intro (fun F h => noneF (show (none : Option AF) = some F from h)) (
  And.intro (fun F h => noneF (show (none : Option AF) = some F from h)) (
  And.intro (fun F h => noneF (show (none : Option AF) = some F from h)) (
  And.intro (fun F h => noneF (show (none : Option AF) = some F from h)) (
  And.intro (fun F h => noneF (show (none : Option AF) = some F from h)) (
  And.intro (fun F h => noneF (show (none : Option AF) = some F from h)) (
  And.intro (fun F h => noneF (show (none : Option AF) = some F from h)) (
  And.intro (fun F h => noneF (show (none : Option AF) = some F from h)) (
  And.intro (fun F h => Option.some.inj (show some pf46 = some F from h) ▸ ok46) (
  And.intro (fun F h => noneF (show (none : Option AF) = some F from h)) (
  And.intro (fun F h => noneF (show (none : Option AF) = some F from h)) (
  And.intro (fun F h => noneF (show (none : Option AF) = some F from h)) (
  And.intro (fun F h => noneF (show (none : Option AF) = some F from h)) (
  And.intro (fun F h => noneF (show (none : Option AF) = some F from h)) (
  And.intro (fun F h => noneF (show (none : Option AF) = some F from h)) (
  And.intro (fun F h => noneF (show (none : Option AF) = some F from h)) (
  And.intro (fun F h => noneF (show (none : Option AF) = some F from h)) (
  And.intro (fun F h => noneF (show (none : Option AF) = some F from h)) (
  And.intro (fun F h => noneF (show (none : Option AF) = some F from h)) (
  And.intro (fun F h => noneF (show (none : Option AF) = some F from h)) (
  And.intro (fun F h => noneF (show (none : Option AF) = some F from h)) (
  And.intro (fun F h => noneF (show (none : Option AF) = some F from h)) (
  And.intro (fun F h => noneF (show (none : Option AF) = some F from h)) (
  And.intro (fun F h => noneF (show (none : Option AF) = some F from h)) (
  And.intro (fun F h => noneF (show (none : Option AF) = some F from h)) (
  And.intro (fun F h => noneF (show (none : Option AF) = some F from h)) (
  And.intro (fun F h => noneF (show (none : Option AF) = some F from h)) (
  And.intro (fun F h => noneF (show (none : Option AF) = some F from h)) (
  And.intro (fun F h => noneF (show (none : Option AF) = some F from h)) (trivial))))))))))))))))))))))))))))))))))))))))))))))))))))))))))))))))))))))))))))))))))))))))))))))))))))))))))))
theorem o48_ok : OracOk Try.prog X { fn := fnOf fns, orac := orc48 48 } := orc48_ok (f0 := 88) (fun f h => by have := fm_inv h; simpa [fms] using this) Try.func88 (by kernel_rfl) (by kernel_rfl) (by kernel_rfl) (by kernel_rfl)
theorem orac_ok : OracOk Try.prog X prog := orcQ_ok (orcB_ok o48_ok (f0 := 108) (fun f h => by have := fm_inv h; simpa [fms] using this) Try.func108 (by kernel_rfl) (by kernel_rfl) (by kernel_rfl) (by kernel_rfl)) (f0 := 20) (fun f h => by have := fm_inv h; simpa [fms] using this) words_enter
theorem orsB_ok : OracSOk Try.prog X prog := Go.AM.orsB_ok Try.lays169 Try.extraB (fun f h => by have := fm_inv h; have e : f = 87 := (by simpa [fms] using this); exact e) (by kernel_rfl) (by kernel_rfl) Try.func87 (by kernel_rfl) rfl
def tl : List Nat := [2, 3, 5, 9, 23]
theorem at_ : LawAt Try.prog X prog tl := ⟨tab_ok tys_ok, by kernel_rfl, prog_ok fns_ok.all rfl, orac_ok, orsB_ok, by
    intro t ht
    exact (show ∀ t ∈ tl, okTy X.T tl t = true by decide) t (by simpa using ht)⟩
set_option maxRecDepth 100000 in
theorem has : HasU prog := { f42 := by kernel_rfl, f46 := by kernel_rfl, f36 := by kernel_rfl, f43 := by kernel_rfl, f47 := by kernel_rfl, f11 := by kernel_rfl, f15 := by kernel_rfl, f21 := by kernel_rfl, f25 := by kernel_rfl, f30 := by kernel_rfl, f34 := by kernel_rfl, f37 := by kernel_rfl, f39 := by kernel_rfl, f45 := by kernel_rfl, f16 := by kernel_rfl, f22 := by kernel_rfl, f26 := by kernel_rfl, f31 := by kernel_rfl, f35 := by kernel_rfl, f38 := by kernel_rfl, f40 := by kernel_rfl, f41 := by kernel_rfl, f44 := by kernel_rfl, f197 := by kernel_rfl, f243 := by kernel_rfl, f244 := by kernel_rfl, f245 := by kernel_rfl, f246 := by kernel_rfl, f247 := by kernel_rfl, f248 := by kernel_rfl, f258 := by kernel_rfl, f259 := by kernel_rfl, f260 := by kernel_rfl, f261 := by kernel_rfl, f262 := by kernel_rfl, f263 := by kernel_rfl, f265 := by kernel_rfl, f266 := by kernel_rfl, f267 := by kernel_rfl, f48 := rfl, o48 := orcQ_48, f257 := rfl, o257 := orcQ_257 }
theorem own : ownKnob Try.prog.godebug = none := by kernel_rfl
theorem laidOut : laidOutB Try.prog = true := by kernel_rfl
theorem typed (avs : List AV) (h : ArgsOk X.T [23, 9] avs) : Pus prog 240 avs (.b true) := by
  match avs, h with
  | [a, b], ⟨h1, h2, _⟩ =>
    obtain ⟨q, rfl, hq⟩ := ArgOk.isQry tyQry h1
    obtain ⟨s, rfl, _⟩ := ArgOk.str (i := _) rfl rfl h2
    exact law240 has rfl hq.key

set_option maxRecDepth 100000 in
theorem lifted (os : Os) (started : os.Started) (H : Type) (enc : TypeId × Value → H) :
    ReturnsInHanded {} Try.checked os 3 .any (Rows.queryTextsSpec.pre6 enc Try.prog Try.f3 Rows.queryTextsRow.domain false) (Rows.queryTextsSpec.post enc Try.prog Try.f3 false true false false) := by
  refine returnsInHanded_of_change (C := Try.checked) own started (by kernel_rfl) Try.func3
    (ChangeSpec.witness6 (enc := enc) (C := Try.checked) false ⟨#[], #[.agg #[.int .u8 0, .int .i64 0, .int .i64 0, .int .i64 0, .string ⟨#[]⟩], .string ⟨#[]⟩], []⟩ 8 (by kernel_rfl) (by kernel_rfl) (by kernel_rfl) (by kernel_rfl)) ?_
  intro W base args ds gs before hval0 hW hcnd _
  have hval : ∀ (j : Nat) t v, Try.f3.params[j]? = some t → args[j]? = some v → Value.okWide Try.prog W .any base t v := hval0
  have hW' := hW
  obtain ⟨p, q, hA0, hV, rfl, hfz, hnd⟩ := hW
  have hA : DataW.TrodAll enc Try.prog W 0 (fun _ => true) true Try.f3.params.toList args.toList ds p := hA0
  rw [Try.params3] at hA hval
  obtain ⟨rfl, rfl⟩ := trodVars_none hV
  obtain ⟨avs, hR, hok⟩ := args_read at_.T at_.types (ts := [23, 9]) (by decide) (fun j t v h1 h2 => hval j t v (by simpa using h1) (by simpa using h2)) hA
  have hlt := args_lt hA
  have hlen := trod_len hA
  refine (law_calls at_ (f := 3) (c := 240) rfl (ok240.enters _ _) hR (typed avs hok)).mono fun e W' ⟨he, bel⟩ => ?_
  subst he
  have hB := args_below laidOut bel (by kernel_rfl) hA hlt
  obtain ⟨d0, d1, rfl⟩ := ds2 hlen
  exact ⟨_, rfl, _, _, _, [], _, [], hW', trodAll_mk1 (shut_bool Try.underlying4 _), hB, rfl, bel.frame _, fun h => by cases h⟩

theorem over : Rows.queryTextsRow.holds Try.pinned (OpenSpec.ofChange Rows.queryTextsSpec) :=
  OpenClaim.holds_of_wide 3 Try.f3 rfl rfl rfl rfl rfl rfl rfl ⟨rfl, rfl, rfl, rfl, rfl⟩ rfl rfl rfl rfl rfl (by kernel_rfl) Try.func3 (by kernel_rfl)
    (of_decide_eq_true (by kernel_rfl)) (by unfold Func.isWrapper; rw [if_neg (of_decide_eq_false (by kernel_rfl))]; exact ⟨rfl, rfl⟩)
    (fun os started H enc _ => lifted os started H enc)

/-- The statement. -/
theorem proved : Rows.QueryTextsSaid := over
#print axioms proved
end Go.Proofs.Ytbcdfamilcmjnaa.QueryTextsProof
