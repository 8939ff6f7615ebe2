/- Chapter 03: what its functions return. -/
import Derived.Test.YtdfkdendkdbnkaaV03
import Derived.Test.YtdfkdendkdbnkaaU03a
import Derived.Test.YtdfkdendkdbnkaaU03b
set_option linter.all false
namespace Go.AM
open Go

structure Has03 (prog : Prog) : Prop where
  f42 : prog.fn 42 = some pf42
  f46 : prog.fn 46 = some pf46
  f36 : prog.fn 36 = some pf36
  f43 : prog.fn 43 = some pf43
  f47 : prog.fn 47 = some pf47
  f11 : prog.fn 11 = some pf11
  f13 : prog.fn 13 = some pf13
  f15 : prog.fn 15 = some pf15
  f17 : prog.fn 17 = some pf17
  f21 : prog.fn 21 = some pf21
  f23 : prog.fn 23 = some pf23
  f25 : prog.fn 25 = some pf25
  f27 : prog.fn 27 = some pf27
  f30 : prog.fn 30 = some pf30
  f32 : prog.fn 32 = some pf32
  f34 : prog.fn 34 = some pf34
  f37 : prog.fn 37 = some pf37
  f39 : prog.fn 39 = some pf39
  f45 : prog.fn 45 = some pf45
  f10 : prog.fn 10 = some pf10
  f12 : prog.fn 12 = some pf12
  f14 : prog.fn 14 = some pf14
  f16 : prog.fn 16 = some pf16
  f18 : prog.fn 18 = some pf18
  f20 : prog.fn 20 = some pf20
  f22 : prog.fn 22 = some pf22
  f24 : prog.fn 24 = some pf24
  f26 : prog.fn 26 = some pf26
  f28 : prog.fn 28 = some pf28
  f29 : prog.fn 29 = some pf29
  f31 : prog.fn 31 = some pf31
  f33 : prog.fn 33 = some pf33
  f35 : prog.fn 35 = some pf35
  f38 : prog.fn 38 = some pf38
  f40 : prog.fn 40 = some pf40
  f41 : prog.fn 41 = some pf41
  f44 : prog.fn 44 = some pf44
  f48 : prog.fn 48 = none
  o48 : ∀ (s : Bytes) (c : UInt8), prog.orac 48 [.s s, .i .u8 (c.toNat : Int)] = some (.i .i64 (Lib.indexByte s c))

section
variable {prog : Prog} (H : Has03 prog)
include H

theorem c41 (c : UInt8) : Pus prog 41 [.i .u8 (c.toNat : Int)] (.s (chr c)) := by
  have hc := c.toNat_lt
  have hq : (c.toNat : Int).tdiv 16 = ((c.toNat / 16 : Nat) : Int) := by rw [Int.tdiv_eq_ediv_of_nonneg (by omega)]; omega
  have hr : (c.toNat : Int).tmod 16 = ((c.toNat % 16 : Nat) : Int) := by rw [Int.tmod_eq_emod_of_nonneg (by omega)]; omega
  have w1 : IntKind.u8.wrap ((c.toNat / 16 : Nat) : Int) = ((c.toNat / 16 : Nat) : Int) := wr_u8 (by omega) (by omega)
  have w2 : IntKind.u8.wrap (((c.toNat / 16 : Nat) : Int) + 1) = ((c.toNat / 16 + 1 : Nat) : Int) := by rw [wr_u8 (by omega) (by omega)]; omega
  have w3 : IntKind.u8.wrap (((c.toNat % 16 : Nat) : Int) + 1) = ((c.toNat % 16 + 1 : Nat) : Int) := by rw [wr_u8 (by omega) (by omega)]; omega
  have t1 := hexd_take (n := c.toNat / 16) (by omega) rfl
  have t2 := hexd_take (n := c.toNat % 16) (by omega) rfl
  obtain ⟨x, rfl, h⟩ := p41 H.f41 (c0 := (c.toNat : Int)) (K := fun x => x = chr c) (by
    unfold T41_0
    simp only [hq, hr, w1, w2, w3, toNat_cast, t1, t2, List.length_cons, List.length_nil, maxStr_eq, List.length_append]
    refine ⟨fun h => ⟨c, rfl, ?_⟩, fun h => ⟨fun h2 => ⟨c, rfl, ?_⟩, fun h2 => ⟨fun h3 => ?_, fun h3 => ⟨fun h4 => ⟨fun h5 => ⟨c, rfl, ?_⟩, fun h5 => ?_⟩, fun h4 => ?_⟩⟩⟩⟩
    · unfold chr; rw [if_pos (by omega)]
    · unfold chr; rw [if_pos (by omega)]
    · unfold chr; rw [if_neg (by omega), if_pos (by omega)]
    · unfold chr; rw [if_neg (by omega), if_neg (by omega), if_neg (by omega)]
    · refine ⟨by omega, by omega, by omega, by omega, by omega, by omega, by omega, by omega, ?_⟩
      unfold chr; rw [if_neg (by omega), if_neg (by omega), if_pos (by omega)]
      rfl
    · refine ⟨by omega, by omega, by omega, by omega, by omega, by omega, by omega, by omega, ?_⟩
      unfold chr; rw [if_neg (by omega), if_neg (by omega), if_pos (by omega)]
      rfl)
  exact h

theorem c31 {s : Bytes} (hs : s.length ≤ 10000000) : Pus prog 31 [.s s] (.s (quo s)) := by
  obtain ⟨x, rfl, h⟩ := p31 H.f31 (s0 := s) (K := fun x => x = quo s) (by
    unfold T31_0
    intro P hP
    refine loop_up (fun i => 34 :: chrs (s.take i)) s.length ?_ ?_
    · apply hP
      unfold T31_1 T31_2
      refine ⟨fun h => absurd h (by omega), fun _ => ⟨?_, ?_⟩⟩
      · have := chrs_len (s.take s.length)
        simp only [List.take_length] at this ⊢
        simp only [List.length_cons, List.length_nil, maxStr_eq]
        omega
      · simp only [List.take_length, quo]
        rfl
    · intro i hi ih
      apply hP
      unfold T31_1
      refine ⟨fun _ => ⟨by omega, s[i], by rw [toNat_cast, List.getElem?_eq_getElem hi], chr s[i], c41 H _, ?_, ?_⟩, fun h => absurd (show (i : Int) < s.length by omega) h⟩
      · have h1 := chrs_len (s.take i)
        have h2 := chr_len s[i]
        simp only [List.length_cons, List.length_take, maxStr_eq] at h1 ⊢
        omega
      · rw [wr_succ (by omega)]
        rw [chrs_take hi] at ih
        exact ih)
  exact h

theorem c30 {s b : Bytes} (hs : s.length ≤ 10000000) (hb : b.length ≤ 1000000000) : PuA prog 30 (b.map row8) [.s s] ((b ++ quo s).map row8) := by
  refine PuAK.to ?_
  have hp := p30 H.f30 (b0 := b) (s1 := s) (K := fun x => x = b ++ quo s) (by
    unfold T30_0 T30_1
    refine ⟨⟨by simp only [List.length_cons, List.length_nil, maxBytes_eq]; omega, by simp only [List.length_cons, List.length_nil, maxBytes_eq]; omega⟩, fun P hP => ?_⟩
    refine loop_up (fun i => b ++ 34 :: chrs (s.take i)) s.length ?_ ?_
    · apply hP
      unfold T30_2 T30_4
      have h1 := chrs_len (s.take s.length)
      simp only [List.take_length] at h1 ⊢
      refine ⟨fun h => absurd h (by omega), fun _ => ⟨⟨?_, ?_⟩, ?_⟩⟩
      · simp only [List.length_append, List.length_cons, List.length_nil, maxBytes_eq]; omega
      · simp only [List.length_append, List.length_cons, List.length_nil, maxBytes_eq]; omega
      · simp only [quo, List.append_assoc, List.cons_append]
    · intro i hi ih
      apply hP
      have h1 := chrs_len (s.take i)
      have hc := s[i].toNat_lt
      rw [chrs_take hi] at ih
      rw [← List.cons_append, ← List.append_assoc] at ih
      generalize hx : s[i] = c at ih hc
      have w1 : bShr .u8 (c.toNat : Int) 4 = ((c.toNat / 16 : Nat) : Int) := by
        show (c.toNat : Int).fdiv 16 = _
        rw [Int.fdiv_eq_ediv_of_nonneg _ (by omega)]; omega
      have w2 : bAnd .u8 (c.toNat : Int) 15 = ((c.toNat % 16 : Nat) : Int) := by
        unfold bAnd
        have hx : (BitVec.ofInt IntKind.u8.bits (c.toNat : Int) &&& BitVec.ofInt IntKind.u8.bits 15).toNat = c.toNat % 16 := by
          show (BitVec.ofInt 8 (c.toNat : Int) &&& BitVec.ofInt 8 15).toNat = c.toNat % 16
          rw [BitVec.toNat_and]
          have h1 : (BitVec.ofInt 8 (c.toNat : Int)).toNat = c.toNat := by
            simp
          rw [h1]
          exact Nat.and_two_pow_sub_one_eq_mod c.toNat 4
        rw [hx]
        exact wr_u8 (by omega) (by omega)
      have fit : ∀ x : Bytes, x.length ≤ 4 → Fit ((b ++ 34 :: chrs (s.take i)).length + x.length) 1 := by
        intro x hx
        simp only [List.length_take] at h1
        refine ⟨?_, ?_⟩ <;> (simp only [List.length_append, List.length_cons, maxBytes_eq]; omega)
      unfold T30_2 T30_3
      rw [wr_succ (by omega)]
      refine ⟨fun _ => ⟨by omega, c, by rw [toNat_cast, List.getElem?_eq_getElem hi, hx], ?_⟩, fun h => absurd (show (i : Int) < s.length by omega) h⟩
      simp only [w1, w2, toNat_cast, hexd_get (show c.toNat / 16 < 16 by omega), hexd_get (show c.toNat % 16 < 16 by omega), Option.some.injEq, exists_eq_left']
      unfold chr at ih
      refine ⟨fun h2 => ⟨fit _ (by simp), ?_⟩, fun h2 => ⟨fun h3 => ⟨fit _ (by simp), ?_⟩, fun h3 => ⟨fun h4 => ⟨fit _ (by simp), ?_⟩, fun h4 => ⟨fun h5 => ⟨by omega, by omega, fit _ (by simp), ?_⟩, fun h5 => ⟨fun h6 => ⟨by omega, by omega, fit _ (by simp), ?_⟩, fun h6 => ⟨fit _ (by simp), ?_⟩⟩⟩⟩⟩⟩
      · rwa [if_pos (by omega)] at ih
      · rwa [if_pos (by omega)] at ih
      · rwa [if_neg (by omega), if_pos (by omega)] at ih
      · rwa [if_neg (by omega), if_neg (by omega), if_pos (by omega)] at ih
      · rwa [if_neg (by omega), if_neg (by omega), if_pos (by omega)] at ih
      · rwa [if_neg (by omega), if_neg (by omega), if_neg (by omega)] at ih)
  intro d st o ha
  obtain ⟨o', st', rows', ⟨x, rfl, rfl⟩, h1, h2⟩ := hp d st o ha
  exact ⟨o', st', _, rfl, h1, h2⟩

theorem c11 (s : Bytes) : Pus prog 11 [.s s] (.tup [.s (quoR s).1, .i .i64 (quoR s).2]) := by
  obtain ⟨x, y, ⟨rfl, rfl⟩, h⟩ := p11 H.f11 (s0 := s) (K := fun x y => x = (quoR s).1 ∧ y = (quoR s).2) (by
    unfold T11_0 quoR
    refine ⟨fun h => ?_, fun h => ⟨_, c30 H (b := []) (s := s) (by omega) (by simp), ?_⟩⟩
    · rw [if_pos (by omega)]; exact ⟨rfl, rfl⟩
    · rw [if_neg (by omega)]; exact ⟨rfl, rfl⟩)
  exact h
theorem c12 (s : Bytes) : Pus prog 12 [.s s] (.tup [.s (quoR s).1, .i .i64 (quoR s).2]) := by
  obtain ⟨x, y, ⟨rfl, rfl⟩, h⟩ := p12 H.f12 (s0 := s) (K := fun x y => x = (quoR s).1 ∧ y = (quoR s).2) (by
    unfold T12_0 quoR
    refine ⟨fun h => ?_, fun h => ⟨_, c31 H (s := s) (by omega), ?_⟩⟩
    · rw [if_pos (by omega)]; exact ⟨rfl, rfl⟩
    · rw [if_neg (by omega)]; exact ⟨rfl, rfl⟩)
  exact h
theorem c32 {l : List Bytes} (hl : l.length ≤ 1000000000) : Pus prog 32 [.sl .ext (l.map rowS)] (.b (many l)) := by
  obtain ⟨x, rfl, h⟩ := p32 H.f32 (l0 := l) (K := fun x => x = many l) (by
    unfold T32_0
    intro P hP
    refine loop_long 400 l (fun hl i hi h => ?_) (fun hl => ?_) (fun i hi h ih => ?_)
    · apply hP
      unfold T32_1
      refine ⟨fun _ => ⟨by omega, _, by rw [toNat_cast]; exact getD_get hi, fun _ => by simp [many, hl], fun h2 => absurd h2 (by omega)⟩, fun h2 => absurd h2 (by omega)⟩
    · apply hP
      unfold T32_1 T32_2
      refine ⟨fun h => absurd h (by omega), fun _ => ?_⟩
      simp only [many, hl, Bool.false_or]
      exact decide_eq_decide.2 (by omega)
    · apply hP
      unfold T32_1
      refine ⟨fun _ => ⟨by omega, _, by rw [toNat_cast]; exact getD_get hi, fun h2 => absurd h2 (by omega), fun h2 => by rw [wr_succ (by omega)]; exact ih⟩, fun h2 => absurd h2 (by omega)⟩)
  exact h
theorem c20 {l : List Bytes} (hl : l.length ≤ 1000000000) : Pus prog 20 [.sl .ext (l.map rowS)] (.b (!many l)) := by
  obtain ⟨x, rfl, h⟩ := p20 H.f20 (l0 := l) (K := fun x => x = !many l) (by
    unfold T20_0
    intro P hP
    refine loop_long 400 l (fun hl i hi h => ?_) (fun hl => ?_) (fun i hi h ih => ?_)
    · apply hP
      unfold T20_1
      refine ⟨fun _ => ⟨by omega, _, by rw [toNat_cast]; exact getD_get hi, fun _ => by simp [many, hl], fun h2 => absurd h2 (by omega)⟩, fun h2 => absurd h2 (by omega)⟩
    · apply hP
      unfold T20_1 T20_2
      refine ⟨fun h => absurd h (by omega), fun _ => ?_⟩
      simp only [many, hl, Bool.false_or]
      rw [← decide_not]
      exact decide_eq_decide.2 (by omega)
    · apply hP
      unfold T20_1
      refine ⟨fun _ => ⟨by omega, _, by rw [toNat_cast]; exact getD_get hi, fun h2 => absurd h2 (by omega), fun h2 => by rw [wr_succ (by omega)]; exact ih⟩, fun h2 => absurd h2 (by omega)⟩)
  exact h
theorem c10 {l : List Bytes} : Pus prog 10 [.sl .ext (l.map rowS)] (.b (great l)) := by
  obtain ⟨x, rfl, h⟩ := p10 H.f10 (l0 := l) (K := fun x => x = great l) (by
    unfold T10_0
    refine ⟨fun h => by simp only [great]; rw [decide_eq_true (show 70 < l.length by omega), Bool.or_true], fun hn P hP => ?_⟩
    refine loop_long 500 l (fun hl i hi h => ?_) (fun hl => ?_) (fun i hi h ih => ?_)
    · apply hP
      unfold T10_1
      refine ⟨fun _ => ⟨by omega, _, by rw [toNat_cast]; exact getD_get hi, fun _ => by simp [great, hl], fun h2 => absurd h2 (by omega)⟩, fun h2 => absurd h2 (by omega)⟩
    · apply hP
      unfold T10_1 T10_2
      refine ⟨fun h => absurd h (by omega), fun _ => ?_⟩
      simp only [great, hl, Bool.false_or]
      exact (decide_eq_false (by omega)).symm
    · apply hP
      unfold T10_1
      refine ⟨fun _ => ⟨by omega, _, by rw [toNat_cast]; exact getD_get hi, fun h2 => absurd h2 (by omega), fun h2 => by rw [wr_succ (by omega)]; exact ih⟩, fun h2 => absurd h2 (by omega)⟩)
  exact h

theorem c13 {l : List Bytes} (hl : l.length ≤ 1000000000) : Pus prog 13 [.sl .ext (l.map rowS)] (.tup [.s (listR l).1, .i .i64 (listR l).2]) := by
  obtain ⟨x, y, ⟨rfl, rfl⟩, h⟩ := p13 H.f13 (l0 := l) (K := fun x y => x = (listR l).1 ∧ y = (listR l).2) (by
    unfold T13_0
    refine ⟨_, c32 H hl, fun h => by unfold listR; rw [if_pos h]; exact ⟨rfl, rfl⟩, fun h => ?_⟩
    obtain ⟨h1, h2⟩ := many_false.1 h
    rw [show listR l = (listed l, 0) by unfold listR; rw [if_neg (by rw [h]; decide)]]
    intro P hP
    refine loop_up (fun i => 91 :: innerQ (l.take i)) l.length ?_ ?_
    · apply hP
      unfold T13_1 T13_3
      have h3 := innerQ_len h1
      rw [List.take_length]
      refine ⟨fun h => absurd h (by omega), fun _ => ⟨⟨?_, ?_⟩, ?_, rfl⟩⟩
      · simp only [List.length_cons, List.length_nil, maxBytes_eq]; omega
      · simp only [List.length_cons, List.length_nil, maxBytes_eq]; omega
      · simp only [listed, List.cons_append]
    · intro i hi ih
      apply hP
      have h3 := innerQ_len (l := l.take i) fun x hx => h1 x (List.mem_of_mem_take hx)
      have h4 := h1 l[i] (List.getElem_mem hi)
      rw [List.length_take] at h3
      rw [innerQ_take hi] at ih
      unfold T13_1 T13_2
      refine ⟨fun _ => ⟨by omega, l[i], by rw [toNat_cast, List.getElem?_eq_getElem hi], fun h5 => ⟨⟨?_, ?_⟩, _, c30 H (s := l[i]) (by omega) ?_, ?_⟩, fun h5 => ⟨_, c30 H (s := l[i]) (by omega) ?_, ?_⟩⟩, fun h5 => absurd h5 (by omega)⟩
      · simp only [List.length_cons, List.length_nil, maxBytes_eq]; omega
      · simp only [List.length_cons, List.length_nil, maxBytes_eq]; omega
      · simp only [List.length_cons, List.length_nil, List.length_append]; omega
      · rw [wr_succ (by omega)]
        rw [if_pos (by omega)] at ih
        exact ih
      · simp only [List.length_cons]; omega
      · rw [wr_succ (by omega)]
        rw [if_neg (by omega), List.append_nil] at ih
        exact ih)
  exact h
theorem c33 {l : List Bytes} (h1 : ∀ x ∈ l, x.length ≤ 400) (h2 : l.length ≤ 64) : Pus prog 33 [.sl .ext (l.map rowS)] (.s (listed l)) := by
  obtain ⟨x, rfl, h⟩ := p33 H.f33 (l0 := l) (K := fun x => x = listed l) (by
    unfold T33_0
    intro P hP
    refine loop_up (fun i => 91 :: innerQ (l.take i)) l.length ?_ ?_
    · apply hP
      unfold T33_1 T33_3
      have h3 := innerQ_len h1
      rw [List.take_length]
      refine ⟨fun h => absurd h (by omega), fun _ => ⟨?_, ?_⟩⟩
      · simp only [List.length_cons, List.length_nil, maxStr_eq]; omega
      · simp only [listed, List.cons_append]
    · intro i hi ih
      apply hP
      have h3 := innerQ_len (l := l.take i) fun x hx => h1 x (List.mem_of_mem_take hx)
      have h4 := h1 l[i] (List.getElem_mem hi)
      have h6 := quo_len l[i]
      rw [List.length_take] at h3
      rw [innerQ_take hi] at ih
      unfold T33_1 T33_2
      refine ⟨fun _ => ⟨fun h5 => ⟨?_, by omega, l[i], by rw [toNat_cast, List.getElem?_eq_getElem hi], _, c31 H (s := l[i]) (by omega), ?_, ?_⟩, fun h5 => ⟨by omega, l[i], by rw [toNat_cast, List.getElem?_eq_getElem hi], _, c31 H (s := l[i]) (by omega), ?_, ?_⟩⟩, fun h5 => absurd h5 (by omega)⟩
      · simp only [List.length_cons, List.length_nil, maxStr_eq]; omega
      · simp only [List.length_cons, List.length_nil, List.length_append, maxStr_eq]; omega
      · rw [wr_succ (by omega)]
        rw [if_pos (by omega)] at ih
        exact ih
      · simp only [List.length_cons, maxStr_eq]; omega
      · rw [wr_succ (by omega)]
        rw [if_neg (by omega), List.append_nil] at ih
        exact ih)
  exact h
theorem c14 {l : List Bytes} (hl : l.length ≤ 1000000000) : Pus prog 14 [.sl .ext (l.map rowS)] (.tup [.s (listR l).1, .i .i64 (listR l).2]) := by
  obtain ⟨x, y, ⟨rfl, rfl⟩, h⟩ := p14 H.f14 (l0 := l) (K := fun x y => x = (listR l).1 ∧ y = (listR l).2) (by
    unfold T14_0 listR
    refine ⟨_, c20 H hl, fun h => ?_, fun h => ?_⟩
    · rw [if_pos (by simpa using h)]; exact ⟨rfl, rfl⟩
    · have h' : many l = false := by simpa using h
      obtain ⟨h1, h2⟩ := many_false.1 h'
      refine ⟨_, c33 H h1 h2, ?_⟩
      rw [if_neg (by rw [h']; decide)]; exact ⟨rfl, rfl⟩)
  exact h

theorem c34 {n b : Nat} (hb : 2 ≤ b) (hb' : b ≤ 16) (hn : n < 18446744073709551616) : Pus prog 34 [.i .u64 (n : Int), .i .u64 (b : Int)] (.s (digs b n)) := by
  obtain ⟨x, rfl, h⟩ := p34 H.f34 (n0 := (n : Int)) (base1 := (b : Int)) (K := fun x => x = digs b n) (by
    unfold T34_0
    intro P hP
    have key : ∀ f n', n' < b ^ f → 0 < f → n' < 18446744073709551616 → ∀ a : Nat, f ≤ a → a ≤ 64 → ∀ m : Bytes, m.length = 64 → (ds b f n' ++ m.drop a = digs b n) → P (n' : Int) (a : Int) m := by
      intro f
      induction f with
      | zero => intro _ _ h; exact absurd h (Nat.lt_irrefl _)
      | succ f ih =>
        intro n' hf _ hn' a ha ha' m hm hd
        apply hP
        have e1 : (n' : Int).tmod (b : Int) = ((n' % b : Nat) : Int) := by rw [Int.tmod_eq_emod_of_nonneg (by omega)]; omega
        have e2 : (n' : Int).tdiv (b : Int) = ((n' / b : Nat) : Int) := by rw [Int.tdiv_eq_ediv_of_nonneg (by omega)]; omega
        have e3 : IntKind.i64.wrap ((a : Int) - 1) = ((a - 1 : Nat) : Int) := by rw [wr_i64 (by omega) (by omega)]; omega
        have hq : n' / b ≤ n' := Nat.div_le_self _ _
        have hr : n' % b < b := Nat.mod_lt _ (by omega)
        have e4 : IntKind.u64.wrap ((n' / b : Nat) : Int) = ((n' / b : Nat) : Int) := wr_u64_nat (by omega)
        have hset : ∀ c : UInt8, (m.set (a - 1) c).drop (a - 1) = c :: m.drop a := by
          intro c
          rw [List.drop_eq_getElem_cons (by simp; omega), List.getElem_set_self, List.drop_set_of_lt (by omega), show a - 1 + 1 = a by omega]
        unfold T34_1
        simp only [e1, e2, e3, e4, toNat_cast, hset]
        refine ⟨by omega, by omega, hexd (n' % b), hexd_get (by omega), by omega, by omega, by omega, by omega, fun h => ⟨by simp [hm], by omega, by omega, ?_⟩, fun h => ?_⟩
        · rw [← hd]
          unfold ds
          have hz : n' / b = 0 := by omega
          have hlt : n' < b := by
            rcases Nat.lt_or_ge n' b with h | h
            · exact h
            · have := Nat.div_pos h (by omega); omega
          rw [if_pos hlt, Nat.mod_eq_of_lt hlt]
          rfl
        · have hz : n' / b ≠ 0 := by omega
          have hlt : ¬ n' < b := fun h => hz (Nat.div_eq_of_lt h)
          have h1 : n' / b < b ^ f := by
            rw [Nat.div_lt_iff_lt_mul (by omega)]
            rw [Nat.pow_succ] at hf
            exact hf
          have h2 : 0 < f := by
            rcases Nat.eq_zero_or_pos f with rfl | h
            · simp at h1; omega
            · exact h
          refine ih (n' / b) h1 h2 (by omega) (a - 1) (by omega) (by omega) _ (by simp [hm]) ?_
          rw [hset, ← hd]
          conv => rhs; unfold ds
          rw [if_neg hlt, List.append_assoc]
          rfl
    refine key 64 n ?_ (by omega) hn 64 (by omega) (by omega) _ (by simp) ?_
    · calc n < 2 ^ 64 := hn
        _ ≤ b ^ 64 := Nat.pow_le_pow_left hb 64
    · simp [digs])
  exact h

theorem c35 {n b : Nat} (hb : 2 ≤ b) (hb' : b ≤ 16) (hn : n < 18446744073709551616) : Pus prog 35 [.i .u64 (n : Int), .i .u64 (b : Int)] (.s (digs b n)) := by
  obtain ⟨x, rfl, h⟩ := p35 H.f35 (n0 := (n : Int)) (base1 := (b : Int)) (K := fun x => x = digs b n) (by
    unfold T35_0
    intro P hP
    have key : ∀ f n', n' < b ^ f → 0 < f → n' < 18446744073709551616 → f ≤ 64 → ∀ s : Bytes, s.length + f ≤ 64 → (ds b f n' ++ s = digs b n) → P (n' : Int) s := by
      intro f
      induction f with
      | zero => intro _ _ h; exact absurd h (Nat.lt_irrefl _)
      | succ f ih =>
        intro n' hf _ hn' hf64 s hs hd
        apply hP
        have e1 : (n' : Int).tmod (b : Int) = ((n' % b : Nat) : Int) := by rw [Int.tmod_eq_emod_of_nonneg (by omega)]; omega
        have e2 : (n' : Int).tdiv (b : Int) = ((n' / b : Nat) : Int) := by rw [Int.tdiv_eq_ediv_of_nonneg (by omega)]; omega
        have hq : n' / b ≤ n' := Nat.div_le_self _ _
        have hr : n' % b < b := Nat.mod_lt _ (by omega)
        have e4 : IntKind.u64.wrap ((n' / b : Nat) : Int) = ((n' / b : Nat) : Int) := wr_u64_nat (by omega)
        have e5 : IntKind.u64.wrap (((n' % b : Nat) : Int) + 1) = ((n' % b + 1 : Nat) : Int) := by rw [wr_u64 (by omega) (by omega)]; omega
        unfold T35_1
        refine ⟨fun h => ?_, fun h => ?_⟩
        · simp only [e1, e2, e4, e5, toNat_cast, hexd_take (show n' % b < 16 by omega) rfl, DIG_len]
          have hlt : ¬ n' < b := by omega
          refine ⟨by omega, by omega, by omega, by omega, by omega, ?_, by omega, ?_⟩
          · simp only [List.length_cons, List.length_nil, maxStr_eq]; omega
          have hz : n' / b ≠ 0 := by
            have := Nat.div_pos (show b ≤ n' by omega) (by omega); omega
          have h1 : n' / b < b ^ f := by
            rw [Nat.div_lt_iff_lt_mul (by omega)]
            rw [Nat.pow_succ] at hf
            exact hf
          have h2 : 0 < f := by
            rcases Nat.eq_zero_or_pos f with rfl | h
            · simp at h1; omega
            · exact h
          refine ih (n' / b) h1 h2 (by omega) (by omega) _ ?_ ?_
          · simp only [List.length_append, List.length_cons, List.length_nil]; omega
          · rw [← hd]
            conv => rhs; unfold ds
            rw [if_neg hlt, List.append_assoc]
        · have hlt : n' < b := by omega
          have e6 : IntKind.u64.wrap ((n' : Int) + 1) = ((n' + 1 : Nat) : Int) := by rw [wr_u64 (by omega) (by omega)]; omega
          unfold T35_2
          simp only [e6, toNat_cast, hexd_take (show n' < 16 by omega) rfl, DIG_len]
          refine ⟨by omega, by omega, by omega, ?_, ?_⟩
          · simp only [List.length_cons, List.length_nil, maxStr_eq]; omega
          · rw [← hd]
            unfold ds
            rw [if_pos hlt]
    refine key 64 n ?_ (by omega) hn (by omega) _ (by simp) ?_
    · calc n < 2 ^ 64 := hn
        _ ≤ b ^ 64 := Nat.pow_le_pow_left hb 64
    · simp [digs])
  exact h

theorem c15 {n : Int} (h1 : -9223372036854775808 ≤ n) (h2 : n < 9223372036854775808) : Pus prog 15 [.i .i64 n] (.s (num n)) := by
  obtain ⟨x, rfl, h⟩ := p15 H.f15 (n0 := n) (K := fun x => x = num n) (by
    unfold T15_0
    refine ⟨fun h => ?_, fun h => ?_⟩
    · have e : IntKind.u64.wrap (0 - (IntKind.u64.wrap n)) = (((-n).toNat : Nat) : Int) := by rw [IntKind.wrap_u64, IntKind.wrap_u64]; omega
      rw [e]
      refine ⟨_, c34 H (b := 10) (by omega) (by omega) (by omega), ?_, ?_⟩
      · have := ds_len 10 64 (-n).toNat
        simp only [digs, List.length_cons, List.length_nil, maxStr_eq]; omega
      · unfold num; rw [if_pos h]; rfl
    · have e : IntKind.u64.wrap n = ((n.toNat : Nat) : Int) := by rw [IntKind.wrap_u64]; omega
      rw [e]
      refine ⟨_, c34 H (b := 10) (by omega) (by omega) (by omega), ?_⟩
      unfold num; rw [if_neg h])
  exact h
theorem c16 {n : Int} (h1 : -9223372036854775808 ≤ n) (h2 : n < 9223372036854775808) : Pus prog 16 [.i .i64 n] (.s (num n)) := by
  obtain ⟨x, rfl, h⟩ := p16 H.f16 (n0 := n) (K := fun x => x = num n) (by
    unfold T16_0
    refine ⟨fun h => ?_, fun h => ?_⟩
    · have e : IntKind.u64.wrap n = ((n.toNat : Nat) : Int) := by rw [IntKind.wrap_u64]; omega
      rw [e]
      refine ⟨_, c35 H (b := 10) (by omega) (by omega) (by omega), ?_⟩
      unfold num; rw [if_neg (by omega)]
    · have e : IntKind.u64.wrap ((IntKind.u64.wrap (IntKind.i64.wrap (0 - (IntKind.i64.wrap (n + 1))))) + 1) = (((-n).toNat : Nat) : Int) := by
        rw [wr_i64 (z := n + 1) (by omega) (by omega), wr_i64 (by omega) (by omega), wr_u64 (z := 0 - (n + 1)) (by omega) (by omega), wr_u64 (by omega) (by omega)]; omega
      rw [e]
      refine ⟨_, c35 H (b := 10) (by omega) (by omega) (by omega), ?_, ?_⟩
      · have := ds_len 10 64 (-n).toNat
        simp only [digs, List.length_cons, List.length_nil, maxStr_eq]; omega
      · unfold num; rw [if_pos (by omega)]; rfl)
  exact h
theorem c17 {n : Nat} (hn : n < 18446744073709551616) : Pus prog 17 [.i .u64 (n : Int)] (.s (hex n)) := by
  obtain ⟨x, rfl, h⟩ := p17 H.f17 (n0 := (n : Int)) (K := fun x => x = hex n) (by
    unfold T17_0
    refine ⟨_, c34 H (b := 16) (by omega) (by omega) hn, ?_, rfl⟩
    have := ds_len 16 64 n
    simp only [digs, List.length_cons, List.length_nil, maxStr_eq]; omega)
  exact h
theorem c18 {n : Nat} (hn : n < 18446744073709551616) : Pus prog 18 [.i .u64 (n : Int)] (.s (hex n)) := by
  obtain ⟨x, rfl, h⟩ := p18 H.f18 (n0 := (n : Int)) (K := fun x => x = hex n) (by
    unfold T18_0
    refine ⟨_, c35 H (b := 16) (by omega) (by omega) hn, ?_, rfl⟩
    have := ds_len 16 64 n
    simp only [digs, List.length_cons, List.length_nil, maxStr_eq]; omega)
  exact h
end
end Go.AM
