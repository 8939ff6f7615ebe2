/- The statement LinesValues: for every input the law returns true, and each argument reads afterwards as before. No conditions. -/
import Derived.Test.YtcojcdpoeaaigaaG7
import Derived.Test.YtcojcdpoeaaigaaG3
import Derived.Test.YtcojcdpoeaaigaaG4
import Derived.Test.YtcojcdpoeaaigaaG5
import Derived.Test.YtcojcdpoeaaigaaG6
set_option linter.all false
/- Chapter 03: what its functions return. -/
namespace Go.AM
open Go

structure Has03 (prog : Prog) : Prop where
  f42 : prog.fn 42 = some pf42
  f46 : prog.fn 46 = some pf46
  f36 : prog.fn 36 = some pf36
  f43 : prog.fn 43 = some pf43
  f47 : prog.fn 47 = some pf47
  f11 : prog.fn 11 = some pf11
  f13 : prog.fn 13 = some pf13
  f15 : prog.fn 15 = some pf15
  f17 : prog.fn 17 = some pf17
  f21 : prog.fn 21 = some pf21
  f23 : prog.fn 23 = some pf23
  f25 : prog.fn 25 = some pf25
  f27 : prog.fn 27 = some pf27
  f30 : prog.fn 30 = some pf30
  f32 : prog.fn 32 = some pf32
  f34 : prog.fn 34 = some pf34
  f37 : prog.fn 37 = some pf37
  f39 : prog.fn 39 = some pf39
  f45 : prog.fn 45 = some pf45
  f10 : prog.fn 10 = some pf10
  f12 : prog.fn 12 = some pf12
  f14 : prog.fn 14 = some pf14
  f16 : prog.fn 16 = some pf16
  f18 : prog.fn 18 = some pf18
  f20 : prog.fn 20 = some pf20
  f22 : prog.fn 22 = some pf22
  f24 : prog.fn 24 = some pf24
  f26 : prog.fn 26 = some pf26
  f28 : prog.fn 28 = some pf28
  f29 : prog.fn 29 = some pf29
  f31 : prog.fn 31 = some pf31
  f33 : prog.fn 33 = some pf33
  f35 : prog.fn 35 = some pf35
  f38 : prog.fn 38 = some pf38
  f40 : prog.fn 40 = some pf40
  f41 : prog.fn 41 = some pf41
  f44 : prog.fn 44 = some pf44
  f48 : prog.fn 48 = none
  o48 : ∀ (s : Bytes) (c : UInt8), prog.orac 48 [.s s, .i .u8 (c.toNat : Int)] = some (.i .i64 (Lib.indexByte s c))

section
variable {prog : Prog} (H : Has03 prog)
include H

theorem c41 (c : UInt8) : Pus prog 41 [.i .u8 (c.toNat : Int)] (.s (chr c)) := by
  have hc := c.toNat_lt
  have hq : (c.toNat : Int).tdiv 16 = ((c.toNat / 16 : Nat) : Int) := by rw [Int.tdiv_eq_ediv_of_nonneg (by omega)]; omega
  have hr : (c.toNat : Int).tmod 16 = ((c.toNat % 16 : Nat) : Int) := by rw [Int.tmod_eq_emod_of_nonneg (by omega)]; omega
  have w1 : IntKind.u8.wrap ((c.toNat / 16 : Nat) : Int) = ((c.toNat / 16 : Nat) : Int) := wr_u8 (by omega) (by omega)
  have w2 : IntKind.u8.wrap (((c.toNat / 16 : Nat) : Int) + 1) = ((c.toNat / 16 + 1 : Nat) : Int) := by rw [wr_u8 (by omega) (by omega)]; omega
  have w3 : IntKind.u8.wrap (((c.toNat % 16 : Nat) : Int) + 1) = ((c.toNat % 16 + 1 : Nat) : Int) := by rw [wr_u8 (by omega) (by omega)]; omega
  have t1 := hexd_take (n := c.toNat / 16) (by omega) rfl
  have t2 := hexd_take (n := c.toNat % 16) (by omega) rfl
  obtain ⟨x, rfl, h⟩ := p41 H.f41 (c0 := (c.toNat : Int)) (K := fun x => x = chr c) (by
    unfold T41_0
    simp only [hq, hr, w1, w2, w3, toNat_cast, t1, t2, List.length_cons, List.length_nil, maxStr_eq, List.length_append]
    refine ⟨fun h => ⟨c, rfl, ?_⟩, fun h => ⟨fun h2 => ⟨c, rfl, ?_⟩, fun h2 => ⟨fun h3 => ?_, fun h3 => ⟨fun h4 => ⟨fun h5 => ⟨c, rfl, ?_⟩, fun h5 => ?_⟩, fun h4 => ?_⟩⟩⟩⟩
    · unfold chr; rw [if_pos (by omega)]
    · unfold chr; rw [if_pos (by omega)]
    · unfold chr; rw [if_neg (by omega), if_pos (by omega)]
    · unfold chr; rw [if_neg (by omega), if_neg (by omega), if_neg (by omega)]
    · refine ⟨by omega, by omega, by omega, by omega, by omega, by omega, by omega, by omega, ?_⟩
      unfold chr; rw [if_neg (by omega), if_neg (by omega), if_pos (by omega)]
      rfl
    · refine ⟨by omega, by omega, by omega, by omega, by omega, by omega, by omega, by omega, ?_⟩
      unfold chr; rw [if_neg (by omega), if_neg (by omega), if_pos (by omega)]
      rfl)
  exact h

theorem c31 {s : Bytes} (hs : s.length ≤ 10000000) : Pus prog 31 [.s s] (.s (quo s)) := by
  obtain ⟨x, rfl, h⟩ := p31 H.f31 (s0 := s) (K := fun x => x = quo s) (by
    unfold T31_0
    intro P hP
    refine loop_up (fun i => 34 :: chrs (s.take i)) s.length ?_ ?_
    · apply hP
      unfold T31_1 T31_2
      refine ⟨fun h => absurd h (by omega), fun _ => ⟨?_, ?_⟩⟩
      · have := chrs_len (s.take s.length)
        simp only [List.take_length] at this ⊢
        simp only [List.length_cons, List.length_nil, maxStr_eq]
        omega
      · simp only [List.take_length, quo]
        rfl
    · intro i hi ih
      apply hP
      unfold T31_1
      refine ⟨fun _ => ⟨by omega, s[i], by rw [toNat_cast, List.getElem?_eq_getElem hi], chr s[i], c41 H _, ?_, ?_⟩, fun h => absurd (show (i : Int) < s.length by omega) h⟩
      · have h1 := chrs_len (s.take i)
        have h2 := chr_len s[i]
        simp only [List.length_cons, List.length_take, maxStr_eq] at h1 ⊢
        omega
      · rw [wr_succ (by omega)]
        rw [chrs_take hi] at ih
        exact ih)
  exact h

theorem c30 {s b : Bytes} (hs : s.length ≤ 10000000) (hb : b.length ≤ 1000000000) : PuA prog 30 (b.map row8) [.s s] ((b ++ quo s).map row8) := by
  refine PuAK.to ?_
  have hp := p30 H.f30 (b0 := b) (s1 := s) (K := fun x => x = b ++ quo s) (by
    unfold T30_0 T30_1
    refine ⟨⟨by simp only [List.length_cons, List.length_nil, maxBytes_eq]; omega, by simp only [List.length_cons, List.length_nil, maxBytes_eq]; omega⟩, fun P hP => ?_⟩
    refine loop_up (fun i => b ++ 34 :: chrs (s.take i)) s.length ?_ ?_
    · apply hP
      unfold T30_2 T30_4
      have h1 := chrs_len (s.take s.length)
      simp only [List.take_length] at h1 ⊢
      refine ⟨fun h => absurd h (by omega), fun _ => ⟨⟨?_, ?_⟩, ?_⟩⟩
      · simp only [List.length_append, List.length_cons, List.length_nil, maxBytes_eq]; omega
      · simp only [List.length_append, List.length_cons, List.length_nil, maxBytes_eq]; omega
      · simp only [quo, List.append_assoc, List.cons_append]
    · intro i hi ih
      apply hP
      have h1 := chrs_len (s.take i)
      have hc := s[i].toNat_lt
      rw [chrs_take hi] at ih
      rw [← List.cons_append, ← List.append_assoc] at ih
      generalize hx : s[i] = c at ih hc
      have w1 : bShr .u8 (c.toNat : Int) 4 = ((c.toNat / 16 : Nat) : Int) := by
        show (c.toNat : Int).fdiv 16 = _
        rw [Int.fdiv_eq_ediv_of_nonneg _ (by omega)]; omega
      have w2 : bAnd .u8 (c.toNat : Int) 15 = ((c.toNat % 16 : Nat) : Int) := by
        unfold bAnd
        have hx : (BitVec.ofInt IntKind.u8.bits (c.toNat : Int) &&& BitVec.ofInt IntKind.u8.bits 15).toNat = c.toNat % 16 := by
          show (BitVec.ofInt 8 (c.toNat : Int) &&& BitVec.ofInt 8 15).toNat = c.toNat % 16
          rw [BitVec.toNat_and]
          have h1 : (BitVec.ofInt 8 (c.toNat : Int)).toNat = c.toNat := by
            simp
          rw [h1]
          exact Nat.and_two_pow_sub_one_eq_mod c.toNat 4
        rw [hx]
        exact wr_u8 (by omega) (by omega)
      have fit : ∀ x : Bytes, x.length ≤ 4 → Fit ((b ++ 34 :: chrs (s.take i)).length + x.length) 1 := by
        intro x hx
        simp only [List.length_take] at h1
        refine ⟨?_, ?_⟩ <;> (simp only [List.length_append, List.length_cons, maxBytes_eq]; omega)
      unfold T30_2 T30_3
      rw [wr_succ (by omega)]
      refine ⟨fun _ => ⟨by omega, c, by rw [toNat_cast, List.getElem?_eq_getElem hi, hx], ?_⟩, fun h => absurd (show (i : Int) < s.length by omega) h⟩
      simp only [w1, w2, toNat_cast, hexd_get (show c.toNat / 16 < 16 by omega), hexd_get (show c.toNat % 16 < 16 by omega), Option.some.injEq, exists_eq_left']
      unfold chr at ih
      refine ⟨fun h2 => ⟨fit _ (by simp), ?_⟩, fun h2 => ⟨fun h3 => ⟨fit _ (by simp), ?_⟩, fun h3 => ⟨fun h4 => ⟨fit _ (by simp), ?_⟩, fun h4 => ⟨fun h5 => ⟨by omega, by omega, fit _ (by simp), ?_⟩, fun h5 => ⟨fun h6 => ⟨by omega, by omega, fit _ (by simp), ?_⟩, fun h6 => ⟨fit _ (by simp), ?_⟩⟩⟩⟩⟩⟩
      · rwa [if_pos (by omega)] at ih
      · rwa [if_pos (by omega)] at ih
      · rwa [if_neg (by omega), if_pos (by omega)] at ih
      · rwa [if_neg (by omega), if_neg (by omega), if_pos (by omega)] at ih
      · rwa [if_neg (by omega), if_neg (by omega), if_pos (by omega)] at ih
      · rwa [if_neg (by omega), if_neg (by omega), if_neg (by omega)] at ih)
  intro d st o ha
  obtain ⟨o', st', rows', ⟨x, rfl, rfl⟩, h1, h2⟩ := hp d st o ha
  exact ⟨o', st', _, rfl, h1, h2⟩

theorem c11 (s : Bytes) : Pus prog 11 [.s s] (.tup [.s (quoR s).1, .i .i64 (quoR s).2]) := by
  obtain ⟨x, y, ⟨rfl, rfl⟩, h⟩ := p11 H.f11 (s0 := s) (K := fun x y => x = (quoR s).1 ∧ y = (quoR s).2) (by
    unfold T11_0 quoR
    refine ⟨fun h => ?_, fun h => ⟨_, c30 H (b := []) (s := s) (by omega) (by simp), ?_⟩⟩
    · rw [if_pos (by omega)]; exact ⟨rfl, rfl⟩
    · rw [if_neg (by omega)]; exact ⟨rfl, rfl⟩)
  exact h
theorem c12 (s : Bytes) : Pus prog 12 [.s s] (.tup [.s (quoR s).1, .i .i64 (quoR s).2]) := by
  obtain ⟨x, y, ⟨rfl, rfl⟩, h⟩ := p12 H.f12 (s0 := s) (K := fun x y => x = (quoR s).1 ∧ y = (quoR s).2) (by
    unfold T12_0 quoR
    refine ⟨fun h => ?_, fun h => ⟨_, c31 H (s := s) (by omega), ?_⟩⟩
    · rw [if_pos (by omega)]; exact ⟨rfl, rfl⟩
    · rw [if_neg (by omega)]; exact ⟨rfl, rfl⟩)
  exact h
theorem c32 {l : List Bytes} (hl : l.length ≤ 1000000000) : Pus prog 32 [.sl .ext (l.map rowS)] (.b (many l)) := by
  obtain ⟨x, rfl, h⟩ := p32 H.f32 (l0 := l) (K := fun x => x = many l) (by
    unfold T32_0
    intro P hP
    refine loop_long 400 l (fun hl i hi h => ?_) (fun hl => ?_) (fun i hi h ih => ?_)
    · apply hP
      unfold T32_1
      refine ⟨fun _ => ⟨by omega, _, by rw [toNat_cast]; exact getD_get hi, fun _ => by simp [many, hl], fun h2 => absurd h2 (by omega)⟩, fun h2 => absurd h2 (by omega)⟩
    · apply hP
      unfold T32_1 T32_2
      refine ⟨fun h => absurd h (by omega), fun _ => ?_⟩
      simp only [many, hl, Bool.false_or]
      exact decide_eq_decide.2 (by omega)
    · apply hP
      unfold T32_1
      refine ⟨fun _ => ⟨by omega, _, by rw [toNat_cast]; exact getD_get hi, fun h2 => absurd h2 (by omega), fun h2 => by rw [wr_succ (by omega)]; exact ih⟩, fun h2 => absurd h2 (by omega)⟩)
  exact h
theorem c20 {l : List Bytes} (hl : l.length ≤ 1000000000) : Pus prog 20 [.sl .ext (l.map rowS)] (.b (!many l)) := by
  obtain ⟨x, rfl, h⟩ := p20 H.f20 (l0 := l) (K := fun x => x = !many l) (by
    unfold T20_0
    intro P hP
    refine loop_long 400 l (fun hl i hi h => ?_) (fun hl => ?_) (fun i hi h ih => ?_)
    · apply hP
      unfold T20_1
      refine ⟨fun _ => ⟨by omega, _, by rw [toNat_cast]; exact getD_get hi, fun _ => by simp [many, hl], fun h2 => absurd h2 (by omega)⟩, fun h2 => absurd h2 (by omega)⟩
    · apply hP
      unfold T20_1 T20_2
      refine ⟨fun h => absurd h (by omega), fun _ => ?_⟩
      simp only [many, hl, Bool.false_or]
      rw [← decide_not]
      exact decide_eq_decide.2 (by omega)
    · apply hP
      unfold T20_1
      refine ⟨fun _ => ⟨by omega, _, by rw [toNat_cast]; exact getD_get hi, fun h2 => absurd h2 (by omega), fun h2 => by rw [wr_succ (by omega)]; exact ih⟩, fun h2 => absurd h2 (by omega)⟩)
  exact h
theorem c10 {l : List Bytes} : Pus prog 10 [.sl .ext (l.map rowS)] (.b (great l)) := by
  obtain ⟨x, rfl, h⟩ := p10 H.f10 (l0 := l) (K := fun x => x = great l) (by
    unfold T10_0
    refine ⟨fun h => by simp only [great]; rw [decide_eq_true (show 70 < l.length by omega), Bool.or_true], fun hn P hP => ?_⟩
    refine loop_long 500 l (fun hl i hi h => ?_) (fun hl => ?_) (fun i hi h ih => ?_)
    · apply hP
      unfold T10_1
      refine ⟨fun _ => ⟨by omega, _, by rw [toNat_cast]; exact getD_get hi, fun _ => by simp [great, hl], fun h2 => absurd h2 (by omega)⟩, fun h2 => absurd h2 (by omega)⟩
    · apply hP
      unfold T10_1 T10_2
      refine ⟨fun h => absurd h (by omega), fun _ => ?_⟩
      simp only [great, hl, Bool.false_or]
      exact (decide_eq_false (by omega)).symm
    · apply hP
      unfold T10_1
      refine ⟨fun _ => ⟨by omega, _, by rw [toNat_cast]; exact getD_get hi, fun h2 => absurd h2 (by omega), fun h2 => by rw [wr_succ (by omega)]; exact ih⟩, fun h2 => absurd h2 (by omega)⟩)
  exact h

theorem c13 {l : List Bytes} (hl : l.length ≤ 1000000000) : Pus prog 13 [.sl .ext (l.map rowS)] (.tup [.s (listR l).1, .i .i64 (listR l).2]) := by
  obtain ⟨x, y, ⟨rfl, rfl⟩, h⟩ := p13 H.f13 (l0 := l) (K := fun x y => x = (listR l).1 ∧ y = (listR l).2) (by
    unfold T13_0
    refine ⟨_, c32 H hl, fun h => by unfold listR; rw [if_pos h]; exact ⟨rfl, rfl⟩, fun h => ?_⟩
    obtain ⟨h1, h2⟩ := many_false.1 h
    rw [show listR l = (listed l, 0) by unfold listR; rw [if_neg (by rw [h]; decide)]]
    intro P hP
    refine loop_up (fun i => 91 :: innerQ (l.take i)) l.length ?_ ?_
    · apply hP
      unfold T13_1 T13_3
      have h3 := innerQ_len h1
      rw [List.take_length]
      refine ⟨fun h => absurd h (by omega), fun _ => ⟨⟨?_, ?_⟩, ?_, rfl⟩⟩
      · simp only [List.length_cons, List.length_nil, maxBytes_eq]; omega
      · simp only [List.length_cons, List.length_nil, maxBytes_eq]; omega
      · simp only [listed, List.cons_append]
    · intro i hi ih
      apply hP
      have h3 := innerQ_len (l := l.take i) fun x hx => h1 x (List.mem_of_mem_take hx)
      have h4 := h1 l[i] (List.getElem_mem hi)
      rw [List.length_take] at h3
      rw [innerQ_take hi] at ih
      unfold T13_1 T13_2
      refine ⟨fun _ => ⟨by omega, l[i], by rw [toNat_cast, List.getElem?_eq_getElem hi], fun h5 => ⟨⟨?_, ?_⟩, _, c30 H (s := l[i]) (by omega) ?_, ?_⟩, fun h5 => ⟨_, c30 H (s := l[i]) (by omega) ?_, ?_⟩⟩, fun h5 => absurd h5 (by omega)⟩
      · simp only [List.length_cons, List.length_nil, maxBytes_eq]; omega
      · simp only [List.length_cons, List.length_nil, maxBytes_eq]; omega
      · simp only [List.length_cons, List.length_nil, List.length_append]; omega
      · rw [wr_succ (by omega)]
        rw [if_pos (by omega)] at ih
        exact ih
      · simp only [List.length_cons]; omega
      · rw [wr_succ (by omega)]
        rw [if_neg (by omega), List.append_nil] at ih
        exact ih)
  exact h
theorem c33 {l : List Bytes} (h1 : ∀ x ∈ l, x.length ≤ 400) (h2 : l.length ≤ 64) : Pus prog 33 [.sl .ext (l.map rowS)] (.s (listed l)) := by
  obtain ⟨x, rfl, h⟩ := p33 H.f33 (l0 := l) (K := fun x => x = listed l) (by
    unfold T33_0
    intro P hP
    refine loop_up (fun i => 91 :: innerQ (l.take i)) l.length ?_ ?_
    · apply hP
      unfold T33_1 T33_3
      have h3 := innerQ_len h1
      rw [List.take_length]
      refine ⟨fun h => absurd h (by omega), fun _ => ⟨?_, ?_⟩⟩
      · simp only [List.length_cons, List.length_nil, maxStr_eq]; omega
      · simp only [listed, List.cons_append]
    · intro i hi ih
      apply hP
      have h3 := innerQ_len (l := l.take i) fun x hx => h1 x (List.mem_of_mem_take hx)
      have h4 := h1 l[i] (List.getElem_mem hi)
      have h6 := quo_len l[i]
      rw [List.length_take] at h3
      rw [innerQ_take hi] at ih
      unfold T33_1 T33_2
      refine ⟨fun _ => ⟨fun h5 => ⟨?_, by omega, l[i], by rw [toNat_cast, List.getElem?_eq_getElem hi], _, c31 H (s := l[i]) (by omega), ?_, ?_⟩, fun h5 => ⟨by omega, l[i], by rw [toNat_cast, List.getElem?_eq_getElem hi], _, c31 H (s := l[i]) (by omega), ?_, ?_⟩⟩, fun h5 => absurd h5 (by omega)⟩
      · simp only [List.length_cons, List.length_nil, maxStr_eq]; omega
      · simp only [List.length_cons, List.length_nil, List.length_append, maxStr_eq]; omega
      · rw [wr_succ (by omega)]
        rw [if_pos (by omega)] at ih
        exact ih
      · simp only [List.length_cons, maxStr_eq]; omega
      · rw [wr_succ (by omega)]
        rw [if_neg (by omega), List.append_nil] at ih
        exact ih)
  exact h
theorem c14 {l : List Bytes} (hl : l.length ≤ 1000000000) : Pus prog 14 [.sl .ext (l.map rowS)] (.tup [.s (listR l).1, .i .i64 (listR l).2]) := by
  obtain ⟨x, y, ⟨rfl, rfl⟩, h⟩ := p14 H.f14 (l0 := l) (K := fun x y => x = (listR l).1 ∧ y = (listR l).2) (by
    unfold T14_0 listR
    refine ⟨_, c20 H hl, fun h => ?_, fun h => ?_⟩
    · rw [if_pos (by simpa using h)]; exact ⟨rfl, rfl⟩
    · have h' : many l = false := by simpa using h
      obtain ⟨h1, h2⟩ := many_false.1 h'
      refine ⟨_, c33 H h1 h2, ?_⟩
      rw [if_neg (by rw [h']; decide)]; exact ⟨rfl, rfl⟩)
  exact h

theorem c34 {n b : Nat} (hb : 2 ≤ b) (hb' : b ≤ 16) (hn : n < 18446744073709551616) : Pus prog 34 [.i .u64 (n : Int), .i .u64 (b : Int)] (.s (digs b n)) := by
  obtain ⟨x, rfl, h⟩ := p34 H.f34 (n0 := (n : Int)) (base1 := (b : Int)) (K := fun x => x = digs b n) (by
    unfold T34_0
    intro P hP
    have key : ∀ f n', n' < b ^ f → 0 < f → n' < 18446744073709551616 → ∀ a : Nat, f ≤ a → a ≤ 64 → ∀ m : Bytes, m.length = 64 → (ds b f n' ++ m.drop a = digs b n) → P (n' : Int) (a : Int) m := by
      intro f
      induction f with
      | zero => intro _ _ h; exact absurd h (Nat.lt_irrefl _)
      | succ f ih =>
        intro n' hf _ hn' a ha ha' m hm hd
        apply hP
        have e1 : (n' : Int).tmod (b : Int) = ((n' % b : Nat) : Int) := by rw [Int.tmod_eq_emod_of_nonneg (by omega)]; omega
        have e2 : (n' : Int).tdiv (b : Int) = ((n' / b : Nat) : Int) := by rw [Int.tdiv_eq_ediv_of_nonneg (by omega)]; omega
        have e3 : IntKind.i64.wrap ((a : Int) - 1) = ((a - 1 : Nat) : Int) := by rw [wr_i64 (by omega) (by omega)]; omega
        have hq : n' / b ≤ n' := Nat.div_le_self _ _
        have hr : n' % b < b := Nat.mod_lt _ (by omega)
        have e4 : IntKind.u64.wrap ((n' / b : Nat) : Int) = ((n' / b : Nat) : Int) := wr_u64_nat (by omega)
        have hset : ∀ c : UInt8, (m.set (a - 1) c).drop (a - 1) = c :: m.drop a := by
          intro c
          rw [List.drop_eq_getElem_cons (by simp; omega), List.getElem_set_self, List.drop_set_of_lt (by omega), show a - 1 + 1 = a by omega]
        unfold T34_1
        simp only [e1, e2, e3, e4, toNat_cast, hset]
        refine ⟨by omega, by omega, hexd (n' % b), hexd_get (by omega), by omega, by omega, by omega, by omega, fun h => ⟨by simp [hm], by omega, by omega, ?_⟩, fun h => ?_⟩
        · rw [← hd]
          unfold ds
          have hz : n' / b = 0 := by omega
          have hlt : n' < b := by
            rcases Nat.lt_or_ge n' b with h | h
            · exact h
            · have := Nat.div_pos h (by omega); omega
          rw [if_pos hlt, Nat.mod_eq_of_lt hlt]
          rfl
        · have hz : n' / b ≠ 0 := by omega
          have hlt : ¬ n' < b := fun h => hz (Nat.div_eq_of_lt h)
          have h1 : n' / b < b ^ f := by
            rw [Nat.div_lt_iff_lt_mul (by omega)]
            rw [Nat.pow_succ] at hf
            exact hf
          have h2 : 0 < f := by
            rcases Nat.eq_zero_or_pos f with rfl | h
            · simp at h1; omega
            · exact h
          refine ih (n' / b) h1 h2 (by omega) (a - 1) (by omega) (by omega) _ (by simp [hm]) ?_
          rw [hset, ← hd]
          conv => rhs; unfold ds
          rw [if_neg hlt, List.append_assoc]
          rfl
    refine key 64 n ?_ (by omega) hn 64 (by omega) (by omega) _ (by simp) ?_
    · calc n < 2 ^ 64 := hn
        _ ≤ b ^ 64 := Nat.pow_le_pow_left hb 64
    · simp [digs])
  exact h

theorem c35 {n b : Nat} (hb : 2 ≤ b) (hb' : b ≤ 16) (hn : n < 18446744073709551616) : Pus prog 35 [.i .u64 (n : Int), .i .u64 (b : Int)] (.s (digs b n)) := by
  obtain ⟨x, rfl, h⟩ := p35 H.f35 (n0 := (n : Int)) (base1 := (b : Int)) (K := fun x => x = digs b n) (by
    unfold T35_0
    intro P hP
    have key : ∀ f n', n' < b ^ f → 0 < f → n' < 18446744073709551616 → f ≤ 64 → ∀ s : Bytes, s.length + f ≤ 64 → (ds b f n' ++ s = digs b n) → P (n' : Int) s := by
      intro f
      induction f with
      | zero => intro _ _ h; exact absurd h (Nat.lt_irrefl _)
      | succ f ih =>
        intro n' hf _ hn' hf64 s hs hd
        apply hP
        have e1 : (n' : Int).tmod (b : Int) = ((n' % b : Nat) : Int) := by rw [Int.tmod_eq_emod_of_nonneg (by omega)]; omega
        have e2 : (n' : Int).tdiv (b : Int) = ((n' / b : Nat) : Int) := by rw [Int.tdiv_eq_ediv_of_nonneg (by omega)]; omega
        have hq : n' / b ≤ n' := Nat.div_le_self _ _
        have hr : n' % b < b := Nat.mod_lt _ (by omega)
        have e4 : IntKind.u64.wrap ((n' / b : Nat) : Int) = ((n' / b : Nat) : Int) := wr_u64_nat (by omega)
        have e5 : IntKind.u64.wrap (((n' % b : Nat) : Int) + 1) = ((n' % b + 1 : Nat) : Int) := by rw [wr_u64 (by omega) (by omega)]; omega
        unfold T35_1
        refine ⟨fun h => ?_, fun h => ?_⟩
        · simp only [e1, e2, e4, e5, toNat_cast, hexd_take (show n' % b < 16 by omega) rfl, DIG_len]
          have hlt : ¬ n' < b := by omega
          refine ⟨by omega, by omega, by omega, by omega, by omega, ?_, by omega, ?_⟩
          · simp only [List.length_cons, List.length_nil, maxStr_eq]; omega
          have hz : n' / b ≠ 0 := by
            have := Nat.div_pos (show b ≤ n' by omega) (by omega); omega
          have h1 : n' / b < b ^ f := by
            rw [Nat.div_lt_iff_lt_mul (by omega)]
            rw [Nat.pow_succ] at hf
            exact hf
          have h2 : 0 < f := by
            rcases Nat.eq_zero_or_pos f with rfl | h
            · simp at h1; omega
            · exact h
          refine ih (n' / b) h1 h2 (by omega) (by omega) _ ?_ ?_
          · simp only [List.length_append, List.length_cons, List.length_nil]; omega
          · rw [← hd]
            conv => rhs; unfold ds
            rw [if_neg hlt, List.append_assoc]
        · have hlt : n' < b := by omega
          have e6 : IntKind.u64.wrap ((n' : Int) + 1) = ((n' + 1 : Nat) : Int) := by rw [wr_u64 (by omega) (by omega)]; omega
          unfold T35_2
          simp only [e6, toNat_cast, hexd_take (show n' < 16 by omega) rfl, DIG_len]
          refine ⟨by omega, by omega, by omega, ?_, ?_⟩
          · simp only [List.length_cons, List.length_nil, maxStr_eq]; omega
          · rw [← hd]
            unfold ds
            rw [if_pos hlt]
    refine key 64 n ?_ (by omega) hn (by omega) _ (by simp) ?_
    · calc n < 2 ^ 64 := hn
        _ ≤ b ^ 64 := Nat.pow_le_pow_left hb 64
    · simp [digs])
  exact h

theorem c15 {n : Int} (h1 : -9223372036854775808 ≤ n) (h2 : n < 9223372036854775808) : Pus prog 15 [.i .i64 n] (.s (num n)) := by
  obtain ⟨x, rfl, h⟩ := p15 H.f15 (n0 := n) (K := fun x => x = num n) (by
    unfold T15_0
    refine ⟨fun h => ?_, fun h => ?_⟩
    · have e : IntKind.u64.wrap (0 - (IntKind.u64.wrap n)) = (((-n).toNat : Nat) : Int) := by rw [IntKind.wrap_u64, IntKind.wrap_u64]; omega
      rw [e]
      refine ⟨_, c34 H (b := 10) (by omega) (by omega) (by omega), ?_, ?_⟩
      · have := ds_len 10 64 (-n).toNat
        simp only [digs, List.length_cons, List.length_nil, maxStr_eq]; omega
      · unfold num; rw [if_pos h]; rfl
    · have e : IntKind.u64.wrap n = ((n.toNat : Nat) : Int) := by rw [IntKind.wrap_u64]; omega
      rw [e]
      refine ⟨_, c34 H (b := 10) (by omega) (by omega) (by omega), ?_⟩
      unfold num; rw [if_neg h])
  exact h
theorem c16 {n : Int} (h1 : -9223372036854775808 ≤ n) (h2 : n < 9223372036854775808) : Pus prog 16 [.i .i64 n] (.s (num n)) := by
  obtain ⟨x, rfl, h⟩ := p16 H.f16 (n0 := n) (K := fun x => x = num n) (by
    unfold T16_0
    refine ⟨fun h => ?_, fun h => ?_⟩
    · have e : IntKind.u64.wrap n = ((n.toNat : Nat) : Int) := by rw [IntKind.wrap_u64]; omega
      rw [e]
      refine ⟨_, c35 H (b := 10) (by omega) (by omega) (by omega), ?_⟩
      unfold num; rw [if_neg (by omega)]
    · have e : IntKind.u64.wrap ((IntKind.u64.wrap (IntKind.i64.wrap (0 - (IntKind.i64.wrap (n + 1))))) + 1) = (((-n).toNat : Nat) : Int) := by
        rw [wr_i64 (z := n + 1) (by omega) (by omega), wr_i64 (by omega) (by omega), wr_u64 (z := 0 - (n + 1)) (by omega) (by omega), wr_u64 (by omega) (by omega)]; omega
      rw [e]
      refine ⟨_, c35 H (b := 10) (by omega) (by omega) (by omega), ?_, ?_⟩
      · have := ds_len 10 64 (-n).toNat
        simp only [digs, List.length_cons, List.length_nil, maxStr_eq]; omega
      · unfold num; rw [if_pos (by omega)]; rfl)
  exact h
theorem c17 {n : Nat} (hn : n < 18446744073709551616) : Pus prog 17 [.i .u64 (n : Int)] (.s (hex n)) := by
  obtain ⟨x, rfl, h⟩ := p17 H.f17 (n0 := (n : Int)) (K := fun x => x = hex n) (by
    unfold T17_0
    refine ⟨_, c34 H (b := 16) (by omega) (by omega) hn, ?_, rfl⟩
    have := ds_len 16 64 n
    simp only [digs, List.length_cons, List.length_nil, maxStr_eq]; omega)
  exact h
theorem c18 {n : Nat} (hn : n < 18446744073709551616) : Pus prog 18 [.i .u64 (n : Int)] (.s (hex n)) := by
  obtain ⟨x, rfl, h⟩ := p18 H.f18 (n0 := (n : Int)) (K := fun x => x = hex n) (by
    unfold T18_0
    refine ⟨_, c35 H (b := 16) (by omega) (by omega) hn, ?_, rfl⟩
    have := ds_len 16 64 n
    simp only [digs, List.length_cons, List.length_nil, maxStr_eq]; omega)
  exact h
end
end Go.AM

/- Chapter 03: what its reading functions return. -/
namespace Go.AM
open Go

def cutp (p s : Bytes) : Bytes × Bool := if s.take p.length = p then (s.drop p.length, true) else (s, false)
theorem idx_first (c : UInt8) : ∀ (l : Bytes) (i : Nat), (∀ j, j < i → l[j]? ≠ some c) → (l[i]? = some c → Lib.indexByte l c = i) ∧ (l.length ≤ i → Lib.indexByte l c = -1)
  | [], i, _ => ⟨fun h => (by simp at h), fun _ => rfl⟩
  | x :: l, i, h => by
    unfold Lib.indexByte
    cases i with
    | zero =>
      refine ⟨fun h1 => ?_, fun h1 => absurd h1 (by simp)⟩
      simp at h1
      rw [if_pos (by simp [h1])]
      rfl
    | succ i =>
      have hx : x ≠ c := by have := h 0 (by omega); simpa using this
      have ih := idx_first c l i fun j hj => by have := h (j + 1) (by omega); simpa using this
      rw [if_neg (by simpa using hx)]
      refine ⟨fun h1 => ?_, fun h1 => ?_⟩
      · have h2 := ih.1 (by simpa using h1)
        rw [h2]
        rw [if_neg (by simp)]
        rfl
      · have h2 := ih.2 (by simpa using h1)
        rw [h2]
        rfl

/-- What escape says. -/
def EscK (s : Bytes) (c : Int) (r : Bytes) (ok : Bool) : Prop := match esc s with | some (x, y) => c = (x.toNat : Int) ∧ r = y ∧ ok = true | none => ok = false
theorem EscK.yes {s : Bytes} {x : UInt8} {y : Bytes} {c : Int} (h : esc s = some (x, y)) (hc : c = (x.toNat : Int)) : EscK s c y true := by
  unfold EscK; rw [h]; exact ⟨hc, rfl, rfl⟩
theorem EscK.no {s : Bytes} {c : Int} {y : Bytes} (h : esc s = none) : EscK s c y false := by
  unfold EscK; rw [h]
section
variable {prog : Prog} (H : Has03 prog)
include H

theorem c46 (s p : Bytes) : Pus prog 46 [.s s, .s p] (.b (decide (s.take p.length = p))) := by
  obtain ⟨x, rfl, h⟩ := p46 H.f46 (s0 := s) (prefix1 := p) (K := fun x => x = decide (s.take p.length = p)) (by
    unfold T46_0
    refine ⟨fun h => ⟨by omega, by omega, rfl⟩, fun h => ?_⟩
    refine (decide_eq_false fun h1 => ?_).symm
    have := congrArg List.length h1
    simp only [List.length_take] at this
    omega)
  exact h
theorem c42 (s p : Bytes) : Pus prog 42 [.s s, .s p] (.tup [.s (cutp p s).1, .b (cutp p s).2]) := by
  obtain ⟨x, y, ⟨rfl, rfl⟩, h⟩ := p42 H.f42 (s0 := s) (prefix1 := p) (K := fun x y => x = (cutp p s).1 ∧ y = (cutp p s).2) (by
    unfold T42_0 cutp
    refine ⟨_, c46 H s p, fun h => ?_, fun h => ?_⟩
    · have h1 : ¬ s.take p.length = p := by simpa using h
      rw [if_neg h1]; exact ⟨rfl, rfl⟩
    · have h1 : s.take p.length = p := by simpa using h
      have h2 := congrArg List.length h1
      simp only [List.length_take] at h2
      rw [if_pos h1]; exact ⟨by omega, by omega, rfl, rfl⟩)
  exact h
theorem c36 (s p : Bytes) : Pus prog 36 [.s s, .s p] (.tup [.s (cutp p s).1, .b (cutp p s).2]) := by
  obtain ⟨x, y, ⟨rfl, rfl⟩, h⟩ := p36 H.f36 (s0 := s) (prefix1 := p) (K := fun x y => x = (cutp p s).1 ∧ y = (cutp p s).2) (by
    unfold T36_0
    exact ⟨_, _, c42 H s p, rfl, rfl⟩)
  exact h
theorem c47 (s : Bytes) (c : UInt8) : Pus prog 47 [.s s, .i .u8 (c.toNat : Int)] (.i .i64 (Lib.indexByte s c)) := by
  obtain ⟨x, rfl, h⟩ := p47 H.f47 (s0 := s) (c1 := (c.toNat : Int)) (K := fun x => x = Lib.indexByte s c) (by
    unfold T47_0
    exact ⟨_, Pus.orac H.f48 (H.o48 s c) rfl, rfl⟩)
  exact h
theorem c43 (s : Bytes) (c : UInt8) : Pus prog 43 [.s s, .i .u8 (c.toNat : Int)] (.i .i64 (Lib.indexByte s c)) := by
  obtain ⟨x, rfl, h⟩ := p43 H.f43 (s0 := s) (c1 := (c.toNat : Int)) (K := fun x => x = Lib.indexByte s c) (by
    unfold T43_0
    exact ⟨_, c47 H s c, rfl⟩)
  exact h
theorem c44 {b : Nat} (hb : b ≤ 16) (c : UInt8) : Pus prog 44 [.i .u8 (c.toNat : Int), .i .i64 (b : Int)] (.i .i64 (dv b c)) := by
  obtain ⟨x, rfl, h⟩ := p44 H.f44 (c0 := (c.toNat : Int)) (base1 := (b : Int)) (K := fun x => x = dv b c) (by
    unfold T44_0
    intro P hP
    have key : ∀ m i : Nat, i + m = b → (∀ j, j < i → (DIG.take b)[j]? ≠ some c) → P (i : Int) := by
      intro m
      induction m with
      | zero =>
        intro i hi hj
        apply hP
        unfold T44_1 T44_2
        refine ⟨fun h => absurd h (by omega), fun _ => ?_⟩
        exact ((idx_first c _ i hj).2 (by simp; omega)).symm
      | succ m ih =>
        intro i hi hj
        apply hP
        unfold T44_1
        refine ⟨fun _ => ⟨by omega, hexd i, by rw [toNat_cast, hexd_get (by omega)], fun h => ?_, fun h => ?_⟩, fun h => absurd h (by omega)⟩
        · have hc : hexd i = c := u8_eq (by omega)
          refine ((idx_first c _ i hj).1 ?_).symm
          rw [List.getElem?_take_of_lt (by omega), hexd_get (by omega), hc]
        · rw [wr_succ (by omega)]
          refine ih (i + 1) (by omega) fun j hj' => ?_
          rcases Nat.lt_or_ge j i with h1 | h1
          · exact hj j h1
          · have : j = i := by omega
            subst this
            rw [List.getElem?_take_of_lt (by omega), hexd_get (by omega)]
            intro h2
            injection h2 with h2
            exact h (by rw [h2])
    exact key b 0 (by omega) (by simp))
  exact h

theorem c37 {b most : Nat} (hb : 2 ≤ b) (hb' : b ≤ 16) (hm : 16 ≤ most) (hm' : most < 18446744073709551616) {s : Bytes} (hs : s.length ≤ 10000000) : Pus prog 37 [.s s, .i .u64 (b : Int), .i .u64 (most : Int)] (.tup [.i .u64 ((rd b most s).1 : Int), .i .i64 (rd b most s).2]) := by
  obtain ⟨x, y, ⟨rfl, rfl⟩, h⟩ := p37 H.f37 (s0 := s) (base1 := (b : Int)) (most2 := (most : Int)) (K := fun x y => x = ((rd b most s).1 : Int) ∧ y = (rd b most s).2) (by
    unfold T37_0 T37_1 T37_2
    intro P hP
    have key : ∀ m i : Nat, i + m = s.length → okd b (s.take i) = true → (2 ≤ i → s.head? ≠ some 48) → ∀ (n : Nat) (far : Bool), (far = false → n = vals b (s.take i) ∧ n ≤ most) → (far = true → most < vals b (s.take i)) → P (n : Int) far (i : Int) := by
      intro m
      induction m with
      | zero =>
        intro i hi ho h48 n far h0 h1
        simp only [Nat.add_zero] at hi
        subst hi
        rw [List.take_length] at ho h0 h1
        apply hP
        unfold T37_3 T37_5
        refine ⟨fun h => absurd h (by omega), fun _ => ⟨fun h => ?_, fun h => ?_⟩⟩
        · subst h; exact ⟨rfl, rfl⟩
        · have hbad : badn b s = false := by
            unfold badn
            rw [decide_eq_false h, ho]
            simp only [Bool.false_or, Bool.not_true]
            by_cases h2 : 1 < s.length
            · rw [decide_eq_false (h48 h2), Bool.and_false]
            · rw [decide_eq_false h2, Bool.false_and]
          refine ⟨fun hf => ?_, fun hf => ?_⟩
          · unfold rd
            rw [if_neg (by rw [hbad]; decide), if_pos (h1 hf)]
            exact ⟨rfl, rfl⟩
          · obtain ⟨h2, h3⟩ := h0 hf
            unfold rd
            rw [if_neg (by rw [hbad]; decide), if_neg (by omega), h2]
            exact ⟨rfl, rfl⟩
      | succ m ih =>
        intro i hi ho h48 n far h0 h1
        have hil : i < s.length := by omega
        have hd := dv_lt hb' s[i]
        have hv := vals_take (b := b) hil
        have hk := okd_take (b := b) hil
        have bad12 : badn b s = true → (0 : Int) = ((rd b most s).1 : Int) ∧ (12 : Int) = (rd b most s).2 := by
          intro h
          unfold rd
          rw [if_pos h]
          exact ⟨rfl, rfl⟩
        apply hP
        unfold T37_3 T37_4
        refine ⟨fun _ => ⟨by omega, by rw [toNat_cast]; exact hb', by omega, s[i], by rw [toNat_cast, List.getElem?_eq_getElem hil], dv b s[i], c43 H _ _, fun h => ?_, fun h => ?_⟩, fun h => absurd h (by omega)⟩
        · refine bad12 ?_
          unfold badn
          rw [okd_of hil h]
          simp
        · have hd0 : 0 ≤ dv b s[i] := by omega
          rw [ho, decide_eq_true hd0, Bool.and_true] at hk
          generalize hdd : (dv b s[i]).toNat = d at hv
          have hdi : dv b s[i] = (d : Int) := by omega
          have e1 : IntKind.u64.wrap (dv b s[i]) = (d : Int) := by rw [hdi]; exact wr_u64_nat (by omega)
          have e2 : IntKind.u64.wrap ((most : Int) - (d : Int)) = ((most - d : Nat) : Int) := by rw [wr_u64 (by omega) (by omega)]; omega
          have e3 : (((most - d : Nat) : Int)).tdiv (b : Int) = (((most - d) / b : Nat) : Int) := by rw [Int.tdiv_eq_ediv_of_nonneg (by omega)]; omega
          have hq : (most - d) / b ≤ most - d := Nat.div_le_self _ _
          have e4 : IntKind.u64.wrap (((most - d) / b : Nat) : Int) = (((most - d) / b : Nat) : Int) := wr_u64_nat (by omega)
          have hfi := far_iff (n := n) (show 0 < b by omega) (show d ≤ most by omega)
          rw [wr_succ (by omega)]
          simp only [e1, e2, e3, e4]
          have go : (2 ≤ i + 1 → s.head? ≠ some 48) → (far = true → P (n : Int) true ((i + 1 : Nat) : Int)) ∧ (far = false → (b : Int) ≠ 0 ∧ (¬((n : Int) > (((most - d) / b : Nat) : Int)) → P (IntKind.u64.wrap ((IntKind.u64.wrap ((n : Int) * (b : Int))) + (d : Int))) (decide ((n : Int) > (((most - d) / b : Nat) : Int))) ((i + 1 : Nat) : Int)) ∧ (¬(¬((n : Int) > (((most - d) / b : Nat) : Int))) → P (n : Int) (decide ((n : Int) > (((most - d) / b : Nat) : Int))) ((i + 1 : Nat) : Int))) := by
            intro h2
            refine ⟨fun hf => ?_, fun hf => ⟨by omega, fun h3 => ?_, fun h3 => ?_⟩⟩
            · refine ih (i + 1) (by omega) hk h2 n true (fun h => by cases h) fun _ => ?_
              rw [hv]
              have h4 := h1 hf
              have : vals b (s.take i) ≤ vals b (s.take i) * b := Nat.le_mul_of_pos_right _ (by omega)
              omega
            · obtain ⟨h4, h5⟩ := h0 hf
              have h6 : n * b + d ≤ most := by
                have : ¬ (most - d) / b < n := by omega
                rw [hfi] at this
                omega
              have hnb : (n : Int) * (b : Int) = ((n * b : Nat) : Int) := by rw [Int.natCast_mul]
              have e5 : IntKind.u64.wrap ((n : Int) * (b : Int)) = ((n * b : Nat) : Int) := by rw [hnb]; exact wr_u64_nat (by omega)
              have e6 : IntKind.u64.wrap (((n * b : Nat) : Int) + (d : Int)) = ((n * b + d : Nat) : Int) := by rw [wr_u64 (by omega) (by omega)]; omega
              rw [e5, e6, decide_eq_false h3]
              refine ih (i + 1) (by omega) hk h2 _ false (fun _ => ⟨?_, h6⟩) fun h => by cases h
              rw [hv, h4]
            · have h3' : (n : Int) > (((most - d) / b : Nat) : Int) := by omega
              obtain ⟨h4, h5⟩ := h0 hf
              rw [decide_eq_true h3']
              refine ih (i + 1) (by omega) hk h2 n true (fun h => by cases h) fun _ => ?_
              rw [hv, ← h4]
              exact hfi.1 (Int.ofNat_lt.1 h3')
          have hd0 : s.head? = s[0]? := List.head?_eq_getElem?
          refine ⟨fun hi1 => ?_, fun hi1 => ?_⟩
          · have h0s : s[0]? = some s[0] := List.getElem?_eq_getElem (by omega)
            refine ⟨s[0], h0s, fun h2 => ?_, fun h2 => ?_⟩
            · refine bad12 ?_
              have h3 : s[0] = 48 := u8_eq (by have e : (48 : UInt8).toNat = 48 := rfl; omega)
              unfold badn
              rw [decide_eq_true (show 1 < s.length by omega), decide_eq_true (show s.head? = some 48 by rw [hd0, h0s, h3])]
              simp
            · refine go fun _ => ?_
              rw [hd0, h0s]
              intro h3
              injection h3 with h3
              exact h2 (by rw [h3]; rfl)
          · refine go fun h2 => ?_
            have h3 : i ≠ 1 := by omega
            have h4 : i ≠ 0 := by omega
            exact h48 (by omega)
    exact key s.length 0 (by omega) rfl (by omega) 0 false (fun _ => ⟨rfl, by omega⟩) fun h => by cases h)
  exact h

theorem c38 {b most : Nat} (hb : 2 ≤ b) (hb' : b ≤ 16) (hm : 16 ≤ most) (hm' : most < 18446744073709551616) {s : Bytes} (hs : s.length ≤ 10000000) : Pus prog 38 [.s s, .i .u64 (b : Int), .i .u64 (most : Int)] (.tup [.i .u64 ((rd b most s).1 : Int), .i .i64 (rd b most s).2]) := by
  obtain ⟨x, y, ⟨rfl, rfl⟩, h⟩ := p38 H.f38 (s0 := s) (base1 := (b : Int)) (most2 := (most : Int)) (K := fun x y => x = ((rd b most s).1 : Int) ∧ y = (rd b most s).2) (by
    have wb : IntKind.i64.wrap (b : Int) = (b : Int) := wr_i64 (by omega) (by omega)
    have bad12 : badn b s = true → (0 : Int) = ((rd b most s).1 : Int) ∧ (12 : Int) = (rd b most s).2 := by
      intro h
      unfold rd
      rw [if_pos h]
      exact ⟨rfl, rfl⟩
    have hd0 : s.head? = s[0]? := List.head?_eq_getElem?
    have loop : s ≠ [] → (1 < s.length → s.head? ≠ some 48) → ∀ P0 : Int → Prop, (∀ (i8 : Int), T38_2 prog (fun x y => x = ((rd b most s).1 : Int) ∧ y = (rd b most s).2) P0 s (b : Int) (most : Int) i8 → P0 i8) → P0 0 := by
      intro hne h48 P hP
      have key : ∀ m i : Nat, i + m = s.length → okd b (s.take i) = true → P (i : Int) := by
        intro m
        induction m with
        | zero =>
          intro i hi ho
          simp only [Nat.add_zero] at hi
          subst hi
          rw [List.take_length] at ho
          have hbad : badn b s = false := by
            unfold badn
            rw [decide_eq_false hne, ho]
            simp only [Bool.false_or, Bool.not_true]
            by_cases h2 : 1 < s.length
            · rw [decide_eq_false (h48 h2), Bool.and_false]
            · rw [decide_eq_false h2, Bool.false_and]
          apply hP
          unfold T38_2 T38_3
          refine ⟨fun h => absurd h (by omega), fun _ P1 hP1 => ?_⟩
          have hall : ∀ (j : Nat) (hj : j < s.length), 0 ≤ dv b s[j] := by
            intro j hj
            unfold okd at ho
            rw [List.all_eq_true] at ho
            simpa using ho s[j] (List.getElem_mem hj)
          have key2 : ∀ m i : Nat, i + m = s.length → vals b (s.take i) ≤ most → P1 (vals b (s.take i) : Int) (i : Int) := by
            intro m
            induction m with
            | zero =>
              intro i hi hv
              simp only [Nat.add_zero] at hi
              subst hi
              apply hP1
              unfold T38_4 T38_5
              refine ⟨fun h => absurd h (by omega), fun _ => ?_⟩
              rw [List.take_length] at hv ⊢
              unfold rd
              rw [if_neg (by rw [hbad]; decide), if_neg (by omega)]
              exact ⟨rfl, rfl⟩
            | succ m ih =>
              intro i hi hv
              have hil : i < s.length := by omega
              have hd := dv_lt hb' s[i]
              have hn0 := hall i hil
              have hvt := vals_take (b := b) hil
              generalize hdd : (dv b s[i]).toNat = d at hvt
              have hdi : dv b s[i] = (d : Int) := by omega
              have e1 : IntKind.u64.wrap (dv b s[i]) = (d : Int) := by rw [hdi]; exact wr_u64_nat (by omega)
              have e2 : IntKind.u64.wrap ((most : Int) - (d : Int)) = ((most - d : Nat) : Int) := by rw [wr_u64 (by omega) (by omega)]; omega
              have e3 : (((most - d : Nat) : Int)).tdiv (b : Int) = (((most - d) / b : Nat) : Int) := by rw [Int.tdiv_eq_ediv_of_nonneg (by omega)]; omega
              have hq : (most - d) / b ≤ most - d := Nat.div_le_self _ _
              have e4 : IntKind.u64.wrap (((most - d) / b : Nat) : Int) = (((most - d) / b : Nat) : Int) := wr_u64_nat (by omega)
              have hfi := far_iff (n := vals b (s.take i)) (show 0 < b by omega) (show d ≤ most by omega)
              apply hP1
              unfold T38_4
              rw [wb, wr_succ (by omega)]
              refine ⟨fun _ => ⟨by omega, s[i], by rw [toNat_cast, List.getElem?_eq_getElem hil], dv b s[i], c44 H hb' _, by omega, fun h => ?_, fun h => ?_⟩, fun h => absurd h (by omega)⟩
              · simp only [e1, e2, e3, e4] at h
                have h1 := hfi.1 (Int.ofNat_lt.1 h)
                have h2 : most < vals b s := by
                  have mono : ∀ k, i + 1 + k ≤ s.length → most < vals b (s.take (i + 1 + k)) := by
                    intro k
                    induction k with
                    | zero => intro _; rw [Nat.add_zero, hvt]; exact h1
                    | succ k ihk =>
                      intro hk
                      have := ihk (by omega)
                      rw [show i + 1 + (k + 1) = (i + 1 + k) + 1 by omega, vals_take (by omega)]
                      have h3 : vals b (s.take (i + 1 + k)) ≤ vals b (s.take (i + 1 + k)) * b := Nat.le_mul_of_pos_right _ (by omega)
                      omega
                  have := mono (s.length - (i + 1)) (by omega)
                  rwa [show i + 1 + (s.length - (i + 1)) = s.length by omega, List.take_length] at this
                unfold rd
                rw [if_neg (by rw [hbad]; decide), if_pos h2]
                exact ⟨rfl, rfl⟩
              · simp only [e1, e2, e3, e4] at h
                have h1 : ¬ (most - d) / b < vals b (s.take i) := fun h2 => h (Int.ofNat_lt.2 h2)
                rw [hfi] at h1
                generalize hnn : vals b (s.take i) = n at *
                have hnb : (n : Int) * (b : Int) = ((n * b : Nat) : Int) := by rw [Int.natCast_mul]
                have e5 : IntKind.u64.wrap ((n : Int) * (b : Int)) = ((n * b : Nat) : Int) := by rw [hnb]; exact wr_u64_nat (by omega)
                have e6 : IntKind.u64.wrap (((n * b : Nat) : Int) + (d : Int)) = ((n * b + d : Nat) : Int) := by rw [wr_u64 (by omega) (by omega)]; omega
                rw [e1, e5, e6]
                have := ih (i + 1) (by omega) (by rw [hvt]; omega)
                rwa [hvt] at this
          exact key2 s.length 0 (by omega) (Nat.zero_le _)
        | succ m ih =>
          intro i hi ho
          have hil : i < s.length := by omega
          have hd := dv_lt hb' s[i]
          have hk := okd_take (b := b) hil
          apply hP
          unfold T38_2
          rw [wb, wr_succ (by omega)]
          refine ⟨fun _ => ⟨by omega, s[i], by rw [toNat_cast, List.getElem?_eq_getElem hil], dv b s[i], c44 H hb' _, fun h => ?_, fun h => ?_⟩, fun h => absurd h (by omega)⟩
          · refine bad12 ?_
            unfold badn
            rw [okd_of hil h]
            simp
          · refine ih (i + 1) (by omega) ?_
            rw [hk, ho, decide_eq_true (by omega), Bool.and_true]
      exact key s.length 0 (by omega) rfl
    unfold T38_0 T38_1
    refine ⟨fun h => bad12 ?_, fun h => ?_⟩
    · have : s = [] := List.length_eq_zero_iff.1 (by omega)
      subst this
      rfl
    · have hpos : 0 < s.length := by omega
      have hne : s ≠ [] := fun h => by subst h; simp at hpos
      have h0s : s[0]? = some s[0] := List.getElem?_eq_getElem hpos
      refine ⟨s[0], h0s, fun h2 => ⟨fun h3 => bad12 ?_, fun h3 => loop hne fun h4 => absurd h4 (by omega)⟩, fun h2 => loop hne fun h4 => ?_⟩
      · have h4 : s[0] = 48 := u8_eq (by have e : (48 : UInt8).toNat = 48 := rfl; omega)
        unfold badn
        rw [decide_eq_true (show 1 < s.length by omega), decide_eq_true (show s.head? = some 48 by rw [hd0, h0s, h4])]
        simp
      · rw [hd0, h0s]
        intro h5
        injection h5 with h5
        exact h2 (by rw [h5]; rfl))
  exact h

theorem c21 (s : Bytes) : Pus prog 21 [.s s] (.tup [.i .i64 (unnum s).1, .i .i64 (unnum s).2]) := by
  obtain ⟨x, y, ⟨rfl, rfl⟩, h⟩ := p21 H.f21 (s0 := s) (K := fun x y => x = (unnum s).1 ∧ y = (unnum s).2) (by
    unfold T21_0 T21_1
    refine ⟨fun h => by unfold unnum; rw [if_pos (by omega)]; exact ⟨rfl, rfl⟩, fun hs => ⟨_, _, c36 H s [45], ?_⟩⟩
    unfold unnum
    rw [if_neg (by omega)]
    by_cases hm : s.take 1 = [45]
    · have ec : cutp [45] s = (s.drop 1, true) := by unfold cutp; rw [if_pos (by exact hm)]; rfl
      rw [ec, if_pos hm]
      refine ⟨fun h => by simp at h, fun _ => ?_⟩
      have hl := rd_le 10 9223372036854775808 (s.drop 1)
      refine ⟨_, _, c37 H (b := 10) (most := 9223372036854775808) (by omega) (by omega) (by omega) (by omega) (s := s.drop 1) (by simp; omega), fun h => ⟨fun h0 => ?_, fun h0 => ?_⟩, fun h => ?_⟩
      · have e : (rd 10 9223372036854775808 (s.drop 1)).1 = 0 := by omega
        rw [if_pos ⟨h, e⟩, e]
        exact ⟨rfl, rfl⟩
      · rw [if_neg (fun hh => h0 (by rw [hh.2]; rfl))]
        refine ⟨?_, rfl⟩
        rw [IntKind.wrap_u64, IntKind.wrap_i64]
        simp only
        omega
      · have e := rd_err h
        rw [if_neg (fun hh => h hh.1), e]
        exact ⟨rfl, rfl⟩
    · have ec : cutp [45] s = (s, false) := by unfold cutp; rw [if_neg (by exact hm)]
      rw [ec, if_neg hm]
      refine ⟨fun _ => ?_, fun h => by simp at h⟩
      have hl := rd_le 10 9223372036854775807 s
      exact ⟨_, _, c37 H (b := 10) (most := 9223372036854775807) (by omega) (by omega) (by omega) (by omega) (s := s) (by omega), wr_i64 (by omega) (by omega), rfl⟩)
  exact h
theorem c22 (s : Bytes) : Pus prog 22 [.s s] (.tup [.i .i64 (unnum s).1, .i .i64 (unnum s).2]) := by
  obtain ⟨x, y, ⟨rfl, rfl⟩, h⟩ := p22 H.f22 (s0 := s) (K := fun x y => x = (unnum s).1 ∧ y = (unnum s).2) (by
    have plain : ¬ 2000 < s.length → ¬ s.take 1 = [45] → ∃ r'12 : Int, ∃ r'13 : Int, Pus prog 38 [.s s, .i .u64 10, .i .u64 9223372036854775807] (.tup [.i .u64 r'12, .i .i64 r'13]) ∧ (r'13 ≠ 0 → 0 = (unnum s).1 ∧ r'13 = (unnum s).2) ∧ (¬(r'13 ≠ 0) → IntKind.i64.wrap r'12 = (unnum s).1 ∧ 0 = (unnum s).2) := by
      intro hs hm
      have hl := rd_le 10 9223372036854775807 s
      refine ⟨_, _, c38 H (b := 10) (most := 9223372036854775807) (by omega) (by omega) (by omega) (by omega) (s := s) (by omega), fun h => ?_, fun h => ?_⟩
      · have e := rd_err h
        unfold unnum
        rw [if_neg hs, if_neg hm, e]
        exact ⟨rfl, rfl⟩
      · have e : (rd 10 9223372036854775807 s).2 = 0 := by omega
        unfold unnum
        rw [if_neg hs, if_neg hm, e]
        exact ⟨wr_i64 (by omega) (by omega), rfl⟩
    unfold T22_0
    refine ⟨fun h => by unfold unnum; rw [if_pos (by omega)]; exact ⟨rfl, rfl⟩, fun hs => ⟨fun hpos => ?_, fun hpos => plain (by omega) fun h => ?_⟩⟩
    · have h0 : 0 < s.length := by omega
      have ht : s.take 1 = [s[0]] := by
        match s, h0 with
        | c :: r, _ => rfl
      refine ⟨s[0], List.getElem?_eq_getElem h0, fun hm => ?_, fun hm => plain (by omega) fun h => ?_⟩
      · have hm' : s.take 1 = [45] := by rw [ht, u8_eq (show s[0].toNat = (45 : UInt8).toNat by have e : (45 : UInt8).toNat = 45 := rfl; omega)]
        have hl := rd_le 10 9223372036854775808 (s.drop 1)
        refine ⟨fun h => ?_, fun h => ⟨by omega, _, _, c38 H (b := 10) (most := 9223372036854775808) (by omega) (by omega) (by omega) (by omega) (s := s.drop 1) (by simp; omega), fun h1 => ?_, fun h1 => ?_⟩⟩
        · rw [h]
          decide
        · have e := rd_err h1
          unfold unnum
          rw [if_neg (by omega), if_pos hm', if_neg (fun hh => h1 hh.1), e]
          exact ⟨rfl, rfl⟩
        · have e : (rd 10 9223372036854775808 (s.drop 1)).2 = 0 := by omega
          have hn : (rd 10 9223372036854775808 (s.drop 1)).1 ≠ 0 := by
            intro h2
            have h3 := rd_zero (by omega) e h2
            have h4 := List.take_append_drop 1 s
            rw [hm', h3] at h4
            exact h h4.symm
          unfold unnum
          rw [if_neg (by omega), if_pos hm', if_neg (fun hh => hn hh.2), e]
          refine ⟨?_, rfl⟩
          simp only
          rw [IntKind.wrap_i64, IntKind.wrap_i64, IntKind.wrap_i64, IntKind.wrap_u64]
          omega
      · rw [ht] at h
        injection h with h
        exact hm (by rw [h]; rfl)
    · have := congrArg List.length h
      simp only [List.length_take, List.length_cons, List.length_nil] at this
      omega)
  exact h
theorem c23 (s : Bytes) : Pus prog 23 [.s s] (.tup [.i .u64 ((unhex s).1 : Int), .i .i64 (unhex s).2]) := by
  obtain ⟨x, y, ⟨rfl, rfl⟩, h⟩ := p23 H.f23 (s0 := s) (K := fun x y => x = ((unhex s).1 : Int) ∧ y = (unhex s).2) (by
    unfold T23_0 unhex
    refine ⟨fun h => by rw [if_pos (by omega)]; exact ⟨rfl, rfl⟩, fun hs => ⟨_, _, c36 H s [48, 120], ?_⟩⟩
    rw [if_neg (by omega)]
    unfold cutp
    by_cases hm : s.take 2 = [48, 120]
    · rw [if_pos hm, if_pos (show s.take ([48, 120] : Bytes).length = [48, 120] from hm)]
      refine ⟨fun h => by simp at h, fun _ => ?_⟩
      exact ⟨_, _, c37 H (b := 16) (most := 18446744073709551615) (by omega) (by omega) (by omega) (by omega) (s := s.drop 2) (by simp; omega), rfl, rfl⟩
    · rw [if_neg hm, if_neg (show ¬ s.take ([48, 120] : Bytes).length = [48, 120] from hm)]
      exact ⟨fun _ => ⟨rfl, rfl⟩, fun h => by simp at h⟩)
  exact h
theorem c24 (s : Bytes) : Pus prog 24 [.s s] (.tup [.i .u64 ((unhex s).1 : Int), .i .i64 (unhex s).2]) := by
  obtain ⟨x, y, ⟨rfl, rfl⟩, h⟩ := p24 H.f24 (s0 := s) (K := fun x y => x = ((unhex s).1 : Int) ∧ y = (unhex s).2) (by
    unfold T24_0 unhex
    refine ⟨fun h => by rw [if_pos (by omega)]; exact ⟨rfl, rfl⟩, fun hs => ⟨fun h => ?_, fun h => ⟨by omega, fun hm => ?_, fun hm => ⟨by omega, ?_⟩⟩⟩⟩
    · rw [if_neg (by omega), if_neg (fun hm => ?_)]
      · exact ⟨rfl, rfl⟩
      · have := congrArg List.length hm
        simp only [List.length_take, List.length_cons, List.length_nil] at this
        omega
    · rw [if_neg (by omega), if_neg hm]
      exact ⟨rfl, rfl⟩
    · have hm' : s.take 2 = [48, 120] := Classical.not_not.1 hm
      rw [if_neg (by omega), if_pos hm']
      exact ⟨_, _, c38 H (b := 16) (most := 18446744073709551615) (by omega) (by omega) (by omega) (by omega) (s := s.drop 2) (by simp; omega), rfl, rfl⟩)
  exact h

theorem c45 (s : Bytes) : ∃ c r ok, EscK s c r ok ∧ Pus prog 45 [.s s] (.tup [.i .u8 c, .s r, .b ok]) := by
  refine p45 H.f45 (s0 := s) (K := EscK s) ?_
  unfold T45_0 T45_1
  refine ⟨fun h => by subst h; exact EscK.no rfl, fun h => ?_⟩
  cases s with
  | nil => exact absurd rfl h
  | cons c r =>
    have lit : ∀ {n : Nat} (_ : n < 256), (UInt8.ofNat n).toNat = n := by intro n hn; simp; omega
    unfold T45_2
    refine ⟨c, rfl, ?_⟩
    have t4 : T45_4 prog (EscK (c :: r)) (c :: r) (c.toNat : Int) (decide (c.toNat = 34 ∨ c.toNat = 92)) := by
      unfold T45_4
      refine ⟨fun h1 => ⟨c, rfl, by simp, ?_⟩, fun h1 => ?_⟩
      · have h1 := of_decide_eq_true h1
        exact EscK.yes (show (if c.toNat = 34 ∨ c.toNat = 92 then some (c, r) else _) = some (c, r) from if_pos h1) rfl
      · have h1 := of_decide_eq_false h1
        have e0 : esc (c :: r) = if c.toNat = 110 then some (10, r) else if c.toNat = 120 then esx r else none := by
          show (if c.toNat = 34 ∨ c.toNat = 92 then some (c, r) else if c.toNat = 110 then some (10, r) else if c.toNat = 120 then esx r else none) = _
          rw [if_neg h1]
        refine ⟨fun h2 => ⟨by simp, ?_⟩, fun h2 => ⟨fun h3 => ?_, fun h3 => ?_⟩⟩
        · exact EscK.yes (by rw [e0, if_pos (by omega)]; rfl) rfl
        · have e : esc (c :: r) = esx r := by rw [e0, if_neg (by omega), if_pos (by omega)]
          refine ⟨fun h4 => ?_, fun h4 => ?_⟩
          · refine EscK.no ?_
            rw [e]
            match r, h4 with
            | [], _ => rfl
            | [a], _ => rfl
            | a :: b :: r', h4 => simp at h4; omega
          · match r, h4, e with
            | [], h4, _ => exact absurd (by simp) h4
            | [a], h4, _ => exact absurd (by simp) h4
            | a :: b :: r', _, e =>
              have la := dv_lt (b := 16) (by omega) a
              have lb := dv_lt (b := 16) (by omega) b
              have ca : Pus prog 43 [.s DIG, .i .u8 (a.toNat : Int)] (.i .i64 (dv 16 a)) := c43 H DIG a
              have cb : Pus prog 43 [.s DIG, .i .u8 (b.toNat : Int)] (.i .i64 (dv 16 b)) := c43 H DIG b
              refine ⟨a, rfl, _, ca, b, rfl, _, cb, by simp, ?_⟩
              simp only [esx] at e
              by_cases hv : 0 ≤ dv 16 a ∧ 0 ≤ dv 16 b
              · have hw : IntKind.u8.wrap (IntKind.i64.wrap ((IntKind.i64.wrap (16 * dv 16 a)) + dv 16 b)) = 16 * dv 16 a + dv 16 b := by
                  rw [wr_i64 (z := 16 * dv 16 a) (by omega) (by omega), wr_i64 (by omega) (by omega), wr_u8 (by omega) (by omega)]
                have en := lit (n := (16 * dv 16 a + dv 16 b).toNat) (by omega)
                rw [hw]
                refine ⟨fun _ => ⟨fun _ => ⟨fun h5 => ⟨fun h6 => ?_, fun h6 => ?_⟩, fun h5 => ?_⟩, fun h5 => absurd hv.2 h5⟩, fun h5 => absurd hv.1 h5⟩
                · rw [if_pos ⟨hv.1, hv.2, by omega, by omega⟩] at e
                  exact EscK.yes e (by rw [en]; omega)
                · by_cases h7 : 126 < 16 * dv 16 a + dv 16 b
                  · rw [if_pos ⟨hv.1, hv.2, by omega, by omega⟩] at e
                    rw [decide_eq_true h7]
                    exact EscK.yes e (by rw [en]; omega)
                  · rw [if_neg (by omega)] at e
                    rw [decide_eq_false h7]
                    exact EscK.no e
                · rw [if_neg (by omega)] at e
                  exact EscK.no e
              · rw [if_neg (by omega)] at e
                exact ⟨fun h5 => ⟨fun h6 => absurd ⟨h5, h6⟩ hv, fun _ => EscK.no e⟩, fun _ => EscK.no e⟩
        · exact EscK.no (by rw [e0, if_neg (by omega), if_neg (by omega)])
    unfold T45_3
    refine ⟨fun h1 => ?_, fun h1 => ?_⟩
    · rw [show decide ((c.toNat : Int) = 34) = decide (c.toNat = 34 ∨ c.toNat = 92) from decide_eq_decide.2 (by omega)]
      exact t4
    · rw [show decide ((c.toNat : Int) = 92) = decide (c.toNat = 34 ∨ c.toNat = 92) from decide_eq_decide.2 (by omega)]
      exact t4

theorem c39 {s : Bytes} (hs : s.length ≤ 10000000) : Pus prog 39 [.s s] (.tup [.s (nxtR s).1, .s (nxtR s).2.1, .b (nxtR s).2.2]) := by
  obtain ⟨x, y, z, ⟨rfl, rfl, rfl⟩, h⟩ := p39 H.f39 (s0 := s) (K := fun x y z => x = (nxtR s).1 ∧ y = (nxtR s).2.1 ∧ z = (nxtR s).2.2) (by
    have no : nxt s = none → ([] : Bytes) = (nxtR s).1 ∧ ([] : Bytes) = (nxtR s).2.1 ∧ false = (nxtR s).2.2 := by
      intro h
      unfold nxtR
      rw [h]
      exact ⟨rfl, rfl, rfl⟩
    unfold T39_0 T39_1
    refine ⟨_, _, c36 H s [34], ?_⟩
    cases s with
    | nil =>
      rw [show cutp [34] [] = ([], false) from rfl]
      exact ⟨fun _ => no rfl, fun h => by simp at h⟩
    | cons q s =>
      by_cases hq : q.toNat = 34
      · have hq' : q = 34 := u8_eq hq
        subst hq'
        have ec : cutp [34] (34 :: s) = (s, true) := by unfold cutp; rw [if_pos (show List.take ([34] : Bytes).length (34 :: s) = [34] from rfl)]; rfl
        rw [ec]
        refine ⟨fun h => by simp at h, fun _ P hP => ?_⟩
        have hn : nxt (34 :: s) = nxtB (s.length + 1) [] s := by
          simp only [nxt]
          rw [if_pos hq]
        have key : ∀ n b r, r.length < n → b.length + r.length ≤ 10000000 → nxtB n b r = nxt (34 :: s) → P r b := by
          intro n
          induction n with
          | zero => intro b r h; exact absurd h (Nat.not_lt_zero _)
          | succ n ih =>
            intro b r hr hb hx
            apply hP
            unfold T39_2
            cases r with
            | nil => exact ⟨fun h => absurd rfl h, fun _ => no (by rw [← hx]; rfl)⟩
            | cons c r =>
              simp only [nxtB] at hx
              refine ⟨fun _ => ⟨c, rfl, by simp, fun h1 => ?_, fun h1 => ⟨fun h2 => ?_, fun h2 => ⟨fun h3 => ?_, fun h3 => ⟨fun h4 => ?_, fun h4 => ?_⟩⟩⟩⟩, fun h => absurd (by simp) h⟩
              · rw [if_pos (by omega)] at hx
                unfold nxtR
                rw [← hx]
                exact ⟨rfl, rfl, rfl⟩
              · refine no ?_
                rw [← hx, if_neg (by omega), show one (c :: r) = none by simp only [one]; rw [if_pos (by omega)]]
              · refine no ?_
                rw [← hx, if_neg (by omega), show one (c :: r) = none by simp only [one]; rw [if_pos (by omega)]]
              · rw [if_neg (by omega), show one (c :: r) = esc r by simp only [one]; rw [if_neg (by omega), if_pos (by omega)]] at hx
                obtain ⟨a, r', ok, hk, hp⟩ := c45 H r
                refine ⟨a, r', ok, hp, fun h5 => ?_, fun h5 => ?_⟩
                · unfold EscK at hk
                  cases he : esc r with
                  | none => rw [he] at hx; exact no hx.symm
                  | some p =>
                    rw [he] at hk
                    obtain ⟨_, _, hk⟩ := hk
                    rw [hk] at h5
                    exact absurd h5 (by decide)
                · unfold EscK at hk
                  cases he : esc r with
                  | none =>
                    rw [he] at hk
                    simp only at hk
                    rw [hk] at h5
                    exact absurd h5 (by decide)
                  | some p =>
                    obtain ⟨u, v⟩ := p
                    rw [he] at hk hx
                    obtain ⟨h6, h7, h8⟩ := hk
                    simp only at hx h6 h7
                    subst h6; subst h7
                    have hl : r'.length < (c :: r).length := one_len (c := u) (by simp only [one]; rw [if_neg (by omega), if_pos (by omega)]; exact he)
                    simp only [List.length_cons] at hl hb hr
                    unfold T39_3
                    refine ⟨u, rfl, ⟨?_, ?_⟩, ih _ _ (by omega) ?_ hx⟩
                    · simp only [List.length_cons, List.length_nil, maxBytes_eq]; omega
                    · simp only [List.length_cons, List.length_nil, maxBytes_eq]; omega
                    · simp only [List.length_append, List.length_cons, List.length_nil]; omega
              · rw [if_neg (by omega), show one (c :: r) = some (c, r) by simp only [one]; rw [if_neg (by omega), if_neg (by omega)]] at hx
                simp only [List.length_cons] at hb hr
                unfold T39_3
                refine ⟨c, rfl, ⟨?_, ?_⟩, ih _ _ (show r.length < n by omega) ?_ hx⟩
                · simp only [List.length_cons, List.length_nil, maxBytes_eq]; omega
                · simp only [List.length_cons, List.length_nil, maxBytes_eq]; omega
                · simp only [List.drop_succ_cons, List.drop_zero, List.length_append, List.length_cons, List.length_nil]; omega
        exact key (s.length + 1) [] s (by omega) (by simp at hs ⊢; omega) hn.symm
      · have ec : cutp [34] (q :: s) = (q :: s, false) := by
          unfold cutp
          rw [if_neg ?_]
          intro h
          injection h with h
          exact hq (by rw [h]; rfl)
        rw [ec]
        refine ⟨fun _ => no ?_, fun h => by simp at h⟩
        simp only [nxt]
        rw [if_neg hq])
  exact h

theorem c40 {s : Bytes} (hs : s.length ≤ 10000000) : Pus prog 40 [.s s] (.tup [.s (nxtR s).1, .s (nxtR s).2.1, .b (nxtR s).2.2]) := by
  obtain ⟨x, y, z, ⟨rfl, rfl, rfl⟩, h⟩ := p40 H.f40 (s0 := s) (K := fun x y z => x = (nxtR s).1 ∧ y = (nxtR s).2.1 ∧ z = (nxtR s).2.2) (by
    have no : nxt s = none → ([] : Bytes) = (nxtR s).1 ∧ ([] : Bytes) = (nxtR s).2.1 ∧ false = (nxtR s).2.2 := by
      intro h
      unfold nxtR
      rw [h]
      exact ⟨rfl, rfl, rfl⟩
    unfold T40_0 T40_1
    cases s with
    | nil => exact ⟨fun _ => no rfl, fun h => absurd rfl h⟩
    | cons q s =>
      refine ⟨fun h => absurd h (by simp; omega), fun _ => ⟨q, rfl, fun hq => no ?_, fun hq => ?_⟩⟩
      · simp only [nxt]
        rw [if_neg (by omega)]
      · have hn : nxt (q :: s) = nxtB (s.length + 1) [] s := by
          simp only [nxt]
          rw [if_pos (by omega)]
        unfold T40_2 T40_3 T40_4
        refine ⟨by simp, fun P hP => ?_⟩
        have key : ∀ n b r, r.length < n → b.length + r.length ≤ 10000000 → nxtB n b r = nxt (q :: s) → P r b := by
          intro n
          induction n with
          | zero => intro b r h; exact absurd h (Nat.not_lt_zero _)
          | succ n ih =>
            intro b r hr hb hx
            apply hP
            unfold T40_5
            cases r with
            | nil =>
              refine ⟨fun h => absurd h (by simp), fun _ => ?_⟩
              unfold T40_9
              exact ⟨fun _ => no (by rw [← hx]; rfl), fun h => absurd rfl h⟩
            | cons c r =>
              simp only [nxtB] at hx
              refine ⟨fun _ => ⟨c, rfl, fun h1 => ?_, fun h1 => ?_⟩, fun h => absurd (show ((c :: r).length : Int) > 0 by simp) h⟩
              · rw [if_neg (by omega)] at hx
                intro P1 hP1
                have pref : ∀ a : UInt8, (c :: r).take (chr a).length = chr a ↔ one (c :: r) = some (a, (c :: r).drop (chr a).length) := fun a => take_chr
                have lit : ∀ {i : Nat} (_ : i < 256), IntKind.u8.wrap (i : Int) = ((UInt8.ofNat i).toNat : Int) := by
                  intro i hi
                  rw [wr_u8 (by omega) (by omega)]
                  simp; omega
                -- a step that finds nothing
                have skip : ∀ i : Nat, i < 256 → one (c :: r) ≠ some (UInt8.ofNat i, (c :: r).drop (chr (UInt8.ofNat i)).length) → P1 (c :: r) b false ((i + 1 : Nat) : Int) → P1 (c :: r) b false (i : Int) := by
                  intro i hi hne hnext
                  apply hP1
                  unfold T40_6 T40_7
                  rw [lit hi, wr_succ (by omega)]
                  refine ⟨fun _ => ⟨fun _ => ⟨_, c41 H _, fun h2 => ⟨by omega, by omega, fun h3 => ?_, fun h3 => hnext⟩, fun h2 => hnext⟩, fun h => by simp at h⟩, fun h => absurd (show (i : Int) < 256 by omega) h⟩
                  exact absurd ((pref _).1 h3) hne
                cases ho : one (c :: r) with
                | none =>
                  rw [ho] at hx
                  refine loop_up0 (P := fun i => P1 (c :: r) b false i) 256 ?_ fun i hi hnext => skip i hi (by rw [ho]; intro h; cases h) hnext
                  apply hP1
                  unfold T40_6 T40_8
                  exact ⟨fun h => absurd h (by decide), fun _ => ⟨fun _ => no hx.symm, fun h => by simp at h⟩⟩
                | some p =>
                  obtain ⟨a, r'⟩ := p
                  rw [ho] at hx
                  simp only at hx
                  have hl := one_len ho
                  simp only [List.length_cons] at hl hb hr
                  have ha := a.toNat_lt
                  have hthen : P r' (b ++ [a]) := ih _ _ (by omega) (by simp only [List.length_append, List.length_cons, List.length_nil]; omega) hx
                  have hinv := one_inv ho
                  have hdr : (c :: r).drop (chr a).length = r' := by rw [hinv]; simp
                  have hfound : ∀ i : Int, P1 r' (b ++ [a]) true i := by
                    intro i
                    apply hP1
                    unfold T40_6 T40_8
                    exact ⟨fun _ => ⟨fun h => by simp at h, fun _ => ⟨fun h => by simp at h, fun _ => hthen⟩⟩, fun _ => ⟨fun h => by simp at h, fun _ => hthen⟩⟩
                  have hat : P1 (c :: r) b false (a.toNat : Int) := by
                    apply hP1
                    unfold T40_6 T40_7
                    have e1 : IntKind.u8.wrap (a.toNat : Int) = (a.toNat : Int) := wr_u8 (by omega) (by omega)
                    have hlen := congrArg List.length hinv
                    simp only [List.length_append, List.length_cons] at hlen
                    rw [e1]
                    refine ⟨fun _ => ⟨fun _ => ⟨_, c41 H a, fun h2 => ⟨by omega, by rw [toNat_cast, List.length_cons]; omega, fun h3 => ⟨a, rfl, ?_, by omega, by rw [toNat_cast, List.length_cons]; omega, ?_⟩, fun h3 => ?_⟩, fun h2 => ?_⟩, fun h => by simp at h⟩, fun h => absurd (show (a.toNat : Int) < 256 by omega) h⟩
                    · simp only [List.length_cons, List.length_nil, maxStr_eq]; omega
                    · rw [toNat_cast, hdr]
                      exact hfound _
                    · exact absurd ((pref a).2 (by rw [ho, hdr])) h3
                    · simp only [List.length_cons] at h2
                      omega
                  have below : ∀ m i : Nat, i + m = a.toNat → P1 (c :: r) b false (i : Int) := by
                    intro m
                    induction m with
                    | zero => intro i hi; simp only [Nat.add_zero] at hi; rw [hi]; exact hat
                    | succ m ihm =>
                      intro i hi
                      refine skip i (by omega) ?_ (ihm (i + 1) (by omega))
                      rw [ho]
                      intro h
                      injection h with h
                      injection h with h
                      have := congrArg UInt8.toNat h
                      simp at this
                      omega
                  exact below a.toNat 0 (by omega)
              · unfold T40_9
                rw [if_pos (by omega)] at hx
                refine ⟨fun h => absurd h (by simp; omega), fun _ => ⟨by simp, ?_⟩⟩
                unfold nxtR
                rw [← hx]
                exact ⟨rfl, rfl, rfl⟩
        exact key (s.length + 1) [] s (by omega) (by simp at hs ⊢; omega) hn.symm)
  exact h

theorem c25 (s : Bytes) : Pus prog 25 [.s s] (.tup [.s (unquo s).1, .i .i64 (unquo s).2]) := by
  obtain ⟨x, y, ⟨rfl, rfl⟩, h⟩ := p25 H.f25 (s0 := s) (K := fun x y => x = (unquo s).1 ∧ y = (unquo s).2) (by
    unfold T25_0 unquo
    refine ⟨fun h => by rw [if_pos (by omega)]; exact ⟨rfl, rfl⟩, fun hs => ⟨_, _, _, c39 H (by omega), ?_⟩⟩
    rw [if_neg (by omega)]
    unfold nxtR
    cases nxt s with
    | none => exact ⟨fun _ => ⟨rfl, rfl⟩, fun h => by simp at h⟩
    | some p =>
      obtain ⟨x, r⟩ := p
      refine ⟨fun h => by simp at h, fun _ => ⟨fun h => ?_, fun h => ?_⟩⟩
      · cases r with
        | nil => exact absurd rfl h
        | cons c r => exact ⟨rfl, rfl⟩
      · have h : r = [] := Classical.not_not.1 h
        subst h
        refine ⟨fun h => ?_, fun h => ?_⟩
        · simp only at h ⊢
          rw [if_pos (by omega)]; exact ⟨rfl, rfl⟩
        · simp only at h ⊢
          rw [if_neg (by omega)]; exact ⟨rfl, rfl⟩)
  exact h
theorem c26 (s : Bytes) : Pus prog 26 [.s s] (.tup [.s (unquo s).1, .i .i64 (unquo s).2]) := by
  obtain ⟨x, y, ⟨rfl, rfl⟩, h⟩ := p26 H.f26 (s0 := s) (K := fun x y => x = (unquo s).1 ∧ y = (unquo s).2) (by
    unfold T26_0 unquo
    refine ⟨fun h => by rw [if_pos (by omega)]; exact ⟨rfl, rfl⟩, fun hs => ⟨_, _, _, c40 H (by omega), ?_⟩⟩
    rw [if_neg (by omega)]
    unfold nxtR
    cases nxt s with
    | none => exact ⟨fun _ => ⟨rfl, rfl⟩, fun h => by simp at h⟩
    | some p =>
      obtain ⟨x, r⟩ := p
      refine ⟨fun h => by simp at h, fun _ => ⟨fun h => ?_, fun h => ?_⟩⟩
      · cases r with
        | nil => exact absurd rfl h
        | cons c r => exact ⟨rfl, rfl⟩
      · have h : r = [] := Classical.not_not.1 h
        subst h
        refine ⟨fun h => ?_, fun h => ?_⟩
        · simp only at h ⊢
          rw [if_pos (by omega)]; exact ⟨rfl, rfl⟩
        · simp only at h ⊢
          rw [if_neg (by omega)]; exact ⟨rfl, rfl⟩)
  exact h

theorem nxt_len {s x r : Bytes} (h : nxt s = some (x, r)) : x.length + r.length + 2 ≤ s.length := by
  have h1 := nxt_iff.1 h
  have h2 : x.length ≤ (chrs x).length := by
    have : ∀ x : Bytes, x.length ≤ (chrs x).length := by
      intro x
      induction x with
      | nil => exact Nat.le_refl _
      | cons c x ih =>
        have e : chrs (c :: x) = chr c ++ chrs x := rfl
        rw [e, List.length_append, List.length_cons]
        have := (chr_len c).1
        omega
    exact this x
  have h3 := congrArg List.length h1
  simp only [quo, List.length_append, List.length_cons, List.length_nil] at h3
  omega

theorem c27 (s : Bytes) : Pus prog 27 [.s s] (.tup [.sl .ext ((unlist s).1.map rowS), .i .i64 (unlist s).2]) := by
  obtain ⟨x, y, ⟨rfl, rfl⟩, h⟩ := p27 H.f27 (s0 := s) (K := fun x y => x = (unlist s).1 ∧ y = (unlist s).2) (by
    unfold T27_0
    refine ⟨fun h => by unfold unlist; rw [if_pos (by omega)]; exact ⟨rfl, rfl⟩, fun hs => ⟨fun h => by unfold unlist; rw [if_neg (by omega), if_pos h]; exact ⟨rfl, rfl⟩, fun hne => ⟨_, _, c36 H s [91], fun P hP => ?_⟩⟩⟩
    have hu : unlist s = unl (ulp [91] s [] (s.length + 1)) := by
      unfold unlist
      rw [if_neg (by omega), if_neg hne]
    generalize hU : ulp [91] s [] (s.length + 1) = U at hu
    rw [hu] at hP
    have stop : ∀ l r, none = U → P l r false := by
      intro l r h
      subst h
      apply hP
      unfold T27_1 T27_2
      exact ⟨fun h => by simp at h, fun _ => ⟨rfl, rfl⟩⟩
    have key : ∀ n l r, r.length < n → l.length + r.length ≤ 200000 → ul n l r = U → P l r true := by
      intro n
      induction n with
      | zero => intro l r h; exact absurd h (Nat.not_lt_zero _)
      | succ n ih =>
        intro l r hr hl hx
        apply hP
        unfold T27_1 T27_2
        refine ⟨fun _ => ⟨_, _, _, c39 H (s := r) (by omega), ?_⟩, fun h => by simp at h⟩
        simp only [ul] at hx
        unfold nxtR
        cases hn : nxt r with
        | none =>
          rw [hn] at hx
          simp only at hx
          subst hx
          exact ⟨fun _ => ⟨rfl, rfl⟩, fun h => by simp at h⟩
        | some p =>
          obtain ⟨x, r'⟩ := p
          have hlen := nxt_len H hn
          rw [hn] at hx
          simp only at hx
          refine ⟨fun h => by simp at h, fun _ => ⟨⟨?_, ?_⟩, fun h1 => ?_, fun h1 => ?_⟩⟩
          · simp only [List.length_cons, List.length_nil, maxBytes_eq]; omega
          · simp only [List.length_cons, List.length_nil, maxBytes_eq]; omega
          · simp only at h1
            rw [if_pos h1] at hx
            subst hx
            refine ⟨_, c32 H (l := l ++ [x]) (by simp; omega), fun h2 => ?_, fun h2 => ?_⟩
            · rw [unl_yes h2]; exact ⟨rfl, rfl⟩
            · rw [unl_no h2]; exact ⟨rfl, rfl⟩
          · simp only at h1
            rw [if_neg h1] at hx
            refine ⟨_, _, c36 H r' [44, 32], ?_⟩
            by_cases h2 : r'.take 2 = [44, 32]
            · have ec2 : cutp [44, 32] r' = (r'.drop 2, true) := by unfold cutp; rw [if_pos (show r'.take ([44, 32] : Bytes).length = [44, 32] from h2)]; rfl
              rw [ec2]
              rw [if_pos h2] at hx
              refine ih _ _ ?_ ?_ hx
              · simp; omega
              · simp; omega
            · have ec2 : cutp [44, 32] r' = (r', false) := by unfold cutp; rw [if_neg (show ¬ r'.take ([44, 32] : Bytes).length = [44, 32] from h2)]
              rw [ec2]
              rw [if_neg h2] at hx
              exact stop _ _ hx
    unfold cutp
    unfold ulp at hU
    by_cases hm : s.take ([91] : Bytes).length = [91]
    · rw [if_pos hm] at hU
      rw [if_pos hm]
      exact key (s.length + 1) [] _ (by simp; omega) (by simp; omega) hU
    · rw [if_neg hm] at hU
      rw [if_neg hm]
      exact stop _ _ hU)
  exact h

theorem c28 (s : Bytes) : Pus prog 28 [.s s] (.tup [.sl .ext ((unlist s).1.map rowS), .i .i64 (unlist s).2]) := by
  obtain ⟨x, y, ⟨rfl, rfl⟩, h⟩ := p28 H.f28 (s0 := s) (K := fun x y => x = (unlist s).1 ∧ y = (unlist s).2) (by
    unfold T28_0 T28_1
    refine ⟨fun h => by unfold unlist; rw [if_pos (by omega)]; exact ⟨rfl, rfl⟩, fun hs => ⟨fun h => by unfold unlist; rw [if_neg (by omega), if_pos h]; exact ⟨rfl, rfl⟩, fun hne P hP => ?_⟩⟩
    have hu : unlist s = unl (ulp [91] s [] (s.length + 1)) := by
      unfold unlist
      rw [if_neg (by omega), if_neg hne]
    generalize hU : ulp [91] s [] (s.length + 1) = U at hu
    rw [hu] at hP
    have part : ∀ (n : Nat) (l : List Bytes) (r p : Bytes), r.length < n + p.length → l.length + r.length ≤ 200000 → (∀ l' r', r'.length < n → l'.length + r'.length ≤ 200000 → ulp [44, 32] r' l' n = U → P r' l' false) → ulp p r l (n + 1) = U → T28_3 prog (fun x y => x = (unl U).1 ∧ y = (unl U).2) P r l p := by
      intro n l r p hr hl ih hx
      unfold ulp at hx
      unfold T28_3
      by_cases hm : r.take p.length = p
      · rw [if_pos hm] at hx
        have hlp : p.length ≤ r.length := by
          have := congrArg List.length hm
          simp only [List.length_take] at this
          omega
        refine ⟨fun h => absurd h (by omega), fun _ => ⟨by omega, by omega, fun h => absurd hm h, fun _ => ⟨by omega, by omega, _, _, _, c40 H (by simp; omega), ?_⟩⟩⟩
        rw [toNat_cast]
        simp only [ul] at hx
        unfold nxtR
        cases hn : nxt (r.drop p.length) with
        | none =>
          rw [hn] at hx
          simp only at hx
          subst hx
          exact ⟨fun _ => ⟨rfl, rfl⟩, fun h => by simp at h⟩
        | some q =>
          obtain ⟨x, r'⟩ := q
          have hlen := nxt_len H hn
          rw [List.length_drop] at hlen
          rw [hn] at hx
          simp only at hx
          refine ⟨fun h => by simp at h, fun _ => ⟨⟨?_, ?_⟩, fun h1 => ?_, fun h1 => ?_⟩⟩
          · simp only [List.length_cons, List.length_nil, maxBytes_eq]; omega
          · simp only [List.length_cons, List.length_nil, maxBytes_eq]; omega
          · simp only at h1
            rw [if_pos h1] at hx
            subst hx
            unfold T28_4
            refine ⟨_, c20 H (l := l ++ [x]) (by simp; omega), fun h2 => ?_, fun h2 => ?_⟩
            · rw [unl_yes (by simpa using h2)]; exact ⟨rfl, rfl⟩
            · rw [unl_no (by simpa using h2)]; exact ⟨rfl, rfl⟩
          · simp only at h1
            rw [if_neg h1] at hx
            exact ih (l ++ [x]) r' (by omega) (by simp; omega) hx
      · rw [if_neg hm] at hx
        subst hx
        exact ⟨fun _ => ⟨rfl, rfl⟩, fun h => ⟨by omega, by omega, fun _ => ⟨rfl, rfl⟩, fun h => absurd hm h⟩⟩
    have key : ∀ n l r, r.length < n → l.length + r.length ≤ 200000 → ulp [44, 32] r l n = U → P r l false := by
      intro n
      induction n with
      | zero => intro l r h; exact absurd h (Nat.not_lt_zero _)
      | succ n ih =>
        intro l r hr hl hx
        apply hP
        unfold T28_2
        exact ⟨fun h => by simp at h, fun _ => part n l r [44, 32] (by simp; omega) hl ih hx⟩
    apply hP
    unfold T28_2
    exact ⟨fun _ => part s.length [] s [91] (by simp) (by simp; omega) (key s.length) hU, fun h => by simp at h⟩)
  exact h
theorem c29 {a b : List Bytes} (ha : a.length ≤ 1000000000) : Pus prog 29 [.sl .ext (a.map rowS), .sl .ext (b.map rowS)] (.b (decide (a = b))) := by
  obtain ⟨x, rfl, h⟩ := p29 H.f29 (a0 := a) (b1 := b) (K := fun x => x = decide (a = b)) (by
    unfold T29_0
    refine ⟨fun h => (decide_eq_false fun e => h (by rw [e])).symm, fun hl P hP => ?_⟩
    have hlen : a.length = b.length := by omega
    have key : ∀ m i : Nat, i + m = a.length → (∀ j, j < i → a[j]? = b[j]?) → P (i : Int) := by
      intro m
      induction m with
      | zero =>
        intro i hi hj
        apply hP
        unfold T29_1 T29_2
        refine ⟨fun h => absurd h (by omega), fun _ => (decide_eq_true ?_).symm⟩
        apply List.ext_getElem?
        intro j
        rcases Nat.lt_or_ge j i with h | h
        · exact hj j h
        · rw [List.getElem?_eq_none (by omega), List.getElem?_eq_none (by omega)]
      | succ m ih =>
        intro i hi hj
        have h1 : i < a.length := by omega
        have h2 : i < b.length := by omega
        apply hP
        unfold T29_1
        refine ⟨fun _ => ⟨by omega, a[i], by rw [toNat_cast, List.getElem?_eq_getElem h1], by omega, b[i], by rw [toNat_cast, List.getElem?_eq_getElem h2], fun h => ?_, fun h => ?_⟩, fun h => absurd h (by omega)⟩
        · refine (decide_eq_false fun e => h ?_).symm
          subst e
          rfl
        · rw [wr_succ (by omega)]
          refine ih (i + 1) (by omega) fun j hj' => ?_
          rcases Nat.lt_or_ge j i with h3 | h3
          · exact hj j h3
          · have : j = i := by omega
            subst this
            rw [List.getElem?_eq_getElem h1, List.getElem?_eq_getElem h2, Classical.not_not.1 h]
    exact key a.length 0 (by omega) (by simp))
  exact h
end
end Go.AM

/- Chapter 38: values read from texts, in plain Lean. -/
namespace Go.AM
open Go

/-- How many bytes are digits. -/
def isD (c : UInt8) : Bool := decide (48 ≤ c.toNat) && decide (c.toNat ≤ 57)
def digN : Bytes → Nat
  | [] => 0
  | c :: s => if isD c = true then 1 + digN s else 0
def numN (s : Bytes) : Nat := if s.head? = some 45 then 1 + digN (s.drop 1) else digN s
theorem digN_le : ∀ s : Bytes, digN s ≤ s.length
  | [] => Nat.le_refl _
  | c :: s => by
    have := digN_le s
    rw [digN, List.length_cons]
    split <;> omega
theorem numN_le (s : Bytes) : numN s ≤ s.length := by
  unfold numN
  cases s with
  | nil => simp [digN]
  | cons c s =>
    have h1 := digN_le s
    have h2 := digN_le (c :: s)
    split
    · simp only [List.drop_succ_cons, List.drop_zero, List.length_cons]; omega
    · exact h2
/-- How many bytes there are up to the quotation mark that ends a text. -/
def qs : Bytes → Option Nat
  | [] => none
  | c :: r => if c = 92 then (match r with | [] => none | _ :: r' => (qs r').map (· + 2)) else if c = 34 then some 1 else (qs r).map (· + 1)
theorem qs_le : ∀ (n : Nat) (s : Bytes) (k : Nat), s.length ≤ n → qs s = some k → 1 ≤ k ∧ k ≤ s.length
  | n, [], k, _, h => by rw [qs] at h; cases h
  | n + 1, c :: r, k, hn, h => by
    rw [qs.eq_def] at h
    simp only at h
    simp only [List.length_cons] at hn ⊢
    split at h
    · cases r with
      | nil => cases h
      | cons c' r' =>
        simp only [Option.map_eq_some_iff] at h
        obtain ⟨m, h1, rfl⟩ := h
        simp only [List.length_cons] at hn ⊢
        have := qs_le n r' m (by omega) h1
        omega
    · split at h
      · cases h; omega
      · simp only [Option.map_eq_some_iff] at h
        obtain ⟨m, h1, rfl⟩ := h
        have := qs_le n r m (by omega) h1
        omega

def scNum (s : Bytes) : Int × Bool × Bytes := ((unnum (s.take (numN s))).1, decide ((unnum (s.take (numN s))).2 = 0), s.drop (numN s))
def scQ (s : Bytes) : Bytes × Bool × Bytes := match qs (s.drop 1) with
  | none => ([], false, s)
  | some k => ((unquo (s.take (k + 1))).1, decide ((unquo (s.take (k + 1))).2 = 0), s.drop (k + 1))
/-- Values, one after the other. -/
def scG (f : Bytes → Val × Bool × Bytes) (kind : Int) (stop : Bytes) : Nat → List Val → Bytes → Val × Bool × Bytes
  | 0, acc, s => (Val.mk kind 0 [] acc false, false, s)
  | k + 1, acc, s => if (f s).2.1 = false then (Val.mk kind 0 [] acc false, false, (f s).2.2) else
      if (cutp stop (f s).2.2).2 = true then (Val.mk kind 0 [] (acc ++ [(f s).1]) false, true, (cutp stop (f s).2.2).1) else
      if (cutp [44, 32] (cutp stop (f s).2.2).1).2 = false then (Val.mk kind 0 [] (acc ++ [(f s).1]) false, false, (cutp [44, 32] (cutp stop (f s).2.2).1).1) else
      scG f kind stop k (acc ++ [(f s).1]) (cutp [44, 32] (cutp stop (f s).2.2).1).1
def scL (f : Bytes → Val × Bool × Bytes) (kind : Int) (stop s : Bytes) : Val × Bool × Bytes :=
  if (cutp stop s).2 = true then (Val.mk kind 0 [] [] false, true, (cutp stop s).1) else scG f kind stop 17 [] (cutp stop s).1
def scV : Nat → Bytes → Val × Bool × Bytes
  | 0, s => (vz, false, s)
  | d + 1, s => if s = [] then (vz, false, s) else
      if (cutp tTrue s).2 = true then (Val.mk 1 1 [] [] false, true, (cutp tTrue s).1) else
      if (cutp tFalse s).2 = true then (Val.mk 1 0 [] [] false, true, (cutp tFalse s).1) else
      if (cutp tNil s).2 = true then (Val.mk 4 0 [] [] false, true, (cutp tNil s).1) else
      if (cutp tCutP s).2 = true then (Val.mk 4 0 [] [] true, true, (cutp tCutP s).1) else
      if (cutp tCutS s).2 = true then (Val.mk 7 0 [] [] true, true, (cutp tCutS s).1) else
      if (cutp [38] s).2 = true then (Val.mk 4 0 [] [(scV d (cutp [38] s).1).1] false, (scV d (cutp [38] s).1).2) else
      if (cutp [123] s).2 = true then scL (scV d) 5 [125] (cutp [123] s).1 else
      if (cutp [91] s).2 = true then scL (scV d) 6 [93] (cutp [91] s).1 else
      if (cutp [60] s).2 = true then scL (scV d) 7 [62] (cutp [60] s).1 else
      if s.head? = some 34 then (Val.mk 3 0 (scQ s).1 [] false, (scQ s).2) else
      (Val.mk 2 (scNum s).1 [] [] false, (scNum s).2)
theorem cutp_no {p s : Bytes} (h : (cutp p s).2 = false) : (cutp p s).1 = s := by
  unfold cutp at h ⊢
  split
  · rename_i h1; rw [if_pos h1] at h; cases h
  · rfl
theorem cutp_app (p s : Bytes) : cutp p (p ++ s) = (s, true) := by
  unfold cutp
  rw [if_pos (by simp), List.drop_left]
theorem cutp_head {c d : UInt8} {p s : Bytes} (h : c ≠ d) : cutp (c :: p) (d :: s) = (d :: s, false) := by
  unfold cutp
  rw [if_neg]
  simp only [List.length_cons, List.take_succ_cons, List.cons.injEq]
  rintro ⟨rfl, _⟩
  exact h rfl
theorem cutp_cons (c : UInt8) (p s : Bytes) : cutp (c :: p) (c :: s) = if (cutp p s).2 = true then ((cutp p s).1, true) else (c :: s, false) := by
  unfold cutp
  simp only [List.length_cons, List.take_succ_cons, List.cons.injEq, true_and, List.drop_succ_cons]
  split <;> simp_all
theorem cutp_nil {c : UInt8} {p : Bytes} : cutp (c :: p) [] = ([], false) := by
  unfold cutp
  rw [if_neg (by simp)]

/-! numbers read are in range -/
theorem unnum_rng (s : Bytes) : -9223372036854775808 ≤ (unnum s).1 ∧ (unnum s).1 < 9223372036854775808 := by
  have h1 := rd_le 10 9223372036854775808 (s.drop 1)
  have h2 := rd_le 10 9223372036854775807 s
  unfold unnum
  split
  · exact ⟨by decide, by decide⟩
  split
  · split
    · exact ⟨by decide, by decide⟩
    · dsimp only
      omega
  · dsimp only
    omega
theorem Wf.ite {c : Prop} [Decidable c] {a b : Val × Bool × Bytes} (ha : Wf a.1) (hb : Wf b.1) : Wf (if c then a else b).1 := by
  split
  · exact ha
  · exact hb
theorem scG_wf {f : Bytes → Val × Bool × Bytes} {kind : Int} {stop : Bytes} (hk : 0 ≤ kind ∧ kind < 256) (hf : ∀ s, Wf (f s).1) : ∀ (n : Nat) (acc : List Val) (s : Bytes), n ≤ 17 → acc.length + n = 17 → (∀ x ∈ acc, Wf x) → Wf (scG f kind stop n acc s).1
  | 0, acc, s, _, hl, h => by
    rw [scG]
    exact .mk hk (by decide) (by omega) h
  | n + 1, acc, s, hn, hl, h => by
    have h1 : ∀ x ∈ acc ++ [(f s).1], Wf x := by
      intro x hx
      rcases List.mem_append.1 hx with hx | hx
      · exact h x hx
      · rw [List.mem_singleton.1 hx]; exact hf s
    rw [scG]
    split
    · exact .mk hk (by decide) (by omega) h
    · split
      · exact .mk hk (by decide) (by simp; omega) h1
      · split
        · exact .mk hk (by decide) (by simp; omega) h1
        · exact scG_wf hk hf n _ _ (by omega) (by simp; omega) h1
theorem scL_wf {f : Bytes → Val × Bool × Bytes} {kind : Int} {stop s : Bytes} (hk : 0 ≤ kind ∧ kind < 256) (hf : ∀ s, Wf (f s).1) : Wf (scL f kind stop s).1 := by
  unfold scL
  split
  · exact .mk hk (by decide) (by decide) (by simp)
  · exact scG_wf hk hf 17 [] _ (by omega) rfl (by simp)
theorem scV_wf : ∀ (d : Nat) (s : Bytes), Wf (scV d s).1
  | 0, s => Wf.zero
  | d + 1, s => by
    have w0 : ∀ (k n : Int) (c : Bool), 0 ≤ k ∧ k < 256 → -9223372036854775808 ≤ n ∧ n < 9223372036854775808 → Wf (Val.mk k n [] [] c) := fun k n c h1 h2 => .mk h1 h2 (by decide) (by simp)
    rw [scV]
    exact .ite Wf.zero (.ite (w0 _ _ _ (by decide) (by decide)) (.ite (w0 _ _ _ (by decide) (by decide)) (.ite (w0 _ _ _ (by decide) (by decide)) (.ite (w0 _ _ _ (by decide) (by decide)) (.ite (w0 _ _ _ (by decide) (by decide))
      (.ite (.mk (by decide) (by decide) (by simp) (fun x hx => by rw [List.mem_singleton.1 hx]; exact scV_wf d _)) (.ite (scL_wf (by decide) (scV_wf d)) (.ite (scL_wf (by decide) (scV_wf d)) (.ite (scL_wf (by decide) (scV_wf d))
      (.ite (.mk (by decide) (by decide) (by simp) (by simp)) (.mk (by decide) (unnum_rng _) (by simp) (by simp))))))))))))

/-! reading what was written -/
def Stop (r : Bytes) : Prop := ∀ c, r.head? = some c → c = 44 ∨ c = 125 ∨ c = 93 ∨ c = 62
theorem Stop.notD {r : Bytes} (h : Stop r) : digN r = 0 := by
  cases r with
  | nil => rfl
  | cons c r =>
    rw [digN, if_neg]
    rcases h c rfl with rfl | rfl | rfl | rfl <;> decide
theorem digN_all : ∀ (s r : Bytes), (∀ c ∈ s, isD c = true) → digN r = 0 → digN (s ++ r) = s.length
  | [], r, _, h => h
  | c :: s, r, hs, h => by
    rw [List.cons_append, digN, if_pos (hs c List.mem_cons_self), digN_all s r (fun c hc => hs c (List.mem_cons_of_mem _ hc)) h, List.length_cons]
    omega
theorem hexd_isD : ∀ n : Fin 10, isD (hexd n.val) = true := by decide
theorem ds_isD : ∀ (f n : Nat), ∀ c ∈ ds 10 f n, isD c = true
  | 0, n, c, h => by simp [ds] at h
  | f + 1, n, c, h => by
    rw [ds] at h
    split at h
    · rename_i hn
      rw [List.mem_singleton.1 h]
      exact hexd_isD ⟨n, hn⟩
    · rcases List.mem_append.1 h with h | h
      · exact ds_isD f _ c h
      · rw [List.mem_singleton.1 h]
        exact hexd_isD ⟨n % 10, Nat.mod_lt _ (by decide)⟩
theorem isD_ne {c : UInt8} {l : List UInt8} (h : isD c = true) (hl : (l.all fun x => !isD x) = true) : c ∉ l := by
  intro hc
  have := List.all_eq_true.1 hl c hc
  rw [h] at this
  cases this
/-- What a value's text begins with. -/
theorem num_head (n : Int) : ∃ c r, num n = c :: r ∧ (c = 45 ∨ isD c = true) := by
  have hd : ∀ n, ∃ c r, digs 10 n = c :: r ∧ isD c = true := by
    intro n
    have h1 := digs_ne 10 n
    have h2 := ds_isD 64 n
    unfold digs at *
    cases h : ds 10 64 n with
    | nil => exact absurd h h1
    | cons c r => exact ⟨c, r, rfl, h2 c (by rw [h]; exact List.mem_cons_self)⟩
  unfold num
  split
  · exact ⟨45, _, rfl, .inl rfl⟩
  · obtain ⟨c, r, h1, h2⟩ := hd n.toNat
    exact ⟨c, r, h1, .inr h2⟩
theorem numN_num {n : Int} {r : Bytes} (hr : digN r = 0) : numN (num n ++ r) = (num n).length := by
  unfold num numN
  split
  · rw [List.cons_append, List.head?_cons, if_pos rfl, List.drop_succ_cons, List.drop_zero, List.length_cons, Nat.add_comm]
    congr 1
    exact digN_all _ r (ds_isD 64 _) hr
  · obtain ⟨c, t, h1, h2⟩ := num_head n
    rw [num, if_neg (by assumption)] at h1
    rw [if_neg]
    · exact digN_all _ r (ds_isD 64 _) hr
    rw [h1, List.cons_append, List.head?_cons]
    intro e
    injection e with e
    subst e
    rcases h2 with h2 | h2
    · have := ds_isD 64 n.toNat 45 (by show (45 : UInt8) ∈ digs 10 n.toNat; rw [h1]; exact List.mem_cons_self)
      exact absurd this (by decide)
    · exact absurd h2 (by decide)
theorem scNum_num {n : Int} {r : Bytes} (h1 : -9223372036854775808 ≤ n) (h2 : n < 9223372036854775808) (hr : digN r = 0) : scNum (num n ++ r) = (n, true, r) := by
  unfold scNum
  rw [numN_num hr, List.take_left, List.drop_left, unnum_num h1 h2]
  rfl
theorem qs_chrs : ∀ (s r : Bytes), qs (chrs s ++ 34 :: r) = some ((chrs s).length + 1)
  | [], r => by
    show qs (34 :: r) = some 1
    rw [qs.eq_def]
    simp
  | c :: s, r => by
    have ih := qs_chrs s r
    have e : chrs (c :: s) = chr c ++ chrs s := rfl
    have hx : ∀ k : Fin 16, hexd k.val ≠ 92 ∧ hexd k.val ≠ 34 := by decide
    rw [e, List.append_assoc]
    unfold chr
    split
    · rw [List.cons_append, List.cons_append, List.nil_append, qs.eq_def]
      simp only [if_true, ih, Option.map_some, List.length_append, List.length_cons, List.length_nil]
      congr 1
      omega
    · rename_i h1
      split
      · rw [List.cons_append, List.cons_append, List.nil_append, qs.eq_def]
        simp only [if_true, ih, Option.map_some, List.length_append, List.length_cons, List.length_nil]
        congr 1
        omega
      · split
        · have hc := c.toNat_lt
          obtain ⟨a1, a2⟩ := hx ⟨c.toNat / 16, by omega⟩
          obtain ⟨b1, b2⟩ := hx ⟨c.toNat % 16, by omega⟩
          simp only at a1 a2 b1 b2
          rw [List.cons_append, List.cons_append, List.cons_append, List.cons_append, List.nil_append, qs.eq_def]
          simp only [if_true]
          rw [qs.eq_def]
          simp only [if_neg a1, if_neg a2]
          rw [qs.eq_def]
          simp only [if_neg b1, if_neg b2, ih, Option.map_some, List.length_append, List.length_cons, List.length_nil]
          congr 1
          omega
        · have c1 : c ≠ 92 := by rintro rfl; exact h1 (.inr rfl)
          have c2 : c ≠ 34 := by rintro rfl; exact h1 (.inl rfl)
          rw [List.cons_append, List.nil_append, qs.eq_def]
          simp only [if_neg c1, if_neg c2, ih, Option.map_some, List.length_append, List.length_cons, List.length_nil]
          congr 1
          omega
theorem scQ_quo {s r : Bytes} (h : s.length ≤ 400) : scQ (quo s ++ r) = (s, true, r) := by
  have e : quo s ++ r = 34 :: (chrs s ++ 34 :: r) := by simp [quo]
  have e2 : (quo s).length = (chrs s).length + 1 + 1 := by simp [quo]
  unfold scQ
  rw [show (quo s ++ r).drop 1 = chrs s ++ 34 :: r by rw [e]; rfl, qs_chrs]
  simp only
  rw [← e2, List.take_left, List.drop_left, unquo_quo h]
  rfl
end Go.AM

/- Chapter 38: a value's text is read back, in plain Lean. -/
namespace Go.AM
open Go
theorem txt_head (v : Val) : ∃ c t, txt v = c :: t ∧ (c ∈ ([116, 102, 110, 38, 60, 123, 91, 34, 45] : Bytes) ∨ isD c = true) := by
  rw [txt_eq]
  have h1 := num_head v.int
  repeat' split
  all_goals first
    | (obtain ⟨c, t, h2, h3⟩ := h1
       refine ⟨c, t, h2, ?_⟩
       rcases h3 with rfl | h3
       · exact .inl (by decide)
       · exact .inr h3)
    | exact ⟨_, _, rfl, .inl (by decide)⟩
theorem txt_head_ne {v : Val} {e : UInt8} (he : (e = 46 ∨ e = 125 ∨ e = 93 ∨ e = 62 ∨ e = 44)) (p r : Bytes) : (cutp (e :: p) (txt v ++ r)) = (txt v ++ r, false) := by
  obtain ⟨c, t, h1, h2⟩ := txt_head v
  rw [h1, List.cons_append]
  refine cutp_head ?_
  rintro rfl
  rcases h2 with h2 | h2
  · rcases he with rfl | rfl | rfl | rfl | rfl <;> exact absurd h2 (by decide)
  · rcases he with rfl | rfl | rfl | rfl | rfl <;> exact absurd h2 (by decide)
section
variable {f : Bytes → Val × Bool × Bytes} {kind : Int} {e : UInt8}
theorem scG_txts (he : e = 125 ∨ e = 93 ∨ e = 62) : ∀ (l : List Val) (x : Val) (acc : List Val) (n : Nat) (r : Bytes), (∀ y ∈ x :: l, ∀ r, Stop r → f (txt y ++ r) = (y, true, r)) → l.length < n → scG f kind [e] n acc (txts (x :: l) ++ e :: r) = (Val.mk kind 0 [] (acc ++ x :: l) false, true, r)
  | l, x, acc, 0, r, hf, hn => absurd hn (Nat.not_lt_zero _)
  | [], x, acc, n + 1, r, hf, hn => by
    have hs : Stop (e :: r) := by intro c hc; injection hc with hc; subst hc; rcases he with h | h | h <;> simp [h]
    have h1 := hf x List.mem_cons_self (e :: r) hs
    have h2 : cutp [e] (e :: r) = (r, true) := cutp_app [e] r
    rw [txts_one, scG]
    simp only [h1, h2, Bool.true_eq_false, if_false, if_true]
  | y :: l, x, acc, n + 1, r, hf, hn => by
    have e1 : txts (x :: y :: l) ++ e :: r = txt x ++ (44 :: 32 :: (txts (y :: l) ++ e :: r)) := by simp [txts, txtl]
    have hs : Stop (44 :: 32 :: (txts (y :: l) ++ e :: r)) := by intro c hc; injection hc with hc; subst hc; exact .inl rfl
    have h1 := hf x List.mem_cons_self _ hs
    have hne : e ≠ 44 := by rcases he with rfl | rfl | rfl <;> decide
    have h2 : cutp [e] (44 :: 32 :: (txts (y :: l) ++ e :: r)) = (44 :: 32 :: (txts (y :: l) ++ e :: r), false) := cutp_head hne
    have h3 : cutp [44, 32] (44 :: 32 :: (txts (y :: l) ++ e :: r)) = (txts (y :: l) ++ e :: r, true) := cutp_app [44, 32] _
    have ih := scG_txts he l y (acc ++ [x]) n r (fun z hz => hf z (List.mem_cons_of_mem _ hz)) (by simp only [List.length_cons] at hn; omega)
    rw [e1, scG]
    simp only [h1, h2, h3, Bool.true_eq_false, Bool.false_eq_true, if_false]
    rw [ih, List.append_assoc]
    rfl
theorem scL_txts (he : e = 125 ∨ e = 93 ∨ e = 62) (l : List Val) (r : Bytes) (hf : ∀ y ∈ l, ∀ r, Stop r → f (txt y ++ r) = (y, true, r)) (hn : l.length ≤ 16) : scL f kind [e] (txts l ++ e :: r) = (Val.mk kind 0 [] l false, true, r) := by
  unfold scL
  cases l with
  | nil =>
    have h2 : cutp [e] (txts [] ++ e :: r) = (r, true) := cutp_app [e] r
    simp only [h2, if_true]
  | cons x l =>
    have h2 : cutp [e] (txts (x :: l) ++ e :: r) = (txts (x :: l) ++ e :: r, false) := by
      rw [txts, List.append_assoc]
      exact txt_head_ne (by rcases he with h | h | h <;> simp [h]) _ _
    simp only [h2, Bool.false_eq_true, if_false]
    exact scG_txts he l x [] 17 r hf (by simp only [List.length_cons] at hn; omega)
end
theorem txts_head {l : List Val} {e : UInt8} {p r : Bytes} : (cutp (46 :: p) (txts l ++ 62 :: r)).2 = false := by
  cases l with
  | nil => rw [show txts [] ++ 62 :: r = 62 :: r from rfl, cutp_head (by decide)]
  | cons x l => rw [txts, List.append_assoc, txt_head_ne (.inl rfl)]
theorem len0 {α : Type} {l : List α} (h : l.length = 0) : l = [] := List.length_eq_zero_iff.1 h
/-- A value's text is read back. -/
theorem scV_txt : ∀ (d : Nat) (v : Val), okv d v = true → Wf v → ∀ r, Stop r → scV d (txt v ++ r) = (v, true, r)
  | 0, v, h, _, r, hr => by cases h
  | d + 1, v, h, hw, r, hr => by
    have h1 := okv_head h
    have h2 := okv_sub h
    have ih : ∀ y ∈ v.list, ∀ r, Stop r → scV d (txt y ++ r) = (y, true, r) := fun y hy => scV_txt d y (h2 y hy) (hw.e y hy)
    have hn := hw.n
    have hne : ∀ x : Bytes, ¬(txt v ++ x = []) := fun x e => txt_ne v (List.append_eq_nil_iff.1 e).1
    clear h h2 hw
    cases v with
    | mk k n s l c =>
    unfold Val.okh Okh at h1
    simp only [Val.kind_mk, Val.int_mk, Val.text_mk, Val.list_mk, Val.cut_mk] at h1 ih hn
    have ht := hne r
    rw [scV, if_neg ht]
    clear ht hne
    have nohead : ∀ {a b : UInt8} {p t : Bytes}, a ≠ b → (cutp (a :: p) (b :: t)).2 = false := fun h => by rw [cutp_head h]
    rcases h1 with ⟨rfl, a1, a2, a3, a4⟩ | ⟨rfl, a1, a2, a3⟩ | ⟨rfl, a1, a2, rfl, a4⟩ | ⟨rfl, rfl, a1, a2, a3⟩ | ⟨rfl, rfl, a1, a2, a3⟩ | ⟨rfl, rfl, a1, a2, a3, a4⟩ | ⟨rfl, rfl, a1, a2, a3⟩
    · have := len0 a1; have := len0 a3; subst l; subst s
      have : c = false := by cases c; rfl; cases a2
      subst c
      rcases a4 with rfl | rfl
      · rw [show txt (Val.mk 1 0 [] [] false) = tFalse from rfl, show tFalse ++ r = 102 :: ([97, 108, 115, 101] ++ r) from rfl, tTrue, if_neg (by rw [nohead (by decide)]; decide)]
        have := cutp_app tFalse r
        rw [show tFalse ++ r = 102 :: ([97, 108, 115, 101] ++ r) from rfl] at this
        rw [if_pos (by rw [this]), this]
      · rw [show txt (Val.mk 1 1 [] [] false) = tTrue from rfl, if_pos (by rw [cutp_app]), cutp_app]
    · have := len0 a1; have := len0 a3; subst l; subst s
      have : c = false := by cases c; rfl; cases a2
      subst c
      rw [show txt (Val.mk 2 n [] [] false) = num n from rfl]
      have hd := scNum_num (r := r) hn.1 hn.2 hr.notD
      obtain ⟨x, t, h3, h4⟩ := num_head n
      rw [h3] at hd ⊢
      rw [List.cons_append] at hd ⊢
      have hx : ∀ y : UInt8, y ∈ ([116, 102, 110, 38, 60, 123, 91, 34] : Bytes) → y ≠ x := by
        rintro y hy rfl
        rcases h4 with rfl | h4
        · exact absurd hy (by decide)
        · exact isD_ne h4 (by decide) hy
      rw [tTrue, if_neg (by rw [nohead (hx _ (by decide))]; decide), tFalse, if_neg (by rw [nohead (hx _ (by decide))]; decide), tNil, if_neg (by rw [nohead (hx _ (by decide))]; decide), tCutP, if_neg (by rw [nohead (hx _ (by decide))]; decide), tCutS, if_neg (by rw [nohead (hx _ (by decide))]; decide),
        if_neg (by rw [nohead (hx _ (by decide))]; decide), if_neg (by rw [nohead (hx _ (by decide))]; decide), if_neg (by rw [nohead (hx _ (by decide))]; decide), if_neg (by rw [nohead (hx _ (by decide))]; decide),
        if_neg (by rw [List.head?_cons]; intro e; injection e with e; exact hx 34 (by decide) e.symm), hd]
    · have := len0 a1; subst l
      have : c = false := by cases c; rfl; cases a2
      subst c
      rw [show txt (Val.mk 3 0 s [] false) = quo s from rfl]
      have hd := scQ_quo (s := s) (r := r) (by omega)
      rw [show quo s ++ r = 34 :: (chrs s ++ [34] ++ r) from rfl] at hd ⊢
      rw [tTrue, if_neg (by rw [nohead (by decide)]; decide), tFalse, if_neg (by rw [nohead (by decide)]; decide), tNil, if_neg (by rw [nohead (by decide)]; decide), tCutP, if_neg (by rw [nohead (by decide)]; decide), tCutS, if_neg (by rw [nohead (by decide)]; decide),
        if_neg (by rw [nohead (by decide)]; decide), if_neg (by rw [nohead (by decide)]; decide), if_neg (by rw [nohead (by decide)]; decide), if_neg (by rw [nohead (by decide)]; decide), List.head?_cons, if_pos rfl, hd]
    · have := len0 a1; subst s
      cases c with
      | true =>
        have := len0 (a3.resolve_left (by decide)); subst l
        have e := cutp_app tCutP r
        rw [show txt (Val.mk 4 0 [] [] true) = tCutP from rfl]
        rw [show tCutP ++ r = 38 :: ([46, 46, 46] ++ r) from rfl] at e ⊢
        rw [tTrue, if_neg (by rw [nohead (by decide)]; decide), tFalse, if_neg (by rw [nohead (by decide)]; decide), tNil, if_neg (by rw [nohead (by decide)]; decide), if_pos (by rw [e]), e]
      | false =>
        match l, a2 with
        | [], _ =>
          have e := cutp_app tNil r
          rw [show txt (Val.mk 4 0 [] [] false) = tNil from rfl]
          rw [show tNil ++ r = 110 :: ([105, 108] ++ r) from rfl] at e ⊢
          rw [tTrue, if_neg (by rw [nohead (by decide)]; decide), tFalse, if_neg (by rw [nohead (by decide)]; decide), if_pos (by rw [e]), e]
        | [w], _ =>
          rw [show txt (Val.mk 4 0 [] [w] false) = 38 :: txts [w] from rfl, txts_one, List.cons_append]
          have e : cutp [38] (38 :: (txt w ++ r)) = (txt w ++ r, true) := cutp_app [38] _
          have e2 : (cutp tCutP (38 :: (txt w ++ r))).2 = false := by rw [tCutP, cutp_cons, txt_head_ne (.inl rfl)]; rfl
          rw [tTrue, if_neg (by rw [nohead (by decide)]; decide), tFalse, if_neg (by rw [nohead (by decide)]; decide), tNil, if_neg (by rw [nohead (by decide)]; decide), if_neg (by rw [e2]; decide), tCutS, if_neg (by rw [nohead (by decide)]; decide), if_pos (by rw [e]), e]
          simp only
          rw [ih w List.mem_cons_self r hr]
    · have := len0 a1; subst s
      have : c = false := by cases c; rfl; cases a3
      subst c
      rw [show txt (Val.mk 5 0 [] l false) = 123 :: (txts l ++ [125]) from rfl]
      have e0 : 123 :: (txts l ++ [125]) ++ r = 123 :: (txts l ++ 125 :: r) := by simp
      have e : cutp [123] (123 :: (txts l ++ 125 :: r)) = (txts l ++ 125 :: r, true) := cutp_app [123] _
      rw [e0, tTrue, if_neg (by rw [nohead (by decide)]; decide), tFalse, if_neg (by rw [nohead (by decide)]; decide), tNil, if_neg (by rw [nohead (by decide)]; decide), tCutP, if_neg (by rw [nohead (by decide)]; decide), tCutS, if_neg (by rw [nohead (by decide)]; decide), if_neg (by rw [nohead (by decide)]; decide), if_pos (by rw [e]), e]
      exact scL_txts (.inl rfl) l r ih (by omega)
    · have := len0 a1; subst s
      have : c = false := by cases c; rfl; cases a4
      subst c
      rw [show txt (Val.mk 6 0 [] l false) = 91 :: (txts l ++ [93]) from rfl]
      have e0 : 91 :: (txts l ++ [93]) ++ r = 91 :: (txts l ++ 93 :: r) := by simp
      have e : cutp [91] (91 :: (txts l ++ 93 :: r)) = (txts l ++ 93 :: r, true) := cutp_app [91] _
      rw [e0, tTrue, if_neg (by rw [nohead (by decide)]; decide), tFalse, if_neg (by rw [nohead (by decide)]; decide), tNil, if_neg (by rw [nohead (by decide)]; decide), tCutP, if_neg (by rw [nohead (by decide)]; decide), tCutS, if_neg (by rw [nohead (by decide)]; decide), if_neg (by rw [nohead (by decide)]; decide), if_neg (by rw [nohead (by decide)]; decide), if_pos (by rw [e]), e]
      exact scL_txts (.inr (.inl rfl)) l r ih (by omega)
    · have := len0 a1; subst s
      cases c with
      | true =>
        have := len0 (a3.resolve_left (by decide)); subst l
        have e := cutp_app tCutS r
        rw [show txt (Val.mk 7 0 [] [] true) = tCutS from rfl]
        rw [show tCutS ++ r = 60 :: ([46, 46, 46, 62] ++ r) from rfl] at e ⊢
        rw [tTrue, if_neg (by rw [nohead (by decide)]; decide), tFalse, if_neg (by rw [nohead (by decide)]; decide), tNil, if_neg (by rw [nohead (by decide)]; decide), tCutP, if_neg (by rw [nohead (by decide)]; decide), if_pos (by rw [e]), e]
      | false =>
        rw [show txt (Val.mk 7 0 [] l false) = 60 :: (txts l ++ [62]) from rfl]
        have e0 : 60 :: (txts l ++ [62]) ++ r = 60 :: (txts l ++ 62 :: r) := by simp
        have e : cutp [60] (60 :: (txts l ++ 62 :: r)) = (txts l ++ 62 :: r, true) := cutp_app [60] _
        have e2 : (cutp tCutS (60 :: (txts l ++ 62 :: r))).2 = false := by
          have := txts_head (l := l) (e := 0) (p := [46, 46, 62]) (r := r)
          rw [tCutS, cutp_cons, if_neg (by rw [this]; decide)]
        rw [e0, tTrue, if_neg (by rw [nohead (by decide)]; decide), tFalse, if_neg (by rw [nohead (by decide)]; decide), tNil, if_neg (by rw [nohead (by decide)]; decide), tCutP, if_neg (by rw [nohead (by decide)]; decide), if_neg (by rw [e2]; decide), if_neg (by rw [nohead (by decide)]; decide), if_neg (by rw [nohead (by decide)]; decide), if_neg (by rw [nohead (by decide)]; decide), if_pos (by rw [e]), e]
        exact scL_txts (.inr (.inr rfl)) l r ih (by omega)

/-- What ReadValue returns. -/
def rvs (s : Bytes) : Val × Int := if 1400000 < s.length then (vz, 4) else
  if (scV 130 s).2.1 = true ∧ (scV 130 s).2.2 = [] ∧ fine (scV 130 s).1 = true ∧ txt (scV 130 s).1 = s then ((scV 130 s).1, 0) else (vz, 12)
theorem fine_ok {v : Val} (h : fine v = true) : okv 130 v = true ∧ v.nodes ≤ 5000 := by
  simpa [fine] using h
theorem scV_fine {v : Val} (h : fine v = true) (hw : Wf v) : scV 130 (txt v) = (v, true, []) := by
  have := scV_txt 130 v (fine_ok h).1 hw [] (by intro c hc; cases hc)
  rwa [List.append_nil] at this
theorem rvs_txt {v : Val} (h : fine v = true) (hw : Wf v) : rvs (txt v) = (v, 0) := by
  have h1 := fine_len h
  unfold rvs
  rw [if_neg (by omega), scV_fine h hw, if_pos ⟨rfl, rfl, h, rfl⟩]
theorem rvs_inv {s : Bytes} (h : (rvs s).2 = 0) : fine (rvs s).1 = true ∧ txt (rvs s).1 = s ∧ Wf (rvs s).1 := by
  unfold rvs at h ⊢
  split
  · rename_i h1; rw [if_pos h1] at h; cases h
  · rename_i h1
    rw [if_neg h1] at h
    split
    · rename_i h2; exact ⟨h2.2.2.1, h2.2.2.2, scV_wf _ _⟩
    · rename_i h2; rw [if_neg h2] at h; cases h
theorem txt_inj {v w : Val} (hv : fine v = true) (hw : fine w = true) (wv : Wf v) (ww : Wf w) (h : txt v = txt w) : v = w := by
  have h1 := rvs_txt hv wv
  rw [h, rvs_txt hw ww] at h1
  injection h1 with h1
  exact h1.symm
theorem rvs_wf (s : Bytes) : Wf (rvs s).1 := by
  unfold rvs
  split
  · exact Wf.zero
  · split
    · exact scV_wf _ _
    · exact Wf.zero
/-- Comparing values. -/
noncomputable def sameV (v w : Val) : Bool := @decide (v = w) (Classical.propDecidable _)
theorem sameV_true {v w : Val} : sameV v w = true ↔ v = w := by unfold sameV; simp
theorem sameV_rfl (v : Val) : sameV v v = true := sameV_true.2 rfl
theorem sameV_false {v w : Val} : sameV v w = false ↔ v ≠ w := by
  rw [← Bool.not_eq_true, sameV_true]
end Go.AM

/- Chapter 38: what its functions return: values. -/
namespace Go.AM
open Go

structure Has38 (prog : Prog) : Prop extends Has03 prog, HasB prog where
  f71 : prog.fn 71 = some pf71
  f72 : prog.fn 72 = some pf72
  f73 : prog.fn 73 = some pf73
  f74 : prog.fn 74 = some pf74
  f75 : prog.fn 75 = some pf75
  f76 : prog.fn 76 = some pf76
  f77 : prog.fn 77 = some pf77
  f78 : prog.fn 78 = some pf78
  f102 : prog.fn 102 = some pf102
  f103 : prog.fn 103 = some pf103
  f104 : prog.fn 104 = some pf104
  f106 : prog.fn 106 = some pf106
  f107 : prog.fn 107 = some pf107
  f108 : prog.fn 108 = some pf108
  f109 : prog.fn 109 = some pf109
  f110 : prog.fn 110 = some pf110
  f127 : prog.fn 127 = some pf127
  f128 : prog.fn 128 = some pf128
  f129 : prog.fn 129 = some pf129
  f130 : prog.fn 130 = some pf130
  f131 : prog.fn 131 = some pf131
  f132 : prog.fn 132 = some pf132
  f133 : prog.fn 133 = some pf133
  f134 : prog.fn 134 = some pf134
  f135 : prog.fn 135 = some pf135
  f136 : prog.fn 136 = some pf136

/-- A value as an argument. -/
abbrev Val.av (v : Val) : AV := .ag [.i .u8 v.kind, .i .i64 v.int, .s v.text, .sl .ext (List.map Val.row v.list), .b v.cut]

section
variable {prog : Prog} (H : Has38 prog)
include H

theorem c136 (v : Val) : Pus prog 136 [v.av] (.b (decide (v.list.length = 0 ∧ v.cut = false))) := by
  obtain ⟨x, rfl, h⟩ := p136 H.f136 (v0 := v) (K := fun x => x = decide (v.list.length = 0 ∧ v.cut = false)) (by
    unfold T136_0
    refine ⟨fun h => ?_, fun h => ?_⟩
    · cases v.cut
      · exact (decide_eq_true ⟨by omega, rfl⟩).symm
      · exact (decide_eq_false (by rintro ⟨_, h⟩; cases h)).symm
    · exact (decide_eq_false (by rintro ⟨h1, _⟩; omega)).symm)
  exact h

theorem c102 : ∀ (d : Nat) {v : Val}, Wf v → d ≤ 1000 → Pus prog 102 [v.av, .i .i64 (d : Int)] (.b (deepv d v))
  | 0, v, hw, hd => by
    obtain ⟨x, rfl, h⟩ := p102 H.f102 (v0 := v) (most1 := ((0 : Nat) : Int)) (K := fun x => x = deepv 0 v) (by
      unfold T102_0
      exact ⟨fun _ => rfl, fun h => absurd rfl h⟩)
    exact h
  | d + 1, v, hw, hd => by
    have ih := @c102 d
    obtain ⟨x, rfl, h⟩ := p102 H.f102 (v0 := v) (most1 := ((d + 1 : Nat) : Int)) (K := fun x => x = deepv (d + 1) v) (by
      have hm : IntKind.i64.wrap (((d + 1 : Nat) : Int) - 1) = (d : Int) := by rw [wr_i64 (by omega) (by omega)]; omega
      unfold T102_0
      refine ⟨fun h => absurd h (by omega), fun _ => ⟨fun h => ?_, fun h1 => ⟨fun h => ?_, fun h2 P hP => ?_⟩⟩⟩
      · rw [deepv, decide_eq_true (show 100 < v.text.length by omega)]; rfl
      · rw [deepv, decide_eq_true (show 400 < v.list.length by omega), Bool.or_true]; rfl
      · have e : deepv (d + 1) v = v.list.any (deepv d) := by
          rw [deepv, decide_eq_false (by omega), decide_eq_false (by omega)]; rfl
        refine loop_inv (P := fun _ i => P i v) (fun _ => ()) v.list.length (fun i => (v.list.take i).any (deepv d) = false) (by simp) (fun hI => ?_) (fun i hi hI ihP => ?_)
        · apply hP
          unfold T102_1 T102_2
          refine ⟨fun h => absurd h (by omega), fun _ => ?_⟩
          rw [List.take_length] at hI
          rw [e, hI]
        · apply hP
          unfold T102_1
          refine ⟨fun _ => ⟨by omega, _, get_at hi, _, by rw [hm]; exact ih (hw.e _ (List.getElem_mem hi)) (by omega), fun h3 => ?_, fun h3 => ?_⟩, fun h => absurd (show (i : Int) < v.list.length by omega) h⟩
          · rw [e]
            exact (List.any_eq_true.2 ⟨_, List.getElem_mem hi, h3⟩).symm
          · rw [wr_succ (by omega)]
            refine ihP ?_
            rw [List.take_succ_eq_append_getElem hi, List.any_append, hI]
            simpa using h3)
    exact h

omit H in
theorem rNs_snoc {l : List Val} {i n : Nat} (hi : i < l.length) (hn : rNs (l.take i) n ≤ 5000) : rNs (l.take (i + 1)) n = rNs (l.take i) n + rN l[i] := by
  have key : ∀ (l : List Val) (v : Val) (n : Nat), rNs l n ≤ 5000 → rNs (l ++ [v]) n = rNs l n + rN v := by
    intro l
    induction l with
    | nil => intro v n h; rw [rNs] at h; simp [rNs, h]
    | cons w l ih =>
      intro v n h
      rw [rNs] at h
      by_cases hn : n ≤ 5000
      · rw [if_pos hn] at h
        simp only [List.cons_append, rNs, if_pos hn]
        exact ih v _ h
      · rw [if_neg hn] at h
        exact absurd h hn
  rw [List.take_succ_eq_append_getElem hi, key _ _ _ hn]
omit H in
theorem rNs_stop {l : List Val} {i n : Nat} (h : 5000 < rNs (l.take i) n) : rNs l n = rNs (l.take i) n := by
  have key : ∀ (l m : List Val) (n : Nat), 5000 < rNs l n → rNs (l ++ m) n = rNs l n := by
    intro l
    induction l with
    | nil =>
      intro m n h
      rw [rNs] at h
      cases m with
      | nil => rfl
      | cons w m => simp only [List.nil_append, rNs]; rw [if_neg (by omega)]
    | cons w l ih =>
      intro m n h
      rw [rNs] at h
      simp only [List.cons_append, rNs]
      split
      · rename_i hn; rw [if_pos hn] at h; exact ih m _ h
      · rfl
  have := key (l.take i) (l.drop i) n h
  rwa [List.take_append_drop] at this

theorem c103 : ∀ (d : Nat) {v : Val}, Sm d v → d ≤ 1000 → Pus prog 103 [v.av] (.i .i64 (rN v : Int))
  | 0, v, hs, hd => hs.elim
  | d + 1, v, hs, hd => by
    have ih := @c103 d
    obtain ⟨x, rfl, h⟩ := p103 H.f103 (v0 := v) (K := fun x => x = (rN v : Int)) (by
      unfold T103_0
      intro P hP
      have e := rN_eq v
      refine loop_inv (P := fun n i => P n i v) (fun i => (rNs (v.list.take i) 1 : Int)) v.list.length (fun _ => True) trivial (fun _ => ?_) (fun i hi _ ihP => ?_)
      · apply hP
        unfold T103_1 T103_2
        refine ⟨fun h => absurd h (by omega), fun _ => ?_⟩
        rw [List.take_length, e]
      · apply hP
        unfold T103_1 T103_2
        refine ⟨fun _ => ⟨fun h => ⟨by omega, _, get_at hi, _, ih (hs.2 _ (List.getElem_mem hi)) (by omega), ?_⟩, fun h => ?_⟩, fun h => absurd (show (i : Int) < v.list.length by omega) h⟩
        · have h1 := rN_le (hs.2 _ (List.getElem_mem hi))
          have h2 := hs.1
          have h3 := rNs_snoc (l := v.list) (n := 1) hi (by omega)
          have := ihP trivial
          rw [h3] at this
          rw [wr_i64 (by omega) (by omega), wr_succ (by omega)]
          simpa using this
        · rw [e, rNs_stop (i := i) (by omega)])
    exact h
theorem c71 {v : Val} (hw : Wf v) : Pus prog 71 [v.av] (.b (greatv v)) := by
  obtain ⟨x, rfl, h⟩ := p71 H.f71 (v0 := v) (K := fun x => x = greatv v) (by
    unfold T71_0 greatv
    refine ⟨_, c102 H 14 hw (by decide), fun h => by rw [h]; rfl, fun h => ⟨_, c103 H 14 (deepv_sm h) (by decide), ?_⟩⟩
    rw [h, Bool.false_or]
    exact decide_eq_decide.2 (by omega))
  exact h
end
end Go.AM

/- Chapter 38: what its functions return: values checked and written. -/
namespace Go.AM
open Go
theorem bAnd1 (n : Int) : bAnd .i64 n 1 = n % 2 := by
  unfold bAnd
  have h1 : (BitVec.ofInt IntKind.i64.bits n &&& BitVec.ofInt IntKind.i64.bits 1).toNat = (n % 2).toNat := by
    show (BitVec.ofInt 64 n &&& BitVec.ofInt 64 1).toNat = _
    rw [BitVec.toNat_and]
    have h2 : (BitVec.ofInt 64 1).toNat = 2 ^ 1 - 1 := by decide
    rw [h2, Nat.and_two_pow_sub_one_eq_mod, BitVec.toNat_ofInt]
    omega
  rw [h1, wr_i64 (by omega) (by omega)]
  omega
theorem cut_cases (v : Val) : (v.cut = true ∧ v.cut.toNat = 1) ∨ (v.cut = false ∧ v.cut.toNat = 0) := by cases v.cut <;> simp
theorem okv_succ (d : Nat) (v : Val) : okv (d + 1) v = (decide v.okh && v.list.all (okv d)) := rfl
theorem okv_no {d : Nat} {v : Val} (h : ¬v.okh) : okv (d + 1) v = false := by rw [okv_succ, decide_eq_false h]; rfl
theorem okv_yes {d : Nat} {v : Val} (h : v.okh) : okv (d + 1) v = v.list.all (okv d) := by rw [okv_succ, decide_eq_true h]; rfl
theorem okv_leaf {d : Nat} {v : Val} (h : v.list.length = 0) (p : Prop) [Decidable p] (hp : p ↔ v.okh) : decide p = okv (d + 1) v := by
  rw [okv_succ, decide_eq_decide.2 hp, show v.list.all (okv d) = true by rw [len0 h]; rfl, Bool.and_true]
section
variable {prog : Prog} (H : Has38 prog)
include H

set_option maxHeartbeats 1000000 in
theorem c110 : ∀ (d : Nat) {v : Val}, Wf v → d ≤ 1000 → Pus prog 110 [v.av, .i .i64 (d : Int)] (.b (okv d v))
  | 0, v, hw, hd => by
    obtain ⟨x, rfl, h⟩ := p110 H.f110 (v0 := v) (deep1 := ((0 : Nat) : Int)) (K := fun x => x = okv 0 v) (by
      unfold T110_0 T110_1
      exact ⟨fun _ => rfl, fun h => absurd rfl h⟩)
    exact h
  | d + 1, v, hw, hd => by
    have ih := @c110 d
    obtain ⟨x, rfl, h⟩ := p110 H.f110 (v0 := v) (deep1 := ((d + 1 : Nat) : Int)) (K := fun x => x = okv (d + 1) v) (by
      have hm : IntKind.i64.wrap (((d + 1 : Nat) : Int) - 1) = (d : Int) := by rw [wr_i64 (by omega) (by omega)]; omega
      have ht : v.text = [] ↔ v.text.length = 0 := List.length_eq_zero_iff.symm
      have no : ¬v.okh → false = okv (d + 1) v := fun h => (okv_no h).symm
      have hl := hw.l
      have lp : v.okh → ∀ P : Int → Val → Prop, (∀ (i6 : Int) (m0 : Val), T110_8 prog (fun x => x = okv (d + 1) v) P ((d + 1 : Nat) : Int) i6 m0 → P i6 m0) → P 0 v := by
        intro ho P hP
        have e := okv_yes (d := d) ho
        refine loop_inv (P := fun _ i => P i v) (fun _ => ()) v.list.length (fun i => (v.list.take i).all (okv d) = true) (by simp) (fun hI => ?_) (fun i hi hI ihP => ?_)
        · apply hP
          unfold T110_8 T110_9
          refine ⟨fun h => absurd h (by omega), fun _ => ?_⟩
          rw [List.take_length] at hI
          rw [e, hI]
        · apply hP
          unfold T110_8
          refine ⟨fun _ => ⟨by omega, _, get_at hi, _, by rw [hm]; exact ih (hw.e _ (List.getElem_mem hi)) (by omega), fun h3 => ?_, fun h3 => ?_⟩, fun h => absurd (show (i : Int) < v.list.length by omega) h⟩
          · rw [e]
            refine (List.all_eq_false.2 ⟨_, List.getElem_mem hi, ?_⟩).symm
            simpa using h3
          · rw [wr_i64 (by omega) (by omega)]
            refine ihP ?_
            rw [List.take_succ_eq_append_getElem hi, List.all_append, hI]
            simpa using h3
      have leaf : v.list.length = 0 → ∀ (p : Prop) [Decidable p], (p ↔ v.okh) → decide p = okv (d + 1) v := fun h p _ hp => okv_leaf h p hp
      have leafT : v.list.length = 0 → v.okh → true = okv (d + 1) v := fun h hp => by rw [← leaf h True (by simpa using hp)]; simp
      unfold T110_0 T110_1 T110_2 T110_3 T110_4 T110_5 T110_6 T110_7
      simp only [ht, ne_eq]
      refine ⟨fun h => absurd h (by omega), fun _ => ?_⟩
      rcases cut_cases v with ⟨hc, hcn⟩ | ⟨hc, hcn⟩
      all_goals
        refine ⟨fun _ => ⟨_, c136 H v, ?_, ?_⟩, fun _ => ⟨fun _ => ⟨_, c136 H v, ?_, ?_⟩, fun _ => ⟨fun _ => ⟨_, c136 H v, ?_, ?_⟩, ?_⟩⟩⟩
      all_goals simp only [hc, decide_eq_true_eq, decide_eq_false_iff_not, reduceCtorEq, false_imp_iff, true_imp_iff, and_true, true_and, and_false]
      all_goals repeat' first | refine ⟨fun _ => ?_, fun _ => ?_⟩ | (intro h)
      all_goals first
        | exact no (by unfold Val.okh Okh; omega)
        | exact leafT (by omega) (by unfold Val.okh Okh; omega)
        | exact leaf (by omega) _ (by unfold Val.okh Okh; omega)
        | exact lp (by unfold Val.okh Okh; omega) _ ‹_›
        | (exfalso; omega))
    exact h
end
end Go.AM

/- Chapter 38: what its functions return: count, Check, Text. -/
namespace Go.AM
open Go
theorem nodesL_mem {l : List Val} {v : Val} (h : v ∈ l) : v.nodes ≤ Val.nodesL l := nodes_mem h
section
variable {prog : Prog} (H : Has38 prog)
include H

set_option maxHeartbeats 1000000 in
theorem c109 : ∀ (d : Nat) {v : Val}, Wf v → d ≤ 1000 → Pus prog 109 [v.av, .i .i64 (d : Int)] (.tup [.i .i64 (cntR d v).1, .b (cntR d v).2])
  | 0, v, hw, hd => by
    obtain ⟨x, y, ⟨rfl, rfl⟩, h⟩ := p109 H.f109 (v0 := v) (nest1 := ((0 : Nat) : Int)) (K := fun x y => x = (cntR 0 v).1 ∧ y = (cntR 0 v).2) (by
      unfold T109_0 T109_1 T109_2 T109_3 T109_4
      have : cntR 0 v = (0, false) := by unfold cntR; rw [if_neg (by rintro ⟨h, _⟩; cases h)]
      rw [this]
      repeat' first | exact ⟨rfl, rfl⟩ | refine ⟨fun _ => ?_, fun _ => ?_⟩ | (intro h)
      all_goals exact absurd rfl ‹¬((0 : Nat) : Int) = 0›)
    exact h
  | d + 1, v, hw, hd => by
    have ih := @c109 d
    obtain ⟨x, y, ⟨rfl, rfl⟩, h⟩ := p109 H.f109 (v0 := v) (nest1 := ((d + 1 : Nat) : Int)) (K := fun x y => x = (cntR (d + 1) v).1 ∧ y = (cntR (d + 1) v).2) (by
      have hm : IntKind.i64.wrap (((d + 1 : Nat) : Int) - 1) = (d : Int) := by rw [wr_i64 (by omega) (by omega)]; omega
      have ht : v.text = [] ↔ v.text.length = 0 := List.length_eq_zero_iff.symm
      have ht' : [] = v.text ↔ v.text.length = 0 := by rw [← ht]; exact eq_comm
      have cno : ¬(okv (d + 1) v = true ∧ v.nodes ≤ 5000) → cntR (d + 1) v = (0, false) := fun h => by unfold cntR; rw [if_neg h]
      have no : ¬v.okh → (0 : Int) = (cntR (d + 1) v).1 ∧ false = (cntR (d + 1) v).2 := fun h => by
        rw [cno (by rw [okv_no h]; rintro ⟨h, _⟩; cases h)]; exact ⟨rfl, rfl⟩
      have hl := hw.l
      have hn := nodes_eq v
      have lp : v.okh → ∀ P : Int → Int → Prop, (∀ (sum10 : Int) (t103 : Int), T109_5 prog (fun x y => x = (cntR (d + 1) v).1 ∧ y = (cntR (d + 1) v).2) P ((d + 1 : Nat) : Int) sum10 v.list (v.list.length : Int) t103 → P sum10 t103) → P 1 0 := by
        intro ho P hP
        have e := okv_yes (d := d) ho
        refine loop_inv (P := fun s i => P s i) (fun i => ((1 + Val.nodesL (v.list.take i) : Nat) : Int)) v.list.length (fun i => (v.list.take i).all (okv d) = true ∧ 1 + Val.nodesL (v.list.take i) ≤ 5000) (by simp [Val.nodesL]) (fun hI => ?_) (fun i hi hI ihP => ?_)
        · apply hP
          unfold T109_5 T109_6
          refine ⟨fun h => absurd h (by omega), fun _ => ?_⟩
          rw [List.take_length] at hI ⊢
          unfold cntR
          rw [if_pos ⟨by rw [e]; exact hI.1, by omega⟩, hn]
          exact ⟨rfl, rfl⟩
        · apply hP
          unfold T109_5
          have hnt := nodesL_take hi
          have hle := nodesL_le (l := v.list) (i + 1)
          refine ⟨fun _ => ⟨by omega, _, get_at hi, _, _, by rw [hm]; exact ih (hw.e _ (List.getElem_mem hi)) (by omega), ?_⟩, fun h => absurd (show (i : Int) < v.list.length by omega) h⟩
          by_cases hc : okv d v.list[i] = true ∧ v.list[i].nodes ≤ 5000
          · rw [show cntR d v.list[i] = ((v.list[i].nodes : Int), true) by unfold cntR; rw [if_pos hc]]
            refine ⟨fun h => (by cases h), fun _ => ⟨fun h => ?_, fun h => ?_⟩⟩
            · rw [wr_i64 (by omega) (by omega)] at h
              rw [cno (by omega)]
              exact ⟨rfl, rfl⟩
            · rw [wr_i64 (by omega) (by omega)] at h ⊢
              rw [wr_i64 (by omega) (by omega)]
              have := ihP ⟨by rw [List.take_succ_eq_append_getElem hi, List.all_append, hI.1]; simpa using hc.1, by omega⟩
              rw [hnt] at this
              rw [show ((1 + Val.nodesL (v.list.take i) : Nat) : Int) + (v.list[i].nodes : Int) = ((1 + (Val.nodesL (v.list.take i) + v.list[i].nodes) : Nat) : Int) by omega]
              exact this
          · rw [show cntR d v.list[i] = (0, false) by unfold cntR; rw [if_neg hc]]
            refine ⟨fun _ => ?_, fun h => (by cases h)⟩
            rw [cno (fun h => hc ⟨okv_sub h.1 _ (List.getElem_mem hi), by have := nodes_mem (List.getElem_mem hi); omega⟩)]
            exact ⟨rfl, rfl⟩
      unfold T109_0 T109_1 T109_2 T109_3 T109_4
      simp only [Val.int_mk, Val.text_mk, Val.cut_mk, Val.kind_mk, Val.list_mk, bAnd1, ht', ne_eq, not_true_eq_false, false_imp_iff, true_imp_iff, true_and, not_false_eq_true]
      rcases cut_cases v with ⟨hc, hcn⟩ | ⟨hc, hcn⟩
      all_goals simp only [hc, reduceCtorEq, false_imp_iff, true_imp_iff, not_true_eq_false, not_false_eq_true, true_and, and_true]
      all_goals repeat' first | refine ⟨fun _ => ?_, fun _ => ?_⟩ | (intro h)
      all_goals first
        | exact no (by unfold Val.okh Okh; omega)
        | exact lp (by unfold Val.okh Okh; omega) _ ‹_›
        | (exfalso; omega))
    exact h
theorem c76 {v : Val} (hw : Wf v) : Pus prog 76 [v.av] (.i .i64 (chkR v)) := by
  obtain ⟨x, rfl, h⟩ := p76 H.f76 (v0 := v) (K := fun x => x = chkR v) (by
    unfold T76_0 chkR
    refine ⟨_, _, c109 H 130 hw (by decide), ?_⟩
    unfold cntR fine
    by_cases h : okv 130 v = true ∧ v.nodes ≤ 5000
    · rw [if_pos h, if_pos (by simpa using h)]
      exact ⟨fun h => (by cases h), fun _ => rfl⟩
    · rw [if_neg h, if_neg (by simpa using h)]
      exact ⟨fun _ => rfl, fun h => (by cases h)⟩)
  exact h
theorem c77 {v : Val} (hw : Wf v) : Pus prog 77 [v.av] (.i .i64 (chkR v)) := by
  obtain ⟨x, rfl, h⟩ := p77 H.f77 (v0 := v) (K := fun x => x = chkR v) (by
    unfold T77_0 chkR fine
    refine ⟨_, c110 H 130 hw (by decide), fun h => ?_, fun h => ⟨_, c103 H 130 (okv_sm (by simpa using h)) (by decide), fun h1 => ?_, fun h1 => ?_⟩⟩
    · rw [show okv 130 v = false by simpa using h]; rfl
    · have h2 := rN_spec v
      rw [show okv 130 v = true by simpa using h, decide_eq_false (by omega)]; rfl
    · have h2 := rN_spec v
      rw [show okv 130 v = true by simpa using h, decide_eq_true (by omega)]; rfl)
  exact h
end
end Go.AM

/- Chapter 38: what its functions return: Text, show, Value. -/
namespace Go.AM
open Go
theorem txts_app (l m : List Val) : txts (l ++ m) = txts l ++ (if l.length = 0 then txts m else txtl m) := by
  cases l with
  | nil => simp [txts]
  | cons a l => simp [txts, txtl_app]
theorem txts_take_len (l : List Val) (i : Nat) : (txts (l.take i)).length ≤ (txts l).length := by
  have := txts_app (l.take i) (l.drop i)
  rw [List.take_append_drop] at this
  rw [this, List.length_append]
  omega
theorem quoR_ok {s : Bytes} (h : s.length ≤ 400) : quoR s = (quo s, 0) := by
  unfold quoR
  rw [if_neg (by omega)]
theorem okv_len {d : Nat} {v : Val} (h : okv d v = true) (hn : v.nodes ≤ 5000) : (txt v).length ≤ 1300000 := by
  have := txt_len h
  omega
section
variable {prog : Prog} (H : Has38 prog)
include H

theorem c127 {l : List Val} (hl : l.length ≤ 16) (h : ∀ x ∈ l, Pus prog 106 [x.av] (.s (txt x))) (hs : (txts l).length ≤ 10000000) : Pus prog 127 [.sl .ext (l.map Val.row)] (.s (txts l)) := by
  obtain ⟨x, rfl, h⟩ := p127 H.f127 (l0 := l) (K := fun x => x = txts l) (by
    unfold T127_0
    intro P hP
    refine loop_up (P := fun s i => P s i) (fun i => txts (l.take i)) l.length ?_ fun i hi ihP => ?_
    · apply hP
      unfold T127_1 T127_3
      rw [List.take_length]
      exact ⟨fun h => absurd h (by omega), fun _ => rfl⟩
    · apply hP
      have h1 := txts_take_len l (i + 1)
      rw [txts_take hi] at h1 ihP
      simp only [List.length_append] at h1
      unfold T127_1 T127_2
      refine ⟨fun _ => ⟨fun h2 => ?_, fun h2 => ?_⟩, fun h => absurd (show (i : Int) < l.length by omega) h⟩
      · rw [if_pos (by omega)] at h1 ihP
        refine ⟨by rw [maxStr_eq]; omega, by omega, _, get_at hi, _, h _ (List.getElem_mem hi), ?_, ?_⟩
        · rw [List.length_append, maxStr_eq]; omega
        · rw [wr_succ (by omega)]; exact ihP
      · rw [if_neg (by omega)] at h1 ihP
        refine ⟨by omega, _, get_at hi, _, h _ (List.getElem_mem hi), ?_, ?_⟩
        · rw [maxStr_eq]; simp only [List.length_nil] at h1; omega
        · rw [wr_succ (by omega)]; simpa using ihP)
  exact h

theorem c106 : ∀ (d : Nat) {v : Val}, okv d v = true → Wf v → (txt v).length ≤ 10000000 → Pus prog 106 [v.av] (.s (txt v))
  | 0, v, h, _, _ => by cases h
  | d + 1, v, h, hw, hlen => by
    have h1 := okv_head h
    have h2 := okv_sub h
    have ih : ∀ x ∈ v.list, (txts v.list).length ≤ 10000000 → Pus prog 106 [x.av] (.s (txt x)) := by
      intro x hx hl
      obtain ⟨i, hi, rfl⟩ := List.getElem_of_mem hx
      refine c106 d (h2 _ hx) (hw.e _ hx) ?_
      have h3 := txts_take_len v.list (i + 1)
      rw [txts_take hi] at h3
      simp only [List.length_append] at h3
      omega
    obtain ⟨x, rfl, h⟩ := p106 H.f106 (v0 := v) (K := fun x => x = txt v) (by
      unfold T106_0 T106_1
      rw [txt_eq] at hlen ⊢
      refine ⟨fun k1 => ⟨fun h => ?_, fun h => ?_⟩, fun k1 => ⟨fun k2 => ⟨_, c16 H.toHas03 hw.n.1 hw.n.2, ?_⟩, fun k2 => ⟨fun k3 => ⟨_, c31 H.toHas03 ?_, ?_⟩, fun k3 => ⟨fun k5 => ?_, fun k5 => ⟨fun k6 => ?_, fun k6 => ⟨fun k7 => ⟨fun hc => ?_, fun hc => ?_⟩, fun k7 => ⟨fun hc => ?_, fun hc => ⟨fun hl => ?_, fun hl => ?_⟩⟩⟩⟩⟩⟩⟩⟩
      · rw [if_pos k1, if_pos h]; rfl
      · rw [if_pos k1, if_neg h]; rfl
      · rw [if_neg k1, if_pos k2]
      · unfold Val.okh Okh at h1; omega
      · rw [if_neg k1, if_neg k2, if_pos k3]
      · rw [if_neg k1, if_neg k2, if_neg k3, if_pos k5] at hlen ⊢
        simp only [List.length_cons, List.length_append, List.length_nil] at hlen
        refine ⟨_, c127 H (by unfold Val.okh Okh at h1; omega) (fun x hx => ih x hx (by omega)) (by omega), ?_, ?_, ?_⟩
        · rw [maxStr_eq]; simp only [List.length_cons, List.length_nil]; omega
        · rw [maxStr_eq]; simp only [List.length_cons, List.length_nil, List.length_append]; omega
        · simp
      · rw [if_neg k1, if_neg k2, if_neg k3, if_neg k5, if_pos k6] at hlen ⊢
        simp only [List.length_cons, List.length_append, List.length_nil] at hlen
        refine ⟨_, c127 H (by unfold Val.okh Okh at h1; omega) (fun x hx => ih x hx (by omega)) (by omega), ?_, ?_, ?_⟩
        · rw [maxStr_eq]; simp only [List.length_cons, List.length_nil]; omega
        · rw [maxStr_eq]; simp only [List.length_cons, List.length_nil, List.length_append]; omega
        · simp
      · rw [if_neg k1, if_neg k2, if_neg k3, if_neg k5, if_neg k6, if_pos k7, if_pos hc]; rfl
      · rw [if_neg k1, if_neg k2, if_neg k3, if_neg k5, if_neg k6, if_pos k7, if_neg (by rw [hc]; decide)] at hlen ⊢
        simp only [List.length_cons, List.length_append, List.length_nil] at hlen
        refine ⟨_, c127 H (by unfold Val.okh Okh at h1; omega) (fun x hx => ih x hx (by omega)) (by omega), ?_, ?_, ?_⟩
        · rw [maxStr_eq]; simp only [List.length_cons, List.length_nil]; omega
        · rw [maxStr_eq]; simp only [List.length_cons, List.length_nil, List.length_append]; omega
        · simp
      · rw [if_neg k1, if_neg k2, if_neg k3, if_neg k5, if_neg k6, if_neg k7, if_pos hc]; rfl
      · rw [if_neg k1, if_neg k2, if_neg k3, if_neg k5, if_neg k6, if_neg k7, if_neg (by rw [hc]; decide), if_pos (by omega)]; rfl
      · rw [if_neg k1, if_neg k2, if_neg k3, if_neg k5, if_neg k6, if_neg k7, if_neg (by rw [hc]; decide), if_neg (by omega)] at hlen ⊢
        have hl1 : v.list.length = 1 := by unfold Val.okh Okh at h1; omega
        obtain ⟨w, hw1⟩ := List.length_eq_one_iff.1 hl1
        rw [hw1, txts_one] at hlen ⊢
        simp only [List.length_cons] at hlen
        refine ⟨w, rfl, _, ih w (by rw [hw1]; exact List.mem_cons_self) (by rw [hw1, txts_one]; omega), ?_, rfl⟩
        rw [maxStr_eq]; simp only [List.length_cons, List.length_nil]; omega)
    exact h
theorem c73 {v : Val} (hw : Wf v) : Pus prog 73 [v.av] (.tup [.s (if fine v = true then txt v else []), .i .i64 (chkR v)]) := by
  obtain ⟨x, y, ⟨rfl, rfl⟩, h⟩ := p73 H.f73 (v0 := v) (K := fun x y => x = (if fine v = true then txt v else []) ∧ y = chkR v) (by
    unfold T73_0
    refine ⟨_, c77 H hw, fun h => ?_, fun h => ?_⟩
    · unfold chkR at h ⊢
      by_cases hf : fine v = true
      · rw [if_pos hf] at h; exact absurd rfl h
      · rw [if_neg hf, if_neg hf]; exact ⟨rfl, rfl⟩
    · unfold chkR at h ⊢
      by_cases hf : fine v = true
      · rw [if_pos hf, if_pos hf]
        have := fine_len hf
        exact ⟨_, c106 H 130 (fine_ok hf).1 hw (by omega), rfl, rfl⟩
      · rw [if_neg hf] at h; exact absurd (by decide) h)
  exact h

/-- The loop of show. -/
theorem show_loop {K : Int → Bytes → Prop} {l : List Val} {e0 e1 : UInt8} {b : Bytes} (hl : l.length ≤ 16) (hx : ∀ x ∈ l, ∀ b : Bytes, b.length + (txt x).length ≤ 100000000 → PuX prog 104 (Bl b) [x.av] (fun r => r = .i .i64 0) (Bl (b ++ txt x)))
    (hb : b.length + (txts l).length + 2 ≤ 100000000) (hK : K 0 (b ++ [e0] ++ txts l ++ [e1])) : ∀ P0 : Int → Bytes → Prop, (∀ (t22 : Int) (mP : Bytes), T104_9 prog K P0 [e0, e1] l (l.length : Int) t22 mP → P0 t22 mP) → P0 0 (b ++ [e0]) := by
  intro P hP
  have := loop_up (P := fun m i => P i m) (fun i => b ++ [e0] ++ txts (l.take i)) l.length ?_ fun i hi ihP => ?_
  · simpa [txts] using this
  · apply hP
    unfold T104_9 T104_11 T104_4
    rw [List.take_length]
    refine ⟨fun h => absurd h (by omega), fun _ => ⟨by simp, _, _, c126 H.toHasB (s := [e1]) ?_, hK⟩⟩
    rw [maxBytes_eq]; simp only [List.length_append, List.length_cons, List.length_nil]; omega
  · apply hP
    have h1 := txts_take_len l (i + 1)
    rw [txts_take hi] at h1 ihP
    simp only [List.length_append] at h1
    unfold T104_9 T104_10
    refine ⟨fun _ => ⟨by omega, _, get_at hi, fun h2 => ?_, fun h2 => ?_⟩, fun h => absurd (show (i : Int) < l.length by omega) h⟩
    · rw [if_pos (by omega)] at h1 ihP
      refine ⟨_, _, c126 H.toHasB (s := [44, 32]) ?_, _, _, hx _ (List.getElem_mem hi) _ ?_, fun h => absurd rfl h, fun _ => ?_⟩
      · rw [maxBytes_eq]; simp only [List.length_append, List.length_cons, List.length_nil]; omega
      · simp only [List.length_append, List.length_cons, List.length_nil] at h1 ⊢; omega
      · rw [wr_succ (by omega)]
        simpa using ihP
    · rw [if_neg (by omega)] at h1 ihP
      refine ⟨_, _, hx _ (List.getElem_mem hi) _ ?_, fun h => absurd rfl h, fun _ => ?_⟩
      · simp only [List.length_append, List.length_cons, List.length_nil] at h1 ⊢; omega
      · rw [wr_succ (by omega)]
        simpa using ihP
set_option maxHeartbeats 1000000 in
theorem c104 : ∀ (d : Nat) {v : Val}, okv d v = true → Wf v → ∀ b : Bytes, b.length + (txt v).length ≤ 100000000 → PuX prog 104 (Bl b) [v.av] (fun r => r = .i .i64 0) (Bl (b ++ txt v))
  | 0, v, h, _, _, _ => by cases h
  | d + 1, v, h, hw, b, hlen => by
    have h1 := okv_head h
    have h2 := okv_sub h
    have ih : ∀ x ∈ v.list, ∀ b : Bytes, b.length + (txt x).length ≤ 100000000 → PuX prog 104 (Bl b) [x.av] (fun r => r = .i .i64 0) (Bl (b ++ txt x)) := fun x hx b hb => c104 d (h2 _ hx) (hw.e _ hx) b hb
    refine (p104 H.f104 (v1 := v) (mP := b) (K := fun r b' => r = 0 ∧ b' = b ++ txt v) ?_).to fun r b' hk => ?_
    · have hB : ∀ {s : Bytes} {a : Int}, (txt v) = s → ∃ r' : Int, ∃ b'' : Bytes, PuX prog 126 (Bl b) [.s s] (fun r => r = .tup [.i .i64 r', .ni]) (Bl b'') ∧ T104_4 prog (fun r b' => r = 0 ∧ b' = b ++ txt v) b'' := by
        intro s a hs
        refine ⟨_, _, c126 H.toHasB (s := s) ?_, ?_⟩
        · rw [← hs, maxBytes_eq]; omega
        · unfold T104_4; rw [hs]; exact ⟨rfl, rfl⟩
      have hk : 1 ≤ v.kind ∧ v.kind ≤ 7 := by unfold Val.okh Okh at h1; omega
      have hn := hw.n
      rw [txt_eq] at hlen
      have ht := txt_eq v
      unfold T104_0 T104_1
      refine ⟨by omega, ?_⟩
      have hkk : v.kind = 1 ∨ v.kind = 2 ∨ v.kind = 3 ∨ v.kind = 4 ∨ v.kind = 5 ∨ v.kind = 6 ∨ v.kind = 7 := by omega
      rcases hkk with k | k | k | k | k | k | k
      all_goals rw [k]
      all_goals simp only [k, if_true, reduceCtorEq, if_false, Int.reduceEq] at ht hlen
      · refine ⟨[], rfl, ?_⟩
        unfold T104_2 T104_3 T104_5
        rw [k]
        refine ⟨fun _ => ⟨fun h => hB (a := 0) ?_, fun h => ⟨fun _ => hB (a := 0) ?_, fun h => by simp at h⟩⟩, fun h => absurd rfl h⟩
        · rw [ht, if_pos (by simpa using h)]; rfl
        · rw [ht, if_neg (by simpa using h)]; rfl
      · refine ⟨[], rfl, ?_⟩
        unfold T104_2 T104_3 T104_5 T104_6
        rw [k]
        refine ⟨fun h => absurd h (by decide), fun _ => ⟨fun h => (by cases h), fun _ => ⟨fun h => (by simp at h), fun _ => ⟨fun _ => ⟨_, c15 H.toHas03 hn.1 hn.2, hB (a := 0) ht⟩, fun h => by simp at h⟩⟩⟩⟩
      · refine ⟨[], rfl, ?_⟩
        unfold T104_2 T104_3 T104_5 T104_6 T104_7
        rw [k]
        refine ⟨fun h => absurd h (by decide), fun _ => ⟨fun h => (by cases h), fun _ => ⟨fun h => (by simp at h), fun _ => ⟨fun h => (by simp at h), fun _ => ⟨fun _ => ⟨_, _, c11 H.toHas03 v.text, ?_⟩, fun h => by simp at h⟩⟩⟩⟩⟩
        rw [quoR_ok (by unfold Val.okh Okh at h1; omega)]
        refine ⟨_, _, c126 H.toHasB (s := quo v.text) ?_, rfl, ?_⟩
        · rw [maxBytes_eq]; omega
        · rw [ht]
      · refine ⟨[], rfl, ?_⟩
        unfold T104_2 T104_3 T104_5 T104_6 T104_7 T104_8
        rw [k]
        refine ⟨fun h => absurd h (by decide), fun _ => ⟨fun h => (by cases h), fun _ => ⟨fun h => (by simp at h), fun _ => ⟨fun h => (by simp at h), fun _ => ⟨fun h => (by simp at h), fun _ => ⟨fun _ => ⟨fun hc => hB (a := 0) ?_, fun hc => ⟨fun _ => ⟨fun hl => hB (a := 0) ?_, fun hl => ⟨fun _ => ?_, fun h => absurd rfl h⟩⟩, fun h => absurd rfl h⟩⟩, fun h => absurd rfl h⟩⟩⟩⟩⟩⟩
        · rw [ht, if_pos hc]; rfl
        · rw [ht, if_neg (by rw [hc]; decide), if_pos (by omega)]; rfl
        · rw [if_neg (by rw [hc]; decide), if_neg (by omega)] at ht hlen
          have hl1 : v.list.length = 1 := by unfold Val.okh Okh at h1; omega
          obtain ⟨w, hw1⟩ := List.length_eq_one_iff.1 hl1
          rw [hw1, txts_one] at hlen ht
          simp only [List.length_cons] at hlen
          refine ⟨_, _, c126 H.toHasB (s := [38]) ?_, w, by rw [hw1]; rfl, _, _, ih w (by rw [hw1]; exact List.mem_cons_self) _ ?_, rfl, ?_⟩
          · rw [maxBytes_eq]; simp only [List.length_cons, List.length_nil]; omega
          · simp only [List.length_append, List.length_cons, List.length_nil]; omega
          · rw [ht]; simp
      · have hc : v.cut = false := by
          have : v.cut.toNat = 0 := by unfold Val.okh Okh at h1; omega
          cases hc : v.cut
          · rfl
          · rw [hc] at this; cases this
        refine ⟨[123, 125], rfl, ?_⟩
        unfold T104_2 T104_3 T104_5 T104_6 T104_7 T104_8
        rw [k]
        refine ⟨fun h => absurd h (by decide), fun _ => ⟨fun h => (by cases h), fun _ => ⟨fun h => (by simp at h), fun _ => ⟨fun h => (by simp at h), fun _ => ⟨fun h => (by simp at h), fun _ => ⟨fun h => absurd h (by decide), fun _ => ⟨fun h => (by cases h), fun _ => ⟨fun h => absurd h (by decide), fun _ => ⟨fun h => absurd h (by decide), fun _ => ⟨fun h => (by rw [hc] at h; cases h), fun _ => ⟨by decide, _, _, c126 H.toHasB (s := [123]) ?_, ?_⟩⟩⟩⟩⟩⟩⟩⟩⟩⟩⟩
        · rw [maxBytes_eq]; simp only [List.length_cons, List.length_nil, List.length_append] at hlen ⊢; omega
        · simp only [List.length_cons, List.length_nil, List.length_append] at hlen
          exact show_loop H (by unfold Val.okh Okh at h1; omega) ih (by omega) ⟨rfl, by rw [ht]; simp⟩
      · have hc : v.cut = false := by
          have : v.cut.toNat = 0 := by unfold Val.okh Okh at h1; omega
          cases hc : v.cut
          · rfl
          · rw [hc] at this; cases this
        refine ⟨[91, 93], rfl, ?_⟩
        unfold T104_2 T104_3 T104_5 T104_6 T104_7 T104_8
        rw [k]
        refine ⟨fun h => absurd h (by decide), fun _ => ⟨fun h => (by cases h), fun _ => ⟨fun h => (by simp at h), fun _ => ⟨fun h => (by simp at h), fun _ => ⟨fun h => (by simp at h), fun _ => ⟨fun h => absurd h (by decide), fun _ => ⟨fun h => (by cases h), fun _ => ⟨fun h => absurd h (by decide), fun _ => ⟨fun h => absurd h (by decide), fun _ => ⟨fun h => (by rw [hc] at h; cases h), fun _ => ⟨by decide, _, _, c126 H.toHasB (s := [91]) ?_, ?_⟩⟩⟩⟩⟩⟩⟩⟩⟩⟩⟩
        · rw [maxBytes_eq]; simp only [List.length_cons, List.length_nil, List.length_append] at hlen ⊢; omega
        · simp only [List.length_cons, List.length_nil, List.length_append] at hlen
          exact show_loop H (by unfold Val.okh Okh at h1; omega) ih (by omega) ⟨rfl, by rw [ht]; simp⟩
      · refine ⟨[60, 62], rfl, ?_⟩
        unfold T104_2 T104_3 T104_5 T104_6 T104_7 T104_8
        rw [k]
        refine ⟨fun h => absurd h (by decide), fun _ => ⟨fun h => (by cases h), fun _ => ⟨fun h => (by simp at h), fun _ => ⟨fun h => (by simp at h), fun _ => ⟨fun h => (by simp at h), fun _ => ⟨fun h => absurd h (by decide), fun _ => ⟨fun h => (by cases h), fun _ => ⟨fun h => absurd h (by decide), fun _ => ⟨fun h => absurd h (by decide), fun _ => ⟨fun hc => hB (a := 0) ?_, fun hc => ⟨by decide, _, _, c126 H.toHasB (s := [60]) ?_, ?_⟩⟩⟩⟩⟩⟩⟩⟩⟩⟩⟩
        · rw [ht, if_pos hc]; rfl
        · rw [if_neg (by rw [hc]; decide)] at hlen
          rw [maxBytes_eq]; simp only [List.length_cons, List.length_nil, List.length_append] at hlen ⊢; omega
        · rw [if_neg (by rw [hc]; decide)] at hlen ht
          simp only [List.length_cons, List.length_nil, List.length_append] at hlen
          exact show_loop H (by unfold Val.okh Okh at h1; omega) ih (by omega) ⟨rfl, by rw [ht]; simp⟩
    · obtain ⟨x0, h1, rfl, rfl⟩ := hk
      exact ⟨h1, rfl⟩
theorem c72 {v : Val} (hw : Wf v) : Pus prog 72 [v.av] (.tup [.s (if fine v = true then txt v else []), .i .i64 (chkR v)]) := by
  obtain ⟨x, y, ⟨rfl, rfl⟩, h⟩ := p72 H.f72 (v0 := v) (K := fun x y => x = (if fine v = true then txt v else []) ∧ y = chkR v) (by
    unfold T72_0
    refine ⟨_, c76 H hw, fun h => ?_, fun h => ?_⟩
    · unfold chkR at h ⊢
      by_cases hf : fine v = true
      · rw [if_pos hf] at h; exact absurd rfl h
      · rw [if_neg hf, if_neg hf]; exact ⟨rfl, rfl⟩
    · unfold chkR at h ⊢
      by_cases hf : fine v = true
      · rw [if_pos hf, if_pos hf]
        have := fine_len hf
        refine ⟨_, _, c104 H 130 (fine_ok hf).1 hw [] (by simp only [List.length_nil]; omega), fun h => absurd rfl h, fun _ => ⟨_, c105 H.toHasB (txt_ne v) (by rw [List.nil_append, maxBytes_eq]; omega), rfl, rfl⟩⟩
      · rw [if_neg hf] at h; exact absurd (by decide) h)
  exact h
end
end Go.AM

/- Chapter 38: what its functions return: the scanner's parts. -/
namespace Go.AM
open Go
theorem digN_lt : ∀ {s : Bytes} {i : Nat}, i < digN s → ∃ c, s[i]? = some c ∧ isD c = true
  | [], i, h => absurd h (Nat.not_lt_zero _)
  | c :: s, 0, h => by
    rw [digN] at h
    split at h
    · rename_i hc; exact ⟨c, rfl, hc⟩
    · exact absurd h (Nat.not_lt_zero _)
  | c :: s, i + 1, h => by
    rw [digN] at h
    split at h
    · exact digN_lt (s := s) (i := i) (by omega)
    · exact absurd h (Nat.not_lt_zero _)
theorem digN_stop : ∀ {s : Bytes} {c : UInt8}, s[digN s]? = some c → isD c = false
  | [], c, h => by cases h
  | x :: s, c, h => by
    rw [digN] at h
    split at h
    · rw [Nat.add_comm, List.getElem?_cons_succ] at h
      exact digN_stop h
    · rename_i hx
      rw [List.getElem?_cons_zero] at h
      injection h with h
      subst h
      simpa using hx
theorem numN_lt {s : Bytes} {i : Nat} (h : i < numN s) : ∃ c, s[i]? = some c ∧ (isD c = true ∨ (i = 0 ∧ c = 45)) := by
  unfold numN at h
  split at h
  · rename_i h1
    cases s with
    | nil => cases h1
    | cons x s =>
      injection h1 with h1
      subst h1
      cases i with
      | zero => exact ⟨45, rfl, .inr ⟨rfl, rfl⟩⟩
      | succ i =>
        obtain ⟨c, h2, h3⟩ := digN_lt (s := s) (i := i) (by simp only [List.drop_succ_cons, List.drop_zero] at h; omega)
        exact ⟨c, h2, .inl h3⟩
  · obtain ⟨c, h2, h3⟩ := digN_lt h
    exact ⟨c, h2, .inl h3⟩
theorem numN_stop {s : Bytes} {c : UInt8} (h : s[numN s]? = some c) : isD c = false ∧ (numN s = 0 → c ≠ 45) := by
  unfold numN at *
  split at h
  · rename_i h1
    rw [if_pos h1]
    cases s with
    | nil => cases h1
    | cons x s =>
      simp only [List.drop_succ_cons, List.drop_zero] at h ⊢
      rw [Nat.add_comm, List.getElem?_cons_succ] at h
      exact ⟨digN_stop h, fun h => absurd h (by omega)⟩
  · rename_i h1
    rw [if_neg h1]
    refine ⟨digN_stop h, fun h2 => ?_⟩
    rw [h2] at h
    rintro rfl
    exact h1 (by rw [List.head?_eq_getElem?]; exact h)
theorem isD_iff {c : UInt8} : isD c = true ↔ 48 ≤ c.toNat ∧ c.toNat ≤ 57 := by unfold isD; simp
theorem isD_not {c : UInt8} : isD c = false ↔ ¬(48 ≤ c.toNat ∧ c.toNat ≤ 57) := by rw [← isD_iff]; simp
theorem qs_nil : qs [] = none := rfl
theorem qs_esc0 : qs [92] = none := rfl
theorem qs_esc (x : UInt8) (r : Bytes) : qs (92 :: x :: r) = (qs r).map (· + 2) := rfl
theorem qs_end (r : Bytes) : qs (34 :: r) = some 1 := by rw [qs.eq_def]; rfl
theorem qs_go {c : UInt8} (h1 : ¬c = 92) (h2 : ¬c = 34) (r : Bytes) : qs (c :: r) = (qs r).map (· + 1) := by
  rw [qs.eq_def]
  simp only [if_neg h1, if_neg h2]
theorem u8_45 {c : UInt8} : c = 45 ↔ c.toNat = 45 := ⟨fun h => by rw [h]; rfl, fun h => u8_eq h⟩
section
variable {prog : Prog} (H : Has38 prog)
include H
theorem c128 (p s : Bytes) : PuX prog 128 (Bx [.s s]) [.s p] (fun r => r = .b (cutp p s).2) (Bx [.s (cutp p s).1]) := by
  refine (p128 H.f128 (what1 := p) (mP := ⟨s⟩) (K := fun r b => r = (cutp p s).2 ∧ b = ⟨(cutp p s).1⟩) ?_).to (b := ⟨(cutp p s).1⟩) fun r b' hk => ?_
  · unfold T128_0
    exact ⟨_, _, c36 H.toHas03 s p, rfl, rfl⟩
  · obtain ⟨x0, h1, rfl, rfl⟩ := hk
    exact ⟨h1, rfl⟩
theorem c132 (s p : Bytes) : Pus prog 132 [.s s, .s p] (.b (cutp p s).2) := by
  obtain ⟨x, rfl, h⟩ := p132 H.f132 (s0 := s) (with1 := p) (K := fun x => x = (cutp p s).2) (by
    unfold T132_0 cutp
    refine ⟨fun h => ⟨by omega, by omega, ?_⟩, fun h => ?_⟩
    · rw [toNat_cast]
      by_cases h1 : s.take p.length = p
      · rw [if_pos h1]; simp [h1]
      · rw [if_neg h1]; simp [h1]
    · rw [if_neg]
      intro h1
      have := congrArg List.length h1
      simp only [List.length_take] at this
      omega)
  exact h
theorem c131 {s : Bytes} (hs : s.length ≤ 1000000000) : PuX prog 131 (Bx [.s s]) [] (fun r => r = .tup [.i .i64 (scNum s).1, .b (scNum s).2.1]) (Bx [.s (scNum s).2.2]) := by
  refine (p131 H.f131 (mP := ⟨s⟩) (K := fun x y b => x = (scNum s).1 ∧ y = (scNum s).2.1 ∧ b = ⟨(scNum s).2.2⟩) ?_).to (b := ⟨(scNum s).2.2⟩) fun r b' hk => ?_
  · unfold T131_0 T131_1
    intro P hP
    have hle := numN_le s
    refine loop_up0 (P := fun i => P i ⟨s⟩) (numN s) ?_ fun i hi ih => ?_
    · apply hP
      unfold T131_2
      have fin : 0 ≤ ((numN s : Nat) : Int) ∧ ((numN s : Nat) : Int).toNat ≤ s.length ∧ ∃ r : Int, ∃ r' : Int, Pus prog 21 [.s (s.take ((numN s : Nat) : Int).toNat)] (.tup [.i .i64 r, .i .i64 r']) ∧ 0 ≤ ((numN s : Nat) : Int) ∧ ((numN s : Nat) : Int).toNat ≤ s.length ∧ r = (scNum s).1 ∧ (decide (r' = 0)) = (scNum s).2.1 ∧ Sc.mk (s.drop ((numN s : Nat) : Int).toNat) = ⟨(scNum s).2.2⟩ := by
        rw [toNat_cast]
        exact ⟨by omega, hle, _, _, c21 H.toHas03 _, by omega, hle, rfl, rfl, rfl⟩
      refine ⟨fun h => ?_, fun _ => fin⟩
      have hlt : numN s < s.length := by simp only at h; omega
      obtain ⟨h1, h2⟩ := numN_stop (List.getElem?_eq_getElem hlt)
      have h1 := isD_not.1 h1
      have h2 : numN s = 0 → ¬(s[numN s].toNat = 45) := fun h => fun h' => h2 h (u8_45.2 h')
      refine ⟨by omega, s[numN s], get_at hlt, fun h3 => ⟨by omega, s[numN s], get_at hlt, fun h4 => absurd ⟨by omega, by omega⟩ h1, fun h4 => ⟨fun h5 => ⟨by omega, s[numN s], get_at hlt, fun h6 => absurd (show s[numN s].toNat = 45 by omega) (h2 (by omega)), fun _ => fin⟩, fun _ => fin⟩⟩,
        fun h3 => ⟨fun h5 => ⟨by omega, s[numN s], get_at hlt, fun h6 => absurd (show s[numN s].toNat = 45 by omega) (h2 (by omega)), fun _ => fin⟩, fun _ => fin⟩⟩
    · apply hP
      obtain ⟨c, hc, hd⟩ := numN_lt hi
      have hc' : s[((i : Nat) : Int).toNat]? = some c := hc
      rw [isD_iff, u8_45] at hd
      have ih' : P (IntKind.i64.wrap ((i : Int) + 1)) ⟨s⟩ := by rw [wr_succ (by omega)]; exact ih
      unfold T131_2
      refine ⟨fun _ => ⟨by omega, c, hc', fun h3 => ⟨by omega, c, hc', fun _ => ih', fun h4 => ⟨fun h5 => ⟨by omega, c, hc', fun _ => ih', fun h6 => absurd h6 (by omega)⟩, fun h5 => absurd h5 (by omega)⟩⟩,
        fun h3 => ⟨fun h5 => ⟨by omega, c, hc', fun _ => ih', fun h6 => absurd h6 (by omega)⟩, fun h5 => absurd h5 (by omega)⟩⟩, fun h => absurd (show (i : Int) < s.length by omega) h⟩
  · obtain ⟨x0, x1, h1, rfl, rfl, rfl⟩ := hk
    exact ⟨h1, rfl⟩
theorem c135 {s : Bytes} (hs : s.length ≤ 1000000000) : Pus prog 135 [.s s] (.i .i64 (numN s : Int)) := by
  obtain ⟨x, rfl, h⟩ := p135 H.f135 (s0 := s) (K := fun x => x = (numN s : Int)) (by
    have hle := numN_le s
    have key : ∀ k : Nat, k ≤ numN s → (numN s = 0 ∨ k ≠ 0 ∨ s.head? ≠ some 45) → T135_1 prog (fun x => x = (numN s : Int)) s (k : Int) := by
      intro k hk hk0
      unfold T135_1
      intro P hP
      have go : ∀ m i : Nat, i + m = numN s → (numN s = 0 ∨ i ≠ 0 ∨ s.head? ≠ some 45) → P (i : Int) := by
        intro m
        induction m with
        | zero =>
          intro i hi _
          simp only [Nat.add_zero] at hi
          subst hi
          apply hP
          unfold T135_2 T135_3
          refine ⟨fun h => ?_, fun _ => rfl⟩
          have hlt : numN s < s.length := by omega
          obtain ⟨h1, h2⟩ := numN_stop (List.getElem?_eq_getElem hlt)
          have h1 := isD_not.1 h1
          exact ⟨by omega, s[numN s], get_at hlt, fun h3 => ⟨by omega, s[numN s], get_at hlt, fun h4 => absurd ⟨by omega, by omega⟩ h1, fun _ => rfl⟩, fun _ => rfl⟩
        | succ m ih =>
          intro i hi h0
          apply hP
          obtain ⟨c, hc, hd⟩ := numN_lt (s := s) (i := i) (by omega)
          have hc' : s[((i : Nat) : Int).toNat]? = some c := hc
          have hd : isD c = true := by
            rcases hd with hd | ⟨rfl, rfl⟩
            · exact hd
            · rcases h0 with h0 | h0 | h0
              · omega
              · exact absurd rfl h0
              · rw [List.head?_eq_getElem?] at h0; exact absurd hc h0
          rw [isD_iff] at hd
          unfold T135_2
          refine ⟨fun _ => ⟨by omega, c, hc', fun h3 => ⟨by omega, c, hc', fun _ => ?_, fun h4 => absurd h4 (by omega)⟩, fun h3 => absurd h3 (by omega)⟩, fun h => absurd (show (i : Int) < s.length by omega) h⟩
          rw [wr_succ (by omega)]
          exact ih (i + 1) (by omega) (.inr (.inl (by omega)))
      exact go (numN s - k) k (by omega) hk0
    unfold T135_0
    have e : (cutp [45] s).2 = true ↔ s.head? = some 45 := by
      cases s with
      | nil => rw [cutp_nil]; simp
      | cons c s =>
        by_cases hc : c = 45
        · subst hc
          have := cutp_app [45] s
          rw [show [45] ++ s = 45 :: s from rfl] at this
          rw [this]; simp
        · rw [cutp_head (fun h => hc h.symm)]; simp [hc]
    refine ⟨_, c132 H s [45], fun h => key 1 ?_ (.inr (.inl (by decide))), fun h => key 0 (Nat.zero_le _) (.inr (.inr ?_))⟩
    · unfold numN
      rw [if_pos (e.1 h)]
      omega
    · intro h'
      rw [e.2 h'] at h
      cases h)
  exact h
theorem c130 {s : Bytes} (hs : s.length ≤ 1000000000) : PuX prog 130 (Bx [.s s]) [] (fun r => r = .tup [.s (scQ s).1, .b (scQ s).2.1]) (Bx [.s (scQ s).2.2]) := by
  refine (p130 H.f130 (mP := ⟨s⟩) (K := fun x y b => x = (scQ s).1 ∧ y = (scQ s).2.1 ∧ b = ⟨(scQ s).2.2⟩) ?_).to (b := ⟨(scQ s).2.2⟩) fun r b' hk => ?_
  · unfold T130_0 T130_1
    intro P hP
    have go : ∀ m i : Nat, s.length ≤ i + m → i ≤ s.length + 1 → 1 ≤ i → qs (s.drop 1) = (qs (s.drop i)).map (· + (i - 1)) → P (i : Int) ⟨s⟩ := by
      intro m
      induction m using Nat.strongRecOn with
      | _ m ih =>
      intro i hm hi h1 hq
      apply hP
      unfold T130_2
      refine ⟨fun h => ?_, fun h => ?_⟩
      · have : s.drop i = [] := List.drop_eq_nil_of_le (by simp only at h; omega)
        rw [this, qs_nil, Option.map_none] at hq
        unfold scQ
        rw [hq]
        exact ⟨rfl, rfl, rfl⟩
      · have hlt : i < s.length := by simp only at h; omega
        have hd : s.drop i = s[i] :: s.drop (i + 1) := List.drop_eq_getElem_cons hlt
        refine ⟨by omega, s[i], get_at hlt, fun h2 => ?_, fun h2 => ⟨by omega, s[i], get_at hlt, fun h3 => ?_, fun h3 => ?_⟩⟩
        · rw [wr_i64 (by omega) (by omega), show (i : Int) + 2 = ((i + 2 : Nat) : Int) by omega]
          have hc : s[i] = 92 := u8_eq (by show s[i].toNat = 92; omega)
          rw [hd, hc] at hq
          by_cases hl : i + 1 < s.length
          · have hd2 : s.drop (i + 1) = s[i + 1] :: s.drop (i + 2) := List.drop_eq_getElem_cons hl
            refine ih (m - 2) (by omega) (i + 2) (by omega) (by omega) (by omega) ?_
            rw [hd2, qs_esc, Option.map_map] at hq
            rw [hq]
            congr 1
            funext x
            simp only [Function.comp]
            omega
          · have hd2 : s.drop (i + 1) = [] := List.drop_eq_nil_of_le (by omega)
            refine ih (m - 1) (by omega) (i + 2) (by omega) (by omega) (by omega) ?_
            rw [hd2, qs_esc0] at hq
            rw [hq, List.drop_eq_nil_of_le (show s.length ≤ i + 2 by omega), qs_nil]
            rfl
        · rw [wr_succ (by omega)]
          have hc : ¬s[i] = 92 := fun e => h2 (by rw [e]; rfl)
          have hc' : ¬s[i] = 34 := fun e => h3 (by rw [e]; rfl)
          rw [hd, qs_go hc hc', Option.map_map] at hq
          refine ih (m - 1) (by omega) (i + 1) (by omega) (by omega) (by omega) ?_
          rw [hq]
          congr 1
          funext x
          simp only [Function.comp]
          omega
        · rw [wr_succ (by omega), toNat_cast]
          have hc : s[i] = 34 := u8_eq (by show s[i].toNat = 34; simp only [ne_eq, Decidable.not_not] at h3; omega)
          rw [hd, hc, qs_end, Option.map_some] at hq
          have e : 1 + (i - 1) + 1 = i + 1 := by omega
          refine ⟨by omega, by show i + 1 ≤ s.length; omega, _, _, c25 H.toHas03 _, by omega, by show i + 1 ≤ s.length; omega, ?_⟩
          unfold scQ
          rw [hq]
          simp [e]
    exact go s.length 1 (by omega) (by omega) (by omega) (by simp)
  · obtain ⟨x0, x1, h1, rfl, rfl, rfl⟩ := hk
    exact ⟨h1, rfl⟩
theorem c134 {s : Bytes} (hs : s.length ≤ 1000000000) : Pus prog 134 [.s s] (.i .i64 (match qs (s.drop 1) with | none => 0 | some k => ((k + 1 : Nat) : Int))) := by
  obtain ⟨x, rfl, h⟩ := p134 H.f134 (s0 := s) (K := fun x => x = (match qs (s.drop 1) with | none => 0 | some k => ((k + 1 : Nat) : Int))) (by
    unfold T134_0
    intro P hP
    have go : ∀ m i : Nat, s.length ≤ i + m → i ≤ s.length + 1 → 1 ≤ i → qs (s.drop 1) = (qs (s.drop i)).map (· + (i - 1)) → P (i : Int) := by
      intro m
      induction m using Nat.strongRecOn with
      | _ m ih =>
      intro i hm hi h1 hq
      apply hP
      unfold T134_1 T134_2 T134_3
      refine ⟨fun h => ?_, fun h => ?_⟩
      · have hlt : i < s.length := by omega
        have hd : s.drop i = s[i] :: s.drop (i + 1) := List.drop_eq_getElem_cons hlt
        refine ⟨by omega, s[i], get_at hlt, fun h2 => ?_, fun h2 => ⟨by omega, s[i], get_at hlt, fun h3 => ?_, fun h3 => ?_⟩⟩
        · rw [wr_succ (by omega), wr_succ (by omega)]
          have hc : s[i] = 92 := u8_eq (by show s[i].toNat = 92; omega)
          rw [hd, hc] at hq
          by_cases hl : i + 1 < s.length
          · have hd2 : s.drop (i + 1) = s[i + 1] :: s.drop (i + 2) := List.drop_eq_getElem_cons hl
            refine ih (m - 2) (by omega) (i + 2) (by omega) (by omega) (by omega) ?_
            rw [hd2, qs_esc, Option.map_map] at hq
            rw [hq]
            congr 1
            funext x
            simp only [Function.comp]
            omega
          · have hd2 : s.drop (i + 1) = [] := List.drop_eq_nil_of_le (by omega)
            refine ih (m - 1) (by omega) (i + 2) (by omega) (by omega) (by omega) ?_
            rw [hd2, qs_esc0] at hq
            rw [hq, List.drop_eq_nil_of_le (show s.length ≤ i + 2 by omega), qs_nil]
            rfl
        · rw [wr_succ (by omega)]
          have hc : s[i] = 34 := u8_eq (by show s[i].toNat = 34; omega)
          rw [hd, hc, qs_end, Option.map_some] at hq
          rw [hq]
          simp only
          omega
        · rw [wr_succ (by omega)]
          have hc : ¬s[i] = 92 := fun e => h2 (by rw [e]; rfl)
          have hc' : ¬s[i] = 34 := fun e => h3 (by rw [e]; rfl)
          rw [hd, qs_go hc hc', Option.map_map] at hq
          refine ih (m - 1) (by omega) (i + 1) (by omega) (by omega) (by omega) ?_
          rw [hq]
          congr 1
          funext x
          simp only [Function.comp]
          omega
      · have : s.drop i = [] := List.drop_eq_nil_of_le (by omega)
        rw [this, qs_nil, Option.map_none] at hq
        rw [hq]
    exact go s.length 1 (by omega) (by omega) (by omega) (by simp))
  exact h
end
end Go.AM

/- Chapter 38: what its functions return: values read, values compared. -/
namespace Go.AM
open Go
/-- Enough room for all that is read. -/
theorem scNum_len (s : Bytes) : (scNum s).2.2.length ≤ s.length := by unfold scNum; simp
theorem scQ_len (s : Bytes) : (scQ s).2.2.length ≤ s.length := by
  unfold scQ
  split <;> simp
theorem cutp_len (p s : Bytes) : (cutp p s).1.length ≤ s.length := by
  unfold cutp
  split <;> simp
section
variable {f : Bytes → Val × Bool × Bytes}
theorem scG_len {kind : Int} {stop : Bytes} (hf : ∀ s, (f s).2.2.length ≤ s.length) : ∀ (n : Nat) (acc : List Val) (s : Bytes), (scG f kind stop n acc s).2.2.length ≤ s.length
  | 0, acc, s => Nat.le_refl _
  | n + 1, acc, s => by
    have h1 := hf s
    have h2 := cutp_len stop (f s).2.2
    have h3 := cutp_len [44, 32] (cutp stop (f s).2.2).1
    rw [scG]
    split
    · exact h1
    · split
      · exact Nat.le_trans h2 h1
      · split
        · exact Nat.le_trans h3 (Nat.le_trans h2 h1)
        · exact Nat.le_trans (scG_len hf n _ _) (Nat.le_trans h3 (Nat.le_trans h2 h1))
theorem scL_len {kind : Int} {stop s : Bytes} (hf : ∀ s, (f s).2.2.length ≤ s.length) : (scL f kind stop s).2.2.length ≤ s.length := by
  unfold scL
  split
  · exact cutp_len _ _
  · exact Nat.le_trans (scG_len hf 17 [] _) (cutp_len _ _)
theorem len_ite {c : Prop} [Decidable c] {a b : Val × Bool × Bytes} {n : Nat} (ha : a.2.2.length ≤ n) (hb : b.2.2.length ≤ n) : (if c then a else b).2.2.length ≤ n := by
  split
  · exact ha
  · exact hb
theorem scV_len : ∀ (d : Nat) (s : Bytes), (scV d s).2.2.length ≤ s.length
  | 0, s => Nat.le_refl _
  | d + 1, s => by
    have ih := scV_len d
    rw [scV]
    exact len_ite (Nat.le_refl _) (len_ite (cutp_len _ _) (len_ite (cutp_len _ _) (len_ite (cutp_len _ _) (len_ite (cutp_len _ _) (len_ite (cutp_len _ _) (len_ite (Nat.le_trans (ih _) (cutp_len _ _)) (len_ite (Nat.le_trans (scL_len ih) (cutp_len _ _))
      (len_ite (Nat.le_trans (scL_len ih) (cutp_len _ _)) (len_ite (Nat.le_trans (scL_len ih) (cutp_len _ _)) (len_ite (scQ_len _) (scNum_len _)))))))))))
end
section
variable {prog : Prog} (H : Has38 prog)
include H
/-- A result of the scanner. -/
abbrev ScR (r : Val × Bool × Bytes) : AV → Prop := fun x => ∃ o : Own, x = .tup [.ag [.i .u8 r.1.kind, .i .i64 r.1.int, .s r.1.text, .sl o (List.map Val.row r.1.list), .b r.1.cut], .b r.2.1]

theorem c129 {f : Bytes → Val × Bool × Bytes} {d : Nat} (hf : ∀ s, (f s).2.2.length ≤ s.length) (hc : ∀ s : Bytes, s.length ≤ 1000000000 → PuX prog 107 (Bx [.s s]) [.i .i64 (d : Int)] (ScR (f s)) (Bx [.s (f s).2.2])) {kind : Int} {stop s : Bytes} (hs : s.length ≤ 1000000000) :
    PuX prog 129 (Bx [.s s]) [.i .u8 kind, .s stop, .i .i64 (d : Int)] (ScR (scL f kind stop s)) (Bx [.s (scL f kind stop s).2.2]) := by
  refine (p129 H.f129 (kind1 := kind) (end2 := stop) (nest3 := (d : Int)) (mP := ⟨s⟩) (K := fun x y b => x = (scL f kind stop s).1 ∧ y = (scL f kind stop s).2.1 ∧ b = ⟨(scL f kind stop s).2.2⟩) ?_).to (b := ⟨(scL f kind stop s).2.2⟩) fun r b' hk => ?_
  · unfold T129_0
    refine ⟨_, ⟨(cutp stop s).1⟩, c128 H stop s, fun h => ?_, fun h P hP => ?_⟩
    · unfold scL
      rw [if_pos h]
      exact ⟨rfl, rfl, rfl⟩
    · have e : scL f kind stop s = scG f kind stop 17 [] (cutp stop s).1 := by unfold scL; rw [if_neg (by rw [h]; decide)]
      have hl := cutp_len stop s
      generalize (cutp stop s).1 = t at hl e ⊢
      have go : ∀ (n : Nat) (acc : List Val) (u : Bytes), acc.length + n = 17 → u.length ≤ t.length → scG f kind stop 17 [] t = scG f kind stop n acc u → P (Val.mk 0 0 [] [] false) (Val.mk kind 0 [] acc false) ⟨u⟩ := by
        intro n
        induction n with
        | zero =>
          intro acc u ha hu hq
          apply hP
          rw [e, hq]
          unfold T129_1 T129_2
          refine ⟨fun h => absurd h (by simp only [Val.list_mk]; omega), fun _ => ⟨rfl, rfl, rfl⟩⟩
        | succ n ih =>
          intro acc u ha hu hq
          apply hP
          rw [e, hq, scG]
          have h1 := hf u
          have h2 := cutp_len stop (f u).2.2
          have h3 := cutp_len [44, 32] (cutp stop (f u).2.2).1
          unfold T129_1
          refine ⟨fun _ => ⟨(f u).1, (f u).2.1, ⟨(f u).2.2⟩, hc u (by omega), fun g1 => ?_, fun g1 => ⟨⟨?_, ?_⟩, _, ⟨(cutp stop (f u).2.2).1⟩, c128 H stop (f u).2.2, fun g2 => ?_, fun g2 => ⟨_, ⟨(cutp [44, 32] (cutp stop (f u).2.2).1).1⟩, c128 H [44, 32] (cutp stop (f u).2.2).1, fun g3 => ?_, fun g3 => ?_⟩⟩⟩, fun h => absurd (show (acc.length : Int) ≤ 16 by omega) h⟩
          · rw [if_pos (by simpa using g1)]
            exact ⟨rfl, rfl, rfl⟩
          · simp only [Val.list_mk, List.length_cons, List.length_nil, maxBytes_eq]; omega
          · simp only [Val.list_mk, List.length_cons, List.length_nil, maxBytes_eq]; omega
          · rw [if_neg (by simpa using g1), if_pos g2]
            exact ⟨rfl, rfl, rfl⟩
          · rw [if_neg (by simpa using g1), if_neg (by rw [g2]; decide), if_pos (by simpa using g3)]
            exact ⟨rfl, rfl, rfl⟩
          · refine ih (acc ++ [(f u).1]) _ (by simp; omega) (by omega) ?_
            rw [hq, scG, if_neg (by simpa using g1), if_neg (by rw [g2]; decide), if_neg (by simpa using g3)]
      exact go 17 [] t rfl (Nat.le_refl _) rfl
  · obtain ⟨x0, x1, h1, rfl, rfl, rfl⟩ := hk
    exact ⟨h1, rfl⟩
omit H in
theorem scV_list (d : Nat) (s : Bytes) : Wf (scV d s).1 := scV_wf d s
theorem c107 : ∀ (d : Nat) {s : Bytes}, s.length ≤ 1000000000 → d ≤ 1000 → PuX prog 107 (Bx [.s s]) [.i .i64 (d : Int)] (ScR (scV d s)) (Bx [.s (scV d s).2.2])
  | 0, s, hs, hd => by
    refine (p107 H.f107 (nest1 := ((0 : Nat) : Int)) (mP := ⟨s⟩) (K := fun x y b => x = (scV 0 s).1 ∧ y = (scV 0 s).2.1 ∧ b = ⟨(scV 0 s).2.2⟩) ?_).to (b := ⟨(scV 0 s).2.2⟩) fun r b' hk => ?_
    · unfold T107_0 T107_1
      exact ⟨fun _ => ⟨rfl, rfl, rfl⟩, fun h => absurd rfl h⟩
    · obtain ⟨x0, x1, h1, rfl, rfl, rfl⟩ := hk
      exact ⟨h1, rfl⟩
  | d + 1, s, hs, hd => by
    have ih := fun s hs => @c107 d s hs (by omega)
    have hm : IntKind.i64.wrap (((d + 1 : Nat) : Int) - 1) = (d : Int) := by rw [wr_i64 (by omega) (by omega)]; omega
    refine (p107 H.f107 (nest1 := ((d + 1 : Nat) : Int)) (mP := ⟨s⟩) (K := fun x y b => x = (scV (d + 1) s).1 ∧ y = (scV (d + 1) s).2.1 ∧ b = ⟨(scV (d + 1) s).2.2⟩) ?_).to (b := ⟨(scV (d + 1) s).2.2⟩) fun r b' hk => ?_
    · have e := scV.eq_2 s d
      unfold T107_0 T107_1
      refine ⟨fun h => absurd h (by omega), fun _ => ⟨fun h => ?_, fun h0 => ?_⟩⟩
      · rw [e, if_pos h]; exact ⟨rfl, rfl, rfl⟩
      rw [if_neg h0] at e
      unfold T107_2
      refine ⟨_, ⟨(cutp tTrue s).1⟩, c128 H tTrue s, ?_⟩
      unfold T107_3
      refine ⟨fun h => ?_, fun h => ?_⟩
      · rw [e, if_pos h]; exact ⟨rfl, rfl, rfl⟩
      rw [if_neg (by rw [h]; decide)] at e
      rw [cutp_no h]
      refine ⟨_, ⟨(cutp tFalse s).1⟩, c128 H tFalse s, ?_⟩
      clear h
      unfold T107_4
      refine ⟨fun h => ?_, fun h => ?_⟩
      · rw [e, if_pos h]; exact ⟨rfl, rfl, rfl⟩
      rw [if_neg (by rw [h]; decide)] at e
      rw [cutp_no h]
      refine ⟨_, ⟨(cutp tNil s).1⟩, c128 H tNil s, ?_⟩
      clear h
      unfold T107_5
      refine ⟨fun h => ?_, fun h => ?_⟩
      · rw [e, if_pos h]; exact ⟨rfl, rfl, rfl⟩
      rw [if_neg (by rw [h]; decide)] at e
      rw [cutp_no h]
      refine ⟨_, ⟨(cutp tCutP s).1⟩, c128 H tCutP s, ?_⟩
      clear h
      unfold T107_6
      refine ⟨fun h => ?_, fun h => ?_⟩
      · rw [e, if_pos h]; exact ⟨rfl, rfl, rfl⟩
      rw [if_neg (by rw [h]; decide)] at e
      rw [cutp_no h]
      refine ⟨_, ⟨(cutp tCutS s).1⟩, c128 H tCutS s, ?_⟩
      clear h
      unfold T107_7
      refine ⟨fun h => ?_, fun h => ?_⟩
      · rw [e, if_pos h]; exact ⟨rfl, rfl, rfl⟩
      rw [if_neg (by rw [h]; decide)] at e
      rw [cutp_no h]
      refine ⟨_, ⟨(cutp [38] s).1⟩, c128 H [38] s, ?_⟩
      clear h
      unfold T107_8
      rw [hm]
      have l1 := cutp_len [38] s
      refine ⟨fun h => ⟨_, _, ⟨_⟩, ih _ (Nat.le_trans l1 hs), ?_⟩, fun h => ?_⟩
      · rw [e, if_pos h]; exact ⟨rfl, rfl, rfl⟩
      rw [if_neg (by rw [h]; decide)] at e
      rw [cutp_no h]
      have l1 := cutp_len [123] s
      refine ⟨_, ⟨(cutp [123] s).1⟩, c128 H [123] s, fun h => ⟨_, _, ⟨_⟩, c129 H (scV_len d) ih (Nat.le_trans l1 hs), ?_⟩, fun h => ?_⟩
      · rw [e, if_pos h]; exact ⟨rfl, rfl, rfl⟩
      rw [if_neg (by rw [h]; decide)] at e
      rw [cutp_no h]
      have l1 := cutp_len [91] s
      refine ⟨_, ⟨(cutp [91] s).1⟩, c128 H [91] s, fun h => ⟨_, _, ⟨_⟩, c129 H (scV_len d) ih (Nat.le_trans l1 hs), ?_⟩, fun h => ?_⟩
      · rw [e, if_pos h]; exact ⟨rfl, rfl, rfl⟩
      rw [if_neg (by rw [h]; decide)] at e
      rw [cutp_no h]
      have l1 := cutp_len [60] s
      refine ⟨_, ⟨(cutp [60] s).1⟩, c128 H [60] s, fun h => ⟨_, _, ⟨_⟩, c129 H (scV_len d) ih (Nat.le_trans l1 hs), ?_⟩, fun h => ?_⟩
      · rw [e, if_pos h]; exact ⟨rfl, rfl, rfl⟩
      rw [if_neg (by rw [h]; decide)] at e
      rw [cutp_no h]
      cases s with
      | nil => exact absurd rfl h0
      | cons c s =>
        refine ⟨c, rfl, fun h => ⟨_, _, ⟨_⟩, c130 H hs, ?_⟩, fun h => ⟨_, _, ⟨_⟩, c131 H hs, ?_⟩⟩
        · have hc : c = 34 := u8_eq (by show c.toNat = 34; omega)
          subst hc
          rw [e, List.head?_cons, if_pos rfl]; exact ⟨rfl, rfl, rfl⟩
        · rw [e, if_neg (by rw [List.head?_cons]; intro he; injection he with he; exact h (by rw [he]; rfl))]; exact ⟨rfl, rfl, rfl⟩
    · obtain ⟨x0, x1, h1, rfl, rfl, rfl⟩ := hk
      exact ⟨h1, rfl⟩
omit H in
theorem chk_fine {v : Val} : chkR v = 0 ↔ fine v = true := by
  unfold chkR
  by_cases h : fine v = true
  · rw [if_pos h]; simp [h]
  · rw [if_neg h]; simp [h]
theorem c74 {s : Bytes} (hs : s.length ≤ 1000000000) : Pus prog 74 [.s s] (.tup [(rvs s).1.av, .i .i64 (rvs s).2]) := by
  obtain ⟨x, y, ⟨rfl, rfl⟩, h⟩ := p74 H.f74 (s0 := s) (K := fun x y => x = (rvs s).1 ∧ y = (rvs s).2) (by
    unfold T74_0 rvs
    refine ⟨fun h => ?_, fun h => ⟨_, _, ⟨_⟩, c107 H 130 hs (by decide), fun h1 => ?_, fun h1 => ⟨fun h2 => ?_, fun h2 => ⟨_, _, c72 H (scV_wf _ _), fun h3 => ?_, fun h3 => ⟨fun h4 => ?_, fun h4 => ?_⟩⟩⟩⟩⟩
    · rw [if_pos (by omega)]; exact ⟨rfl, rfl⟩
    · rw [if_neg (by omega), if_neg (by rintro ⟨h, _⟩; rw [h] at h1; cases h1)]; exact ⟨rfl, rfl⟩
    · rw [if_neg (by omega), if_neg (by rintro ⟨_, h, _⟩; exact h2 h)]; exact ⟨rfl, rfl⟩
    · rw [if_neg (by omega), if_neg (by rintro ⟨_, _, h, _⟩; exact h3 (chk_fine.2 h))]; exact ⟨rfl, rfl⟩
    · rw [if_neg (by omega), if_neg]; · exact ⟨rfl, rfl⟩
      rintro ⟨_, _, h5, h6⟩
      rw [if_pos h5] at h4
      exact h4 h6
    · have h5 := chk_fine.1 (Decidable.not_not.1 h3)
      rw [if_pos h5] at h4
      rw [if_neg (by omega), if_pos ⟨by simpa using h1, Decidable.not_not.1 h2, h5, Decidable.not_not.1 h4⟩]
      exact ⟨rfl, rfl⟩)
  exact h
end
end Go.AM

/- Chapter 38: what its functions return: the reference reads values; values compared; the first law. -/
namespace Go.AM
open Go
theorem cutp_one (e c : UInt8) (t : Bytes) : cutp [e] (c :: t) = if c = e then (t, true) else (c :: t, false) := by
  by_cases h : c = e
  · subst h; rw [if_pos rfl]; exact cutp_app [c] t
  · rw [if_neg h]; exact cutp_head fun h' => h h'.symm
/-- A read value, where there is one. -/
def RdK (q : Val × Bool × Bytes) (v : Val) (r : Bytes) (ok : Bool) : Prop := ok = q.2.1 ∧ (ok = true → v = q.1 ∧ r = q.2.2)
theorem RdK.no {q : Val × Bool × Bytes} {v : Val} {r : Bytes} (h : q.2.1 = false) : RdK q v r false := ⟨h.symm, fun h => by cases h⟩
theorem RdK.yes {q : Val × Bool × Bytes} {v : Val} {r : Bytes} (h : q = (v, true, r)) : RdK q v r true := by subst h; exact ⟨rfl, fun _ => ⟨rfl, rfl⟩⟩
section
variable {prog : Prog} (H : Has38 prog)
include H
theorem c133 {f : Bytes → Val × Bool × Bytes} {d : Nat} (hd : d ≤ 1000) (hf : ∀ s, (f s).2.2.length ≤ s.length) (hc : ∀ s : Bytes, s.length ≤ 1000000000 → ∃ v r ok, RdK (f s) v r ok ∧ Pus prog 108 [.s s, .i .i64 (d : Int)] (.tup [v.av, .s r, .b ok])) {kind : Int} {e : UInt8} {s : Bytes} (hs : s.length ≤ 1000000000) :
    ∃ v r ok, RdK (scL f kind [e] s) v r ok ∧ Pus prog 133 [.s s, .i .u8 kind, .i .u8 (e.toNat : Int), .i .i64 ((d + 1 : Nat) : Int)] (.tup [v.av, .s r, .b ok]) := by
  refine p133 H.f133 (s0 := s) (kind1 := kind) (end2 := (e.toNat : Int)) (deep3 := ((d + 1 : Nat) : Int)) (K := RdK (scL f kind [e] s)) ?_
  have hm : IntKind.i64.wrap (((d + 1 : Nat) : Int) - 1) = (d : Int) := by rw [wr_i64 (by omega) (by omega)]; omega
  have lp : (cutp [e] s).2 = false → ∀ P0 : Bytes → Val → Val → Prop, (∀ (s0 : Bytes) (m0 : Val) (m4098 : Val), T133_3 prog (RdK (scL f kind [e] s)) P0 s0 (e.toNat : Int) ((d + 1 : Nat) : Int) m0 m4098 → P0 s0 m0 m4098) → P0 s (Val.mk 0 0 [] [] false) (Val.mk kind 0 [] [] false) := by
    intro hcut P hP
    have e1 : scL f kind [e] s = scG f kind [e] 17 [] s := by unfold scL; rw [if_neg (by rw [hcut]; decide), cutp_no hcut]
    have go : ∀ (n : Nat) (acc : List Val) (u : Bytes), acc.length + n = 17 → u.length ≤ s.length → scG f kind [e] 17 [] s = scG f kind [e] n acc u → P u (Val.mk 0 0 [] [] false) (Val.mk kind 0 [] acc false) := by
      intro n
      induction n with
      | zero =>
        intro acc u ha hu hq
        apply hP
        rw [e1, hq]
        unfold T133_3 T133_4
        refine ⟨fun h => absurd h (by simp only [Val.list_mk]; omega), fun _ => RdK.no rfl⟩
      | succ n ih =>
        intro acc u ha hu hq
        apply hP
        rw [e1, hq]
        obtain ⟨v, r, ok, ⟨hk1, hk2⟩, hk3⟩ := hc u (by omega)
        have h1 := hf u
        unfold T133_3 T133_4
        rw [hm]
        refine ⟨fun _ => ⟨v, r, ok, hk3, fun g1 => ?_, fun g1 => ?_⟩, fun h => absurd (show (acc.length : Int) ≤ 16 by omega) h⟩
        · refine RdK.no ?_
          rw [scG, if_pos (by rw [← hk1]; simpa using g1)]
        have g1 : ok = true := by simpa using g1
        obtain ⟨rfl, rfl⟩ := hk2 g1
        rw [g1] at hk1
        have e2 := scG.eq_2 f kind [e] acc u n
        rw [if_neg (by rw [← hk1]; decide)] at e2
        refine ⟨fun g2 => ?_, fun g2 => ⟨⟨?_, ?_⟩, ?_⟩⟩
        · have h2 : (f u).2.2 = [] := len0 (by omega)
          rw [h2, cutp_nil, if_neg (by simp), cutp_nil, if_pos rfl] at e2
          refine RdK.no ?_
          rw [show n + 1 = n.succ from rfl, e2]
        · simp only [Val.list_mk, List.length_cons, List.length_nil, maxBytes_eq]; omega
        · simp only [Val.list_mk, List.length_cons, List.length_nil, maxBytes_eq]; omega
        · cases hr : (f u).2.2 with
          | nil => rw [hr] at g2; exact absurd rfl g2
          | cons c t =>
            rw [hr] at e2 h1
            rw [cutp_one] at e2
            refine ⟨c, rfl, fun g3 => ⟨by simp, ?_⟩, fun g3 => ?_⟩
            · have hce : c = e := u8_eq (by omega)
              rw [if_pos hce, if_pos rfl] at e2
              exact RdK.yes e2
            · have hce : ¬c = e := fun h => g3 (by rw [h])
              rw [if_neg hce, if_neg (by simp)] at e2
              refine ⟨_, c132 H _ [44, 32], fun g4 => ?_, fun g4 => ?_⟩
              · rw [if_pos (by simpa using g4)] at e2
                refine RdK.no ?_
                rw [show n + 1 = n.succ from rfl, e2]
              · have g4 : (cutp [44, 32] (c :: t)).2 = true := by simpa using g4
                rw [if_neg (by rw [g4]; decide)] at e2
                have h4 : (cutp [44, 32] (c :: t)).1 = (c :: t).drop 2 ∧ 2 ≤ (c :: t).length := by
                  unfold cutp at g4 ⊢
                  split at g4
                  · rename_i h5
                    rw [if_pos h5]
                    have := congrArg List.length h5
                    simp only [List.length_take, List.length_cons, List.length_nil] at this
                    exact ⟨rfl, by simp only [List.length_cons]; omega⟩
                  · cases g4
                refine ⟨h4.2, ?_⟩
                rw [h4.1] at e2
                refine ih (acc ++ [(f u).1]) _ (by simp; omega) (by simp only [List.length_drop, List.length_cons] at h1 ⊢; omega) ?_
                rw [hq, show n + 1 = n.succ from rfl, e2]
    exact go 17 [] s rfl (Nat.le_refl _) rfl
  unfold T133_0 T133_1 T133_2
  refine ⟨fun h => ?_, fun h => ?_⟩
  · cases s with
    | nil => exact absurd h (by decide)
    | cons c t =>
      have e3 := cutp_one e c t
      refine ⟨c, rfl, fun g => ⟨by simp, ?_⟩, fun g => ?_⟩
      · have hce : c = e := u8_eq (by omega)
        rw [if_pos hce] at e3
        refine RdK.yes ?_
        unfold scL
        rw [e3, if_pos rfl]
        rfl
      · have hce : ¬c = e := fun h => g (by rw [h])
        rw [if_neg hce] at e3
        exact lp (by rw [e3])
  · have h0 : s = [] := len0 (by omega)
    exact lp (by rw [h0, cutp_nil])
theorem c108 : ∀ (d : Nat) {s : Bytes}, s.length ≤ 1000000000 → d ≤ 1000 → ∃ v r ok, RdK (scV d s) v r ok ∧ Pus prog 108 [.s s, .i .i64 (d : Int)] (.tup [v.av, .s r, .b ok])
  | 0, s, hs, hd => by
    refine p108 H.f108 (s0 := s) (deep1 := ((0 : Nat) : Int)) (K := RdK (scV 0 s)) ?_
    unfold T108_0 T108_1
    exact ⟨fun _ => RdK.no rfl, fun h => absurd rfl h⟩
  | d + 1, s, hs, hd => by
    have ih := fun s hs => @c108 d s hs (by omega)
    have hm : IntKind.i64.wrap (((d + 1 : Nat) : Int) - 1) = (d : Int) := by rw [wr_i64 (by omega) (by omega)]; omega
    refine p108 H.f108 (s0 := s) (deep1 := ((d + 1 : Nat) : Int)) (K := RdK (scV (d + 1) s)) ?_
    have e := scV.eq_2 s d
    unfold T108_0 T108_1
    refine ⟨fun h => absurd h (by omega), fun _ => ⟨fun h => ?_, fun h0 => ?_⟩⟩
    · have h0 : s = [] := len0 (by omega)
      refine RdK.no ?_
      rw [show d + 1 = d.succ from rfl, e, if_pos h0]
    have h0 : ¬s = [] := fun h => h0 (by rw [h]; rfl)
    rw [if_neg h0] at e
    unfold T108_2 T108_3 T108_4
    intro P hP
    have word : ∀ (i : Nat) (w : Bytes) (v : Val), [tTrue, tFalse, tNil, tCutP, tCutS][i]? = some w → [Val.mk 1 1 [] [] false, Val.mk 1 0 [] [] false, Val.mk 4 0 [] [] false, Val.mk 4 0 [] [] true, Val.mk 7 0 [] [] true][i]? = some v → i < 5 →
        ((cutp w s).2 = true → scV (d + 1) s = (v, true, (cutp w s).1)) → ((cutp w s).2 = false → P ((i + 1 : Nat) : Int) (Val.mk 0 0 [] [] false)) → P (i : Int) (Val.mk 0 0 [] [] false) := by
      intro i w v hw hv hi h1 h2
      apply hP
      unfold T108_5
      refine ⟨fun _ => ⟨by omega, w, hw, _, c132 H s w, fun g => ⟨by omega, v, hv, by omega, w, hw, by omega, ?_, ?_⟩, fun g => ?_⟩, fun h => absurd (show (i : Int) < 5 by omega) h⟩
      · rw [toNat_cast]
        unfold cutp at g
        split at g
        · rename_i h5
          have := congrArg List.length h5
          simp only [List.length_take] at this
          omega
        · cases g
      · refine RdK.yes ?_
        rw [h1 g]
        unfold cutp at g ⊢
        split at g
        · rename_i h5; rw [if_pos h5, toNat_cast]
        · cases g
      · rw [wr_succ (by omega)]
        exact h2 g
    refine word 0 tTrue _ rfl rfl (by decide) (fun h => by rw [show d + 1 = d.succ from rfl, e, if_pos h]) fun h => ?_
    rw [if_neg (by rw [h]; decide)] at e
    refine word 1 tFalse _ rfl rfl (by decide) (fun h => by rw [show d + 1 = d.succ from rfl, e, if_pos h]) fun h => ?_
    rw [if_neg (by rw [h]; decide)] at e
    refine word 2 tNil _ rfl rfl (by decide) (fun h => by rw [show d + 1 = d.succ from rfl, e, if_pos h]) fun h => ?_
    rw [if_neg (by rw [h]; decide)] at e
    refine word 3 tCutP _ rfl rfl (by decide) (fun h => by rw [show d + 1 = d.succ from rfl, e, if_pos h]) fun h => ?_
    rw [if_neg (by rw [h]; decide)] at e
    refine word 4 tCutS _ rfl rfl (by decide) (fun h => by rw [show d + 1 = d.succ from rfl, e, if_pos h]) fun h => ?_
    rw [if_neg (by rw [h]; decide)] at e
    apply hP
    unfold T108_5
    refine ⟨fun h => absurd h (by decide), fun _ => ?_⟩
    cases s with
    | nil => exact absurd rfl h0
    | cons c s =>
      have ch : ∀ x : UInt8, (c.toNat : Int) = (x.toNat : Int) ↔ c = x := fun x => ⟨fun h => u8_eq (by omega), fun h => by rw [h]⟩
      have hsl : s.length ≤ 1000000000 := by simp only [List.length_cons] at hs; omega
      unfold T108_6 T108_7 T108_8
      refine ⟨c, rfl, fun h => ⟨by simp, ?_⟩, fun h => ⟨fun h1 => ⟨by simp, ?_⟩, fun h1 => ⟨fun h2 => ⟨by simp, ?_⟩, fun h2 => ⟨fun h3 => ⟨by simp, ?_⟩, fun h3 => ⟨fun h4 => ?_, fun h4 => ?_⟩⟩⟩⟩⟩
      · have hce : c = 38 := (ch 38).1 (by simpa using h)
        rw [cutp_one, if_pos hce, if_pos rfl] at e
        obtain ⟨v, r, ok, ⟨hk1, hk2⟩, hk3⟩ := ih s hsl
        rw [hm]
        refine ⟨v, r, ok, hk3, ?_⟩
        rw [show d + 1 = d.succ from rfl, e]
        refine ⟨hk1, fun h => ?_⟩
        obtain ⟨rfl, rfl⟩ := hk2 h
        exact ⟨rfl, rfl⟩
      all_goals
        have hce : ¬c = 38 := fun g => by rw [g] at h; revert h; decide
        rw [cutp_one, if_neg hce, if_neg (by simp), cutp_one] at e
      · rw [if_pos ((ch 123).1 h1), if_pos rfl] at e
        rw [show d + 1 = d.succ from rfl, e]
        obtain ⟨v, r, ok, h5, h6⟩ := c133 H (by omega) (scV_len d) ih (kind := 5) (e := 125) hsl
        exact ⟨v, r, ok, h6, h5⟩
      all_goals rw [if_neg (fun g => h1 ((ch 123).2 g)), if_neg (by simp), cutp_one] at e
      · rw [if_pos ((ch 91).1 h2), if_pos rfl] at e
        rw [show d + 1 = d.succ from rfl, e]
        obtain ⟨v, r, ok, h5, h6⟩ := c133 H (by omega) (scV_len d) ih (kind := 6) (e := 93) hsl
        exact ⟨v, r, ok, h6, h5⟩
      all_goals rw [if_neg (fun g => h2 ((ch 91).2 g)), if_neg (by simp), cutp_one] at e
      · rw [if_pos ((ch 60).1 h3), if_pos rfl] at e
        rw [show d + 1 = d.succ from rfl, e]
        obtain ⟨v, r, ok, h5, h6⟩ := c133 H (by omega) (scV_len d) ih (kind := 7) (e := 62) hsl
        exact ⟨v, r, ok, h6, h5⟩
      all_goals rw [if_neg (fun g => h3 ((ch 60).2 g)), if_neg (by simp), List.head?_cons] at e
      · rw [if_pos (by rw [(ch 34).1 h4])] at e
        rw [show d + 1 = d.succ from rfl, e]
        have hq : ∀ k, qs ((c :: s).drop 1) = some k → k + 1 ≤ (c :: s).length := by
          intro k hk
          have := qs_le _ _ k (Nat.le_refl _) hk
          simp only [List.drop_succ_cons, List.drop_zero, List.length_cons] at this ⊢
          omega
        refine ⟨_, c134 H hs, ?_⟩
        unfold scQ
        cases hk : qs ((c :: s).drop 1) with
        | none =>
          refine ⟨by decide, by simp, _, _, c26 H.toHas03 _, by decide, by simp, ?_⟩
          have : decide ((unquo (((c :: s)).take 0)).2 = 0) = false := by rw [List.take_zero]; decide
          rw [show ((0 : Int)).toNat = 0 from rfl, this]
          exact RdK.no rfl
        | some k =>
          have := hq k hk
          refine ⟨by show (0 : Int) ≤ ((k + 1 : Nat) : Int); omega, this, _, _, c26 H.toHas03 _, by show (0 : Int) ≤ ((k + 1 : Nat) : Int); omega, this, ?_⟩
          exact ⟨rfl, fun _ => ⟨rfl, rfl⟩⟩
      · rw [if_neg (by intro g; injection g with g; exact h4 ((ch 34).2 g))] at e
        rw [show d + 1 = d.succ from rfl, e]
        have := numN_le (c :: s)
        refine ⟨_, c135 H hs, by omega, this, _, _, c22 H.toHas03 _, by omega, this, ?_⟩
        exact ⟨rfl, fun _ => ⟨rfl, rfl⟩⟩
theorem c75 {s : Bytes} (hs : s.length ≤ 1000000000) : Pus prog 75 [.s s] (.tup [(rvs s).1.av, .i .i64 (rvs s).2]) := by
  obtain ⟨x, y, ⟨rfl, rfl⟩, h⟩ := p75 H.f75 (s0 := s) (K := fun x y => x = (rvs s).1 ∧ y = (rvs s).2) (by
    unfold T75_0 rvs
    obtain ⟨v, r, ok, ⟨hk1, hk2⟩, hk3⟩ := c108 H 130 hs (by decide)
    refine ⟨fun h => ?_, fun h => ⟨v, r, ok, hk3, fun h1 => ?_, fun h1 => ?_⟩⟩
    · rw [if_pos (by omega)]; exact ⟨rfl, rfl⟩
    · rw [if_neg (by omega), if_neg (by rintro ⟨h, _⟩; rw [hk1, h] at h1; cases h1)]; exact ⟨rfl, rfl⟩
    · have h1 : ok = true := by simpa using h1
      obtain ⟨rfl, rfl⟩ := hk2 h1
      rw [h1] at hk1
      refine ⟨fun h2 => ?_, fun h2 => ⟨_, c77 H (scV_wf _ _), fun h3 => ?_, fun h3 => ?_⟩⟩
      · rw [if_neg (by omega), if_neg (by rintro ⟨_, h, _⟩; exact h2 h)]; exact ⟨rfl, rfl⟩
      · rw [if_neg (by omega), if_neg (by rintro ⟨_, _, h, _⟩; exact h3 (chk_fine.2 h))]; exact ⟨rfl, rfl⟩
      · have h5 := chk_fine.1 (Decidable.not_not.1 h3)
        have h6 := fine_len h5
        refine ⟨_, c106 H 130 (fine_ok h5).1 (scV_wf _ _) (by omega), fun h4 => ?_, fun h4 => ?_⟩
        · rw [if_neg (by omega), if_neg]; · exact ⟨rfl, rfl⟩
          rintro ⟨_, _, _, h7⟩
          exact h4 h7
        · rw [if_neg (by omega), if_pos ⟨hk1.symm, Decidable.not_not.1 h2, h5, Decidable.not_not.1 h4⟩]
          exact ⟨rfl, rfl⟩)
  exact h
theorem c78 {a : Val} (hw : Wf a) : ∀ b : Val, Pus prog 78 [a.av, b.av] (.b (sameV a b)) := by
  induction hw with
  | @mk k n s l c hk hn hl _ ih =>
    intro b
    obtain ⟨x, rfl, h⟩ := p78 H.f78 (a0 := Val.mk k n s l c) (b1 := b) (K := fun x => x = sameV (Val.mk k n s l c) b) (by
      have no : ∀ {p : Prop}, (Val.mk k n s l c = b → p) → ¬p → false = sameV (Val.mk k n s l c) b := fun h1 h2 => (sameV_false.2 fun h => h2 (h1 h)).symm
      unfold T78_0
      refine ⟨fun h => no (fun e => by rw [← e]) h, fun h1 => ⟨fun h => no (fun e => by rw [← e]) h, fun h2 => ⟨fun h => no (fun e => by rw [← e]) h, fun h3 => ⟨fun h => no (fun e => by rw [← e]) h, fun h4 => ⟨fun h => no (fun e => by rw [← e]) h, fun h5 P hP => ?_⟩⟩⟩⟩⟩
      have h1 := Decidable.not_not.1 h1
      have h2 := Decidable.not_not.1 h2
      have h3 := Decidable.not_not.1 h3
      have h4 := Decidable.not_not.1 h4
      have h5 : l.length = b.list.length := by have := Decidable.not_not.1 h5; simp only [Val.list_mk] at this; omega
      refine loop_inv (P := fun _ i => P i (Val.mk k n s l c) b) (fun _ => ()) l.length (fun i => l.take i = b.list.take i) (by simp) (fun hI => ?_) (fun i hi hI ihP => ?_)
      · apply hP
        unfold T78_1 T78_2
        refine ⟨fun h => absurd h (by simp only [Val.list_mk]; omega), fun _ => (sameV_true.2 ?_).symm⟩
        rw [List.take_length, h5, List.take_length] at hI
        rw [b.eta, ← h1, ← h2, ← h3, ← h4, hI]
        rfl
      · apply hP
        have hi2 : i < b.list.length := by omega
        unfold T78_1
        refine ⟨fun _ => ⟨by omega, l[i], get_at (l := l) hi, by omega, b.list[i], get_at hi2, _, ih _ (List.getElem_mem hi) _, fun h6 => ?_, fun h6 => ?_⟩, fun h => absurd (show (i : Int) < l.length by omega) h⟩
        · refine no (p := l[i] = b.list[i]) (fun e => ?_) (sameV_false.1 (by simpa using h6))
          subst e
          rfl
        · rw [wr_i64 (by omega) (by omega)]
          refine ihP ?_
          have h7 : l[i] = b.list[i] := sameV_true.1 (by simpa using h6)
          rw [List.take_succ_eq_append_getElem hi, List.take_succ_eq_append_getElem hi2, hI, h7])
    exact h
/-- Check, Value and ReadValue return what the reference returns. -/
theorem law66 (hf : prog.fn 66 = some pf66) {v : Val} (hw : Wf v) (s : Bytes) : Pus prog 66 [v.av, .s s] (.b true) := by
  obtain ⟨x, rfl, h⟩ := p66 hf (v0 := v) (s1 := s) (K := fun x => x = true) (by
    unfold T66_0 T66_1
    have fin : s.length ≤ 1000000000 → ∀ K : Bool → Prop, K true → ∃ r'34 : Bytes, ∃ r'35 : Int, Pus prog 72 [v.av] (.tup [.s r'34, .i .i64 r'35]) ∧ ∃ r'37 : Bytes, ∃ r'38 : Int, Pus prog 73 [v.av] (.tup [.s r'37, .i .i64 r'38]) ∧ ∃ r'40 : Val, ∃ r'41 : Int, Pus prog 74 [.s s] (.tup [r'40.av, .i .i64 r'41]) ∧ ∃ r'43 : Val, ∃ r'44 : Int, Pus prog 75 [.s s] (.tup [r'43.av, .i .i64 r'44]) ∧ ∃ r'46 : Int, Pus prog 76 [v.av] (.i .i64 r'46) ∧ ∃ r'48 : Int, Pus prog 77 [v.av] (.i .i64 r'48) ∧ (r'46 = r'48 → (r'34 = r'37 → (r'35 = r'38 → ∃ r'53 : Bool, Pus prog 78 [r'40.av, r'43.av] (.b r'53) ∧ (r'53 = true → K (decide (r'41 = r'44))) ∧ (r'53 = false → K false)) ∧ (¬(r'35 = r'38) → K false)) ∧ (¬(r'34 = r'37) → K false)) ∧ (¬(r'46 = r'48) → K false) := by
      intro hs K hK
      refine ⟨_, _, c72 H hw, _, _, c73 H hw, _, _, c74 H hs, _, _, c75 H hs, _, c76 H hw, _, c77 H hw, fun _ => ⟨fun _ => ⟨fun _ => ⟨_, c78 H (rvs_wf s) _, fun _ => ?_, fun h => ?_⟩, fun h => absurd rfl h⟩, fun h => absurd rfl h⟩, fun h => absurd rfl h⟩
      · rw [decide_eq_true rfl]; exact hK
      · rw [sameV_rfl] at h; cases h
    exact ⟨_, c71 H hw, fun _ => rfl, fun _ => ⟨fun _ => ⟨fun _ => rfl, fun _ => ⟨fun _ => rfl, fun h => fin (by omega) (fun x => x = true) rfl⟩⟩, fun _ => ⟨fun _ => rfl, fun h => fin (by omega) (fun x => x = true) rfl⟩⟩⟩)
  exact h
end
end Go.AM

/- The statement LinesValues: for every input the law returns true, and each argument reads afterwards as before. No conditions. -/
namespace Go.Proofs.Ytcojcdpoeaaigaa.LinesValuesProof
open Go Go.AM Go.RowKit Go.ChangeShapes Go.WideShapes Go.ChangeAt

theorem ok66 : FnOk Try.prog X 3 pf66 := FnOk.of Try.func3 (by kernel_rfl) (by kernel_rfl) (by kernel_rfl) (by kernel_rfl) (by kernel_rfl)
def fns : List (Nat × AF) := [(42, pf42), (46, pf46), (36, pf36), (43, pf43), (47, pf47), (11, pf11), (13, pf13), (15, pf15), (17, pf17), (21, pf21), (23, pf23), (25, pf25), (27, pf27), (30, pf30), (32, pf32), (34, pf34), (37, pf37), (39, pf39), (45, pf45), (10, pf10), (12, pf12), (14, pf14), (16, pf16), (18, pf18), (20, pf20), (22, pf22), (24, pf24), (26, pf26), (28, pf28), (29, pf29), (31, pf31), (33, pf33), (35, pf35), (38, pf38), (40, pf40), (41, pf41), (44, pf44), (145, pf145), (126, pf126), (71, pf71), (72, pf72), (73, pf73), (74, pf74), (75, pf75), (76, pf76), (77, pf77), (78, pf78), (102, pf102), (103, pf103), (104, pf104), (106, pf106), (107, pf107), (108, pf108), (109, pf109), (110, pf110), (127, pf127), (128, pf128), (129, pf129), (130, pf130), (131, pf131), (132, pf132), (133, pf133), (134, pf134), (135, pf135), (136, pf136), (66, pf66)]
def prog : Prog := ⟨fnOf fns, orcB, orsB⟩
set_option maxRecDepth 100000 in
theorem fns_ok : FnsOk Try.prog X fns fms :=
  And.intro (fun F h => noneF (show (none : Option AF) = some F from h)) (
  And.intro (fun F h => Option.some.inj (show some pf66 = some F from h) ▸ ok66) (
  And.intro (fun F h => noneF (show (none : Option AF) = some F from h)) (
  And.intro (fun F h => noneF (show (none : Option AF) = some F from h)) (
  And.intro (fun F h => noneF (show (none : Option AF) = some F from h)) (
  And.intro (fun F h => noneF (show (none : Option AF) = some F from h)) (
  And.intro (fun F h => Option.some.inj (show some pf71 = some F from h) ▸ ok71) (
  And.intro (fun F h => Option.some.inj (show some pf72 = some F from h) ▸ ok72) (
  And.intro (fun F h => Option.some.inj (show some pf73 = some F from h) ▸ ok73) (
  And.intro (fun F h => Option.some.inj (show some pf74 = some F from h) ▸ ok74) (
  And.intro (fun F h => Option.some.inj (show some pf75 = some F from h) ▸ ok75) (
  And.intro (fun F h => Option.some.inj (show some pf76 = some F from h) ▸ ok76) (
  And.intro (fun F h => Option.some.inj (show some pf77 = some F from h) ▸ ok77) (
  And.intro (fun F h => Option.some.inj (show some pf78 = some F from h) ▸ ok78) (
  And.intro (fun F h => noneF (show (none : Option AF) = some F from h)) (
  And.intro (fun F h => noneF (show (none : Option AF) = some F from h)) (
  And.intro (fun F h => noneF (show (none : Option AF) = some F from h)) (
  And.intro (fun F h => noneF (show (none : Option AF) = some F from h)) (
  And.intro (fun F h => noneF (show (none : Option AF) = some F from h)) (
  And.intro (fun F h => noneF (show (none : Option AF) = some F from h)) (
  And.intro (fun F h => noneF (show (none : Option AF) = some F from h)) (
  And.intro (fun F h => noneF (show (none : Option AF) = some F from h)) (
  And.intro (fun F h => noneF (show (none : Option AF) = some F from h)) (
  And.intro (fun F h => Option.some.inj (show some pf29 = some F from h) ▸ ok29) (
  And.intro (fun F h => noneF (show (none : Option AF) = some F from h)) (
  And.intro (fun F h => noneF (show (none : Option AF) = some F from h)) (
  And.intro (fun F h => noneF (show (none : Option AF) = some F from h)) (
  And.intro (fun F h => noneF (show (none : Option AF) = some F from h)) (
  And.intro (fun F h => noneF (show (none : Option AF) = some F from h)) (
  And.intro (fun F h => noneF (show (none : Option AF) = some F from h)) (
  And.intro (fun F h => noneF (show (none : Option AF) = some F from h)) (
  And.intro (fun F h => noneF (show (none : Option AF) = some F from h)) (
  And.intro (fun F h => noneF (show (none : Option AF) = some F from h)) (
  And.intro (fun F h => noneF (show (none : Option AF) = some F from h)) (
  And.intro (fun F h => noneF (show (none : Option AF) = some F from h)) (
  And.intro (fun F h => noneF (show (none : Option AF) = some F from h)) (
  And.intro (fun F h => noneF (show (none : Option AF) = some F from h)) (
  And.intro (fun F h => noneF (show (none : Option AF) = some F from h)) (
  And.intro (fun F h => Option.some.inj (show some pf102 = some F from h) ▸ ok102) (
  And.intro (fun F h => Option.some.inj (show some pf103 = some F from h) ▸ ok103) (
  And.intro (fun F h => Option.some.inj (show some pf104 = some F from h) ▸ ok104) (
  And.intro (fun F h => noneF (show (none : Option AF) = some F from h)) (
  And.intro (fun F h => Option.some.inj (show some pf106 = some F from h) ▸ ok106) (
  And.intro (fun F h => Option.some.inj (show some pf107 = some F from h) ▸ ok107) (
  And.intro (fun F h => Option.some.inj (show some pf108 = some F from h) ▸ ok108) (
  And.intro (fun F h => Option.some.inj (show some pf109 = some F from h) ▸ ok109) (
  And.intro (fun F h => Option.some.inj (show some pf110 = some F from h) ▸ ok110) (
  And.intro (fun F h => noneF (show (none : Option AF) = some F from h)) (
  And.intro (fun F h => noneF (show (none : Option AF) = some F from h)) (
  And.intro (fun F h => noneF (show (none : Option AF) = some F from h)) (
  And.intro (fun F h => noneF (show (none : Option AF) = some F from h)) (
  And.intro (fun F h => noneF (show (none : Option AF) = some F from h)) (
  And.intro (fun F h => noneF (show (none : Option AF) = some F from h)) (
  And.intro (fun F h => noneF (show (none : Option AF) = some F from h)) (
  And.intro (fun F h => noneF (show (none : Option AF) = some F from h)) (
  And.intro (fun F h => noneF (show (none : Option AF) = some F from h)) (
  And.intro (fun F h => noneF (show (none : Option AF) = some F from h)) (
  And.intro (fun F h => noneF (show (none : Option AF) = some F from h)) (
  And.intro (fun F h => noneF (show (none : Option AF) = some F from h)) (
  And.intro (fun F h => noneF (show (none : Option AF) = some F from h)) (
  And.intro (fun F h => noneF (show (none : Option AF) = some F from h)) (
  And.intro (fun F h => noneF (show (none : Option AF) = some F from h)) (
  And.intro (fun F h => Option.some.inj (show some pf126 = some F from h) ▸ ok126) (
  And.intro (fun F h => Option.some.inj (show some pf15 = some F from h) ▸ ok15) (
  And.intro (fun F h => Option.some.inj (show some pf11 = some F from h) ▸ ok11) (
  And.intro (fun F h => Option.some.inj (show some pf16 = some F from h) ▸ ok16) (
  And.intro (fun F h => Option.some.inj (show some pf31 = some F from h) ▸ ok31) (
  And.intro (fun F h => Option.some.inj (show some pf127 = some F from h) ▸ ok127) (
  And.intro (fun F h => Option.some.inj (show some pf128 = some F from h) ▸ ok128) (
  And.intro (fun F h => Option.some.inj (show some pf129 = some F from h) ▸ ok129) (
  And.intro (fun F h => Option.some.inj (show some pf130 = some F from h) ▸ ok130) (
  And.intro (fun F h => Option.some.inj (show some pf131 = some F from h) ▸ ok131) (
  And.intro (fun F h => Option.some.inj (show some pf132 = some F from h) ▸ ok132) (
  And.intro (fun F h => Option.some.inj (show some pf133 = some F from h) ▸ ok133) (
  And.intro (fun F h => Option.some.inj (show some pf134 = some F from h) ▸ ok134) (
  And.intro (fun F h => Option.some.inj (show some pf26 = some F from h) ▸ ok26) (
  And.intro (fun F h => Option.some.inj (show some pf135 = some F from h) ▸ ok135) (
  And.intro (fun F h => Option.some.inj (show some pf22 = some F from h) ▸ ok22) (
  And.intro (fun F h => Option.some.inj (show some pf136 = some F from h) ▸ ok136) (
  And.intro (fun F h => noneF (show (none : Option AF) = some F from h)) (
  And.intro (fun F h => noneF (show (none : Option AF) = some F from h)) (
  And.intro (fun F h => noneF (show (none : Option AF) = some F from h)) (
  And.intro (fun F h => noneF (show (none : Option AF) = some F from h)) (
  And.intro (fun F h => noneF (show (none : Option AF) = some F from h)) (
  And.intro (fun F h => noneF (show (none : Option AF) = some F from h)) (
  And.intro (fun F h => noneF (show (none : Option AF) = some F from h)) (
  And.intro (fun F h => noneF (show (none : Option AF) = some F from h)) (
  And.intro (fun F h => Option.some.inj (show some pf145 = some F from h) ▸ ok145) (
  And.intro (fun F h => Option.some.inj (show some pf34 = some F from h) ▸ ok34) (
  And.intro (fun F h => Option.some.inj (show some pf30 = some F from h) ▸ ok30) (
  And.intro (fun F h => Option.some.inj (show some pf35 = some F from h) ▸ ok35) (
  And.intro (fun F h => Option.some.inj (show some pf41 = some F from h) ▸ ok41) (
  And.intro (fun F h => Option.some.inj (show some pf36 = some F from h) ▸ ok36) (
  And.intro (fun F h => Option.some.inj (show some pf25 = some F from h) ▸ ok25) (
  And.intro (fun F h => Option.some.inj (show some pf21 = some F from h) ▸ ok21) (
  And.intro (fun F h => Option.some.inj (show some pf40 = some F from h) ▸ ok40) (
  And.intro (fun F h => Option.some.inj (show some pf38 = some F from h) ▸ ok38) (
  And.intro (fun F h => noneF (show (none : Option AF) = some F from h)) (
  And.intro (fun F h => Option.some.inj (show some pf42 = some F from h) ▸ ok42) (
  And.intro (fun F h => Option.some.inj (show some pf39 = some F from h) ▸ ok39) (
  And.intro (fun F h => Option.some.inj (show some pf37 = some F from h) ▸ ok37) (
  And.intro (fun F h => Option.some.inj (show some pf44 = some F from h) ▸ ok44) (
  And.intro (fun F h => Option.some.inj (show some pf46 = some F from h) ▸ ok46) (
  And.intro (fun F h => Option.some.inj (show some pf45 = some F from h) ▸ ok45) (
  And.intro (fun F h => Option.some.inj (show some pf43 = some F from h) ▸ ok43) (
  And.intro (fun F h => Option.some.inj (show some pf47 = some F from h) ▸ ok47) (
  And.intro (fun F h => noneF (show (none : Option AF) = some F from h)) (
  And.intro (fun F h => noneF (show (none : Option AF) = some F from h)) (
  And.intro (fun F h => noneF (show (none : Option AF) = some F from h)) (trivial)))))))))))))))))))))))))))))))))))))))))))))))))))))))))))))))))))))))))))))))))))))))))))))))))))))))))))))
theorem o48_ok : OracOk Try.prog X { fn := fnOf fns, orac := orc48 48 } := orc48_ok (f0 := 108) (fun f h => by have := fm_inv h; simpa [fms] using this) Try.func108 (by kernel_rfl) (by kernel_rfl) (by kernel_rfl) (by kernel_rfl)
theorem orac_ok : OracOk Try.prog X prog := orcB_ok o48_ok (f0 := 99) (fun f h => by have := fm_inv h; simpa [fms] using this) Try.func99 (by kernel_rfl) (by kernel_rfl) (by kernel_rfl) (by kernel_rfl)
theorem orsB_ok : OracSOk Try.prog X prog := Go.AM.orsB_ok Try.lays169 Try.extraB (fun f h => by have := fm_inv h; have e : f = 43 := (by simpa [fms] using this); exact e) (by kernel_rfl) (by kernel_rfl) Try.func43 (by kernel_rfl) rfl
def tl : List Nat := [2, 4, 5, 9, 22, 24]
theorem at_ : LawAt Try.prog X prog tl := ⟨tab_ok tys_ok, by kernel_rfl, prog_ok fns_ok.all rfl, orac_ok, orsB_ok, by
    intro t ht
    exact (show ∀ t ∈ tl, okTy X.T tl t = true by decide) t (by simpa using ht)⟩
set_option maxRecDepth 100000 in
theorem has : Has38 prog := { f42 := by kernel_rfl, f46 := by kernel_rfl, f36 := by kernel_rfl, f43 := by kernel_rfl, f47 := by kernel_rfl, f11 := by kernel_rfl, f13 := by kernel_rfl, f15 := by kernel_rfl, f17 := by kernel_rfl, f21 := by kernel_rfl, f23 := by kernel_rfl, f25 := by kernel_rfl, f27 := by kernel_rfl, f30 := by kernel_rfl, f32 := by kernel_rfl, f34 := by kernel_rfl, f37 := by kernel_rfl, f39 := by kernel_rfl, f45 := by kernel_rfl, f10 := by kernel_rfl, f12 := by kernel_rfl, f14 := by kernel_rfl, f16 := by kernel_rfl, f18 := by kernel_rfl, f20 := by kernel_rfl, f22 := by kernel_rfl, f24 := by kernel_rfl, f26 := by kernel_rfl, f28 := by kernel_rfl, f29 := by kernel_rfl, f31 := by kernel_rfl, f33 := by kernel_rfl, f35 := by kernel_rfl, f38 := by kernel_rfl, f40 := by kernel_rfl, f41 := by kernel_rfl, f44 := by kernel_rfl, f145 := by kernel_rfl, f126 := by kernel_rfl, f71 := by kernel_rfl, f72 := by kernel_rfl, f73 := by kernel_rfl, f74 := by kernel_rfl, f75 := by kernel_rfl, f76 := by kernel_rfl, f77 := by kernel_rfl, f78 := by kernel_rfl, f102 := by kernel_rfl, f103 := by kernel_rfl, f104 := by kernel_rfl, f106 := by kernel_rfl, f107 := by kernel_rfl, f108 := by kernel_rfl, f109 := by kernel_rfl, f110 := by kernel_rfl, f127 := by kernel_rfl, f128 := by kernel_rfl, f129 := by kernel_rfl, f130 := by kernel_rfl, f131 := by kernel_rfl, f132 := by kernel_rfl, f133 := by kernel_rfl, f134 := by kernel_rfl, f135 := by kernel_rfl, f136 := by kernel_rfl, f48 := rfl, o48 := orcB_48, f146 := rfl, f105 := rfl, o146 := orcB_146, o105 := orcB_105, s105 := orsB_105 }
theorem own : ownKnob Try.prog.godebug = none := by kernel_rfl
theorem laidOut : laidOutB Try.prog = true := by kernel_rfl
theorem valT : ValT X.T 24 5 2 9 22 4 := ⟨⟨_, rfl, rfl, rfl⟩, ⟨_, rfl, rfl, rfl⟩, ⟨_, rfl, rfl, rfl⟩, ⟨_, rfl, rfl, rfl⟩, ⟨_, rfl, rfl, rfl⟩, ⟨_, rfl, rfl, rfl⟩⟩
theorem typed (avs : List AV) (h : ArgsOk X.T [24, 9] avs) : Pus prog 66 avs (.b true) := by
  match avs, h with
  | [a, b], ⟨h1, h2, _⟩ =>
    obtain ⟨v, rfl, hv⟩ := ArgOk.val valT h1
    obtain ⟨s, rfl, _⟩ := ArgOk.str (i := _) rfl rfl h2
    exact law66 has rfl hv s

set_option maxRecDepth 100000 in
theorem lifted (os : Os) (started : os.Started) (H : Type) (enc : TypeId × Value → H) :
    ReturnsInHanded {} Try.checked os 3 .any (Rows.linesValuesSpec.pre6 enc Try.prog Try.f3 Rows.linesValuesRow.domain false) (Rows.linesValuesSpec.post enc Try.prog Try.f3 false true false false) := by
  refine returnsInHanded_of_change (C := Try.checked) own started (by kernel_rfl) Try.func3
    (ChangeSpec.witness6 (enc := enc) (C := Try.checked) false ⟨#[], #[.agg #[.int .u8 0, .int .i64 0, .string ⟨#[]⟩, .slice none 0 0, .bool false], .string ⟨#[]⟩], []⟩ 8 (by kernel_rfl) (by kernel_rfl) (by kernel_rfl) (by kernel_rfl)) ?_
  intro W base args ds gs before hval0 hW hcnd _
  have hval : ∀ (j : Nat) t v, Try.f3.params[j]? = some t → args[j]? = some v → Value.okWide Try.prog W .any base t v := hval0
  have hW' := hW
  obtain ⟨p, q, hA0, hV, rfl, hfz, hnd⟩ := hW
  have hA : DataW.TrodAll enc Try.prog W 0 (fun _ => true) true Try.f3.params.toList args.toList ds p := hA0
  rw [Try.params3] at hA hval
  obtain ⟨rfl, rfl⟩ := trodVars_none hV
  obtain ⟨avs, hR, hok⟩ := args_read at_.T at_.types (ts := [24, 9]) (by decide) (fun j t v h1 h2 => hval j t v (by simpa using h1) (by simpa using h2)) hA
  have hlt := args_lt hA
  have hlen := trod_len hA
  refine (law_calls at_ (f := 3) (c := 66) rfl (ok66.enters _ _) hR (typed avs hok)).mono fun e W' ⟨he, bel⟩ => ?_
  subst he
  have hB := args_below laidOut bel (by kernel_rfl) hA hlt
  obtain ⟨d0, d1, rfl⟩ := ds2 hlen
  exact ⟨_, rfl, _, _, _, [], _, [], hW', trodAll_mk1 (shut_bool Try.underlying4 _), hB, rfl, bel.frame _, fun h => by cases h⟩

theorem over : Rows.linesValuesRow.holds Try.pinned (OpenSpec.ofChange Rows.linesValuesSpec) :=
  OpenClaim.holds_of_wide 3 Try.f3 rfl rfl rfl rfl rfl rfl rfl ⟨rfl, rfl, rfl, rfl, rfl⟩ rfl rfl rfl rfl rfl (by kernel_rfl) Try.func3 (by kernel_rfl)
    (of_decide_eq_true (by kernel_rfl)) (by unfold Func.isWrapper; rw [if_neg (of_decide_eq_false (by kernel_rfl))]; exact ⟨rfl, rfl⟩)
    (fun os started H enc _ => lifted os started H enc)

/-- The statement. -/
theorem proved : Rows.LinesValuesSaid := over
#print axioms proved
end Go.Proofs.Ytcojcdpoeaaigaa.LinesValuesProof
