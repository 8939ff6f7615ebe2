/- Chapter 03: what its reading functions return. -/
import Derived.Test.YtdfkdendkdbnkaaV03b
import Derived.Test.YtdfkdendkdbnkaaC03
set_option linter.all false
namespace Go.AM
open Go

def cutp (p s : Bytes) : Bytes × Bool := if s.take p.length = p then (s.drop p.length, true) else (s, false)
theorem idx_first (c : UInt8) : ∀ (l : Bytes) (i : Nat), (∀ j, j < i → l[j]? ≠ some c) → (l[i]? = some c → Lib.indexByte l c = i) ∧ (l.length ≤ i → Lib.indexByte l c = -1)
  | [], i, _ => ⟨fun h => (by simp at h), fun _ => rfl⟩
  | x :: l, i, h => by
    unfold Lib.indexByte
    cases i with
    | zero =>
      refine ⟨fun h1 => ?_, fun h1 => absurd h1 (by simp)⟩
      simp at h1
      rw [if_pos (by simp [h1])]
      rfl
    | succ i =>
      have hx : x ≠ c := by have := h 0 (by omega); simpa using this
      have ih := idx_first c l i fun j hj => by have := h (j + 1) (by omega); simpa using this
      rw [if_neg (by simpa using hx)]
      refine ⟨fun h1 => ?_, fun h1 => ?_⟩
      · have h2 := ih.1 (by simpa using h1)
        rw [h2]
        rw [if_neg (by simp)]
        rfl
      · have h2 := ih.2 (by simpa using h1)
        rw [h2]
        rfl

/-- What escape says. -/
def EscK (s : Bytes) (c : Int) (r : Bytes) (ok : Bool) : Prop := match esc s with | some (x, y) => c = (x.toNat : Int) ∧ r = y ∧ ok = true | none => ok = false
theorem EscK.yes {s : Bytes} {x : UInt8} {y : Bytes} {c : Int} (h : esc s = some (x, y)) (hc : c = (x.toNat : Int)) : EscK s c y true := by
  unfold EscK; rw [h]; exact ⟨hc, rfl, rfl⟩
theorem EscK.no {s : Bytes} {c : Int} {y : Bytes} (h : esc s = none) : EscK s c y false := by
  unfold EscK; rw [h]
section
variable {prog : Prog} (H : Has03 prog)
include H

theorem c46 (s p : Bytes) : Pus prog 46 [.s s, .s p] (.b (decide (s.take p.length = p))) := by
  obtain ⟨x, rfl, h⟩ := p46 H.f46 (s0 := s) (prefix1 := p) (K := fun x => x = decide (s.take p.length = p)) (by
    unfold T46_0
    refine ⟨fun h => ⟨by omega, by omega, rfl⟩, fun h => ?_⟩
    refine (decide_eq_false fun h1 => ?_).symm
    have := congrArg List.length h1
    simp only [List.length_take] at this
    omega)
  exact h
theorem c42 (s p : Bytes) : Pus prog 42 [.s s, .s p] (.tup [.s (cutp p s).1, .b (cutp p s).2]) := by
  obtain ⟨x, y, ⟨rfl, rfl⟩, h⟩ := p42 H.f42 (s0 := s) (prefix1 := p) (K := fun x y => x = (cutp p s).1 ∧ y = (cutp p s).2) (by
    unfold T42_0 cutp
    refine ⟨_, c46 H s p, fun h => ?_, fun h => ?_⟩
    · have h1 : ¬ s.take p.length = p := by simpa using h
      rw [if_neg h1]; exact ⟨rfl, rfl⟩
    · have h1 : s.take p.length = p := by simpa using h
      have h2 := congrArg List.length h1
      simp only [List.length_take] at h2
      rw [if_pos h1]; exact ⟨by omega, by omega, rfl, rfl⟩)
  exact h
theorem c36 (s p : Bytes) : Pus prog 36 [.s s, .s p] (.tup [.s (cutp p s).1, .b (cutp p s).2]) := by
  obtain ⟨x, y, ⟨rfl, rfl⟩, h⟩ := p36 H.f36 (s0 := s) (prefix1 := p) (K := fun x y => x = (cutp p s).1 ∧ y = (cutp p s).2) (by
    unfold T36_0
    exact ⟨_, _, c42 H s p, rfl, rfl⟩)
  exact h
theorem c47 (s : Bytes) (c : UInt8) : Pus prog 47 [.s s, .i .u8 (c.toNat : Int)] (.i .i64 (Lib.indexByte s c)) := by
  obtain ⟨x, rfl, h⟩ := p47 H.f47 (s0 := s) (c1 := (c.toNat : Int)) (K := fun x => x = Lib.indexByte s c) (by
    unfold T47_0
    exact ⟨_, Pus.orac H.f48 (H.o48 s c) rfl, rfl⟩)
  exact h
theorem c43 (s : Bytes) (c : UInt8) : Pus prog 43 [.s s, .i .u8 (c.toNat : Int)] (.i .i64 (Lib.indexByte s c)) := by
  obtain ⟨x, rfl, h⟩ := p43 H.f43 (s0 := s) (c1 := (c.toNat : Int)) (K := fun x => x = Lib.indexByte s c) (by
    unfold T43_0
    exact ⟨_, c47 H s c, rfl⟩)
  exact h
theorem c44 {b : Nat} (hb : b ≤ 16) (c : UInt8) : Pus prog 44 [.i .u8 (c.toNat : Int), .i .i64 (b : Int)] (.i .i64 (dv b c)) := by
  obtain ⟨x, rfl, h⟩ := p44 H.f44 (c0 := (c.toNat : Int)) (base1 := (b : Int)) (K := fun x => x = dv b c) (by
    unfold T44_0
    intro P hP
    have key : ∀ m i : Nat, i + m = b → (∀ j, j < i → (DIG.take b)[j]? ≠ some c) → P (i : Int) := by
      intro m
      induction m with
      | zero =>
        intro i hi hj
        apply hP
        unfold T44_1 T44_2
        refine ⟨fun h => absurd h (by omega), fun _ => ?_⟩
        exact ((idx_first c _ i hj).2 (by simp; omega)).symm
      | succ m ih =>
        intro i hi hj
        apply hP
        unfold T44_1
        refine ⟨fun _ => ⟨by omega, hexd i, by rw [toNat_cast, hexd_get (by omega)], fun h => ?_, fun h => ?_⟩, fun h => absurd h (by omega)⟩
        · have hc : hexd i = c := u8_eq (by omega)
          refine ((idx_first c _ i hj).1 ?_).symm
          rw [List.getElem?_take_of_lt (by omega), hexd_get (by omega), hc]
        · rw [wr_succ (by omega)]
          refine ih (i + 1) (by omega) fun j hj' => ?_
          rcases Nat.lt_or_ge j i with h1 | h1
          · exact hj j h1
          · have : j = i := by omega
            subst this
            rw [List.getElem?_take_of_lt (by omega), hexd_get (by omega)]
            intro h2
            injection h2 with h2
            exact h (by rw [h2])
    exact key b 0 (by omega) (by simp))
  exact h

theorem c37 {b most : Nat} (hb : 2 ≤ b) (hb' : b ≤ 16) (hm : 16 ≤ most) (hm' : most < 18446744073709551616) {s : Bytes} (hs : s.length ≤ 10000000) : Pus prog 37 [.s s, .i .u64 (b : Int), .i .u64 (most : Int)] (.tup [.i .u64 ((rd b most s).1 : Int), .i .i64 (rd b most s).2]) := by
  obtain ⟨x, y, ⟨rfl, rfl⟩, h⟩ := p37 H.f37 (s0 := s) (base1 := (b : Int)) (most2 := (most : Int)) (K := fun x y => x = ((rd b most s).1 : Int) ∧ y = (rd b most s).2) (by
    unfold T37_0 T37_1 T37_2
    intro P hP
    have key : ∀ m i : Nat, i + m = s.length → okd b (s.take i) = true → (2 ≤ i → s.head? ≠ some 48) → ∀ (n : Nat) (far : Bool), (far = false → n = vals b (s.take i) ∧ n ≤ most) → (far = true → most < vals b (s.take i)) → P (n : Int) far (i : Int) := by
      intro m
      induction m with
      | zero =>
        intro i hi ho h48 n far h0 h1
        simp only [Nat.add_zero] at hi
        subst hi
        rw [List.take_length] at ho h0 h1
        apply hP
        unfold T37_3 T37_5
        refine ⟨fun h => absurd h (by omega), fun _ => ⟨fun h => ?_, fun h => ?_⟩⟩
        · subst h; exact ⟨rfl, rfl⟩
        · have hbad : badn b s = false := by
            unfold badn
            rw [decide_eq_false h, ho]
            simp only [Bool.false_or, Bool.not_true]
            by_cases h2 : 1 < s.length
            · rw [decide_eq_false (h48 h2), Bool.and_false]
            · rw [decide_eq_false h2, Bool.false_and]
          refine ⟨fun hf => ?_, fun hf => ?_⟩
          · unfold rd
            rw [if_neg (by rw [hbad]; decide), if_pos (h1 hf)]
            exact ⟨rfl, rfl⟩
          · obtain ⟨h2, h3⟩ := h0 hf
            unfold rd
            rw [if_neg (by rw [hbad]; decide), if_neg (by omega), h2]
            exact ⟨rfl, rfl⟩
      | succ m ih =>
        intro i hi ho h48 n far h0 h1
        have hil : i < s.length := by omega
        have hd := dv_lt hb' s[i]
        have hv := vals_take (b := b) hil
        have hk := okd_take (b := b) hil
        have bad12 : badn b s = true → (0 : Int) = ((rd b most s).1 : Int) ∧ (12 : Int) = (rd b most s).2 := by
          intro h
          unfold rd
          rw [if_pos h]
          exact ⟨rfl, rfl⟩
        apply hP
        unfold T37_3 T37_4
        refine ⟨fun _ => ⟨by omega, by rw [toNat_cast]; exact hb', by omega, s[i], by rw [toNat_cast, List.getElem?_eq_getElem hil], dv b s[i], c43 H _ _, fun h => ?_, fun h => ?_⟩, fun h => absurd h (by omega)⟩
        · refine bad12 ?_
          unfold badn
          rw [okd_of hil h]
          simp
        · have hd0 : 0 ≤ dv b s[i] := by omega
          rw [ho, decide_eq_true hd0, Bool.and_true] at hk
          generalize hdd : (dv b s[i]).toNat = d at hv
          have hdi : dv b s[i] = (d : Int) := by omega
          have e1 : IntKind.u64.wrap (dv b s[i]) = (d : Int) := by rw [hdi]; exact wr_u64_nat (by omega)
          have e2 : IntKind.u64.wrap ((most : Int) - (d : Int)) = ((most - d : Nat) : Int) := by rw [wr_u64 (by omega) (by omega)]; omega
          have e3 : (((most - d : Nat) : Int)).tdiv (b : Int) = (((most - d) / b : Nat) : Int) := by rw [Int.tdiv_eq_ediv_of_nonneg (by omega)]; omega
          have hq : (most - d) / b ≤ most - d := Nat.div_le_self _ _
          have e4 : IntKind.u64.wrap (((most - d) / b : Nat) : Int) = (((most - d) / b : Nat) : Int) := wr_u64_nat (by omega)
          have hfi := far_iff (n := n) (show 0 < b by omega) (show d ≤ most by omega)
          rw [wr_succ (by omega)]
          simp only [e1, e2, e3, e4]
          have go : (2 ≤ i + 1 → s.head? ≠ some 48) → (far = true → P (n : Int) true ((i + 1 : Nat) : Int)) ∧ (far = false → (b : Int) ≠ 0 ∧ (¬((n : Int) > (((most - d) / b : Nat) : Int)) → P (IntKind.u64.wrap ((IntKind.u64.wrap ((n : Int) * (b : Int))) + (d : Int))) (decide ((n : Int) > (((most - d) / b : Nat) : Int))) ((i + 1 : Nat) : Int)) ∧ (¬(¬((n : Int) > (((most - d) / b : Nat) : Int))) → P (n : Int) (decide ((n : Int) > (((most - d) / b : Nat) : Int))) ((i + 1 : Nat) : Int))) := by
            intro h2
            refine ⟨fun hf => ?_, fun hf => ⟨by omega, fun h3 => ?_, fun h3 => ?_⟩⟩
            · refine ih (i + 1) (by omega) hk h2 n true (fun h => by cases h) fun _ => ?_
              rw [hv]
              have h4 := h1 hf
              have : vals b (s.take i) ≤ vals b (s.take i) * b := Nat.le_mul_of_pos_right _ (by omega)
              omega
            · obtain ⟨h4, h5⟩ := h0 hf
              have h6 : n * b + d ≤ most := by
                have : ¬ (most - d) / b < n := by omega
                rw [hfi] at this
                omega
              have hnb : (n : Int) * (b : Int) = ((n * b : Nat) : Int) := by rw [Int.natCast_mul]
              have e5 : IntKind.u64.wrap ((n : Int) * (b : Int)) = ((n * b : Nat) : Int) := by rw [hnb]; exact wr_u64_nat (by omega)
              have e6 : IntKind.u64.wrap (((n * b : Nat) : Int) + (d : Int)) = ((n * b + d : Nat) : Int) := by rw [wr_u64 (by omega) (by omega)]; omega
              rw [e5, e6, decide_eq_false h3]
              refine ih (i + 1) (by omega) hk h2 _ false (fun _ => ⟨?_, h6⟩) fun h => by cases h
              rw [hv, h4]
            · have h3' : (n : Int) > (((most - d) / b : Nat) : Int) := by omega
              obtain ⟨h4, h5⟩ := h0 hf
              rw [decide_eq_true h3']
              refine ih (i + 1) (by omega) hk h2 n true (fun h => by cases h) fun _ => ?_
              rw [hv, ← h4]
              exact hfi.1 (Int.ofNat_lt.1 h3')
          have hd0 : s.head? = s[0]? := List.head?_eq_getElem?
          refine ⟨fun hi1 => ?_, fun hi1 => ?_⟩
          · have h0s : s[0]? = some s[0] := List.getElem?_eq_getElem (by omega)
            refine ⟨s[0], h0s, fun h2 => ?_, fun h2 => ?_⟩
            · refine bad12 ?_
              have h3 : s[0] = 48 := u8_eq (by have e : (48 : UInt8).toNat = 48 := rfl; omega)
              unfold badn
              rw [decide_eq_true (show 1 < s.length by omega), decide_eq_true (show s.head? = some 48 by rw [hd0, h0s, h3])]
              simp
            · refine go fun _ => ?_
              rw [hd0, h0s]
              intro h3
              injection h3 with h3
              exact h2 (by rw [h3]; rfl)
          · refine go fun h2 => ?_
            have h3 : i ≠ 1 := by omega
            have h4 : i ≠ 0 := by omega
            exact h48 (by omega)
    exact key s.length 0 (by omega) rfl (by omega) 0 false (fun _ => ⟨rfl, by omega⟩) fun h => by cases h)
  exact h

theorem c38 {b most : Nat} (hb : 2 ≤ b) (hb' : b ≤ 16) (hm : 16 ≤ most) (hm' : most < 18446744073709551616) {s : Bytes} (hs : s.length ≤ 10000000) : Pus prog 38 [.s s, .i .u64 (b : Int), .i .u64 (most : Int)] (.tup [.i .u64 ((rd b most s).1 : Int), .i .i64 (rd b most s).2]) := by
  obtain ⟨x, y, ⟨rfl, rfl⟩, h⟩ := p38 H.f38 (s0 := s) (base1 := (b : Int)) (most2 := (most : Int)) (K := fun x y => x = ((rd b most s).1 : Int) ∧ y = (rd b most s).2) (by
    have wb : IntKind.i64.wrap (b : Int) = (b : Int) := wr_i64 (by omega) (by omega)
    have bad12 : badn b s = true → (0 : Int) = ((rd b most s).1 : Int) ∧ (12 : Int) = (rd b most s).2 := by
      intro h
      unfold rd
      rw [if_pos h]
      exact ⟨rfl, rfl⟩
    have hd0 : s.head? = s[0]? := List.head?_eq_getElem?
    have loop : s ≠ [] → (1 < s.length → s.head? ≠ some 48) → ∀ P0 : Int → Prop, (∀ (i8 : Int), T38_2 prog (fun x y => x = ((rd b most s).1 : Int) ∧ y = (rd b most s).2) P0 s (b : Int) (most : Int) i8 → P0 i8) → P0 0 := by
      intro hne h48 P hP
      have key : ∀ m i : Nat, i + m = s.length → okd b (s.take i) = true → P (i : Int) := by
        intro m
        induction m with
        | zero =>
          intro i hi ho
          simp only [Nat.add_zero] at hi
          subst hi
          rw [List.take_length] at ho
          have hbad : badn b s = false := by
            unfold badn
            rw [decide_eq_false hne, ho]
            simp only [Bool.false_or, Bool.not_true]
            by_cases h2 : 1 < s.length
            · rw [decide_eq_false (h48 h2), Bool.and_false]
            · rw [decide_eq_false h2, Bool.false_and]
          apply hP
          unfold T38_2 T38_3
          refine ⟨fun h => absurd h (by omega), fun _ P1 hP1 => ?_⟩
          have hall : ∀ (j : Nat) (hj : j < s.length), 0 ≤ dv b s[j] := by
            intro j hj
            unfold okd at ho
            rw [List.all_eq_true] at ho
            simpa using ho s[j] (List.getElem_mem hj)
          have key2 : ∀ m i : Nat, i + m = s.length → vals b (s.take i) ≤ most → P1 (vals b (s.take i) : Int) (i : Int) := by
            intro m
            induction m with
            | zero =>
              intro i hi hv
              simp only [Nat.add_zero] at hi
              subst hi
              apply hP1
              unfold T38_4 T38_5
              refine ⟨fun h => absurd h (by omega), fun _ => ?_⟩
              rw [List.take_length] at hv ⊢
              unfold rd
              rw [if_neg (by rw [hbad]; decide), if_neg (by omega)]
              exact ⟨rfl, rfl⟩
            | succ m ih =>
              intro i hi hv
              have hil : i < s.length := by omega
              have hd := dv_lt hb' s[i]
              have hn0 := hall i hil
              have hvt := vals_take (b := b) hil
              generalize hdd : (dv b s[i]).toNat = d at hvt
              have hdi : dv b s[i] = (d : Int) := by omega
              have e1 : IntKind.u64.wrap (dv b s[i]) = (d : Int) := by rw [hdi]; exact wr_u64_nat (by omega)
              have e2 : IntKind.u64.wrap ((most : Int) - (d : Int)) = ((most - d : Nat) : Int) := by rw [wr_u64 (by omega) (by omega)]; omega
              have e3 : (((most - d : Nat) : Int)).tdiv (b : Int) = (((most - d) / b : Nat) : Int) := by rw [Int.tdiv_eq_ediv_of_nonneg (by omega)]; omega
              have hq : (most - d) / b ≤ most - d := Nat.div_le_self _ _
              have e4 : IntKind.u64.wrap (((most - d) / b : Nat) : Int) = (((most - d) / b : Nat) : Int) := wr_u64_nat (by omega)
              have hfi := far_iff (n := vals b (s.take i)) (show 0 < b by omega) (show d ≤ most by omega)
              apply hP1
              unfold T38_4
              rw [wb, wr_succ (by omega)]
              refine ⟨fun _ => ⟨by omega, s[i], by rw [toNat_cast, List.getElem?_eq_getElem hil], dv b s[i], c44 H hb' _, by omega, fun h => ?_, fun h => ?_⟩, fun h => absurd h (by omega)⟩
              · simp only [e1, e2, e3, e4] at h
                have h1 := hfi.1 (Int.ofNat_lt.1 h)
                have h2 : most < vals b s := by
                  have mono : ∀ k, i + 1 + k ≤ s.length → most < vals b (s.take (i + 1 + k)) := by
                    intro k
                    induction k with
                    | zero => intro _; rw [Nat.add_zero, hvt]; exact h1
                    | succ k ihk =>
                      intro hk
                      have := ihk (by omega)
                      rw [show i + 1 + (k + 1) = (i + 1 + k) + 1 by omega, vals_take (by omega)]
                      have h3 : vals b (s.take (i + 1 + k)) ≤ vals b (s.take (i + 1 + k)) * b := Nat.le_mul_of_pos_right _ (by omega)
                      omega
                  have := mono (s.length - (i + 1)) (by omega)
                  rwa [show i + 1 + (s.length - (i + 1)) = s.length by omega, List.take_length] at this
                unfold rd
                rw [if_neg (by rw [hbad]; decide), if_pos h2]
                exact ⟨rfl, rfl⟩
              · simp only [e1, e2, e3, e4] at h
                have h1 : ¬ (most - d) / b < vals b (s.take i) := fun h2 => h (Int.ofNat_lt.2 h2)
                rw [hfi] at h1
                generalize hnn : vals b (s.take i) = n at *
                have hnb : (n : Int) * (b : Int) = ((n * b : Nat) : Int) := by rw [Int.natCast_mul]
                have e5 : IntKind.u64.wrap ((n : Int) * (b : Int)) = ((n * b : Nat) : Int) := by rw [hnb]; exact wr_u64_nat (by omega)
                have e6 : IntKind.u64.wrap (((n * b : Nat) : Int) + (d : Int)) = ((n * b + d : Nat) : Int) := by rw [wr_u64 (by omega) (by omega)]; omega
                rw [e1, e5, e6]
                have := ih (i + 1) (by omega) (by rw [hvt]; omega)
                rwa [hvt] at this
          exact key2 s.length 0 (by omega) (Nat.zero_le _)
        | succ m ih =>
          intro i hi ho
          have hil : i < s.length := by omega
          have hd := dv_lt hb' s[i]
          have hk := okd_take (b := b) hil
          apply hP
          unfold T38_2
          rw [wb, wr_succ (by omega)]
          refine ⟨fun _ => ⟨by omega, s[i], by rw [toNat_cast, List.getElem?_eq_getElem hil], dv b s[i], c44 H hb' _, fun h => ?_, fun h => ?_⟩, fun h => absurd h (by omega)⟩
          · refine bad12 ?_
            unfold badn
            rw [okd_of hil h]
            simp
          · refine ih (i + 1) (by omega) ?_
            rw [hk, ho, decide_eq_true (by omega), Bool.and_true]
      exact key s.length 0 (by omega) rfl
    unfold T38_0 T38_1
    refine ⟨fun h => bad12 ?_, fun h => ?_⟩
    · have : s = [] := List.length_eq_zero_iff.1 (by omega)
      subst this
      rfl
    · have hpos : 0 < s.length := by omega
      have hne : s ≠ [] := fun h => by subst h; simp at hpos
      have h0s : s[0]? = some s[0] := List.getElem?_eq_getElem hpos
      refine ⟨s[0], h0s, fun h2 => ⟨fun h3 => bad12 ?_, fun h3 => loop hne fun h4 => absurd h4 (by omega)⟩, fun h2 => loop hne fun h4 => ?_⟩
      · have h4 : s[0] = 48 := u8_eq (by have e : (48 : UInt8).toNat = 48 := rfl; omega)
        unfold badn
        rw [decide_eq_true (show 1 < s.length by omega), decide_eq_true (show s.head? = some 48 by rw [hd0, h0s, h4])]
        simp
      · rw [hd0, h0s]
        intro h5
        injection h5 with h5
        exact h2 (by rw [h5]; rfl))
  exact h

theorem c21 (s : Bytes) : Pus prog 21 [.s s] (.tup [.i .i64 (unnum s).1, .i .i64 (unnum s).2]) := by
  obtain ⟨x, y, ⟨rfl, rfl⟩, h⟩ := p21 H.f21 (s0 := s) (K := fun x y => x = (unnum s).1 ∧ y = (unnum s).2) (by
    unfold T21_0 T21_1
    refine ⟨fun h => by unfold unnum; rw [if_pos (by omega)]; exact ⟨rfl, rfl⟩, fun hs => ⟨_, _, c36 H s [45], ?_⟩⟩
    unfold unnum
    rw [if_neg (by omega)]
    by_cases hm : s.take 1 = [45]
    · have ec : cutp [45] s = (s.drop 1, true) := by unfold cutp; rw [if_pos (by exact hm)]; rfl
      rw [ec, if_pos hm]
      refine ⟨fun h => by simp at h, fun _ => ?_⟩
      have hl := rd_le 10 9223372036854775808 (s.drop 1)
      refine ⟨_, _, c37 H (b := 10) (most := 9223372036854775808) (by omega) (by omega) (by omega) (by omega) (s := s.drop 1) (by simp; omega), fun h => ⟨fun h0 => ?_, fun h0 => ?_⟩, fun h => ?_⟩
      · have e : (rd 10 9223372036854775808 (s.drop 1)).1 = 0 := by omega
        rw [if_pos ⟨h, e⟩, e]
        exact ⟨rfl, rfl⟩
      · rw [if_neg (fun hh => h0 (by rw [hh.2]; rfl))]
        refine ⟨?_, rfl⟩
        rw [IntKind.wrap_u64, IntKind.wrap_i64]
        simp only
        omega
      · have e := rd_err h
        rw [if_neg (fun hh => h hh.1), e]
        exact ⟨rfl, rfl⟩
    · have ec : cutp [45] s = (s, false) := by unfold cutp; rw [if_neg (by exact hm)]
      rw [ec, if_neg hm]
      refine ⟨fun _ => ?_, fun h => by simp at h⟩
      have hl := rd_le 10 9223372036854775807 s
      exact ⟨_, _, c37 H (b := 10) (most := 9223372036854775807) (by omega) (by omega) (by omega) (by omega) (s := s) (by omega), wr_i64 (by omega) (by omega), rfl⟩)
  exact h
theorem c22 (s : Bytes) : Pus prog 22 [.s s] (.tup [.i .i64 (unnum s).1, .i .i64 (unnum s).2]) := by
  obtain ⟨x, y, ⟨rfl, rfl⟩, h⟩ := p22 H.f22 (s0 := s) (K := fun x y => x = (unnum s).1 ∧ y = (unnum s).2) (by
    have plain : ¬ 2000 < s.length → ¬ s.take 1 = [45] → ∃ r'12 : Int, ∃ r'13 : Int, Pus prog 38 [.s s, .i .u64 10, .i .u64 9223372036854775807] (.tup [.i .u64 r'12, .i .i64 r'13]) ∧ (r'13 ≠ 0 → 0 = (unnum s).1 ∧ r'13 = (unnum s).2) ∧ (¬(r'13 ≠ 0) → IntKind.i64.wrap r'12 = (unnum s).1 ∧ 0 = (unnum s).2) := by
      intro hs hm
      have hl := rd_le 10 9223372036854775807 s
      refine ⟨_, _, c38 H (b := 10) (most := 9223372036854775807) (by omega) (by omega) (by omega) (by omega) (s := s) (by omega), fun h => ?_, fun h => ?_⟩
      · have e := rd_err h
        unfold unnum
        rw [if_neg hs, if_neg hm, e]
        exact ⟨rfl, rfl⟩
      · have e : (rd 10 9223372036854775807 s).2 = 0 := by omega
        unfold unnum
        rw [if_neg hs, if_neg hm, e]
        exact ⟨wr_i64 (by omega) (by omega), rfl⟩
    unfold T22_0
    refine ⟨fun h => by unfold unnum; rw [if_pos (by omega)]; exact ⟨rfl, rfl⟩, fun hs => ⟨fun hpos => ?_, fun hpos => plain (by omega) fun h => ?_⟩⟩
    · have h0 : 0 < s.length := by omega
      have ht : s.take 1 = [s[0]] := by
        match s, h0 with
        | c :: r, _ => rfl
      refine ⟨s[0], List.getElem?_eq_getElem h0, fun hm => ?_, fun hm => plain (by omega) fun h => ?_⟩
      · have hm' : s.take 1 = [45] := by rw [ht, u8_eq (show s[0].toNat = (45 : UInt8).toNat by have e : (45 : UInt8).toNat = 45 := rfl; omega)]
        have hl := rd_le 10 9223372036854775808 (s.drop 1)
        refine ⟨fun h => ?_, fun h => ⟨by omega, _, _, c38 H (b := 10) (most := 9223372036854775808) (by omega) (by omega) (by omega) (by omega) (s := s.drop 1) (by simp; omega), fun h1 => ?_, fun h1 => ?_⟩⟩
        · rw [h]
          decide
        · have e := rd_err h1
          unfold unnum
          rw [if_neg (by omega), if_pos hm', if_neg (fun hh => h1 hh.1), e]
          exact ⟨rfl, rfl⟩
        · have e : (rd 10 9223372036854775808 (s.drop 1)).2 = 0 := by omega
          have hn : (rd 10 9223372036854775808 (s.drop 1)).1 ≠ 0 := by
            intro h2
            have h3 := rd_zero (by omega) e h2
            have h4 := List.take_append_drop 1 s
            rw [hm', h3] at h4
            exact h h4.symm
          unfold unnum
          rw [if_neg (by omega), if_pos hm', if_neg (fun hh => hn hh.2), e]
          refine ⟨?_, rfl⟩
          simp only
          rw [IntKind.wrap_i64, IntKind.wrap_i64, IntKind.wrap_i64, IntKind.wrap_u64]
          omega
      · rw [ht] at h
        injection h with h
        exact hm (by rw [h]; rfl)
    · have := congrArg List.length h
      simp only [List.length_take, List.length_cons, List.length_nil] at this
      omega)
  exact h
theorem c23 (s : Bytes) : Pus prog 23 [.s s] (.tup [.i .u64 ((unhex s).1 : Int), .i .i64 (unhex s).2]) := by
  obtain ⟨x, y, ⟨rfl, rfl⟩, h⟩ := p23 H.f23 (s0 := s) (K := fun x y => x = ((unhex s).1 : Int) ∧ y = (unhex s).2) (by
    unfold T23_0 unhex
    refine ⟨fun h => by rw [if_pos (by omega)]; exact ⟨rfl, rfl⟩, fun hs => ⟨_, _, c36 H s [48, 120], ?_⟩⟩
    rw [if_neg (by omega)]
    unfold cutp
    by_cases hm : s.take 2 = [48, 120]
    · rw [if_pos hm, if_pos (show s.take ([48, 120] : Bytes).length = [48, 120] from hm)]
      refine ⟨fun h => by simp at h, fun _ => ?_⟩
      exact ⟨_, _, c37 H (b := 16) (most := 18446744073709551615) (by omega) (by omega) (by omega) (by omega) (s := s.drop 2) (by simp; omega), rfl, rfl⟩
    · rw [if_neg hm, if_neg (show ¬ s.take ([48, 120] : Bytes).length = [48, 120] from hm)]
      exact ⟨fun _ => ⟨rfl, rfl⟩, fun h => by simp at h⟩)
  exact h
theorem c24 (s : Bytes) : Pus prog 24 [.s s] (.tup [.i .u64 ((unhex s).1 : Int), .i .i64 (unhex s).2]) := by
  obtain ⟨x, y, ⟨rfl, rfl⟩, h⟩ := p24 H.f24 (s0 := s) (K := fun x y => x = ((unhex s).1 : Int) ∧ y = (unhex s).2) (by
    unfold T24_0 unhex
    refine ⟨fun h => by rw [if_pos (by omega)]; exact ⟨rfl, rfl⟩, fun hs => ⟨fun h => ?_, fun h => ⟨by omega, fun hm => ?_, fun hm => ⟨by omega, ?_⟩⟩⟩⟩
    · rw [if_neg (by omega), if_neg (fun hm => ?_)]
      · exact ⟨rfl, rfl⟩
      · have := congrArg List.length hm
        simp only [List.length_take, List.length_cons, List.length_nil] at this
        omega
    · rw [if_neg (by omega), if_neg hm]
      exact ⟨rfl, rfl⟩
    · have hm' : s.take 2 = [48, 120] := Classical.not_not.1 hm
      rw [if_neg (by omega), if_pos hm']
      exact ⟨_, _, c38 H (b := 16) (most := 18446744073709551615) (by omega) (by omega) (by omega) (by omega) (s := s.drop 2) (by simp; omega), rfl, rfl⟩)
  exact h

theorem c45 (s : Bytes) : ∃ c r ok, EscK s c r ok ∧ Pus prog 45 [.s s] (.tup [.i .u8 c, .s r, .b ok]) := by
  refine p45 H.f45 (s0 := s) (K := EscK s) ?_
  unfold T45_0 T45_1
  refine ⟨fun h => by subst h; exact EscK.no rfl, fun h => ?_⟩
  cases s with
  | nil => exact absurd rfl h
  | cons c r =>
    have lit : ∀ {n : Nat} (_ : n < 256), (UInt8.ofNat n).toNat = n := by intro n hn; simp; omega
    unfold T45_2
    refine ⟨c, rfl, ?_⟩
    have t4 : T45_4 prog (EscK (c :: r)) (c :: r) (c.toNat : Int) (decide (c.toNat = 34 ∨ c.toNat = 92)) := by
      unfold T45_4
      refine ⟨fun h1 => ⟨c, rfl, by simp, ?_⟩, fun h1 => ?_⟩
      · have h1 := of_decide_eq_true h1
        exact EscK.yes (show (if c.toNat = 34 ∨ c.toNat = 92 then some (c, r) else _) = some (c, r) from if_pos h1) rfl
      · have h1 := of_decide_eq_false h1
        have e0 : esc (c :: r) = if c.toNat = 110 then some (10, r) else if c.toNat = 120 then esx r else none := by
          show (if c.toNat = 34 ∨ c.toNat = 92 then some (c, r) else if c.toNat = 110 then some (10, r) else if c.toNat = 120 then esx r else none) = _
          rw [if_neg h1]
        refine ⟨fun h2 => ⟨by simp, ?_⟩, fun h2 => ⟨fun h3 => ?_, fun h3 => ?_⟩⟩
        · exact EscK.yes (by rw [e0, if_pos (by omega)]; rfl) rfl
        · have e : esc (c :: r) = esx r := by rw [e0, if_neg (by omega), if_pos (by omega)]
          refine ⟨fun h4 => ?_, fun h4 => ?_⟩
          · refine EscK.no ?_
            rw [e]
            match r, h4 with
            | [], _ => rfl
            | [a], _ => rfl
            | a :: b :: r', h4 => simp at h4; omega
          · match r, h4, e with
            | [], h4, _ => exact absurd (by simp) h4
            | [a], h4, _ => exact absurd (by simp) h4
            | a :: b :: r', _, e =>
              have la := dv_lt (b := 16) (by omega) a
              have lb := dv_lt (b := 16) (by omega) b
              have ca : Pus prog 43 [.s DIG, .i .u8 (a.toNat : Int)] (.i .i64 (dv 16 a)) := c43 H DIG a
              have cb : Pus prog 43 [.s DIG, .i .u8 (b.toNat : Int)] (.i .i64 (dv 16 b)) := c43 H DIG b
              refine ⟨a, rfl, _, ca, b, rfl, _, cb, by simp, ?_⟩
              simp only [esx] at e
              by_cases hv : 0 ≤ dv 16 a ∧ 0 ≤ dv 16 b
              · have hw : IntKind.u8.wrap (IntKind.i64.wrap ((IntKind.i64.wrap (16 * dv 16 a)) + dv 16 b)) = 16 * dv 16 a + dv 16 b := by
                  rw [wr_i64 (z := 16 * dv 16 a) (by omega) (by omega), wr_i64 (by omega) (by omega), wr_u8 (by omega) (by omega)]
                have en := lit (n := (16 * dv 16 a + dv 16 b).toNat) (by omega)
                rw [hw]
                refine ⟨fun _ => ⟨fun _ => ⟨fun h5 => ⟨fun h6 => ?_, fun h6 => ?_⟩, fun h5 => ?_⟩, fun h5 => absurd hv.2 h5⟩, fun h5 => absurd hv.1 h5⟩
                · rw [if_pos ⟨hv.1, hv.2, by omega, by omega⟩] at e
                  exact EscK.yes e (by rw [en]; omega)
                · by_cases h7 : 126 < 16 * dv 16 a + dv 16 b
                  · rw [if_pos ⟨hv.1, hv.2, by omega, by omega⟩] at e
                    rw [decide_eq_true h7]
                    exact EscK.yes e (by rw [en]; omega)
                  · rw [if_neg (by omega)] at e
                    rw [decide_eq_false h7]
                    exact EscK.no e
                · rw [if_neg (by omega)] at e
                  exact EscK.no e
              · rw [if_neg (by omega)] at e
                exact ⟨fun h5 => ⟨fun h6 => absurd ⟨h5, h6⟩ hv, fun _ => EscK.no e⟩, fun _ => EscK.no e⟩
        · exact EscK.no (by rw [e0, if_neg (by omega), if_neg (by omega)])
    unfold T45_3
    refine ⟨fun h1 => ?_, fun h1 => ?_⟩
    · rw [show decide ((c.toNat : Int) = 34) = decide (c.toNat = 34 ∨ c.toNat = 92) from decide_eq_decide.2 (by omega)]
      exact t4
    · rw [show decide ((c.toNat : Int) = 92) = decide (c.toNat = 34 ∨ c.toNat = 92) from decide_eq_decide.2 (by omega)]
      exact t4

theorem c39 {s : Bytes} (hs : s.length ≤ 10000000) : Pus prog 39 [.s s] (.tup [.s (nxtR s).1, .s (nxtR s).2.1, .b (nxtR s).2.2]) := by
  obtain ⟨x, y, z, ⟨rfl, rfl, rfl⟩, h⟩ := p39 H.f39 (s0 := s) (K := fun x y z => x = (nxtR s).1 ∧ y = (nxtR s).2.1 ∧ z = (nxtR s).2.2) (by
    have no : nxt s = none → ([] : Bytes) = (nxtR s).1 ∧ ([] : Bytes) = (nxtR s).2.1 ∧ false = (nxtR s).2.2 := by
      intro h
      unfold nxtR
      rw [h]
      exact ⟨rfl, rfl, rfl⟩
    unfold T39_0 T39_1
    refine ⟨_, _, c36 H s [34], ?_⟩
    cases s with
    | nil =>
      rw [show cutp [34] [] = ([], false) from rfl]
      exact ⟨fun _ => no rfl, fun h => by simp at h⟩
    | cons q s =>
      by_cases hq : q.toNat = 34
      · have hq' : q = 34 := u8_eq hq
        subst hq'
        have ec : cutp [34] (34 :: s) = (s, true) := by unfold cutp; rw [if_pos (show List.take ([34] : Bytes).length (34 :: s) = [34] from rfl)]; rfl
        rw [ec]
        refine ⟨fun h => by simp at h, fun _ P hP => ?_⟩
        have hn : nxt (34 :: s) = nxtB (s.length + 1) [] s := by
          simp only [nxt]
          rw [if_pos hq]
        have key : ∀ n b r, r.length < n → b.length + r.length ≤ 10000000 → nxtB n b r = nxt (34 :: s) → P r b := by
          intro n
          induction n with
          | zero => intro b r h; exact absurd h (Nat.not_lt_zero _)
          | succ n ih =>
            intro b r hr hb hx
            apply hP
            unfold T39_2
            cases r with
            | nil => exact ⟨fun h => absurd rfl h, fun _ => no (by rw [← hx]; rfl)⟩
            | cons c r =>
              simp only [nxtB] at hx
              refine ⟨fun _ => ⟨c, rfl, by simp, fun h1 => ?_, fun h1 => ⟨fun h2 => ?_, fun h2 => ⟨fun h3 => ?_, fun h3 => ⟨fun h4 => ?_, fun h4 => ?_⟩⟩⟩⟩, fun h => absurd (by simp) h⟩
              · rw [if_pos (by omega)] at hx
                unfold nxtR
                rw [← hx]
                exact ⟨rfl, rfl, rfl⟩
              · refine no ?_
                rw [← hx, if_neg (by omega), show one (c :: r) = none by simp only [one]; rw [if_pos (by omega)]]
              · refine no ?_
                rw [← hx, if_neg (by omega), show one (c :: r) = none by simp only [one]; rw [if_pos (by omega)]]
              · rw [if_neg (by omega), show one (c :: r) = esc r by simp only [one]; rw [if_neg (by omega), if_pos (by omega)]] at hx
                obtain ⟨a, r', ok, hk, hp⟩ := c45 H r
                refine ⟨a, r', ok, hp, fun h5 => ?_, fun h5 => ?_⟩
                · unfold EscK at hk
                  cases he : esc r with
                  | none => rw [he] at hx; exact no hx.symm
                  | some p =>
                    rw [he] at hk
                    obtain ⟨_, _, hk⟩ := hk
                    rw [hk] at h5
                    exact absurd h5 (by decide)
                · unfold EscK at hk
                  cases he : esc r with
                  | none =>
                    rw [he] at hk
                    simp only at hk
                    rw [hk] at h5
                    exact absurd h5 (by decide)
                  | some p =>
                    obtain ⟨u, v⟩ := p
                    rw [he] at hk hx
                    obtain ⟨h6, h7, h8⟩ := hk
                    simp only at hx h6 h7
                    subst h6; subst h7
                    have hl : r'.length < (c :: r).length := one_len (c := u) (by simp only [one]; rw [if_neg (by omega), if_pos (by omega)]; exact he)
                    simp only [List.length_cons] at hl hb hr
                    unfold T39_3
                    refine ⟨u, rfl, ⟨?_, ?_⟩, ih _ _ (by omega) ?_ hx⟩
                    · simp only [List.length_cons, List.length_nil, maxBytes_eq]; omega
                    · simp only [List.length_cons, List.length_nil, maxBytes_eq]; omega
                    · simp only [List.length_append, List.length_cons, List.length_nil]; omega
              · rw [if_neg (by omega), show one (c :: r) = some (c, r) by simp only [one]; rw [if_neg (by omega), if_neg (by omega)]] at hx
                simp only [List.length_cons] at hb hr
                unfold T39_3
                refine ⟨c, rfl, ⟨?_, ?_⟩, ih _ _ (show r.length < n by omega) ?_ hx⟩
                · simp only [List.length_cons, List.length_nil, maxBytes_eq]; omega
                · simp only [List.length_cons, List.length_nil, maxBytes_eq]; omega
                · simp only [List.drop_succ_cons, List.drop_zero, List.length_append, List.length_cons, List.length_nil]; omega
        exact key (s.length + 1) [] s (by omega) (by simp at hs ⊢; omega) hn.symm
      · have ec : cutp [34] (q :: s) = (q :: s, false) := by
          unfold cutp
          rw [if_neg ?_]
          intro h
          injection h with h
          exact hq (by rw [h]; rfl)
        rw [ec]
        refine ⟨fun _ => no ?_, fun h => by simp at h⟩
        simp only [nxt]
        rw [if_neg hq])
  exact h

theorem c40 {s : Bytes} (hs : s.length ≤ 10000000) : Pus prog 40 [.s s] (.tup [.s (nxtR s).1, .s (nxtR s).2.1, .b (nxtR s).2.2]) := by
  obtain ⟨x, y, z, ⟨rfl, rfl, rfl⟩, h⟩ := p40 H.f40 (s0 := s) (K := fun x y z => x = (nxtR s).1 ∧ y = (nxtR s).2.1 ∧ z = (nxtR s).2.2) (by
    have no : nxt s = none → ([] : Bytes) = (nxtR s).1 ∧ ([] : Bytes) = (nxtR s).2.1 ∧ false = (nxtR s).2.2 := by
      intro h
      unfold nxtR
      rw [h]
      exact ⟨rfl, rfl, rfl⟩
    unfold T40_0 T40_1
    cases s with
    | nil => exact ⟨fun _ => no rfl, fun h => absurd rfl h⟩
    | cons q s =>
      refine ⟨fun h => absurd h (by simp; omega), fun _ => ⟨q, rfl, fun hq => no ?_, fun hq => ?_⟩⟩
      · simp only [nxt]
        rw [if_neg (by omega)]
      · have hn : nxt (q :: s) = nxtB (s.length + 1) [] s := by
          simp only [nxt]
          rw [if_pos (by omega)]
        unfold T40_2 T40_3 T40_4
        refine ⟨by simp, fun P hP => ?_⟩
        have key : ∀ n b r, r.length < n → b.length + r.length ≤ 10000000 → nxtB n b r = nxt (q :: s) → P r b := by
          intro n
          induction n with
          | zero => intro b r h; exact absurd h (Nat.not_lt_zero _)
          | succ n ih =>
            intro b r hr hb hx
            apply hP
            unfold T40_5
            cases r with
            | nil =>
              refine ⟨fun h => absurd h (by simp), fun _ => ?_⟩
              unfold T40_9
              exact ⟨fun _ => no (by rw [← hx]; rfl), fun h => absurd rfl h⟩
            | cons c r =>
              simp only [nxtB] at hx
              refine ⟨fun _ => ⟨c, rfl, fun h1 => ?_, fun h1 => ?_⟩, fun h => absurd (show ((c :: r).length : Int) > 0 by simp) h⟩
              · rw [if_neg (by omega)] at hx
                intro P1 hP1
                have pref : ∀ a : UInt8, (c :: r).take (chr a).length = chr a ↔ one (c :: r) = some (a, (c :: r).drop (chr a).length) := fun a => take_chr
                have lit : ∀ {i : Nat} (_ : i < 256), IntKind.u8.wrap (i : Int) = ((UInt8.ofNat i).toNat : Int) := by
                  intro i hi
                  rw [wr_u8 (by omega) (by omega)]
                  simp; omega
                -- a step that finds nothing
                have skip : ∀ i : Nat, i < 256 → one (c :: r) ≠ some (UInt8.ofNat i, (c :: r).drop (chr (UInt8.ofNat i)).length) → P1 (c :: r) b false ((i + 1 : Nat) : Int) → P1 (c :: r) b false (i : Int) := by
                  intro i hi hne hnext
                  apply hP1
                  unfold T40_6 T40_7
                  rw [lit hi, wr_succ (by omega)]
                  refine ⟨fun _ => ⟨fun _ => ⟨_, c41 H _, fun h2 => ⟨by omega, by omega, fun h3 => ?_, fun h3 => hnext⟩, fun h2 => hnext⟩, fun h => by simp at h⟩, fun h => absurd (show (i : Int) < 256 by omega) h⟩
                  exact absurd ((pref _).1 h3) hne
                cases ho : one (c :: r) with
                | none =>
                  rw [ho] at hx
                  refine loop_up0 (P := fun i => P1 (c :: r) b false i) 256 ?_ fun i hi hnext => skip i hi (by rw [ho]; intro h; cases h) hnext
                  apply hP1
                  unfold T40_6 T40_8
                  exact ⟨fun h => absurd h (by decide), fun _ => ⟨fun _ => no hx.symm, fun h => by simp at h⟩⟩
                | some p =>
                  obtain ⟨a, r'⟩ := p
                  rw [ho] at hx
                  simp only at hx
                  have hl := one_len ho
                  simp only [List.length_cons] at hl hb hr
                  have ha := a.toNat_lt
                  have hthen : P r' (b ++ [a]) := ih _ _ (by omega) (by simp only [List.length_append, List.length_cons, List.length_nil]; omega) hx
                  have hinv := one_inv ho
                  have hdr : (c :: r).drop (chr a).length = r' := by rw [hinv]; simp
                  have hfound : ∀ i : Int, P1 r' (b ++ [a]) true i := by
                    intro i
                    apply hP1
                    unfold T40_6 T40_8
                    exact ⟨fun _ => ⟨fun h => by simp at h, fun _ => ⟨fun h => by simp at h, fun _ => hthen⟩⟩, fun _ => ⟨fun h => by simp at h, fun _ => hthen⟩⟩
                  have hat : P1 (c :: r) b false (a.toNat : Int) := by
                    apply hP1
                    unfold T40_6 T40_7
                    have e1 : IntKind.u8.wrap (a.toNat : Int) = (a.toNat : Int) := wr_u8 (by omega) (by omega)
                    have hlen := congrArg List.length hinv
                    simp only [List.length_append, List.length_cons] at hlen
                    rw [e1]
                    refine ⟨fun _ => ⟨fun _ => ⟨_, c41 H a, fun h2 => ⟨by omega, by rw [toNat_cast, List.length_cons]; omega, fun h3 => ⟨a, rfl, ?_, by omega, by rw [toNat_cast, List.length_cons]; omega, ?_⟩, fun h3 => ?_⟩, fun h2 => ?_⟩, fun h => by simp at h⟩, fun h => absurd (show (a.toNat : Int) < 256 by omega) h⟩
                    · simp only [List.length_cons, List.length_nil, maxStr_eq]; omega
                    · rw [toNat_cast, hdr]
                      exact hfound _
                    · exact absurd ((pref a).2 (by rw [ho, hdr])) h3
                    · simp only [List.length_cons] at h2
                      omega
                  have below : ∀ m i : Nat, i + m = a.toNat → P1 (c :: r) b false (i : Int) := by
                    intro m
                    induction m with
                    | zero => intro i hi; simp only [Nat.add_zero] at hi; rw [hi]; exact hat
                    | succ m ihm =>
                      intro i hi
                      refine skip i (by omega) ?_ (ihm (i + 1) (by omega))
                      rw [ho]
                      intro h
                      injection h with h
                      injection h with h
                      have := congrArg UInt8.toNat h
                      simp at this
                      omega
                  exact below a.toNat 0 (by omega)
              · unfold T40_9
                rw [if_pos (by omega)] at hx
                refine ⟨fun h => absurd h (by simp; omega), fun _ => ⟨by simp, ?_⟩⟩
                unfold nxtR
                rw [← hx]
                exact ⟨rfl, rfl, rfl⟩
        exact key (s.length + 1) [] s (by omega) (by simp at hs ⊢; omega) hn.symm)
  exact h

theorem c25 (s : Bytes) : Pus prog 25 [.s s] (.tup [.s (unquo s).1, .i .i64 (unquo s).2]) := by
  obtain ⟨x, y, ⟨rfl, rfl⟩, h⟩ := p25 H.f25 (s0 := s) (K := fun x y => x = (unquo s).1 ∧ y = (unquo s).2) (by
    unfold T25_0 unquo
    refine ⟨fun h => by rw [if_pos (by omega)]; exact ⟨rfl, rfl⟩, fun hs => ⟨_, _, _, c39 H (by omega), ?_⟩⟩
    rw [if_neg (by omega)]
    unfold nxtR
    cases nxt s with
    | none => exact ⟨fun _ => ⟨rfl, rfl⟩, fun h => by simp at h⟩
    | some p =>
      obtain ⟨x, r⟩ := p
      refine ⟨fun h => by simp at h, fun _ => ⟨fun h => ?_, fun h => ?_⟩⟩
      · cases r with
        | nil => exact absurd rfl h
        | cons c r => exact ⟨rfl, rfl⟩
      · have h : r = [] := Classical.not_not.1 h
        subst h
        refine ⟨fun h => ?_, fun h => ?_⟩
        · simp only at h ⊢
          rw [if_pos (by omega)]; exact ⟨rfl, rfl⟩
        · simp only at h ⊢
          rw [if_neg (by omega)]; exact ⟨rfl, rfl⟩)
  exact h
theorem c26 (s : Bytes) : Pus prog 26 [.s s] (.tup [.s (unquo s).1, .i .i64 (unquo s).2]) := by
  obtain ⟨x, y, ⟨rfl, rfl⟩, h⟩ := p26 H.f26 (s0 := s) (K := fun x y => x = (unquo s).1 ∧ y = (unquo s).2) (by
    unfold T26_0 unquo
    refine ⟨fun h => by rw [if_pos (by omega)]; exact ⟨rfl, rfl⟩, fun hs => ⟨_, _, _, c40 H (by omega), ?_⟩⟩
    rw [if_neg (by omega)]
    unfold nxtR
    cases nxt s with
    | none => exact ⟨fun _ => ⟨rfl, rfl⟩, fun h => by simp at h⟩
    | some p =>
      obtain ⟨x, r⟩ := p
      refine ⟨fun h => by simp at h, fun _ => ⟨fun h => ?_, fun h => ?_⟩⟩
      · cases r with
        | nil => exact absurd rfl h
        | cons c r => exact ⟨rfl, rfl⟩
      · have h : r = [] := Classical.not_not.1 h
        subst h
        refine ⟨fun h => ?_, fun h => ?_⟩
        · simp only at h ⊢
          rw [if_pos (by omega)]; exact ⟨rfl, rfl⟩
        · simp only at h ⊢
          rw [if_neg (by omega)]; exact ⟨rfl, rfl⟩)
  exact h

theorem nxt_len {s x r : Bytes} (h : nxt s = some (x, r)) : x.length + r.length + 2 ≤ s.length := by
  have h1 := nxt_iff.1 h
  have h2 : x.length ≤ (chrs x).length := by
    have : ∀ x : Bytes, x.length ≤ (chrs x).length := by
      intro x
      induction x with
      | nil => exact Nat.le_refl _
      | cons c x ih =>
        have e : chrs (c :: x) = chr c ++ chrs x := rfl
        rw [e, List.length_append, List.length_cons]
        have := (chr_len c).1
        omega
    exact this x
  have h3 := congrArg List.length h1
  simp only [quo, List.length_append, List.length_cons, List.length_nil] at h3
  omega

theorem c27 (s : Bytes) : Pus prog 27 [.s s] (.tup [.sl .ext ((unlist s).1.map rowS), .i .i64 (unlist s).2]) := by
  obtain ⟨x, y, ⟨rfl, rfl⟩, h⟩ := p27 H.f27 (s0 := s) (K := fun x y => x = (unlist s).1 ∧ y = (unlist s).2) (by
    unfold T27_0
    refine ⟨fun h => by unfold unlist; rw [if_pos (by omega)]; exact ⟨rfl, rfl⟩, fun hs => ⟨fun h => by unfold unlist; rw [if_neg (by omega), if_pos h]; exact ⟨rfl, rfl⟩, fun hne => ⟨_, _, c36 H s [91], fun P hP => ?_⟩⟩⟩
    have hu : unlist s = unl (ulp [91] s [] (s.length + 1)) := by
      unfold unlist
      rw [if_neg (by omega), if_neg hne]
    generalize hU : ulp [91] s [] (s.length + 1) = U at hu
    rw [hu] at hP
    have stop : ∀ l r, none = U → P l r false := by
      intro l r h
      subst h
      apply hP
      unfold T27_1 T27_2
      exact ⟨fun h => by simp at h, fun _ => ⟨rfl, rfl⟩⟩
    have key : ∀ n l r, r.length < n → l.length + r.length ≤ 200000 → ul n l r = U → P l r true := by
      intro n
      induction n with
      | zero => intro l r h; exact absurd h (Nat.not_lt_zero _)
      | succ n ih =>
        intro l r hr hl hx
        apply hP
        unfold T27_1 T27_2
        refine ⟨fun _ => ⟨_, _, _, c39 H (s := r) (by omega), ?_⟩, fun h => by simp at h⟩
        simp only [ul] at hx
        unfold nxtR
        cases hn : nxt r with
        | none =>
          rw [hn] at hx
          simp only at hx
          subst hx
          exact ⟨fun _ => ⟨rfl, rfl⟩, fun h => by simp at h⟩
        | some p =>
          obtain ⟨x, r'⟩ := p
          have hlen := nxt_len H hn
          rw [hn] at hx
          simp only at hx
          refine ⟨fun h => by simp at h, fun _ => ⟨⟨?_, ?_⟩, fun h1 => ?_, fun h1 => ?_⟩⟩
          · simp only [List.length_cons, List.length_nil, maxBytes_eq]; omega
          · simp only [List.length_cons, List.length_nil, maxBytes_eq]; omega
          · simp only at h1
            rw [if_pos h1] at hx
            subst hx
            refine ⟨_, c32 H (l := l ++ [x]) (by simp; omega), fun h2 => ?_, fun h2 => ?_⟩
            · rw [unl_yes h2]; exact ⟨rfl, rfl⟩
            · rw [unl_no h2]; exact ⟨rfl, rfl⟩
          · simp only at h1
            rw [if_neg h1] at hx
            refine ⟨_, _, c36 H r' [44, 32], ?_⟩
            by_cases h2 : r'.take 2 = [44, 32]
            · have ec2 : cutp [44, 32] r' = (r'.drop 2, true) := by unfold cutp; rw [if_pos (show r'.take ([44, 32] : Bytes).length = [44, 32] from h2)]; rfl
              rw [ec2]
              rw [if_pos h2] at hx
              refine ih _ _ ?_ ?_ hx
              · simp; omega
              · simp; omega
            · have ec2 : cutp [44, 32] r' = (r', false) := by unfold cutp; rw [if_neg (show ¬ r'.take ([44, 32] : Bytes).length = [44, 32] from h2)]
              rw [ec2]
              rw [if_neg h2] at hx
              exact stop _ _ hx
    unfold cutp
    unfold ulp at hU
    by_cases hm : s.take ([91] : Bytes).length = [91]
    · rw [if_pos hm] at hU
      rw [if_pos hm]
      exact key (s.length + 1) [] _ (by simp; omega) (by simp; omega) hU
    · rw [if_neg hm] at hU
      rw [if_neg hm]
      exact stop _ _ hU)
  exact h

theorem c28 (s : Bytes) : Pus prog 28 [.s s] (.tup [.sl .ext ((unlist s).1.map rowS), .i .i64 (unlist s).2]) := by
  obtain ⟨x, y, ⟨rfl, rfl⟩, h⟩ := p28 H.f28 (s0 := s) (K := fun x y => x = (unlist s).1 ∧ y = (unlist s).2) (by
    unfold T28_0 T28_1
    refine ⟨fun h => by unfold unlist; rw [if_pos (by omega)]; exact ⟨rfl, rfl⟩, fun hs => ⟨fun h => by unfold unlist; rw [if_neg (by omega), if_pos h]; exact ⟨rfl, rfl⟩, fun hne P hP => ?_⟩⟩
    have hu : unlist s = unl (ulp [91] s [] (s.length + 1)) := by
      unfold unlist
      rw [if_neg (by omega), if_neg hne]
    generalize hU : ulp [91] s [] (s.length + 1) = U at hu
    rw [hu] at hP
    have part : ∀ (n : Nat) (l : List Bytes) (r p : Bytes), r.length < n + p.length → l.length + r.length ≤ 200000 → (∀ l' r', r'.length < n → l'.length + r'.length ≤ 200000 → ulp [44, 32] r' l' n = U → P r' l' false) → ulp p r l (n + 1) = U → T28_3 prog (fun x y => x = (unl U).1 ∧ y = (unl U).2) P r l p := by
      intro n l r p hr hl ih hx
      unfold ulp at hx
      unfold T28_3
      by_cases hm : r.take p.length = p
      · rw [if_pos hm] at hx
        have hlp : p.length ≤ r.length := by
          have := congrArg List.length hm
          simp only [List.length_take] at this
          omega
        refine ⟨fun h => absurd h (by omega), fun _ => ⟨by omega, by omega, fun h => absurd hm h, fun _ => ⟨by omega, by omega, _, _, _, c40 H (by simp; omega), ?_⟩⟩⟩
        rw [toNat_cast]
        simp only [ul] at hx
        unfold nxtR
        cases hn : nxt (r.drop p.length) with
        | none =>
          rw [hn] at hx
          simp only at hx
          subst hx
          exact ⟨fun _ => ⟨rfl, rfl⟩, fun h => by simp at h⟩
        | some q =>
          obtain ⟨x, r'⟩ := q
          have hlen := nxt_len H hn
          rw [List.length_drop] at hlen
          rw [hn] at hx
          simp only at hx
          refine ⟨fun h => by simp at h, fun _ => ⟨⟨?_, ?_⟩, fun h1 => ?_, fun h1 => ?_⟩⟩
          · simp only [List.length_cons, List.length_nil, maxBytes_eq]; omega
          · simp only [List.length_cons, List.length_nil, maxBytes_eq]; omega
          · simp only at h1
            rw [if_pos h1] at hx
            subst hx
            unfold T28_4
            refine ⟨_, c20 H (l := l ++ [x]) (by simp; omega), fun h2 => ?_, fun h2 => ?_⟩
            · rw [unl_yes (by simpa using h2)]; exact ⟨rfl, rfl⟩
            · rw [unl_no (by simpa using h2)]; exact ⟨rfl, rfl⟩
          · simp only at h1
            rw [if_neg h1] at hx
            exact ih (l ++ [x]) r' (by omega) (by simp; omega) hx
      · rw [if_neg hm] at hx
        subst hx
        exact ⟨fun _ => ⟨rfl, rfl⟩, fun h => ⟨by omega, by omega, fun _ => ⟨rfl, rfl⟩, fun h => absurd hm h⟩⟩
    have key : ∀ n l r, r.length < n → l.length + r.length ≤ 200000 → ulp [44, 32] r l n = U → P r l false := by
      intro n
      induction n with
      | zero => intro l r h; exact absurd h (Nat.not_lt_zero _)
      | succ n ih =>
        intro l r hr hl hx
        apply hP
        unfold T28_2
        exact ⟨fun h => by simp at h, fun _ => part n l r [44, 32] (by simp; omega) hl ih hx⟩
    apply hP
    unfold T28_2
    exact ⟨fun _ => part s.length [] s [91] (by simp) (by simp; omega) (key s.length) hU, fun h => by simp at h⟩)
  exact h
theorem c29 {a b : List Bytes} (ha : a.length ≤ 1000000000) : Pus prog 29 [.sl .ext (a.map rowS), .sl .ext (b.map rowS)] (.b (decide (a = b))) := by
  obtain ⟨x, rfl, h⟩ := p29 H.f29 (a0 := a) (b1 := b) (K := fun x => x = decide (a = b)) (by
    unfold T29_0
    refine ⟨fun h => (decide_eq_false fun e => h (by rw [e])).symm, fun hl P hP => ?_⟩
    have hlen : a.length = b.length := by omega
    have key : ∀ m i : Nat, i + m = a.length → (∀ j, j < i → a[j]? = b[j]?) → P (i : Int) := by
      intro m
      induction m with
      | zero =>
        intro i hi hj
        apply hP
        unfold T29_1 T29_2
        refine ⟨fun h => absurd h (by omega), fun _ => (decide_eq_true ?_).symm⟩
        apply List.ext_getElem?
        intro j
        rcases Nat.lt_or_ge j i with h | h
        · exact hj j h
        · rw [List.getElem?_eq_none (by omega), List.getElem?_eq_none (by omega)]
      | succ m ih =>
        intro i hi hj
        have h1 : i < a.length := by omega
        have h2 : i < b.length := by omega
        apply hP
        unfold T29_1
        refine ⟨fun _ => ⟨by omega, a[i], by rw [toNat_cast, List.getElem?_eq_getElem h1], by omega, b[i], by rw [toNat_cast, List.getElem?_eq_getElem h2], fun h => ?_, fun h => ?_⟩, fun h => absurd h (by omega)⟩
        · refine (decide_eq_false fun e => h ?_).symm
          subst e
          rfl
        · rw [wr_succ (by omega)]
          refine ih (i + 1) (by omega) fun j hj' => ?_
          rcases Nat.lt_or_ge j i with h3 | h3
          · exact hj j h3
          · have : j = i := by omega
            subst this
            rw [List.getElem?_eq_getElem h1, List.getElem?_eq_getElem h2, Classical.not_not.1 h]
    exact key a.length 0 (by omega) (by simp))
  exact h
end
end Go.AM
