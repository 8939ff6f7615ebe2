/- Chapter 03: the examples. -/
import Derived.Test.YtdfkdendkdbnkaaL03b
import Derived.Test.YtdfkdendkdbnkaaU03d
set_option linter.all false
namespace Go.AM
open Go
theorem rep_mem {α : Type} {n : Nat} {a x : α} (h : x ∈ rep n a) : x = a := by
  rw [rep_eq] at h
  exact List.eq_of_mem_replicate h
theorem chrs_zero : ∀ s : Bytes, (∀ c ∈ s, c = 0) → (chrs s).length = 4 * s.length
  | [], _ => rfl
  | c :: s, h => by
    have h1 := h c List.mem_cons_self
    subst h1
    have e : chrs (0 :: s) = chr 0 ++ chrs s := rfl
    rw [e, List.length_append, chrs_zero s fun c hc => h c (List.mem_cons_of_mem _ hc), List.length_cons]
    have : (chr 0).length = 4 := by decide
    omega
theorem unnum_long {s : Bytes} (h : 2000 < s.length) : unnum s = (0, 4) := by unfold unnum; rw [if_pos h]
theorem unhex_long {s : Bytes} (h : 2000 < s.length) : unhex s = (0, 4) := by unfold unhex; rw [if_pos h]
theorem unquo_long {s : Bytes} (h : 2000 < s.length) : unquo s = ([], 4) := by unfold unquo; rw [if_pos h]
theorem unlist_long {s : Bytes} (h : 200000 < s.length) : unlist s = ([], 4) := by unfold unlist; rw [if_pos h]
theorem quoR_yes {s : Bytes} (h : 400 < s.length) : quoR s = ([], 4) := by unfold quoR; rw [if_pos h]
theorem listR_yes {l : List Bytes} (h : many l = true) : listR l = ([], 4) := by unfold listR; rw [if_pos h]
theorem unlist_much {l : List Bytes} (hl : (listed l).length ≤ 200000) (hn : l ≠ []) (hm : many l = true) : unlist (listed l) = ([], 4) := by
  unfold unlist
  rw [if_neg (by omega), if_neg (listed_ne hn), ulp_listed hn, unl_yes hm]
section
variable {prog : Prog} (H : Has03 prog)
include H
theorem look {P : Int → Prop} (l : List Bytes) (hl : l.length ≤ 1000) (h1 : P (l.length : Int)) (h2 : ∀ (i : Nat) (hi : i < l.length), P (IntKind.i64.wrap ((i : Int) + 1)) → P (i : Int)) : P 0 := by
  refine loop_up0 l.length h1 fun i hi ih => h2 i hi ?_
  rw [wr_succ (by omega)]
  exact ih
set_option maxRecDepth 4000 in
theorem law7 (hf : prog.fn 7 = some pf7) (ha : prog.fn 19 = some pf19) : Pus prog 7 [] (.b true) := by
  obtain ⟨x, rfl, h⟩ := p7 hf (K := fun x => x = true) (by
    unfold T7_0 T7_1 T7_2 T7_3 T7_4
    have e1 : ∀ x ∈ [([] : Bytes), ([45] : Bytes), ([43, 49] : Bytes), ([48, 48] : Bytes), ([45, 48, 48] : Bytes), ([45, 48, 49] : Bytes), ([49, 32] : Bytes), ([32, 49] : Bytes), ([48, 120, 49] : Bytes), ([49, 101, 51] : Bytes), ([49, 50, 97] : Bytes)], (unnum x).2 = 12 := by decide
    have l1 : [([] : Bytes), ([45] : Bytes), ([43, 49] : Bytes), ([48, 48] : Bytes), ([45, 48, 48] : Bytes), ([45, 48, 49] : Bytes), ([49, 32] : Bytes), ([32, 49] : Bytes), ([48, 120, 49] : Bytes), ([49, 101, 51] : Bytes), ([49, 50, 97] : Bytes)].length ≤ 1000 := by decide
    have e2 : ∀ x ∈ [([] : Bytes), ([48, 120] : Bytes), ([48, 120, 48, 48] : Bytes), ([48, 120, 70, 70] : Bytes), ([48, 88, 49] : Bytes), ([49] : Bytes), ([48, 120, 45, 49] : Bytes), ([48, 120, 48, 103] : Bytes)], (unhex x).2 = 12 := by decide
    have l2 : [([] : Bytes), ([48, 120] : Bytes), ([48, 120, 48, 48] : Bytes), ([48, 120, 70, 70] : Bytes), ([48, 88, 49] : Bytes), ([49] : Bytes), ([48, 120, 45, 49] : Bytes), ([48, 120, 48, 103] : Bytes)].length ≤ 1000 := by decide
    have e3 : ∀ x ∈ [([] : Bytes), ([34] : Bytes), ([97] : Bytes), ([34, 97] : Bytes), ([34, 92] : Bytes), ([34, 92, 97, 34] : Bytes), ([34, 92, 120, 48, 34] : Bytes), ([34, 92, 120, 54, 49, 34] : Bytes), ([34, 92, 120, 48, 97, 34] : Bytes), ([34, 92, 120, 70, 70, 34] : Bytes), ([34, 10, 34] : Bytes), ([34, 92, 110] : Bytes), ([34, 34, 34] : Bytes), ([34, 97, 34, 32] : Bytes), ([34, 127, 34] : Bytes)], (unquo x).2 = 12 := by decide
    have l3 : [([] : Bytes), ([34] : Bytes), ([97] : Bytes), ([34, 97] : Bytes), ([34, 92] : Bytes), ([34, 92, 97, 34] : Bytes), ([34, 92, 120, 48, 34] : Bytes), ([34, 92, 120, 54, 49, 34] : Bytes), ([34, 92, 120, 48, 97, 34] : Bytes), ([34, 92, 120, 70, 70, 34] : Bytes), ([34, 10, 34] : Bytes), ([34, 92, 110] : Bytes), ([34, 34, 34] : Bytes), ([34, 97, 34, 32] : Bytes), ([34, 127, 34] : Bytes)].length ≤ 1000 := by decide
    have e4 : ∀ x ∈ [([] : Bytes), ([91] : Bytes), ([93] : Bytes), ([91, 34, 97, 34] : Bytes), ([91, 34, 97, 34, 44, 34, 98, 34, 93] : Bytes), ([91, 34, 97, 34, 44, 32, 93] : Bytes), ([91, 44, 32, 34, 97, 34, 93] : Bytes), ([91, 34, 97, 34, 93, 32] : Bytes), ([91, 32, 93] : Bytes), ([91, 34, 97, 34, 32, 34, 98, 34, 93] : Bytes)], (unlist x).2 = 12 := by decide
    have l4 : [([] : Bytes), ([91] : Bytes), ([93] : Bytes), ([91, 34, 97, 34] : Bytes), ([91, 34, 97, 34, 44, 34, 98, 34, 93] : Bytes), ([91, 34, 97, 34, 44, 32, 93] : Bytes), ([91, 44, 32, 34, 97, 34, 93] : Bytes), ([91, 34, 97, 34, 93, 32] : Bytes), ([91, 32, 93] : Bytes), ([91, 34, 97, 34, 32, 34, 98, 34, 93] : Bytes)].length ≤ 1000 := by decide
    generalize [([] : Bytes), ([45] : Bytes), ([43, 49] : Bytes), ([48, 48] : Bytes), ([45, 48, 48] : Bytes), ([45, 48, 49] : Bytes), ([49, 32] : Bytes), ([32, 49] : Bytes), ([48, 120, 49] : Bytes), ([49, 101, 51] : Bytes), ([49, 50, 97] : Bytes)] = f1 at *
    generalize [([] : Bytes), ([48, 120] : Bytes), ([48, 120, 48, 48] : Bytes), ([48, 120, 70, 70] : Bytes), ([48, 88, 49] : Bytes), ([49] : Bytes), ([48, 120, 45, 49] : Bytes), ([48, 120, 48, 103] : Bytes)] = f2 at *
    generalize [([] : Bytes), ([34] : Bytes), ([97] : Bytes), ([34, 97] : Bytes), ([34, 92] : Bytes), ([34, 92, 97, 34] : Bytes), ([34, 92, 120, 48, 34] : Bytes), ([34, 92, 120, 54, 49, 34] : Bytes), ([34, 92, 120, 48, 97, 34] : Bytes), ([34, 92, 120, 70, 70, 34] : Bytes), ([34, 10, 34] : Bytes), ([34, 92, 110] : Bytes), ([34, 34, 34] : Bytes), ([34, 97, 34, 32] : Bytes), ([34, 127, 34] : Bytes)] = f3 at *
    generalize [([] : Bytes), ([91] : Bytes), ([93] : Bytes), ([91, 34, 97, 34] : Bytes), ([91, 34, 97, 34, 44, 34, 98, 34, 93] : Bytes), ([91, 34, 97, 34, 44, 32, 93] : Bytes), ([91, 44, 32, 34, 97, 34, 93] : Bytes), ([91, 34, 97, 34, 93, 32] : Bytes), ([91, 32, 93] : Bytes), ([91, 34, 97, 34, 32, 34, 98, 34, 93] : Bytes)] = f4 at *
    unfold T7_5
    intro P hP
    refine look H f1 l1 (hP _ ?_) fun i hi ih => hP _ ⟨fun _ => ⟨by omega, f1[i], by rw [toNat_cast]; exact List.getElem?_eq_getElem hi, _, _, c21 H _, fun h => absurd (e1 _ (List.getElem_mem hi)) h, fun _ => ih⟩, fun h => absurd h (by omega)⟩
    unfold T7_6
    refine ⟨fun h => absurd h (by omega), fun _ => ?_⟩
    clear hP P
    unfold T7_7
    intro P hP
    refine look H f2 l2 (hP _ ?_) fun i hi ih => hP _ ⟨fun _ => ⟨by omega, f2[i], by rw [toNat_cast]; exact List.getElem?_eq_getElem hi, _, _, c23 H _, fun h => absurd (e2 _ (List.getElem_mem hi)) h, fun _ => ih⟩, fun h => absurd h (by omega)⟩
    unfold T7_8
    refine ⟨fun h => absurd h (by omega), fun _ => ?_⟩
    clear hP P
    unfold T7_9
    intro P hP
    refine look H f3 l3 (hP _ ?_) fun i hi ih => hP _ ⟨fun _ => ⟨by omega, f3[i], by rw [toNat_cast]; exact List.getElem?_eq_getElem hi, _, _, c25 H _, fun h => absurd (e3 _ (List.getElem_mem hi)) h, fun _ => ih⟩, fun h => absurd h (by omega)⟩
    unfold T7_10
    refine ⟨fun h => absurd h (by omega), fun _ => ?_⟩
    clear hP P
    unfold T7_11
    intro P hP
    refine look H f4 l4 (hP _ ?_) fun i hi ih => hP _ ⟨fun _ => ⟨by omega, f4[i], by rw [toNat_cast]; exact List.getElem?_eq_getElem hi, _, _, c27 H _, fun h => absurd (e4 _ (List.getElem_mem hi)) h, fun _ => ih⟩, fun h => absurd h (by omega)⟩
    unfold T7_12
    refine ⟨fun h => absurd h (by omega), fun _ => ?_⟩
    clear hP P e1 e2 e3 e4 l1 l2 l3 l4
    unfold T7_13
    refine ⟨_, _, c21 H _, ?_⟩
    rw [show unnum [57, 50, 50, 51, 51, 55, 50, 48, 51, 54, 56, 53, 52, 55, 55, 53, 56, 48, 55] = (9223372036854775807, 0) by decide]
    unfold T7_14
    refine ⟨_, _, c21 H _, ?_⟩
    rw [show unnum [45, 57, 50, 50, 51, 51, 55, 50, 48, 51, 54, 56, 53, 52, 55, 55, 53, 56, 48, 56] = (-9223372036854775808, 0) by decide]
    unfold T7_15
    refine ⟨_, _, c21 H _, ?_⟩
    rw [show unnum [57, 50, 50, 51, 51, 55, 50, 48, 51, 54, 56, 53, 52, 55, 55, 53, 56, 48, 56] = (0, 16) by decide]
    unfold T7_16
    refine ⟨_, _, c21 H _, ?_⟩
    rw [show unnum [45, 57, 50, 50, 51, 51, 55, 50, 48, 51, 54, 56, 53, 52, 55, 55, 53, 56, 48, 57] = (0, 16) by decide]
    unfold T7_17
    refine ⟨_, _, c23 H _, ?_⟩
    rw [show unhex [48, 120, 102, 102, 102, 102, 102, 102, 102, 102, 102, 102, 102, 102, 102, 102, 102, 102] = (18446744073709551615, 0) by decide]
    unfold T7_18
    refine ⟨_, _, c23 H _, ?_⟩
    rw [show unhex [48, 120, 49, 48, 48, 48, 48, 48, 48, 48, 48, 48, 48, 48, 48, 48, 48, 48, 48] = (0, 16) by decide]
    unfold T7_19
    have hlen : (rep 2001 (0 : UInt8)).length = 2001 := rep_len _ _
    have hz : ∀ c ∈ rep 2001 (0 : UInt8), c = 0 := fun c hc => rep_mem hc
    generalize rep 2001 (0 : UInt8) = long at hlen hz
    have t1 : (long.take 401).length = 401 := by rw [List.length_take]; omega
    have t0 : (long.take 400).length = 400 := by rw [List.length_take]; omega
    have z0 : (quo (long.take 400)).length = 1602 := by
      have := chrs_zero (long.take 400) fun c hc => hz c (List.mem_of_mem_take hc)
      simp only [quo, List.length_cons, List.length_append, List.length_nil]
      omega
    unfold T7_20
    refine ⟨_, _, c21 H _, ?_⟩
    rw [unnum_long (by omega)]
    unfold T7_21
    refine ⟨_, _, c23 H _, ?_⟩
    rw [unhex_long (by omega)]
    unfold T7_22
    refine ⟨_, _, c25 H _, ?_⟩
    rw [unquo_long (by omega)]
    unfold T7_23
    refine ⟨by omega, _, _, c11 H _, ?_⟩
    rw [quoR_yes (by omega)]
    unfold T7_24
    refine ⟨by omega, _, _, c11 H _, ?_⟩
    rw [quoR_no (by omega)]
    unfold T7_25
    refine ⟨_, _, c25 H _, ?_⟩
    rw [unquo_quo (by omega)]
    unfold T7_26
    have r65 : (rep 65 ([] : Bytes)).length = 65 := rep_len _ _
    have r64 : (rep 64 ([] : Bytes)).length = 64 := rep_len _ _
    have m65 : many (rep 65 ([] : Bytes)) = true := by
      unfold many
      rw [Bool.or_eq_true]
      exact .inr (decide_eq_true (by omega))
    have m64 : many (rep 64 ([] : Bytes)) = false := many_false.2 ⟨fun x hx => by rw [rep_mem hx]; exact Nat.zero_le _, by omega⟩
    refine ⟨_, _, c13 H (by omega), ?_⟩
    rw [listR_yes m65]
    unfold T7_27
    have m1 : many [long.take 401] = true := by
      unfold many
      rw [Bool.or_eq_true]
      exact .inl (by unfold Go.AM.long; simp [t1])
    refine ⟨by omega, _, _, c13 H (by simp), ?_⟩
    rw [listR_yes m1]
    unfold T7_28
    refine ⟨_, _, c13 H (by omega), ?_⟩
    rw [listR_no m64]
    have q1 : (innerQ (rep 64 ([] : Bytes))).length + 2 = (listed (rep 64 ([] : Bytes))).length := (listed_len2 _).symm
    have q2 := listed_len m64
    unfold T7_29
    refine ⟨fun h => absurd h (by simp only; omega), fun _ => ?_⟩
    unfold T7_30
    refine ⟨_, _, c27 H _, ?_⟩
    simp only
    rw [unlist_listed m64]
    unfold T7_31
    refine ⟨_, _, c27 H _, ?_⟩
    rw [unlist_long (by rw [rep_len]; omega)]
    unfold T7_32
    have hw : IntKind.i64.wrap (((listed (rep 64 ([] : Bytes))).length : Int) - 1) = (((listed (rep 64 ([] : Bytes))).length - 1 : Nat) : Int) := by
      rw [wr_i64 (by omega) (by omega)]; omega
    have ee : (listed (rep 64 ([] : Bytes))).take ((listed (rep 64 ([] : Bytes))).length - 1) ++ [44, 32, 34, 34, 93] = listed (rep 64 ([] : Bytes) ++ [[]]) := by
      rw [listed_take]
      unfold listed
      rw [innerQ_snoc, if_pos (by omega)]
      simp [quo, chrs]
    have ml : many (rep 64 ([] : Bytes) ++ [[]]) = true := by
      unfold many
      rw [Bool.or_eq_true]
      exact .inr (decide_eq_true (by simp; omega))
    have ll : (listed (rep 64 ([] : Bytes) ++ [[]])).length ≤ 200000 := by
      rw [← ee]
      simp only [List.length_append, List.length_take, List.length_cons, List.length_nil]
      omega
    rw [hw, toNat_cast]
    refine ⟨by omega, by omega, ?_, _, _, c27 H _, ?_⟩
    · simp only [List.length_take, List.length_cons, List.length_nil, maxStr_eq]; omega
    rw [ee, unlist_much ll (by simp) ml]
    have fin : T7_34 prog (fun x => x = true) 4 4 4 4 (quo (long.take 400)) 0 (long.take 400) 0 4 4 0 0 4 4 true := by
      unfold T7_34
      refine ⟨fun _ => ⟨fun _ => ⟨fun _ => ⟨fun _ => ⟨fun _ => ⟨fun _ => ⟨fun _ => ⟨fun _ => ⟨fun _ => ⟨fun _ => ⟨fun _ => ⟨fun _ => ⟨fun _ => ⟨fun _ => ⟨fun _ => ⟨_, c19 H ha, rfl⟩, fun h => absurd rfl h⟩, fun h => absurd h (by decide)⟩, fun h => absurd rfl h⟩, fun h => absurd rfl h⟩, fun h => absurd rfl h⟩, fun h => absurd rfl h⟩, fun h => absurd rfl h⟩, fun h => absurd (by omega) h⟩, fun h => absurd rfl h⟩, fun h => absurd (by omega) h⟩, fun h => absurd rfl h⟩, fun h => absurd rfl h⟩, fun h => absurd rfl h⟩, fun h => absurd rfl h⟩, fun h => absurd rfl h⟩
    unfold T7_33
    refine ⟨fun _ => ⟨fun _ => ⟨fun _ => ⟨fun _ => ⟨fun _ => ⟨fun _ => ⟨fun _ => ⟨fun _ => fin, fun h => absurd rfl h⟩, fun h => absurd rfl h⟩, fun h => absurd rfl h⟩, fun h => absurd rfl h⟩, fun h => absurd rfl h⟩, fun h => absurd rfl h⟩, fun h => absurd rfl h⟩, fun h => absurd rfl h⟩)
  exact h
end
end Go.AM
