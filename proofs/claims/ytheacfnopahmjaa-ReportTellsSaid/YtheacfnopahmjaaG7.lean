/- The statement ReportTells: for every input the law returns true, and each argument reads afterwards as before. No conditions. -/
import Derived.Test.YtheacfnopahmjaaG6
import Derived.Test.YtheacfnopahmjaaG2
import Derived.Test.YtheacfnopahmjaaG3
import Derived.Test.YtheacfnopahmjaaG4
import Derived.Test.YtheacfnopahmjaaG5
set_option linter.all false
/- Parts of the proof. -/
namespace Go.AM
open Go
theorem bv_split {x m c : BitVec 64} (h : x &&& ~~~m = c) : x = c ||| (x &&& m) := by
  subst h
  apply BitVec.eq_of_getLsbD_eq
  intro i hi
  simp only [BitVec.getLsbD_or, BitVec.getLsbD_and, BitVec.getLsbD_not, hi, decide_true, Bool.true_and]
  cases x.getLsbD i <;> cases m.getLsbD i <;> rfl
theorem bv_two (x : BitVec 64) (i : Nat) : x &&& BitVec.twoPow 64 i = BitVec.twoPow 64 i ∨ x &&& BitVec.twoPow 64 i = 0#64 := by
  rw [BitVec.and_twoPow]
  split
  · exact .inl rfl
  · exact .inr rfl
theorem wrap_toNat (x : BitVec 64) : IntKind.u64.wrap (x.toNat : Int) = (x.toNat : Int) := wr_u64_nat x.isLt
theorem ofInt_toNat {f : Int} (h : 0 ≤ f ∧ f < 18446744073709551616) : f = ((BitVec.ofInt 64 f).toNat : Int) := by
  rw [BitVec.toNat_ofInt]; omega
theorem flag2 {f : Int} (h : 0 ≤ f ∧ f < 18446744073709551616) : bAndNot .u64 f 4 = 2 ↔ f = 2 ∨ f = 6 := by
  constructor
  · intro h1
    have h1 : IntKind.u64.wrap ((BitVec.ofInt 64 f &&& ~~~(BitVec.ofInt 64 4)).toNat : Int) = 2 := h1
    rw [wrap_toNat] at h1
    have h2 : BitVec.ofInt 64 f &&& ~~~(BitVec.ofInt 64 4) = 2#64 := BitVec.eq_of_toNat_eq (by rw [show (2#64).toNat = 2 from rfl]; omega)
    have h3 := bv_split h2
    rw [show BitVec.ofInt 64 4 = BitVec.twoPow 64 2 from by decide] at h3
    rcases bv_two (BitVec.ofInt 64 f) 2 with h4 | h4 <;> rw [h4] at h3 <;> have h5 := ofInt_toNat h <;> rw [h3] at h5
    · exact .inr h5
    · exact .inl h5
  · rintro (rfl | rfl) <;> decide
theorem flag0 {f : Int} (h : 0 ≤ f ∧ f < 18446744073709551616) : bAndNot .u64 f 5 = 0 ↔ f = 0 ∨ f = 1 ∨ f = 4 ∨ f = 5 := by
  constructor
  · intro h1
    have h1 : IntKind.u64.wrap ((BitVec.ofInt 64 f &&& ~~~(BitVec.ofInt 64 5)).toNat : Int) = 0 := h1
    rw [wrap_toNat] at h1
    have h2 : BitVec.ofInt 64 f &&& ~~~(BitVec.ofInt 64 5) = 0#64 := BitVec.eq_of_toNat_eq (by rw [show (0#64).toNat = 0 from rfl]; omega)
    have h3 := bv_split h2
    have e : BitVec.ofInt 64 f &&& BitVec.ofInt 64 5 = (BitVec.ofInt 64 f &&& BitVec.twoPow 64 2) ||| (BitVec.ofInt 64 f &&& BitVec.twoPow 64 0) := by
      rw [show BitVec.ofInt 64 5 = BitVec.twoPow 64 2 ||| BitVec.twoPow 64 0 from by decide]
      apply BitVec.eq_of_getLsbD_eq
      intro i hi
      simp only [BitVec.getLsbD_or, BitVec.getLsbD_and]
      cases (BitVec.ofInt 64 f).getLsbD i <;> rfl
    rw [e] at h3
    have h5 := ofInt_toNat h
    rcases bv_two (BitVec.ofInt 64 f) 2 with h4 | h4 <;> rcases bv_two (BitVec.ofInt 64 f) 0 with h6 | h6 <;> rw [h4, h6] at h3 <;> rw [h3] at h5
    · exact .inr (.inr (.inr h5))
    · exact .inr (.inr (.inl h5))
    · exact .inr (.inl h5)
    · exact .inl h5
  · rintro (rfl | rfl | rfl | rfl) <;> decide
def tExit : Bytes := [101, 120, 105, 116]
def tPan : Bytes := [112, 97, 110, 105, 99, 32]
def tRec : Bytes := [32, 114, 101, 99, 111, 118, 101, 114, 101, 100]
def tAb : Bytes := [32, 97, 98, 111, 114, 116, 101, 100]
def tF1 : Bytes := [102, 97, 117, 108, 116, 32, 49, 58, 32, 100, 105, 118, 105, 115, 105, 111, 110, 32, 98, 121, 32, 122, 101, 114, 111]
def tF2 : Bytes := [102, 97, 117, 108, 116, 32, 50, 58, 32, 110, 105, 108, 32, 112, 111, 105, 110, 116, 101, 114]
def tF3 : Bytes := [102, 97, 117, 108, 116, 32, 51, 58, 32, 111, 117, 116, 32, 111, 102, 32, 114, 97, 110, 103, 101]
def faultT (n : Int) : Bytes := if n = 1 then tF1 else if n = 2 then tF2 else if n = 3 then tF3 else []
def kindT (t : Int) : Int := if t = 1 then 2 else if t = 2 then 1 else if t = 3 then 3 else if t = 4 then 2 else 0
structure WfP (p : Pan) : Prop where
  t : 0 ≤ p.tag ∧ p.tag < 18446744073709551616
  v : Wf p.value
  f : 0 ≤ p.flags ∧ p.flags < 18446744073709551616
def isZ (v : Val) : Bool := decide (v.kind = 0) && decide (v.int = 0) && decide (v.text = []) && decide (v.list.length = 0) && !v.cut
theorem isZ_true {v : Val} : isZ v = true ↔ v = vz := by
  unfold isZ
  simp only [Bool.and_eq_true, decide_eq_true_eq, Bool.not_eq_true', and_assoc, List.length_eq_zero_iff]
  cases v with
  | mk k n s l c => simp
def okP (p : Pan) : Bool := decide (p.tag ≤ 4) && decide (p.value.kind = kindT p.tag) && (if p.tag = 0 then isZ p.value && decide (p.flags = 2 ∨ p.flags = 6)
  else decide (p.flags = 0 ∨ p.flags = 1 ∨ p.flags = 4 ∨ p.flags = 5) && decide (p.tag = 4 → 1 ≤ p.value.int ∧ p.value.int ≤ 3) && fine p.value)
def chkP (p : Pan) : Int := if okP p = true then 0 else 8
def baseP (p : Pan) : Bytes := if p.tag = 0 then tExit else if p.tag = 4 then faultT p.value.int else tPan ++ txt p.value
def sufP (f : Int) : Bytes := (if f % 2 = 1 then tRec else []) ++ (if 4 ≤ f then tAb else [])
def shown (p : Pan) : Bytes := baseP p ++ sufP p.flags
def lnP (p : Pan) : Bytes × Int := if okP p = true then (shown p, 0) else ([], 8)
end Go.AM

/- Parts of the proof. -/
namespace Go.AM
open Go
theorem okP_flags {p : Pan} (h : okP p = true) : (p.tag = 0 ∧ p.value = vz ∧ (p.flags = 2 ∨ p.flags = 6)) ∨ (p.tag ≠ 0 ∧ fine p.value = true ∧ (p.flags = 0 ∨ p.flags = 1 ∨ p.flags = 4 ∨ p.flags = 5)) := by
  unfold okP at h
  simp only [Bool.and_eq_true, decide_eq_true_eq] at h
  obtain ⟨⟨h1, h2⟩, h3⟩ := h
  by_cases t0 : p.tag = 0
  · rw [if_pos t0] at h3
    simp only [Bool.and_eq_true, decide_eq_true_eq] at h3
    exact .inl ⟨t0, isZ_true.1 h3.1, h3.2⟩
  · rw [if_neg t0] at h3
    simp only [Bool.and_eq_true, decide_eq_true_eq] at h3
    exact .inr ⟨t0, h3.2, h3.1.1⟩
theorem txt_small {v : Val} (h : fine v = true) (hk : v.kind = 1 ∨ v.kind = 2 ∨ v.kind = 3) : (txt v).length ≤ 300 := by
  have h7 := okv_head (fine_ok h).1
  unfold Val.okh Okh at h7
  have h8 := num_len v.int
  have h9 := quo_len v.text
  rw [txt_eq]
  rcases hk with h | h | h <;> rw [h]
  · rw [if_pos rfl]; split <;> decide
  · show (num v.int).length ≤ 300; omega
  · show (quo v.text).length ≤ 300; omega
theorem okP_kind {p : Pan} (h : okP p = true) (h0 : p.tag ≠ 0) : p.value.kind = 1 ∨ p.value.kind = 2 ∨ p.value.kind = 3 := by
  have hf : fine p.value = true := by rcases okP_flags h with h | h; exact absurd h.1 h0; exact h.2.1
  unfold okP at h
  simp only [Bool.and_eq_true, decide_eq_true_eq] at h
  have h2 := h.1.2
  have h7 := okv_head (fine_ok hf).1
  unfold Val.okh Okh at h7
  unfold kindT at h2
  repeat' split at h2
  all_goals omega
theorem shown_len {p : Pan} (h : okP p = true) : (shown p).length ≤ 400 := by
  have hs : (sufP p.flags).length ≤ 18 := by unfold sufP; split <;> split <;> decide
  have hb : (baseP p).length ≤ 310 := by
    unfold baseP
    by_cases t0 : p.tag = 0
    · rw [if_pos t0]; decide
    rw [if_neg t0]
    split
    · unfold faultT; repeat' split
      all_goals decide
    · have hf : fine p.value = true := by rcases okP_flags h with h | h; exact absurd h.1 t0; exact h.2.1
      have := txt_small hf (okP_kind h t0)
      rw [List.length_append, show tPan.length = 6 from rfl]; omega
  unfold shown
  rw [List.length_append]; omega
end Go.AM

/- Parts of the proof. -/
namespace Go.AM
open Go
structure Has38 (prog : Prog) : Prop extends Has03 prog, HasB prog where
  f71 : prog.fn 71 = some pf71
  f72 : prog.fn 72 = some pf72
  f76 : prog.fn 76 = some pf76
  f77 : prog.fn 77 = some pf77
  f78 : prog.fn 78 = some pf78
  f102 : prog.fn 102 = some pf102
  f103 : prog.fn 103 = some pf103
  f104 : prog.fn 104 = some pf104
  f106 : prog.fn 106 = some pf106
  f109 : prog.fn 109 = some pf109
  f110 : prog.fn 110 = some pf110
  f127 : prog.fn 127 = some pf127
  f136 : prog.fn 136 = some pf136
section
variable {prog : Prog} (H : Has38 prog)
include H
theorem c136 (v : Val) : Pus prog 136 [v.av] (.b (decide (v.list.length = 0 ∧ v.cut = false))) := by
  obtain ⟨x, rfl, h⟩ := p136 H.f136 (v0 := v) (K := fun x => x = decide (v.list.length = 0 ∧ v.cut = false)) (by
    unfold T136_0
    refine ⟨fun h => ?_, fun h => ?_⟩
    · cases v.cut
      · exact (decide_eq_true ⟨by omega, rfl⟩).symm
      · exact (decide_eq_false (by rintro ⟨_, h⟩; cases h)).symm
    · exact (decide_eq_false (by rintro ⟨h1, _⟩; omega)).symm)
  exact h
theorem c102 : ∀ (d : Nat) {v : Val}, Wf v → d ≤ 1000 → Pus prog 102 [v.av, .i .i64 (d : Int)] (.b (deepv d v))
  | 0, v, hw, hd => by
    obtain ⟨x, rfl, h⟩ := p102 H.f102 (v0 := v) (most1 := ((0 : Nat) : Int)) (K := fun x => x = deepv 0 v) (by
      unfold T102_0
      exact ⟨fun _ => rfl, fun h => absurd rfl h⟩)
    exact h
  | d + 1, v, hw, hd => by
    have ih := @c102 d
    obtain ⟨x, rfl, h⟩ := p102 H.f102 (v0 := v) (most1 := ((d + 1 : Nat) : Int)) (K := fun x => x = deepv (d + 1) v) (by
      have hm : IntKind.i64.wrap (((d + 1 : Nat) : Int) - 1) = (d : Int) := by rw [wr_i64 (by omega) (by omega)]; omega
      unfold T102_0
      refine ⟨fun h => absurd h (by omega), fun _ => ⟨fun h => ?_, fun h1 => ⟨fun h => ?_, fun h2 P hP => ?_⟩⟩⟩
      · rw [deepv, decide_eq_true (show 100 < v.text.length by omega)]; rfl
      · rw [deepv, decide_eq_true (show 400 < v.list.length by omega), Bool.or_true]; rfl
      · have e : deepv (d + 1) v = v.list.any (deepv d) := by
          rw [deepv, decide_eq_false (by omega), decide_eq_false (by omega)]; rfl
        refine loop_inv (P := fun _ i => P i v) (fun _ => ()) v.list.length (fun i => (v.list.take i).any (deepv d) = false) (by simp) (fun hI => ?_) (fun i hi hI ihP => ?_)
        · apply hP
          unfold T102_1 T102_2
          refine ⟨fun h => absurd h (by omega), fun _ => ?_⟩
          rw [List.take_length] at hI
          rw [e, hI]
        · apply hP
          unfold T102_1
          refine ⟨fun _ => ⟨by omega, _, get_at hi, _, by rw [hm]; exact ih (hw.e _ (List.getElem_mem hi)) (by omega), fun h3 => ?_, fun h3 => ?_⟩, fun h => absurd (show (i : Int) < v.list.length by omega) h⟩
          · rw [e]
            exact (List.any_eq_true.2 ⟨_, List.getElem_mem hi, h3⟩).symm
          · rw [wr_succ (by omega)]
            refine ihP ?_
            rw [List.take_succ_eq_append_getElem hi, List.any_append, hI]
            simpa using h3)
    exact h
omit H in
theorem rNs_snoc {l : List Val} {i n : Nat} (hi : i < l.length) (hn : rNs (l.take i) n ≤ 5000) : rNs (l.take (i + 1)) n = rNs (l.take i) n + rN l[i] := by
  have key : ∀ (l : List Val) (v : Val) (n : Nat), rNs l n ≤ 5000 → rNs (l ++ [v]) n = rNs l n + rN v := by
    intro l
    induction l with
    | nil => intro v n h; rw [rNs] at h; simp [rNs, h]
    | cons w l ih =>
      intro v n h
      rw [rNs] at h
      by_cases hn : n ≤ 5000
      · rw [if_pos hn] at h
        simp only [List.cons_append, rNs, if_pos hn]
        exact ih v _ h
      · rw [if_neg hn] at h
        exact absurd h hn
  rw [List.take_succ_eq_append_getElem hi, key _ _ _ hn]
omit H in
theorem rNs_stop {l : List Val} {i n : Nat} (h : 5000 < rNs (l.take i) n) : rNs l n = rNs (l.take i) n := by
  have key : ∀ (l m : List Val) (n : Nat), 5000 < rNs l n → rNs (l ++ m) n = rNs l n := by
    intro l
    induction l with
    | nil =>
      intro m n h
      rw [rNs] at h
      cases m with
      | nil => rfl
      | cons w m => simp only [List.nil_append, rNs]; rw [if_neg (by omega)]
    | cons w l ih =>
      intro m n h
      rw [rNs] at h
      simp only [List.cons_append, rNs]
      split
      · rename_i hn; rw [if_pos hn] at h; exact ih m _ h
      · rfl
  have := key (l.take i) (l.drop i) n h
  rwa [List.take_append_drop] at this
theorem c103 : ∀ (d : Nat) {v : Val}, Sm d v → d ≤ 1000 → Pus prog 103 [v.av] (.i .i64 (rN v : Int))
  | 0, v, hs, hd => hs.elim
  | d + 1, v, hs, hd => by
    have ih := @c103 d
    obtain ⟨x, rfl, h⟩ := p103 H.f103 (v0 := v) (K := fun x => x = (rN v : Int)) (by
      unfold T103_0
      intro P hP
      have e := rN_eq v
      refine loop_inv (P := fun n i => P n i v) (fun i => (rNs (v.list.take i) 1 : Int)) v.list.length (fun _ => True) trivial (fun _ => ?_) (fun i hi _ ihP => ?_)
      · apply hP
        unfold T103_1 T103_2
        refine ⟨fun h => absurd h (by omega), fun _ => ?_⟩
        rw [List.take_length, e]
      · apply hP
        unfold T103_1 T103_2
        refine ⟨fun _ => ⟨fun h => ⟨by omega, _, get_at hi, _, ih (hs.2 _ (List.getElem_mem hi)) (by omega), ?_⟩, fun h => ?_⟩, fun h => absurd (show (i : Int) < v.list.length by omega) h⟩
        · have h1 := rN_le (hs.2 _ (List.getElem_mem hi))
          have h2 := hs.1
          have h3 := rNs_snoc (l := v.list) (n := 1) hi (by omega)
          have := ihP trivial
          rw [h3] at this
          rw [wr_i64 (by omega) (by omega), wr_succ (by omega)]
          simpa using this
        · rw [e, rNs_stop (i := i) (by omega)])
    exact h
theorem c71 {v : Val} (hw : Wf v) : Pus prog 71 [v.av] (.b (greatv v)) := by
  obtain ⟨x, rfl, h⟩ := p71 H.f71 (v0 := v) (K := fun x => x = greatv v) (by
    unfold T71_0 greatv
    refine ⟨_, c102 H 14 hw (by decide), fun h => by rw [h]; rfl, fun h => ⟨_, c103 H 14 (deepv_sm h) (by decide), ?_⟩⟩
    rw [h, Bool.false_or]
    exact decide_eq_decide.2 (by omega))
  exact h
end
end Go.AM

/- Parts of the proof. -/
namespace Go.AM
open Go
theorem bAnd1 (n : Int) : bAnd .i64 n 1 = n % 2 := by
  unfold bAnd
  have h1 : (BitVec.ofInt IntKind.i64.bits n &&& BitVec.ofInt IntKind.i64.bits 1).toNat = (n % 2).toNat := by
    show (BitVec.ofInt 64 n &&& BitVec.ofInt 64 1).toNat = _
    rw [BitVec.toNat_and]
    have h2 : (BitVec.ofInt 64 1).toNat = 2 ^ 1 - 1 := by decide
    rw [h2, Nat.and_two_pow_sub_one_eq_mod, BitVec.toNat_ofInt]
    omega
  rw [h1, wr_i64 (by omega) (by omega)]
  omega
theorem cut_cases (v : Val) : (v.cut = true ∧ v.cut.toNat = 1) ∨ (v.cut = false ∧ v.cut.toNat = 0) := by cases v.cut <;> simp
theorem okv_succ (d : Nat) (v : Val) : okv (d + 1) v = (decide v.okh && v.list.all (okv d)) := rfl
theorem okv_no {d : Nat} {v : Val} (h : ¬v.okh) : okv (d + 1) v = false := by rw [okv_succ, decide_eq_false h]; rfl
theorem okv_yes {d : Nat} {v : Val} (h : v.okh) : okv (d + 1) v = v.list.all (okv d) := by rw [okv_succ, decide_eq_true h]; rfl
theorem okv_leaf {d : Nat} {v : Val} (h : v.list.length = 0) (p : Prop) [Decidable p] (hp : p ↔ v.okh) : decide p = okv (d + 1) v := by
  rw [okv_succ, decide_eq_decide.2 hp, show v.list.all (okv d) = true by rw [len0 h]; rfl, Bool.and_true]
section
variable {prog : Prog} (H : Has38 prog)
include H
set_option maxHeartbeats 1000000 in
theorem c110 : ∀ (d : Nat) {v : Val}, Wf v → d ≤ 1000 → Pus prog 110 [v.av, .i .i64 (d : Int)] (.b (okv d v))
  | 0, v, hw, hd => by
    obtain ⟨x, rfl, h⟩ := p110 H.f110 (v0 := v) (deep1 := ((0 : Nat) : Int)) (K := fun x => x = okv 0 v) (by
      unfold T110_0 T110_1
      exact ⟨fun _ => rfl, fun h => absurd rfl h⟩)
    exact h
  | d + 1, v, hw, hd => by
    have ih := @c110 d
    obtain ⟨x, rfl, h⟩ := p110 H.f110 (v0 := v) (deep1 := ((d + 1 : Nat) : Int)) (K := fun x => x = okv (d + 1) v) (by
      have hm : IntKind.i64.wrap (((d + 1 : Nat) : Int) - 1) = (d : Int) := by rw [wr_i64 (by omega) (by omega)]; omega
      have ht : v.text = [] ↔ v.text.length = 0 := List.length_eq_zero_iff.symm
      have no : ¬v.okh → false = okv (d + 1) v := fun h => (okv_no h).symm
      have hl := hw.l
      have lp : v.okh → ∀ P : Int → Val → Prop, (∀ (i6 : Int) (m0 : Val), T110_8 prog (fun x => x = okv (d + 1) v) P ((d + 1 : Nat) : Int) i6 m0 → P i6 m0) → P 0 v := by
        intro ho P hP
        have e := okv_yes (d := d) ho
        refine loop_inv (P := fun _ i => P i v) (fun _ => ()) v.list.length (fun i => (v.list.take i).all (okv d) = true) (by simp) (fun hI => ?_) (fun i hi hI ihP => ?_)
        · apply hP
          unfold T110_8 T110_9
          refine ⟨fun h => absurd h (by omega), fun _ => ?_⟩
          rw [List.take_length] at hI
          rw [e, hI]
        · apply hP
          unfold T110_8
          refine ⟨fun _ => ⟨by omega, _, get_at hi, _, by rw [hm]; exact ih (hw.e _ (List.getElem_mem hi)) (by omega), fun h3 => ?_, fun h3 => ?_⟩, fun h => absurd (show (i : Int) < v.list.length by omega) h⟩
          · rw [e]
            refine (List.all_eq_false.2 ⟨_, List.getElem_mem hi, ?_⟩).symm
            simpa using h3
          · rw [wr_i64 (by omega) (by omega)]
            refine ihP ?_
            rw [List.take_succ_eq_append_getElem hi, List.all_append, hI]
            simpa using h3
      have leaf : v.list.length = 0 → ∀ (p : Prop) [Decidable p], (p ↔ v.okh) → decide p = okv (d + 1) v := fun h p _ hp => okv_leaf h p hp
      have leafT : v.list.length = 0 → v.okh → true = okv (d + 1) v := fun h hp => by rw [← leaf h True (by simpa using hp)]; simp
      unfold T110_0 T110_1 T110_2 T110_3 T110_4 T110_5 T110_6 T110_7
      simp only [ht, ne_eq]
      refine ⟨fun h => absurd h (by omega), fun _ => ?_⟩
      rcases cut_cases v with ⟨hc, hcn⟩ | ⟨hc, hcn⟩
      all_goals
        refine ⟨fun _ => ⟨_, c136 H v, ?_, ?_⟩, fun _ => ⟨fun _ => ⟨_, c136 H v, ?_, ?_⟩, fun _ => ⟨fun _ => ⟨_, c136 H v, ?_, ?_⟩, ?_⟩⟩⟩
      all_goals simp only [hc, decide_eq_true_eq, decide_eq_false_iff_not, reduceCtorEq, false_imp_iff, true_imp_iff, and_true, true_and, and_false]
      all_goals repeat' first | refine ⟨fun _ => ?_, fun _ => ?_⟩ | (intro h)
      all_goals first
        | exact no (by unfold Val.okh Okh; omega)
        | exact leafT (by omega) (by unfold Val.okh Okh; omega)
        | exact leaf (by omega) _ (by unfold Val.okh Okh; omega)
        | exact lp (by unfold Val.okh Okh; omega) _ ‹_›
        | (exfalso; omega))
    exact h
end
end Go.AM

/- Parts of the proof. -/
namespace Go.AM
open Go
section
variable {prog : Prog} (H : Has38 prog)
include H
set_option maxHeartbeats 1000000 in
theorem c109 : ∀ (d : Nat) {v : Val}, Wf v → d ≤ 1000 → Pus prog 109 [v.av, .i .i64 (d : Int)] (.tup [.i .i64 (cntR d v).1, .b (cntR d v).2])
  | 0, v, hw, hd => by
    obtain ⟨x, y, ⟨rfl, rfl⟩, h⟩ := p109 H.f109 (v0 := v) (nest1 := ((0 : Nat) : Int)) (K := fun x y => x = (cntR 0 v).1 ∧ y = (cntR 0 v).2) (by
      unfold T109_0 T109_1 T109_2 T109_3 T109_4
      have : cntR 0 v = (0, false) := by unfold cntR; rw [if_neg (by rintro ⟨h, _⟩; cases h)]
      rw [this]
      repeat' first | exact ⟨rfl, rfl⟩ | refine ⟨fun _ => ?_, fun _ => ?_⟩ | (intro h)
      all_goals exact absurd rfl ‹¬((0 : Nat) : Int) = 0›)
    exact h
  | d + 1, v, hw, hd => by
    have ih := @c109 d
    obtain ⟨x, y, ⟨rfl, rfl⟩, h⟩ := p109 H.f109 (v0 := v) (nest1 := ((d + 1 : Nat) : Int)) (K := fun x y => x = (cntR (d + 1) v).1 ∧ y = (cntR (d + 1) v).2) (by
      have hm : IntKind.i64.wrap (((d + 1 : Nat) : Int) - 1) = (d : Int) := by rw [wr_i64 (by omega) (by omega)]; omega
      have ht : v.text = [] ↔ v.text.length = 0 := List.length_eq_zero_iff.symm
      have ht' : [] = v.text ↔ v.text.length = 0 := by rw [← ht]; exact eq_comm
      have cno : ¬(okv (d + 1) v = true ∧ v.nodes ≤ 5000) → cntR (d + 1) v = (0, false) := fun h => by unfold cntR; rw [if_neg h]
      have no : ¬v.okh → (0 : Int) = (cntR (d + 1) v).1 ∧ false = (cntR (d + 1) v).2 := fun h => by
        rw [cno (by rw [okv_no h]; rintro ⟨h, _⟩; cases h)]; exact ⟨rfl, rfl⟩
      have hl := hw.l
      have hn := nodes_eq v
      have lp : v.okh → ∀ P : Int → Int → Prop, (∀ (sum10 : Int) (t103 : Int), T109_5 prog (fun x y => x = (cntR (d + 1) v).1 ∧ y = (cntR (d + 1) v).2) P ((d + 1 : Nat) : Int) sum10 v.list (v.list.length : Int) t103 → P sum10 t103) → P 1 0 := by
        intro ho P hP
        have e := okv_yes (d := d) ho
        refine loop_inv (P := fun s i => P s i) (fun i => ((1 + Val.nodesL (v.list.take i) : Nat) : Int)) v.list.length (fun i => (v.list.take i).all (okv d) = true ∧ 1 + Val.nodesL (v.list.take i) ≤ 5000) (by simp [Val.nodesL]) (fun hI => ?_) (fun i hi hI ihP => ?_)
        · apply hP
          unfold T109_5 T109_6
          refine ⟨fun h => absurd h (by omega), fun _ => ?_⟩
          rw [List.take_length] at hI ⊢
          unfold cntR
          rw [if_pos ⟨by rw [e]; exact hI.1, by omega⟩, hn]
          exact ⟨rfl, rfl⟩
        · apply hP
          unfold T109_5
          have hnt := nodesL_take hi
          have hle := nodesL_le (l := v.list) (i + 1)
          refine ⟨fun _ => ⟨by omega, _, get_at hi, _, _, by rw [hm]; exact ih (hw.e _ (List.getElem_mem hi)) (by omega), ?_⟩, fun h => absurd (show (i : Int) < v.list.length by omega) h⟩
          by_cases hc : okv d v.list[i] = true ∧ v.list[i].nodes ≤ 5000
          · rw [show cntR d v.list[i] = ((v.list[i].nodes : Int), true) by unfold cntR; rw [if_pos hc]]
            refine ⟨fun h => (by cases h), fun _ => ⟨fun h => ?_, fun h => ?_⟩⟩
            · rw [wr_i64 (by omega) (by omega)] at h
              rw [cno (by omega)]
              exact ⟨rfl, rfl⟩
            · rw [wr_i64 (by omega) (by omega)] at h ⊢
              rw [wr_i64 (by omega) (by omega)]
              have := ihP ⟨by rw [List.take_succ_eq_append_getElem hi, List.all_append, hI.1]; simpa using hc.1, by omega⟩
              rw [hnt] at this
              rw [show ((1 + Val.nodesL (v.list.take i) : Nat) : Int) + (v.list[i].nodes : Int) = ((1 + (Val.nodesL (v.list.take i) + v.list[i].nodes) : Nat) : Int) by omega]
              exact this
          · rw [show cntR d v.list[i] = (0, false) by unfold cntR; rw [if_neg hc]]
            refine ⟨fun _ => ?_, fun h => (by cases h)⟩
            rw [cno (fun h => hc ⟨okv_sub h.1 _ (List.getElem_mem hi), by have := nodes_mem (List.getElem_mem hi); omega⟩)]
            exact ⟨rfl, rfl⟩
      unfold T109_0 T109_1 T109_2 T109_3 T109_4
      simp only [Val.int_mk, Val.text_mk, Val.cut_mk, Val.kind_mk, Val.list_mk, bAnd1, ht', ne_eq, not_true_eq_false, false_imp_iff, true_imp_iff, true_and, not_false_eq_true]
      rcases cut_cases v with ⟨hc, hcn⟩ | ⟨hc, hcn⟩
      all_goals simp only [hc, reduceCtorEq, false_imp_iff, true_imp_iff, not_true_eq_false, not_false_eq_true, true_and, and_true]
      all_goals repeat' first | refine ⟨fun _ => ?_, fun _ => ?_⟩ | (intro h)
      all_goals first
        | exact no (by unfold Val.okh Okh; omega)
        | exact lp (by unfold Val.okh Okh; omega) _ ‹_›
        | (exfalso; omega))
    exact h
theorem c76 {v : Val} (hw : Wf v) : Pus prog 76 [v.av] (.i .i64 (chkR v)) := by
  obtain ⟨x, rfl, h⟩ := p76 H.f76 (v0 := v) (K := fun x => x = chkR v) (by
    unfold T76_0 chkR
    refine ⟨_, _, c109 H 130 hw (by decide), ?_⟩
    unfold cntR fine
    by_cases h : okv 130 v = true ∧ v.nodes ≤ 5000
    · rw [if_pos h, if_pos (by simpa using h)]
      exact ⟨fun h => (by cases h), fun _ => rfl⟩
    · rw [if_neg h, if_neg (by simpa using h)]
      exact ⟨fun _ => rfl, fun h => (by cases h)⟩)
  exact h
theorem c77 {v : Val} (hw : Wf v) : Pus prog 77 [v.av] (.i .i64 (chkR v)) := by
  obtain ⟨x, rfl, h⟩ := p77 H.f77 (v0 := v) (K := fun x => x = chkR v) (by
    unfold T77_0 chkR fine
    refine ⟨_, c110 H 130 hw (by decide), fun h => ?_, fun h => ⟨_, c103 H 130 (okv_sm (by simpa using h)) (by decide), fun h1 => ?_, fun h1 => ?_⟩⟩
    · rw [show okv 130 v = false by simpa using h]; rfl
    · have h2 := rN_spec v
      rw [show okv 130 v = true by simpa using h, decide_eq_false (by omega)]; rfl
    · have h2 := rN_spec v
      rw [show okv 130 v = true by simpa using h, decide_eq_true (by omega)]; rfl)
  exact h
end
end Go.AM

/- Parts of the proof. -/
namespace Go.AM
open Go
theorem txts_app (l m : List Val) : txts (l ++ m) = txts l ++ (if l.length = 0 then txts m else txtl m) := by
  cases l with
  | nil => simp [txts]
  | cons a l => simp [txts, txtl_app]
theorem txts_take_len (l : List Val) (i : Nat) : (txts (l.take i)).length ≤ (txts l).length := by
  have := txts_app (l.take i) (l.drop i)
  rw [List.take_append_drop] at this
  rw [this, List.length_append]
  omega
theorem quoR_ok {s : Bytes} (h : s.length ≤ 400) : quoR s = (quo s, 0) := by
  unfold quoR
  rw [if_neg (by omega)]
section
variable {prog : Prog} (H : Has38 prog)
include H
theorem c127 {l : List Val} (hl : l.length ≤ 16) (h : ∀ x ∈ l, Pus prog 106 [x.av] (.s (txt x))) (hs : (txts l).length ≤ 10000000) : Pus prog 127 [.sl .ext (l.map Val.row)] (.s (txts l)) := by
  obtain ⟨x, rfl, h⟩ := p127 H.f127 (l0 := l) (K := fun x => x = txts l) (by
    unfold T127_0
    intro P hP
    refine loop_up (P := fun s i => P s i) (fun i => txts (l.take i)) l.length ?_ fun i hi ihP => ?_
    · apply hP
      unfold T127_1 T127_3
      rw [List.take_length]
      exact ⟨fun h => absurd h (by omega), fun _ => rfl⟩
    · apply hP
      have h1 := txts_take_len l (i + 1)
      rw [txts_take hi] at h1 ihP
      simp only [List.length_append] at h1
      unfold T127_1 T127_2
      refine ⟨fun _ => ⟨fun h2 => ?_, fun h2 => ?_⟩, fun h => absurd (show (i : Int) < l.length by omega) h⟩
      · rw [if_pos (by omega)] at h1 ihP
        refine ⟨by rw [maxStr_eq]; omega, by omega, _, get_at hi, _, h _ (List.getElem_mem hi), ?_, ?_⟩
        · rw [List.length_append, maxStr_eq]; omega
        · rw [wr_succ (by omega)]; exact ihP
      · rw [if_neg (by omega)] at h1 ihP
        refine ⟨by omega, _, get_at hi, _, h _ (List.getElem_mem hi), ?_, ?_⟩
        · rw [maxStr_eq]; simp only [List.length_nil] at h1; omega
        · rw [wr_succ (by omega)]; simpa using ihP)
  exact h
theorem c106 : ∀ (d : Nat) {v : Val}, okv d v = true → Wf v → (txt v).length ≤ 10000000 → Pus prog 106 [v.av] (.s (txt v))
  | 0, v, h, _, _ => by cases h
  | d + 1, v, h, hw, hlen => by
    have h1 := okv_head h
    have h2 := okv_sub h
    have ih : ∀ x ∈ v.list, (txts v.list).length ≤ 10000000 → Pus prog 106 [x.av] (.s (txt x)) := by
      intro x hx hl
      obtain ⟨i, hi, rfl⟩ := List.getElem_of_mem hx
      refine c106 d (h2 _ hx) (hw.e _ hx) ?_
      have h3 := txts_take_len v.list (i + 1)
      rw [txts_take hi] at h3
      simp only [List.length_append] at h3
      omega
    obtain ⟨x, rfl, h⟩ := p106 H.f106 (v0 := v) (K := fun x => x = txt v) (by
      unfold T106_0 T106_1
      rw [txt_eq] at hlen ⊢
      refine ⟨fun k1 => ⟨fun h => ?_, fun h => ?_⟩, fun k1 => ⟨fun k2 => ⟨_, c16 H.toHas03 hw.n.1 hw.n.2, ?_⟩, fun k2 => ⟨fun k3 => ⟨_, c31 H.toHas03 ?_, ?_⟩, fun k3 => ⟨fun k5 => ?_, fun k5 => ⟨fun k6 => ?_, fun k6 => ⟨fun k7 => ⟨fun hc => ?_, fun hc => ?_⟩, fun k7 => ⟨fun hc => ?_, fun hc => ⟨fun hl => ?_, fun hl => ?_⟩⟩⟩⟩⟩⟩⟩⟩
      · rw [if_pos k1, if_pos h]; rfl
      · rw [if_pos k1, if_neg h]; rfl
      · rw [if_neg k1, if_pos k2]
      · unfold Val.okh Okh at h1; omega
      · rw [if_neg k1, if_neg k2, if_pos k3]
      · rw [if_neg k1, if_neg k2, if_neg k3, if_pos k5] at hlen ⊢
        simp only [List.length_cons, List.length_append, List.length_nil] at hlen
        refine ⟨_, c127 H (by unfold Val.okh Okh at h1; omega) (fun x hx => ih x hx (by omega)) (by omega), ?_, ?_, ?_⟩
        · rw [maxStr_eq]; simp only [List.length_cons, List.length_nil]; omega
        · rw [maxStr_eq]; simp only [List.length_cons, List.length_nil, List.length_append]; omega
        · simp
      · rw [if_neg k1, if_neg k2, if_neg k3, if_neg k5, if_pos k6] at hlen ⊢
        simp only [List.length_cons, List.length_append, List.length_nil] at hlen
        refine ⟨_, c127 H (by unfold Val.okh Okh at h1; omega) (fun x hx => ih x hx (by omega)) (by omega), ?_, ?_, ?_⟩
        · rw [maxStr_eq]; simp only [List.length_cons, List.length_nil]; omega
        · rw [maxStr_eq]; simp only [List.length_cons, List.length_nil, List.length_append]; omega
        · simp
      · rw [if_neg k1, if_neg k2, if_neg k3, if_neg k5, if_neg k6, if_pos k7, if_pos hc]; rfl
      · rw [if_neg k1, if_neg k2, if_neg k3, if_neg k5, if_neg k6, if_pos k7, if_neg (by rw [hc]; decide)] at hlen ⊢
        simp only [List.length_cons, List.length_append, List.length_nil] at hlen
        refine ⟨_, c127 H (by unfold Val.okh Okh at h1; omega) (fun x hx => ih x hx (by omega)) (by omega), ?_, ?_, ?_⟩
        · rw [maxStr_eq]; simp only [List.length_cons, List.length_nil]; omega
        · rw [maxStr_eq]; simp only [List.length_cons, List.length_nil, List.length_append]; omega
        · simp
      · rw [if_neg k1, if_neg k2, if_neg k3, if_neg k5, if_neg k6, if_neg k7, if_pos hc]; rfl
      · rw [if_neg k1, if_neg k2, if_neg k3, if_neg k5, if_neg k6, if_neg k7, if_neg (by rw [hc]; decide), if_pos (by omega)]; rfl
      · rw [if_neg k1, if_neg k2, if_neg k3, if_neg k5, if_neg k6, if_neg k7, if_neg (by rw [hc]; decide), if_neg (by omega)] at hlen ⊢
        have hl1 : v.list.length = 1 := by unfold Val.okh Okh at h1; omega
        obtain ⟨w, hw1⟩ := List.length_eq_one_iff.1 hl1
        rw [hw1, txts_one] at hlen ⊢
        simp only [List.length_cons] at hlen
        refine ⟨w, rfl, _, ih w (by rw [hw1]; exact List.mem_cons_self) (by rw [hw1, txts_one]; omega), ?_, rfl⟩
        rw [maxStr_eq]; simp only [List.length_cons, List.length_nil]; omega)
    exact h
theorem show_loop {K : Int → Bytes → Prop} {l : List Val} {e0 e1 : UInt8} {b : Bytes} (hl : l.length ≤ 16) (hx : ∀ x ∈ l, ∀ b : Bytes, b.length + (txt x).length ≤ 100000000 → PuX prog 104 (Bl b) [x.av] (fun r => r = .i .i64 0) (Bl (b ++ txt x)))
    (hb : b.length + (txts l).length + 2 ≤ 100000000) (hK : K 0 (b ++ [e0] ++ txts l ++ [e1])) : ∀ P0 : Int → Bytes → Prop, (∀ (t22 : Int) (mP : Bytes), T104_9 prog K P0 [e0, e1] l (l.length : Int) t22 mP → P0 t22 mP) → P0 0 (b ++ [e0]) := by
  intro P hP
  have := loop_up (P := fun m i => P i m) (fun i => b ++ [e0] ++ txts (l.take i)) l.length ?_ fun i hi ihP => ?_
  · simpa [txts] using this
  · apply hP
    unfold T104_9 T104_11 T104_4
    rw [List.take_length]
    refine ⟨fun h => absurd h (by omega), fun _ => ⟨by simp, _, _, c126 H.toHasB (s := [e1]) ?_, hK⟩⟩
    rw [maxBytes_eq]; simp only [List.length_append, List.length_cons, List.length_nil]; omega
  · apply hP
    have h1 := txts_take_len l (i + 1)
    rw [txts_take hi] at h1 ihP
    simp only [List.length_append] at h1
    unfold T104_9 T104_10
    refine ⟨fun _ => ⟨by omega, _, get_at hi, fun h2 => ?_, fun h2 => ?_⟩, fun h => absurd (show (i : Int) < l.length by omega) h⟩
    · rw [if_pos (by omega)] at h1 ihP
      refine ⟨_, _, c126 H.toHasB (s := [44, 32]) ?_, _, _, hx _ (List.getElem_mem hi) _ ?_, fun h => absurd rfl h, fun _ => ?_⟩
      · rw [maxBytes_eq]; simp only [List.length_append, List.length_cons, List.length_nil]; omega
      · simp only [List.length_append, List.length_cons, List.length_nil] at h1 ⊢; omega
      · rw [wr_succ (by omega)]
        simpa using ihP
    · rw [if_neg (by omega)] at h1 ihP
      refine ⟨_, _, hx _ (List.getElem_mem hi) _ ?_, fun h => absurd rfl h, fun _ => ?_⟩
      · simp only [List.length_append, List.length_cons, List.length_nil] at h1 ⊢; omega
      · rw [wr_succ (by omega)]
        simpa using ihP
set_option maxHeartbeats 1000000 in
theorem c104 : ∀ (d : Nat) {v : Val}, okv d v = true → Wf v → ∀ b : Bytes, b.length + (txt v).length ≤ 100000000 → PuX prog 104 (Bl b) [v.av] (fun r => r = .i .i64 0) (Bl (b ++ txt v))
  | 0, v, h, _, _, _ => by cases h
  | d + 1, v, h, hw, b, hlen => by
    have h1 := okv_head h
    have h2 := okv_sub h
    have ih : ∀ x ∈ v.list, ∀ b : Bytes, b.length + (txt x).length ≤ 100000000 → PuX prog 104 (Bl b) [x.av] (fun r => r = .i .i64 0) (Bl (b ++ txt x)) := fun x hx b hb => c104 d (h2 _ hx) (hw.e _ hx) b hb
    refine (p104 H.f104 (v1 := v) (mP := b) (K := fun r b' => r = 0 ∧ b' = b ++ txt v) ?_).to fun r b' hk => ?_
    · have hB : ∀ {s : Bytes} {a : Int}, (txt v) = s → ∃ r' : Int, ∃ b'' : Bytes, PuX prog 126 (Bl b) [.s s] (fun r => r = .tup [.i .i64 r', .ni]) (Bl b'') ∧ T104_4 prog (fun r b' => r = 0 ∧ b' = b ++ txt v) b'' := by
        intro s a hs
        refine ⟨_, _, c126 H.toHasB (s := s) ?_ (hs ▸ txt_ne v), ?_⟩
        · rw [← hs, maxBytes_eq]; omega
        · unfold T104_4; rw [hs]; exact ⟨rfl, rfl⟩
      have hk : 1 ≤ v.kind ∧ v.kind ≤ 7 := by unfold Val.okh Okh at h1; omega
      have hn := hw.n
      rw [txt_eq] at hlen
      have ht := txt_eq v
      unfold T104_0 T104_1
      refine ⟨by omega, ?_⟩
      have hkk : v.kind = 1 ∨ v.kind = 2 ∨ v.kind = 3 ∨ v.kind = 4 ∨ v.kind = 5 ∨ v.kind = 6 ∨ v.kind = 7 := by omega
      rcases hkk with k | k | k | k | k | k | k
      all_goals rw [k]
      all_goals simp only [k, if_true, reduceCtorEq, if_false, Int.reduceEq] at ht hlen
      · refine ⟨[], rfl, ?_⟩
        unfold T104_2 T104_3 T104_5
        rw [k]
        refine ⟨fun _ => ⟨fun h => hB (a := 0) ?_, fun h => ⟨fun _ => hB (a := 0) ?_, fun h => by simp at h⟩⟩, fun h => absurd rfl h⟩
        · rw [ht, if_pos (by simpa using h)]; rfl
        · rw [ht, if_neg (by simpa using h)]; rfl
      · refine ⟨[], rfl, ?_⟩
        unfold T104_2 T104_3 T104_5 T104_6
        rw [k]
        refine ⟨fun h => absurd h (by decide), fun _ => ⟨fun h => (by cases h), fun _ => ⟨fun h => (by simp at h), fun _ => ⟨fun _ => ⟨_, c15 H.toHas03 hn.1 hn.2, hB (a := 0) ht⟩, fun h => by simp at h⟩⟩⟩⟩
      · refine ⟨[], rfl, ?_⟩
        unfold T104_2 T104_3 T104_5 T104_6 T104_7
        rw [k]
        refine ⟨fun h => absurd h (by decide), fun _ => ⟨fun h => (by cases h), fun _ => ⟨fun h => (by simp at h), fun _ => ⟨fun h => (by simp at h), fun _ => ⟨fun _ => ⟨_, _, c11 H.toHas03 v.text, ?_⟩, fun h => by simp at h⟩⟩⟩⟩⟩
        rw [quoR_ok (by unfold Val.okh Okh at h1; omega)]
        refine ⟨_, _, c126 H.toHasB (s := quo v.text) ?_, rfl, ?_⟩
        · rw [maxBytes_eq]; omega
        · rw [ht]
      · refine ⟨[], rfl, ?_⟩
        unfold T104_2 T104_3 T104_5 T104_6 T104_7 T104_8
        rw [k]
        refine ⟨fun h => absurd h (by decide), fun _ => ⟨fun h => (by cases h), fun _ => ⟨fun h => (by simp at h), fun _ => ⟨fun h => (by simp at h), fun _ => ⟨fun h => (by simp at h), fun _ => ⟨fun _ => ⟨fun hc => hB (a := 0) ?_, fun hc => ⟨fun _ => ⟨fun hl => hB (a := 0) ?_, fun hl => ⟨fun _ => ?_, fun h => absurd rfl h⟩⟩, fun h => absurd rfl h⟩⟩, fun h => absurd rfl h⟩⟩⟩⟩⟩⟩
        · rw [ht, if_pos hc]; rfl
        · rw [ht, if_neg (by rw [hc]; decide), if_pos (by omega)]; rfl
        · rw [if_neg (by rw [hc]; decide), if_neg (by omega)] at ht hlen
          have hl1 : v.list.length = 1 := by unfold Val.okh Okh at h1; omega
          obtain ⟨w, hw1⟩ := List.length_eq_one_iff.1 hl1
          rw [hw1, txts_one] at hlen ht
          simp only [List.length_cons] at hlen
          refine ⟨_, _, c126 H.toHasB (s := [38]) ?_, w, by rw [hw1]; rfl, _, _, ih w (by rw [hw1]; exact List.mem_cons_self) _ ?_, rfl, ?_⟩
          · rw [maxBytes_eq]; simp only [List.length_cons, List.length_nil]; omega
          · simp only [List.length_append, List.length_cons, List.length_nil]; omega
          · rw [ht]; simp
      · have hc : v.cut = false := by
          have : v.cut.toNat = 0 := by unfold Val.okh Okh at h1; omega
          cases hc : v.cut
          · rfl
          · rw [hc] at this; cases this
        refine ⟨[123, 125], rfl, ?_⟩
        unfold T104_2 T104_3 T104_5 T104_6 T104_7 T104_8
        rw [k]
        refine ⟨fun h => absurd h (by decide), fun _ => ⟨fun h => (by cases h), fun _ => ⟨fun h => (by simp at h), fun _ => ⟨fun h => (by simp at h), fun _ => ⟨fun h => (by simp at h), fun _ => ⟨fun h => absurd h (by decide), fun _ => ⟨fun h => (by cases h), fun _ => ⟨fun h => absurd h (by decide), fun _ => ⟨fun h => absurd h (by decide), fun _ => ⟨fun h => (by rw [hc] at h; cases h), fun _ => ⟨by decide, _, _, c126 H.toHasB (s := [123]) ?_, ?_⟩⟩⟩⟩⟩⟩⟩⟩⟩⟩⟩
        · rw [maxBytes_eq]; simp only [List.length_cons, List.length_nil, List.length_append] at hlen ⊢; omega
        · simp only [List.length_cons, List.length_nil, List.length_append] at hlen
          exact show_loop H (by unfold Val.okh Okh at h1; omega) ih (by omega) ⟨rfl, by rw [ht]; simp⟩
      · have hc : v.cut = false := by
          have : v.cut.toNat = 0 := by unfold Val.okh Okh at h1; omega
          cases hc : v.cut
          · rfl
          · rw [hc] at this; cases this
        refine ⟨[91, 93], rfl, ?_⟩
        unfold T104_2 T104_3 T104_5 T104_6 T104_7 T104_8
        rw [k]
        refine ⟨fun h => absurd h (by decide), fun _ => ⟨fun h => (by cases h), fun _ => ⟨fun h => (by simp at h), fun _ => ⟨fun h => (by simp at h), fun _ => ⟨fun h => (by simp at h), fun _ => ⟨fun h => absurd h (by decide), fun _ => ⟨fun h => (by cases h), fun _ => ⟨fun h => absurd h (by decide), fun _ => ⟨fun h => absurd h (by decide), fun _ => ⟨fun h => (by rw [hc] at h; cases h), fun _ => ⟨by decide, _, _, c126 H.toHasB (s := [91]) ?_, ?_⟩⟩⟩⟩⟩⟩⟩⟩⟩⟩⟩
        · rw [maxBytes_eq]; simp only [List.length_cons, List.length_nil, List.length_append] at hlen ⊢; omega
        · simp only [List.length_cons, List.length_nil, List.length_append] at hlen
          exact show_loop H (by unfold Val.okh Okh at h1; omega) ih (by omega) ⟨rfl, by rw [ht]; simp⟩
      · refine ⟨[60, 62], rfl, ?_⟩
        unfold T104_2 T104_3 T104_5 T104_6 T104_7 T104_8
        rw [k]
        refine ⟨fun h => absurd h (by decide), fun _ => ⟨fun h => (by cases h), fun _ => ⟨fun h => (by simp at h), fun _ => ⟨fun h => (by simp at h), fun _ => ⟨fun h => (by simp at h), fun _ => ⟨fun h => absurd h (by decide), fun _ => ⟨fun h => (by cases h), fun _ => ⟨fun h => absurd h (by decide), fun _ => ⟨fun h => absurd h (by decide), fun _ => ⟨fun hc => hB (a := 0) ?_, fun hc => ⟨by decide, _, _, c126 H.toHasB (s := [60]) ?_, ?_⟩⟩⟩⟩⟩⟩⟩⟩⟩⟩⟩
        · rw [ht, if_pos hc]; rfl
        · rw [if_neg (by rw [hc]; decide)] at hlen
          rw [maxBytes_eq]; simp only [List.length_cons, List.length_nil, List.length_append] at hlen ⊢; omega
        · rw [if_neg (by rw [hc]; decide)] at hlen ht
          simp only [List.length_cons, List.length_nil, List.length_append] at hlen
          exact show_loop H (by unfold Val.okh Okh at h1; omega) ih (by omega) ⟨rfl, by rw [ht]; simp⟩
    · obtain ⟨x0, h1, rfl, rfl⟩ := hk
      exact ⟨h1, rfl⟩
theorem c72 {v : Val} (hw : Wf v) : Pus prog 72 [v.av] (.tup [.s (if fine v = true then txt v else []), .i .i64 (chkR v)]) := by
  obtain ⟨x, y, ⟨rfl, rfl⟩, h⟩ := p72 H.f72 (v0 := v) (K := fun x y => x = (if fine v = true then txt v else []) ∧ y = chkR v) (by
    unfold T72_0
    refine ⟨_, c76 H hw, fun h => ?_, fun h => ?_⟩
    · unfold chkR at h ⊢
      by_cases hf : fine v = true
      · rw [if_pos hf] at h; exact absurd rfl h
      · rw [if_neg hf, if_neg hf]; exact ⟨rfl, rfl⟩
    · unfold chkR at h ⊢
      by_cases hf : fine v = true
      · rw [if_pos hf, if_pos hf]
        have := fine_len hf
        refine ⟨_, _, c104 H 130 (fine_ok hf).1 hw [] (by simp only [List.length_nil]; omega), fun h => absurd rfl h, fun _ => ⟨_, c105 H.toHasB (by rw [List.nil_append, maxBytes_eq]; omega), rfl, rfl⟩⟩
      · rw [if_neg hf] at h; exact absurd (by decide) h)
  exact h
end
end Go.AM

/- Parts of the proof. -/
namespace Go.AM
open Go
section
variable {prog : Prog} (H : Has38 prog)
include H
end
end Go.AM

/- Parts of the proof. -/
namespace Go.AM
open Go
section
variable {f : Bytes → Val × Bool × Bytes}
end
section
variable {prog : Prog} (H : Has38 prog)
include H
omit H in
theorem chk_fine {v : Val} : chkR v = 0 ↔ fine v = true := by
  unfold chkR
  by_cases h : fine v = true
  · rw [if_pos h]; simp [h]
  · rw [if_neg h]; simp [h]
end
end Go.AM

/- Parts of the proof. -/
namespace Go.AM
open Go
def RdK (q : Val × Bool × Bytes) (v : Val) (r : Bytes) (ok : Bool) : Prop := ok = q.2.1 ∧ (ok = true → v = q.1 ∧ r = q.2.2)
theorem RdK.no {q : Val × Bool × Bytes} {v : Val} {r : Bytes} (h : q.2.1 = false) : RdK q v r false := ⟨h.symm, fun h => by cases h⟩
theorem RdK.yes {q : Val × Bool × Bytes} {v : Val} {r : Bytes} (h : q = (v, true, r)) : RdK q v r true := by subst h; exact ⟨rfl, fun _ => ⟨rfl, rfl⟩⟩
section
variable {prog : Prog} (H : Has38 prog)
include H
theorem c78 {a : Val} (hw : Wf a) : ∀ b : Val, Pus prog 78 [a.av, b.av] (.b (sameV a b)) := by
  induction hw with
  | @mk k n s l c hk hn hl _ ih =>
    intro b
    obtain ⟨x, rfl, h⟩ := p78 H.f78 (a0 := Val.mk k n s l c) (b1 := b) (K := fun x => x = sameV (Val.mk k n s l c) b) (by
      have no : ∀ {p : Prop}, (Val.mk k n s l c = b → p) → ¬p → false = sameV (Val.mk k n s l c) b := fun h1 h2 => (sameV_false.2 fun h => h2 (h1 h)).symm
      unfold T78_0
      refine ⟨fun h => no (fun e => by rw [← e]) h, fun h1 => ⟨fun h => no (fun e => by rw [← e]) h, fun h2 => ⟨fun h => no (fun e => by rw [← e]) h, fun h3 => ⟨fun h => no (fun e => by rw [← e]) h, fun h4 => ⟨fun h => no (fun e => by rw [← e]) h, fun h5 P hP => ?_⟩⟩⟩⟩⟩
      have h1 := Decidable.not_not.1 h1
      have h2 := Decidable.not_not.1 h2
      have h3 := Decidable.not_not.1 h3
      have h4 := Decidable.not_not.1 h4
      have h5 : l.length = b.list.length := by have := Decidable.not_not.1 h5; simp only [Val.list_mk] at this; omega
      refine loop_inv (P := fun _ i => P i (Val.mk k n s l c) b) (fun _ => ()) l.length (fun i => l.take i = b.list.take i) (by simp) (fun hI => ?_) (fun i hi hI ihP => ?_)
      · apply hP
        unfold T78_1 T78_2
        refine ⟨fun h => absurd h (by simp only [Val.list_mk]; omega), fun _ => (sameV_true.2 ?_).symm⟩
        rw [List.take_length, h5, List.take_length] at hI
        rw [b.eta, ← h1, ← h2, ← h3, ← h4, hI]
        rfl
      · apply hP
        have hi2 : i < b.list.length := by omega
        unfold T78_1
        refine ⟨fun _ => ⟨by omega, l[i], get_at (l := l) hi, by omega, b.list[i], get_at hi2, _, ih _ (List.getElem_mem hi) _, fun h6 => ?_, fun h6 => ?_⟩, fun h => absurd (show (i : Int) < l.length by omega) h⟩
        · refine no (p := l[i] = b.list[i]) (fun e => ?_) (sameV_false.1 (by simpa using h6))
          subst e
          rfl
        · rw [wr_i64 (by omega) (by omega)]
          refine ihP ?_
          have h7 : l[i] = b.list[i] := sameV_true.1 (by simpa using h6)
          rw [List.take_succ_eq_append_getElem hi, List.take_succ_eq_append_getElem hi2, hI, h7])
    exact h
end
end Go.AM

/- Parts of the proof. -/
namespace Go.AM
open Go
structure HasO (prog : Prog) : Prop extends Has38 prog where
  f154 : prog.fn 154 = some pf154
  f158 : prog.fn 158 = some pf158
  f159 : prog.fn 159 = some pf159
  f178 : prog.fn 178 = some pf178
  f179 : prog.fn 179 = some pf179
  f183 : prog.fn 183 = some pf183
def faults4 : List Bytes := [[], tF1, tF2, tF3]
def kinds5 : List UInt8 := [0, 2, 1, 3, 2]
theorem kinds5_at {t : Int} (h : 0 ≤ t) (h4 : ¬t > 4) : ∃ c : UInt8, kinds5[t.toNat]? = some c ∧ ((c.toNat : Nat) : Int) = kindT t := by
  rcases (show t = 0 ∨ t = 1 ∨ t = 2 ∨ t = 3 ∨ t = 4 by omega) with rfl | rfl | rfl | rfl | rfl
  · exact ⟨0, rfl, rfl⟩
  · exact ⟨2, rfl, rfl⟩
  · exact ⟨1, rfl, rfl⟩
  · exact ⟨3, rfl, rfl⟩
  · exact ⟨2, rfl, rfl⟩
theorem faults4_at {n : Int} (h : 1 ≤ n) (h3 : n ≤ 3) : faults4[n.toNat]? = some (faultT n) := by
  rcases (show n = 1 ∨ n = 2 ∨ n = 3 by omega) with rfl | rfl | rfl <;> rfl
theorem okP_no4 {p : Pan} (h : p.tag > 4) : okP p = false := by unfold okP; rw [decide_eq_false (by omega)]; rfl
theorem okP_nok {p : Pan} (h : p.value.kind ≠ kindT p.tag) : okP p = false := by unfold okP; rw [decide_eq_false h]; simp
theorem okP_0 {p : Pan} (h : p.tag = 0) (hk : p.value.kind = kindT p.tag) : okP p = (isZ p.value && decide (p.flags = 2 ∨ p.flags = 6)) := by
  unfold okP; rw [decide_eq_true hk, decide_eq_true (by omega), if_pos h]; rfl
theorem okP_n0 {p : Pan} (h4 : ¬p.tag > 4) (h : p.tag ≠ 0) (hk : p.value.kind = kindT p.tag) : okP p = (decide (p.flags = 0 ∨ p.flags = 1 ∨ p.flags = 4 ∨ p.flags = 5) && decide (p.tag = 4 → 1 ≤ p.value.int ∧ p.value.int ≤ 3) && fine p.value) := by
  unfold okP; rw [decide_eq_true hk, decide_eq_true (by omega), if_neg h]; rfl
theorem chkP_no {p : Pan} (h : okP p = false) : chkP p = 8 := by unfold chkP; rw [h]; rfl
theorem chkP_yes {p : Pan} (h : okP p = true) : chkP p = 0 := by unfold chkP; rw [h]; rfl
theorem chkP_iff {p : Pan} : chkP p = 0 ↔ okP p = true := by unfold chkP; split <;> simp_all
section
variable {prog : Prog} (H : HasO prog)
include H
theorem c178 : Pus prog 178 [] (.ag (faults4.map AV.s)) := by
  obtain ⟨x, rfl, h⟩ := p178 H.f178 (K := fun x => x = faults4) rfl
  exact h
theorem c183 : Pus prog 183 [] (.ag (kinds5.map c8)) := by
  obtain ⟨x, rfl, h⟩ := p183 H.f183 (K := fun x => x = kinds5) rfl
  exact h
theorem c158 {p : Pan} (hp : WfP p) : Pus prog 158 [p.av] (.i .i64 (chkP p)) := by
  obtain ⟨x, rfl, h⟩ := p158 H.f158 (p0 := p) (K := fun x => x = chkP p) (by
    unfold T158_0 T158_1
    refine ⟨fun h => (chkP_no (okP_no4 h)).symm, fun h4 => ?_⟩
    obtain ⟨c, g1, g2⟩ := kinds5_at hp.t.1 h4
    refine ⟨_, c183 H, rfl, hp.t.1, c, g1, fun h => (chkP_no (okP_nok (by rw [← g2]; exact h))).symm, fun h => ?_⟩
    have hk : p.value.kind = kindT p.tag := by rw [← g2]; exact Decidable.not_not.1 h
    unfold T158_2
    refine ⟨fun h0 => ?_, fun h0 => ?_⟩
    · have e := okP_0 h0 hk
      have hk0 : p.value.kind = 0 := by rw [hk, h0]; rfl
      have no : isZ p.value = false → 8 = chkP p := fun h => (chkP_no (by rw [e, h]; rfl)).symm
      have nz : ∀ {q : Prop}, (p.value = vz → q) → ¬q → isZ p.value = false := fun a b => by rw [← Bool.not_eq_true, isZ_true]; exact fun h => b (a h)
      refine ⟨fun h => no (nz (fun e => by rw [e]; rfl) h), fun h1 => ⟨fun h => no (nz (fun e => by rw [e]; rfl) h), fun h2 => ⟨fun h => no (nz (q := ¬((p.value.list.length : Int) > 0)) (fun e => by rw [e]; decide) (fun h' => h' h)), fun h3 => ⟨fun h => no (nz (q := p.value.cut = false) (fun e => by rw [e]; rfl) (by rw [h]; decide)), fun h4 => ?_⟩⟩⟩⟩
      have hz : isZ p.value = true := by
        unfold isZ
        rw [decide_eq_true hk0, decide_eq_true (Decidable.not_not.1 h1), decide_eq_true (Decidable.not_not.1 h2), decide_eq_true (by omega), h4]; rfl
      have fl := flag2 hp.f
      rw [hz, Bool.true_and] at e
      refine ⟨fun h => (chkP_no (by rw [e]; exact decide_eq_false fun h' => h (fl.2 h'))).symm, fun h => (chkP_yes (by rw [e]; exact decide_eq_true (fl.1 (Decidable.not_not.1 h)))).symm⟩
    · have e := okP_n0 h4 h0 hk
      have fl := flag0 hp.f
      unfold T158_3
      refine ⟨fun h => (chkP_no (by rw [e, decide_eq_false (fun h' => h (fl.2 h'))]; rfl)).symm, fun h => ?_⟩
      rw [decide_eq_true (fl.1 (Decidable.not_not.1 h)), Bool.true_and] at e
      have last : (p.tag = 4 → 1 ≤ p.value.int ∧ p.value.int ≤ 3) → T158_4 prog (fun x => x = chkP p) p := fun hh => by
        unfold T158_4
        refine ⟨_, c76 H.toHas38 hp.v, ?_⟩
        rw [decide_eq_true hh, Bool.true_and] at e
        unfold chkR chkP
        rw [e]
      refine ⟨fun h5 => ⟨fun h => (chkP_no (by rw [e, decide_eq_false (fun h' => by have := h' h5; omega)]; rfl)).symm, fun h6 => ⟨fun h => (chkP_no (by rw [e, decide_eq_false (fun h' => by have := h' h5; omega)]; rfl)).symm, fun h7 => last fun _ => by omega⟩⟩, fun h5 => last fun h' => absurd h' h5⟩)
  exact h
theorem c159 {p : Pan} (hp : WfP p) : Pus prog 159 [p.av] (.i .i64 (chkP p)) := by
  obtain ⟨x, rfl, h⟩ := p159 H.f159 (p0 := p) (K := fun x => x = chkP p) (by
    unfold T159_0 T159_1
    refine ⟨_, c77 H.toHas38 hp.v, ?_⟩
    have ef : decide (chkR p.value = 0) = fine p.value := by
      cases h : fine p.value with
      | true => exact decide_eq_true (chk_fine.2 h)
      | false => exact decide_eq_false fun h' => by rw [chk_fine.1 h'] at h; cases h
    rw [ef]
    unfold T159_2 T159_3
    refine ⟨fun h => (chkP_no (okP_no4 h)).symm, fun h4 => ?_⟩
    obtain ⟨c, g1, g2⟩ := kinds5_at hp.t.1 h4
    refine ⟨hp.t.1, c, g1, fun h => (chkP_no (okP_nok (by rw [← g2]; exact h))).symm, fun h => ?_⟩
    have hk : p.value.kind = kindT p.tag := by rw [← g2]; exact Decidable.not_not.1 h
    have t6 : ∀ b : Bool, okP p = b → T159_6 prog (fun x => x = chkP p) b := fun b hb => by
      unfold T159_6
      cases b with
      | true => exact ⟨fun h => (by cases h), fun _ => (chkP_yes hb).symm⟩
      | false => exact ⟨fun _ => (chkP_no hb).symm, fun h => (by cases h)⟩
    have t5 : ∀ b : Bool, (okP p = (b && decide (p.tag = 4 → 1 ≤ p.value.int ∧ p.value.int ≤ 3))) → T159_5 prog (fun x => x = chkP p) b p := fun b hb => by
      unfold T159_5
      refine ⟨fun h => ⟨fun h1 => ⟨fun h2 => t6 _ ?_, fun h2 => t6 _ ?_⟩, fun h1 => t6 _ (by rw [hb, h1]; rfl)⟩, fun h => t6 _ ?_⟩
      · rw [hb, h1, Bool.true_and]; exact decide_eq_decide.2 ⟨fun h3 => (h3 h).2, fun h3 _ => ⟨h2, h3⟩⟩
      · rw [hb, decide_eq_false (fun h3 => h2 (h3 h).1), Bool.and_false]
      · rw [hb, decide_eq_true fun h3 => absurd h3 h, Bool.and_true]
    unfold T159_4
    refine ⟨fun h0 => ?_, fun h0 => ?_⟩
    · have e := okP_0 h0 hk
      have e5 : decide (p.tag = 4 → 1 ≤ p.value.int ∧ p.value.int ≤ 3) = true := decide_eq_true fun h => by omega
      refine ⟨_, c78 H.toHas38 hp.v vz, fun h => ?_, fun h => t5 _ ?_⟩
      · have hz : isZ p.value = true := isZ_true.2 (sameV_true.1 h)
        rw [hz, Bool.true_and] at e
        refine ⟨fun h1 => t5 _ ?_, fun h1 => t5 _ ?_⟩
        · rw [e, e5, decide_eq_true (.inl h1)]; rfl
        · rw [e, e5, Bool.and_true]; exact decide_eq_decide.2 ⟨fun h => h.resolve_left h1, .inr⟩
      · have hz : isZ p.value = false := by rw [← Bool.not_eq_true, isZ_true]; exact sameV_false.1 h
        rw [e, hz]; rfl
    · have e := okP_n0 h4 h0 hk
      refine ⟨fun hf => ?_, fun hf => t5 _ (by rw [e, hf]; simp)⟩
      rw [hf, Bool.and_true] at e
      refine ⟨fun h1 => t5 _ ?_, fun h1 => ⟨fun h2 => t5 _ ?_, fun h2 => ⟨fun h3 => t5 _ ?_, fun h3 => t5 _ ?_⟩⟩⟩
      · rw [e, decide_eq_true (.inl h1)]
      · rw [e, decide_eq_true (.inr (.inl h2))]
      · rw [e, decide_eq_true (.inr (.inr (.inl h3)))]
      · rw [e]; congr 1; exact decide_eq_decide.2 ⟨fun h => by omega, fun h => by omega⟩)
  exact h
omit H in
theorem and1 {f : Int} (h : f = 0 ∨ f = 1 ∨ f = 2 ∨ f = 4 ∨ f = 5 ∨ f = 6) : (bAnd .u64 f 1 ≠ 0 ↔ f % 2 = 1) ∧ (bAnd .u64 f 4 ≠ 0 ↔ 4 ≤ f) ∧ (f.tmod 2 = 1 ↔ f % 2 = 1) := by
  rcases h with rfl | rfl | rfl | rfl | rfl | rfl <;> decide
omit H in
theorem okP_f6 {p : Pan} (h : okP p = true) : p.flags = 0 ∨ p.flags = 1 ∨ p.flags = 2 ∨ p.flags = 4 ∨ p.flags = 5 ∨ p.flags = 6 := by rcases okP_flags h with ⟨_, _, h⟩ | ⟨_, _, h⟩ <;> omega
omit H in
theorem okP_4 {p : Pan} (h : okP p = true) (h4 : p.tag = 4) : 1 ≤ p.value.int ∧ p.value.int ≤ 3 := by
  unfold okP at h
  simp only [Bool.and_eq_true, decide_eq_true_eq] at h
  have h3 := h.2
  rw [if_neg (by omega)] at h3
  simp only [Bool.and_eq_true, decide_eq_true_eq] at h3
  exact h3.1.2 h4
omit H in
theorem shown_steps {p : Pan} {b : Bytes} (hb : b = baseP p) : shown p = (b ++ (if p.flags % 2 = 1 then tRec else [])) ++ (if 4 ≤ p.flags then tAb else []) := by
  rw [hb, shown, sufP, List.append_assoc]
theorem c179 {p : Pan} (hp : WfP p) (ho : okP p = true) : Pus prog 179 [p.av] (.s (shown p)) := by
  obtain ⟨x, rfl, h⟩ := p179 H.f179 (p0 := p) (K := fun x => x = shown p) (by
    have hl := shown_len ho
    obtain ⟨a1, a2, a3⟩ := and1 (okP_f6 ho)
    have t1 : ∀ b, b = baseP p → T179_1 prog (fun x => x = shown p) b p := fun b hb => by
      have e := shown_steps hb
      have hl : b.length ≤ 400 := by rw [e, List.length_append, List.length_append] at hl; omega
      unfold T179_1 T179_2 T179_3
      simp only [List.length_append, List.length_cons, List.length_nil, maxStr_eq]
      refine ⟨fun h1 => ⟨by omega, fun h2 => ⟨by omega, ?_⟩, fun h2 => ?_⟩, fun h1 => ⟨fun h2 => ⟨by omega, ?_⟩, fun h2 => ?_⟩⟩
      · rw [e, if_pos (a3.1 h1), if_pos h2]; rfl
      · rw [e, if_pos (a3.1 h1), if_neg (by omega), List.append_nil]; rfl
      · rw [e, if_neg fun h => h1 (a3.2 h), if_pos h2, List.append_nil]; rfl
      · rw [e, if_neg fun h => h1 (a3.2 h), if_neg (by omega), List.append_nil, List.append_nil]
    unfold T179_0
    refine ⟨fun h4 => ?_, fun h4 => ⟨fun h0 => ?_, fun h0 => ?_⟩⟩
    · obtain ⟨g1, g2⟩ := okP_4 ho h4
      exact ⟨by omega, _, faults4_at g1 g2, t1 _ (by unfold baseP; rw [if_neg (by omega), if_pos h4])⟩
    · have hf : fine p.value = true := by rcases okP_flags ho with h | h; exact absurd h.1 h0; exact h.2.1
      have := fine_len hf
      refine ⟨_, c106 H.toHas38 130 (fine_ok hf).1 hp.v (by omega), ?_, t1 _ (by unfold baseP; rw [if_neg h0, if_neg h4]; rfl)⟩
      simp only [List.length_cons, List.length_nil, maxStr_eq]; omega
    · exact t1 _ (by unfold baseP; rw [if_pos (Decidable.not_not.1 h0)]; rfl))
  exact h
theorem c154 {p : Pan} (hp : WfP p) : Pus prog 154 [p.av] (.tup [.s (lnP p).1, .i .i64 (lnP p).2]) := by
  obtain ⟨x, y, ⟨rfl, rfl⟩, h⟩ := p154 H.f154 (p0 := p) (K := fun x y => x = (lnP p).1 ∧ y = (lnP p).2) (by
    unfold T154_0
    refine ⟨_, c158 H hp, fun h => ?_, fun h => ?_⟩
    · have h1 : okP p ≠ true := fun h' => h (chkP_iff.2 h')
      unfold lnP chkP; rw [if_neg h1, if_neg h1]; exact ⟨rfl, rfl⟩
    · have ho := chkP_iff.1 (Decidable.not_not.1 h)
      have hl := shown_len ho
      obtain ⟨a1, a2, a3⟩ := and1 (okP_f6 ho)
      unfold lnP; rw [if_pos ho]
      have t1 : ∀ b, b = baseP p → T154_1 prog (fun x y => x = (shown p, (0 : Int)).1 ∧ y = (shown p, (0 : Int)).2) b p := fun b hb => by
        have e := shown_steps hb
        have hl : b.length ≤ 400 := by rw [e, List.length_append, List.length_append] at hl; omega
        unfold T154_1 T154_2 T154_3
        simp only [List.length_append, List.length_cons, List.length_nil, maxStr_eq]
        refine ⟨fun h1 => ⟨by omega, fun h2 => ⟨by omega, ?_, trivial⟩, fun h2 => ⟨?_, trivial⟩⟩, fun h1 => ⟨fun h2 => ⟨by omega, ?_, trivial⟩, fun h2 => ⟨?_, trivial⟩⟩⟩
        · rw [e, if_pos (a1.1 h1), if_pos (a2.1 h2)]; rfl
        · rw [e, if_pos (a1.1 h1), if_neg fun h => h2 (a2.2 h), List.append_nil]; rfl
        · rw [e, if_neg fun h => h1 (a1.2 h), if_pos (a2.1 h2), List.append_nil]; rfl
        · rw [e, if_neg fun h => h1 (a1.2 h), if_neg fun h => h2 (a2.2 h), List.append_nil, List.append_nil]
      refine ⟨fun h0 => t1 _ (by unfold baseP; rw [if_pos h0]; rfl), fun h0 => ⟨fun h4 => ?_, fun h4 => ?_⟩⟩
      · obtain ⟨g1, g2⟩ := okP_4 ho h4
        exact ⟨_, c178 H, rfl, by omega, _, faults4_at g1 g2, t1 _ (by unfold baseP; rw [if_neg h0, if_pos h4])⟩
      · have hf : fine p.value = true := by rcases okP_flags ho with h | h; exact absurd h.1 h0; exact h.2.1
        have := fine_len hf
        refine ⟨_, _, c72 H.toHas38 hp.v, fun h => absurd (chk_fine.2 hf) h, fun _ => ?_⟩
        rw [if_pos hf]
        refine ⟨?_, t1 _ (by unfold baseP; rw [if_neg h0, if_neg h4]; rfl)⟩
        simp only [List.length_cons, List.length_nil, maxStr_eq]; omega)
  exact h
end
end Go.AM

/- Parts of the proof. -/
namespace Go.AM
open Go
structure HasP (prog : Prog) : Prop extends HasO prog
section
variable {prog : Prog} (H : HasP prog)
include H
end
end Go.AM

/- Parts of the proof. -/
namespace Go.AM
open Go
structure HasQ (prog : Prog) : Prop extends HasP prog where
  f162 : prog.fn 162 = some pf162
  f163 : prog.fn 163 = some pf163
  f169 : prog.fn 169 = some pf169
def chainR (l : List Pan) : Int := if 410 < l.length then 4 else if l.all okP = true then 0 else 8
def greatC (l : List Pan) : Bool := (decide (20 < l.length) && decide (l.length ≤ 410)) || decide (420 < l.length) || l.any (fun p => greatv p.value)
theorem chain_all {l : List Pan} (h : ¬410 < l.length) (ho : ∀ p ∈ l, okP p = true) : chainR l = 0 := by
  unfold chainR; rw [if_neg h, if_pos (List.all_eq_true.2 ho)]
theorem chain_not {l : List Pan} (h : ¬410 < l.length) {p : Pan} (hp : p ∈ l) (ho : okP p ≠ true) : chainR l = 8 := by
  unfold chainR; rw [if_neg h, if_neg fun h' => ho (List.all_eq_true.1 h' p hp)]
theorem chain_ok {l : List Pan} (h : chainR l = 0) : l.length ≤ 410 ∧ ∀ p ∈ l, okP p = true := by
  unfold chainR at h
  split at h
  · cases h
  · split at h
    · rename_i h1 h2; exact ⟨by omega, List.all_eq_true.1 h2⟩
    · cases h
section
variable {prog : Prog} (H : HasQ prog)
include H
theorem c163 {l : List Pan} (hw : ∀ p ∈ l, WfP p) : Pus prog 163 [.sl .ext (l.map Pan.row)] (.i .i64 (chainR l)) := by
  obtain ⟨x, rfl, h⟩ := p163 H.f163 (l0 := l) (K := fun x => x = chainR l) (by
    unfold T163_0
    refine ⟨fun h => by unfold chainR; rw [if_pos (by omega)], fun h P hP => ?_⟩
    refine loop_inv0 l.length (fun i => ∀ p ∈ l.take i, okP p = true) (by simp) (fun hI => hP _ ?_) fun i hi hI next => hP _ ?_
    · unfold T163_1 T163_2
      rw [List.take_length] at hI
      exact ⟨fun h => absurd h (by omega), fun _ => (chain_all (by omega) hI).symm⟩
    · unfold T163_1
      refine ⟨fun _ => ⟨by omega, _, get_at hi, _, c159 H.toHasO (hw _ (List.getElem_mem hi)), fun h1 => ?_, fun h1 => ?_⟩, fun h => absurd (show (i : Int) < l.length by omega) h⟩
      · have hn : okP l[i] ≠ true := fun h' => h1 (chkP_iff.2 h')
        rw [chain_not (by omega) (List.getElem_mem hi) hn, chkP_no (by simpa using hn)]
      · rw [wr_i64 (by omega) (by omega)]
        refine next fun p hp => ?_
        rw [List.take_succ_eq_append_getElem hi] at hp
        rcases List.mem_append.1 hp with hp | hp
        · exact hI p hp
        · rw [List.mem_singleton.1 hp]; exact chkP_iff.1 (Decidable.not_not.1 h1))
  exact h
theorem c162 {l : List Pan} (hw : ∀ p ∈ l, WfP p) : Pus prog 162 [.sl .ext (l.map Pan.row)] (.b (greatC l)) := by
  obtain ⟨x, rfl, h⟩ := p162 H.f162 (l0 := l) (K := fun x => x = greatC l) (by
    have t1 : (decide (20 < l.length) && decide (l.length ≤ 410)) = false → ¬420 < l.length → T162_1 prog (fun x => x = greatC l) l := fun h1 h2 => by
      unfold T162_1
      intro P hP
      have e : greatC l = l.any (fun p => greatv p.value) := by unfold greatC; rw [h1, decide_eq_false h2]; rfl
      rw [e] at hP
      refine loop_inv0 l.length (fun i => ∀ p ∈ l.take i, greatv p.value = false) (by simp) (fun hI => hP _ ?_) fun i hi hI next => hP _ ?_
      · unfold T162_2 T162_3
        rw [List.take_length] at hI
        exact ⟨fun h => absurd h (by omega), fun _ => (List.any_eq_false.2 fun p hp => by simpa using hI p hp).symm⟩
      · unfold T162_2
        refine ⟨fun _ => ⟨by omega, _, get_at hi, _, c71 H.toHas38 (hw _ (List.getElem_mem hi)).v, fun h1 => (List.any_eq_true.2 ⟨_, List.getElem_mem hi, h1⟩).symm, fun h1 => ?_⟩, fun h => absurd (show (i : Int) < l.length by omega) h⟩
        rw [wr_i64 (by omega) (by omega)]
        refine next fun p hp => ?_
        rw [List.take_succ_eq_append_getElem hi] at hp
        rcases List.mem_append.1 hp with hp | hp
        · exact hI p hp
        · rw [List.mem_singleton.1 hp]; exact h1
    unfold T162_0
    refine ⟨fun h1 => ⟨fun h2 => ?_, fun h2 => ⟨fun h3 => ?_, fun h3 => ?_⟩⟩, fun h1 => ⟨fun h3 => ?_, fun h3 => ?_⟩⟩
    · unfold greatC; rw [decide_eq_true (by omega), decide_eq_true (by omega)]; rfl
    · unfold greatC; rw [decide_eq_true (p := 420 < l.length) (by omega)]; simp
    · exact t1 (by rw [decide_eq_false (p := l.length ≤ 410) (by omega)]; simp) (by omega)
    · omega
    · exact t1 (by rw [decide_eq_false (p := 20 < l.length) (by omega)]; rfl) (by omega))
  exact h
end
section
variable {prog : Prog} (H : HasQ prog)
include H
end
end Go.AM

/- Parts of the proof. -/
namespace Go.AM
open Go
def gFld (s : Fld) : Bool := decide (40 < s.name.length)
def gFun (f : Fun) : Bool := decide (40 < f.name.length) || decide (30 < f.slots.length) || decide (300 < f.code.length) || f.slots.any gFld
def greatI (m : Img) : Bool := (m.funcs.take 41).any gFun || decide (40 < m.funcs.length)
def greatX (x : Frm) : Bool := (x.locals.take 21).any (fun l => greatv l.value) || decide (20 < x.locals.length)
structure OkI (m : Img) : Prop where
  n : m.funcs.length ≤ 40
  f : ∀ f ∈ m.funcs, f.name.length ≤ 40 ∧ f.slots.length ≤ 30 ∧ f.code.length ≤ 300 ∧ ∀ s ∈ f.slots, s.name.length ≤ 40
theorem OkI.of {m : Img} (h : greatI m = false) : OkI m := by
  simp only [greatI, Bool.or_eq_false_iff, decide_eq_false_iff_not] at h
  have hn : m.funcs.length ≤ 40 := by omega
  refine ⟨hn, fun f hf => ?_⟩
  have h1 := h.1
  rw [List.take_of_length_le (by omega), List.any_eq_false] at h1
  have h2 := h1 f hf
  simp only [gFun, Bool.not_eq_true, Bool.or_eq_false_iff, decide_eq_false_iff_not, List.any_eq_false] at h2
  refine ⟨by omega, by omega, by omega, fun s hs => ?_⟩
  simpa [gFld] using h2.2 s hs
structure WfX (x : Frm) : Prop where
  m : 0 ≤ x.mode
  n : x.locals.length ≤ 9223372036854775807
  v : ∀ l ∈ x.locals, Wf l.value
def asc (n : Int) : Int → List Loc → Bool
  | _, [] => true
  | last, l :: r => decide (last < l.slot) && decide (l.slot < n) && fine l.value && asc n l.slot r
def fitF (f : Fun) (x : Frm) : Bool := decide (f.slots.length ≤ 16) && decide (f.name.length ≤ 16) && decide (0 ≤ x.pos) && decide (x.pos < f.code.length) && f.slots.all (fun s => decide (s.name.length ≤ 16)) && asc f.slots.length (-1) x.locals
def fitb (m : Img) (x : Frm) : Bool := decide (0 ≤ x.func) && decide (x.mode ≤ 3) && (match m.funcs[x.func.toNat]? with | none => false | some f => fitF f x)
def fitR (m : Img) (x : Frm) : Int := if fitb m x = true then 0 else 8
def modes4 : List Bytes := [[99, 97, 108, 108], [100, 101, 102, 101, 114], [112, 97, 110, 105, 99], [101, 120, 105, 116]]
def modeW (n : Int) : Bytes := (modes4[n.toNat]?).getD []
def headL (f : Fun) (k : Int) (x : Frm) : Bytes := [35] ++ num k ++ [32] ++ num x.func ++ [32] ++ quo f.name ++ [32, 97, 116, 32] ++ num x.pos ++ [32] ++ modeW x.mode
def slotN (f : Fun) (n : Int) : Bytes := ((f.slots[n.toNat]?).getD Fld.zero).name
def locL (f : Fun) (l : Loc) : Bytes := [32, 32] ++ num l.slot ++ [32] ++ quo (slotN f l.slot) ++ [32, 61, 32] ++ txt l.value
def frmL (m : Img) (k : Int) (x : Frm) : List Bytes := match m.funcs[x.func.toNat]? with
  | none => []
  | some f => headL f k x :: x.locals.map (locL f)
def frR (m : Img) (k : Int) (x : Frm) : List Bytes × Int := if k < 0 ∨ 170 ≤ k then ([], 2) else if fitb m x = true then (frmL m k x, 0) else ([], 8)
theorem fitb_iff {m : Img} {x : Frm} : fitb m x = true ↔ 0 ≤ x.func ∧ x.mode ≤ 3 ∧ ∃ f, m.funcs[x.func.toNat]? = some f ∧ fitF f x = true := by
  unfold fitb
  cases h : m.funcs[x.func.toNat]? with
  | none => simp
  | some f => simp [and_assoc]
theorem fitF_iff {f : Fun} {x : Frm} : fitF f x = true ↔ f.slots.length ≤ 16 ∧ f.name.length ≤ 16 ∧ 0 ≤ x.pos ∧ x.pos < f.code.length ∧ (∀ s ∈ f.slots, s.name.length ≤ 16) ∧ asc f.slots.length (-1) x.locals = true := by
  simp [fitF, and_assoc]
theorem asc_mem {n : Int} : ∀ {l : List Loc} {last : Int}, asc n last l = true → ∀ x ∈ l, last < x.slot ∧ x.slot < n ∧ fine x.value = true
  | [], _, _, x, hx => by cases hx
  | y :: r, last, h, x, hx => by
    simp only [asc, Bool.and_eq_true, decide_eq_true_eq] at h
    obtain ⟨⟨⟨h1, h2⟩, h3⟩, h4⟩ := h
    rcases List.mem_cons.1 hx with rfl | hx
    · exact ⟨h1, h2, h3⟩
    · have := asc_mem h4 x hx
      exact ⟨by omega, this.2⟩
theorem asc_len {n : Int} : ∀ {l : List Loc} {last : Int}, asc n last l = true → l = [] ∨ (l.length : Int) < n - last
  | [], _, _ => .inl rfl
  | y :: r, last, h => by
    simp only [asc, Bool.and_eq_true, decide_eq_true_eq] at h
    obtain ⟨⟨⟨h1, h2⟩, h3⟩, h4⟩ := h
    rcases asc_len h4 with rfl | h5
    · right; simp only [List.length_cons, List.length_nil]; omega
    · right; simp only [List.length_cons]; omega
theorem asc_take {n last : Int} : ∀ (l : List Loc) (i : Nat), asc n last l = true → asc n last (l.take i) = true
  | [], i, h => by rw [List.take_nil]; rfl
  | y :: r, 0, h => rfl
  | y :: r, i + 1, h => by
    simp only [asc, List.take_succ_cons, Bool.and_eq_true] at h ⊢
    exact ⟨h.1, asc_take r i h.2⟩
def lastS (last : Int) : List Loc → Int
  | [] => last
  | l :: r => lastS l.slot r
theorem lastS_snoc : ∀ (l : List Loc) (last : Int) (x : Loc), lastS last (l ++ [x]) = x.slot
  | [], _, _ => rfl
  | y :: r, last, x => lastS_snoc r y.slot x
theorem asc_snoc {n : Int} : ∀ (l : List Loc) (last : Int) (x : Loc), asc n last (l ++ [x]) = (asc n last l && decide (lastS last l < x.slot) && decide (x.slot < n) && fine x.value)
  | [], last, x => by simp [asc, lastS]; rfl
  | y :: r, last, x => by
    simp only [List.cons_append, asc, lastS, asc_snoc r y.slot x]
    simp only [Bool.and_assoc]
    rfl
theorem asc_no {n last : Int} {l : List Loc} {i : Nat} (h : asc n last (l.take i) = false) : asc n last l = false := by
  rw [← Bool.not_eq_true] at h ⊢
  exact fun h' => h (asc_take l i h')
def idxOf (v : Bytes) : List Bytes → Int
  | [] => -1
  | x :: r => if v = x then 0 else if idxOf v r = -1 then -1 else 1 + idxOf v r
def nameAt (m : Img) (n : Int) : Bytes := ((m.funcs[n.toNat]?).getD Fun.zero).name
abbrev fz : Frm := ⟨0, 0, 0, []⟩
theorem idxOf_rng (v : Bytes) : ∀ l : List Bytes, -1 ≤ idxOf v l ∧ idxOf v l < l.length
  | [] => ⟨Int.le_refl _, by show (-1 : Int) < 0; decide⟩
  | x :: r => by
    have := idxOf_rng v r
    rw [idxOf, List.length_cons]
    repeat' split
    all_goals omega
end Go.AM

/- Parts of the proof. -/
namespace Go.AM
open Go
structure HasF (prog : Prog) : Prop extends Has38 prog where
  f79 : prog.fn 79 = some pf79
  f80 : prog.fn 80 = some pf80
  f82 : prog.fn 82 = some pf82
  f86 : prog.fn 86 = some pf86
  f87 : prog.fn 87 = some pf87
  f111 : prog.fn 111 = some pf111
  f112 : prog.fn 112 = some pf112
  f113 : prog.fn 113 = some pf113
  f114 : prog.fn 114 = some pf114
  f122 : prog.fn 122 = some pf122
  f123 : prog.fn 123 = some pf123
  f137 : prog.fn 137 = some pf137
  f138 : prog.fn 138 = some pf138
  f141 : prog.fn 141 = some pf141
  f144 : prog.fn 144 = some pf144
def idxP {α : Type} (p : α → Bool) : List α → Int
  | [] => -1
  | x :: r => if p x = true then 0 else if idxP p r = -1 then -1 else 1 + idxP p r
theorem idxP_any {α : Type} (p : α → Bool) : ∀ l : List α, -1 ≤ idxP p l ∧ (0 ≤ idxP p l ↔ l.any p = true)
  | [] => by simp [idxP]
  | x :: r => by
    have := idxP_any p r
    rw [idxP, List.any_cons]
    cases p x
    · simp only [Bool.false_eq_true, if_false, Bool.false_or]
      split
      · exact ⟨by omega, fun h => absurd h (by decide), fun h => absurd (this.2.2 h) (by omega)⟩
      · exact ⟨by omega, fun _ => this.2.1 (by omega), fun h => by have := this.2.2 h; omega⟩
    · simp
theorem loop_idx {α : Type} {P : Int → Prop} {Q : Int → Prop} (p : α → Bool) (l : List α) (h1 : Q (-1) → P (l.length : Int)) (h2 : ∀ (i : Nat) (hi : i < l.length), p l[i] = true → Q (i : Int) → P (i : Int)) (h3 : ∀ (i : Nat) (hi : i < l.length), p l[i] = false → P ((i + 1 : Nat) : Int) → P (i : Int)) (hQ : Q (idxP p l)) : P 0 := by
  have key : ∀ m i : Nat, i + m = l.length → Q (if idxP p (l.drop i) = -1 then -1 else i + idxP p (l.drop i)) → P (i : Int) := by
    intro m
    induction m with
    | zero =>
      intro i hi hq
      have : l.drop i = [] := List.drop_eq_nil_of_le (by omega)
      rw [this] at hq
      simp only [Nat.add_zero] at hi
      subst hi
      exact h1 (by simpa [idxP] using hq)
    | succ m ih =>
      intro i hi hq
      have hil : i < l.length := by omega
      rw [List.drop_eq_getElem_cons hil, idxP] at hq
      have hb := (idxP_any p (l.drop (i + 1))).1
      cases hp : p l[i] with
      | true =>
        refine h2 i hil hp ?_
        rw [hp] at hq
        simpa using hq
      | false =>
        refine h3 i hil hp (ih (i + 1) (by omega) ?_)
        rw [hp] at hq
        simp only [Bool.false_eq_true, if_false] at hq
        by_cases hn : idxP p (l.drop (i + 1)) = -1
        · rw [if_pos hn] at hq ⊢
          simpa using hq
        · rw [if_neg hn] at hq ⊢
          rw [if_neg (by omega)] at hq
          rw [show ((i + 1 : Nat) : Int) + idxP p (l.drop (i + 1)) = (i : Int) + (1 + idxP p (l.drop (i + 1))) by omega]
          exact hq
  refine key l.length 0 (by omega) ?_
  rw [List.drop_zero]
  split
  · rename_i h; rw [h] at hQ; exact hQ
  · simpa using hQ
theorem idxOf_P (v : Bytes) : ∀ l : List Bytes, idxOf v l = idxP (fun x => decide (v = x)) l
  | [] => rfl
  | x :: r => by rw [idxOf, idxP, idxOf_P v r]; simp
theorem modes4_get {n : Int} (h0 : 0 ≤ n) (h1 : n ≤ 3) : modes4[n.toNat]? = some (modeW n) := by
  have : n = 0 ∨ n = 1 ∨ n = 2 ∨ n = 3 := by omega
  rcases this with rfl | rfl | rfl | rfl <;> rfl
theorem modeW_len {n : Int} (h0 : 0 ≤ n) (h1 : n ≤ 3) : (modeW n).length ≤ 5 := by
  have : n = 0 ∨ n = 1 ∨ n = 2 ∨ n = 3 := by omega
  rcases this with rfl | rfl | rfl | rfl <;> decide
section
variable {prog : Prog} (H : HasF prog)
include H
theorem c111 {n : Int} (h1 : -9223372036854775808 ≤ n) (h2 : n < 9223372036854775808) : Pus prog 111 [.i .i64 n] (.s (num n)) := by
  obtain ⟨x, rfl, h⟩ := p111 H.f111 (n0 := n) (K := fun x => x = num n) (by
    unfold T111_0
    exact ⟨_, c15 H.toHas03 h1 h2, rfl⟩)
  exact h
theorem c137 {n : Int} (h1 : -9223372036854775808 ≤ n) (h2 : n < 9223372036854775808) : Pus prog 137 [.i .i64 n] (.s (num n)) := by
  obtain ⟨x, rfl, h⟩ := p137 H.f137 (n0 := n) (K := fun x => x = num n) (by
    unfold T137_0
    exact ⟨_, c16 H.toHas03 h1 h2, rfl⟩)
  exact h
theorem c112 {s : Bytes} (hs : s.length ≤ 400) : Pus prog 112 [.s s] (.s (quo s)) := by
  obtain ⟨x, rfl, h⟩ := p112 H.f112 (s0 := s) (K := fun x => x = quo s) (by
    unfold T112_0
    refine ⟨_, _, c11 H.toHas03 s, ?_⟩
    rw [quoR_ok hs])
  exact h
theorem c113 : Pus prog 113 [] (.ag (modes4.map AV.s)) := by
  obtain ⟨x, rfl, h⟩ := p113 H.f113 (K := fun x => x = modes4) (by unfold T113_0; rfl)
  exact h
theorem c138 {n : Int} (h0 : 0 ≤ n) (h1 : n ≤ 3) : Pus prog 138 [.i .u64 n] (.s (modeW n)) := by
  obtain ⟨x, rfl, h⟩ := p138 H.f138 (m0 := n) (K := fun x => x = modeW n) (by
    unfold T138_0
    exact ⟨h0, _, modes4_get h0 h1, rfl⟩)
  exact h
theorem c123 (s : Fld) : PuN prog 123 [s.av] (fun r => r = .b (decide (16 < s.name.length))) := by
  refine (p123 H.f123 (s0 := s) (K := fun x => x = decide (16 < s.name.length)) ?_).to ?_
  · unfold T123_0
    exact decide_eq_decide.2 (by omega)
  · rintro r ⟨x, rfl, rfl⟩; rfl
theorem c144 {l : List Fld} {f : Nat × List AV} {p : Fld → Bool} (hl : l.length ≤ 9223372036854775807) (hf : ∀ x ∈ l, PuN prog f.1 ([x.av] ++ f.2) (fun r => r = .b (p x))) (o : Own) : PuN prog 144 [.sl o (l.map Fld.row), .fn f.1 f.2] (fun r => r = .i .i64 (idxP p l)) := by
  refine (p144 H.f144 (s0 := l) (f1 := f) (K := fun x => x = idxP p l) ?_ o).to ?_
  · unfold T144_0
    intro P hP
    refine loop_idx (Q := fun x => x = idxP p l) p l (fun h => hP _ ?_) (fun i hi hp hq => hP _ ?_) (fun i hi hp ih => hP _ ?_) rfl
    · unfold T144_1 T144_2
      exact ⟨fun h' => absurd h' (by omega), fun _ => h⟩
    · unfold T144_1
      refine ⟨fun _ => ⟨by omega, _, get_at hi, _, hf _ (List.getElem_mem hi), fun _ => hq, fun h' => ?_⟩, fun h' => absurd h' (by omega)⟩
      rw [hp] at h'; cases h'
    · unfold T144_1
      refine ⟨fun _ => ⟨by omega, _, get_at hi, _, hf _ (List.getElem_mem hi), fun h' => ?_, fun _ => ?_⟩, fun h' => absurd h' (by omega)⟩
      · rw [hp] at h'; cases h'
      · rw [wr_i64 (by omega) (by omega)]; exact ih
  · rintro r ⟨x, rfl, rfl⟩; rfl
theorem c122 {l : List Fld} {f : Nat × List AV} {p : Fld → Bool} (hl : l.length ≤ 9223372036854775807) (hf : ∀ x ∈ l, PuN prog f.1 ([x.av] ++ f.2) (fun r => r = .b (p x))) (o : Own) : PuN prog 122 [.sl o (l.map Fld.row), .fn f.1 f.2] (fun r => r = .b (l.any p)) := by
  refine (p122 H.f122 (s0 := l) (f1 := f) (K := fun x => x = l.any p) ?_ o).to ?_
  · unfold T122_0
    refine ⟨_, fun o => c144 H hl hf o, ?_⟩
    have := (idxP_any p l).2
    cases h : l.any p
    · exact decide_eq_false (by rw [h] at this; intro h'; exact absurd (this.1 h') (by decide))
    · exact decide_eq_true (this.2 h)
  · rintro r ⟨x, rfl, rfl⟩; rfl
theorem c141 {l : List Bytes} (hl : l.length ≤ 1000000) (v : Bytes) : Pus prog 141 [.sl .ext (l.map rowS), .s v] (.i .i64 (idxOf v l)) := by
  obtain ⟨x, rfl, h⟩ := p141 H.f141 (s0 := l) (v1 := v) (K := fun x => x = idxOf v l) (by
    unfold T141_0
    intro P hP
    refine loop_idx (Q := fun x => x = idxOf v l) (fun x => decide (v = x)) l (fun h => hP _ ?_) (fun i hi hp hq => hP _ ?_) (fun i hi hp ih => hP _ ?_) (idxOf_P v l).symm
    · unfold T141_1 T141_2
      exact ⟨fun h' => absurd h' (by omega), fun _ => h⟩
    · unfold T141_1
      exact ⟨fun _ => ⟨by omega, _, get_at hi, fun _ => hq, fun h' => absurd (by simpa using hp) h'⟩, fun h' => absurd h' (by omega)⟩
    · unfold T141_1
      refine ⟨fun _ => ⟨by omega, _, get_at hi, fun h' => absurd h' (by simpa using hp), fun _ => ?_⟩, fun h' => absurd h' (by omega)⟩
      rw [wr_i64 (by omega) (by omega)]; exact ih)
  exact h
end
end Go.AM

/- Parts of the proof. -/
namespace Go.AM
open Go
theorem fitR_no {m : Img} {x : Frm} (h : fitb m x ≠ true) : (8 : Int) = fitR m x := by unfold fitR; rw [if_neg h]
theorem fitR_yes {m : Img} {x : Frm} (h : fitb m x = true) : (0 : Int) = fitR m x := by unfold fitR; rw [if_pos h]
theorem fun_at {m : Img} {n : Int} (h0 : 0 ≤ n) (h1 : n < m.funcs.length) : ∃ f, m.funcs[n.toNat]? = some f ∧ f ∈ m.funcs := by
  have h : n.toNat < m.funcs.length := by omega
  exact ⟨m.funcs[n.toNat], List.getElem?_eq_getElem h, List.getElem_mem h⟩
theorem asc_go {n : Int} {l : List Loc} {i : Nat} (hi : i < l.length) : asc n (-1) (l.take (i + 1)) = (asc n (-1) (l.take i) && decide (lastS (-1) (l.take i) < l[i].slot) && decide (l[i].slot < n) && fine l[i].value) := by
  rw [List.take_succ_eq_append_getElem hi, asc_snoc]
section
variable {prog : Prog} (H : HasF prog)
include H
theorem c86 {m : Img} {x : Frm} (hm : OkI m) (hx : WfX x) : Pus prog 86 [m.av, x.av] (.i .i64 (fitR m x)) := by
  obtain ⟨y, rfl, h⟩ := p86 H.f86 (m0 := m) (x1 := x) (K := fun y => y = fitR m x) (by
    unfold T86_0 T86_1
    have no : ¬(0 ≤ x.func ∧ x.mode ≤ 3 ∧ ∃ f, m.funcs[x.func.toNat]? = some f ∧ fitF f x = true) → (8 : Int) = fitR m x := fun h => fitR_no fun h' => h (fitb_iff.1 h')
    refine ⟨fun h => no (by omega), fun h0 => ⟨fun h => no ?_, fun h1 => ⟨fun h => no (by omega), fun h2 => ?_⟩⟩⟩
    · rintro ⟨_, _, f, hf, _⟩
      rw [List.getElem?_eq_none (by omega)] at hf
      cases hf
    obtain ⟨f, hf, hmem⟩ := fun_at (m := m) (n := x.func) (by omega) (by omega)
    obtain ⟨q1, q2, q3, q4⟩ := hm.f f hmem
    have no : fitF f x ≠ true → (8 : Int) = fitR m x := fun h => no (by
      rintro ⟨_, _, g, hg, h'⟩
      rw [hf] at hg
      cases hg
      exact h h')
    have no : ¬(f.slots.length ≤ 16 ∧ f.name.length ≤ 16 ∧ 0 ≤ x.pos ∧ x.pos < f.code.length ∧ (∀ s ∈ f.slots, s.name.length ≤ 16) ∧ asc f.slots.length (-1) x.locals = true) → (8 : Int) = fitR m x := fun h => no fun h' => h (fitF_iff.1 h')
    unfold T86_2 T86_3
    refine ⟨by omega, f, hf, fun h => no (by omega), fun k1 => ⟨fun h => no (by omega), fun k2 => ⟨fun h => no (by omega), fun k3 => ⟨fun h => no (by omega), fun k4 => ⟨_, fun o => c122 H (l := f.slots) (f := (123, [])) (p := fun s => decide (16 < s.name.length)) (by omega) (fun s _ => c123 H s) o, fun h => no ?_, fun h => ?_⟩⟩⟩⟩⟩
    · rintro ⟨_, _, _, _, h', _⟩
      rw [List.any_eq_true] at h
      obtain ⟨s, hs, h3⟩ := h
      have := h' s hs
      simp only [decide_eq_true_eq] at h3
      omega
    have hs : ∀ s ∈ f.slots, s.name.length ≤ 16 := by
      intro s hs
      rw [List.any_eq_false] at h
      simpa using h s hs
    have no : asc f.slots.length (-1) x.locals ≠ true → (8 : Int) = fitR m x := fun h => no (by rintro ⟨_, _, _, _, _, h'⟩; exact h h')
    unfold T86_4
    intro P hP
    have hn := hx.n
    have go : ∀ k i : Nat, i + k = x.locals.length → asc f.slots.length (-1) (x.locals.take i) = true → P (lastS (-1) (x.locals.take i)) (i : Int) f := by
      intro k
      induction k with
      | zero =>
        intro i hi ha
        apply hP
        unfold T86_5 T86_6
        refine ⟨fun h => absurd h (by omega), fun _ => fitR_yes ?_⟩
        rw [List.take_of_length_le (by omega)] at ha
        exact fitb_iff.2 ⟨by omega, by omega, f, hf, fitF_iff.2 ⟨by omega, by omega, by omega, by omega, hs, ha⟩⟩
      | succ k ih =>
        intro i hi ha
        have hil : i < x.locals.length := by omega
        have e := asc_go (n := f.slots.length) hil
        have no : asc f.slots.length (-1) (x.locals.take (i + 1)) = false → (8 : Int) = fitR m x := fun h => no (by rw [asc_no h]; decide)
        rw [ha, Bool.true_and] at e
        apply hP
        unfold T86_5
        refine ⟨fun _ => ⟨by omega, _, get_at hil, fun h => no ?_, fun h3 => ⟨fun h => no ?_, fun h4 => ⟨_, c76 H.toHas38 (hx.v _ (List.getElem_mem hil)), fun h => no ?_, fun h5 => ?_⟩⟩⟩, fun h => absurd (show (i : Int) < x.locals.length by omega) h⟩
        · rw [e, decide_eq_false (by omega)]; rfl
        · rw [e, decide_eq_false (p := x.locals[i].slot < _) (by omega)]; simp
        · rw [e, show fine x.locals[i].value = false by rw [← Bool.not_eq_true]; exact fun h' => h (chk_fine.2 h')]; simp
        · rw [wr_i64 (by omega) (by omega)]
          have h6 := chk_fine.1 (Decidable.not_not.1 h5)
          have := ih (i + 1) (by omega) (by rw [e, h6, decide_eq_true (by omega), decide_eq_true (by omega)]; rfl)
          rw [List.take_succ_eq_append_getElem hil, lastS_snoc] at this
          exact this
    exact go x.locals.length 0 (by omega) rfl)
  exact h
theorem c87 {m : Img} {x : Frm} (hm : OkI m) (hx : WfX x) : Pus prog 87 [m.av, x.av] (.i .i64 (fitR m x)) := by
  obtain ⟨y, rfl, h⟩ := p87 H.f87 (m0 := m) (x1 := x) (K := fun y => y = fitR m x) (by
    unfold T87_0 T87_1
    have no : ¬(0 ≤ x.func ∧ x.mode ≤ 3 ∧ ∃ f, m.funcs[x.func.toNat]? = some f ∧ fitF f x = true) → (8 : Int) = fitR m x := fun h => fitR_no fun h' => h (fitb_iff.1 h')
    refine ⟨fun h => no (by omega), fun h0 => ⟨fun h => no ?_, fun h1 => ⟨fun h => no (by omega), fun h2 => ?_⟩⟩⟩
    · rintro ⟨_, _, f, hf, _⟩
      rw [List.getElem?_eq_none (by omega)] at hf
      cases hf
    obtain ⟨f, hf, hmem⟩ := fun_at (m := m) (n := x.func) (by omega) (by omega)
    obtain ⟨q1, q2, q3, q4⟩ := hm.f f hmem
    have no : fitF f x ≠ true → (8 : Int) = fitR m x := fun h => no (by
      rintro ⟨_, _, g, hg, h'⟩
      rw [hf] at hg
      cases hg
      exact h h')
    have no : ¬(f.slots.length ≤ 16 ∧ f.name.length ≤ 16 ∧ 0 ≤ x.pos ∧ x.pos < f.code.length ∧ (∀ s ∈ f.slots, s.name.length ≤ 16) ∧ asc f.slots.length (-1) x.locals = true) → (8 : Int) = fitR m x := fun h => no fun h' => h (fitF_iff.1 h')
    unfold T87_2 T87_3
    refine ⟨by omega, f, hf, fun h => no (by omega), fun k1 => ⟨fun h => no (by omega), fun k2 => ⟨fun h => no (by omega), fun k3 => ⟨fun h => no (by omega), fun k4 => ?_⟩⟩⟩⟩
    unfold T87_4
    intro P0 hP0
    refine loop_inv0 (P := fun i => P0 i x f) f.slots.length (fun i => ∀ s ∈ f.slots.take i, s.name.length ≤ 16) (by simp) (fun hs => hP0 _ _ _ ?_) fun i hi hI ihP => hP0 _ _ _ ?_
    · rw [List.take_length] at hs
      have no : asc f.slots.length (-1) x.locals ≠ true → (8 : Int) = fitR m x := fun h => no (by rintro ⟨_, _, _, _, _, h'⟩; exact h h')
      unfold T87_5
      refine ⟨fun h => absurd h (by omega), fun _ => ?_⟩
      unfold T87_6
      intro P hP
      have hn := hx.n
      have go : ∀ k i : Nat, i + k = x.locals.length → asc f.slots.length (-1) (x.locals.take i) = true → P (i : Int) x f := by
        intro k
        induction k with
        | zero =>
          intro i hi ha
          apply hP
          unfold T87_7 T87_8
          refine ⟨fun h => absurd h (by omega), fun _ => fitR_yes ?_⟩
          rw [List.take_of_length_le (by omega)] at ha
          exact fitb_iff.2 ⟨by omega, by omega, f, hf, fitF_iff.2 ⟨by omega, by omega, by omega, by omega, hs, ha⟩⟩
        | succ k ih =>
          intro i hi ha
          have hil : i < x.locals.length := by omega
          have e := asc_go (n := f.slots.length) hil
          have no : asc f.slots.length (-1) (x.locals.take (i + 1)) = false → (8 : Int) = fitR m x := fun h => no (by rw [asc_no h]; decide)
          rw [ha, Bool.true_and] at e
          have last : 0 < i → ∃ y : Loc, x.locals[i - 1]? = some y ∧ lastS (-1) (x.locals.take i) = y.slot := by
            intro h0
            have h1 : i - 1 < x.locals.length := by omega
            refine ⟨x.locals[i - 1], List.getElem?_eq_getElem h1, ?_⟩
            have := List.take_succ_eq_append_getElem h1
            rw [show i - 1 + 1 = i by omega] at this
            rw [this, lastS_snoc]
          have fin : (lastS (-1) (x.locals.take i) < x.locals[i].slot) → x.locals[i].slot < f.slots.length → ∃ r : Int, Pus prog 77 [x.locals[i].value.av] (.i .i64 r) ∧ (r ≠ 0 → (8 : Int) = fitR m x) ∧ (¬(r ≠ 0) → P (IntKind.i64.wrap ((i : Int) + 1)) x f) := by
            intro h3 h4
            refine ⟨_, c77 H.toHas38 (hx.v _ (List.getElem_mem hil)), fun h => no ?_, fun h5 => ?_⟩
            · rw [e, show fine x.locals[i].value = false by rw [← Bool.not_eq_true]; exact fun h' => h (chk_fine.2 h')]; simp
            · rw [wr_i64 (by omega) (by omega)]
              have h6 := chk_fine.1 (Decidable.not_not.1 h5)
              exact ih (i + 1) (by omega) (by rw [e, h6, decide_eq_true h3, decide_eq_true h4]; rfl)
          have low : 0 < i → 0 ≤ lastS (-1) (x.locals.take i) := by
            intro h0
            obtain ⟨y, h1, h2⟩ := last h0
            rw [h2]
            have h3 := asc_mem ha y (by
              rw [List.mem_take_iff_getElem]
              obtain ⟨h4, h5⟩ := List.getElem?_eq_some_iff.1 h1
              exact ⟨i - 1, by omega, h5⟩)
            omega
          apply hP
          unfold T87_7
          refine ⟨fun _ => ⟨by omega, _, get_at hil, fun h => no ?_, fun h3 => ⟨fun h => no ?_, fun h4 => ⟨fun h5 => ?_, fun h5 => fin ?_ (by omega)⟩⟩⟩, fun h => absurd (show (i : Int) < x.locals.length by omega) h⟩
          · rw [e, decide_eq_false ?_]; · rfl
            by_cases h0 : 0 < i
            · have := low h0; omega
            · have : i = 0 := by omega
              subst this
              show ¬((-1 : Int) < _)
              omega
          · rw [e, decide_eq_false (p := x.locals[i].slot < _) (by omega)]; simp
          · obtain ⟨y, h6, h7⟩ := last (by omega)
            have hw : IntKind.i64.wrap ((i : Int) - 1) = ((i - 1 : Nat) : Int) := by rw [wr_i64 (by omega) (by omega)]; omega
            rw [hw]
            refine ⟨by omega, y, by rw [toNat_cast]; exact h6, fun h => no ?_, fun h => fin (by omega) (by omega)⟩
            rw [e, decide_eq_false (by omega)]; rfl
          · have : i = 0 := by omega
            subst this
            show (-1 : Int) < _
            omega
      exact go x.locals.length 0 (by omega) rfl
    · unfold T87_5
      refine ⟨fun _ => ⟨by omega, _, get_at hi, fun h => no ?_, fun h => ?_⟩, fun h => absurd (show (i : Int) < f.slots.length by omega) h⟩
      · rintro ⟨_, _, _, _, h', _⟩
        have := h' _ (List.getElem_mem hi)
        omega
      · rw [wr_i64 (by omega) (by omega)]
        refine ihP fun s hs => ?_
        rw [List.take_succ_eq_append_getElem hi] at hs
        rcases List.mem_append.1 hs with hs | hs
        · exact hI s hs
        · rw [List.mem_singleton.1 hs]; omega)
  exact h
end
end Go.AM

/- Parts of the proof. -/
namespace Go.AM
open Go
theorem slot_at {f : Fun} {n : Int} (h0 : 0 ≤ n) (h1 : n < f.slots.length) : ∃ s, f.slots[n.toNat]? = some s ∧ s ∈ f.slots ∧ slotN f n = s.name := by
  have h : n.toNat < f.slots.length := by omega
  refine ⟨f.slots[n.toNat], List.getElem?_eq_getElem h, List.getElem_mem h, ?_⟩
  unfold slotN
  rw [List.getElem?_eq_getElem h]
  rfl
theorem map_take_snoc {α β : Type} (g : α → β) {l : List α} {i : Nat} (h : i < l.length) : (l.take (i + 1)).map g = (l.take i).map g ++ [g l[i]] := by
  rw [List.take_succ_eq_append_getElem h, List.map_append]
  rfl
theorem frmL_eq {m : Img} {x : Frm} {f : Fun} (h : m.funcs[x.func.toNat]? = some f) (k : Int) : frmL m k x = headL f k x :: x.locals.map (locL f) := by
  unfold frmL
  rw [h]
theorem frR_bad {m : Img} {k : Int} {x : Frm} (h : k < 0 ∨ 170 ≤ k) : frR m k x = ([], 2) := by unfold frR; rw [if_pos h]
theorem frR_no {m : Img} {k : Int} {x : Frm} (h : ¬(k < 0 ∨ 170 ≤ k)) (h1 : fitb m x ≠ true) : frR m k x = ([], 8) := by unfold frR; rw [if_neg h, if_neg h1]
theorem frR_yes {m : Img} {k : Int} {x : Frm} (h : ¬(k < 0 ∨ 170 ≤ k)) (h1 : fitb m x = true) : frR m k x = (frmL m k x, 0) := by unfold frR; rw [if_neg h, if_pos h1]
section
variable {prog : Prog} (H : HasF prog)
include H
theorem c82 {m : Img} {k : Int} {x : Frm} (hm : OkI m) (hx : WfX x) : Pus prog 82 [m.av, .i .i64 k, x.av] (.tup [.sl .ext ((frR m k x).1.map rowS), .i .i64 (frR m k x).2]) := by
  obtain ⟨y, z, ⟨rfl, rfl⟩, h⟩ := p82 H.f82 (m0 := m) (k1 := k) (x2 := x) (K := fun y z => y = (frR m k x).1 ∧ z = (frR m k x).2) (by
    unfold T82_0 T82_1
    refine ⟨fun h => by rw [frR_bad (.inl h)]; exact ⟨rfl, rfl⟩, fun h0 => ⟨fun h => by rw [frR_bad (.inr h)]; exact ⟨rfl, rfl⟩, fun h1 => ?_⟩⟩
    unfold T82_2
    refine ⟨_, c86 H hm hx, fun h => ?_, fun h => ?_⟩
    · by_cases hb : fitb m x = true
      · rw [← fitR_yes hb] at h; exact absurd rfl h
      · rw [frR_no (by omega) hb, ← fitR_no hb]; exact ⟨rfl, rfl⟩
    have hb : fitb m x = true := by
      by_cases hb : fitb m x = true
      · exact hb
      · rw [← fitR_no hb] at h; exact absurd (by decide) h
    rw [frR_yes (by omega) hb]
    obtain ⟨f0, f1, f, hf, hF⟩ := fitb_iff.1 hb
    obtain ⟨g1, g2, g3, g4, g5, g6⟩ := fitF_iff.1 hF
    have hmem := List.mem_of_getElem? hf
    obtain ⟨q1, q2, q3, q4⟩ := hm.f f hmem
    have hn := hm.n
    have hfl : x.func < m.funcs.length := by
      have := (List.getElem?_eq_some_iff.1 hf).1
      omega
    have l1 := num_len k
    have l2 := num_len x.func
    have l3 := num_len x.pos
    have l4 := quo_len f.name
    have l5 := modeW_len hx.m f1
    rw [frmL_eq hf]
    unfold T82_3
    refine ⟨f0, f, hf, ?_⟩
    unfold T82_4
    refine ⟨_, c111 H (by omega) (by omega), ?_, ?_, _, c111 H (by omega) (by omega), ?_, ?_, _, c112 H (by omega), ?_, ?_, _, c111 H (by omega) (by omega), ?_, ?_, _, c113 H, rfl, hx.m, _, modes4_get hx.m f1, ?_, fun P hP => ?_⟩
    all_goals try (rw [maxStr_eq]; simp only [List.length_append, List.length_cons, List.length_nil]; omega)
    have len := asc_len g6
    have hn2 : x.locals.length ≤ 16 := by
      rcases len with h | h
      · rw [h]; exact Nat.zero_le _
      · omega
    refine loop_up (P := fun o i => P o i f) (fun i => headL f k x :: (x.locals.take i).map (locL f)) x.locals.length (hP _ _ _ ?_) fun i hi ih => hP _ _ _ ?_
    · unfold T82_5 T82_6
      rw [List.take_length]
      exact ⟨fun h => absurd h (by omega), fun _ => ⟨rfl, rfl⟩⟩
    · obtain ⟨a1, a2, a3⟩ := asc_mem g6 _ (List.getElem_mem hi)
      obtain ⟨s, b1, b2, b3⟩ := slot_at (f := f) (n := x.locals[i].slot) (by omega) (by omega)
      have c1 := num_len x.locals[i].slot
      have c2 := quo_len s.name
      have c3 := q4 s b2
      have c4 := fine_len a3
      unfold T82_5
      refine ⟨fun _ => ⟨by omega, _, get_at hi, _, _, c72 H.toHas38 (hx.v _ (List.getElem_mem hi)), fun h => absurd (chk_fine.2 a3) h, fun _ => ?_⟩, fun h => absurd (show (i : Int) < x.locals.length by omega) h⟩
      rw [if_pos a3]
      refine ⟨_, c111 H (by omega) (by omega), ?_, ?_, by omega, s, b1, _, c112 H (by omega), ?_, ?_, ?_, ⟨?_, ?_⟩, ?_⟩
      all_goals try (rw [maxStr_eq]; simp only [List.length_append, List.length_cons, List.length_nil]; omega)
      all_goals try (rw [maxBytes_eq]; simp only [List.length_append, List.length_cons, List.length_nil, List.length_map, List.length_take]; omega)
      rw [wr_i64 (by omega) (by omega)]
      rw [map_take_snoc (locL f) hi] at ih
      unfold locL at ih ⊢
      rw [b3] at ih
      exact ih)
  exact h
theorem c114 {m : Img} {k : Int} {x : Frm} (hm : OkI m) (hx : WfX x) (hk : 0 ≤ k ∧ k < 170) (hb : fitb m x = true) : Pus prog 114 [m.av, .i .i64 k, x.av] (.sl .ext ((frmL m k x).map rowS)) := by
  obtain ⟨y, rfl, h⟩ := p114 H.f114 (m0 := m) (k1 := k) (x2 := x) (K := fun y => y = frmL m k x) (by
    obtain ⟨f0, f1, f, hf, hF⟩ := fitb_iff.1 hb
    obtain ⟨g1, g2, g3, g4, g5, g6⟩ := fitF_iff.1 hF
    have hmem := List.mem_of_getElem? hf
    obtain ⟨q1, q2, q3, q4⟩ := hm.f f hmem
    have hn := hm.n
    have hfl : x.func < m.funcs.length := by
      have := (List.getElem?_eq_some_iff.1 hf).1
      omega
    have l1 := num_len k
    have l2 := num_len x.func
    have l3 := num_len x.pos
    have l4 := quo_len f.name
    have l5 := modeW_len hx.m f1
    rw [frmL_eq hf]
    unfold T114_0 T114_1
    refine ⟨f0, f, hf, ?_⟩
    unfold T114_2
    refine ⟨_, c137 H (by omega) (by omega), ?_, ?_, _, c137 H (by omega) (by omega), ?_, ?_, _, c31 H.toHas03 (by omega), ?_, ?_, _, c137 H (by omega) (by omega), ?_, ?_, _, c138 H hx.m f1, ?_, fun P hP => ?_⟩
    all_goals try (rw [maxStr_eq]; simp only [List.length_append, List.length_cons, List.length_nil]; omega)
    have len := asc_len g6
    have hn2 : x.locals.length ≤ 16 := by
      rcases len with h | h
      · rw [h]; exact Nat.zero_le _
      · omega
    refine loop_up (P := fun o i => P o i x f) (fun i => headL f k x :: (x.locals.take i).map (locL f)) x.locals.length (hP _ _ _ _ ?_) fun i hi ih => hP _ _ _ _ ?_
    · unfold T114_3 T114_4
      rw [List.take_length]
      exact ⟨fun h => absurd h (by omega), fun _ => rfl⟩
    · obtain ⟨a1, a2, a3⟩ := asc_mem g6 _ (List.getElem_mem hi)
      obtain ⟨s, b1, b2, b3⟩ := slot_at (f := f) (n := x.locals[i].slot) (by omega) (by omega)
      have c1 := num_len x.locals[i].slot
      have c2 := quo_len s.name
      have c3 := q4 s b2
      have c4 := fine_len a3
      unfold T114_3
      refine ⟨fun _ => ⟨by omega, _, get_at hi, _, c137 H (by omega) (by omega), ?_, ?_, by omega, s, b1, _, c31 H.toHas03 (by omega), ?_, ?_, _, c106 H.toHas38 130 (fine_ok a3).1 (hx.v _ (List.getElem_mem hi)) (by omega), ?_, ⟨?_, ?_⟩, ?_⟩, fun h => absurd (show (i : Int) < x.locals.length by omega) h⟩
      all_goals try (rw [maxStr_eq]; simp only [List.length_append, List.length_cons, List.length_nil]; omega)
      all_goals try (rw [maxBytes_eq]; simp only [List.length_append, List.length_cons, List.length_nil, List.length_map, List.length_take]; omega)
      rw [wr_i64 (by omega) (by omega)]
      rw [map_take_snoc (locL f) hi] at ih
      unfold locL at ih ⊢
      rw [b3] at ih
      exact ih)
  exact h
theorem c79 {m : Img} (hn : m.funcs.length ≤ 9223372036854775807) : Pus prog 79 [m.av] (.b (greatI m)) := by
  obtain ⟨x, rfl, h⟩ := p79 H.f79 (m0 := m) (K := fun x => x = greatI m) (by
    unfold T79_0
    intro P hP
    have fin : (m.funcs.take 41).any gFun = false → T79_6 prog (fun x => x = greatI m) m := by
      intro h
      unfold T79_6 greatI
      rw [h, Bool.false_or]
      exact decide_eq_decide.2 (by omega)
    refine loop_inv0 (P := fun i => P i m) (min m.funcs.length 41) (fun i => (m.funcs.take i).any gFun = false) (by simp) (fun hI => hP _ _ ?_) fun i hi hI ihP => hP _ _ ?_
    · unfold T79_1
      refine ⟨fun h => ⟨fun h' => absurd h' (by omega), fun _ => fin ?_⟩, fun h => fin ?_⟩
      · rwa [show min m.funcs.length 41 = 41 by omega] at hI
      · rw [show min m.funcs.length 41 = m.funcs.length by omega, List.take_length] at hI
        rw [List.any_eq_false] at hI ⊢
        exact fun x hx => hI x (List.mem_of_mem_take hx)
    · have hil : i < m.funcs.length := by omega
      have yes : gFun m.funcs[i] = true → true = greatI m := by
        intro h
        unfold greatI
        rw [List.any_eq_true.2 ⟨m.funcs[i], by rw [List.mem_take_iff_getElem]; exact ⟨i, by omega, rfl⟩, h⟩]
        rfl
      have go : gFun m.funcs[i] = false → P (IntKind.i64.wrap ((i : Int) + 1)) m := by
        intro h
        rw [wr_i64 (by omega) (by omega)]
        exact ihP (by rw [List.take_succ_eq_append_getElem hil, List.any_append, hI]; simpa using h)
      unfold T79_1
      refine ⟨fun _ => ⟨fun _ => ?_, fun h => absurd (show (i : Int) ≤ 40 by omega) h⟩, fun h => absurd (show (i : Int) < m.funcs.length by omega) h⟩
      unfold T79_2
      refine ⟨by omega, _, get_at hil, fun h => yes (by unfold gFun; simp; omega), fun h1 => ⟨fun h => yes (by unfold gFun; simp; omega), fun h2 => ⟨fun h => yes (by unfold gFun; simp; omega), fun h3 => ?_⟩⟩⟩
      unfold T79_3
      intro P1 hP1
      refine loop_inv0 (P := fun i => P1 i m _) m.funcs[i].slots.length (fun j => (m.funcs[i].slots.take j).any gFld = false) (by simp) (fun hJ => hP1 _ _ _ ?_) fun j hj hJ ihJ => hP1 _ _ _ ?_
      · unfold T79_4 T79_5
        refine ⟨fun h => absurd h (by omega), fun _ => go ?_⟩
        rw [List.take_length] at hJ
        unfold gFun
        rw [hJ, decide_eq_false (by omega), decide_eq_false (by omega), decide_eq_false (by omega)]
        rfl
      · unfold T79_4
        refine ⟨fun _ => ⟨by omega, _, get_at hj, fun h => yes ?_, fun h => ?_⟩, fun h => absurd (show (j : Int) < m.funcs[i].slots.length by omega) h⟩
        · unfold gFun
          rw [List.any_eq_true.2 ⟨_, List.getElem_mem hj, by unfold gFld; exact decide_eq_true (by omega)⟩, Bool.or_true]
        · rw [wr_i64 (by omega) (by omega)]
          refine ihJ ?_
          rw [List.take_succ_eq_append_getElem hj, List.any_append, hJ]
          simp [gFld]
          omega)
  exact h
theorem c80 {x : Frm} (hx : WfX x) : Pus prog 80 [x.av] (.b (greatX x)) := by
  obtain ⟨y, rfl, h⟩ := p80 H.f80 (x0 := x) (K := fun y => y = greatX x) (by
    unfold T80_0
    intro P hP
    have hn := hx.n
    have fin : (x.locals.take 21).any (fun l => greatv l.value) = false → T80_3 prog (fun y => y = greatX x) x := by
      intro h
      unfold T80_3 greatX
      rw [h, Bool.false_or]
      exact decide_eq_decide.2 (by omega)
    refine loop_inv0 (P := fun i => P i x) (min x.locals.length 21) (fun i => (x.locals.take i).any (fun l => greatv l.value) = false) (by simp) (fun hI => hP _ _ ?_) fun i hi hI ihP => hP _ _ ?_
    · unfold T80_1
      refine ⟨fun h => ⟨fun h' => absurd h' (by omega), fun _ => fin ?_⟩, fun h => fin ?_⟩
      · rwa [show min x.locals.length 21 = 21 by omega] at hI
      · rw [show min x.locals.length 21 = x.locals.length by omega, List.take_length] at hI
        rw [List.any_eq_false] at hI ⊢
        exact fun x hx => hI x (List.mem_of_mem_take hx)
    · have hil : i < x.locals.length := by omega
      unfold T80_1 T80_2
      refine ⟨fun _ => ⟨fun _ => ⟨by omega, _, get_at hil, _, c71 H.toHas38 (hx.v _ (List.getElem_mem hil)), fun h => ?_, fun h => ?_⟩, fun h => absurd (show (i : Int) ≤ 20 by omega) h⟩, fun h => absurd (show (i : Int) < x.locals.length by omega) h⟩
      · unfold greatX
        rw [List.any_eq_true.2 ⟨x.locals[i], by rw [List.mem_take_iff_getElem]; exact ⟨i, by omega, rfl⟩, h⟩]
        rfl
      · rw [wr_i64 (by omega) (by omega)]
        exact ihP (by rw [List.take_succ_eq_append_getElem hil, List.any_append, hI]; simpa using h))
  exact h
end
end Go.AM

/- Parts of the proof. -/
namespace Go.AM
open Go
structure HasG (prog : Prog) : Prop extends HasF prog
section
variable {prog : Prog} (H : HasG prog)
include H
end
end Go.AM

/- Parts of the proof. -/
namespace Go.AM
open Go
theorem idxOf_no {v : Bytes} : ∀ {l : List Bytes}, (∀ x ∈ l, v ≠ x) → idxOf v l = -1
  | [], _ => rfl
  | x :: r, h => by
    rw [idxOf, if_neg (h x List.mem_cons_self), if_pos (idxOf_no fun y hy => h y (List.mem_cons_of_mem _ hy))]
section
variable {prog : Prog} (H : HasG prog)
include H
end
end Go.AM

/- Parts of the proof. -/
namespace Go.AM
open Go
section
variable {prog : Prog} (H : HasG prog)
include H
end
end Go.AM

/- Parts of the proof. -/
namespace Go.AM
open Go
def wordsO : List Bytes := [[], [110, 111, 114, 109, 97, 108], [112, 97, 110, 105, 99], [100, 101, 97, 100, 108, 111, 99, 107], [115, 116, 97, 99, 107], [104, 101, 97, 112], [114, 111, 117, 116, 105, 110, 101, 115], [115, 116, 101, 112, 115], [115, 99, 114, 105, 112, 116]]
def outO (n : Int) : Bytes × Int := if n < 1 ∨ 8 < n then ([], 2) else ((wordsO[n.toNat]?).getD [], 0)
def rdOut (s : Bytes) : Int × Int := if idxOf s wordsO < 1 then (0, 12) else (idxOf s wordsO, 0)
def nameOk (m : Img) (n : Int) : Bool := match m.funcs[n.toNat]? with
  | none => false
  | some f => decide (f.name.length ≤ 16)
def callD (m : Img) (many : Int) (d : Dfr) : Bool := decide (0 ≤ d.frame) && decide (d.frame < many) && decide (0 ≤ d.func) && nameOk m d.func && (if d.hasArg = true then decide (d.arg.kind = 1 ∨ d.arg.kind = 2 ∨ d.arg.kind = 4) && fine d.arg else isZ d.arg)
def goesR (m : Img) (x : Rou) : Bool := if x.status = 3 then decide (x.frames.length = 0) && decide (x.defers.length = 0) && decide (x.panics.length = 0) && decide (x.key = 0)
  else decide (x.status = 2 ∨ (x.status = 1 ∧ x.key = 0)) && decide (1 ≤ x.frames.length ∧ x.frames.length ≤ 170) && decide (x.defers.length ≤ 410) && decide (chainR x.panics = 0) && x.frames.all (fitb m) && x.defers.all (callD m x.frames.length)
def fitS (m : Img) (s : Sta) : Bool := decide (1 ≤ s.outcome ∧ s.outcome ≤ 8) && decide (0 ≤ s.steps ∧ s.steps ≤ 5000) && decide (s.routines.length ≤ 16) && decide (-1 ≤ s.failing ∧ s.failing < s.routines.length) && s.routines.all (goesR m)
structure WfR (x : Rou) : Prop where
  st : 0 ≤ x.status
  k : -9223372036854775808 ≤ x.key ∧ x.key < 9223372036854775808
  f : ∀ y ∈ x.frames, WfX y
  d : ∀ y ∈ x.defers, Wf y.arg
  p : ∀ y ∈ x.panics, WfP y
  fl : x.frames.length ≤ 1000000000000000000
  dl : x.defers.length ≤ 1000000000000000000
  pl : x.panics.length ≤ 1000000000000000000
structure WfR0 (x : Rou) : Prop where
  st : 0 ≤ x.status
  k : -9223372036854775808 ≤ x.key ∧ x.key < 9223372036854775808
  f : ∀ y ∈ x.frames, WfX y
  d : ∀ y ∈ x.defers, Wf y.arg
  p : ∀ y ∈ x.panics, WfP y
  fl : x.frames.length ≤ 9223372036854775807
  dl : x.defers.length ≤ 9223372036854775807
  pl : x.panics.length ≤ 9223372036854775807
structure WfS0 (s : Sta) : Prop where
  o : 0 ≤ s.outcome
  r : ∀ x ∈ s.routines, WfR0 x
  n : s.routines.length ≤ 9223372036854775807
structure WfS (s : Sta) : Prop where
  o : 0 ≤ s.outcome
  r : ∀ x ∈ s.routines, WfR x
  n : s.routines.length ≤ 9223372036854775807
def defL (m : Img) (d : Dfr) : Bytes := [100, 101, 102, 101, 114, 32] ++ num d.frame ++ [32] ++ num d.func ++ [32] ++ quo (nameAt m d.func) ++ (if d.hasArg = true then [32, 119, 105, 116, 104, 32] ++ txt d.arg else [])
def frmsL (m : Img) : Nat → List Frm → List Bytes
  | _, [] => []
  | i, x :: r => frmL m i x ++ frmsL m (i + 1) r
def partsL (m : Img) (x : Rou) : List Bytes := frmsL m 0 x.frames ++ x.defers.map (defL m) ++ x.panics.map shown
def statL (x : Rou) : Bytes := if x.status = 1 then [114, 101, 97, 100, 121] else if x.status = 3 then [100, 111, 110, 101] else [98, 108, 111, 99, 107, 101, 100, 32] ++ num x.key
def headR (g : Int) (x : Rou) : Bytes := [103, 111, 114, 111, 117, 116, 105, 110, 101, 32] ++ num g ++ [58, 32] ++ statL x
def sp2 (s : Bytes) : Bytes := [32, 32] ++ s
def linR (m : Img) (g : Int) (x : Rou) : List Bytes := headR g x :: (partsL m x).map sp2
def rouR (m : Img) (g : Int) (x : Rou) : List Bytes × Int := if g < 0 ∨ 16 ≤ g then ([], 2) else if goesR m x = true then (linR m g x, 0) else ([], 8)
def headS (s : Sta) : Bytes := [111, 117, 116, 99, 111, 109, 101, 32] ++ (outO s.outcome).1 ++ [44, 32, 102, 97, 105, 108, 105, 110, 103, 32] ++ num s.failing ++ [44, 32, 115, 116, 101, 112, 115, 32] ++ num s.steps ++ [10]
def nlT (l : List Bytes) : Bytes := l.flatMap fun s => s ++ [10]
def rousT (m : Img) : Nat → List Rou → Bytes
  | _, [] => []
  | i, x :: r => nlT (linR m i x) ++ rousT m (i + 1) r
def repT (m : Img) (s : Sta) : Bytes := headS s ++ rousT m 0 s.routines
def repR (m : Img) (s : Sta) : Bytes × Int := if fitS m s = true then (if 300000 < (repT m s).length then ([], 4) else (repT m s, 0)) else ([], 8)
def greatR (x : Rou) : Bool := decide (12 < x.frames.length) || decide (12 < x.defers.length) || decide (20 < x.panics.length) || greatC x.panics || x.frames.any greatX || x.defers.any (fun d => greatv d.arg)
def greatS (s : Sta) : Bool := (s.routines.take 21).any greatR || decide (20 < s.routines.length)
theorem WfR.of {x : Rou} (h : WfR0 x) (hg : greatR x = false) : WfR x := by
  unfold greatR at hg
  simp only [Bool.or_eq_false_iff, decide_eq_false_iff_not] at hg
  obtain ⟨⟨⟨⟨⟨h1, h2⟩, h3⟩, _⟩, _⟩, _⟩ := hg
  exact ⟨h.st, h.k, h.f, h.d, h.p, by omega, by omega, by omega⟩
theorem WfS.of {s : Sta} (h : WfS0 s) (hg : greatS s = false) : WfS s := by
  unfold greatS at hg
  simp only [Bool.or_eq_false_iff, decide_eq_false_iff_not] at hg
  obtain ⟨h1, h2⟩ := hg
  rw [List.take_of_length_le (by omega), List.any_eq_false] at h1
  exact ⟨h.o, fun x hx => WfR.of (h.r x hx) (by simpa using h1 x hx), h.n⟩
end Go.AM

/- Parts of the proof. -/
namespace Go.AM
open Go
structure HasT (prog : Prog) : Prop extends HasQ prog, HasF prog where
  f203 : prog.fn 203 = some pf203
  f204 : prog.fn 204 = some pf204
  f205 : prog.fn 205 = some pf205
  f206 : prog.fn 206 = some pf206
  f207 : prog.fn 207 = some pf207
  f208 : prog.fn 208 = some pf208
  f209 : prog.fn 209 = some pf209
  f210 : prog.fn 210 = some pf210
  f211 : prog.fn 211 = some pf211
  f212 : prog.fn 212 = some pf212
  f213 : prog.fn 213 = some pf213
  f214 : prog.fn 214 = some pf214
  f215 : prog.fn 215 = some pf215
  f216 : prog.fn 216 = some pf216
  f217 : prog.fn 217 = some pf217
  f218 : prog.fn 218 = some pf218
  f219 : prog.fn 219 = some pf219
  f220 : prog.fn 220 = some pf220
  f221 : prog.fn 221 = some pf221
  f222 : prog.fn 222 = some pf222
  f223 : prog.fn 223 = some pf223
  f224 : prog.fn 224 = some pf224
  f225 : prog.fn 225 = some pf225
  f226 : prog.fn 226 = some pf226
  f227 : prog.fn 227 = some pf227
  f228 : prog.fn 228 = some pf228
  f229 : prog.fn 229 = some pf229
  f230 : prog.fn 230 = some pf230
  f231 : prog.fn 231 = some pf231
  f232 : prog.fn 232 = some pf232
  f233 : prog.fn 233 = some pf233
  f234 : prog.fn 234 = some pf234
  f235 : prog.fn 235 = some pf235
  f236 : prog.fn 236 = some pf236
  f237 : prog.fn 237 = some pf237
  f238 : prog.fn 238 = some pf238
  f239 : prog.fn 239 = some pf239
theorem outO_1 {n : Int} (h0 : 1 ≤ n) (h1 : n ≤ 8) : ∃ w, wordsO[n.toNat]? = some w ∧ outO n = (w, 0) ∧ w.length ≤ 8 := by
  obtain ⟨k, rfl⟩ := Int.eq_ofNat_of_zero_le (by omega : 0 ≤ n)
  have h1 : k ≤ 8 := by omega
  have h0 : 1 ≤ k := by omega
  match k, h0, h1 with
  | 1, _, _ | 2, _, _ | 3, _, _ | 4, _, _ | 5, _, _ | 6, _, _ | 7, _, _ | 8, _, _ => exact ⟨_, rfl, rfl, by decide⟩
theorem outO_no {n : Int} (h : n < 1 ∨ 8 < n) : outO n = ([], 2) := by unfold outO; rw [if_pos h]
theorem idxOf_at {v : Bytes} : ∀ {l : List Bytes} {i : Nat} (hi : i < l.length), l[i] = v → (∀ j (hj : j < i), l[j]'(by omega) ≠ v) → idxOf v l = i
  | [], i, hi, _, _ => absurd hi (Nat.not_lt_zero _)
  | x :: r, 0, _, h, _ => by rw [idxOf, if_pos (show v = x from h.symm)]; rfl
  | x :: r, i + 1, hi, h, k => by
    have ih := idxOf_at (l := r) (i := i) (by simpa using hi) (by simpa using h) fun j hj => by simpa using k (j + 1) (by omega)
    rw [idxOf, if_neg (fun e => k 0 (by omega) (by simpa using e.symm)), ih, if_neg (by omega)]
    omega
theorem rdOut_at {s : Bytes} {i : Nat} (h1 : 1 ≤ i) (hi : i < 9) (h : wordsO[i]'hi = s) (k : ∀ j (hj : j < i), 1 ≤ j → wordsO[j]'(show j < 9 by omega) ≠ s) : rdOut s = ((i : Int), 0) := by
  have hs : s ≠ [] := by
    subst h
    match i, h1, hi with
    | 1, _, _ | 2, _, _ | 3, _, _ | 4, _, _ | 5, _, _ | 6, _, _ | 7, _, _ | 8, _, _ => exact List.cons_ne_nil _ _
  have e : idxOf s wordsO = (i : Int) := idxOf_at (l := wordsO) hi h fun j hj => by
    rcases Nat.eq_zero_or_pos j with rfl | h0
    · exact fun e => hs e.symm
    · exact k j hj h0
  unfold rdOut
  rw [e, if_neg (by omega)]
theorem rdOut_no {s : Bytes} (k : ∀ j (hj : j < 9), 1 ≤ j → wordsO[j]'hj ≠ s) : rdOut s = (0, 12) := by
  unfold rdOut
  by_cases h : s = []
  · subst h; rw [if_pos (by decide)]
  · rw [idxOf_no, if_pos (by decide)]
    intro x hx e
    obtain ⟨j, hj, rfl⟩ := List.getElem_of_mem hx
    rcases Nat.eq_zero_or_pos j with rfl | h0
    · exact h e
    · exact k j hj h0 e.symm
section
variable {prog : Prog} (H : HasT prog)
include H
theorem c215 : Pus prog 215 [] (.ag (wordsO.map AV.s)) := by
  obtain ⟨x, rfl, h⟩ := p215 H.f215 (K := fun x => x = wordsO) (by unfold T215_0; rfl)
  exact h
theorem c223 : Pus prog 223 [] (.sl .ext (wordsO.map rowS)) := by
  obtain ⟨x, rfl, h⟩ := p223 H.f223 (K := fun x => x = wordsO) (by unfold T223_0; rfl)
  exact h
theorem c216 {n : Int} (h1 : -9223372036854775808 ≤ n) (h2 : n < 9223372036854775808) : Pus prog 216 [.i .i64 n] (.s (num n)) := by
  obtain ⟨x, rfl, h⟩ := p216 H.f216 (n0 := n) (K := fun x => x = num n) (by
    unfold T216_0
    exact ⟨_, c15 H.toHas03 h1 h2, rfl⟩)
  exact h
theorem c226 {n : Int} (h1 : -9223372036854775808 ≤ n) (h2 : n < 9223372036854775808) : Pus prog 226 [.i .i64 n] (.s (num n)) := by
  obtain ⟨x, rfl, h⟩ := p226 H.f226 (n0 := n) (K := fun x => x = num n) (by
    unfold T226_0
    exact ⟨_, c16 H.toHas03 h1 h2, rfl⟩)
  exact h
theorem c209 (n : Int) : Pus prog 209 [.i .u8 n] (.tup [.s (outO n).1, .i .i64 (outO n).2]) := by
  obtain ⟨x, y, ⟨rfl, rfl⟩, h⟩ := p209 H.f209 (n0 := n) (K := fun x y => x = (outO n).1 ∧ y = (outO n).2) (by
    unfold T209_0
    refine ⟨fun h => by rw [outO_no (.inl h)]; exact ⟨rfl, rfl⟩, fun h1 => ⟨fun h => by rw [outO_no (.inr h)]; exact ⟨rfl, rfl⟩, fun h2 => ?_⟩⟩
    obtain ⟨w, hw, e, _⟩ := outO_1 (n := n) (by omega) (by omega)
    unfold T209_1
    refine ⟨_, c215 H, rfl, by omega, w, hw, ?_⟩
    rw [e]; exact ⟨rfl, rfl⟩)
  exact h
theorem c210 (n : Int) : Pus prog 210 [.i .u8 n] (.tup [.s (outO n).1, .i .i64 (outO n).2]) := by
  obtain ⟨x, y, ⟨rfl, rfl⟩, h⟩ := p210 H.f210 (n0 := n) (K := fun x y => x = (outO n).1 ∧ y = (outO n).2) (by
    unfold T210_0
    refine ⟨fun h => by rw [outO_no (.inl h)]; exact ⟨rfl, rfl⟩, fun h1 => ⟨fun h => by rw [outO_no (.inr h)]; exact ⟨rfl, rfl⟩, fun h2 => ?_⟩⟩
    obtain ⟨w, hw, e, _⟩ := outO_1 (n := n) (by omega) (by omega)
    unfold T210_1
    refine ⟨_, c223 H, by omega, w, hw, ?_⟩
    rw [e]; exact ⟨rfl, rfl⟩)
  exact h
theorem c211 (s : Bytes) : Pus prog 211 [.s s] (.tup [.i .u8 (rdOut s).1, .i .i64 (rdOut s).2]) := by
  obtain ⟨x, y, ⟨rfl, rfl⟩, h⟩ := p211 H.f211 (s0 := s) (K := fun x y => x = (rdOut s).1 ∧ y = (rdOut s).2) (by
    unfold T211_0
    refine ⟨_, c215 H, rfl, rfl, _, c141 H.toHasF (by decide) s, fun h => ?_, fun h => ?_⟩
    · unfold rdOut; rw [if_pos h]; exact ⟨rfl, rfl⟩
    · have := idxOf_rng s wordsO
      have e : (wordsO.length : Int) = 9 := rfl
      unfold rdOut; rw [if_neg h]
      exact ⟨wr_u8 (by omega) (by omega), rfl⟩)
  exact h
theorem c212 (s : Bytes) : Pus prog 212 [.s s] (.tup [.i .u8 (rdOut s).1, .i .i64 (rdOut s).2]) := by
  obtain ⟨x, y, ⟨rfl, rfl⟩, h⟩ := p212 H.f212 (s0 := s) (K := fun x y => x = (rdOut s).1 ∧ y = (rdOut s).2) (by
    unfold T212_0
    intro P hP
    have go : ∀ k i : Nat, i + k = 9 → 1 ≤ i → (∀ j (hj : j < i) (h9 : j < 9), 1 ≤ j → wordsO[j]'h9 ≠ s) → P (i : Int) := by
      intro k
      induction k with
      | zero =>
        intro i hi h1 ha
        apply hP
        unfold T212_1 T212_2
        refine ⟨fun h => absurd h (by omega), fun _ => ?_⟩
        rw [rdOut_no fun j hj h1 => ha j (by omega) hj h1]
        exact ⟨rfl, rfl⟩
      | succ k ih =>
        intro i hi h1 ha
        apply hP
        unfold T212_1
        have h9 : i < wordsO.length := show i < 9 by omega
        refine ⟨fun _ => ⟨_, c223 H, by omega, _, get_at h9, fun h => ?_, fun h => ?_⟩, fun h => absurd (show (i : Int) ≤ 8 by omega) h⟩
        · rw [rdOut_at h1 (by omega) h fun j hj h0 => ha j hj (by omega) h0]
          exact ⟨wr_u8 (by omega) (by omega), rfl⟩
        · rw [wr_i64 (by omega) (by omega)]
          refine ih (i + 1) (by omega) (by omega) fun j hj h9 h1 => ?_
          rcases Nat.lt_or_ge j i with h2 | h2
          · exact ha j h2 h9 h1
          · have : j = i := by omega
            subst this; exact h
    exact go 8 1 rfl (Nat.le_refl _) fun j hj _ h1 => absurd h1 (by omega))
  exact h
theorem c236 {l : List Rou} {f : Nat × List AV} {p : Rou → Bool} (hl : l.length ≤ 9223372036854775807) (hf : ∀ x ∈ l, PuN prog f.1 ([x.av] ++ f.2) (fun r => r = .b (p x))) (o : Own) : PuN prog 236 [.sl o (l.map Rou.row), .fn f.1 f.2] (fun r => r = .i .i64 (idxP p l)) := by
  refine (p236 H.f236 (s0 := l) (f1 := f) (K := fun x => x = idxP p l) ?_ o).to ?_
  · unfold T236_0
    intro P hP
    refine loop_idx (Q := fun x => x = idxP p l) p l (fun h => hP _ ?_) (fun i hi hp hq => hP _ ?_) (fun i hi hp ih => hP _ ?_) rfl
    · unfold T236_1 T236_2
      exact ⟨fun h' => absurd h' (by omega), fun _ => h⟩
    · unfold T236_1
      refine ⟨fun _ => ⟨by omega, _, get_at hi, _, hf _ (List.getElem_mem hi), fun _ => hq, fun h' => ?_⟩, fun h' => absurd h' (by omega)⟩
      rw [hp] at h'; cases h'
    · unfold T236_1
      refine ⟨fun _ => ⟨by omega, _, get_at hi, _, hf _ (List.getElem_mem hi), fun h' => ?_, fun _ => ?_⟩, fun h' => absurd h' (by omega)⟩
      · rw [hp] at h'; cases h'
      · rw [wr_i64 (by omega) (by omega)]; exact ih
  · rintro r ⟨x, rfl, rfl⟩; rfl
theorem c224 {l : List Rou} {f : Nat × List AV} {p : Rou → Bool} (hl : l.length ≤ 9223372036854775807) (hf : ∀ x ∈ l, PuN prog f.1 ([x.av] ++ f.2) (fun r => r = .b (p x))) (o : Own) : PuN prog 224 [.sl o (l.map Rou.row), .fn f.1 f.2] (fun r => r = .b (l.any p)) := by
  refine (p224 H.f224 (s0 := l) (f1 := f) (K := fun x => x = l.any p) ?_ o).to ?_
  · unfold T224_0
    refine ⟨_, fun o => c236 H hl hf o, ?_⟩
    have := (idxP_any p l).2
    cases h : l.any p
    · exact decide_eq_false (by rw [h] at this; intro h'; exact absurd (this.1 h') (by decide))
    · exact decide_eq_true (this.2 h)
  · rintro r ⟨x, rfl, rfl⟩; rfl
theorem c237 {l : List Frm} {f : Nat × List AV} {p : Frm → Bool} (hl : l.length ≤ 9223372036854775807) (hf : ∀ x ∈ l, PuN prog f.1 ([x.av] ++ f.2) (fun r => r = .b (p x))) (o : Own) : PuN prog 237 [.sl o (l.map Frm.row), .fn f.1 f.2] (fun r => r = .i .i64 (idxP p l)) := by
  refine (p237 H.f237 (s0 := l) (f1 := f) (K := fun x => x = idxP p l) ?_ o).to ?_
  · unfold T237_0
    intro P hP
    refine loop_idx (Q := fun x => x = idxP p l) p l (fun h => hP _ ?_) (fun i hi hp hq => hP _ ?_) (fun i hi hp ih => hP _ ?_) rfl
    · unfold T237_1 T237_2
      exact ⟨fun h' => absurd h' (by omega), fun _ => h⟩
    · unfold T237_1
      refine ⟨fun _ => ⟨by omega, _, get_at hi, _, hf _ (List.getElem_mem hi), fun _ => hq, fun h' => ?_⟩, fun h' => absurd h' (by omega)⟩
      rw [hp] at h'; cases h'
    · unfold T237_1
      refine ⟨fun _ => ⟨by omega, _, get_at hi, _, hf _ (List.getElem_mem hi), fun h' => ?_, fun _ => ?_⟩, fun h' => absurd h' (by omega)⟩
      · rw [hp] at h'; cases h'
      · rw [wr_i64 (by omega) (by omega)]; exact ih
  · rintro r ⟨x, rfl, rfl⟩; rfl
theorem c227 {l : List Frm} {f : Nat × List AV} {p : Frm → Bool} (hl : l.length ≤ 9223372036854775807) (hf : ∀ x ∈ l, PuN prog f.1 ([x.av] ++ f.2) (fun r => r = .b (p x))) (o : Own) : PuN prog 227 [.sl o (l.map Frm.row), .fn f.1 f.2] (fun r => r = .b (l.any p)) := by
  refine (p227 H.f227 (s0 := l) (f1 := f) (K := fun x => x = l.any p) ?_ o).to ?_
  · unfold T227_0
    refine ⟨_, fun o => c237 H hl hf o, ?_⟩
    have := (idxP_any p l).2
    cases h : l.any p
    · exact decide_eq_false (by rw [h] at this; intro h'; exact absurd (this.1 h') (by decide))
    · exact decide_eq_true (this.2 h)
  · rintro r ⟨x, rfl, rfl⟩; rfl
theorem c238 {l : List Dfr} {f : Nat × List AV} {p : Dfr → Bool} (hl : l.length ≤ 9223372036854775807) (hf : ∀ x ∈ l, PuN prog f.1 ([x.av] ++ f.2) (fun r => r = .b (p x))) (o : Own) : PuN prog 238 [.sl o (l.map Dfr.row), .fn f.1 f.2] (fun r => r = .i .i64 (idxP p l)) := by
  refine (p238 H.f238 (s0 := l) (f1 := f) (K := fun x => x = idxP p l) ?_ o).to ?_
  · unfold T238_0
    intro P hP
    refine loop_idx (Q := fun x => x = idxP p l) p l (fun h => hP _ ?_) (fun i hi hp hq => hP _ ?_) (fun i hi hp ih => hP _ ?_) rfl
    · unfold T238_1 T238_2
      exact ⟨fun h' => absurd h' (by omega), fun _ => h⟩
    · unfold T238_1
      refine ⟨fun _ => ⟨by omega, _, get_at hi, _, hf _ (List.getElem_mem hi), fun _ => hq, fun h' => ?_⟩, fun h' => absurd h' (by omega)⟩
      rw [hp] at h'; cases h'
    · unfold T238_1
      refine ⟨fun _ => ⟨by omega, _, get_at hi, _, hf _ (List.getElem_mem hi), fun h' => ?_, fun _ => ?_⟩, fun h' => absurd h' (by omega)⟩
      · rw [hp] at h'; cases h'
      · rw [wr_i64 (by omega) (by omega)]; exact ih
  · rintro r ⟨x, rfl, rfl⟩; rfl
theorem c229 {l : List Dfr} {f : Nat × List AV} {p : Dfr → Bool} (hl : l.length ≤ 9223372036854775807) (hf : ∀ x ∈ l, PuN prog f.1 ([x.av] ++ f.2) (fun r => r = .b (p x))) (o : Own) : PuN prog 229 [.sl o (l.map Dfr.row), .fn f.1 f.2] (fun r => r = .b (l.any p)) := by
  refine (p229 H.f229 (s0 := l) (f1 := f) (K := fun x => x = l.any p) ?_ o).to ?_
  · unfold T229_0
    refine ⟨_, fun o => c238 H hl hf o, ?_⟩
    have := (idxP_any p l).2
    cases h : l.any p
    · exact decide_eq_false (by rw [h] at this; intro h'; exact absurd (this.1 h') (by decide))
    · exact decide_eq_true (this.2 h)
  · rintro r ⟨x, rfl, rfl⟩; rfl
theorem c239 {l : List Pan} {f : Nat × List AV} {p : Pan → Bool} (hl : l.length ≤ 9223372036854775807) (hf : ∀ x ∈ l, PuN prog f.1 ([x.av] ++ f.2) (fun r => r = .b (p x))) (o : Own) : PuN prog 239 [.sl o (l.map Pan.row), .fn f.1 f.2] (fun r => r = .i .i64 (idxP p l)) := by
  refine (p239 H.f239 (s0 := l) (f1 := f) (K := fun x => x = idxP p l) ?_ o).to ?_
  · unfold T239_0
    intro P hP
    refine loop_idx (Q := fun x => x = idxP p l) p l (fun h => hP _ ?_) (fun i hi hp hq => hP _ ?_) (fun i hi hp ih => hP _ ?_) rfl
    · unfold T239_1 T239_2
      exact ⟨fun h' => absurd h' (by omega), fun _ => h⟩
    · unfold T239_1
      refine ⟨fun _ => ⟨by omega, _, get_at hi, _, hf _ (List.getElem_mem hi), fun _ => hq, fun h' => ?_⟩, fun h' => absurd h' (by omega)⟩
      rw [hp] at h'; cases h'
    · unfold T239_1
      refine ⟨fun _ => ⟨by omega, _, get_at hi, _, hf _ (List.getElem_mem hi), fun h' => ?_, fun _ => ?_⟩, fun h' => absurd h' (by omega)⟩
      · rw [hp] at h'; cases h'
      · rw [wr_i64 (by omega) (by omega)]; exact ih
  · rintro r ⟨x, rfl, rfl⟩; rfl
theorem c232 {l : List Pan} {f : Nat × List AV} {p : Pan → Bool} (hl : l.length ≤ 9223372036854775807) (hf : ∀ x ∈ l, PuN prog f.1 ([x.av] ++ f.2) (fun r => r = .b (p x))) (o : Own) : PuN prog 232 [.sl o (l.map Pan.row), .fn f.1 f.2] (fun r => r = .b (l.any p)) := by
  refine (p232 H.f232 (s0 := l) (f1 := f) (K := fun x => x = l.any p) ?_ o).to ?_
  · unfold T232_0
    refine ⟨_, fun o => c239 H hl hf o, ?_⟩
    have := (idxP_any p l).2
    cases h : l.any p
    · exact decide_eq_false (by rw [h] at this; intro h'; exact absurd (this.1 h') (by decide))
    · exact decide_eq_true (this.2 h)
  · rintro r ⟨x, rfl, rfl⟩; rfl
theorem c231 {m : Img} {many : Int} {d : Dfr} (hm : OkI m) (hd : Wf d.arg) : Pus prog 231 [m.av, .i .i64 many, d.av] (.b (callD m many d)) := by
  obtain ⟨x, rfl, h⟩ := p231 H.f231 (m0 := m) (frames1 := many) (d2 := d) (K := fun x => x = callD m many d) (by
    unfold T231_0 T231_1
    refine ⟨fun h => ?_, fun h0 => ⟨fun h => ?_, fun h1 => ⟨fun h => ?_, fun h2 => ⟨fun h => ?_, fun h3 => ?_⟩⟩⟩⟩
    · unfold callD; rw [decide_eq_false (by omega)]; rfl
    · unfold callD; rw [decide_eq_false (p := d.frame < many) (by omega)]; simp
    · unfold callD; rw [decide_eq_false (p := 0 ≤ d.func) (by omega)]; simp
    · unfold callD nameOk; rw [List.getElem?_eq_none (by omega)]; simp
    obtain ⟨f, hf, hmem⟩ := fun_at (m := m) (n := d.func) (by omega) (by omega)
    refine ⟨by omega, f, hf, fun h => ?_, fun h4 => ?_⟩
    · unfold callD nameOk; rw [hf]; simp only; rw [decide_eq_false (p := f.name.length ≤ 16) (by omega)]; simp
    have e : callD m many d = (if d.hasArg = true then decide (d.arg.kind = 1 ∨ d.arg.kind = 2 ∨ d.arg.kind = 4) && fine d.arg else isZ d.arg) := by
      unfold callD nameOk; rw [hf]; simp only
      rw [decide_eq_true (by omega), decide_eq_true (by omega), decide_eq_true (by omega), decide_eq_true (by omega)]; rfl
    rw [e]
    unfold T231_2
    refine ⟨fun h => ?_, fun h => ?_⟩
    · have ha : d.hasArg = false := by simpa using h
      rw [ha]
      simp only [Bool.false_eq_true, if_false]
      unfold isZ
      refine ⟨fun k0 => ⟨fun k1 => ⟨fun k2 => ⟨fun k3 => ?_, fun k3 => ?_⟩, fun k2 => ?_⟩, fun k1 => ?_⟩, fun k0 => ?_⟩
      · rw [decide_eq_true k0, decide_eq_true k1, decide_eq_true k2, decide_eq_true (by omega)]; rfl
      · rw [decide_eq_false (p := d.arg.list.length = 0) (by omega)]; simp
      · rw [decide_eq_false k2]; simp
      · rw [decide_eq_false k1]; simp
      · rw [decide_eq_false k0]; rfl
    · have ha : d.hasArg = true := by simpa using h
      rw [ha, if_pos rfl]
      have fin : ∀ b : Bool, b = decide (d.arg.kind = 1 ∨ d.arg.kind = 2 ∨ d.arg.kind = 4) → T231_4 prog (fun x => x = (decide (d.arg.kind = 1 ∨ d.arg.kind = 2 ∨ d.arg.kind = 4) && fine d.arg)) b d := fun b hb => by
        unfold T231_4
        rw [← hb]
        refine ⟨fun h => ⟨_, c76 H.toHas38 hd, ?_⟩, fun h => by rw [h]; rfl⟩
        rw [h, Bool.true_and]
        cases hq : fine d.arg
        · exact decide_eq_false fun h' => absurd (chk_fine.1 h') (by rw [hq]; decide)
        · exact decide_eq_true (chk_fine.2 hq)
      unfold T231_3
      refine ⟨fun k => fin _ ?_, fun k => ⟨fun k' => fin _ ?_, fun k' => fin _ ?_⟩⟩ <;> exact decide_eq_decide.2 (by omega))
  exact h
theorem c235 {m : Img} {many : Int} {d : Dfr} (hm : OkI m) (hd : Wf d.arg) : Pus prog 235 [m.av, .i .i64 many, d.av] (.b (callD m many d)) := by
  obtain ⟨x, rfl, h⟩ := p235 H.f235 (m0 := m) (many1 := many) (d2 := d) (K := fun x => x = callD m many d) (by
    unfold T235_0 T235_1
    refine ⟨fun h => ?_, fun h0 => ⟨fun h => ?_, fun h1 => ⟨fun h => ?_, fun h2 => ⟨fun h => ?_, fun h3 => ?_⟩⟩⟩⟩
    · unfold callD; rw [decide_eq_false (by omega)]; rfl
    · unfold callD; rw [decide_eq_false (p := d.frame < many) (by omega)]; simp
    · unfold callD; rw [decide_eq_false (p := 0 ≤ d.func) (by omega)]; simp
    · unfold callD nameOk; rw [List.getElem?_eq_none (by omega)]; simp
    obtain ⟨f, hf, hmem⟩ := fun_at (m := m) (n := d.func) (by omega) (by omega)
    refine ⟨by omega, f, hf, fun h => ?_, fun h4 => ?_⟩
    · unfold callD nameOk; rw [hf]; simp only; rw [decide_eq_false (p := f.name.length ≤ 16) (by omega)]; simp
    have e : callD m many d = (if d.hasArg = true then decide (d.arg.kind = 1 ∨ d.arg.kind = 2 ∨ d.arg.kind = 4) && fine d.arg else isZ d.arg) := by
      unfold callD nameOk; rw [hf]; simp only
      rw [decide_eq_true (by omega), decide_eq_true (by omega), decide_eq_true (by omega), decide_eq_true (by omega)]; rfl
    rw [e]
    have fin : ∀ (p : Prop) [Decidable p], p → (decide p && fine d.arg) = decide (chkR d.arg = 0) := fun p _ hp => by
      rw [decide_eq_true hp, Bool.true_and]
      cases hq : fine d.arg
      · exact (decide_eq_false fun h' => absurd (chk_fine.1 h') (by rw [hq]; decide)).symm
      · exact (decide_eq_true (chk_fine.2 hq)).symm
    unfold T235_2
    refine ⟨fun h => ?_, fun h => ?_⟩
    · have ha : d.hasArg = false := by simpa using h
      rw [ha]
      refine ⟨_, c78 H.toHas38 hd vz, ?_⟩
      simp only [Bool.false_eq_true, if_false]
      cases hq : isZ d.arg
      · exact sameV_false.2 fun h' => absurd (isZ_true.2 h') (by rw [hq]; decide)
      · exact sameV_true.2 (isZ_true.1 hq)
    · have ha : d.hasArg = true := by simpa using h
      rw [ha, if_pos rfl]
      refine ⟨fun k => ⟨_, c77 H.toHas38 hd, (fin _ (by omega)).symm⟩, fun k => ⟨fun k' => ⟨_, c77 H.toHas38 hd, (fin _ (by omega)).symm⟩, fun k' => ⟨fun k'' => ⟨_, c77 H.toHas38 hd, (fin _ (by omega)).symm⟩, fun k'' => ?_⟩⟩⟩
      rw [decide_eq_false (by omega)]; rfl)
  exact h
theorem c228 {m : Img} (hm : OkI m) {x : Frm} (hx : WfX x) : PuN prog 228 ([x.av] ++ [.fp m.row]) (fun r => r = .b (!fitb m x)) := by
  refine (p228 H.f228 (y0 := x) (t1 := m) (K := fun y => y = !fitb m x) ?_).to ?_
  · unfold T228_0
    refine ⟨_, c86 H.toHasF hm hx, ?_⟩
    cases hb : fitb m x
    · rw [← fitR_no (by rw [hb]; decide)]; rfl
    · rw [← fitR_yes hb]; rfl
  · rintro r ⟨x, rfl, rfl⟩; rfl
theorem c230 {m : Img} (hm : OkI m) {many : Int} {d : Dfr} (hd : Wf d.arg) : PuN prog 230 ([d.av] ++ [.fp m.row, .fp [.i .i64 many]]) (fun r => r = .b (!callD m many d)) := by
  refine (p230 H.f230 (y0 := d) (t1 := m) (t2 := many) (K := fun y => y = !callD m many d) ?_).to ?_
  · unfold T230_0
    exact ⟨_, c231 H hm hd, rfl⟩
  · rintro r ⟨x, rfl, rfl⟩; rfl
theorem c233 {p : Pan} (hp : WfP p) : PuN prog 233 ([p.av] ++ []) (fun r => r = .b (!okP p)) := by
  refine (p233 H.f233 (y0 := p) (K := fun y => y = !okP p) ?_).to ?_
  · unfold T233_0
    refine ⟨_, c158 H.toHasO hp, ?_⟩
    unfold chkP
    cases hb : okP p <;> rfl
  · rintro r ⟨x, rfl, rfl⟩; rfl
end
end Go.AM

/- Parts of the proof. -/
namespace Go.AM
open Go
theorem chainR_all {l : List Pan} : decide (chainR l = 0) = (decide (l.length ≤ 410) && l.all okP) := by
  unfold chainR
  by_cases h : 410 < l.length
  · rw [if_pos h, decide_eq_false (p := l.length ≤ 410) (by omega)]; rfl
  · rw [if_neg h, decide_eq_true (p := l.length ≤ 410) (by omega)]
    cases l.all okP <;> rfl
theorem any_not {α : Type} (p : α → Bool) (l : List α) : (!(l.any fun x => !p x)) = l.all p := by
  rw [List.not_any_eq_all_not]
  simp
def goes0 (m : Img) (x : Rou) : Bool := decide (1 ≤ x.frames.length ∧ x.frames.length ≤ 170) && decide (x.defers.length ≤ 410) && decide (chainR x.panics = 0) && x.frames.all (fitb m) && x.defers.all (callD m x.frames.length)
theorem goes_3 {m : Img} {x : Rou} (h : x.status = 3) : goesR m x = (decide (x.frames.length = 0) && decide (x.defers.length = 0) && decide (x.panics.length = 0) && decide (x.key = 0)) := by unfold goesR; rw [if_pos h]
theorem goes_2 {m : Img} {x : Rou} (h : x.status = 2 ∨ (x.status = 1 ∧ x.key = 0)) : goesR m x = goes0 m x := by
  unfold goesR goes0
  rw [if_neg (by omega), decide_eq_true h]
  simp
theorem goes_no {m : Img} {x : Rou} (h3 : x.status ≠ 3) (h : ¬(x.status = 2 ∨ (x.status = 1 ∧ x.key = 0))) : goesR m x = false := by
  unfold goesR
  rw [if_neg h3, decide_eq_false h]
  rfl
theorem goes0_f {m : Img} {x : Rou} (h : ¬(1 ≤ x.frames.length ∧ x.frames.length ≤ 170)) : goes0 m x = false := by unfold goes0; rw [decide_eq_false h]; rfl
theorem goes0_d {m : Img} {x : Rou} (h : 410 < x.defers.length) : goes0 m x = false := by unfold goes0; rw [decide_eq_false (p := x.defers.length ≤ 410) (by omega)]; simp
theorem goes0_p {m : Img} {x : Rou} (h : chainR x.panics ≠ 0) : goes0 m x = false := by unfold goes0; rw [decide_eq_false h]; simp
theorem goes0_of {m : Img} {x : Rou} (hf : 1 ≤ x.frames.length ∧ x.frames.length ≤ 170) (hd : x.defers.length ≤ 410) (hp : chainR x.panics = 0) : goes0 m x = (x.frames.all (fitb m) && x.defers.all (callD m x.frames.length)) := by
  unfold goes0
  rw [decide_eq_true hf, decide_eq_true hd, decide_eq_true hp]
  rfl
section
variable {prog : Prog} (H : HasT prog)
include H
theorem c219 {m : Img} {x : Rou} (hm : OkI m) (hx : WfR x) : Pus prog 219 [m.av, x.av] (.b (goesR m x)) := by
  obtain ⟨y, rfl, h⟩ := p219 H.f219 (m0 := m) (x1 := x) (K := fun y => y = goesR m x) (by
    unfold T219_0 T219_1
    have hfl := hx.fl
    have hdl := hx.dl
    have hpl := hx.pl
    have t3 : (x.status = 2 ∨ (x.status = 1 ∧ x.key = 0)) → T219_3 prog (fun y => y = goesR m x) m.types m.texts m.funcs x.status x.key x.frames x.defers x.panics (x.defers.length : Int) (x.panics.length : Int) (x.frames.length : Int) := fun hs => by
      rw [goes_2 hs]
      unfold T219_3
      refine ⟨fun h => (goes0_f (by omega)).symm, fun h1 => ⟨fun h => (goes0_f (by omega)).symm, fun h2 => ⟨fun h => (goes0_d (by omega)).symm, fun h3 => ⟨fun h => (goes0_p ?_).symm, fun h4 => ?_⟩⟩⟩⟩
      · unfold chainR; rw [if_pos (by omega)]; decide
      have e : goes0 m x = (x.frames.all (fitb m) && (x.defers.all (callD m x.frames.length) && x.panics.all okP)) := by
        unfold goes0
        rw [decide_eq_true (by omega), decide_eq_true (by omega), chainR_all, decide_eq_true (by omega)]
        simp only [Bool.true_and]
        cases x.panics.all okP <;> simp
      rw [e]
      unfold T219_4
      refine ⟨_, fun o => c227 H (l := x.frames) (f := (228, [.fp m.row])) (p := fun y => !fitb m y) (by omega) (fun y hy => c228 H hm (hx.f y hy)) o, fun h => ?_, fun h => ?_⟩
      · rw [any_not] at h
        rw [h, Bool.true_and]
        refine ⟨_, fun o => c229 H (l := x.defers) (f := (230, [.fp m.row, .fp [.i .i64 (x.frames.length : Int)]])) (p := fun y => !callD m x.frames.length y) (by omega) (fun y hy => c230 H hm (hx.d y hy)) o, fun h => ?_, fun h => ?_⟩
        · rw [any_not] at h
          rw [h, Bool.true_and]
          refine ⟨_, fun o => c232 H (l := x.panics) (f := (233, [])) (p := fun y => !okP y) (by omega) (fun y hy => c233 H (hx.p y hy)) o, ?_⟩
          rw [any_not]
        · rw [any_not] at h
          rw [h]; rfl
      · rw [any_not] at h
        rw [h]; rfl
    refine ⟨fun h3 => ?_, fun h3 => ⟨fun h1 => ?_, fun h1 => ⟨fun h2 => t3 (.inl h2), fun h2 => ?_⟩⟩⟩
    · rw [goes_3 h3]
      rw [wr_i64 (z := (x.frames.length : Int) + (x.defers.length : Int)) (by omega) (by omega), wr_i64 (by omega) (by omega)]
      refine ⟨fun k => ?_, fun k => ?_⟩
      · rw [decide_eq_true (p := x.frames.length = 0) (by omega), decide_eq_true (p := x.defers.length = 0) (by omega), decide_eq_true (p := x.panics.length = 0) (by omega)]; rfl
      · by_cases k1 : x.frames.length = 0
        · by_cases k2 : x.defers.length = 0
          · rw [decide_eq_false (p := x.panics.length = 0) (by omega)]; simp
          · rw [decide_eq_false k2]; simp
        · rw [decide_eq_false k1]; simp
    · unfold T219_2
      refine ⟨fun hk => (goes_no h3 ?_).symm, fun hk => t3 (.inr ⟨h1, by omega⟩)⟩
      omega
    · unfold T219_5
      exact (goes_no h3 (by omega)).symm)
  exact h
theorem c221 {m : Img} {x : Rou} (hm : OkI m) (hx : WfR x) : Pus prog 221 [m.av, x.av] (.b (goesR m x)) := by
  obtain ⟨y, rfl, h⟩ := p221 H.f221 (m0 := m) (x1 := x) (K := fun y => y = goesR m x) (by
    unfold T221_0 T221_1
    have hfl := hx.fl
    have hdl := hx.dl
    have hpl := hx.pl
    have t3 : (x.status = 2 ∨ (x.status = 1 ∧ x.key = 0)) → T221_3 prog (fun y => y = goesR m x) m x := fun hs => by
      rw [goes_2 hs]
      unfold T221_3
      refine ⟨fun h => (goes0_f (by omega)).symm, fun h1 => ⟨fun h => (goes0_f (by omega)).symm, fun h2 => ⟨fun h => (goes0_d (by omega)).symm, fun h3 => ⟨_, c163 H.toHasQ hx.p, fun h => (goes0_p h).symm, fun h4 => ?_⟩⟩⟩⟩
      rw [goes0_of (by omega) (by omega) (Decidable.not_not.1 h4)]
      unfold T221_4
      intro P hP
      refine loop_inv0 (P := fun i => P i m x) x.frames.length (fun i => ∀ y ∈ x.frames.take i, fitb m y = true) (by simp) (fun hI => hP _ _ _ ?_) fun i hi hI next => hP _ _ _ ?_
      · rw [List.take_length] at hI
        rw [List.all_eq_true.2 hI, Bool.true_and]
        unfold T221_5 T221_6
        refine ⟨fun h => absurd h (by omega), fun _ P hP => ?_⟩
        refine loop_inv0 (P := fun i => P i m x) x.defers.length (fun i => ∀ y ∈ x.defers.take i, callD m x.frames.length y = true) (by simp) (fun hI => hP _ _ _ ?_) fun i hi hI next => hP _ _ _ ?_
        · rw [List.take_length] at hI
          unfold T221_7 T221_8
          exact ⟨fun h => absurd h (by omega), fun _ => (List.all_eq_true.2 hI).symm⟩
        · unfold T221_7
          refine ⟨fun _ => ⟨by omega, _, get_at hi, _, c235 H hm (hx.d _ (List.getElem_mem hi)), fun h => ?_, fun h => ?_⟩, fun h => absurd (show (i : Int) < x.defers.length by omega) h⟩
          · refine (List.all_eq_false.2 ⟨_, List.getElem_mem hi, ?_⟩).symm
            simpa using h
          · rw [wr_i64 (by omega) (by omega)]
            refine next fun y hy => ?_
            rw [List.take_succ_eq_append_getElem hi] at hy
            rcases List.mem_append.1 hy with hy | hy
            · exact hI y hy
            · rw [List.mem_singleton.1 hy]; simpa using h
      · unfold T221_5
        refine ⟨fun _ => ⟨by omega, _, get_at hi, _, c87 H.toHasF hm (hx.f _ (List.getElem_mem hi)), fun h => ?_, fun h => ?_⟩, fun h => absurd (show (i : Int) < x.frames.length by omega) h⟩
        · rw [List.all_eq_false.2 ⟨_, List.getElem_mem hi, ?_⟩]; rfl
          intro hb; exact h (fitR_yes hb).symm
        · rw [wr_i64 (by omega) (by omega)]
          refine next fun y hy => ?_
          rw [List.take_succ_eq_append_getElem hi] at hy
          rcases List.mem_append.1 hy with hy | hy
          · exact hI y hy
          · rw [List.mem_singleton.1 hy]
            by_cases hb : fitb m x.frames[i] = true
            · exact hb
            · exact absurd (fitR_no hb).symm (by rw [Decidable.not_not.1 h]; decide)
    refine ⟨fun h3 => ?_, fun h3 => ?_⟩
    · rw [goes_3 h3]
      refine ⟨fun k1 => ⟨fun k2 => ⟨fun k3 => ?_, fun k3 => ?_⟩, fun k2 => ?_⟩, fun k1 => ?_⟩
      · rw [decide_eq_true (p := x.frames.length = 0) (by omega), decide_eq_true (p := x.defers.length = 0) (by omega), decide_eq_true (p := x.panics.length = 0) (by omega)]; rfl
      · rw [decide_eq_false (p := x.panics.length = 0) (by omega)]; simp
      · rw [decide_eq_false (p := x.defers.length = 0) (by omega)]; simp
      · rw [decide_eq_false (p := x.frames.length = 0) (by omega)]; simp
    · unfold T221_2
      refine ⟨fun h2 => ⟨fun h1 => (goes_no h3 (by omega)).symm, fun h1 => ⟨fun hk => (goes_no h3 (by omega)).symm, fun hk => t3 (.inr (by omega))⟩⟩, fun h2 => t3 (.inl (by omega))⟩)
  exact h
theorem c225 {m : Img} (hm : OkI m) {x : Rou} (hx : WfR x) : PuN prog 225 ([x.av] ++ [.fp m.row]) (fun r => r = .b (!goesR m x)) := by
  refine (p225 H.f225 (x0 := x) (t1 := m) (K := fun y => y = !goesR m x) ?_).to ?_
  · unfold T225_0
    exact ⟨_, c219 H hm hx, rfl⟩
  · rintro r ⟨x, rfl, rfl⟩; rfl
def fitSR (m : Img) (s : Sta) : Int := if fitS m s = true then 0 else 8
theorem c213 {m : Img} {s : Sta} (hm : OkI m) (hs : WfS s) : Pus prog 213 [m.av, s.av] (.i .i64 (fitSR m s)) := by
  obtain ⟨y, rfl, h⟩ := p213 H.f213 (m0 := m) (s1 := s) (K := fun y => y = fitSR m s) (by
    unfold T213_0 fitSR fitS
    refine ⟨fun h => ?_, fun h1 => ⟨fun h => ?_, fun h2 => ⟨fun h => ?_, fun h3 => ⟨fun h => ?_, fun h4 => ⟨fun h => ?_, fun h5 => ⟨fun h => ?_, fun h6 => ⟨fun h => ?_, fun h7 => ?_⟩⟩⟩⟩⟩⟩⟩
    · rw [decide_eq_false (by omega)]; rfl
    · rw [decide_eq_false (by omega)]; rfl
    · rw [decide_eq_false (p := 0 ≤ s.steps ∧ _) (by omega)]; simp
    · rw [decide_eq_false (p := 0 ≤ s.steps ∧ _) (by omega)]; simp
    · rw [decide_eq_false (p := s.routines.length ≤ 16) (by omega)]; simp
    · rw [decide_eq_false (p := -1 ≤ s.failing ∧ _) (by omega)]; simp
    · rw [decide_eq_false (p := -1 ≤ s.failing ∧ _) (by omega)]; simp
    rw [decide_eq_true (by omega), decide_eq_true (by omega), decide_eq_true (by omega), decide_eq_true (by omega)]
    simp only [Bool.true_and]
    refine ⟨_, fun o => c224 H (l := s.routines) (f := (225, [.fp m.row])) (p := fun y => !goesR m y) hs.n (fun y hy => c225 H hm (hs.r y hy)) o, fun h => ?_, fun h => ?_⟩
    · have := any_not (goesR m) s.routines
      rw [h] at this
      rw [← this]; rfl
    · have := any_not (goesR m) s.routines
      rw [h] at this
      rw [← this]; rfl)
  exact h
theorem c214 {m : Img} {s : Sta} (hm : OkI m) (hs : WfS s) : Pus prog 214 [m.av, s.av] (.i .i64 (fitSR m s)) := by
  obtain ⟨y, rfl, h⟩ := p214 H.f214 (m0 := m) (s1 := s) (K := fun y => y = fitSR m s) (by
    unfold T214_0 fitSR fitS
    refine ⟨fun h => ?_, fun h1 => ⟨fun h => ?_, fun h2 => ⟨fun h => ?_, fun h3 => ⟨fun h => ?_, fun h4 => ⟨fun h => ?_, fun h5 => ⟨fun h => ?_, fun h6 => ⟨fun h => ?_, fun h7 => ?_⟩⟩⟩⟩⟩⟩⟩
    · rw [decide_eq_false (by omega)]; rfl
    · rw [decide_eq_false (by omega)]; rfl
    · rw [decide_eq_false (p := 0 ≤ s.steps ∧ _) (by omega)]; simp
    · rw [decide_eq_false (p := 0 ≤ s.steps ∧ _) (by omega)]; simp
    · rw [decide_eq_false (p := s.routines.length ≤ 16) (by omega)]; simp
    · rw [decide_eq_false (p := -1 ≤ s.failing ∧ _) (by omega)]; simp
    · rw [decide_eq_false (p := -1 ≤ s.failing ∧ _) (by omega)]; simp
    rw [decide_eq_true (by omega), decide_eq_true (by omega), decide_eq_true (by omega), decide_eq_true (by omega)]
    simp only [Bool.true_and]
    unfold T214_1
    intro P hP
    refine loop_inv0 (P := fun i => P i m s) s.routines.length (fun i => ∀ y ∈ s.routines.take i, goesR m y = true) (by simp) (fun hI => hP _ _ _ ?_) fun i hi hI next => hP _ _ _ ?_
    · rw [List.take_length] at hI
      unfold T214_2 T214_3
      exact ⟨fun h => absurd h (by omega), fun _ => by rw [if_pos (List.all_eq_true.2 hI)]⟩
    · unfold T214_2
      refine ⟨fun _ => ⟨by omega, _, get_at hi, _, c221 H hm (hs.r _ (List.getElem_mem hi)), fun h => ?_, fun h => ?_⟩, fun h => absurd (show (i : Int) < s.routines.length by omega) h⟩
      · rw [List.all_eq_false.2 ⟨_, List.getElem_mem hi, by simpa using h⟩]; rfl
      · rw [wr_i64 (by omega) (by omega)]
        refine next fun y hy => ?_
        rw [List.take_succ_eq_append_getElem hi] at hy
        rcases List.mem_append.1 hy with hy | hy
        · exact hI y hy
        · rw [List.mem_singleton.1 hy]; simpa using h)
  exact h
theorem c204 {x : Rou} (hx : WfR0 x) : Pus prog 204 [x.av] (.b (greatR x)) := by
  obtain ⟨y, rfl, h⟩ := p204 H.f204 (x0 := x) (K := fun y => y = greatR x) (by
    have hfl := hx.fl
    have hdl := hx.dl
    have hpl := hx.pl
    unfold T204_0 greatR
    refine ⟨fun h => ?_, fun h1 => ⟨fun h => ?_, fun h2 => ⟨fun h => ?_, fun h3 => ⟨_, c162 H.toHasQ hx.p, fun h => ?_, fun h4 => ?_⟩⟩⟩⟩
    · rw [decide_eq_true (by omega)]; rfl
    · rw [decide_eq_true (p := 12 < x.defers.length) (by omega)]; simp
    · rw [decide_eq_true (p := 20 < x.panics.length) (by omega)]; simp
    · rw [h]; simp
    rw [decide_eq_false (by omega), decide_eq_false (by omega), decide_eq_false (by omega), h4]
    simp only [Bool.false_or]
    unfold T204_1
    intro P hP
    refine loop_inv0 (P := fun i => P i x) x.frames.length (fun i => ∀ y ∈ x.frames.take i, greatX y = false) (by simp) (fun hI => hP _ _ ?_) fun i hi hI next => hP _ _ ?_
    · rw [List.take_length] at hI
      rw [List.any_eq_false.2 fun y hy => by rw [hI y hy]; decide]
      simp only [Bool.false_or]
      unfold T204_2 T204_3
      refine ⟨fun h => absurd h (by omega), fun _ P hP => ?_⟩
      refine loop_inv0 (P := fun i => P i x) x.defers.length (fun i => ∀ y ∈ x.defers.take i, greatv y.arg = false) (by simp) (fun hI => hP _ _ ?_) fun i hi hI next => hP _ _ ?_
      · rw [List.take_length] at hI
        rw [List.any_eq_false.2 fun y hy => by rw [hI y hy]; decide]
        unfold T204_4 T204_5
        exact ⟨fun h => absurd h (by omega), fun _ => rfl⟩
      · unfold T204_4
        refine ⟨fun _ => ⟨by omega, _, get_at hi, _, c71 H.toHas38 (hx.d _ (List.getElem_mem hi)), fun h => ?_, fun h => ?_⟩, fun h => absurd (show (i : Int) < x.defers.length by omega) h⟩
        · exact (List.any_eq_true.2 ⟨_, List.getElem_mem hi, h⟩).symm
        · rw [wr_i64 (by omega) (by omega)]
          refine next fun y hy => ?_
          rw [List.take_succ_eq_append_getElem hi] at hy
          rcases List.mem_append.1 hy with hy | hy
          · exact hI y hy
          · rw [List.mem_singleton.1 hy]; exact h
    · unfold T204_2
      refine ⟨fun _ => ⟨by omega, _, get_at hi, _, c80 H.toHasF (hx.f _ (List.getElem_mem hi)), fun h => ?_, fun h => ?_⟩, fun h => absurd (show (i : Int) < x.frames.length by omega) h⟩
      · rw [List.any_eq_true.2 ⟨_, List.getElem_mem hi, h⟩]; rfl
      · rw [wr_i64 (by omega) (by omega)]
        refine next fun y hy => ?_
        rw [List.take_succ_eq_append_getElem hi] at hy
        rcases List.mem_append.1 hy with hy | hy
        · exact hI y hy
        · rw [List.mem_singleton.1 hy]; exact h)
  exact h
theorem c203 {s : Sta} (hs : WfS0 s) : Pus prog 203 [s.av] (.b (greatS s)) := by
  obtain ⟨y, rfl, h⟩ := p203 H.f203 (s0 := s) (K := fun y => y = greatS s) (by
    have hn := hs.n
    unfold T203_0
    intro P hP
    have fin : (s.routines.take 21).any greatR = false → T203_3 prog (fun x => x = greatS s) s := by
      intro h
      unfold T203_3 greatS
      rw [h, Bool.false_or]
      exact decide_eq_decide.2 (by omega)
    refine loop_inv0 (P := fun i => P i s) (min s.routines.length 21) (fun i => (s.routines.take i).any greatR = false) (by simp) (fun hI => hP _ _ ?_) fun i hi hI ihP => hP _ _ ?_
    · unfold T203_1
      refine ⟨fun h => ⟨fun h' => absurd h' (by omega), fun _ => fin ?_⟩, fun h => fin ?_⟩
      · rwa [show min s.routines.length 21 = 21 by omega] at hI
      · rw [show min s.routines.length 21 = s.routines.length by omega, List.take_length] at hI
        rw [List.any_eq_false] at hI ⊢
        exact fun x hx => hI x (List.mem_of_mem_take hx)
    · have hil : i < s.routines.length := by omega
      unfold T203_1
      refine ⟨fun _ => ⟨fun _ => ?_, fun h => absurd (show (i : Int) ≤ 20 by omega) h⟩, fun h => absurd (show (i : Int) < s.routines.length by omega) h⟩
      unfold T203_2
      refine ⟨by omega, _, get_at hil, _, c204 H (hs.r _ (List.getElem_mem hil)), fun h => ?_, fun h => ?_⟩
      · unfold greatS
        rw [List.any_eq_true.2 ⟨s.routines[i], by rw [List.mem_take_iff_getElem]; exact ⟨i, by omega, rfl⟩, h⟩]
        rfl
      · rw [wr_i64 (by omega) (by omega)]
        exact ihP (by rw [List.take_succ_eq_append_getElem hil, List.any_append, hI]; simpa using h))
  exact h
end
end Go.AM

/- Parts of the proof. -/
namespace Go.AM
open Go
theorem nameAt_eq' {m : Img} {n : Int} {f : Fun} (h : m.funcs[n.toNat]? = some f) : nameAt m n = f.name := by unfold nameAt; rw [h]; rfl
theorem len_cat2 (a b : Bytes) : (a ++ b).length = a.length + b.length := List.length_append
theorem frmL_len {m : Img} {k : Int} {x : Frm} (hm : OkI m) (hx : WfX x) (hb : fitb m x = true) : (∀ s ∈ frmL m k x, s.length ≤ 1301000) ∧ (frmL m k x).length ≤ 17 := by
  obtain ⟨f0, f1, f, hf, hF⟩ := fitb_iff.1 hb
  obtain ⟨g1, g2, g3, g4, g5, g6⟩ := fitF_iff.1 hF
  obtain ⟨q1, q2, q3, q4⟩ := hm.f f (List.mem_of_getElem? hf)
  have l1 := num_len k
  have l2 := num_len x.func
  have l3 := num_len x.pos
  have l4 := quo_len f.name
  have l5 := modeW_len hx.m f1
  rw [frmL_eq hf]
  refine ⟨fun s hs => ?_, ?_⟩
  · rcases List.mem_cons.1 hs with rfl | hs
    · unfold headL
      simp only [List.length_append, List.length_cons, List.length_nil]
      omega
    · obtain ⟨l, hl, rfl⟩ := List.mem_map.1 hs
      obtain ⟨a1, a2, a3⟩ := asc_mem g6 _ hl
      obtain ⟨s, b1, b2, b3⟩ := slot_at (f := f) (n := l.slot) (by omega) (by omega)
      have c1 := num_len l.slot
      have c2 := quo_len s.name
      have c3 := q4 s b2
      have c4 := fine_len a3
      unfold locL
      rw [b3]
      simp only [List.length_append, List.length_cons, List.length_nil]
      omega
  · rw [List.length_cons, List.length_map]
    rcases asc_len g6 with h | h
    · rw [h]; decide
    · omega
theorem frmsL_len {m : Img} (hm : OkI m) : ∀ (l : List Frm) (i : Nat), (∀ x ∈ l, WfX x) → (∀ x ∈ l, fitb m x = true) → (∀ s ∈ frmsL m i l, s.length ≤ 1301000) ∧ (frmsL m i l).length ≤ 17 * l.length
  | [], i, _, _ => ⟨fun s hs => (by cases hs), Nat.le_refl _⟩
  | x :: r, i, hw, hb => by
    obtain ⟨h1, h2⟩ := frmL_len (k := i) hm (hw x List.mem_cons_self) (hb x List.mem_cons_self)
    obtain ⟨h3, h4⟩ := frmsL_len hm r (i + 1) (fun y hy => hw y (List.mem_cons_of_mem _ hy)) fun y hy => hb y (List.mem_cons_of_mem _ hy)
    rw [frmsL]
    refine ⟨fun s hs => ?_, ?_⟩
    · rcases List.mem_append.1 hs with hs | hs
      · exact h1 s hs
      · exact h3 s hs
    · rw [List.length_append, List.length_cons]; omega
theorem frmsL_snoc (m : Img) : ∀ (l : List Frm) (i : Nat) (x : Frm), frmsL m i (l ++ [x]) = frmsL m i l ++ frmL m ((i + l.length : Nat) : Int) x
  | [], i, x => by simp [frmsL]
  | y :: r, i, x => by
    rw [List.cons_append, frmsL, frmsL_snoc m r (i + 1) x, frmsL, List.append_assoc, List.length_cons, show i + 1 + r.length = i + (r.length + 1) by omega]
theorem callD_iff {m : Img} {many : Int} {d : Dfr} (h : callD m many d = true) : 0 ≤ d.frame ∧ d.frame < many ∧ 0 ≤ d.func ∧ (∃ f, m.funcs[d.func.toNat]? = some f ∧ f.name.length ≤ 16 ∧ nameAt m d.func = f.name) ∧ (d.hasArg = true → fine d.arg = true ∧ (d.arg.kind = 1 ∨ d.arg.kind = 2 ∨ d.arg.kind = 4)) ∧ (d.hasArg = false → d.arg = vz) := by
  unfold callD nameOk at h
  cases hf : m.funcs[d.func.toNat]? with
  | none => rw [hf] at h; simp at h
  | some f =>
    rw [hf] at h
    simp only [Bool.and_eq_true, decide_eq_true_eq] at h
    obtain ⟨⟨⟨⟨h1, h2⟩, h3⟩, h4⟩, h5⟩ := h
    refine ⟨h1, h2, h3, ⟨f, rfl, h4, nameAt_eq' hf⟩, fun ha => ?_, fun ha => ?_⟩
    · rw [ha, if_pos rfl, Bool.and_eq_true, decide_eq_true_eq] at h5
      exact ⟨h5.2, h5.1⟩
    · rw [ha] at h5
      exact isZ_true.1 (by simpa using h5)
theorem defL_len {m : Img} {many : Int} {d : Dfr} (h : callD m many d = true) : (defL m d).length ≤ 1301000 := by
  obtain ⟨h1, h2, h3, ⟨f, hf, h4, h5⟩, h6, _⟩ := callD_iff h
  have l1 := num_len d.frame
  have l2 := num_len d.func
  have l3 := quo_len f.name
  unfold defL
  rw [h5]
  simp only [List.length_append, List.length_cons, List.length_nil]
  cases ha : d.hasArg
  · simp only [Bool.false_eq_true, if_false, List.length_nil]; omega
  · have := fine_len (h6 ha).1
    simp only [if_true, List.length_append, List.length_cons, List.length_nil]; omega
structure Go0 (m : Img) (x : Rou) : Prop where
  f : x.frames.length ≤ 170
  d : x.defers.length ≤ 410
  p : x.panics.length ≤ 410
  fb : ∀ y ∈ x.frames, fitb m y = true
  db : ∀ y ∈ x.defers, callD m x.frames.length y = true
  pb : ∀ y ∈ x.panics, okP y = true
  st : x.status = 1 ∨ x.status = 2 ∨ x.status = 3
theorem Go0.of {m : Img} {x : Rou} (h : goesR m x = true) : Go0 m x := by
  by_cases h3 : x.status = 3
  · rw [goes_3 h3] at h
    simp only [Bool.and_eq_true, decide_eq_true_eq, List.length_eq_zero_iff] at h
    obtain ⟨⟨⟨k1, k2⟩, k3⟩, k4⟩ := h
    exact ⟨by rw [k1]; decide, by rw [k2]; decide, by rw [k3]; decide, by rw [k1]; simp, by rw [k2]; simp, by rw [k3]; simp, .inr (.inr h3)⟩
  · by_cases h2 : x.status = 2 ∨ (x.status = 1 ∧ x.key = 0)
    · rw [goes_2 h2] at h
      unfold goes0 at h
      simp only [Bool.and_eq_true, decide_eq_true_eq, List.all_eq_true] at h
      obtain ⟨⟨⟨⟨k1, k2⟩, k3⟩, k4⟩, k5⟩ := h
      exact ⟨k1.2, k2, (chain_ok k3).1, k4, k5, (chain_ok k3).2, by omega⟩
    · rw [goes_no h3 h2] at h; cases h
theorem parts_len {m : Img} {x : Rou} (hm : OkI m) (hx : WfR x) (h : Go0 m x) : (∀ s ∈ partsL m x, s.length ≤ 1301000) ∧ (partsL m x).length ≤ 4000 := by
  obtain ⟨h1, h2⟩ := frmsL_len hm x.frames 0 hx.f h.fb
  have a := h.f
  have b := h.d
  have c := h.p
  refine ⟨fun s hs => ?_, ?_⟩
  · unfold partsL at hs
    rcases List.mem_append.1 hs with hs | hs
    · rcases List.mem_append.1 hs with hs | hs
      · exact h1 s hs
      · obtain ⟨d, hd, rfl⟩ := List.mem_map.1 hs
        exact defL_len (h.db d hd)
    · obtain ⟨p, hp, rfl⟩ := List.mem_map.1 hs
      have := shown_len (h.pb p hp)
      exact Nat.le_trans this (by decide)
  · unfold partsL
    simp only [List.length_append, List.length_map]
    omega
theorem statL_len (x : Rou) : (statL x).length ≤ 80 := by
  have := num_len x.key
  unfold statL
  split
  · decide
  · split
    · decide
    · simp only [List.length_append, List.length_cons, List.length_nil]; omega
theorem headR_len (g : Int) (x : Rou) : (headR g x).length ≤ 200 := by
  have := num_len g
  have := statL_len x
  unfold headR
  simp only [List.length_append, List.length_cons, List.length_nil]; omega
theorem linR_len {m : Img} {g : Int} {x : Rou} (hm : OkI m) (hx : WfR x) (h : Go0 m x) : (∀ s ∈ linR m g x, s.length ≤ 1301002) ∧ (linR m g x).length ≤ 4001 := by
  obtain ⟨h1, h2⟩ := parts_len hm hx h
  unfold linR
  refine ⟨fun s hs => ?_, ?_⟩
  · rcases List.mem_cons.1 hs with rfl | hs
    · exact Nat.le_trans (headR_len g x) (by decide)
    · obtain ⟨t, ht, rfl⟩ := List.mem_map.1 hs
      have := h1 t ht
      unfold sp2
      simp only [List.length_append, List.length_cons, List.length_nil]; omega
  · rw [List.length_cons, List.length_map]; omega
theorem nlT_len {B : Nat} : ∀ {l : List Bytes}, (∀ s ∈ l, s.length ≤ B) → (nlT l).length ≤ (B + 1) * l.length
  | [], _ => Nat.le_refl _
  | s :: r, h => by
    have h1 := h s List.mem_cons_self
    have h2 := nlT_len fun t ht => h t (List.mem_cons_of_mem _ ht)
    unfold nlT at h2 ⊢
    simp only [List.flatMap_cons, List.length_append, List.length_cons, List.length_nil]
    rw [Nat.mul_succ]
    omega
theorem nlT_app (a b : List Bytes) : nlT (a ++ b) = nlT a ++ nlT b := by unfold nlT; rw [List.flatMap_append]
theorem nlT_take {l : List Bytes} {i : Nat} (h : i < l.length) : nlT (l.take (i + 1)) = nlT (l.take i) ++ (l[i] ++ [10]) := by
  rw [List.take_succ_eq_append_getElem h, nlT_app]
  simp [nlT]
theorem nlT_lin {m : Img} {g : Int} {x : Rou} (hm : OkI m) (hx : WfR x) (h : Go0 m x) (i : Nat) : (nlT ((linR m g x).take i)).length ≤ 5300000000 := by
  obtain ⟨h1, h2⟩ := linR_len (g := g) hm hx h
  have h3 := nlT_len (l := (linR m g x).take i) (B := 1301002) fun s hs => h1 s (List.mem_of_mem_take hs)
  have h4 : ((linR m g x).take i).length ≤ 4001 := by rw [List.length_take]; omega
  have h5 : 1301003 * ((linR m g x).take i).length ≤ 1301003 * 4001 := Nat.mul_le_mul_left _ h4
  exact Nat.le_trans h3 (Nat.le_trans h5 (by decide))
theorem rousT_snoc (m : Img) : ∀ (l : List Rou) (i : Nat) (x : Rou), rousT m i (l ++ [x]) = rousT m i l ++ nlT (linR m ((i + l.length : Nat) : Int) x)
  | [], i, x => by simp [rousT]
  | y :: r, i, x => by
    rw [List.cons_append, rousT, rousT_snoc m r (i + 1) x, rousT, List.append_assoc, List.length_cons, show i + 1 + r.length = i + (r.length + 1) by omega]
theorem rousT_len {m : Img} (hm : OkI m) : ∀ (l : List Rou) (i : Nat), (∀ x ∈ l, WfR x) → (∀ x ∈ l, Go0 m x) → (rousT m i l).length ≤ 5300000000 * l.length
  | [], i, _, _ => Nat.le_refl _
  | x :: r, i, hw, hb => by
    have h1 := nlT_lin (g := i) hm (hw x List.mem_cons_self) (hb x List.mem_cons_self) (linR m i x).length
    rw [List.take_length] at h1
    have h2 := rousT_len hm r (i + 1) (fun y hy => hw y (List.mem_cons_of_mem _ hy)) fun y hy => hb y (List.mem_cons_of_mem _ hy)
    rw [rousT, List.length_append, List.length_cons]
    omega
theorem rouR_yes {m : Img} {g : Int} {x : Rou} (h : ¬(g < 0 ∨ 16 ≤ g)) (h1 : goesR m x = true) : rouR m g x = (linR m g x, 0) := by unfold rouR; rw [if_neg h, if_pos h1]
theorem rouR_no {m : Img} {g : Int} {x : Rou} (h : ¬(g < 0 ∨ 16 ≤ g)) (h1 : goesR m x = false) : rouR m g x = ([], 8) := by unfold rouR; rw [if_neg h, if_neg (by rw [h1]; decide)]
theorem rouR_bad {m : Img} {g : Int} {x : Rou} (h : g < 0 ∨ 16 ≤ g) : rouR m g x = ([], 2) := by unfold rouR; rw [if_pos h]
section
variable {prog : Prog} (H : HasT prog)
include H
theorem c217 {b : List UInt8} (hs : b.length ≤ maxBytes) : PuX prog 217 (Bl b) [] (fun r => r = .i .i64 (b.length : Int)) (Bl b) := by
  refine PuX.of H.f217 rfl Bl.out fun d st k v hk hB => ?_
  obtain ⟨c0, o, hb, hc0, hap, hbig⟩ := hB
  refine W.seq (W.reg0 rfl fun nx _ => s_mv rfl (s_nil (W.seq (W.reg0 rfl fun nx2 _ => ?_))))
  refine s_mv (v := .p k v 0) rfl (s_nilP rfl (s_fadP rfl (s_loadP (w := .sl o (b.map row8)) rfl hb rfl rfl (s_lenL (f := row8) rfl (s_mv rfl (s_nil (W.ret ?_)))))))
  refine ⟨.inr rfl, _, rfl, rfl, ⟨c0, o, hb, hc0, hap, hbig⟩, Fr.refl⟩
theorem c234 {m : Img} {many : Int} {d : Dfr} (hm : OkI m) (hd : Wf d.arg) (hn : many ≤ 1000) (h : callD m many d = true) : Pus prog 234 [m.av, d.av] (.tup [.s (defL m d), .i .i64 0]) := by
  obtain ⟨x, y, ⟨rfl, rfl⟩, h⟩ := p234 H.f234 (m0 := m) (d1 := d) (K := fun x y => x = defL m d ∧ y = 0) (by
    obtain ⟨h1, h2, h3, ⟨f, hf, h4, h5⟩, h6, _⟩ := callD_iff h
    have hfl : d.func < m.funcs.length := by
      have := (List.getElem?_eq_some_iff.1 hf).1
      omega
    have hmn := hm.n
    have l1 := num_len d.frame
    have l2 := num_len d.func
    have l3 := quo_len f.name
    have hq := c11 H.toHas03 f.name
    rw [quoR_ok (by omega)] at hq
    unfold T234_0
    refine ⟨h3, f, hf, _, _, hq, fun h => absurd rfl h, fun _ => ⟨_, c216 H (by omega) (by omega), ?_, ?_, _, c216 H (by omega) (by omega), ?_, ?_, ?_, fun ha => ?_, fun ha => ?_⟩⟩
    all_goals try (rw [maxStr_eq]; simp only [List.length_append, List.length_cons, List.length_nil]; omega)
    · have hfi := (h6 ha).1
      have l4 := fine_len hfi
      have k := c72 H.toHas38 hd
      rw [if_pos hfi, chk_fine.2 hfi] at k
      refine ⟨_, _, k, fun h => absurd rfl h, fun _ => ⟨?_, ?_, ?_⟩⟩
      · rw [maxStr_eq]; simp only [List.length_cons, List.length_nil]; omega
      · rw [maxStr_eq]; simp only [List.length_append, List.length_cons, List.length_nil]; omega
      · unfold T234_1 defL
        rw [h5, ha]
        exact ⟨rfl, rfl⟩
    · unfold T234_1 defL
      rw [h5, ha]
      exact ⟨by simp, rfl⟩)
  exact h
theorem c220 {m : Img} {x : Rou} (hm : OkI m) (hx : WfR x) (h : Go0 m x) : Pus prog 220 [m.av, x.av] (.tup [.sl .ext ((partsL m x).map rowS), .i .i64 0]) := by
  obtain ⟨y, z, ⟨rfl, rfl⟩, h⟩ := p220 H.f220 (m0 := m) (x1 := x) (K := fun y z => y = partsL m x ∧ z = 0) (by
    obtain ⟨_, hl⟩ := parts_len hm hx h
    have a := h.f
    have b := h.d
    have c := h.p
    have b1 : ∀ i, i ≤ x.frames.length → (frmsL m 0 (x.frames.take i)).length ≤ 17 * 170 := fun i hi => by
      have h1 := (frmsL_len hm (x.frames.take i) 0 (fun y hy => hx.f y (List.mem_of_mem_take hy)) fun y hy => h.fb y (List.mem_of_mem_take hy)).2
      rw [List.length_take] at h1
      omega
    have b0 : (frmsL m 0 x.frames).length ≤ 17 * 170 := by have := b1 x.frames.length (Nat.le_refl _); rwa [List.take_length] at this
    unfold T220_0 T220_1 T220_2
    intro P hP
    refine loop_up (P := fun o i => P o i m x) (fun i => frmsL m 0 (x.frames.take i)) x.frames.length (hP _ _ _ _ ?_) fun i hi ih => hP _ _ _ _ ?_
    · rw [List.take_length]
      unfold T220_3 T220_4
      refine ⟨fun h => absurd h (by omega), fun _ P hP => ?_⟩
      have ho : frmsL m 0 x.frames = frmsL m 0 x.frames ++ (x.defers.take 0).map (defL m) := by simp
      rw [ho]
      refine loop_up (P := fun o i => P o i m x) (fun i => frmsL m 0 x.frames ++ (x.defers.take i).map (defL m)) x.defers.length (hP _ _ _ _ ?_) fun i hi ih => hP _ _ _ _ ?_
      · rw [List.take_length]
        unfold T220_5 T220_6
        refine ⟨fun h => absurd h (by omega), fun _ P hP => ?_⟩
        have ho : frmsL m 0 x.frames ++ x.defers.map (defL m) = frmsL m 0 x.frames ++ x.defers.map (defL m) ++ (x.panics.take 0).map shown := by simp
        rw [ho]
        refine loop_up (P := fun o i => P o i) (fun i => frmsL m 0 x.frames ++ x.defers.map (defL m) ++ (x.panics.take i).map shown) x.panics.length (hP _ _ ?_) fun i hi ih => hP _ _ ?_
        · rw [List.take_length]
          unfold T220_7 T220_8
          exact ⟨fun h => absurd h (by omega), fun _ => ⟨rfl, rfl⟩⟩
        · have hok := h.pb _ (List.getElem_mem hi)
          have k := c154 H.toHasO (hx.p _ (List.getElem_mem hi))
          rw [show lnP x.panics[i] = (shown x.panics[i], 0) by unfold lnP; rw [if_pos hok]] at k
          unfold T220_7
          refine ⟨fun _ => ⟨by omega, _, get_at hi, _, _, k, fun h => absurd rfl h, fun _ => ⟨⟨?_, ?_⟩, ?_⟩⟩, fun h => absurd (show (i : Int) < x.panics.length by omega) h⟩
          · rw [maxBytes_eq]; simp only [List.length_append, List.length_cons, List.length_nil, List.length_map, List.length_take]; omega
          · rw [maxBytes_eq]; simp only [List.length_append, List.length_cons, List.length_nil, List.length_map, List.length_take]; omega
          · rw [wr_i64 (by omega) (by omega)]
            rw [map_take_snoc shown hi, ← List.append_assoc] at ih
            exact ih
      · have hok := h.db _ (List.getElem_mem hi)
        have k := c234 H hm (hx.d _ (List.getElem_mem hi)) (by omega) hok
        unfold T220_5
        refine ⟨fun _ => ⟨by omega, _, get_at hi, _, _, k, fun h => absurd rfl h, fun _ => ⟨⟨?_, ?_⟩, ?_⟩⟩, fun h => absurd (show (i : Int) < x.defers.length by omega) h⟩
        · rw [maxBytes_eq]; simp only [List.length_append, List.length_cons, List.length_nil, List.length_map, List.length_take]; omega
        · rw [maxBytes_eq]; simp only [List.length_append, List.length_cons, List.length_nil, List.length_map, List.length_take]; omega
        · rw [wr_i64 (by omega) (by omega)]
          rw [map_take_snoc (defL m) hi, ← List.append_assoc] at ih
          exact ih
    · have hb := h.fb _ (List.getElem_mem hi)
      have hw := hx.f _ (List.getElem_mem hi)
      have k := c82 H.toHasF (k := (i : Int)) hm hw
      rw [frR_yes (by omega) hb] at k
      have q1 := b1 i (by omega)
      have q2 := (frmL_len (k := (i : Int)) hm hw hb).2
      unfold T220_3
      refine ⟨fun _ => ⟨by omega, _, get_at hi, _, _, k, fun h => absurd rfl h, fun _ => ⟨⟨?_, ?_⟩, ?_⟩⟩, fun h => absurd (show (i : Int) < x.frames.length by omega) h⟩
      · dsimp only; rw [maxBytes_eq]; omega
      · dsimp only; rw [maxBytes_eq]; omega
      · rw [wr_i64 (by omega) (by omega)]
        rw [List.take_succ_eq_append_getElem hi, frmsL_snoc, List.length_take, show 0 + min i x.frames.length = i by omega] at ih
        exact ih)
  exact h
theorem c207 {m : Img} {g : Int} {x : Rou} (hm : OkI m) (hx : WfR x) : Pus prog 207 [m.av, .i .i64 g, x.av] (.tup [.sl .ext ((rouR m g x).1.map rowS), .i .i64 (rouR m g x).2]) := by
  obtain ⟨y, z, ⟨rfl, rfl⟩, h⟩ := p207 H.f207 (m0 := m) (g1 := g) (x2 := x) (K := fun y z => y = (rouR m g x).1 ∧ z = (rouR m g x).2) (by
    unfold T207_0
    refine ⟨fun h => by rw [rouR_bad (.inl h)]; exact ⟨rfl, rfl⟩, fun h0 => ⟨fun h => by rw [rouR_bad (.inr h)]; exact ⟨rfl, rfl⟩, fun h1 => ?_⟩⟩
    unfold T207_1
    refine ⟨_, c219 H hm hx, fun h => ?_, fun h => ?_⟩
    · rw [rouR_no (by omega) (by simpa using h)]; exact ⟨rfl, rfl⟩
    have hg : goesR m x = true := by simpa using h
    rw [rouR_yes (by omega) hg]
    have h2 := Go0.of hg
    obtain ⟨p1, p2⟩ := parts_len hm hx h2
    have l1 := num_len g
    have l2 := num_len x.key
    have l3 := statL_len x
    have e3 : ∃ c, ([[], ([114, 101, 97, 100, 121] : Bytes), (([98, 108, 111, 99, 107, 101, 100, 32] : Bytes) ++ num x.key), ([100, 111, 110, 101] : Bytes)] : List Bytes)[x.status.toNat]? = some c ∧ c = statL x := by
      unfold statL
      rcases h2.st with h | h | h <;> rw [h] <;> exact ⟨_, rfl, rfl⟩
    obtain ⟨c, e3, rfl⟩ := e3
    refine ⟨_, _, c220 H hm hx h2, fun h => absurd rfl h, fun _ => ⟨_, c216 H (by omega) (by omega), ?_, ?_, _, c15 H.toHas03 hx.k.1 hx.k.2, ?_, hx.st, _, e3, ?_, fun P hP => ?_⟩⟩
    all_goals try (rw [maxStr_eq]; simp only [List.length_append, List.length_cons, List.length_nil]; omega)
    refine loop_up (P := fun o i => P o i) (fun i => headR g x :: ((partsL m x).take i).map sp2) (partsL m x).length (hP _ _ ?_) fun i hi ih => hP _ _ ?_
    · rw [List.take_length]
      unfold T207_2 T207_3
      exact ⟨fun h => absurd h (by omega), fun _ => ⟨rfl, rfl⟩⟩
    · have := p1 _ (List.getElem_mem hi)
      unfold T207_2
      refine ⟨fun _ => ⟨by omega, _, get_at hi, ?_, ⟨?_, ?_⟩, ?_⟩, fun h => absurd (show (i : Int) < (partsL m x).length by omega) h⟩
      · rw [maxStr_eq]; simp only [List.length_cons, List.length_nil]; omega
      · rw [maxBytes_eq]; simp only [List.length_append, List.length_cons, List.length_nil, List.length_map, List.length_take]; omega
      · rw [maxBytes_eq]; simp only [List.length_append, List.length_cons, List.length_nil, List.length_map, List.length_take]; omega
      · rw [wr_i64 (by omega) (by omega)]
        rw [map_take_snoc sp2 hi] at ih
        exact ih)
  exact h
end
end Go.AM

/- Parts of the proof. -/
namespace Go.AM
open Go
theorem sp2d_eq (m : Img) (d : Dfr) : sp2 (defL m d) = [32, 32, 100, 101, 102, 101, 114, 32] ++ num d.frame ++ [32] ++ num d.func ++ [32] ++ quo (nameAt m d.func) ++ (if d.hasArg = true then [32, 119, 105, 116, 104, 32] ++ txt d.arg else []) := rfl
theorem fitS_iff {m : Img} {s : Sta} (h : fitS m s = true) : (1 ≤ s.outcome ∧ s.outcome ≤ 8) ∧ (0 ≤ s.steps ∧ s.steps ≤ 5000) ∧ s.routines.length ≤ 16 ∧ (-1 ≤ s.failing ∧ s.failing < s.routines.length) ∧ ∀ x ∈ s.routines, goesR m x = true := by
  unfold fitS at h
  simp only [Bool.and_eq_true, decide_eq_true_eq, List.all_eq_true] at h
  obtain ⟨⟨⟨⟨h1, h2⟩, h3⟩, h4⟩, h5⟩ := h
  exact ⟨h1, h2, h3, h4, h5⟩
theorem headS_len {s : Sta} (h : 1 ≤ s.outcome ∧ s.outcome ≤ 8) : (headS s).length ≤ 200 := by
  obtain ⟨w, hw, e, hl⟩ := outO_1 h.1 h.2
  have l1 := num_len s.failing
  have l2 := num_len s.steps
  unfold headS
  rw [e]
  simp only [List.length_append, List.length_cons, List.length_nil]
  omega
theorem repT_len {m : Img} {s : Sta} (hm : OkI m) (hs : WfS s) (h : fitS m s = true) (i : Nat) : (headS s ++ rousT m 0 (s.routines.take i)).length ≤ 84800000200 := by
  obtain ⟨h1, h2, h3, h4, h5⟩ := fitS_iff h
  have a := headS_len h1
  have b := rousT_len hm (s.routines.take i) 0 (fun x hx => hs.r x (List.mem_of_mem_take hx)) fun x hx => Go0.of (h5 x (List.mem_of_mem_take hx))
  have c : (s.routines.take i).length ≤ 16 := by rw [List.length_take]; omega
  rw [List.length_append]
  omega
theorem repT_lin {m : Img} {s : Sta} (hm : OkI m) (hs : WfS s) (h : fitS m s = true) {i : Nat} (hi : i < s.routines.length) (j : Nat) : (headS s ++ rousT m 0 (s.routines.take i) ++ nlT ((linR m i s.routines[i]).take j)).length ≤ 90100000200 := by
  obtain ⟨h1, h2, h3, h4, h5⟩ := fitS_iff h
  have a := repT_len hm hs h i
  have b := nlT_lin (g := (i : Int)) hm (hs.r _ (List.getElem_mem hi)) (Go0.of (h5 _ (List.getElem_mem hi))) j
  rw [List.length_append]
  omega
theorem rousT_at {m : Img} {l : List Rou} {i : Nat} (hi : i < l.length) : rousT m 0 (l.take (i + 1)) = rousT m 0 (l.take i) ++ nlT (linR m i l[i]) := by
  rw [List.take_succ_eq_append_getElem hi, rousT_snoc, List.length_take, show 0 + min i l.length = i by omega]
section
variable {prog : Prog} (H : HasT prog)
include H
theorem c222 {m : Img} {g : Int} {x : Rou} (hm : OkI m) (hx : WfR x) (hg : 0 ≤ g ∧ g < 16) (h : Go0 m x) : Pus prog 222 [m.av, .i .i64 g, x.av] (.sl .ext ((linR m g x).map rowS)) := by
  obtain ⟨y, rfl, h⟩ := p222 H.f222 (m0 := m) (g1 := g) (x2 := x) (K := fun y => y = linR m g x) (by
    obtain ⟨p1, p2⟩ := parts_len hm hx h
    have l1 := num_len g
    have l2 := num_len x.key
    have a := h.f
    have b := h.d
    have c := h.p
    have b1 : ∀ i, i ≤ x.frames.length → (frmsL m 0 (x.frames.take i)).length ≤ 17 * 170 := fun i hi => by
      have h1 := (frmsL_len hm (x.frames.take i) 0 (fun y hy => hx.f y (List.mem_of_mem_take hy)) fun y hy => h.fb y (List.mem_of_mem_take hy)).2
      rw [List.length_take] at h1
      omega
    have b0 : (frmsL m 0 x.frames).length ≤ 17 * 170 := by have := b1 x.frames.length (Nat.le_refl _); rwa [List.take_length] at this
    have t3 : T222_3 prog (fun y => y = linR m g x) (headR g x) m x := by
      unfold T222_3 T222_4
      intro P hP
      refine loop_up (P := fun o i => P o i m x) (fun i => headR g x :: (frmsL m 0 (x.frames.take i)).map sp2) x.frames.length (hP _ _ _ _ ?_) fun i hi ih => hP _ _ _ _ ?_
      · rw [List.take_length]
        unfold T222_5 T222_8
        refine ⟨fun h => absurd h (by omega), fun _ P hP => ?_⟩
        have ho : headR g x :: (frmsL m 0 x.frames).map sp2 = headR g x :: (frmsL m 0 x.frames ++ (x.defers.take 0).map (defL m)).map sp2 := by simp
        rw [ho]
        refine loop_up (P := fun o i => P o i m x) (fun i => headR g x :: (frmsL m 0 x.frames ++ (x.defers.take i).map (defL m)).map sp2) x.defers.length (hP _ _ _ _ ?_) fun i hi ih => hP _ _ _ _ ?_
        · rw [List.take_length]
          unfold T222_9 T222_11
          refine ⟨fun h => absurd h (by omega), fun _ P hP => ?_⟩
          have ho : headR g x :: (frmsL m 0 x.frames ++ x.defers.map (defL m)).map sp2 = headR g x :: (frmsL m 0 x.frames ++ x.defers.map (defL m) ++ (x.panics.take 0).map shown).map sp2 := by simp
          rw [ho]
          refine loop_up (P := fun o i => P o i x) (fun i => headR g x :: (frmsL m 0 x.frames ++ x.defers.map (defL m) ++ (x.panics.take i).map shown).map sp2) x.panics.length (hP _ _ _ ?_) fun i hi ih => hP _ _ _ ?_
          · rw [List.take_length]
            unfold T222_12 T222_13
            exact ⟨fun h => absurd h (by omega), fun _ => rfl⟩
          · have hok := h.pb _ (List.getElem_mem hi)
            have hsl := shown_len hok
            unfold T222_12
            refine ⟨fun _ => ⟨by omega, _, get_at hi, _, c179 H.toHasO (hx.p _ (List.getElem_mem hi)) hok, ?_, ⟨?_, ?_⟩, ?_⟩, fun h => absurd (show (i : Int) < x.panics.length by omega) h⟩
            · rw [maxStr_eq]; simp only [List.length_cons, List.length_nil]; omega
            · rw [maxBytes_eq]; simp only [List.length_append, List.length_cons, List.length_nil, List.length_map, List.length_take]; omega
            · rw [maxBytes_eq]; simp only [List.length_append, List.length_cons, List.length_nil, List.length_map, List.length_take]; omega
            · rw [wr_i64 (by omega) (by omega)]
              rw [map_take_snoc shown hi, ← List.append_assoc, List.map_append] at ih
              exact ih
        · have hok := h.db _ (List.getElem_mem hi)
          obtain ⟨h1, h2, h3, ⟨f, hf, h4, h5⟩, h6, _⟩ := callD_iff hok
          have hfl : x.defers[i].func < m.funcs.length := by
            have := (List.getElem?_eq_some_iff.1 hf).1
            omega
          have hmn := hm.n
          have l1 := num_len x.defers[i].frame
          have l2 := num_len x.defers[i].func
          have l3 := quo_len f.name
          rw [map_take_snoc (defL m) hi, ← List.append_assoc, List.map_append, List.map_cons, sp2d_eq] at ih
          rw [h5] at ih
          unfold T222_9
          refine ⟨fun _ => ⟨by omega, _, get_at hi, _, c226 H (by omega) (by omega), ?_, ?_, _, c226 H (by omega) (by omega), ?_, ?_, h3, f, hf, _, c31 H.toHas03 (by omega), ?_, fun ha => ?_, fun ha => ?_⟩, fun h => absurd (show (i : Int) < x.defers.length by omega) h⟩
          all_goals try (rw [maxStr_eq]; simp only [List.length_append, List.length_cons, List.length_nil]; omega)
          · have hfi := (h6 ha).1
            have l4 := fine_len hfi
            refine ⟨_, c106 H.toHas38 130 (fine_ok hfi).1 (hx.d _ (List.getElem_mem hi)) (by omega), ?_, ?_, ?_⟩
            · rw [maxStr_eq]; simp only [List.length_cons, List.length_nil]; omega
            · rw [maxStr_eq]; simp only [List.length_append, List.length_cons, List.length_nil]; omega
            · rw [ha, if_pos rfl] at ih
              unfold T222_10
              refine ⟨⟨?_, ?_⟩, ?_⟩
              · rw [maxBytes_eq]; simp only [List.length_append, List.length_cons, List.length_nil, List.length_map, List.length_take]; omega
              · rw [maxBytes_eq]; simp only [List.length_append, List.length_cons, List.length_nil, List.length_map, List.length_take]; omega
              · rw [wr_i64 (by omega) (by omega)]
                exact ih
          · rw [ha, if_neg (by decide), List.append_nil] at ih
            unfold T222_10
            refine ⟨⟨?_, ?_⟩, ?_⟩
            · rw [maxBytes_eq]; simp only [List.length_append, List.length_cons, List.length_nil, List.length_map, List.length_take]; omega
            · rw [maxBytes_eq]; simp only [List.length_append, List.length_cons, List.length_nil, List.length_map, List.length_take]; omega
            · rw [wr_i64 (by omega) (by omega)]
              exact ih
      · have hb := h.fb _ (List.getElem_mem hi)
        have hw := hx.f _ (List.getElem_mem hi)
        have q1 := b1 i (by omega)
        obtain ⟨q3, q2⟩ := frmL_len (k := (i : Int)) hm hw hb
        rw [List.take_succ_eq_append_getElem hi, frmsL_snoc, List.length_take, show 0 + min i x.frames.length = i by omega, List.map_append, ← List.cons_append] at ih
        unfold T222_5
        refine ⟨fun _ => ⟨by omega, _, get_at hi, _, c114 H.toHasF hm hw (by omega) hb, fun P1 hP1 => ?_⟩, fun h => absurd (show (i : Int) < x.frames.length by omega) h⟩
        have ho : headR g x :: (frmsL m 0 (x.frames.take i)).map sp2 = headR g x :: (frmsL m 0 (x.frames.take i)).map sp2 ++ ((frmL m i x.frames[i]).take 0).map sp2 := by simp
        rw [ho]
        refine loop_up (P := fun o j => P1 o j m x) (fun j => headR g x :: (frmsL m 0 (x.frames.take i)).map sp2 ++ ((frmL m i x.frames[i]).take j).map sp2) (frmL m i x.frames[i]).length (hP1 _ _ _ _ ?_) fun j hj ihj => hP1 _ _ _ _ ?_
        · rw [List.take_length]
          unfold T222_6 T222_7
          refine ⟨fun h => absurd h (by omega), fun _ => ?_⟩
          rw [wr_i64 (by omega) (by omega)]
          exact ih
        · have := q3 _ (List.getElem_mem hj)
          unfold T222_6
          refine ⟨fun _ => ⟨by omega, _, get_at hj, ?_, ⟨?_, ?_⟩, ?_⟩, fun h => absurd (show (j : Int) < (frmL m i x.frames[i]).length by omega) h⟩
          · rw [maxStr_eq]; simp only [List.length_cons, List.length_nil]; omega
          · rw [maxBytes_eq]; simp only [List.length_append, List.length_cons, List.length_nil, List.length_map, List.length_take]; omega
          · rw [maxBytes_eq]; simp only [List.length_append, List.length_cons, List.length_nil, List.length_map, List.length_take]; omega
          · rw [wr_i64 (by omega) (by omega)]
            rw [map_take_snoc sp2 hj, ← List.append_assoc] at ihj
            exact ihj
    unfold T222_0 T222_1
    refine ⟨_, c226 H (by omega) (by omega), ?_, ?_, ?_⟩
    · rw [maxStr_eq]; simp only [List.length_cons, List.length_nil]; omega
    · rw [maxStr_eq]; simp only [List.length_append, List.length_cons, List.length_nil]; omega
    unfold headR statL at t3
    unfold T222_2
    refine ⟨fun h1 => ⟨?_, ?_⟩, fun h1 => ⟨fun h3 => ⟨?_, ?_⟩, fun h3 => ⟨_, c16 H.toHas03 hx.k.1 hx.k.2, ?_, ?_, ?_⟩⟩⟩
    all_goals try (rw [maxStr_eq]; simp only [List.length_append, List.length_cons, List.length_nil]; omega)
    · rw [if_pos h1] at t3; exact t3
    · rw [if_neg h1, if_pos h3] at t3; exact t3
    · rw [if_neg h1, if_neg h3] at t3; exact t3)
  exact h
theorem c208 {m : Img} {g : Int} {x : Rou} (hm : OkI m) (hx : WfR x) : Pus prog 208 [m.av, .i .i64 g, x.av] (.tup [.sl .ext ((rouR m g x).1.map rowS), .i .i64 (rouR m g x).2]) := by
  obtain ⟨y, z, ⟨rfl, rfl⟩, h⟩ := p208 H.f208 (m0 := m) (g1 := g) (x2 := x) (K := fun y z => y = (rouR m g x).1 ∧ z = (rouR m g x).2) (by
    unfold T208_0
    refine ⟨fun h => by rw [rouR_bad (.inl h)]; exact ⟨rfl, rfl⟩, fun h0 => ⟨fun h => by rw [rouR_bad (.inr h)]; exact ⟨rfl, rfl⟩, fun h1 => ?_⟩⟩
    unfold T208_1
    refine ⟨_, c221 H hm hx, fun h => ?_, fun h => ?_⟩
    · rw [rouR_no (by omega) (by simpa using h)]; exact ⟨rfl, rfl⟩
    have hg : goesR m x = true := by simpa using h
    rw [rouR_yes (by omega) hg]
    exact ⟨_, c222 H hm hx (by omega) (Go0.of hg), rfl, rfl⟩)
  exact h
theorem c205 {m : Img} {s : Sta} (hm : OkI m) (hs : WfS s) : Pus prog 205 [m.av, s.av] (.tup [.s (repR m s).1, .i .i64 (repR m s).2]) := by
  obtain ⟨x, y, ⟨rfl, rfl⟩, h⟩ := p205 H.f205 (m0 := m) (s1 := s) (K := fun x y => x = (repR m s).1 ∧ y = (repR m s).2) (by
    unfold T205_0 T205_1
    refine ⟨_, c213 H hm hs, fun h => ?_, fun h => ?_⟩
    · unfold fitSR repR at *
      by_cases hf : fitS m s = true
      · rw [if_pos hf] at h; exact absurd rfl h
      · rw [if_neg hf, if_neg hf]; exact ⟨rfl, rfl⟩
    have hf : fitS m s = true := by
      unfold fitSR at h
      by_cases hf : fitS m s = true
      · exact hf
      · rw [if_neg hf] at h; exact absurd (by decide) h
    obtain ⟨h1, h2, h3, h4, h5⟩ := fitS_iff hf
    obtain ⟨w, hw, e, hl⟩ := outO_1 h1.1 h1.2
    have l1 := num_len s.failing
    have l2 := num_len s.steps
    unfold T205_2 T205_3
    refine ⟨_, c215 H, rfl, by omega, w, hw, ?_, ?_, _, c216 H (by omega) (by omega), ?_, ?_, _, c216 H (by omega) (by omega), ?_, ?_, _, _, c126 H.toHasB ?_ (by simp), fun P hP => ?_⟩
    all_goals try (rw [maxStr_eq]; simp only [List.length_append, List.length_cons, List.length_nil]; omega)
    · rw [maxBytes_eq]; simp only [List.length_append, List.length_cons, List.length_nil]; omega
    have e0 : ([] : Bytes) ++ ([111, 117, 116, 99, 111, 109, 101, 32] ++ w ++ [44, 32, 102, 97, 105, 108, 105, 110, 103, 32] ++ num s.failing ++ [44, 32, 115, 116, 101, 112, 115, 32] ++ num s.steps ++ [10]) = headS s ++ rousT m 0 (s.routines.take 0) := by
      unfold headS; rw [e]; simp [rousT]
    rw [e0]
    refine loop_up (P := fun b i => P i m b) (fun i => headS s ++ rousT m 0 (s.routines.take i)) s.routines.length (hP _ _ _ ?_) fun i hi ih => hP _ _ _ ?_
    · have hb := repT_len hm hs hf s.routines.length
      rw [List.take_length] at hb ⊢
      have er : headS s ++ rousT m 0 s.routines = repT m s := rfl
      rw [er] at hb ⊢
      unfold T205_4 T205_7 repR
      rw [if_pos hf]
      refine ⟨fun h => absurd h (by omega), fun _ => ⟨_, _, c217 H (by rw [maxBytes_eq]; omega), fun h => ?_, fun h => ⟨_, c105 H.toHasB (by rw [maxBytes_eq]; omega), ?_⟩⟩⟩
      · rw [if_pos (by omega)]; exact ⟨rfl, rfl⟩
      · rw [if_neg (by omega)]; exact ⟨rfl, rfl⟩
    · have hw := hs.r _ (List.getElem_mem hi)
      have hg := h5 _ (List.getElem_mem hi)
      have k := c207 H (g := (i : Int)) hm hw
      rw [rouR_yes (by omega) hg] at k
      unfold T205_4
      refine ⟨fun _ => ⟨by omega, _, get_at hi, _, _, k, fun h => absurd rfl h, fun _ P1 hP1 => ?_⟩, fun h => absurd (show (i : Int) < s.routines.length by omega) h⟩
      have ho : headS s ++ rousT m 0 (s.routines.take i) = headS s ++ rousT m 0 (s.routines.take i) ++ nlT ((linR m i s.routines[i]).take 0) := by simp [nlT]
      rw [ho]
      obtain ⟨q1, q2⟩ := linR_len (g := (i : Int)) hm hw (Go0.of hg)
      refine loop_up (P := fun b j => P1 j m b) (fun j => headS s ++ rousT m 0 (s.routines.take i) ++ nlT ((linR m i s.routines[i]).take j)) (linR m i s.routines[i]).length (hP1 _ _ _ ?_) fun j hj ihj => hP1 _ _ _ ?_
      · rw [List.take_length]
        unfold T205_5 T205_6
        refine ⟨fun h => absurd h (by dsimp only; omega), fun _ => ?_⟩
        rw [wr_i64 (by omega) (by omega)]
        rw [rousT_at hi, ← List.append_assoc] at ih
        exact ih
      · have r1 := q1 _ (List.getElem_mem hj)
        have r2 := repT_lin hm hs hf hi j
        unfold T205_5
        refine ⟨fun _ => ⟨by omega, _, get_at hj, ?_, _, _, c126 H.toHasB ?_ (by simp), ?_⟩, fun h => absurd (show (j : Int) < (linR m i s.routines[i]).length by omega) h⟩
        · rw [maxStr_eq]; simp only [List.length_cons, List.length_nil]; omega
        · rw [maxBytes_eq, len_cat2 _ [10]]; simp only [List.length_cons, List.length_nil]; omega
        · rw [wr_i64 (by omega) (by omega)]
          rw [nlT_take hj, ← List.append_assoc] at ihj
          exact ihj)
  exact h
theorem c218 {m : Img} {s : Sta} (hm : OkI m) (hs : WfS s) (hf : fitS m s = true) : Pus prog 218 [m.av, s.av] (.s (repT m s)) := by
  obtain ⟨x, rfl, h⟩ := p218 H.f218 (m0 := m) (s1 := s) (K := fun x => x = repT m s) (by
    obtain ⟨h1, h2, h3, h4, h5⟩ := fitS_iff hf
    obtain ⟨w, hw, e, hl⟩ := outO_1 h1.1 h1.2
    have l1 := num_len s.failing
    have l2 := num_len s.steps
    unfold T218_0
    refine ⟨_, c223 H, by omega, w, hw, ?_, ?_, _, c226 H (by omega) (by omega), ?_, ?_, _, c226 H (by omega) (by omega), ?_, ?_, fun P hP => ?_⟩
    all_goals try (rw [maxStr_eq]; simp only [List.length_append, List.length_cons, List.length_nil]; omega)
    have e0 : ([111, 117, 116, 99, 111, 109, 101, 32] ++ w ++ [44, 32, 102, 97, 105, 108, 105, 110, 103, 32] ++ num s.failing ++ [44, 32, 115, 116, 101, 112, 115, 32] ++ num s.steps ++ [10] : Bytes) = headS s ++ rousT m 0 (s.routines.take 0) := by
      unfold headS; rw [e]; simp [rousT]
    rw [e0]
    refine loop_up (P := fun b i => P b i m s) (fun i => headS s ++ rousT m 0 (s.routines.take i)) s.routines.length (hP _ _ _ _ ?_) fun i hi ih => hP _ _ _ _ ?_
    · rw [List.take_length]
      unfold T218_1 T218_4
      exact ⟨fun h => absurd h (by omega), fun _ => rfl⟩
    · have hw := hs.r _ (List.getElem_mem hi)
      have hg := h5 _ (List.getElem_mem hi)
      unfold T218_1
      refine ⟨fun _ => ⟨by omega, _, get_at hi, _, c222 H (g := (i : Int)) hm hw (by omega) (Go0.of hg), fun P1 hP1 => ?_⟩, fun h => absurd (show (i : Int) < s.routines.length by omega) h⟩
      have ho : headS s ++ rousT m 0 (s.routines.take i) = headS s ++ rousT m 0 (s.routines.take i) ++ nlT ((linR m i s.routines[i]).take 0) := by simp [nlT]
      rw [ho]
      obtain ⟨q1, q2⟩ := linR_len (g := (i : Int)) hm hw (Go0.of hg)
      refine loop_up (P := fun b j => P1 b j m s) (fun j => headS s ++ rousT m 0 (s.routines.take i) ++ nlT ((linR m i s.routines[i]).take j)) (linR m i s.routines[i]).length (hP1 _ _ _ _ ?_) fun j hj ihj => hP1 _ _ _ _ ?_
      · rw [List.take_length]
        unfold T218_2 T218_3
        refine ⟨fun h => absurd h (by omega), fun _ => ?_⟩
        rw [wr_i64 (by omega) (by omega)]
        rw [rousT_at hi, ← List.append_assoc] at ih
        exact ih
      · have r1 := q1 _ (List.getElem_mem hj)
        have r2 := repT_lin hm hs hf hi j
        unfold T218_2
        refine ⟨fun _ => ⟨by omega, _, get_at hj, ?_, ?_, ?_⟩, fun h => absurd (show (j : Int) < (linR m i s.routines[i]).length by omega) h⟩
        · rw [maxStr_eq]; simp only [List.length_cons, List.length_nil]; omega
        · rw [maxStr_eq, len_cat2 _ [10]]; simp only [List.length_cons, List.length_nil]; omega
        · rw [wr_i64 (by omega) (by omega)]
          rw [nlT_take hj, ← List.append_assoc] at ihj
          exact ihj)
  exact h
theorem c206 {m : Img} {s : Sta} (hm : OkI m) (hs : WfS s) : Pus prog 206 [m.av, s.av] (.tup [.s (repR m s).1, .i .i64 (repR m s).2]) := by
  obtain ⟨x, y, ⟨rfl, rfl⟩, h⟩ := p206 H.f206 (m0 := m) (s1 := s) (K := fun x y => x = (repR m s).1 ∧ y = (repR m s).2) (by
    unfold T206_0
    refine ⟨_, c214 H hm hs, fun h => ?_, fun h => ?_⟩
    · unfold fitSR repR at *
      by_cases hf : fitS m s = true
      · rw [if_pos hf] at h; exact absurd rfl h
      · rw [if_neg hf, if_neg hf]; exact ⟨rfl, rfl⟩
    have hf : fitS m s = true := by
      unfold fitSR at h
      by_cases hf : fitS m s = true
      · exact hf
      · rw [if_neg hf] at h; exact absurd (by decide) h
    unfold repR
    rw [if_pos hf]
    refine ⟨_, c218 H hm hs hf, fun h => ?_, fun h => ?_⟩
    · rw [if_pos (by omega)]; exact ⟨rfl, rfl⟩
    · rw [if_neg (by omega)]; exact ⟨rfl, rfl⟩)
  exact h
theorem rouR_len {m : Img} {g : Int} {x : Rou} (hm : OkI m) (hx : WfR x) : (rouR m g x).1.length ≤ 1000000000 := by
  unfold rouR
  split
  · decide
  · split
    · rename_i h
      exact Nat.le_trans (linR_len hm hx (Go0.of h)).2 (by decide)
    · decide
theorem law202 (hf : prog.fn 202 = some pf202) {m : Img} (hmn : m.funcs.length ≤ 9223372036854775807) {s : Sta} (hs : WfS0 s) (g : Int) {x : Rou} (hx : WfR0 x) (n : Int) (w : Bytes) : Pus prog 202 [m.av, s.av, .i .i64 g, x.av, .i .u8 n, .s w] (.b true) := by
  obtain ⟨y, rfl, h⟩ := p202 hf (m0 := m) (s1 := s) (g2 := g) (x3 := x) (n4 := n) (word5 := w) (K := fun y => y = true) (by
    unfold T202_0 T202_1
    refine ⟨_, c79 H.toHasF hmn, fun _ => rfl, fun h1 => ⟨_, c203 H hs, fun _ => rfl, fun h2 => ⟨_, c204 H hx, fun _ => rfl, fun h3 => ⟨fun _ => rfl, fun h4 => ?_⟩⟩⟩⟩
    have hm := OkI.of h1
    have hs := WfS.of hs h2
    have hx := WfR.of hx h3
    unfold T202_2
    refine ⟨_, _, c205 H hm hs, ?_⟩
    unfold T202_3
    refine ⟨_, _, c206 H hm hs, ?_⟩
    unfold T202_4
    refine ⟨_, _, c207 H hm hx, ?_⟩
    unfold T202_5
    refine ⟨_, _, c208 H hm hx, ?_⟩
    unfold T202_6
    refine ⟨_, _, c209 H n, ?_⟩
    unfold T202_7
    refine ⟨_, _, c210 H n, ?_⟩
    unfold T202_8
    refine ⟨_, _, c211 H w, _, _, c212 H w, _, c213 H hm hs, _, c214 H hm hs, fun _ => ⟨fun _ => ⟨fun _ => ⟨_, c29 H.toHas03 (rouR_len H hm hx), fun _ => ⟨fun _ => ⟨fun _ => ⟨fun _ => ⟨fun _ => by simp, fun h => absurd rfl h⟩, fun h => absurd rfl h⟩, fun h => absurd rfl h⟩, fun h => absurd rfl h⟩, fun h => ?_⟩, fun h => absurd rfl h⟩, fun h => absurd rfl h⟩, fun h => absurd rfl h⟩
    simp at h)
  exact h
end
end Go.AM

/- The statement ReportTells: for every input the law returns true, and each argument reads afterwards as before. No conditions. -/
namespace Go.Proofs.Ytheacfnopahmjaa.ReportTellsProof
open Go Go.AM Go.RowKit Go.ChangeShapes Go.WideShapes Go.ChangeAt

theorem ok202 : FnOk Try.prog X 3 pf202 := FnOk.of Try.func3 (by kernel_rfl) (by kernel_rfl) (by kernel_rfl) (by kernel_rfl) (by kernel_rfl)
def fns : List (Nat × AF) := [(11, pf11), (15, pf15), (30, pf30), (34, pf34), (16, pf16), (29, pf29), (31, pf31), (35, pf35), (41, pf41), (145, pf145), (126, pf126), (71, pf71), (72, pf72), (76, pf76), (77, pf77), (78, pf78), (102, pf102), (103, pf103), (104, pf104), (106, pf106), (109, pf109), (110, pf110), (127, pf127), (136, pf136), (154, pf154), (158, pf158), (159, pf159), (178, pf178), (179, pf179), (183, pf183), (162, pf162), (163, pf163), (169, pf169), (79, pf79), (80, pf80), (82, pf82), (86, pf86), (87, pf87), (111, pf111), (112, pf112), (113, pf113), (114, pf114), (122, pf122), (123, pf123), (137, pf137), (138, pf138), (141, pf141), (144, pf144), (203, pf203), (204, pf204), (205, pf205), (206, pf206), (207, pf207), (208, pf208), (209, pf209), (210, pf210), (211, pf211), (212, pf212), (213, pf213), (214, pf214), (215, pf215), (216, pf216), (217, pf217), (218, pf218), (219, pf219), (220, pf220), (221, pf221), (222, pf222), (223, pf223), (224, pf224), (225, pf225), (226, pf226), (227, pf227), (228, pf228), (229, pf229), (230, pf230), (231, pf231), (232, pf232), (233, pf233), (234, pf234), (235, pf235), (236, pf236), (237, pf237), (238, pf238), (239, pf239), (202, pf202)]
def prog : Prog := ⟨fnOf fns, orcB, orsB⟩
set_option maxRecDepth 100000 in
theorem fns_ok : FnsOk Try.prog X fns fms :=
  And.intro (fun F h => noneF (show (none : Option AF) = some F from h)) (
  And.intro (fun F h => Option.some.inj (show some pf202 = some F from h) ▸ ok202) (
  And.intro (fun F h => Option.some.inj (show some pf79 = some F from h) ▸ ok79) (
  And.intro (fun F h => Option.some.inj (show some pf203 = some F from h) ▸ ok203) (
  And.intro (fun F h => Option.some.inj (show some pf204 = some F from h) ▸ ok204) (
  And.intro (fun F h => Option.some.inj (show some pf205 = some F from h) ▸ ok205) (
  And.intro (fun F h => Option.some.inj (show some pf206 = some F from h) ▸ ok206) (
  And.intro (fun F h => Option.some.inj (show some pf207 = some F from h) ▸ ok207) (
  And.intro (fun F h => Option.some.inj (show some pf208 = some F from h) ▸ ok208) (
  And.intro (fun F h => Option.some.inj (show some pf209 = some F from h) ▸ ok209) (
  And.intro (fun F h => Option.some.inj (show some pf210 = some F from h) ▸ ok210) (
  And.intro (fun F h => Option.some.inj (show some pf211 = some F from h) ▸ ok211) (
  And.intro (fun F h => Option.some.inj (show some pf212 = some F from h) ▸ ok212) (
  And.intro (fun F h => Option.some.inj (show some pf213 = some F from h) ▸ ok213) (
  And.intro (fun F h => Option.some.inj (show some pf214 = some F from h) ▸ ok214) (
  And.intro (fun F h => Option.some.inj (show some pf29 = some F from h) ▸ ok29) (
  And.intro (fun F h => Option.some.inj (show some pf162 = some F from h) ▸ ok162) (
  And.intro (fun F h => Option.some.inj (show some pf80 = some F from h) ▸ ok80) (
  And.intro (fun F h => Option.some.inj (show some pf71 = some F from h) ▸ ok71) (
  And.intro (fun F h => Option.some.inj (show some pf126 = some F from h) ▸ ok126) (
  And.intro (fun F h => Option.some.inj (show some pf215 = some F from h) ▸ ok215) (
  And.intro (fun F h => Option.some.inj (show some pf216 = some F from h) ▸ ok216) (
  And.intro (fun F h => Option.some.inj (show some pf217 = some F from h) ▸ ok217) (
  And.intro (fun F h => noneF (show (none : Option AF) = some F from h)) (
  And.intro (fun F h => Option.some.inj (show some pf218 = some F from h) ▸ ok218) (
  And.intro (fun F h => Option.some.inj (show some pf219 = some F from h) ▸ ok219) (
  And.intro (fun F h => Option.some.inj (show some pf220 = some F from h) ▸ ok220) (
  And.intro (fun F h => Option.some.inj (show some pf15 = some F from h) ▸ ok15) (
  And.intro (fun F h => Option.some.inj (show some pf221 = some F from h) ▸ ok221) (
  And.intro (fun F h => Option.some.inj (show some pf222 = some F from h) ▸ ok222) (
  And.intro (fun F h => Option.some.inj (show some pf223 = some F from h) ▸ ok223) (
  And.intro (fun F h => Option.some.inj (show some pf141 = some F from h) ▸ ok141) (
  And.intro (fun F h => Option.some.inj (show some pf224 = some F from h) ▸ ok224) (
  And.intro (fun F h => Option.some.inj (show some pf225 = some F from h) ▸ ok225) (
  And.intro (fun F h => Option.some.inj (show some pf102 = some F from h) ▸ ok102) (
  And.intro (fun F h => Option.some.inj (show some pf103 = some F from h) ▸ ok103) (
  And.intro (fun F h => Option.some.inj (show some pf145 = some F from h) ▸ ok145) (
  And.intro (fun F h => Option.some.inj (show some pf226 = some F from h) ▸ ok226) (
  And.intro (fun F h => Option.some.inj (show some pf227 = some F from h) ▸ ok227) (
  And.intro (fun F h => Option.some.inj (show some pf228 = some F from h) ▸ ok228) (
  And.intro (fun F h => Option.some.inj (show some pf86 = some F from h) ▸ ok86) (
  And.intro (fun F h => Option.some.inj (show some pf229 = some F from h) ▸ ok229) (
  And.intro (fun F h => Option.some.inj (show some pf230 = some F from h) ▸ ok230) (
  And.intro (fun F h => Option.some.inj (show some pf231 = some F from h) ▸ ok231) (
  And.intro (fun F h => Option.some.inj (show some pf232 = some F from h) ▸ ok232) (
  And.intro (fun F h => Option.some.inj (show some pf233 = some F from h) ▸ ok233) (
  And.intro (fun F h => Option.some.inj (show some pf158 = some F from h) ▸ ok158) (
  And.intro (fun F h => Option.some.inj (show some pf82 = some F from h) ▸ ok82) (
  And.intro (fun F h => Option.some.inj (show some pf234 = some F from h) ▸ ok234) (
  And.intro (fun F h => Option.some.inj (show some pf154 = some F from h) ▸ ok154) (
  And.intro (fun F h => Option.some.inj (show some pf34 = some F from h) ▸ ok34) (
  And.intro (fun F h => Option.some.inj (show some pf163 = some F from h) ▸ ok163) (
  And.intro (fun F h => Option.some.inj (show some pf87 = some F from h) ▸ ok87) (
  And.intro (fun F h => Option.some.inj (show some pf235 = some F from h) ▸ ok235) (
  And.intro (fun F h => Option.some.inj (show some pf16 = some F from h) ▸ ok16) (
  And.intro (fun F h => Option.some.inj (show some pf114 = some F from h) ▸ ok114) (
  And.intro (fun F h => Option.some.inj (show some pf31 = some F from h) ▸ ok31) (
  And.intro (fun F h => Option.some.inj (show some pf106 = some F from h) ▸ ok106) (
  And.intro (fun F h => Option.some.inj (show some pf179 = some F from h) ▸ ok179) (
  And.intro (fun F h => Option.some.inj (show some pf236 = some F from h) ▸ ok236) (
  And.intro (fun F h => noneF (show (none : Option AF) = some F from h)) (
  And.intro (fun F h => Option.some.inj (show some pf237 = some F from h) ▸ ok237) (
  And.intro (fun F h => Option.some.inj (show some pf122 = some F from h) ▸ ok122) (
  And.intro (fun F h => Option.some.inj (show some pf123 = some F from h) ▸ ok123) (
  And.intro (fun F h => Option.some.inj (show some pf76 = some F from h) ▸ ok76) (
  And.intro (fun F h => Option.some.inj (show some pf238 = some F from h) ▸ ok238) (
  And.intro (fun F h => Option.some.inj (show some pf239 = some F from h) ▸ ok239) (
  And.intro (fun F h => Option.some.inj (show some pf183 = some F from h) ▸ ok183) (
  And.intro (fun F h => Option.some.inj (show some pf111 = some F from h) ▸ ok111) (
  And.intro (fun F h => Option.some.inj (show some pf112 = some F from h) ▸ ok112) (
  And.intro (fun F h => Option.some.inj (show some pf113 = some F from h) ▸ ok113) (
  And.intro (fun F h => Option.some.inj (show some pf72 = some F from h) ▸ ok72) (
  And.intro (fun F h => Option.some.inj (show some pf11 = some F from h) ▸ ok11) (
  And.intro (fun F h => Option.some.inj (show some pf178 = some F from h) ▸ ok178) (
  And.intro (fun F h => Option.some.inj (show some pf159 = some F from h) ▸ ok159) (
  And.intro (fun F h => Option.some.inj (show some pf77 = some F from h) ▸ ok77) (
  And.intro (fun F h => Option.some.inj (show some pf78 = some F from h) ▸ ok78) (
  And.intro (fun F h => Option.some.inj (show some pf35 = some F from h) ▸ ok35) (
  And.intro (fun F h => Option.some.inj (show some pf137 = some F from h) ▸ ok137) (
  And.intro (fun F h => Option.some.inj (show some pf138 = some F from h) ▸ ok138) (
  And.intro (fun F h => Option.some.inj (show some pf41 = some F from h) ▸ ok41) (
  And.intro (fun F h => Option.some.inj (show some pf127 = some F from h) ▸ ok127) (
  And.intro (fun F h => Option.some.inj (show some pf144 = some F from h) ▸ ok144) (
  And.intro (fun F h => Option.some.inj (show some pf109 = some F from h) ▸ ok109) (
  And.intro (fun F h => Option.some.inj (show some pf104 = some F from h) ▸ ok104) (
  And.intro (fun F h => Option.some.inj (show some pf30 = some F from h) ▸ ok30) (
  And.intro (fun F h => Option.some.inj (show some pf110 = some F from h) ▸ ok110) (
  And.intro (fun F h => Option.some.inj (show some pf136 = some F from h) ▸ ok136) (
  And.intro (fun F h => noneF (show (none : Option AF) = some F from h)) (
  And.intro (fun F h => noneF (show (none : Option AF) = some F from h)) (trivial))))))))))))))))))))))))))))))))))))))))))))))))))))))))))))))))))))))))))))))))))))))))))
theorem o48_ok : OracOk Try.prog X { fn := fnOf fns, orac := orc48 48 } := orc48_none (fun f h => by have := fm_inv h; simp [fms] at this)
theorem orac_ok : OracOk Try.prog X prog := orcB_ok o48_ok (f0 := 62) (fun f h => by have := fm_inv h; simpa [fms] using this) Try.func62 (by kernel_rfl) (by kernel_rfl) (by kernel_rfl) (by kernel_rfl)
theorem orsB_ok : OracSOk Try.prog X prog := Go.AM.orsB_ok Try.lays169 Try.extraB (fun f h => by have := fm_inv h; have e : f = 25 := (by simpa [fms] using this); exact e) (by kernel_rfl) (by kernel_rfl) Try.func25 (by kernel_rfl) rfl
def tl : List Nat := [2, 3, 4, 5, 9, 22, 23, 24, 26, 27, 29, 30, 31, 32, 34, 57, 58, 59, 61, 63, 66, 67, 69, 71, 73, 75, 99, 101, 164, 166, 168]
theorem at_ : LawAt Try.prog X prog tl := ⟨tab_ok tys_ok, by kernel_rfl, prog_ok fns_ok.all rfl, orac_ok, orsB_ok, by
    intro t ht
    exact (show ∀ t ∈ tl, okTy X.T tl t = true by decide) t (by simpa using ht)⟩
set_option maxRecDepth 100000 in
theorem has : HasT prog := { f11 := by kernel_rfl, f15 := by kernel_rfl, f30 := by kernel_rfl, f34 := by kernel_rfl, f16 := by kernel_rfl, f29 := by kernel_rfl, f31 := by kernel_rfl, f35 := by kernel_rfl, f41 := by kernel_rfl, f145 := by kernel_rfl, f126 := by kernel_rfl, f71 := by kernel_rfl, f72 := by kernel_rfl, f76 := by kernel_rfl, f77 := by kernel_rfl, f78 := by kernel_rfl, f102 := by kernel_rfl, f103 := by kernel_rfl, f104 := by kernel_rfl, f106 := by kernel_rfl, f109 := by kernel_rfl, f110 := by kernel_rfl, f127 := by kernel_rfl, f136 := by kernel_rfl, f154 := by kernel_rfl, f158 := by kernel_rfl, f159 := by kernel_rfl, f178 := by kernel_rfl, f179 := by kernel_rfl, f183 := by kernel_rfl, f162 := by kernel_rfl, f163 := by kernel_rfl, f169 := by kernel_rfl, f79 := by kernel_rfl, f80 := by kernel_rfl, f82 := by kernel_rfl, f86 := by kernel_rfl, f87 := by kernel_rfl, f111 := by kernel_rfl, f112 := by kernel_rfl, f113 := by kernel_rfl, f114 := by kernel_rfl, f122 := by kernel_rfl, f123 := by kernel_rfl, f137 := by kernel_rfl, f138 := by kernel_rfl, f141 := by kernel_rfl, f144 := by kernel_rfl, f203 := by kernel_rfl, f204 := by kernel_rfl, f205 := by kernel_rfl, f206 := by kernel_rfl, f207 := by kernel_rfl, f208 := by kernel_rfl, f209 := by kernel_rfl, f210 := by kernel_rfl, f211 := by kernel_rfl, f212 := by kernel_rfl, f213 := by kernel_rfl, f214 := by kernel_rfl, f215 := by kernel_rfl, f216 := by kernel_rfl, f217 := by kernel_rfl, f218 := by kernel_rfl, f219 := by kernel_rfl, f220 := by kernel_rfl, f221 := by kernel_rfl, f222 := by kernel_rfl, f223 := by kernel_rfl, f224 := by kernel_rfl, f225 := by kernel_rfl, f226 := by kernel_rfl, f227 := by kernel_rfl, f228 := by kernel_rfl, f229 := by kernel_rfl, f230 := by kernel_rfl, f231 := by kernel_rfl, f232 := by kernel_rfl, f233 := by kernel_rfl, f234 := by kernel_rfl, f235 := by kernel_rfl, f236 := by kernel_rfl, f237 := by kernel_rfl, f238 := by kernel_rfl, f239 := by kernel_rfl, f48 := rfl, o48 := orcB_48, f146 := rfl, f105 := rfl, o146 := orcB_146, o105 := orcB_105, s105 := orsB_105 }
theorem own : ownKnob Try.prog.godebug = none := by kernel_rfl
theorem laidOut : laidOutB Try.prog = true := by kernel_rfl
theorem wfR_of {x : Rou} (hx : WRou x) : WfR0 x := ⟨hx.status.1, hx.key, fun y hy => ⟨((hx.frames.2 y hy).mode).1, Nat.le_trans (hx.frames.2 y hy).locals.1 (by decide), fun z hz => ((hx.frames.2 y hy).locals.2 z hz).value⟩, fun y hy => (hx.defers.2 y hy).arg, fun y hy => ⟨(hx.panics.2 y hy).tag, (hx.panics.2 y hy).value, (hx.panics.2 y hy).flags⟩, Nat.le_trans hx.frames.1 (by decide), Nat.le_trans hx.defers.1 (by decide), Nat.le_trans hx.panics.1 (by decide)⟩
theorem wfS_of {s : Sta} (hs : WSta s) : WfS0 s := ⟨hs.outcome.1, fun x hx => wfR_of (hs.routines.2 x hx), Nat.le_trans hs.routines.1 (by decide)⟩
theorem typed (avs : List AV) (h : ArgsOk X.T [26, 29, 3, 34, 5, 9] avs) : Pus prog 202 avs (.b true) := by
  match avs, h with
  | [a, b, c, d, e, f], ⟨h1, h2, h3, h4, h5, h6, _⟩ =>
    obtain ⟨m, rfl, hm⟩ := ArgOk.isImg tyImg h1
    obtain ⟨s, rfl, hs⟩ := ArgOk.isSta tySta h2
    obtain ⟨g, rfl, _⟩ := ArgOk.int (i := _) rfl rfl h3
    obtain ⟨x, rfl, hx⟩ := ArgOk.isRou tyRou h4
    obtain ⟨n, rfl, _⟩ := ArgOk.int (i := _) rfl rfl h5
    obtain ⟨w, rfl, _⟩ := ArgOk.str (i := _) rfl rfl h6
    exact law202 has rfl (Nat.le_trans hm.funcs.1 (by decide)) (wfS_of hs) g (wfR_of hx) n w

set_option maxRecDepth 100000 in
theorem lifted (os : Os) (started : os.Started) (H : Type) (enc : TypeId × Value → H) :
    ReturnsInHanded {} Try.checked os 3 .any (Rows.reportTellsSpec.pre6 enc Try.prog Try.f3 Rows.reportTellsRow.domain false) (Rows.reportTellsSpec.post enc Try.prog Try.f3 false true false false) := by
  refine returnsInHanded_of_change (C := Try.checked) own started (by kernel_rfl) Try.func3
    (ChangeSpec.witness6 (enc := enc) (C := Try.checked) false ⟨#[], #[.agg #[.slice none 0 0, .slice none 0 0, .slice none 0 0], .agg #[.int .u8 0, .int .i64 0, .int .i64 0, .slice none 0 0], .int .i64 0, .agg #[.int .u8 0, .int .i64 0, .slice none 0 0, .slice none 0 0, .slice none 0 0], .int .u8 0, .string ⟨#[]⟩], []⟩ 8 (by kernel_rfl) (by kernel_rfl) (by kernel_rfl) (by kernel_rfl)) ?_
  intro W base args ds gs before hval0 hW hcnd _
  have hval : ∀ (j : Nat) t v, Try.f3.params[j]? = some t → args[j]? = some v → Value.okWide Try.prog W .any base t v := hval0
  have hW' := hW
  obtain ⟨p, q, hA0, hV, rfl, hfz, hnd⟩ := hW
  have hA : DataW.TrodAll enc Try.prog W 0 (fun _ => true) true Try.f3.params.toList args.toList ds p := hA0
  rw [Try.params3] at hA hval
  obtain ⟨rfl, rfl⟩ := trodVars_none hV
  obtain ⟨avs, hR, hok⟩ := args_read at_.T at_.types (ts := [26, 29, 3, 34, 5, 9]) (by decide) (fun j t v h1 h2 => hval j t v (by simpa using h1) (by simpa using h2)) hA
  have hlt := args_lt hA
  have hlen := trod_len hA
  refine (law_calls at_ (f := 3) (c := 202) rfl (ok202.enters _ _) hR (typed avs hok)).mono fun e W' ⟨he, bel⟩ => ?_
  subst he
  have hB := args_below laidOut bel (by kernel_rfl) hA hlt
  obtain ⟨d0, d1, d2, d3, d4, d5, rfl⟩ := ds6 hlen
  exact ⟨_, rfl, _, _, _, [], _, [], hW', trodAll_mk1 (shut_bool Try.underlying4 _), hB, rfl, bel.frame _, fun h => by cases h⟩

theorem over : Rows.reportTellsRow.holds Try.pinned (OpenSpec.ofChange Rows.reportTellsSpec) :=
  OpenClaim.holds_of_wide 3 Try.f3 rfl rfl rfl rfl rfl rfl rfl ⟨rfl, rfl, rfl, rfl, rfl⟩ rfl rfl rfl rfl rfl (by kernel_rfl) Try.func3 (by kernel_rfl)
    (of_decide_eq_true (by kernel_rfl)) (by unfold Func.isWrapper; rw [if_neg (of_decide_eq_false (by kernel_rfl))]; exact ⟨rfl, rfl⟩)
    (fun os started H enc _ => lifted os started H enc)

/-- The statement. -/
theorem proved : Rows.ReportTellsSaid := over
#print axioms proved
end Go.Proofs.Ytheacfnopahmjaa.ReportTellsProof
