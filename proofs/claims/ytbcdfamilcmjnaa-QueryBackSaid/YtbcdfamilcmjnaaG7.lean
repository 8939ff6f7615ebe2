/- The statement QueryBack: for every input the law returns true, and each argument reads afterwards as before. No conditions. -/
import Derived.Test.YtbcdfamilcmjnaaG6
import Derived.Test.YtbcdfamilcmjnaaG4
import Derived.Test.YtbcdfamilcmjnaaG2
import Derived.Test.YtbcdfamilcmjnaaG3
import Derived.Test.YtbcdfamilcmjnaaG5
set_option linter.all false
/- Parts of the proof. -/
namespace Go.AM
open Go
theorem bAnd1 (n : Int) : bAnd .i64 n 1 = n % 2 := by
  unfold bAnd
  have h1 : (BitVec.ofInt IntKind.i64.bits n &&& BitVec.ofInt IntKind.i64.bits 1).toNat = (n % 2).toNat := by
    show (BitVec.ofInt 64 n &&& BitVec.ofInt 64 1).toNat = _
    rw [BitVec.toNat_and]
    have h2 : (BitVec.ofInt 64 1).toNat = 2 ^ 1 - 1 := by decide
    rw [h2, Nat.and_two_pow_sub_one_eq_mod, BitVec.toNat_ofInt]
    omega
  rw [h1, wr_i64 (by omega) (by omega)]
  omega
theorem cut_cases (v : Val) : (v.cut = true ∧ v.cut.toNat = 1) ∨ (v.cut = false ∧ v.cut.toNat = 0) := by cases v.cut <;> simp
theorem okv_succ (d : Nat) (v : Val) : okv (d + 1) v = (decide v.okh && v.list.all (okv d)) := rfl
theorem okv_no {d : Nat} {v : Val} (h : ¬v.okh) : okv (d + 1) v = false := by rw [okv_succ, decide_eq_false h]; rfl
theorem okv_yes {d : Nat} {v : Val} (h : v.okh) : okv (d + 1) v = v.list.all (okv d) := by rw [okv_succ, decide_eq_true h]; rfl
section
variable {prog : Prog} (H : Has38 prog)
include H
end
end Go.AM

/- Parts of the proof. -/
namespace Go.AM
open Go
section
variable {prog : Prog} (H : Has38 prog)
include H
set_option maxHeartbeats 1000000 in
theorem c109 : ∀ (d : Nat) {v : Val}, Wf v → d ≤ 1000 → Pus prog 109 [v.av, .i .i64 (d : Int)] (.tup [.i .i64 (cntR d v).1, .b (cntR d v).2])
  | 0, v, hw, hd => by
    obtain ⟨x, y, ⟨rfl, rfl⟩, h⟩ := p109 H.f109 (v0 := v) (nest1 := ((0 : Nat) : Int)) (K := fun x y => x = (cntR 0 v).1 ∧ y = (cntR 0 v).2) (by
      unfold T109_0 T109_1 T109_2 T109_3 T109_4
      have : cntR 0 v = (0, false) := by unfold cntR; rw [if_neg (by rintro ⟨h, _⟩; cases h)]
      rw [this]
      repeat' first | exact ⟨rfl, rfl⟩ | refine ⟨fun _ => ?_, fun _ => ?_⟩ | (intro h)
      all_goals exact absurd rfl ‹¬((0 : Nat) : Int) = 0›)
    exact h
  | d + 1, v, hw, hd => by
    have ih := @c109 d
    obtain ⟨x, y, ⟨rfl, rfl⟩, h⟩ := p109 H.f109 (v0 := v) (nest1 := ((d + 1 : Nat) : Int)) (K := fun x y => x = (cntR (d + 1) v).1 ∧ y = (cntR (d + 1) v).2) (by
      have hm : IntKind.i64.wrap (((d + 1 : Nat) : Int) - 1) = (d : Int) := by rw [wr_i64 (by omega) (by omega)]; omega
      have ht : v.text = [] ↔ v.text.length = 0 := List.length_eq_zero_iff.symm
      have ht' : [] = v.text ↔ v.text.length = 0 := by rw [← ht]; exact eq_comm
      have cno : ¬(okv (d + 1) v = true ∧ v.nodes ≤ 5000) → cntR (d + 1) v = (0, false) := fun h => by unfold cntR; rw [if_neg h]
      have no : ¬v.okh → (0 : Int) = (cntR (d + 1) v).1 ∧ false = (cntR (d + 1) v).2 := fun h => by
        rw [cno (by rw [okv_no h]; rintro ⟨h, _⟩; cases h)]; exact ⟨rfl, rfl⟩
      have hl := hw.l
      have hn := nodes_eq v
      have lp : v.okh → ∀ P : Int → Int → Prop, (∀ (sum10 : Int) (t103 : Int), T109_5 prog (fun x y => x = (cntR (d + 1) v).1 ∧ y = (cntR (d + 1) v).2) P ((d + 1 : Nat) : Int) sum10 v.list (v.list.length : Int) t103 → P sum10 t103) → P 1 0 := by
        intro ho P hP
        have e := okv_yes (d := d) ho
        refine loop_inv (P := fun s i => P s i) (fun i => ((1 + Val.nodesL (v.list.take i) : Nat) : Int)) v.list.length (fun i => (v.list.take i).all (okv d) = true ∧ 1 + Val.nodesL (v.list.take i) ≤ 5000) (by simp [Val.nodesL]) (fun hI => ?_) (fun i hi hI ihP => ?_)
        · apply hP
          unfold T109_5 T109_6
          refine ⟨fun h => absurd h (by omega), fun _ => ?_⟩
          rw [List.take_length] at hI ⊢
          unfold cntR
          rw [if_pos ⟨by rw [e]; exact hI.1, by omega⟩, hn]
          exact ⟨rfl, rfl⟩
        · apply hP
          unfold T109_5
          have hnt := nodesL_take hi
          have hle := nodesL_le (l := v.list) (i + 1)
          refine ⟨fun _ => ⟨by omega, _, get_at hi, _, _, by rw [hm]; exact ih (hw.e _ (List.getElem_mem hi)) (by omega), ?_⟩, fun h => absurd (show (i : Int) < v.list.length by omega) h⟩
          by_cases hc : okv d v.list[i] = true ∧ v.list[i].nodes ≤ 5000
          · rw [show cntR d v.list[i] = ((v.list[i].nodes : Int), true) by unfold cntR; rw [if_pos hc]]
            refine ⟨fun h => (by cases h), fun _ => ⟨fun h => ?_, fun h => ?_⟩⟩
            · rw [wr_i64 (by omega) (by omega)] at h
              rw [cno (by omega)]
              exact ⟨rfl, rfl⟩
            · rw [wr_i64 (by omega) (by omega)] at h ⊢
              rw [wr_i64 (by omega) (by omega)]
              have := ihP ⟨by rw [List.take_succ_eq_append_getElem hi, List.all_append, hI.1]; simpa using hc.1, by omega⟩
              rw [hnt] at this
              rw [show ((1 + Val.nodesL (v.list.take i) : Nat) : Int) + (v.list[i].nodes : Int) = ((1 + (Val.nodesL (v.list.take i) + v.list[i].nodes) : Nat) : Int) by omega]
              exact this
          · rw [show cntR d v.list[i] = (0, false) by unfold cntR; rw [if_neg hc]]
            refine ⟨fun _ => ?_, fun h => (by cases h)⟩
            rw [cno (fun h => hc ⟨okv_sub h.1 _ (List.getElem_mem hi), by have := nodes_mem (List.getElem_mem hi); omega⟩)]
            exact ⟨rfl, rfl⟩
      unfold T109_0 T109_1 T109_2 T109_3 T109_4
      simp only [Val.int_mk, Val.text_mk, Val.cut_mk, Val.kind_mk, Val.list_mk, bAnd1, ht', ne_eq, not_true_eq_false, false_imp_iff, true_imp_iff, true_and, not_false_eq_true]
      rcases cut_cases v with ⟨hc, hcn⟩ | ⟨hc, hcn⟩
      all_goals simp only [hc, reduceCtorEq, false_imp_iff, true_imp_iff, not_true_eq_false, not_false_eq_true, true_and, and_true]
      all_goals repeat' first | refine ⟨fun _ => ?_, fun _ => ?_⟩ | (intro h)
      all_goals first
        | exact no (by unfold Val.okh Okh; omega)
        | exact lp (by unfold Val.okh Okh; omega) _ ‹_›
        | (exfalso; omega))
    exact h
theorem c76 {v : Val} (hw : Wf v) : Pus prog 76 [v.av] (.i .i64 (chkR v)) := by
  obtain ⟨x, rfl, h⟩ := p76 H.f76 (v0 := v) (K := fun x => x = chkR v) (by
    unfold T76_0 chkR
    refine ⟨_, _, c109 H 130 hw (by decide), ?_⟩
    unfold cntR fine
    by_cases h : okv 130 v = true ∧ v.nodes ≤ 5000
    · rw [if_pos h, if_pos (by simpa using h)]
      exact ⟨fun h => (by cases h), fun _ => rfl⟩
    · rw [if_neg h, if_neg (by simpa using h)]
      exact ⟨fun _ => rfl, fun h => (by cases h)⟩)
  exact h
end
end Go.AM

/- Parts of the proof. -/
namespace Go.AM
open Go
theorem txts_app (l m : List Val) : txts (l ++ m) = txts l ++ (if l.length = 0 then txts m else txtl m) := by
  cases l with
  | nil => simp [txts]
  | cons a l => simp [txts, txtl_app]
theorem txts_take_len (l : List Val) (i : Nat) : (txts (l.take i)).length ≤ (txts l).length := by
  have := txts_app (l.take i) (l.drop i)
  rw [List.take_append_drop] at this
  rw [this, List.length_append]
  omega
theorem quoR_ok {s : Bytes} (h : s.length ≤ 400) : quoR s = (quo s, 0) := by
  unfold quoR
  rw [if_neg (by omega)]
section
variable {prog : Prog} (H : Has38 prog)
include H
theorem show_loop {K : Int → Bytes → Prop} {l : List Val} {e0 e1 : UInt8} {b : Bytes} (hl : l.length ≤ 16) (hx : ∀ x ∈ l, ∀ b : Bytes, b.length + (txt x).length ≤ 100000000 → PuX prog 104 (Bl b) [x.av] (fun r => r = .i .i64 0) (Bl (b ++ txt x)))
    (hb : b.length + (txts l).length + 2 ≤ 100000000) (hK : K 0 (b ++ [e0] ++ txts l ++ [e1])) : ∀ P0 : Int → Bytes → Prop, (∀ (t22 : Int) (mP : Bytes), T104_9 prog K P0 [e0, e1] l (l.length : Int) t22 mP → P0 t22 mP) → P0 0 (b ++ [e0]) := by
  intro P hP
  have := loop_up (P := fun m i => P i m) (fun i => b ++ [e0] ++ txts (l.take i)) l.length ?_ fun i hi ihP => ?_
  · simpa [txts] using this
  · apply hP
    unfold T104_9 T104_11 T104_4
    rw [List.take_length]
    refine ⟨fun h => absurd h (by omega), fun _ => ⟨by simp, _, _, c126 H.toHasB (s := [e1]) ?_, hK⟩⟩
    rw [maxBytes_eq]; simp only [List.length_append, List.length_cons, List.length_nil]; omega
  · apply hP
    have h1 := txts_take_len l (i + 1)
    rw [txts_take hi] at h1 ihP
    simp only [List.length_append] at h1
    unfold T104_9 T104_10
    refine ⟨fun _ => ⟨by omega, _, get_at hi, fun h2 => ?_, fun h2 => ?_⟩, fun h => absurd (show (i : Int) < l.length by omega) h⟩
    · rw [if_pos (by omega)] at h1 ihP
      refine ⟨_, _, c126 H.toHasB (s := [44, 32]) ?_, _, _, hx _ (List.getElem_mem hi) _ ?_, fun h => absurd rfl h, fun _ => ?_⟩
      · rw [maxBytes_eq]; simp only [List.length_append, List.length_cons, List.length_nil]; omega
      · simp only [List.length_append, List.length_cons, List.length_nil] at h1 ⊢; omega
      · rw [wr_succ (by omega)]
        simpa using ihP
    · rw [if_neg (by omega)] at h1 ihP
      refine ⟨_, _, hx _ (List.getElem_mem hi) _ ?_, fun h => absurd rfl h, fun _ => ?_⟩
      · simp only [List.length_append, List.length_cons, List.length_nil] at h1 ⊢; omega
      · rw [wr_succ (by omega)]
        simpa using ihP
set_option maxHeartbeats 1000000 in
theorem c104 : ∀ (d : Nat) {v : Val}, okv d v = true → Wf v → ∀ b : Bytes, b.length + (txt v).length ≤ 100000000 → PuX prog 104 (Bl b) [v.av] (fun r => r = .i .i64 0) (Bl (b ++ txt v))
  | 0, v, h, _, _, _ => by cases h
  | d + 1, v, h, hw, b, hlen => by
    have h1 := okv_head h
    have h2 := okv_sub h
    have ih : ∀ x ∈ v.list, ∀ b : Bytes, b.length + (txt x).length ≤ 100000000 → PuX prog 104 (Bl b) [x.av] (fun r => r = .i .i64 0) (Bl (b ++ txt x)) := fun x hx b hb => c104 d (h2 _ hx) (hw.e _ hx) b hb
    refine (p104 H.f104 (v1 := v) (mP := b) (K := fun r b' => r = 0 ∧ b' = b ++ txt v) ?_).to fun r b' hk => ?_
    · have hB : ∀ {s : Bytes} {a : Int}, (txt v) = s → ∃ r' : Int, ∃ b'' : Bytes, PuX prog 126 (Bl b) [.s s] (fun r => r = .tup [.i .i64 r', .ni]) (Bl b'') ∧ T104_4 prog (fun r b' => r = 0 ∧ b' = b ++ txt v) b'' := by
        intro s a hs
        refine ⟨_, _, c126 H.toHasB (s := s) ?_ (hs ▸ txt_ne v), ?_⟩
        · rw [← hs, maxBytes_eq]; omega
        · unfold T104_4; rw [hs]; exact ⟨rfl, rfl⟩
      have hk : 1 ≤ v.kind ∧ v.kind ≤ 7 := by unfold Val.okh Okh at h1; omega
      have hn := hw.n
      rw [txt_eq] at hlen
      have ht := txt_eq v
      unfold T104_0 T104_1
      refine ⟨by omega, ?_⟩
      have hkk : v.kind = 1 ∨ v.kind = 2 ∨ v.kind = 3 ∨ v.kind = 4 ∨ v.kind = 5 ∨ v.kind = 6 ∨ v.kind = 7 := by omega
      rcases hkk with k | k | k | k | k | k | k
      all_goals rw [k]
      all_goals simp only [k, if_true, reduceCtorEq, if_false, Int.reduceEq] at ht hlen
      · refine ⟨[], rfl, ?_⟩
        unfold T104_2 T104_3 T104_5
        rw [k]
        refine ⟨fun _ => ⟨fun h => hB (a := 0) ?_, fun h => ⟨fun _ => hB (a := 0) ?_, fun h => by simp at h⟩⟩, fun h => absurd rfl h⟩
        · rw [ht, if_pos (by simpa using h)]; rfl
        · rw [ht, if_neg (by simpa using h)]; rfl
      · refine ⟨[], rfl, ?_⟩
        unfold T104_2 T104_3 T104_5 T104_6
        rw [k]
        refine ⟨fun h => absurd h (by decide), fun _ => ⟨fun h => (by cases h), fun _ => ⟨fun h => (by simp at h), fun _ => ⟨fun _ => ⟨_, c15 H.toHas03 hn.1 hn.2, hB (a := 0) ht⟩, fun h => by simp at h⟩⟩⟩⟩
      · refine ⟨[], rfl, ?_⟩
        unfold T104_2 T104_3 T104_5 T104_6 T104_7
        rw [k]
        refine ⟨fun h => absurd h (by decide), fun _ => ⟨fun h => (by cases h), fun _ => ⟨fun h => (by simp at h), fun _ => ⟨fun h => (by simp at h), fun _ => ⟨fun _ => ⟨_, _, c11 H.toHas03 v.text, ?_⟩, fun h => by simp at h⟩⟩⟩⟩⟩
        rw [quoR_ok (by unfold Val.okh Okh at h1; omega)]
        refine ⟨_, _, c126 H.toHasB (s := quo v.text) ?_, rfl, ?_⟩
        · rw [maxBytes_eq]; omega
        · rw [ht]
      · refine ⟨[], rfl, ?_⟩
        unfold T104_2 T104_3 T104_5 T104_6 T104_7 T104_8
        rw [k]
        refine ⟨fun h => absurd h (by decide), fun _ => ⟨fun h => (by cases h), fun _ => ⟨fun h => (by simp at h), fun _ => ⟨fun h => (by simp at h), fun _ => ⟨fun h => (by simp at h), fun _ => ⟨fun _ => ⟨fun hc => hB (a := 0) ?_, fun hc => ⟨fun _ => ⟨fun hl => hB (a := 0) ?_, fun hl => ⟨fun _ => ?_, fun h => absurd rfl h⟩⟩, fun h => absurd rfl h⟩⟩, fun h => absurd rfl h⟩⟩⟩⟩⟩⟩
        · rw [ht, if_pos hc]; rfl
        · rw [ht, if_neg (by rw [hc]; decide), if_pos (by omega)]; rfl
        · rw [if_neg (by rw [hc]; decide), if_neg (by omega)] at ht hlen
          have hl1 : v.list.length = 1 := by unfold Val.okh Okh at h1; omega
          obtain ⟨w, hw1⟩ := List.length_eq_one_iff.1 hl1
          rw [hw1, txts_one] at hlen ht
          simp only [List.length_cons] at hlen
          refine ⟨_, _, c126 H.toHasB (s := [38]) ?_, w, by rw [hw1]; rfl, _, _, ih w (by rw [hw1]; exact List.mem_cons_self) _ ?_, rfl, ?_⟩
          · rw [maxBytes_eq]; simp only [List.length_cons, List.length_nil]; omega
          · simp only [List.length_append, List.length_cons, List.length_nil]; omega
          · rw [ht]; simp
      · have hc : v.cut = false := by
          have : v.cut.toNat = 0 := by unfold Val.okh Okh at h1; omega
          cases hc : v.cut
          · rfl
          · rw [hc] at this; cases this
        refine ⟨[123, 125], rfl, ?_⟩
        unfold T104_2 T104_3 T104_5 T104_6 T104_7 T104_8
        rw [k]
        refine ⟨fun h => absurd h (by decide), fun _ => ⟨fun h => (by cases h), fun _ => ⟨fun h => (by simp at h), fun _ => ⟨fun h => (by simp at h), fun _ => ⟨fun h => (by simp at h), fun _ => ⟨fun h => absurd h (by decide), fun _ => ⟨fun h => (by cases h), fun _ => ⟨fun h => absurd h (by decide), fun _ => ⟨fun h => absurd h (by decide), fun _ => ⟨fun h => (by rw [hc] at h; cases h), fun _ => ⟨by decide, _, _, c126 H.toHasB (s := [123]) ?_, ?_⟩⟩⟩⟩⟩⟩⟩⟩⟩⟩⟩
        · rw [maxBytes_eq]; simp only [List.length_cons, List.length_nil, List.length_append] at hlen ⊢; omega
        · simp only [List.length_cons, List.length_nil, List.length_append] at hlen
          exact show_loop H (by unfold Val.okh Okh at h1; omega) ih (by omega) ⟨rfl, by rw [ht]; simp⟩
      · have hc : v.cut = false := by
          have : v.cut.toNat = 0 := by unfold Val.okh Okh at h1; omega
          cases hc : v.cut
          · rfl
          · rw [hc] at this; cases this
        refine ⟨[91, 93], rfl, ?_⟩
        unfold T104_2 T104_3 T104_5 T104_6 T104_7 T104_8
        rw [k]
        refine ⟨fun h => absurd h (by decide), fun _ => ⟨fun h => (by cases h), fun _ => ⟨fun h => (by simp at h), fun _ => ⟨fun h => (by simp at h), fun _ => ⟨fun h => (by simp at h), fun _ => ⟨fun h => absurd h (by decide), fun _ => ⟨fun h => (by cases h), fun _ => ⟨fun h => absurd h (by decide), fun _ => ⟨fun h => absurd h (by decide), fun _ => ⟨fun h => (by rw [hc] at h; cases h), fun _ => ⟨by decide, _, _, c126 H.toHasB (s := [91]) ?_, ?_⟩⟩⟩⟩⟩⟩⟩⟩⟩⟩⟩
        · rw [maxBytes_eq]; simp only [List.length_cons, List.length_nil, List.length_append] at hlen ⊢; omega
        · simp only [List.length_cons, List.length_nil, List.length_append] at hlen
          exact show_loop H (by unfold Val.okh Okh at h1; omega) ih (by omega) ⟨rfl, by rw [ht]; simp⟩
      · refine ⟨[60, 62], rfl, ?_⟩
        unfold T104_2 T104_3 T104_5 T104_6 T104_7 T104_8
        rw [k]
        refine ⟨fun h => absurd h (by decide), fun _ => ⟨fun h => (by cases h), fun _ => ⟨fun h => (by simp at h), fun _ => ⟨fun h => (by simp at h), fun _ => ⟨fun h => (by simp at h), fun _ => ⟨fun h => absurd h (by decide), fun _ => ⟨fun h => (by cases h), fun _ => ⟨fun h => absurd h (by decide), fun _ => ⟨fun h => absurd h (by decide), fun _ => ⟨fun hc => hB (a := 0) ?_, fun hc => ⟨by decide, _, _, c126 H.toHasB (s := [60]) ?_, ?_⟩⟩⟩⟩⟩⟩⟩⟩⟩⟩⟩
        · rw [ht, if_pos hc]; rfl
        · rw [if_neg (by rw [hc]; decide)] at hlen
          rw [maxBytes_eq]; simp only [List.length_cons, List.length_nil, List.length_append] at hlen ⊢; omega
        · rw [if_neg (by rw [hc]; decide)] at hlen ht
          simp only [List.length_cons, List.length_nil, List.length_append] at hlen
          exact show_loop H (by unfold Val.okh Okh at h1; omega) ih (by omega) ⟨rfl, by rw [ht]; simp⟩
    · obtain ⟨x0, h1, rfl, rfl⟩ := hk
      exact ⟨h1, rfl⟩
theorem c72 {v : Val} (hw : Wf v) : Pus prog 72 [v.av] (.tup [.s (if fine v = true then txt v else []), .i .i64 (chkR v)]) := by
  obtain ⟨x, y, ⟨rfl, rfl⟩, h⟩ := p72 H.f72 (v0 := v) (K := fun x y => x = (if fine v = true then txt v else []) ∧ y = chkR v) (by
    unfold T72_0
    refine ⟨_, c76 H hw, fun h => ?_, fun h => ?_⟩
    · unfold chkR at h ⊢
      by_cases hf : fine v = true
      · rw [if_pos hf] at h; exact absurd rfl h
      · rw [if_neg hf, if_neg hf]; exact ⟨rfl, rfl⟩
    · unfold chkR at h ⊢
      by_cases hf : fine v = true
      · rw [if_pos hf, if_pos hf]
        have := fine_len hf
        refine ⟨_, _, c104 H 130 (fine_ok hf).1 hw [] (by simp only [List.length_nil]; omega), fun h => absurd rfl h, fun _ => ⟨_, c105 H.toHasB (by rw [List.nil_append, maxBytes_eq]; omega), rfl, rfl⟩⟩
      · rw [if_neg hf] at h; exact absurd (by decide) h)
  exact h
end
end Go.AM

/- Parts of the proof. -/
namespace Go.AM
open Go
section
variable {prog : Prog} (H : Has38 prog)
include H
end
end Go.AM

/- Parts of the proof. -/
namespace Go.AM
open Go
section
variable {f : Bytes → Val × Bool × Bytes}
end
section
variable {prog : Prog} (H : Has38 prog)
include H
omit H in
theorem chk_fine {v : Val} : chkR v = 0 ↔ fine v = true := by
  unfold chkR
  by_cases h : fine v = true
  · rw [if_pos h]; simp [h]
  · rw [if_neg h]; simp [h]
end
end Go.AM

/- Parts of the proof. -/
namespace Go.AM
open Go
def RdK (q : Val × Bool × Bytes) (v : Val) (r : Bytes) (ok : Bool) : Prop := ok = q.2.1 ∧ (ok = true → v = q.1 ∧ r = q.2.2)
theorem RdK.no {q : Val × Bool × Bytes} {v : Val} {r : Bytes} (h : q.2.1 = false) : RdK q v r false := ⟨h.symm, fun h => by cases h⟩
theorem RdK.yes {q : Val × Bool × Bytes} {v : Val} {r : Bytes} (h : q = (v, true, r)) : RdK q v r true := by subst h; exact ⟨rfl, fun _ => ⟨rfl, rfl⟩⟩
section
variable {prog : Prog} (H : Has38 prog)
include H
end
end Go.AM

/- Parts of the proof. -/
namespace Go.AM
open Go
structure HasO (prog : Prog) : Prop extends Has38 prog where
  f154 : prog.fn 154 = some pf154
  f158 : prog.fn 158 = some pf158
  f178 : prog.fn 178 = some pf178
  f183 : prog.fn 183 = some pf183
def faults4 : List Bytes := [[], tF1, tF2, tF3]
def kinds5 : List UInt8 := [0, 2, 1, 3, 2]
theorem kinds5_at {t : Int} (h : 0 ≤ t) (h4 : ¬t > 4) : ∃ c : UInt8, kinds5[t.toNat]? = some c ∧ ((c.toNat : Nat) : Int) = kindT t := by
  rcases (show t = 0 ∨ t = 1 ∨ t = 2 ∨ t = 3 ∨ t = 4 by omega) with rfl | rfl | rfl | rfl | rfl
  · exact ⟨0, rfl, rfl⟩
  · exact ⟨2, rfl, rfl⟩
  · exact ⟨1, rfl, rfl⟩
  · exact ⟨3, rfl, rfl⟩
  · exact ⟨2, rfl, rfl⟩
theorem faults4_at {n : Int} (h : 1 ≤ n) (h3 : n ≤ 3) : faults4[n.toNat]? = some (faultT n) := by
  rcases (show n = 1 ∨ n = 2 ∨ n = 3 by omega) with rfl | rfl | rfl <;> rfl
theorem okP_no4 {p : Pan} (h : p.tag > 4) : okP p = false := by unfold okP; rw [decide_eq_false (by omega)]; rfl
theorem okP_nok {p : Pan} (h : p.value.kind ≠ kindT p.tag) : okP p = false := by unfold okP; rw [decide_eq_false h]; simp
theorem okP_0 {p : Pan} (h : p.tag = 0) (hk : p.value.kind = kindT p.tag) : okP p = (isZ p.value && decide (p.flags = 2 ∨ p.flags = 6)) := by
  unfold okP; rw [decide_eq_true hk, decide_eq_true (by omega), if_pos h]; rfl
theorem okP_n0 {p : Pan} (h4 : ¬p.tag > 4) (h : p.tag ≠ 0) (hk : p.value.kind = kindT p.tag) : okP p = (decide (p.flags = 0 ∨ p.flags = 1 ∨ p.flags = 4 ∨ p.flags = 5) && decide (p.tag = 4 → 1 ≤ p.value.int ∧ p.value.int ≤ 3) && fine p.value) := by
  unfold okP; rw [decide_eq_true hk, decide_eq_true (by omega), if_neg h]; rfl
theorem chkP_no {p : Pan} (h : okP p = false) : chkP p = 8 := by unfold chkP; rw [h]; rfl
theorem chkP_yes {p : Pan} (h : okP p = true) : chkP p = 0 := by unfold chkP; rw [h]; rfl
theorem chkP_iff {p : Pan} : chkP p = 0 ↔ okP p = true := by unfold chkP; split <;> simp_all
section
variable {prog : Prog} (H : HasO prog)
include H
theorem c178 : Pus prog 178 [] (.ag (faults4.map AV.s)) := by
  obtain ⟨x, rfl, h⟩ := p178 H.f178 (K := fun x => x = faults4) rfl
  exact h
theorem c183 : Pus prog 183 [] (.ag (kinds5.map c8)) := by
  obtain ⟨x, rfl, h⟩ := p183 H.f183 (K := fun x => x = kinds5) rfl
  exact h
theorem c158 {p : Pan} (hp : WfP p) : Pus prog 158 [p.av] (.i .i64 (chkP p)) := by
  obtain ⟨x, rfl, h⟩ := p158 H.f158 (p0 := p) (K := fun x => x = chkP p) (by
    unfold T158_0 T158_1
    refine ⟨fun h => (chkP_no (okP_no4 h)).symm, fun h4 => ?_⟩
    obtain ⟨c, g1, g2⟩ := kinds5_at hp.t.1 h4
    refine ⟨_, c183 H, rfl, hp.t.1, c, g1, fun h => (chkP_no (okP_nok (by rw [← g2]; exact h))).symm, fun h => ?_⟩
    have hk : p.value.kind = kindT p.tag := by rw [← g2]; exact Decidable.not_not.1 h
    unfold T158_2
    refine ⟨fun h0 => ?_, fun h0 => ?_⟩
    · have e := okP_0 h0 hk
      have hk0 : p.value.kind = 0 := by rw [hk, h0]; rfl
      have no : isZ p.value = false → 8 = chkP p := fun h => (chkP_no (by rw [e, h]; rfl)).symm
      have nz : ∀ {q : Prop}, (p.value = vz → q) → ¬q → isZ p.value = false := fun a b => by rw [← Bool.not_eq_true, isZ_true]; exact fun h => b (a h)
      refine ⟨fun h => no (nz (fun e => by rw [e]; rfl) h), fun h1 => ⟨fun h => no (nz (fun e => by rw [e]; rfl) h), fun h2 => ⟨fun h => no (nz (q := ¬((p.value.list.length : Int) > 0)) (fun e => by rw [e]; decide) (fun h' => h' h)), fun h3 => ⟨fun h => no (nz (q := p.value.cut = false) (fun e => by rw [e]; rfl) (by rw [h]; decide)), fun h4 => ?_⟩⟩⟩⟩
      have hz : isZ p.value = true := by
        unfold isZ
        rw [decide_eq_true hk0, decide_eq_true (Decidable.not_not.1 h1), decide_eq_true (Decidable.not_not.1 h2), decide_eq_true (by omega), h4]; rfl
      have fl := flag2 hp.f
      rw [hz, Bool.true_and] at e
      refine ⟨fun h => (chkP_no (by rw [e]; exact decide_eq_false fun h' => h (fl.2 h'))).symm, fun h => (chkP_yes (by rw [e]; exact decide_eq_true (fl.1 (Decidable.not_not.1 h)))).symm⟩
    · have e := okP_n0 h4 h0 hk
      have fl := flag0 hp.f
      unfold T158_3
      refine ⟨fun h => (chkP_no (by rw [e, decide_eq_false (fun h' => h (fl.2 h'))]; rfl)).symm, fun h => ?_⟩
      rw [decide_eq_true (fl.1 (Decidable.not_not.1 h)), Bool.true_and] at e
      have last : (p.tag = 4 → 1 ≤ p.value.int ∧ p.value.int ≤ 3) → T158_4 prog (fun x => x = chkP p) p := fun hh => by
        unfold T158_4
        refine ⟨_, c76 H.toHas38 hp.v, ?_⟩
        rw [decide_eq_true hh, Bool.true_and] at e
        unfold chkR chkP
        rw [e]
      refine ⟨fun h5 => ⟨fun h => (chkP_no (by rw [e, decide_eq_false (fun h' => by have := h' h5; omega)]; rfl)).symm, fun h6 => ⟨fun h => (chkP_no (by rw [e, decide_eq_false (fun h' => by have := h' h5; omega)]; rfl)).symm, fun h7 => last fun _ => by omega⟩⟩, fun h5 => last fun h' => absurd h' h5⟩)
  exact h
omit H in
theorem and1 {f : Int} (h : f = 0 ∨ f = 1 ∨ f = 2 ∨ f = 4 ∨ f = 5 ∨ f = 6) : (bAnd .u64 f 1 ≠ 0 ↔ f % 2 = 1) ∧ (bAnd .u64 f 4 ≠ 0 ↔ 4 ≤ f) ∧ (f.tmod 2 = 1 ↔ f % 2 = 1) := by
  rcases h with rfl | rfl | rfl | rfl | rfl | rfl <;> decide
omit H in
theorem okP_f6 {p : Pan} (h : okP p = true) : p.flags = 0 ∨ p.flags = 1 ∨ p.flags = 2 ∨ p.flags = 4 ∨ p.flags = 5 ∨ p.flags = 6 := by rcases okP_flags h with ⟨_, _, h⟩ | ⟨_, _, h⟩ <;> omega
omit H in
theorem okP_4 {p : Pan} (h : okP p = true) (h4 : p.tag = 4) : 1 ≤ p.value.int ∧ p.value.int ≤ 3 := by
  unfold okP at h
  simp only [Bool.and_eq_true, decide_eq_true_eq] at h
  have h3 := h.2
  rw [if_neg (by omega)] at h3
  simp only [Bool.and_eq_true, decide_eq_true_eq] at h3
  exact h3.1.2 h4
omit H in
theorem shown_steps {p : Pan} {b : Bytes} (hb : b = baseP p) : shown p = (b ++ (if p.flags % 2 = 1 then tRec else [])) ++ (if 4 ≤ p.flags then tAb else []) := by
  rw [hb, shown, sufP, List.append_assoc]
theorem c154 {p : Pan} (hp : WfP p) : Pus prog 154 [p.av] (.tup [.s (lnP p).1, .i .i64 (lnP p).2]) := by
  obtain ⟨x, y, ⟨rfl, rfl⟩, h⟩ := p154 H.f154 (p0 := p) (K := fun x y => x = (lnP p).1 ∧ y = (lnP p).2) (by
    unfold T154_0
    refine ⟨_, c158 H hp, fun h => ?_, fun h => ?_⟩
    · have h1 : okP p ≠ true := fun h' => h (chkP_iff.2 h')
      unfold lnP chkP; rw [if_neg h1, if_neg h1]; exact ⟨rfl, rfl⟩
    · have ho := chkP_iff.1 (Decidable.not_not.1 h)
      have hl := shown_len ho
      obtain ⟨a1, a2, a3⟩ := and1 (okP_f6 ho)
      unfold lnP; rw [if_pos ho]
      have t1 : ∀ b, b = baseP p → T154_1 prog (fun x y => x = (shown p, (0 : Int)).1 ∧ y = (shown p, (0 : Int)).2) b p := fun b hb => by
        have e := shown_steps hb
        have hl : b.length ≤ 400 := by rw [e, List.length_append, List.length_append] at hl; omega
        unfold T154_1 T154_2 T154_3
        simp only [List.length_append, List.length_cons, List.length_nil, maxStr_eq]
        refine ⟨fun h1 => ⟨by omega, fun h2 => ⟨by omega, ?_, trivial⟩, fun h2 => ⟨?_, trivial⟩⟩, fun h1 => ⟨fun h2 => ⟨by omega, ?_, trivial⟩, fun h2 => ⟨?_, trivial⟩⟩⟩
        · rw [e, if_pos (a1.1 h1), if_pos (a2.1 h2)]; rfl
        · rw [e, if_pos (a1.1 h1), if_neg fun h => h2 (a2.2 h), List.append_nil]; rfl
        · rw [e, if_neg fun h => h1 (a1.2 h), if_pos (a2.1 h2), List.append_nil]; rfl
        · rw [e, if_neg fun h => h1 (a1.2 h), if_neg fun h => h2 (a2.2 h), List.append_nil, List.append_nil]
      refine ⟨fun h0 => t1 _ (by unfold baseP; rw [if_pos h0]; rfl), fun h0 => ⟨fun h4 => ?_, fun h4 => ?_⟩⟩
      · obtain ⟨g1, g2⟩ := okP_4 ho h4
        exact ⟨_, c178 H, rfl, by omega, _, faults4_at g1 g2, t1 _ (by unfold baseP; rw [if_neg h0, if_pos h4])⟩
      · have hf : fine p.value = true := by rcases okP_flags ho with h | h; exact absurd h.1 h0; exact h.2.1
        have := fine_len hf
        refine ⟨_, _, c72 H.toHas38 hp.v, fun h => absurd (chk_fine.2 hf) h, fun _ => ?_⟩
        rw [if_pos hf]
        refine ⟨?_, t1 _ (by unfold baseP; rw [if_neg h0, if_neg h4]; rfl)⟩
        simp only [List.length_cons, List.length_nil, maxStr_eq]; omega)
  exact h
end
end Go.AM

/- Parts of the proof. -/
namespace Go.AM
open Go
structure HasP (prog : Prog) : Prop extends HasO prog
section
variable {prog : Prog} (H : HasP prog)
include H
end
end Go.AM

/- Parts of the proof. -/
namespace Go.AM
open Go
structure HasQ (prog : Prog) : Prop extends HasP prog where
  f169 : prog.fn 169 = some pf169
def chainR (l : List Pan) : Int := if 410 < l.length then 4 else if l.all okP = true then 0 else 8
def greatC (l : List Pan) : Bool := (decide (20 < l.length) && decide (l.length ≤ 410)) || decide (420 < l.length) || l.any (fun p => greatv p.value)
theorem chain_ok {l : List Pan} (h : chainR l = 0) : l.length ≤ 410 ∧ ∀ p ∈ l, okP p = true := by
  unfold chainR at h
  split at h
  · cases h
  · split at h
    · rename_i h1 h2; exact ⟨by omega, List.all_eq_true.1 h2⟩
    · cases h
section
variable {prog : Prog} (H : HasQ prog)
include H
end
section
variable {prog : Prog} (H : HasQ prog)
include H
end
end Go.AM

/- Parts of the proof. -/
namespace Go.AM
open Go
def gFld (s : Fld) : Bool := decide (40 < s.name.length)
def gFun (f : Fun) : Bool := decide (40 < f.name.length) || decide (30 < f.slots.length) || decide (300 < f.code.length) || f.slots.any gFld
def greatI (m : Img) : Bool := (m.funcs.take 41).any gFun || decide (40 < m.funcs.length)
def greatX (x : Frm) : Bool := (x.locals.take 21).any (fun l => greatv l.value) || decide (20 < x.locals.length)
structure OkI (m : Img) : Prop where
  n : m.funcs.length ≤ 40
  f : ∀ f ∈ m.funcs, f.name.length ≤ 40 ∧ f.slots.length ≤ 30 ∧ f.code.length ≤ 300 ∧ ∀ s ∈ f.slots, s.name.length ≤ 40
theorem OkI.of {m : Img} (h : greatI m = false) : OkI m := by
  simp only [greatI, Bool.or_eq_false_iff, decide_eq_false_iff_not] at h
  have hn : m.funcs.length ≤ 40 := by omega
  refine ⟨hn, fun f hf => ?_⟩
  have h1 := h.1
  rw [List.take_of_length_le (by omega), List.any_eq_false] at h1
  have h2 := h1 f hf
  simp only [gFun, Bool.not_eq_true, Bool.or_eq_false_iff, decide_eq_false_iff_not, List.any_eq_false] at h2
  refine ⟨by omega, by omega, by omega, fun s hs => ?_⟩
  simpa [gFld] using h2.2 s hs
structure WfX (x : Frm) : Prop where
  m : 0 ≤ x.mode
  n : x.locals.length ≤ 9223372036854775807
  v : ∀ l ∈ x.locals, Wf l.value
def asc (n : Int) : Int → List Loc → Bool
  | _, [] => true
  | last, l :: r => decide (last < l.slot) && decide (l.slot < n) && fine l.value && asc n l.slot r
def fitF (f : Fun) (x : Frm) : Bool := decide (f.slots.length ≤ 16) && decide (f.name.length ≤ 16) && decide (0 ≤ x.pos) && decide (x.pos < f.code.length) && f.slots.all (fun s => decide (s.name.length ≤ 16)) && asc f.slots.length (-1) x.locals
def fitb (m : Img) (x : Frm) : Bool := decide (0 ≤ x.func) && decide (x.mode ≤ 3) && (match m.funcs[x.func.toNat]? with | none => false | some f => fitF f x)
def fitR (m : Img) (x : Frm) : Int := if fitb m x = true then 0 else 8
def modes4 : List Bytes := [[99, 97, 108, 108], [100, 101, 102, 101, 114], [112, 97, 110, 105, 99], [101, 120, 105, 116]]
def modeW (n : Int) : Bytes := (modes4[n.toNat]?).getD []
def headL (f : Fun) (k : Int) (x : Frm) : Bytes := [35] ++ num k ++ [32] ++ num x.func ++ [32] ++ quo f.name ++ [32, 97, 116, 32] ++ num x.pos ++ [32] ++ modeW x.mode
def slotN (f : Fun) (n : Int) : Bytes := ((f.slots[n.toNat]?).getD Fld.zero).name
def locL (f : Fun) (l : Loc) : Bytes := [32, 32] ++ num l.slot ++ [32] ++ quo (slotN f l.slot) ++ [32, 61, 32] ++ txt l.value
def frmL (m : Img) (k : Int) (x : Frm) : List Bytes := match m.funcs[x.func.toNat]? with
  | none => []
  | some f => headL f k x :: x.locals.map (locL f)
def frR (m : Img) (k : Int) (x : Frm) : List Bytes × Int := if k < 0 ∨ 170 ≤ k then ([], 2) else if fitb m x = true then (frmL m k x, 0) else ([], 8)
theorem fitb_iff {m : Img} {x : Frm} : fitb m x = true ↔ 0 ≤ x.func ∧ x.mode ≤ 3 ∧ ∃ f, m.funcs[x.func.toNat]? = some f ∧ fitF f x = true := by
  unfold fitb
  cases h : m.funcs[x.func.toNat]? with
  | none => simp
  | some f => simp [and_assoc]
theorem fitF_iff {f : Fun} {x : Frm} : fitF f x = true ↔ f.slots.length ≤ 16 ∧ f.name.length ≤ 16 ∧ 0 ≤ x.pos ∧ x.pos < f.code.length ∧ (∀ s ∈ f.slots, s.name.length ≤ 16) ∧ asc f.slots.length (-1) x.locals = true := by
  simp [fitF, and_assoc]
theorem asc_mem {n : Int} : ∀ {l : List Loc} {last : Int}, asc n last l = true → ∀ x ∈ l, last < x.slot ∧ x.slot < n ∧ fine x.value = true
  | [], _, _, x, hx => by cases hx
  | y :: r, last, h, x, hx => by
    simp only [asc, Bool.and_eq_true, decide_eq_true_eq] at h
    obtain ⟨⟨⟨h1, h2⟩, h3⟩, h4⟩ := h
    rcases List.mem_cons.1 hx with rfl | hx
    · exact ⟨h1, h2, h3⟩
    · have := asc_mem h4 x hx
      exact ⟨by omega, this.2⟩
theorem asc_len {n : Int} : ∀ {l : List Loc} {last : Int}, asc n last l = true → l = [] ∨ (l.length : Int) < n - last
  | [], _, _ => .inl rfl
  | y :: r, last, h => by
    simp only [asc, Bool.and_eq_true, decide_eq_true_eq] at h
    obtain ⟨⟨⟨h1, h2⟩, h3⟩, h4⟩ := h
    rcases asc_len h4 with rfl | h5
    · right; simp only [List.length_cons, List.length_nil]; omega
    · right; simp only [List.length_cons]; omega
theorem asc_take {n last : Int} : ∀ (l : List Loc) (i : Nat), asc n last l = true → asc n last (l.take i) = true
  | [], i, h => by rw [List.take_nil]; rfl
  | y :: r, 0, h => rfl
  | y :: r, i + 1, h => by
    simp only [asc, List.take_succ_cons, Bool.and_eq_true] at h ⊢
    exact ⟨h.1, asc_take r i h.2⟩
def lastS (last : Int) : List Loc → Int
  | [] => last
  | l :: r => lastS l.slot r
theorem lastS_snoc : ∀ (l : List Loc) (last : Int) (x : Loc), lastS last (l ++ [x]) = x.slot
  | [], _, _ => rfl
  | y :: r, last, x => lastS_snoc r y.slot x
theorem asc_snoc {n : Int} : ∀ (l : List Loc) (last : Int) (x : Loc), asc n last (l ++ [x]) = (asc n last l && decide (lastS last l < x.slot) && decide (x.slot < n) && fine x.value)
  | [], last, x => by simp [asc, lastS]; rfl
  | y :: r, last, x => by
    simp only [List.cons_append, asc, lastS, asc_snoc r y.slot x]
    simp only [Bool.and_assoc]
    rfl
theorem asc_no {n last : Int} {l : List Loc} {i : Nat} (h : asc n last (l.take i) = false) : asc n last l = false := by
  rw [← Bool.not_eq_true] at h ⊢
  exact fun h' => h (asc_take l i h')
def nameAt (m : Img) (n : Int) : Bytes := ((m.funcs[n.toNat]?).getD Fun.zero).name
abbrev fz : Frm := ⟨0, 0, 0, []⟩
end Go.AM

/- Parts of the proof. -/
namespace Go.AM
open Go
structure HasF (prog : Prog) : Prop extends Has38 prog where
  f82 : prog.fn 82 = some pf82
  f86 : prog.fn 86 = some pf86
  f111 : prog.fn 111 = some pf111
  f112 : prog.fn 112 = some pf112
  f113 : prog.fn 113 = some pf113
  f122 : prog.fn 122 = some pf122
  f123 : prog.fn 123 = some pf123
  f144 : prog.fn 144 = some pf144
def idxP {α : Type} (p : α → Bool) : List α → Int
  | [] => -1
  | x :: r => if p x = true then 0 else if idxP p r = -1 then -1 else 1 + idxP p r
theorem idxP_any {α : Type} (p : α → Bool) : ∀ l : List α, -1 ≤ idxP p l ∧ (0 ≤ idxP p l ↔ l.any p = true)
  | [] => by simp [idxP]
  | x :: r => by
    have := idxP_any p r
    rw [idxP, List.any_cons]
    cases p x
    · simp only [Bool.false_eq_true, if_false, Bool.false_or]
      split
      · exact ⟨by omega, fun h => absurd h (by decide), fun h => absurd (this.2.2 h) (by omega)⟩
      · exact ⟨by omega, fun _ => this.2.1 (by omega), fun h => by have := this.2.2 h; omega⟩
    · simp
theorem loop_idx {α : Type} {P : Int → Prop} {Q : Int → Prop} (p : α → Bool) (l : List α) (h1 : Q (-1) → P (l.length : Int)) (h2 : ∀ (i : Nat) (hi : i < l.length), p l[i] = true → Q (i : Int) → P (i : Int)) (h3 : ∀ (i : Nat) (hi : i < l.length), p l[i] = false → P ((i + 1 : Nat) : Int) → P (i : Int)) (hQ : Q (idxP p l)) : P 0 := by
  have key : ∀ m i : Nat, i + m = l.length → Q (if idxP p (l.drop i) = -1 then -1 else i + idxP p (l.drop i)) → P (i : Int) := by
    intro m
    induction m with
    | zero =>
      intro i hi hq
      have : l.drop i = [] := List.drop_eq_nil_of_le (by omega)
      rw [this] at hq
      simp only [Nat.add_zero] at hi
      subst hi
      exact h1 (by simpa [idxP] using hq)
    | succ m ih =>
      intro i hi hq
      have hil : i < l.length := by omega
      rw [List.drop_eq_getElem_cons hil, idxP] at hq
      have hb := (idxP_any p (l.drop (i + 1))).1
      cases hp : p l[i] with
      | true =>
        refine h2 i hil hp ?_
        rw [hp] at hq
        simpa using hq
      | false =>
        refine h3 i hil hp (ih (i + 1) (by omega) ?_)
        rw [hp] at hq
        simp only [Bool.false_eq_true, if_false] at hq
        by_cases hn : idxP p (l.drop (i + 1)) = -1
        · rw [if_pos hn] at hq ⊢
          simpa using hq
        · rw [if_neg hn] at hq ⊢
          rw [if_neg (by omega)] at hq
          rw [show ((i + 1 : Nat) : Int) + idxP p (l.drop (i + 1)) = (i : Int) + (1 + idxP p (l.drop (i + 1))) by omega]
          exact hq
  refine key l.length 0 (by omega) ?_
  rw [List.drop_zero]
  split
  · rename_i h; rw [h] at hQ; exact hQ
  · simpa using hQ
theorem modes4_get {n : Int} (h0 : 0 ≤ n) (h1 : n ≤ 3) : modes4[n.toNat]? = some (modeW n) := by
  have : n = 0 ∨ n = 1 ∨ n = 2 ∨ n = 3 := by omega
  rcases this with rfl | rfl | rfl | rfl <;> rfl
theorem modeW_len {n : Int} (h0 : 0 ≤ n) (h1 : n ≤ 3) : (modeW n).length ≤ 5 := by
  have : n = 0 ∨ n = 1 ∨ n = 2 ∨ n = 3 := by omega
  rcases this with rfl | rfl | rfl | rfl <;> decide
section
variable {prog : Prog} (H : HasF prog)
include H
theorem c111 {n : Int} (h1 : -9223372036854775808 ≤ n) (h2 : n < 9223372036854775808) : Pus prog 111 [.i .i64 n] (.s (num n)) := by
  obtain ⟨x, rfl, h⟩ := p111 H.f111 (n0 := n) (K := fun x => x = num n) (by
    unfold T111_0
    exact ⟨_, c15 H.toHas03 h1 h2, rfl⟩)
  exact h
theorem c112 {s : Bytes} (hs : s.length ≤ 400) : Pus prog 112 [.s s] (.s (quo s)) := by
  obtain ⟨x, rfl, h⟩ := p112 H.f112 (s0 := s) (K := fun x => x = quo s) (by
    unfold T112_0
    refine ⟨_, _, c11 H.toHas03 s, ?_⟩
    rw [quoR_ok hs])
  exact h
theorem c113 : Pus prog 113 [] (.ag (modes4.map AV.s)) := by
  obtain ⟨x, rfl, h⟩ := p113 H.f113 (K := fun x => x = modes4) (by unfold T113_0; rfl)
  exact h
theorem c123 (s : Fld) : PuN prog 123 [s.av] (fun r => r = .b (decide (16 < s.name.length))) := by
  refine (p123 H.f123 (s0 := s) (K := fun x => x = decide (16 < s.name.length)) ?_).to ?_
  · unfold T123_0
    exact decide_eq_decide.2 (by omega)
  · rintro r ⟨x, rfl, rfl⟩; rfl
theorem c144 {l : List Fld} {f : Nat × List AV} {p : Fld → Bool} (hl : l.length ≤ 9223372036854775807) (hf : ∀ x ∈ l, PuN prog f.1 ([x.av] ++ f.2) (fun r => r = .b (p x))) (o : Own) : PuN prog 144 [.sl o (l.map Fld.row), .fn f.1 f.2] (fun r => r = .i .i64 (idxP p l)) := by
  refine (p144 H.f144 (s0 := l) (f1 := f) (K := fun x => x = idxP p l) ?_ o).to ?_
  · unfold T144_0
    intro P hP
    refine loop_idx (Q := fun x => x = idxP p l) p l (fun h => hP _ ?_) (fun i hi hp hq => hP _ ?_) (fun i hi hp ih => hP _ ?_) rfl
    · unfold T144_1 T144_2
      exact ⟨fun h' => absurd h' (by omega), fun _ => h⟩
    · unfold T144_1
      refine ⟨fun _ => ⟨by omega, _, get_at hi, _, hf _ (List.getElem_mem hi), fun _ => hq, fun h' => ?_⟩, fun h' => absurd h' (by omega)⟩
      rw [hp] at h'; cases h'
    · unfold T144_1
      refine ⟨fun _ => ⟨by omega, _, get_at hi, _, hf _ (List.getElem_mem hi), fun h' => ?_, fun _ => ?_⟩, fun h' => absurd h' (by omega)⟩
      · rw [hp] at h'; cases h'
      · rw [wr_i64 (by omega) (by omega)]; exact ih
  · rintro r ⟨x, rfl, rfl⟩; rfl
theorem c122 {l : List Fld} {f : Nat × List AV} {p : Fld → Bool} (hl : l.length ≤ 9223372036854775807) (hf : ∀ x ∈ l, PuN prog f.1 ([x.av] ++ f.2) (fun r => r = .b (p x))) (o : Own) : PuN prog 122 [.sl o (l.map Fld.row), .fn f.1 f.2] (fun r => r = .b (l.any p)) := by
  refine (p122 H.f122 (s0 := l) (f1 := f) (K := fun x => x = l.any p) ?_ o).to ?_
  · unfold T122_0
    refine ⟨_, fun o => c144 H hl hf o, ?_⟩
    have := (idxP_any p l).2
    cases h : l.any p
    · exact decide_eq_false (by rw [h] at this; intro h'; exact absurd (this.1 h') (by decide))
    · exact decide_eq_true (this.2 h)
  · rintro r ⟨x, rfl, rfl⟩; rfl
end
end Go.AM

/- Parts of the proof. -/
namespace Go.AM
open Go
theorem fitR_no {m : Img} {x : Frm} (h : fitb m x ≠ true) : (8 : Int) = fitR m x := by unfold fitR; rw [if_neg h]
theorem fitR_yes {m : Img} {x : Frm} (h : fitb m x = true) : (0 : Int) = fitR m x := by unfold fitR; rw [if_pos h]
theorem fun_at {m : Img} {n : Int} (h0 : 0 ≤ n) (h1 : n < m.funcs.length) : ∃ f, m.funcs[n.toNat]? = some f ∧ f ∈ m.funcs := by
  have h : n.toNat < m.funcs.length := by omega
  exact ⟨m.funcs[n.toNat], List.getElem?_eq_getElem h, List.getElem_mem h⟩
theorem asc_go {n : Int} {l : List Loc} {i : Nat} (hi : i < l.length) : asc n (-1) (l.take (i + 1)) = (asc n (-1) (l.take i) && decide (lastS (-1) (l.take i) < l[i].slot) && decide (l[i].slot < n) && fine l[i].value) := by
  rw [List.take_succ_eq_append_getElem hi, asc_snoc]
section
variable {prog : Prog} (H : HasF prog)
include H
theorem c86 {m : Img} {x : Frm} (hm : OkI m) (hx : WfX x) : Pus prog 86 [m.av, x.av] (.i .i64 (fitR m x)) := by
  obtain ⟨y, rfl, h⟩ := p86 H.f86 (m0 := m) (x1 := x) (K := fun y => y = fitR m x) (by
    unfold T86_0 T86_1
    have no : ¬(0 ≤ x.func ∧ x.mode ≤ 3 ∧ ∃ f, m.funcs[x.func.toNat]? = some f ∧ fitF f x = true) → (8 : Int) = fitR m x := fun h => fitR_no fun h' => h (fitb_iff.1 h')
    refine ⟨fun h => no (by omega), fun h0 => ⟨fun h => no ?_, fun h1 => ⟨fun h => no (by omega), fun h2 => ?_⟩⟩⟩
    · rintro ⟨_, _, f, hf, _⟩
      rw [List.getElem?_eq_none (by omega)] at hf
      cases hf
    obtain ⟨f, hf, hmem⟩ := fun_at (m := m) (n := x.func) (by omega) (by omega)
    obtain ⟨q1, q2, q3, q4⟩ := hm.f f hmem
    have no : fitF f x ≠ true → (8 : Int) = fitR m x := fun h => no (by
      rintro ⟨_, _, g, hg, h'⟩
      rw [hf] at hg
      cases hg
      exact h h')
    have no : ¬(f.slots.length ≤ 16 ∧ f.name.length ≤ 16 ∧ 0 ≤ x.pos ∧ x.pos < f.code.length ∧ (∀ s ∈ f.slots, s.name.length ≤ 16) ∧ asc f.slots.length (-1) x.locals = true) → (8 : Int) = fitR m x := fun h => no fun h' => h (fitF_iff.1 h')
    unfold T86_2 T86_3
    refine ⟨by omega, f, hf, fun h => no (by omega), fun k1 => ⟨fun h => no (by omega), fun k2 => ⟨fun h => no (by omega), fun k3 => ⟨fun h => no (by omega), fun k4 => ⟨_, fun o => c122 H (l := f.slots) (f := (123, [])) (p := fun s => decide (16 < s.name.length)) (by omega) (fun s _ => c123 H s) o, fun h => no ?_, fun h => ?_⟩⟩⟩⟩⟩
    · rintro ⟨_, _, _, _, h', _⟩
      rw [List.any_eq_true] at h
      obtain ⟨s, hs, h3⟩ := h
      have := h' s hs
      simp only [decide_eq_true_eq] at h3
      omega
    have hs : ∀ s ∈ f.slots, s.name.length ≤ 16 := by
      intro s hs
      rw [List.any_eq_false] at h
      simpa using h s hs
    have no : asc f.slots.length (-1) x.locals ≠ true → (8 : Int) = fitR m x := fun h => no (by rintro ⟨_, _, _, _, _, h'⟩; exact h h')
    unfold T86_4
    intro P hP
    have hn := hx.n
    have go : ∀ k i : Nat, i + k = x.locals.length → asc f.slots.length (-1) (x.locals.take i) = true → P (lastS (-1) (x.locals.take i)) (i : Int) f := by
      intro k
      induction k with
      | zero =>
        intro i hi ha
        apply hP
        unfold T86_5 T86_6
        refine ⟨fun h => absurd h (by omega), fun _ => fitR_yes ?_⟩
        rw [List.take_of_length_le (by omega)] at ha
        exact fitb_iff.2 ⟨by omega, by omega, f, hf, fitF_iff.2 ⟨by omega, by omega, by omega, by omega, hs, ha⟩⟩
      | succ k ih =>
        intro i hi ha
        have hil : i < x.locals.length := by omega
        have e := asc_go (n := f.slots.length) hil
        have no : asc f.slots.length (-1) (x.locals.take (i + 1)) = false → (8 : Int) = fitR m x := fun h => no (by rw [asc_no h]; decide)
        rw [ha, Bool.true_and] at e
        apply hP
        unfold T86_5
        refine ⟨fun _ => ⟨by omega, _, get_at hil, fun h => no ?_, fun h3 => ⟨fun h => no ?_, fun h4 => ⟨_, c76 H.toHas38 (hx.v _ (List.getElem_mem hil)), fun h => no ?_, fun h5 => ?_⟩⟩⟩, fun h => absurd (show (i : Int) < x.locals.length by omega) h⟩
        · rw [e, decide_eq_false (by omega)]; rfl
        · rw [e, decide_eq_false (p := x.locals[i].slot < _) (by omega)]; simp
        · rw [e, show fine x.locals[i].value = false by rw [← Bool.not_eq_true]; exact fun h' => h (chk_fine.2 h')]; simp
        · rw [wr_i64 (by omega) (by omega)]
          have h6 := chk_fine.1 (Decidable.not_not.1 h5)
          have := ih (i + 1) (by omega) (by rw [e, h6, decide_eq_true (by omega), decide_eq_true (by omega)]; rfl)
          rw [List.take_succ_eq_append_getElem hil, lastS_snoc] at this
          exact this
    exact go x.locals.length 0 (by omega) rfl)
  exact h
end
end Go.AM

/- Parts of the proof. -/
namespace Go.AM
open Go
theorem slot_at {f : Fun} {n : Int} (h0 : 0 ≤ n) (h1 : n < f.slots.length) : ∃ s, f.slots[n.toNat]? = some s ∧ s ∈ f.slots ∧ slotN f n = s.name := by
  have h : n.toNat < f.slots.length := by omega
  refine ⟨f.slots[n.toNat], List.getElem?_eq_getElem h, List.getElem_mem h, ?_⟩
  unfold slotN
  rw [List.getElem?_eq_getElem h]
  rfl
theorem map_take_snoc {α β : Type} (g : α → β) {l : List α} {i : Nat} (h : i < l.length) : (l.take (i + 1)).map g = (l.take i).map g ++ [g l[i]] := by
  rw [List.take_succ_eq_append_getElem h, List.map_append]
  rfl
theorem frmL_eq {m : Img} {x : Frm} {f : Fun} (h : m.funcs[x.func.toNat]? = some f) (k : Int) : frmL m k x = headL f k x :: x.locals.map (locL f) := by
  unfold frmL
  rw [h]
theorem frR_bad {m : Img} {k : Int} {x : Frm} (h : k < 0 ∨ 170 ≤ k) : frR m k x = ([], 2) := by unfold frR; rw [if_pos h]
theorem frR_no {m : Img} {k : Int} {x : Frm} (h : ¬(k < 0 ∨ 170 ≤ k)) (h1 : fitb m x ≠ true) : frR m k x = ([], 8) := by unfold frR; rw [if_neg h, if_neg h1]
theorem frR_yes {m : Img} {k : Int} {x : Frm} (h : ¬(k < 0 ∨ 170 ≤ k)) (h1 : fitb m x = true) : frR m k x = (frmL m k x, 0) := by unfold frR; rw [if_neg h, if_pos h1]
section
variable {prog : Prog} (H : HasF prog)
include H
theorem c82 {m : Img} {k : Int} {x : Frm} (hm : OkI m) (hx : WfX x) : Pus prog 82 [m.av, .i .i64 k, x.av] (.tup [.sl .ext ((frR m k x).1.map rowS), .i .i64 (frR m k x).2]) := by
  obtain ⟨y, z, ⟨rfl, rfl⟩, h⟩ := p82 H.f82 (m0 := m) (k1 := k) (x2 := x) (K := fun y z => y = (frR m k x).1 ∧ z = (frR m k x).2) (by
    unfold T82_0 T82_1
    refine ⟨fun h => by rw [frR_bad (.inl h)]; exact ⟨rfl, rfl⟩, fun h0 => ⟨fun h => by rw [frR_bad (.inr h)]; exact ⟨rfl, rfl⟩, fun h1 => ?_⟩⟩
    unfold T82_2
    refine ⟨_, c86 H hm hx, fun h => ?_, fun h => ?_⟩
    · by_cases hb : fitb m x = true
      · rw [← fitR_yes hb] at h; exact absurd rfl h
      · rw [frR_no (by omega) hb, ← fitR_no hb]; exact ⟨rfl, rfl⟩
    have hb : fitb m x = true := by
      by_cases hb : fitb m x = true
      · exact hb
      · rw [← fitR_no hb] at h; exact absurd (by decide) h
    rw [frR_yes (by omega) hb]
    obtain ⟨f0, f1, f, hf, hF⟩ := fitb_iff.1 hb
    obtain ⟨g1, g2, g3, g4, g5, g6⟩ := fitF_iff.1 hF
    have hmem := List.mem_of_getElem? hf
    obtain ⟨q1, q2, q3, q4⟩ := hm.f f hmem
    have hn := hm.n
    have hfl : x.func < m.funcs.length := by
      have := (List.getElem?_eq_some_iff.1 hf).1
      omega
    have l1 := num_len k
    have l2 := num_len x.func
    have l3 := num_len x.pos
    have l4 := quo_len f.name
    have l5 := modeW_len hx.m f1
    rw [frmL_eq hf]
    unfold T82_3
    refine ⟨f0, f, hf, ?_⟩
    unfold T82_4
    refine ⟨_, c111 H (by omega) (by omega), ?_, ?_, _, c111 H (by omega) (by omega), ?_, ?_, _, c112 H (by omega), ?_, ?_, _, c111 H (by omega) (by omega), ?_, ?_, _, c113 H, rfl, hx.m, _, modes4_get hx.m f1, ?_, fun P hP => ?_⟩
    all_goals try (rw [maxStr_eq]; simp only [List.length_append, List.length_cons, List.length_nil]; omega)
    have len := asc_len g6
    have hn2 : x.locals.length ≤ 16 := by
      rcases len with h | h
      · rw [h]; exact Nat.zero_le _
      · omega
    refine loop_up (P := fun o i => P o i f) (fun i => headL f k x :: (x.locals.take i).map (locL f)) x.locals.length (hP _ _ _ ?_) fun i hi ih => hP _ _ _ ?_
    · unfold T82_5 T82_6
      rw [List.take_length]
      exact ⟨fun h => absurd h (by omega), fun _ => ⟨rfl, rfl⟩⟩
    · obtain ⟨a1, a2, a3⟩ := asc_mem g6 _ (List.getElem_mem hi)
      obtain ⟨s, b1, b2, b3⟩ := slot_at (f := f) (n := x.locals[i].slot) (by omega) (by omega)
      have c1 := num_len x.locals[i].slot
      have c2 := quo_len s.name
      have c3 := q4 s b2
      have c4 := fine_len a3
      unfold T82_5
      refine ⟨fun _ => ⟨by omega, _, get_at hi, _, _, c72 H.toHas38 (hx.v _ (List.getElem_mem hi)), fun h => absurd (chk_fine.2 a3) h, fun _ => ?_⟩, fun h => absurd (show (i : Int) < x.locals.length by omega) h⟩
      rw [if_pos a3]
      refine ⟨_, c111 H (by omega) (by omega), ?_, ?_, by omega, s, b1, _, c112 H (by omega), ?_, ?_, ?_, ⟨?_, ?_⟩, ?_⟩
      all_goals try (rw [maxStr_eq]; simp only [List.length_append, List.length_cons, List.length_nil]; omega)
      all_goals try (rw [maxBytes_eq]; simp only [List.length_append, List.length_cons, List.length_nil, List.length_map, List.length_take]; omega)
      rw [wr_i64 (by omega) (by omega)]
      rw [map_take_snoc (locL f) hi] at ih
      unfold locL at ih ⊢
      rw [b3] at ih
      exact ih)
  exact h
end
end Go.AM

/- Parts of the proof. -/
namespace Go.AM
open Go
structure HasG (prog : Prog) : Prop extends HasF prog
section
variable {prog : Prog} (H : HasG prog)
include H
end
end Go.AM

/- Parts of the proof. -/
namespace Go.AM
open Go
section
variable {prog : Prog} (H : HasG prog)
include H
end
end Go.AM

/- Parts of the proof. -/
namespace Go.AM
open Go
section
variable {prog : Prog} (H : HasG prog)
include H
end
end Go.AM

/- Parts of the proof. -/
namespace Go.AM
open Go
def nameOk (m : Img) (n : Int) : Bool := match m.funcs[n.toNat]? with
  | none => false
  | some f => decide (f.name.length ≤ 16)
def callD (m : Img) (many : Int) (d : Dfr) : Bool := decide (0 ≤ d.frame) && decide (d.frame < many) && decide (0 ≤ d.func) && nameOk m d.func && (if d.hasArg = true then decide (d.arg.kind = 1 ∨ d.arg.kind = 2 ∨ d.arg.kind = 4) && fine d.arg else isZ d.arg)
def goesR (m : Img) (x : Rou) : Bool := if x.status = 3 then decide (x.frames.length = 0) && decide (x.defers.length = 0) && decide (x.panics.length = 0) && decide (x.key = 0)
  else decide (x.status = 2 ∨ (x.status = 1 ∧ x.key = 0)) && decide (1 ≤ x.frames.length ∧ x.frames.length ≤ 170) && decide (x.defers.length ≤ 410) && decide (chainR x.panics = 0) && x.frames.all (fitb m) && x.defers.all (callD m x.frames.length)
def fitS (m : Img) (s : Sta) : Bool := decide (1 ≤ s.outcome ∧ s.outcome ≤ 8) && decide (0 ≤ s.steps ∧ s.steps ≤ 5000) && decide (s.routines.length ≤ 16) && decide (-1 ≤ s.failing ∧ s.failing < s.routines.length) && s.routines.all (goesR m)
structure WfR (x : Rou) : Prop where
  st : 0 ≤ x.status
  k : -9223372036854775808 ≤ x.key ∧ x.key < 9223372036854775808
  f : ∀ y ∈ x.frames, WfX y
  d : ∀ y ∈ x.defers, Wf y.arg
  p : ∀ y ∈ x.panics, WfP y
  fl : x.frames.length ≤ 1000000000000000000
  dl : x.defers.length ≤ 1000000000000000000
  pl : x.panics.length ≤ 1000000000000000000
structure WfR0 (x : Rou) : Prop where
  st : 0 ≤ x.status
  k : -9223372036854775808 ≤ x.key ∧ x.key < 9223372036854775808
  f : ∀ y ∈ x.frames, WfX y
  d : ∀ y ∈ x.defers, Wf y.arg
  p : ∀ y ∈ x.panics, WfP y
  fl : x.frames.length ≤ 9223372036854775807
  dl : x.defers.length ≤ 9223372036854775807
  pl : x.panics.length ≤ 9223372036854775807
structure WfS0 (s : Sta) : Prop where
  o : 0 ≤ s.outcome
  r : ∀ x ∈ s.routines, WfR0 x
  n : s.routines.length ≤ 9223372036854775807
structure WfS (s : Sta) : Prop where
  o : 0 ≤ s.outcome
  r : ∀ x ∈ s.routines, WfR x
  n : s.routines.length ≤ 9223372036854775807
def defL (m : Img) (d : Dfr) : Bytes := [100, 101, 102, 101, 114, 32] ++ num d.frame ++ [32] ++ num d.func ++ [32] ++ quo (nameAt m d.func) ++ (if d.hasArg = true then [32, 119, 105, 116, 104, 32] ++ txt d.arg else [])
def frmsL (m : Img) : Nat → List Frm → List Bytes
  | _, [] => []
  | i, x :: r => frmL m i x ++ frmsL m (i + 1) r
def partsL (m : Img) (x : Rou) : List Bytes := frmsL m 0 x.frames ++ x.defers.map (defL m) ++ x.panics.map shown
def statL (x : Rou) : Bytes := if x.status = 1 then [114, 101, 97, 100, 121] else if x.status = 3 then [100, 111, 110, 101] else [98, 108, 111, 99, 107, 101, 100, 32] ++ num x.key
def headR (g : Int) (x : Rou) : Bytes := [103, 111, 114, 111, 117, 116, 105, 110, 101, 32] ++ num g ++ [58, 32] ++ statL x
def sp2 (s : Bytes) : Bytes := [32, 32] ++ s
def linR (m : Img) (g : Int) (x : Rou) : List Bytes := headR g x :: (partsL m x).map sp2
def rouR (m : Img) (g : Int) (x : Rou) : List Bytes × Int := if g < 0 ∨ 16 ≤ g then ([], 2) else if goesR m x = true then (linR m g x, 0) else ([], 8)
def greatR (x : Rou) : Bool := decide (12 < x.frames.length) || decide (12 < x.defers.length) || decide (20 < x.panics.length) || greatC x.panics || x.frames.any greatX || x.defers.any (fun d => greatv d.arg)
def greatS (s : Sta) : Bool := (s.routines.take 21).any greatR || decide (20 < s.routines.length)
theorem WfR.of {x : Rou} (h : WfR0 x) (hg : greatR x = false) : WfR x := by
  unfold greatR at hg
  simp only [Bool.or_eq_false_iff, decide_eq_false_iff_not] at hg
  obtain ⟨⟨⟨⟨⟨h1, h2⟩, h3⟩, _⟩, _⟩, _⟩ := hg
  exact ⟨h.st, h.k, h.f, h.d, h.p, by omega, by omega, by omega⟩
theorem WfS.of {s : Sta} (h : WfS0 s) (hg : greatS s = false) : WfS s := by
  unfold greatS at hg
  simp only [Bool.or_eq_false_iff, decide_eq_false_iff_not] at hg
  obtain ⟨h1, h2⟩ := hg
  rw [List.take_of_length_le (by omega), List.any_eq_false] at h1
  exact ⟨h.o, fun x hx => WfR.of (h.r x hx) (by simpa using h1 x hx), h.n⟩
end Go.AM

/- Parts of the proof. -/
namespace Go.AM
open Go
def idxT {α : Type} (f : Nat → α → List Bytes) : Nat → List α → List Bytes
  | _, [] => []
  | i, x :: r => f i x ++ idxT f (i + 1) r
theorem idxT_append {α : Type} (f : Nat → α → List Bytes) : ∀ (a b : List α) (i : Nat), idxT f i (a ++ b) = idxT f i a ++ idxT f (i + a.length) b
  | [], b, i => by simp [idxT]
  | x :: a, b, i => by
    rw [List.cons_append, idxT, idxT, idxT_append f a b (i + 1), List.append_assoc, List.length_cons, show i + 1 + a.length = i + (a.length + 1) by omega]
theorem idxT_take {α : Type} (f : Nat → α → List Bytes) {l : List α} {i : Nat} (hi : i < l.length) : idxT f 0 (l.take (i + 1)) = idxT f 0 (l.take i) ++ f i l[i] := by
  rw [List.take_succ_eq_append_getElem hi, idxT_append, List.length_take, Nat.min_eq_left (Nat.le_of_lt hi)]
  simp [idxT]
theorem idxT_le {α : Type} (f : Nat → α → List Bytes) (l : List α) (i : Nat) : (idxT f 0 (l.take i)).length ≤ (idxT f 0 l).length := by
  have := idxT_append f (l.take i) (l.drop i) 0
  rw [List.take_append_drop] at this
  rw [this, List.length_append]
  omega
theorem idxT_len {α : Type} {f : Nat → α → List Bytes} {c : Nat} : ∀ {l : List α} {i : Nat}, (∀ j, ∀ x ∈ l, (f j x).length ≤ c) → (idxT f i l).length ≤ l.length * c
  | [], i, _ => by simp [idxT]
  | x :: l, i, h => by
    have h1 := h i x List.mem_cons_self
    have h2 := idxT_len (l := l) (i := i + 1) fun j y hy => h j y (List.mem_cons_of_mem _ hy)
    rw [idxT, List.length_append, List.length_cons, Nat.succ_mul]
    omega
def inL (m : Img) (name : Bytes) (g k : Nat) (x : Frm) : List Bytes := if nameAt m x.func = name then [num g ++ [32] ++ num k ++ [32, 97, 116, 32] ++ num x.pos] else []
def slotAt (m : Img) (x : Frm) (l : Loc) : Bytes := slotN ((m.funcs[x.func.toNat]?).getD Fun.zero) l.slot
def slL (m : Img) (name : Bytes) (g k : Nat) (x : Frm) (l : Loc) : List Bytes := if slotAt m x l = name then [num g ++ [32] ++ num k ++ [32] ++ num l.slot ++ [32, 61, 32] ++ txt l.value] else []
def slotL (m : Img) (name : Bytes) (g k : Nat) (x : Frm) : List Bytes := idxT (fun _ l => slL m name g k x l) 0 x.locals
def eachL (h : Nat → Nat → Frm → List Bytes) (s : Sta) : List Bytes := idxT (fun g x => idxT (h g) 0 x.frames) 0 s.routines
def headsL (s : Sta) : List Bytes := idxT (fun g x => [headR g x]) 0 s.routines
def wtL (key : Int) (g : Nat) (x : Rou) : List Bytes := if x.status = 2 ∧ x.key = key then [[103, 111, 114, 111, 117, 116, 105, 110, 101, 32] ++ num g] else []
def waitsL (key : Int) (s : Sta) : List Bytes := idxT (wtL key) 0 s.routines
def Dsk.add (m : Dsk) (l : List Bytes) : Dsk := ⟨m.image, m.state, m.query, m.out ++ l⟩
theorem Dsk.add_nil (m : Dsk) : m.add [] = m := by unfold Dsk.add; rw [List.append_nil]
theorem Dsk.add_add (m : Dsk) (a b : List Bytes) : (m.add a).add b = m.add (a ++ b) := by unfold Dsk.add; simp
theorem loop_out {α : Type} {P : Int → Dsk → Prop} (m : Dsk) (l : List α) (f : Nat → α → List Bytes) (h1 : P (l.length : Int) (m.add (idxT f 0 l)))
    (h2 : ∀ (i : Nat) (hi : i < l.length) (a : List Bytes), (a ++ f i l[i]).length ≤ (idxT f 0 l).length → P ((i + 1 : Nat) : Int) ((m.add a).add (f i l[i])) → P (i : Int) (m.add a)) : P 0 m := by
  have := loop_inv (P := fun b i => P i b) (fun i => m.add (idxT f 0 (l.take i))) l.length (fun _ => True) trivial (fun _ => by rw [List.take_length]; exact h1) fun i hi _ next => h2 i hi _ (by rw [← idxT_take f hi]; exact idxT_le f l _) (by
    rw [Dsk.add_add, ← idxT_take f hi]
    exact next trivial)
  simpa [idxT, Dsk.add_nil] using this
def prtL (m : Img) (q : Qry) (k : Nat) (x : Frm) : List Bytes := if q.kind = 2 then (frmL m k x).take 1 else if q.kind = 3 ∧ q.k = k then (frmL m k x).drop 1 else []
def tailL (m : Img) (q : Qry) (x : Rou) : List Bytes := if q.kind = 4 then x.defers.map (defL m) else if q.kind = 5 then x.panics.map shown else []
def partL (m : Img) (q : Qry) (x : Rou) : List Bytes := idxT (prtL m q) 0 x.frames ++ tailL m q x
def partR (m : Img) (s : Sta) (q : Qry) : List Bytes × Int := match s.routines[q.g.toNat]? with
  | none => ([], 6)
  | some x => if q.kind = 3 ∧ (x.frames.length : Int) ≤ q.k then ([], 6) else (partL m q x, 0)
theorem idxT_sp2 : ∀ (l : List Bytes) (i : Nat), idxT (fun _ (s : Bytes) => [s.drop 2]) i (l.map sp2) = l
  | [], _ => rfl
  | s :: l, i => by
    rw [List.map_cons, idxT, idxT_sp2 l (i + 1)]
    rfl
theorem frm_shape {m : Img} {x : Frm} (h : fitb m x = true) (k : Int) : ∃ a l, frmL m k x = a :: l ∧ l.length = x.locals.length := by
  obtain ⟨_, _, f, hf, _⟩ := fitb_iff.1 h
  refine ⟨headL f k x, x.locals.map (locL f), ?_, List.length_map _⟩
  unfold frmL
  rw [hf]
def ansL (m : Img) (s : Sta) (q : Qry) : List Bytes × Int :=
  if q.kind = 1 then (headsL s, 0) else if q.kind = 6 then (waitsL q.key s, 0) else if q.kind = 7 then (eachL (inL m q.name) s, 0) else if q.kind = 8 then (eachL (slotL m q.name) s, 0) else partR m s q
def ansR (m : Img) (s : Sta) (q : Qry) : List Bytes × Int := if okQ q = true then (if fitS m s = true then ansL m s q else ([], 8)) else ([], 8)
def askR (m : Img) (s : Sta) (t : Bytes) : List Bytes × Int := if (rdTQ t).2 = 0 then ansR m s (rdTQ t).1 else ([], (rdTQ t).2)
theorem partR_out {m : Img} {s : Sta} {q : Qry} : (partR m s q).2 = 0 ∨ (partR m s q).1 = [] := by
  unfold partR
  split
  · exact .inr rfl
  · split
    · exact .inr rfl
    · exact .inl rfl
end Go.AM

/- Parts of the proof. -/
namespace Go.AM
open Go
structure HasT (prog : Prog) : Prop extends HasQ prog, HasF prog where
  f207 : prog.fn 207 = some pf207
  f213 : prog.fn 213 = some pf213
  f216 : prog.fn 216 = some pf216
  f219 : prog.fn 219 = some pf219
  f220 : prog.fn 220 = some pf220
  f224 : prog.fn 224 = some pf224
  f225 : prog.fn 225 = some pf225
  f227 : prog.fn 227 = some pf227
  f228 : prog.fn 228 = some pf228
  f229 : prog.fn 229 = some pf229
  f230 : prog.fn 230 = some pf230
  f231 : prog.fn 231 = some pf231
  f232 : prog.fn 232 = some pf232
  f233 : prog.fn 233 = some pf233
  f234 : prog.fn 234 = some pf234
  f236 : prog.fn 236 = some pf236
  f237 : prog.fn 237 = some pf237
  f238 : prog.fn 238 = some pf238
  f239 : prog.fn 239 = some pf239
section
variable {prog : Prog} (H : HasT prog)
include H
theorem c216 {n : Int} (h1 : -9223372036854775808 ≤ n) (h2 : n < 9223372036854775808) : Pus prog 216 [.i .i64 n] (.s (num n)) := by
  obtain ⟨x, rfl, h⟩ := p216 H.f216 (n0 := n) (K := fun x => x = num n) (by
    unfold T216_0
    exact ⟨_, c15 H.toHas03 h1 h2, rfl⟩)
  exact h
theorem c236 {l : List Rou} {f : Nat × List AV} {p : Rou → Bool} (hl : l.length ≤ 9223372036854775807) (hf : ∀ x ∈ l, PuN prog f.1 ([x.av] ++ f.2) (fun r => r = .b (p x))) (o : Own) : PuN prog 236 [.sl o (l.map Rou.row), .fn f.1 f.2] (fun r => r = .i .i64 (idxP p l)) := by
  refine (p236 H.f236 (s0 := l) (f1 := f) (K := fun x => x = idxP p l) ?_ o).to ?_
  · unfold T236_0
    intro P hP
    refine loop_idx (Q := fun x => x = idxP p l) p l (fun h => hP _ ?_) (fun i hi hp hq => hP _ ?_) (fun i hi hp ih => hP _ ?_) rfl
    · unfold T236_1 T236_2
      exact ⟨fun h' => absurd h' (by omega), fun _ => h⟩
    · unfold T236_1
      refine ⟨fun _ => ⟨by omega, _, get_at hi, _, hf _ (List.getElem_mem hi), fun _ => hq, fun h' => ?_⟩, fun h' => absurd h' (by omega)⟩
      rw [hp] at h'; cases h'
    · unfold T236_1
      refine ⟨fun _ => ⟨by omega, _, get_at hi, _, hf _ (List.getElem_mem hi), fun h' => ?_, fun _ => ?_⟩, fun h' => absurd h' (by omega)⟩
      · rw [hp] at h'; cases h'
      · rw [wr_i64 (by omega) (by omega)]; exact ih
  · rintro r ⟨x, rfl, rfl⟩; rfl
theorem c224 {l : List Rou} {f : Nat × List AV} {p : Rou → Bool} (hl : l.length ≤ 9223372036854775807) (hf : ∀ x ∈ l, PuN prog f.1 ([x.av] ++ f.2) (fun r => r = .b (p x))) (o : Own) : PuN prog 224 [.sl o (l.map Rou.row), .fn f.1 f.2] (fun r => r = .b (l.any p)) := by
  refine (p224 H.f224 (s0 := l) (f1 := f) (K := fun x => x = l.any p) ?_ o).to ?_
  · unfold T224_0
    refine ⟨_, fun o => c236 H hl hf o, ?_⟩
    have := (idxP_any p l).2
    cases h : l.any p
    · exact decide_eq_false (by rw [h] at this; intro h'; exact absurd (this.1 h') (by decide))
    · exact decide_eq_true (this.2 h)
  · rintro r ⟨x, rfl, rfl⟩; rfl
theorem c237 {l : List Frm} {f : Nat × List AV} {p : Frm → Bool} (hl : l.length ≤ 9223372036854775807) (hf : ∀ x ∈ l, PuN prog f.1 ([x.av] ++ f.2) (fun r => r = .b (p x))) (o : Own) : PuN prog 237 [.sl o (l.map Frm.row), .fn f.1 f.2] (fun r => r = .i .i64 (idxP p l)) := by
  refine (p237 H.f237 (s0 := l) (f1 := f) (K := fun x => x = idxP p l) ?_ o).to ?_
  · unfold T237_0
    intro P hP
    refine loop_idx (Q := fun x => x = idxP p l) p l (fun h => hP _ ?_) (fun i hi hp hq => hP _ ?_) (fun i hi hp ih => hP _ ?_) rfl
    · unfold T237_1 T237_2
      exact ⟨fun h' => absurd h' (by omega), fun _ => h⟩
    · unfold T237_1
      refine ⟨fun _ => ⟨by omega, _, get_at hi, _, hf _ (List.getElem_mem hi), fun _ => hq, fun h' => ?_⟩, fun h' => absurd h' (by omega)⟩
      rw [hp] at h'; cases h'
    · unfold T237_1
      refine ⟨fun _ => ⟨by omega, _, get_at hi, _, hf _ (List.getElem_mem hi), fun h' => ?_, fun _ => ?_⟩, fun h' => absurd h' (by omega)⟩
      · rw [hp] at h'; cases h'
      · rw [wr_i64 (by omega) (by omega)]; exact ih
  · rintro r ⟨x, rfl, rfl⟩; rfl
theorem c227 {l : List Frm} {f : Nat × List AV} {p : Frm → Bool} (hl : l.length ≤ 9223372036854775807) (hf : ∀ x ∈ l, PuN prog f.1 ([x.av] ++ f.2) (fun r => r = .b (p x))) (o : Own) : PuN prog 227 [.sl o (l.map Frm.row), .fn f.1 f.2] (fun r => r = .b (l.any p)) := by
  refine (p227 H.f227 (s0 := l) (f1 := f) (K := fun x => x = l.any p) ?_ o).to ?_
  · unfold T227_0
    refine ⟨_, fun o => c237 H hl hf o, ?_⟩
    have := (idxP_any p l).2
    cases h : l.any p
    · exact decide_eq_false (by rw [h] at this; intro h'; exact absurd (this.1 h') (by decide))
    · exact decide_eq_true (this.2 h)
  · rintro r ⟨x, rfl, rfl⟩; rfl
theorem c238 {l : List Dfr} {f : Nat × List AV} {p : Dfr → Bool} (hl : l.length ≤ 9223372036854775807) (hf : ∀ x ∈ l, PuN prog f.1 ([x.av] ++ f.2) (fun r => r = .b (p x))) (o : Own) : PuN prog 238 [.sl o (l.map Dfr.row), .fn f.1 f.2] (fun r => r = .i .i64 (idxP p l)) := by
  refine (p238 H.f238 (s0 := l) (f1 := f) (K := fun x => x = idxP p l) ?_ o).to ?_
  · unfold T238_0
    intro P hP
    refine loop_idx (Q := fun x => x = idxP p l) p l (fun h => hP _ ?_) (fun i hi hp hq => hP _ ?_) (fun i hi hp ih => hP _ ?_) rfl
    · unfold T238_1 T238_2
      exact ⟨fun h' => absurd h' (by omega), fun _ => h⟩
    · unfold T238_1
      refine ⟨fun _ => ⟨by omega, _, get_at hi, _, hf _ (List.getElem_mem hi), fun _ => hq, fun h' => ?_⟩, fun h' => absurd h' (by omega)⟩
      rw [hp] at h'; cases h'
    · unfold T238_1
      refine ⟨fun _ => ⟨by omega, _, get_at hi, _, hf _ (List.getElem_mem hi), fun h' => ?_, fun _ => ?_⟩, fun h' => absurd h' (by omega)⟩
      · rw [hp] at h'; cases h'
      · rw [wr_i64 (by omega) (by omega)]; exact ih
  · rintro r ⟨x, rfl, rfl⟩; rfl
theorem c229 {l : List Dfr} {f : Nat × List AV} {p : Dfr → Bool} (hl : l.length ≤ 9223372036854775807) (hf : ∀ x ∈ l, PuN prog f.1 ([x.av] ++ f.2) (fun r => r = .b (p x))) (o : Own) : PuN prog 229 [.sl o (l.map Dfr.row), .fn f.1 f.2] (fun r => r = .b (l.any p)) := by
  refine (p229 H.f229 (s0 := l) (f1 := f) (K := fun x => x = l.any p) ?_ o).to ?_
  · unfold T229_0
    refine ⟨_, fun o => c238 H hl hf o, ?_⟩
    have := (idxP_any p l).2
    cases h : l.any p
    · exact decide_eq_false (by rw [h] at this; intro h'; exact absurd (this.1 h') (by decide))
    · exact decide_eq_true (this.2 h)
  · rintro r ⟨x, rfl, rfl⟩; rfl
theorem c239 {l : List Pan} {f : Nat × List AV} {p : Pan → Bool} (hl : l.length ≤ 9223372036854775807) (hf : ∀ x ∈ l, PuN prog f.1 ([x.av] ++ f.2) (fun r => r = .b (p x))) (o : Own) : PuN prog 239 [.sl o (l.map Pan.row), .fn f.1 f.2] (fun r => r = .i .i64 (idxP p l)) := by
  refine (p239 H.f239 (s0 := l) (f1 := f) (K := fun x => x = idxP p l) ?_ o).to ?_
  · unfold T239_0
    intro P hP
    refine loop_idx (Q := fun x => x = idxP p l) p l (fun h => hP _ ?_) (fun i hi hp hq => hP _ ?_) (fun i hi hp ih => hP _ ?_) rfl
    · unfold T239_1 T239_2
      exact ⟨fun h' => absurd h' (by omega), fun _ => h⟩
    · unfold T239_1
      refine ⟨fun _ => ⟨by omega, _, get_at hi, _, hf _ (List.getElem_mem hi), fun _ => hq, fun h' => ?_⟩, fun h' => absurd h' (by omega)⟩
      rw [hp] at h'; cases h'
    · unfold T239_1
      refine ⟨fun _ => ⟨by omega, _, get_at hi, _, hf _ (List.getElem_mem hi), fun h' => ?_, fun _ => ?_⟩, fun h' => absurd h' (by omega)⟩
      · rw [hp] at h'; cases h'
      · rw [wr_i64 (by omega) (by omega)]; exact ih
  · rintro r ⟨x, rfl, rfl⟩; rfl
theorem c232 {l : List Pan} {f : Nat × List AV} {p : Pan → Bool} (hl : l.length ≤ 9223372036854775807) (hf : ∀ x ∈ l, PuN prog f.1 ([x.av] ++ f.2) (fun r => r = .b (p x))) (o : Own) : PuN prog 232 [.sl o (l.map Pan.row), .fn f.1 f.2] (fun r => r = .b (l.any p)) := by
  refine (p232 H.f232 (s0 := l) (f1 := f) (K := fun x => x = l.any p) ?_ o).to ?_
  · unfold T232_0
    refine ⟨_, fun o => c239 H hl hf o, ?_⟩
    have := (idxP_any p l).2
    cases h : l.any p
    · exact decide_eq_false (by rw [h] at this; intro h'; exact absurd (this.1 h') (by decide))
    · exact decide_eq_true (this.2 h)
  · rintro r ⟨x, rfl, rfl⟩; rfl
theorem c231 {m : Img} {many : Int} {d : Dfr} (hm : OkI m) (hd : Wf d.arg) : Pus prog 231 [m.av, .i .i64 many, d.av] (.b (callD m many d)) := by
  obtain ⟨x, rfl, h⟩ := p231 H.f231 (m0 := m) (frames1 := many) (d2 := d) (K := fun x => x = callD m many d) (by
    unfold T231_0 T231_1
    refine ⟨fun h => ?_, fun h0 => ⟨fun h => ?_, fun h1 => ⟨fun h => ?_, fun h2 => ⟨fun h => ?_, fun h3 => ?_⟩⟩⟩⟩
    · unfold callD; rw [decide_eq_false (by omega)]; rfl
    · unfold callD; rw [decide_eq_false (p := d.frame < many) (by omega)]; simp
    · unfold callD; rw [decide_eq_false (p := 0 ≤ d.func) (by omega)]; simp
    · unfold callD nameOk; rw [List.getElem?_eq_none (by omega)]; simp
    obtain ⟨f, hf, hmem⟩ := fun_at (m := m) (n := d.func) (by omega) (by omega)
    refine ⟨by omega, f, hf, fun h => ?_, fun h4 => ?_⟩
    · unfold callD nameOk; rw [hf]; simp only; rw [decide_eq_false (p := f.name.length ≤ 16) (by omega)]; simp
    have e : callD m many d = (if d.hasArg = true then decide (d.arg.kind = 1 ∨ d.arg.kind = 2 ∨ d.arg.kind = 4) && fine d.arg else isZ d.arg) := by
      unfold callD nameOk; rw [hf]; simp only
      rw [decide_eq_true (by omega), decide_eq_true (by omega), decide_eq_true (by omega), decide_eq_true (by omega)]; rfl
    rw [e]
    unfold T231_2
    refine ⟨fun h => ?_, fun h => ?_⟩
    · have ha : d.hasArg = false := by simpa using h
      rw [ha]
      simp only [Bool.false_eq_true, if_false]
      unfold isZ
      refine ⟨fun k0 => ⟨fun k1 => ⟨fun k2 => ⟨fun k3 => ?_, fun k3 => ?_⟩, fun k2 => ?_⟩, fun k1 => ?_⟩, fun k0 => ?_⟩
      · rw [decide_eq_true k0, decide_eq_true k1, decide_eq_true k2, decide_eq_true (by omega)]; rfl
      · rw [decide_eq_false (p := d.arg.list.length = 0) (by omega)]; simp
      · rw [decide_eq_false k2]; simp
      · rw [decide_eq_false k1]; simp
      · rw [decide_eq_false k0]; rfl
    · have ha : d.hasArg = true := by simpa using h
      rw [ha, if_pos rfl]
      have fin : ∀ b : Bool, b = decide (d.arg.kind = 1 ∨ d.arg.kind = 2 ∨ d.arg.kind = 4) → T231_4 prog (fun x => x = (decide (d.arg.kind = 1 ∨ d.arg.kind = 2 ∨ d.arg.kind = 4) && fine d.arg)) b d := fun b hb => by
        unfold T231_4
        rw [← hb]
        refine ⟨fun h => ⟨_, c76 H.toHas38 hd, ?_⟩, fun h => by rw [h]; rfl⟩
        rw [h, Bool.true_and]
        cases hq : fine d.arg
        · exact decide_eq_false fun h' => absurd (chk_fine.1 h') (by rw [hq]; decide)
        · exact decide_eq_true (chk_fine.2 hq)
      unfold T231_3
      refine ⟨fun k => fin _ ?_, fun k => ⟨fun k' => fin _ ?_, fun k' => fin _ ?_⟩⟩ <;> exact decide_eq_decide.2 (by omega))
  exact h
theorem c228 {m : Img} (hm : OkI m) {x : Frm} (hx : WfX x) : PuN prog 228 ([x.av] ++ [.fp m.row]) (fun r => r = .b (!fitb m x)) := by
  refine (p228 H.f228 (y0 := x) (t1 := m) (K := fun y => y = !fitb m x) ?_).to ?_
  · unfold T228_0
    refine ⟨_, c86 H.toHasF hm hx, ?_⟩
    cases hb : fitb m x
    · rw [← fitR_no (by rw [hb]; decide)]; rfl
    · rw [← fitR_yes hb]; rfl
  · rintro r ⟨x, rfl, rfl⟩; rfl
theorem c230 {m : Img} (hm : OkI m) {many : Int} {d : Dfr} (hd : Wf d.arg) : PuN prog 230 ([d.av] ++ [.fp m.row, .fp [.i .i64 many]]) (fun r => r = .b (!callD m many d)) := by
  refine (p230 H.f230 (y0 := d) (t1 := m) (t2 := many) (K := fun y => y = !callD m many d) ?_).to ?_
  · unfold T230_0
    exact ⟨_, c231 H hm hd, rfl⟩
  · rintro r ⟨x, rfl, rfl⟩; rfl
theorem c233 {p : Pan} (hp : WfP p) : PuN prog 233 ([p.av] ++ []) (fun r => r = .b (!okP p)) := by
  refine (p233 H.f233 (y0 := p) (K := fun y => y = !okP p) ?_).to ?_
  · unfold T233_0
    refine ⟨_, c158 H.toHasO hp, ?_⟩
    unfold chkP
    cases hb : okP p <;> rfl
  · rintro r ⟨x, rfl, rfl⟩; rfl
end
end Go.AM

/- Parts of the proof. -/
namespace Go.AM
open Go
theorem chainR_all {l : List Pan} : decide (chainR l = 0) = (decide (l.length ≤ 410) && l.all okP) := by
  unfold chainR
  by_cases h : 410 < l.length
  · rw [if_pos h, decide_eq_false (p := l.length ≤ 410) (by omega)]; rfl
  · rw [if_neg h, decide_eq_true (p := l.length ≤ 410) (by omega)]
    cases l.all okP <;> rfl
theorem any_not {α : Type} (p : α → Bool) (l : List α) : (!(l.any fun x => !p x)) = l.all p := by
  rw [List.not_any_eq_all_not]
  simp
def goes0 (m : Img) (x : Rou) : Bool := decide (1 ≤ x.frames.length ∧ x.frames.length ≤ 170) && decide (x.defers.length ≤ 410) && decide (chainR x.panics = 0) && x.frames.all (fitb m) && x.defers.all (callD m x.frames.length)
theorem goes_3 {m : Img} {x : Rou} (h : x.status = 3) : goesR m x = (decide (x.frames.length = 0) && decide (x.defers.length = 0) && decide (x.panics.length = 0) && decide (x.key = 0)) := by unfold goesR; rw [if_pos h]
theorem goes_2 {m : Img} {x : Rou} (h : x.status = 2 ∨ (x.status = 1 ∧ x.key = 0)) : goesR m x = goes0 m x := by
  unfold goesR goes0
  rw [if_neg (by omega), decide_eq_true h]
  simp
theorem goes_no {m : Img} {x : Rou} (h3 : x.status ≠ 3) (h : ¬(x.status = 2 ∨ (x.status = 1 ∧ x.key = 0))) : goesR m x = false := by
  unfold goesR
  rw [if_neg h3, decide_eq_false h]
  rfl
theorem goes0_f {m : Img} {x : Rou} (h : ¬(1 ≤ x.frames.length ∧ x.frames.length ≤ 170)) : goes0 m x = false := by unfold goes0; rw [decide_eq_false h]; rfl
theorem goes0_d {m : Img} {x : Rou} (h : 410 < x.defers.length) : goes0 m x = false := by unfold goes0; rw [decide_eq_false (p := x.defers.length ≤ 410) (by omega)]; simp
theorem goes0_p {m : Img} {x : Rou} (h : chainR x.panics ≠ 0) : goes0 m x = false := by unfold goes0; rw [decide_eq_false h]; simp
section
variable {prog : Prog} (H : HasT prog)
include H
theorem c219 {m : Img} {x : Rou} (hm : OkI m) (hx : WfR x) : Pus prog 219 [m.av, x.av] (.b (goesR m x)) := by
  obtain ⟨y, rfl, h⟩ := p219 H.f219 (m0 := m) (x1 := x) (K := fun y => y = goesR m x) (by
    unfold T219_0 T219_1
    have hfl := hx.fl
    have hdl := hx.dl
    have hpl := hx.pl
    have t3 : (x.status = 2 ∨ (x.status = 1 ∧ x.key = 0)) → T219_3 prog (fun y => y = goesR m x) m.types m.texts m.funcs x.status x.key x.frames x.defers x.panics (x.defers.length : Int) (x.panics.length : Int) (x.frames.length : Int) := fun hs => by
      rw [goes_2 hs]
      unfold T219_3
      refine ⟨fun h => (goes0_f (by omega)).symm, fun h1 => ⟨fun h => (goes0_f (by omega)).symm, fun h2 => ⟨fun h => (goes0_d (by omega)).symm, fun h3 => ⟨fun h => (goes0_p ?_).symm, fun h4 => ?_⟩⟩⟩⟩
      · unfold chainR; rw [if_pos (by omega)]; decide
      have e : goes0 m x = (x.frames.all (fitb m) && (x.defers.all (callD m x.frames.length) && x.panics.all okP)) := by
        unfold goes0
        rw [decide_eq_true (by omega), decide_eq_true (by omega), chainR_all, decide_eq_true (by omega)]
        simp only [Bool.true_and]
        cases x.panics.all okP <;> simp
      rw [e]
      unfold T219_4
      refine ⟨_, fun o => c227 H (l := x.frames) (f := (228, [.fp m.row])) (p := fun y => !fitb m y) (by omega) (fun y hy => c228 H hm (hx.f y hy)) o, fun h => ?_, fun h => ?_⟩
      · rw [any_not] at h
        rw [h, Bool.true_and]
        refine ⟨_, fun o => c229 H (l := x.defers) (f := (230, [.fp m.row, .fp [.i .i64 (x.frames.length : Int)]])) (p := fun y => !callD m x.frames.length y) (by omega) (fun y hy => c230 H hm (hx.d y hy)) o, fun h => ?_, fun h => ?_⟩
        · rw [any_not] at h
          rw [h, Bool.true_and]
          refine ⟨_, fun o => c232 H (l := x.panics) (f := (233, [])) (p := fun y => !okP y) (by omega) (fun y hy => c233 H (hx.p y hy)) o, ?_⟩
          rw [any_not]
        · rw [any_not] at h
          rw [h]; rfl
      · rw [any_not] at h
        rw [h]; rfl
    refine ⟨fun h3 => ?_, fun h3 => ⟨fun h1 => ?_, fun h1 => ⟨fun h2 => t3 (.inl h2), fun h2 => ?_⟩⟩⟩
    · rw [goes_3 h3]
      rw [wr_i64 (z := (x.frames.length : Int) + (x.defers.length : Int)) (by omega) (by omega), wr_i64 (by omega) (by omega)]
      refine ⟨fun k => ?_, fun k => ?_⟩
      · rw [decide_eq_true (p := x.frames.length = 0) (by omega), decide_eq_true (p := x.defers.length = 0) (by omega), decide_eq_true (p := x.panics.length = 0) (by omega)]; rfl
      · by_cases k1 : x.frames.length = 0
        · by_cases k2 : x.defers.length = 0
          · rw [decide_eq_false (p := x.panics.length = 0) (by omega)]; simp
          · rw [decide_eq_false k2]; simp
        · rw [decide_eq_false k1]; simp
    · unfold T219_2
      refine ⟨fun hk => (goes_no h3 ?_).symm, fun hk => t3 (.inr ⟨h1, by omega⟩)⟩
      omega
    · unfold T219_5
      exact (goes_no h3 (by omega)).symm)
  exact h
theorem c225 {m : Img} (hm : OkI m) {x : Rou} (hx : WfR x) : PuN prog 225 ([x.av] ++ [.fp m.row]) (fun r => r = .b (!goesR m x)) := by
  refine (p225 H.f225 (x0 := x) (t1 := m) (K := fun y => y = !goesR m x) ?_).to ?_
  · unfold T225_0
    exact ⟨_, c219 H hm hx, rfl⟩
  · rintro r ⟨x, rfl, rfl⟩; rfl
def fitSR (m : Img) (s : Sta) : Int := if fitS m s = true then 0 else 8
theorem c213 {m : Img} {s : Sta} (hm : OkI m) (hs : WfS s) : Pus prog 213 [m.av, s.av] (.i .i64 (fitSR m s)) := by
  obtain ⟨y, rfl, h⟩ := p213 H.f213 (m0 := m) (s1 := s) (K := fun y => y = fitSR m s) (by
    unfold T213_0 fitSR fitS
    refine ⟨fun h => ?_, fun h1 => ⟨fun h => ?_, fun h2 => ⟨fun h => ?_, fun h3 => ⟨fun h => ?_, fun h4 => ⟨fun h => ?_, fun h5 => ⟨fun h => ?_, fun h6 => ⟨fun h => ?_, fun h7 => ?_⟩⟩⟩⟩⟩⟩⟩
    · rw [decide_eq_false (by omega)]; rfl
    · rw [decide_eq_false (by omega)]; rfl
    · rw [decide_eq_false (p := 0 ≤ s.steps ∧ _) (by omega)]; simp
    · rw [decide_eq_false (p := 0 ≤ s.steps ∧ _) (by omega)]; simp
    · rw [decide_eq_false (p := s.routines.length ≤ 16) (by omega)]; simp
    · rw [decide_eq_false (p := -1 ≤ s.failing ∧ _) (by omega)]; simp
    · rw [decide_eq_false (p := -1 ≤ s.failing ∧ _) (by omega)]; simp
    rw [decide_eq_true (by omega), decide_eq_true (by omega), decide_eq_true (by omega), decide_eq_true (by omega)]
    simp only [Bool.true_and]
    refine ⟨_, fun o => c224 H (l := s.routines) (f := (225, [.fp m.row])) (p := fun y => !goesR m y) hs.n (fun y hy => c225 H hm (hs.r y hy)) o, fun h => ?_, fun h => ?_⟩
    · have := any_not (goesR m) s.routines
      rw [h] at this
      rw [← this]; rfl
    · have := any_not (goesR m) s.routines
      rw [h] at this
      rw [← this]; rfl)
  exact h
end
end Go.AM

/- Parts of the proof. -/
namespace Go.AM
open Go
theorem nameAt_eq' {m : Img} {n : Int} {f : Fun} (h : m.funcs[n.toNat]? = some f) : nameAt m n = f.name := by unfold nameAt; rw [h]; rfl
theorem frmL_len {m : Img} {k : Int} {x : Frm} (hm : OkI m) (hx : WfX x) (hb : fitb m x = true) : (∀ s ∈ frmL m k x, s.length ≤ 1301000) ∧ (frmL m k x).length ≤ 17 := by
  obtain ⟨f0, f1, f, hf, hF⟩ := fitb_iff.1 hb
  obtain ⟨g1, g2, g3, g4, g5, g6⟩ := fitF_iff.1 hF
  obtain ⟨q1, q2, q3, q4⟩ := hm.f f (List.mem_of_getElem? hf)
  have l1 := num_len k
  have l2 := num_len x.func
  have l3 := num_len x.pos
  have l4 := quo_len f.name
  have l5 := modeW_len hx.m f1
  rw [frmL_eq hf]
  refine ⟨fun s hs => ?_, ?_⟩
  · rcases List.mem_cons.1 hs with rfl | hs
    · unfold headL
      simp only [List.length_append, List.length_cons, List.length_nil]
      omega
    · obtain ⟨l, hl, rfl⟩ := List.mem_map.1 hs
      obtain ⟨a1, a2, a3⟩ := asc_mem g6 _ hl
      obtain ⟨s, b1, b2, b3⟩ := slot_at (f := f) (n := l.slot) (by omega) (by omega)
      have c1 := num_len l.slot
      have c2 := quo_len s.name
      have c3 := q4 s b2
      have c4 := fine_len a3
      unfold locL
      rw [b3]
      simp only [List.length_append, List.length_cons, List.length_nil]
      omega
  · rw [List.length_cons, List.length_map]
    rcases asc_len g6 with h | h
    · rw [h]; decide
    · omega
theorem frmsL_len {m : Img} (hm : OkI m) : ∀ (l : List Frm) (i : Nat), (∀ x ∈ l, WfX x) → (∀ x ∈ l, fitb m x = true) → (∀ s ∈ frmsL m i l, s.length ≤ 1301000) ∧ (frmsL m i l).length ≤ 17 * l.length
  | [], i, _, _ => ⟨fun s hs => (by cases hs), Nat.le_refl _⟩
  | x :: r, i, hw, hb => by
    obtain ⟨h1, h2⟩ := frmL_len (k := i) hm (hw x List.mem_cons_self) (hb x List.mem_cons_self)
    obtain ⟨h3, h4⟩ := frmsL_len hm r (i + 1) (fun y hy => hw y (List.mem_cons_of_mem _ hy)) fun y hy => hb y (List.mem_cons_of_mem _ hy)
    rw [frmsL]
    refine ⟨fun s hs => ?_, ?_⟩
    · rcases List.mem_append.1 hs with hs | hs
      · exact h1 s hs
      · exact h3 s hs
    · rw [List.length_append, List.length_cons]; omega
theorem frmsL_snoc (m : Img) : ∀ (l : List Frm) (i : Nat) (x : Frm), frmsL m i (l ++ [x]) = frmsL m i l ++ frmL m ((i + l.length : Nat) : Int) x
  | [], i, x => by simp [frmsL]
  | y :: r, i, x => by
    rw [List.cons_append, frmsL, frmsL_snoc m r (i + 1) x, frmsL, List.append_assoc, List.length_cons, show i + 1 + r.length = i + (r.length + 1) by omega]
theorem callD_iff {m : Img} {many : Int} {d : Dfr} (h : callD m many d = true) : 0 ≤ d.frame ∧ d.frame < many ∧ 0 ≤ d.func ∧ (∃ f, m.funcs[d.func.toNat]? = some f ∧ f.name.length ≤ 16 ∧ nameAt m d.func = f.name) ∧ (d.hasArg = true → fine d.arg = true ∧ (d.arg.kind = 1 ∨ d.arg.kind = 2 ∨ d.arg.kind = 4)) ∧ (d.hasArg = false → d.arg = vz) := by
  unfold callD nameOk at h
  cases hf : m.funcs[d.func.toNat]? with
  | none => rw [hf] at h; simp at h
  | some f =>
    rw [hf] at h
    simp only [Bool.and_eq_true, decide_eq_true_eq] at h
    obtain ⟨⟨⟨⟨h1, h2⟩, h3⟩, h4⟩, h5⟩ := h
    refine ⟨h1, h2, h3, ⟨f, rfl, h4, nameAt_eq' hf⟩, fun ha => ?_, fun ha => ?_⟩
    · rw [ha, if_pos rfl, Bool.and_eq_true, decide_eq_true_eq] at h5
      exact ⟨h5.2, h5.1⟩
    · rw [ha] at h5
      exact isZ_true.1 (by simpa using h5)
theorem defL_len {m : Img} {many : Int} {d : Dfr} (h : callD m many d = true) : (defL m d).length ≤ 1301000 := by
  obtain ⟨h1, h2, h3, ⟨f, hf, h4, h5⟩, h6, _⟩ := callD_iff h
  have l1 := num_len d.frame
  have l2 := num_len d.func
  have l3 := quo_len f.name
  unfold defL
  rw [h5]
  simp only [List.length_append, List.length_cons, List.length_nil]
  cases ha : d.hasArg
  · simp only [Bool.false_eq_true, if_false, List.length_nil]; omega
  · have := fine_len (h6 ha).1
    simp only [if_true, List.length_append, List.length_cons, List.length_nil]; omega
structure Go0 (m : Img) (x : Rou) : Prop where
  f : x.frames.length ≤ 170
  d : x.defers.length ≤ 410
  p : x.panics.length ≤ 410
  fb : ∀ y ∈ x.frames, fitb m y = true
  db : ∀ y ∈ x.defers, callD m x.frames.length y = true
  pb : ∀ y ∈ x.panics, okP y = true
  st : x.status = 1 ∨ x.status = 2 ∨ x.status = 3
theorem Go0.of {m : Img} {x : Rou} (h : goesR m x = true) : Go0 m x := by
  by_cases h3 : x.status = 3
  · rw [goes_3 h3] at h
    simp only [Bool.and_eq_true, decide_eq_true_eq, List.length_eq_zero_iff] at h
    obtain ⟨⟨⟨k1, k2⟩, k3⟩, k4⟩ := h
    exact ⟨by rw [k1]; decide, by rw [k2]; decide, by rw [k3]; decide, by rw [k1]; simp, by rw [k2]; simp, by rw [k3]; simp, .inr (.inr h3)⟩
  · by_cases h2 : x.status = 2 ∨ (x.status = 1 ∧ x.key = 0)
    · rw [goes_2 h2] at h
      unfold goes0 at h
      simp only [Bool.and_eq_true, decide_eq_true_eq, List.all_eq_true] at h
      obtain ⟨⟨⟨⟨k1, k2⟩, k3⟩, k4⟩, k5⟩ := h
      exact ⟨k1.2, k2, (chain_ok k3).1, k4, k5, (chain_ok k3).2, by omega⟩
    · rw [goes_no h3 h2] at h; cases h
theorem parts_len {m : Img} {x : Rou} (hm : OkI m) (hx : WfR x) (h : Go0 m x) : (∀ s ∈ partsL m x, s.length ≤ 1301000) ∧ (partsL m x).length ≤ 4000 := by
  obtain ⟨h1, h2⟩ := frmsL_len hm x.frames 0 hx.f h.fb
  have a := h.f
  have b := h.d
  have c := h.p
  refine ⟨fun s hs => ?_, ?_⟩
  · unfold partsL at hs
    rcases List.mem_append.1 hs with hs | hs
    · rcases List.mem_append.1 hs with hs | hs
      · exact h1 s hs
      · obtain ⟨d, hd, rfl⟩ := List.mem_map.1 hs
        exact defL_len (h.db d hd)
    · obtain ⟨p, hp, rfl⟩ := List.mem_map.1 hs
      have := shown_len (h.pb p hp)
      exact Nat.le_trans this (by decide)
  · unfold partsL
    simp only [List.length_append, List.length_map]
    omega
theorem statL_len (x : Rou) : (statL x).length ≤ 80 := by
  have := num_len x.key
  unfold statL
  split
  · decide
  · split
    · decide
    · simp only [List.length_append, List.length_cons, List.length_nil]; omega
theorem rouR_yes {m : Img} {g : Int} {x : Rou} (h : ¬(g < 0 ∨ 16 ≤ g)) (h1 : goesR m x = true) : rouR m g x = (linR m g x, 0) := by unfold rouR; rw [if_neg h, if_pos h1]
theorem rouR_no {m : Img} {g : Int} {x : Rou} (h : ¬(g < 0 ∨ 16 ≤ g)) (h1 : goesR m x = false) : rouR m g x = ([], 8) := by unfold rouR; rw [if_neg h, if_neg (by rw [h1]; decide)]
theorem rouR_bad {m : Img} {g : Int} {x : Rou} (h : g < 0 ∨ 16 ≤ g) : rouR m g x = ([], 2) := by unfold rouR; rw [if_pos h]
section
variable {prog : Prog} (H : HasT prog)
include H
theorem c234 {m : Img} {many : Int} {d : Dfr} (hm : OkI m) (hd : Wf d.arg) (hn : many ≤ 1000) (h : callD m many d = true) : Pus prog 234 [m.av, d.av] (.tup [.s (defL m d), .i .i64 0]) := by
  obtain ⟨x, y, ⟨rfl, rfl⟩, h⟩ := p234 H.f234 (m0 := m) (d1 := d) (K := fun x y => x = defL m d ∧ y = 0) (by
    obtain ⟨h1, h2, h3, ⟨f, hf, h4, h5⟩, h6, _⟩ := callD_iff h
    have hfl : d.func < m.funcs.length := by
      have := (List.getElem?_eq_some_iff.1 hf).1
      omega
    have hmn := hm.n
    have l1 := num_len d.frame
    have l2 := num_len d.func
    have l3 := quo_len f.name
    have hq := c11 H.toHas03 f.name
    rw [quoR_ok (by omega)] at hq
    unfold T234_0
    refine ⟨h3, f, hf, _, _, hq, fun h => absurd rfl h, fun _ => ⟨_, c216 H (by omega) (by omega), ?_, ?_, _, c216 H (by omega) (by omega), ?_, ?_, ?_, fun ha => ?_, fun ha => ?_⟩⟩
    all_goals try (rw [maxStr_eq]; simp only [List.length_append, List.length_cons, List.length_nil]; omega)
    · have hfi := (h6 ha).1
      have l4 := fine_len hfi
      have k := c72 H.toHas38 hd
      rw [if_pos hfi, chk_fine.2 hfi] at k
      refine ⟨_, _, k, fun h => absurd rfl h, fun _ => ⟨?_, ?_, ?_⟩⟩
      · rw [maxStr_eq]; simp only [List.length_cons, List.length_nil]; omega
      · rw [maxStr_eq]; simp only [List.length_append, List.length_cons, List.length_nil]; omega
      · unfold T234_1 defL
        rw [h5, ha]
        exact ⟨rfl, rfl⟩
    · unfold T234_1 defL
      rw [h5, ha]
      exact ⟨by simp, rfl⟩)
  exact h
theorem c220 {m : Img} {x : Rou} (hm : OkI m) (hx : WfR x) (h : Go0 m x) : Pus prog 220 [m.av, x.av] (.tup [.sl .ext ((partsL m x).map rowS), .i .i64 0]) := by
  obtain ⟨y, z, ⟨rfl, rfl⟩, h⟩ := p220 H.f220 (m0 := m) (x1 := x) (K := fun y z => y = partsL m x ∧ z = 0) (by
    obtain ⟨_, hl⟩ := parts_len hm hx h
    have a := h.f
    have b := h.d
    have c := h.p
    have b1 : ∀ i, i ≤ x.frames.length → (frmsL m 0 (x.frames.take i)).length ≤ 17 * 170 := fun i hi => by
      have h1 := (frmsL_len hm (x.frames.take i) 0 (fun y hy => hx.f y (List.mem_of_mem_take hy)) fun y hy => h.fb y (List.mem_of_mem_take hy)).2
      rw [List.length_take] at h1
      omega
    have b0 : (frmsL m 0 x.frames).length ≤ 17 * 170 := by have := b1 x.frames.length (Nat.le_refl _); rwa [List.take_length] at this
    unfold T220_0 T220_1 T220_2
    intro P hP
    refine loop_up (P := fun o i => P o i m x) (fun i => frmsL m 0 (x.frames.take i)) x.frames.length (hP _ _ _ _ ?_) fun i hi ih => hP _ _ _ _ ?_
    · rw [List.take_length]
      unfold T220_3 T220_4
      refine ⟨fun h => absurd h (by omega), fun _ P hP => ?_⟩
      have ho : frmsL m 0 x.frames = frmsL m 0 x.frames ++ (x.defers.take 0).map (defL m) := by simp
      rw [ho]
      refine loop_up (P := fun o i => P o i m x) (fun i => frmsL m 0 x.frames ++ (x.defers.take i).map (defL m)) x.defers.length (hP _ _ _ _ ?_) fun i hi ih => hP _ _ _ _ ?_
      · rw [List.take_length]
        unfold T220_5 T220_6
        refine ⟨fun h => absurd h (by omega), fun _ P hP => ?_⟩
        have ho : frmsL m 0 x.frames ++ x.defers.map (defL m) = frmsL m 0 x.frames ++ x.defers.map (defL m) ++ (x.panics.take 0).map shown := by simp
        rw [ho]
        refine loop_up (P := fun o i => P o i) (fun i => frmsL m 0 x.frames ++ x.defers.map (defL m) ++ (x.panics.take i).map shown) x.panics.length (hP _ _ ?_) fun i hi ih => hP _ _ ?_
        · rw [List.take_length]
          unfold T220_7 T220_8
          exact ⟨fun h => absurd h (by omega), fun _ => ⟨rfl, rfl⟩⟩
        · have hok := h.pb _ (List.getElem_mem hi)
          have k := c154 H.toHasO (hx.p _ (List.getElem_mem hi))
          rw [show lnP x.panics[i] = (shown x.panics[i], 0) by unfold lnP; rw [if_pos hok]] at k
          unfold T220_7
          refine ⟨fun _ => ⟨by omega, _, get_at hi, _, _, k, fun h => absurd rfl h, fun _ => ⟨⟨?_, ?_⟩, ?_⟩⟩, fun h => absurd (show (i : Int) < x.panics.length by omega) h⟩
          · rw [maxBytes_eq]; simp only [List.length_append, List.length_cons, List.length_nil, List.length_map, List.length_take]; omega
          · rw [maxBytes_eq]; simp only [List.length_append, List.length_cons, List.length_nil, List.length_map, List.length_take]; omega
          · rw [wr_i64 (by omega) (by omega)]
            rw [map_take_snoc shown hi, ← List.append_assoc] at ih
            exact ih
      · have hok := h.db _ (List.getElem_mem hi)
        have k := c234 H hm (hx.d _ (List.getElem_mem hi)) (by omega) hok
        unfold T220_5
        refine ⟨fun _ => ⟨by omega, _, get_at hi, _, _, k, fun h => absurd rfl h, fun _ => ⟨⟨?_, ?_⟩, ?_⟩⟩, fun h => absurd (show (i : Int) < x.defers.length by omega) h⟩
        · rw [maxBytes_eq]; simp only [List.length_append, List.length_cons, List.length_nil, List.length_map, List.length_take]; omega
        · rw [maxBytes_eq]; simp only [List.length_append, List.length_cons, List.length_nil, List.length_map, List.length_take]; omega
        · rw [wr_i64 (by omega) (by omega)]
          rw [map_take_snoc (defL m) hi, ← List.append_assoc] at ih
          exact ih
    · have hb := h.fb _ (List.getElem_mem hi)
      have hw := hx.f _ (List.getElem_mem hi)
      have k := c82 H.toHasF (k := (i : Int)) hm hw
      rw [frR_yes (by omega) hb] at k
      have q1 := b1 i (by omega)
      have q2 := (frmL_len (k := (i : Int)) hm hw hb).2
      unfold T220_3
      refine ⟨fun _ => ⟨by omega, _, get_at hi, _, _, k, fun h => absurd rfl h, fun _ => ⟨⟨?_, ?_⟩, ?_⟩⟩, fun h => absurd (show (i : Int) < x.frames.length by omega) h⟩
      · dsimp only; rw [maxBytes_eq]; omega
      · dsimp only; rw [maxBytes_eq]; omega
      · rw [wr_i64 (by omega) (by omega)]
        rw [List.take_succ_eq_append_getElem hi, frmsL_snoc, List.length_take, show 0 + min i x.frames.length = i by omega] at ih
        exact ih)
  exact h
theorem c207 {m : Img} {g : Int} {x : Rou} (hm : OkI m) (hx : WfR x) : Pus prog 207 [m.av, .i .i64 g, x.av] (.tup [.sl .ext ((rouR m g x).1.map rowS), .i .i64 (rouR m g x).2]) := by
  obtain ⟨y, z, ⟨rfl, rfl⟩, h⟩ := p207 H.f207 (m0 := m) (g1 := g) (x2 := x) (K := fun y z => y = (rouR m g x).1 ∧ z = (rouR m g x).2) (by
    unfold T207_0
    refine ⟨fun h => by rw [rouR_bad (.inl h)]; exact ⟨rfl, rfl⟩, fun h0 => ⟨fun h => by rw [rouR_bad (.inr h)]; exact ⟨rfl, rfl⟩, fun h1 => ?_⟩⟩
    unfold T207_1
    refine ⟨_, c219 H hm hx, fun h => ?_, fun h => ?_⟩
    · rw [rouR_no (by omega) (by simpa using h)]; exact ⟨rfl, rfl⟩
    have hg : goesR m x = true := by simpa using h
    rw [rouR_yes (by omega) hg]
    have h2 := Go0.of hg
    obtain ⟨p1, p2⟩ := parts_len hm hx h2
    have l1 := num_len g
    have l2 := num_len x.key
    have l3 := statL_len x
    have e3 : ∃ c, ([[], ([114, 101, 97, 100, 121] : Bytes), (([98, 108, 111, 99, 107, 101, 100, 32] : Bytes) ++ num x.key), ([100, 111, 110, 101] : Bytes)] : List Bytes)[x.status.toNat]? = some c ∧ c = statL x := by
      unfold statL
      rcases h2.st with h | h | h <;> rw [h] <;> exact ⟨_, rfl, rfl⟩
    obtain ⟨c, e3, rfl⟩ := e3
    refine ⟨_, _, c220 H hm hx h2, fun h => absurd rfl h, fun _ => ⟨_, c216 H (by omega) (by omega), ?_, ?_, _, c15 H.toHas03 hx.k.1 hx.k.2, ?_, hx.st, _, e3, ?_, fun P hP => ?_⟩⟩
    all_goals try (rw [maxStr_eq]; simp only [List.length_append, List.length_cons, List.length_nil]; omega)
    refine loop_up (P := fun o i => P o i) (fun i => headR g x :: ((partsL m x).take i).map sp2) (partsL m x).length (hP _ _ ?_) fun i hi ih => hP _ _ ?_
    · rw [List.take_length]
      unfold T207_2 T207_3
      exact ⟨fun h => absurd h (by omega), fun _ => ⟨rfl, rfl⟩⟩
    · have := p1 _ (List.getElem_mem hi)
      unfold T207_2
      refine ⟨fun _ => ⟨by omega, _, get_at hi, ?_, ⟨?_, ?_⟩, ?_⟩, fun h => absurd (show (i : Int) < (partsL m x).length by omega) h⟩
      · rw [maxStr_eq]; simp only [List.length_cons, List.length_nil]; omega
      · rw [maxBytes_eq]; simp only [List.length_append, List.length_cons, List.length_nil, List.length_map, List.length_take]; omega
      · rw [maxBytes_eq]; simp only [List.length_append, List.length_cons, List.length_nil, List.length_map, List.length_take]; omega
      · rw [wr_i64 (by omega) (by omega)]
        rw [map_take_snoc sp2 hi] at ih
        exact ih)
  exact h
end
end Go.AM

/- Parts of the proof. -/
namespace Go.AM
open Go
theorem wr_nat {i : Nat} (h : i ≤ 1000000000000000000) : IntKind.i64.wrap ((i : Int) + 1) = ((i + 1 : Nat) : Int) := wr_i64 (by omega) (by omega)
theorem fitS_iff {m : Img} {s : Sta} (h : fitS m s = true) : (1 ≤ s.outcome ∧ s.outcome ≤ 8) ∧ (0 ≤ s.steps ∧ s.steps ≤ 5000) ∧ s.routines.length ≤ 16 ∧ (-1 ≤ s.failing ∧ s.failing < s.routines.length) ∧ ∀ x ∈ s.routines, goesR m x = true := by
  unfold fitS at h
  simp only [Bool.and_eq_true, decide_eq_true_eq, List.all_eq_true] at h
  obtain ⟨⟨⟨⟨h1, h2⟩, h3⟩, h4⟩, h5⟩ := h
  exact ⟨h1, h2, h3, h4, h5⟩
section
variable {prog : Prog} (H : HasT prog)
include H
end
end Go.AM

/- Parts of the proof. -/
namespace Go.AM
open Go
structure HasV (prog : Prog) : Prop extends HasU prog, HasT prog where
  f264 : prog.fn 264 = some pf264
  f268 : prog.fn 268 = some pf268
  f269 : prog.fn 269 = some pf269
  f270 : prog.fn 270 = some pf270
  f271 : prog.fn 271 = some pf271
  f272 : prog.fn 272 = some pf272
  f273 : prog.fn 273 = some pf273
  f274 : prog.fn 274 = some pf274
  f275 : prog.fn 275 = some pf275
  f276 : prog.fn 276 = some pf276
theorem isF0_snoc (o : Own) (l : List Bytes) (s : Bytes) : AV.isF0 (.sl o (List.map rowS (l ++ [s]))) = false := by
  cases l <;> cases o <;> rfl
theorem in_fit {m : Img} {x : Frm} (hm : OkI m) (h : fitb m x = true) : (0 ≤ x.func ∧ x.func.toNat < m.funcs.length) ∧ (0 ≤ x.pos ∧ x.pos < 1000000) := by
  obtain ⟨f0, _, f, hf, hff⟩ := fitb_iff.1 h
  obtain ⟨_, _, p0, p1, _, _⟩ := fitF_iff.1 hff
  have := (hm.f f (List.mem_of_getElem? hf)).2.2.1
  exact ⟨⟨f0, (List.getElem?_eq_some_iff.1 hf).1⟩, p0, by omega⟩
section
variable {prog : Prog} (H : HasV prog)
include H
theorem c276 {m : Dsk} {s : Bytes} (hl : m.out.length ≤ 1000000000) : PuX prog 276 (Dk m) [.s s] (fun r => r = .tup []) (Dk (m.add [s])) := by
  refine PuX.of H.f276 rfl Dk.out fun d st k v hk hB => ?_
  obtain ⟨o, hb, ho⟩ := hB
  refine W.reg0 rfl fun nx _ => m_ (m_ (s_nilP rfl (s_fadP rfl (s_loadP rfl hb rfl rfl (m_ (s_bslM (f := rowS) (l := [s]) rfl rfl (g_cons rfl rfl rfl g_nil) rfl (s_app (f := rowS) (fun _ => rfl) rfl rfl rfl ho.app ⟨?_, ?_⟩ rfl fun o' ow' h1 h2 h3 => s_nilP rfl (s_fadP rfl (s_storeP rfl hb rfl rfl rfl (s_nil ?_) (okSt_r (by show (AV.isF0 (.sl o' (List.map rowS (m.out ++ [s]))) || false) = false; rw [isF0_snoc]; rfl)))))))))))
  · have e : maxBytes = 70368744177664 := rfl
    rw [e]; simp; omega
  · have e : maxBytes = 70368744177664 := rfl
    rw [e]; simp; omega
  · refine ⟨.inl rfl, .tup [], rfl, rfl, ⟨o', lk_here, ?_⟩, fun k' q1 q2 => lk_ne fun e => q2 e.symm, fun k' q1 q2 => h2 k' ?_ ?_⟩
    · have ho := ho
      cases o' with
      | ext => exact h1
      | full => trivial
      | id q w =>
        refine ⟨h1, ?_⟩
        rcases h3 with h3 | h3
        · cases o with
          | ext => exact ho.elim
          | full => cases h3
          | id q' w' =>
            injection h3 with h3
            subst h3
            exact ho.2
        · injection h3 with h3
          subst h3
          exact ⟨by show midSite ≤ 500000 * 4096 + 7; decide, by show 500000 * 4096 + 7 < bigSite; decide⟩
    · cases o with
      | ext => exact ho.elim
      | full => intro e; cases e
      | id q w =>
        intro e
        injection e with e
        subst e
        exact absurd q2 (Nat.not_lt.2 ho.2.1)
    · rintro rfl
      exact absurd q2 (Nat.not_lt.2 (by show midSite ≤ 500000 * 4096 + 7; decide))
theorem c273 {m : Dsk} {g k : Nat} {x : Frm} (hl : m.out.length ≤ 1000000000) (hf : 0 ≤ x.func ∧ x.func.toNat < m.image.funcs.length) (hg : g ≤ 1000000) (hk : k ≤ 1000000) (hp : 0 ≤ x.pos ∧ x.pos < 1000000) : PuX prog 273 (Dk m) [.i .i64 g, .i .i64 k, x.av] (fun r => r = .i .i64 0) (Dk (m.add (inL m.image m.query.name g k x))) := by
  refine (p273 H.f273 (g1 := g) (k2 := k) (x3 := x) (mP := m) (K := fun a b => a = 0 ∧ b = m.add (inL m.image m.query.name g k x)) ?_).to (fun r b' ⟨res0, e, h1, h2⟩ => ⟨by rw [e, h1], h2⟩)
  unfold T273_0 T273_1
  have l1 := num_len g
  have l2 := num_len k
  have l3 := num_len x.pos
  have e : nameAt m.image x.func = m.image.funcs[x.func.toNat].name := by unfold nameAt; rw [List.getElem?_eq_getElem hf.2]; rfl
  refine ⟨hf.1, _, List.getElem?_eq_getElem hf.2, fun h => ⟨_, c258 H.toHasU (by omega) (by omega), ?_, _, c258 H.toHasU (by omega) (by omega), ?_, ?_, _, c258 H.toHasU (by omega) (by omega), ?_, _, c276 H hl, rfl, ?_⟩, fun h => ⟨rfl, ?_⟩⟩
  case refine_5 => unfold inL; rw [e, if_pos h]
  case refine_6 => unfold inL; rw [e, if_neg h, Dsk.add_nil]
  all_goals (rw [maxStr_eq]; simp only [List.length_append, List.length_cons, List.length_nil]; omega)
theorem c275 {m : Dsk} {g k : Nat} {x : Frm} (hx : fitb m.image x = true) (hw : WfX x) (hl : m.out.length + (slotL m.image m.query.name g k x).length ≤ 1000000000) (hg : g ≤ 1000000) (hk : k ≤ 1000000) : PuX prog 275 (Dk m) [.i .i64 g, .i .i64 k, x.av] (fun r => r = .i .i64 0) (Dk (m.add (slotL m.image m.query.name g k x))) := by
  refine (p275 H.f275 (g1 := g) (k2 := k) (x3 := x) (mP := m) (K := fun a b => a = 0 ∧ b = m.add (slotL m.image m.query.name g k x)) ?_).to (fun r b' ⟨res0, e, h1, h2⟩ => ⟨by rw [e, h1], h2⟩)
  obtain ⟨f0, _, f, hf, hff⟩ := fitb_iff.1 hx
  unfold fitF at hff
  simp only [Bool.and_eq_true, decide_eq_true_eq] at hff
  obtain ⟨⟨⟨⟨⟨q1, q2⟩, q3⟩, q4⟩, q5⟩, ha⟩ := hff
  have hll : x.locals.length ≤ 16 := by
    rcases asc_len ha with e | e
    · rw [e]; simp
    · omega
  unfold T275_0 T275_1
  intro P0 hP
  refine loop_out (P := fun i d => P0 i x d) m x.locals (fun _ l => slL m.image m.query.name g k x l) (hP _ _ _ ?_) fun i hi a hlen next => hP _ _ _ ?_
  · unfold T275_2 T275_4
    exact ⟨fun h => absurd h (by omega), fun _ => ⟨rfl, rfl⟩⟩
  · have hm := asc_mem ha _ (List.getElem_mem hi)
    obtain ⟨s1, s2, s3⟩ := hm
    have hs : (x.locals[i].slot).toNat < f.slots.length := by omega
    have e : slotAt m.image x x.locals[i] = f.slots[(x.locals[i].slot).toNat].name := by
      unfold slotAt slotN
      rw [hf]
      show ((f.slots[(x.locals[i].slot).toNat]?).getD Fld.zero).name = _
      rw [List.getElem?_eq_getElem hs]
      rfl
    have hv : chkR x.locals[i].value = 0 := by unfold chkR; rw [if_pos s3]
    have hnx : IntKind.i64.wrap ((i : Int) + 1) = ((i + 1 : Nat) : Int) := wr_nat (by omega)
    unfold T275_2 T275_3
    refine ⟨fun _ => ⟨by omega, _, get_at hi, f0, f, hf, by omega, _, List.getElem?_eq_getElem hs, fun hne => ?_, fun he => ?_⟩, fun h => absurd (show (i : Int) < x.locals.length by omega) h⟩
    · have hne : f.slots[(x.locals[i].slot).toNat].name ≠ m.query.name := hne
      rw [hnx]
      have e0 : slL m.image m.query.name g k x x.locals[i] = [] := by unfold slL; rw [e, if_neg hne]
      rw [e0, Dsk.add_nil] at next
      exact next
    · have he : f.slots[(x.locals[i].slot).toNat].name = m.query.name := Decidable.not_not.1 he
      have e0 : slL m.image m.query.name g k x x.locals[i] = [num g ++ [32] ++ num k ++ [32] ++ num x.locals[i].slot ++ [32, 61, 32] ++ txt x.locals[i].value] := by unfold slL; rw [e, if_pos he]
      rw [e0] at next hlen
      have l1 := num_len g
      have l2 := num_len k
      have l3 := num_len x.locals[i].slot
      have l4 := fine_len s3
      have c72' := c72 H.toHasT.toHasF.toHas38 (hw.v _ (List.getElem_mem hi))
      rw [if_pos s3] at c72'
      refine ⟨_, _, c72', fun h => absurd hv h, fun _ => ⟨_, c258 H.toHasU (by omega) (by omega), ?_, _, c258 H.toHasU (by omega) (by omega), ?_, ?_, _, c258 H.toHasU (by omega) (by omega), ?_, ?_, ?_, _, c276 H ?_, by rw [hnx]; exact next⟩⟩
      case refine_7 =>
        have e1 : (m.add a).out.length = m.out.length + a.length := List.length_append
        have e2 : (slotL m.image m.query.name g k x).length = (idxT (fun _ l => slL m.image m.query.name g k x l) 0 x.locals).length := rfl
        rw [List.length_append] at hlen
        omega
      all_goals (rw [maxStr_eq]; simp only [List.length_append, List.length_cons, List.length_nil]; omega)
theorem c272i {m : Dsk} (hm : OkI m.image) (hs : WfS m.state) (hf : fitS m.image m.state = true) (hl : m.out.length + (eachL (inL m.image m.query.name) m.state).length ≤ 1000000000) : PuXF prog 272 (Dk m) (fun kp vp => [.bf 273 [.p kp vp 0]]) (fun r => r = .i .i64 0) (Dk (m.add (eachL (inL m.image m.query.name) m.state))) := by
  refine (p272 H.f272 (mP := m) (K := fun a b => a = 0 ∧ b = m.add (eachL (inL m.image m.query.name) m.state)) ?_).to (fun r b' ⟨res0, e, h1, h2⟩ => ⟨by rw [e, h1], h2⟩)
  obtain ⟨_, _, hn, _, hg⟩ := fitS_iff hf
  unfold T272_0
  intro P0 hP
  refine loop_out (P := P0) m m.state.routines (fun g x => idxT (inL m.image m.query.name g) 0 x.frames) (hP _ _ ?_) fun i hi a hlen next => hP _ _ ?_
  · unfold T272_1 T272_4
    exact ⟨fun h => absurd h (by omega), fun _ => ⟨rfl, rfl⟩⟩
  have hx := Go0.of (hg _ (List.getElem_mem hi))
  have hwx := hs.r _ (List.getElem_mem hi)
  unfold T272_1
  refine ⟨fun _ => ⟨by omega, _, get_at hi, fun P1 hP1 => ?_⟩, fun h => absurd (show (i : Int) < m.state.routines.length by omega) h⟩
  refine loop_out (P := P1) (m.add a) m.state.routines[i].frames (inL m.image m.query.name i) (hP1 _ _ ?_) fun j hj b hlen2 next2 => hP1 _ _ ?_
  · unfold T272_2 T272_3
    refine ⟨fun h => absurd h (by omega), fun _ => ?_⟩
    rw [wr_nat (by omega)]
    exact next
  have hfx := hx.f
  unfold T272_2
  refine ⟨fun _ => ⟨by omega, _, get_at hj, _, _, c273 H (m := (m.add a).add b) (Nat.le_trans (Nat.le_add_right _ 0) ?_) (in_fit hm (hx.fb _ (List.getElem_mem hj))).1 (by omega) (by omega) (in_fit hm (hx.fb _ (List.getElem_mem hj))).2, fun h => absurd rfl h, fun _ => ?_⟩, fun h => absurd (show (j : Int) < m.state.routines[i].frames.length by omega) h⟩
  · have e1 : (eachL (inL m.image m.query.name) m.state).length = (idxT (fun g x => idxT (inL m.image m.query.name g) 0 x.frames) 0 m.state.routines).length := rfl
    rw [List.length_append] at hlen hlen2
    show ((m.out ++ a) ++ b).length + _ ≤ _
    rw [List.length_append, List.length_append]
    first
    | omega
    | (show _ + (slotL m.image m.query.name i j _).length ≤ _; omega)
  · rw [wr_nat (by omega)]
    exact next2
theorem c272s {m : Dsk} (hm : OkI m.image) (hs : WfS m.state) (hf : fitS m.image m.state = true) (hl : m.out.length + (eachL (slotL m.image m.query.name) m.state).length ≤ 1000000000) : PuXF prog 272 (Dk m) (fun kp vp => [.bf 275 [.p kp vp 0]]) (fun r => r = .i .i64 0) (Dk (m.add (eachL (slotL m.image m.query.name) m.state))) := by
  refine (SlotV.p272 H.f272 (mP := m) (K := fun a b => a = 0 ∧ b = m.add (eachL (slotL m.image m.query.name) m.state)) ?_).to (fun r b' ⟨res0, e, h1, h2⟩ => ⟨by rw [e, h1], h2⟩)
  obtain ⟨_, _, hn, _, hg⟩ := fitS_iff hf
  unfold SlotV.T272_0
  intro P0 hP
  refine loop_out (P := P0) m m.state.routines (fun g x => idxT (slotL m.image m.query.name g) 0 x.frames) (hP _ _ ?_) fun i hi a hlen next => hP _ _ ?_
  · unfold SlotV.T272_1 SlotV.T272_4
    exact ⟨fun h => absurd h (by omega), fun _ => ⟨rfl, rfl⟩⟩
  have hx := Go0.of (hg _ (List.getElem_mem hi))
  have hwx := hs.r _ (List.getElem_mem hi)
  unfold SlotV.T272_1
  refine ⟨fun _ => ⟨by omega, _, get_at hi, fun P1 hP1 => ?_⟩, fun h => absurd (show (i : Int) < m.state.routines.length by omega) h⟩
  refine loop_out (P := P1) (m.add a) m.state.routines[i].frames (slotL m.image m.query.name i) (hP1 _ _ ?_) fun j hj b hlen2 next2 => hP1 _ _ ?_
  · unfold SlotV.T272_2 SlotV.T272_3
    refine ⟨fun h => absurd h (by omega), fun _ => ?_⟩
    rw [wr_nat (by omega)]
    exact next
  have hfx := hx.f
  unfold SlotV.T272_2
  refine ⟨fun _ => ⟨by omega, _, get_at hj, _, _, c275 H (m := (m.add a).add b) (hx.fb _ (List.getElem_mem hj)) (hwx.f _ (List.getElem_mem hj)) ?_ (by omega) (by omega), fun h => absurd rfl h, fun _ => ?_⟩, fun h => absurd (show (j : Int) < m.state.routines[i].frames.length by omega) h⟩
  · have e1 : (eachL (slotL m.image m.query.name) m.state).length = (idxT (fun g x => idxT (slotL m.image m.query.name g) 0 x.frames) 0 m.state.routines).length := rfl
    rw [List.length_append] at hlen hlen2
    show ((m.out ++ a) ++ b).length + _ ≤ _
    rw [List.length_append, List.length_append]
    first
    | omega
    | (show _ + (slotL m.image m.query.name i j _).length ≤ _; omega)
  · rw [wr_nat (by omega)]
    exact next2
theorem c270 {m : Dsk} (hf : fitS m.image m.state = true) (hl : m.out.length + (waitsL m.query.key m.state).length ≤ 1000000000) : PuX prog 270 (Dk m) [] (fun r => r = .i .i64 0) (Dk (m.add (waitsL m.query.key m.state))) := by
  refine (p270 H.f270 (mP := m) (K := fun a b => a = 0 ∧ b = m.add (waitsL m.query.key m.state)) ?_).to (fun r b' ⟨res0, e, h1, h2⟩ => ⟨by rw [e, h1], h2⟩)
  obtain ⟨_, _, hn, _, hg⟩ := fitS_iff hf
  unfold T270_0
  intro P0 hP
  refine loop_out (P := P0) m m.state.routines (wtL m.query.key) (hP _ _ ?_) fun i hi a hlen next => hP _ _ ?_
  · unfold T270_1 T270_4
    exact ⟨fun h => absurd h (by omega), fun _ => ⟨rfl, rfl⟩⟩
  have no : ¬(m.state.routines[i].status = 2 ∧ m.state.routines[i].key = m.query.key) → T270_3 prog (fun a b => a = 0 ∧ b = m.add (waitsL m.query.key m.state)) P0 m.state.routines (m.state.routines.length : Int) (i : Int) (m.add a) := fun h => by
    unfold T270_3
    rw [wr_nat (by omega)]
    have e0 : wtL m.query.key i m.state.routines[i] = [] := by unfold wtL; rw [if_neg h]
    rw [e0, Dsk.add_nil] at next
    exact next
  unfold T270_1 T270_2
  refine ⟨fun _ => ⟨by omega, _, get_at hi, fun h2 => ⟨fun hk => ?_, fun hk => no fun h => ?_⟩, fun h2 => ⟨fun h => (by cases h), fun _ => no fun h => h2 h.1⟩⟩, fun h => absurd (show (i : Int) < m.state.routines.length by omega) h⟩
  · have hk : m.state.routines[i].key = m.query.key := of_decide_eq_true hk
    have e0 : wtL m.query.key i m.state.routines[i] = [[103, 111, 114, 111, 117, 116, 105, 110, 101, 32] ++ num i] := by unfold wtL; rw [if_pos ⟨h2, hk⟩]
    rw [e0] at next hlen
    have l1 := num_len i
    refine ⟨_, c258 H.toHasU (by omega) (by omega), ?_, _, c276 H ?_, ?_⟩
    · rw [maxStr_eq]; simp only [List.length_append, List.length_cons, List.length_nil]; omega
    · have e1 : (m.add a).out.length = m.out.length + a.length := List.length_append
      have e2 : (waitsL m.query.key m.state).length = (idxT (wtL m.query.key) 0 m.state.routines).length := rfl
      rw [List.length_append] at hlen
      omega
    · unfold T270_3
      rw [wr_nat (by omega)]
      exact next
  · have hk := of_decide_eq_false hk
    exact hk h.2
theorem c269 {m : Dsk} (hm : OkI m.image) (hs : WfS m.state) (hf : fitS m.image m.state = true) (hl : m.out.length + (headsL m.state).length ≤ 1000000000) : PuX prog 269 (Dk m) [] (fun r => r = .i .i64 0) (Dk (m.add (headsL m.state))) := by
  refine (p269 H.f269 (mP := m) (K := fun a b => a = 0 ∧ b = m.add (headsL m.state)) ?_).to (fun r b' ⟨res0, e, h1, h2⟩ => ⟨by rw [e, h1], h2⟩)
  obtain ⟨_, _, hn, _, hg⟩ := fitS_iff hf
  unfold T269_0
  intro P0 hP
  refine loop_out (P := P0) m m.state.routines (fun g x => [headR g x]) (hP _ _ ?_) fun i hi a hlen next => hP _ _ ?_
  · unfold T269_1 T269_2
    exact ⟨fun h => absurd h (by omega), fun _ => ⟨rfl, rfl⟩⟩
  have e : rouR (m.add a).image i m.state.routines[i] = (linR m.image i m.state.routines[i], 0) := rouR_yes (by omega) (hg _ (List.getElem_mem hi))
  unfold T269_1
  refine ⟨fun _ => ⟨by omega, _, get_at hi, _, _, c207 H.toHasT hm (hs.r _ (List.getElem_mem hi)), fun h => ?_, fun _ => ⟨headR i m.state.routines[i], ?_, _, c276 H ?_, ?_⟩⟩, fun h => absurd (show (i : Int) < m.state.routines.length by omega) h⟩
  · rw [e] at h; exact absurd rfl h
  · rw [e]; rfl
  · have e1 : (m.add a).out.length = m.out.length + a.length := List.length_append
    have e2 : (headsL m.state).length = (idxT (fun g x => [headR g x]) 0 m.state.routines).length := rfl
    rw [List.length_append] at hlen
    omega
  · rw [wr_nat (by omega)]
    exact next
end
end Go.AM

/- Parts of the proof. -/
namespace Go.AM
open Go
theorem ans_len {m : Img} {s : Sta} (hs : WfS s) (hf : fitS m s = true) (q : Qry) : (headsL s).length ≤ 100000000 ∧ (waitsL q.key s).length ≤ 100000000 ∧ (eachL (inL m q.name) s).length ≤ 100000000 ∧ (eachL (slotL m q.name) s).length ≤ 100000000 ∧ (partR m s q).1.length ≤ 100000000 := by
  obtain ⟨_, _, hn, _, hg⟩ := fitS_iff hf
  have hr : ∀ {f : Nat → Rou → List Bytes} {c : Nat}, c ≤ 5000000 → (∀ j, ∀ x ∈ s.routines, (f j x).length ≤ c) → (idxT f 0 s.routines).length ≤ 100000000 := fun {f c} hc h => by
    refine Nat.le_trans (idxT_len h) (Nat.le_trans (Nat.mul_le_mul hn hc) (by decide))
  have hfr : ∀ {f : Nat → Frm → List Bytes} {c : Nat} {x : Rou}, x ∈ s.routines → c ≤ 17 → (∀ j, ∀ y ∈ x.frames, (f j y).length ≤ c) → (idxT f 0 x.frames).length ≤ 170 * 17 := fun {f c x} hx hc h => by
    refine Nat.le_trans (idxT_len h) (Nat.mul_le_mul (Go0.of (hg x hx)).f hc)
  have hlc : ∀ {x : Rou} {y : Frm}, x ∈ s.routines → y ∈ x.frames → y.locals.length ≤ 16 := fun {x y} hx hy => by
    obtain ⟨_, _, f, _, hff⟩ := fitb_iff.1 ((Go0.of (hg x hx)).fb y hy)
    obtain ⟨q1, _, _, _, _, ha⟩ := fitF_iff.1 hff
    rcases asc_len ha with e | e
    · rw [e]; simp
    · omega
  refine ⟨hr (c := 1) (by decide) fun j x hx => Nat.le_refl _, hr (c := 1) (by decide) fun j x hx => by unfold wtL; split <;> simp, hr (c := 170 * 17) (by decide) fun j x hx => hfr hx (c := 1) (by decide) fun k y hy => by unfold inL; split <;> simp, hr (c := 170 * 17) (by decide) fun j x hx => hfr hx (c := 16) (by decide) fun k y hy => ?_, ?_⟩
  · refine Nat.le_trans (idxT_len (c := 1) fun n l hl => by unfold slL; split <;> simp) ?_
    have := hlc hx hy
    omega
  · unfold partR
    split
    · simp
    · rename_i x hx
      split
      · simp
      have hx := List.mem_of_getElem? hx
      have h1 : (idxT (prtL m q) 0 x.frames).length ≤ 170 * 17 := hfr hx (c := 17) (by decide) fun k y hy => by
        obtain ⟨a, l, ea, el⟩ := frm_shape ((Go0.of (hg x hx)).fb y hy) (k : Int)
        have := hlc hx hy
        unfold prtL
        rw [ea]
        split
        · simp
        · split
          · show l.length ≤ 17
            omega
          · simp
      have h2 : (tailL m q x).length ≤ 410 := by
        have := (Go0.of (hg x hx)).d
        have := (Go0.of (hg x hx)).p
        unfold tailL
        split
        · rw [List.length_map]; omega
        · split
          · rw [List.length_map]; omega
          · simp
      show (idxT (prtL m q) 0 x.frames ++ tailL m q x).length ≤ _
      rw [List.length_append]
      omega
section
variable {prog : Prog} (H : HasV prog)
include H
theorem c268 {m : Dsk} (hm : OkI m.image) (hs : WfS m.state) (hf : fitS m.image m.state = true) (hg : 0 ≤ m.query.g) (hl : m.out.length + (partR m.image m.state m.query).1.length ≤ 1000000000) : PuX prog 268 (Dk m) [] (fun r => r = .i .i64 (partR m.image m.state m.query).2) (Dk (m.add (partR m.image m.state m.query).1)) := by
  refine (p268 H.f268 (mP := m) (K := fun a b => a = (partR m.image m.state m.query).2 ∧ b = m.add (partR m.image m.state m.query).1) ?_).to (fun r b' ⟨res0, e, h1, h2⟩ => ⟨by rw [e, h1], h2⟩)
  obtain ⟨_, _, hn, _, hgs⟩ := fitS_iff hf
  unfold T268_0 T268_1 T268_2
  refine ⟨fun h => ?_, fun h => ?_⟩
  · have e : m.state.routines[m.query.g.toNat]? = none := List.getElem?_eq_none (by omega)
    unfold partR
    rw [e]
    exact ⟨rfl, (Dsk.add_nil m).symm⟩
  have hi : m.query.g.toNat < m.state.routines.length := by omega
  have hx0 := hgs _ (List.getElem_mem hi)
  have hwx := hs.r _ (List.getElem_mem hi)
  have ex : m.state.routines[m.query.g.toNat]? = some m.state.routines[m.query.g.toNat] := List.getElem?_eq_getElem hi
  generalize m.state.routines[m.query.g.toNat] = x at ex hx0 hwx
  have er : partR m.image m.state m.query = if m.query.kind = 3 ∧ (x.frames.length : Int) ≤ m.query.k then ([], 6) else (partL m.image m.query x, 0) := by unfold partR; rw [ex]
  rw [er] at hl ⊢
  have hx := Go0.of hx0
  have hfx := hx.f
  unfold T268_3
  refine ⟨hg, x, ex, ?_⟩
  have t5 : ¬(m.query.kind = 3 ∧ (x.frames.length : Int) ≤ m.query.k) → T268_5 prog (fun a b => a = (if m.query.kind = 3 ∧ (x.frames.length : Int) ≤ m.query.k then (([] : List Bytes), (6 : Int)) else (partL m.image m.query x, 0)).2 ∧ b = m.add (if m.query.kind = 3 ∧ (x.frames.length : Int) ≤ m.query.k then (([] : List Bytes), (6 : Int)) else (partL m.image m.query x, 0)).1) m.query.g x m := fun hk => by
    rw [if_neg hk] at hl ⊢
    have hl : m.out.length + (partL m.image m.query x).length ≤ 1000000000 := hl
    have hl2 : m.out.length + ((idxT (prtL m.image m.query) 0 x.frames).length + (tailL m.image m.query x).length) ≤ 1000000000 := by
      have : (partL m.image m.query x).length = (idxT (prtL m.image m.query) 0 x.frames).length + (tailL m.image m.query x).length := List.length_append
      omega
    unfold T268_5 T268_6 T268_7
    have e : rouR m.image m.query.g x = (linR m.image m.query.g x, 0) := rouR_yes (by omega) hx0
    have c := c207 H.toHasT (g := m.query.g) hm hwx
    rw [e] at c
    refine ⟨_, _, c, fun h => absurd rfl h, fun _ => ⟨by unfold linR; simp, ?_⟩⟩
    have e1 : (linR m.image m.query.g x).drop 1 = (partsL m.image x).map sp2 := rfl
    show T268_8 prog _ ((linR m.image m.query.g x).drop 1) x m
    rw [e1]
    unfold T268_8
    intro P0 hP
    let D : List Bytes := x.defers.map (defL m.image) ++ x.panics.map shown
    have := loop_inv (P := fun (b : List Bytes × Dsk) i => P0 b.1 i x b.2) (fun i => ((frmsL m.image i (x.frames.drop i) ++ D).map sp2, m.add (idxT (prtL m.image m.query) 0 (x.frames.take i)))) x.frames.length (fun _ => True) trivial (fun _ => hP _ _ _ _ ?_) fun i hi _ next => hP _ _ _ _ ?_
    · have e2 : partsL m.image x = frmsL m.image 0 (x.frames.drop 0) ++ D := by unfold partsL; rw [List.append_assoc]; rfl
      rw [e2]
      have e3 : m.add (idxT (prtL m.image m.query) 0 (x.frames.take 0)) = m := Dsk.add_nil m
      show P0 _ 0 x m
      rw [← e3]
      exact this
    · rw [List.drop_length, List.take_length]
      unfold T268_9 T268_15
      refine ⟨fun h => absurd h (by omega), fun _ => ?_⟩
      have t16 : ∀ l : List Bytes, l = tailL m.image m.query x → T268_16 prog (fun a b => a = (partL m.image m.query x, (0 : Int)).2 ∧ b = m.add (partL m.image m.query x, (0 : Int)).1) (l.map sp2) (m.add (idxT (prtL m.image m.query) 0 x.frames)) := fun l hl' => by
        unfold T268_16
        intro P2 hP2
        refine loop_out (P := P2) (m.add (idxT (prtL m.image m.query) 0 x.frames)) (l.map sp2) (fun _ (s : Bytes) => [s.drop 2]) (hP2 _ _ ?_) fun j hj a hlen next2 => hP2 _ _ ?_
        · unfold T268_17 T268_18
          refine ⟨fun h => absurd h (by omega), fun _ => ⟨rfl, ?_⟩⟩
          rw [idxT_sp2, Dsk.add_add, hl']
          rfl
        · unfold T268_17
          rw [idxT_sp2, List.length_append] at hlen
          have h2 : 2 ≤ (l.map sp2)[j].length := by rw [List.getElem_map]; show 2 ≤ ([32, 32] ++ l[j]'(by simpa using hj)).length; simp
          rw [List.length_map] at hj
          have hll : l.length = (tailL m.image m.query x).length := by rw [hl']
          refine ⟨fun _ => ⟨by omega, _, get_at (by simpa using hj), h2, _, c276 H ?_, ?_⟩, fun h => absurd (show (j : Int) < ((l.map sp2).length : Int) by rw [List.length_map]; omega) h⟩
          · show ((m.out ++ idxT (prtL m.image m.query) 0 x.frames) ++ a).length ≤ _
            rw [List.length_append, List.length_append]
            omega
          · rw [wr_nat (by omega)]
            exact next2
      have eD : ([] ++ D).map sp2 = (x.defers.map (defL m.image)).map sp2 ++ (x.panics.map shown).map sp2 := by show (x.defers.map (defL m.image) ++ x.panics.map shown).map sp2 = _; rw [List.map_append]
      have el : (x.defers.length : Int).toNat = ((x.defers.map (defL m.image)).map sp2).length := by simp
      show (m.query.kind = 4 → _ ∧ _ ≤ (([] ++ D).map sp2).length ∧ T268_16 prog _ (List.take _ (([] ++ D).map sp2)) _) ∧ (¬(m.query.kind = 4) → (m.query.kind = 5 → _ ∧ _ ≤ (([] ++ D).map sp2).length ∧ T268_16 prog _ (List.drop _ (([] ++ D).map sp2)) _) ∧ (¬(m.query.kind = 5) → T268_16 prog _ [] _))
      rw [eD, el, List.take_left, List.drop_left]
      refine ⟨fun h => ⟨by omega, by rw [List.length_append]; omega, t16 _ ?_⟩, fun h4 => ⟨fun h => ⟨by omega, by rw [List.length_append]; omega, t16 _ ?_⟩, fun h5 => t16 [] ?_⟩⟩
      · unfold tailL; rw [if_pos h]
      · unfold tailL; rw [if_neg h4, if_pos h]
      · unfold tailL; rw [if_neg h4, if_neg h5]
    · obtain ⟨a, l, ea, ell⟩ := frm_shape (hx.fb _ (List.getElem_mem hi)) (i : Int)
      have hll : x.frames[i].locals.length ≤ 16 := by
        obtain ⟨_, _, f, _, hff⟩ := fitb_iff.1 (hx.fb _ (List.getElem_mem hi))
        obtain ⟨q1, _, _, _, _, ha⟩ := fitF_iff.1 hff
        rcases asc_len ha with e | e
        · rw [e]; simp
        · omega
      have hpre := idxT_le (prtL m.image m.query) x.frames (i + 1)
      rw [idxT_take _ hi, List.length_append] at hpre
      have next : P0 ((frmsL m.image (i + 1) (x.frames.drop (i + 1)) ++ D).map sp2) ((i + 1 : Nat) : Int) x (m.add (idxT (prtL m.image m.query) 0 (x.frames.take (i + 1)))) := next trivial
      rw [idxT_take _ hi] at next
      generalize hR : frmsL m.image (i + 1) (x.frames.drop (i + 1)) ++ D = R at next
      generalize hB : idxT (prtL m.image m.query) 0 (x.frames.take i) = B at next hpre
      have e5 : (frmsL m.image i (x.frames.drop i) ++ D).map sp2 = sp2 a :: (l.map sp2 ++ R.map sp2) := by
        rw [List.drop_eq_getElem_cons hi]
        show ((frmL m.image i x.frames[i] ++ frmsL m.image (i + 1) (x.frames.drop (i + 1))) ++ D).map sp2 = _
        rw [List.append_assoc, hR, ea]
        simp
      show T268_9 prog _ P0 ((frmsL m.image i (x.frames.drop i) ++ D).map sp2) _ _ _ _ _
      rw [e5]
      have hnn : IntKind.i64.wrap (1 + (x.frames[i].locals.length : Int)) = ((1 + l.length : Nat) : Int) := by rw [wr_i64 (by omega) (by omega)]; omega
      -- behind the lines of a frame
      have t13 : ∀ C, C = prtL m.image m.query i x.frames[i] → T268_13 prog (fun a b => a = (partL m.image m.query x, (0 : Int)).2 ∧ b = m.add (partL m.image m.query x, (0 : Int)).1) P0 (sp2 a :: (l.map sp2 ++ R.map sp2)) ((1 + l.length : Nat) : Int) x.frames (x.frames.length : Int) (i : Int) x ((m.add B).add C) := fun C hC => by
        unfold T268_13 T268_14
        rw [wr_nat (by omega)]
        refine ⟨by omega, by simp; omega, ?_⟩
        have e6 : (sp2 a :: (l.map sp2 ++ R.map sp2)).drop (((1 + l.length : Nat) : Int)).toNat = R.map sp2 := by
          have : (((1 + l.length : Nat) : Int)).toNat = l.length + 1 := by omega
          rw [this, List.drop_succ_cons]
          have : l.length = (l.map sp2).length := by simp
          rw [this, List.drop_left]
        rw [e6, Dsk.add_add, hC]
        exact next
      have t10 : ∀ C, (m.query.kind ≠ 3 → C = prtL m.image m.query i x.frames[i]) → (m.query.kind = 3 → C = []) → T268_10 prog (fun a b => a = (partL m.image m.query x, (0 : Int)).2 ∧ b = m.add (partL m.image m.query x, (0 : Int)).1) P0 (sp2 a :: (l.map sp2 ++ R.map sp2)) (i : Int) ((1 + l.length : Nat) : Int) x.frames (x.frames.length : Int) (i : Int) x ((m.add B).add C) := fun C hC hC3 => by
        unfold T268_10 T268_11
        refine ⟨fun h3 => ⟨fun hk => ⟨by omega, by omega, by simp; omega, ?_⟩, fun hk => t13 C ?_⟩, fun h3 => ⟨fun h => (by cases h), fun _ => t13 C (hC h3)⟩⟩
        · have hk : m.query.k = (i : Int) := of_decide_eq_true hk
          have h3 : m.query.kind = 3 := h3
          rw [hC3 h3, Dsk.add_nil]
          have e7 : (((sp2 a :: (l.map sp2 ++ R.map sp2)).drop 1).take ((((1 + l.length : Nat) : Int)).toNat - 1)) = l.map sp2 := by
            have : (((1 + l.length : Nat) : Int)).toNat - 1 = (l.map sp2).length := by rw [List.length_map]; omega
            rw [this]
            show (l.map sp2 ++ R.map sp2).take _ = _
            rw [List.take_left]
          rw [e7]
          have ep : prtL m.image m.query i x.frames[i] = l := by
            unfold prtL
            rw [if_neg (by omega), if_pos ⟨h3, hk⟩, ea]
            rfl
          rw [ep] at hpre
          intro P1 hP1
          refine loop_out (P := fun j d => P1 j x d) (m.add B) (l.map sp2) (fun _ (s : Bytes) => [s.drop 2]) (hP1 _ _ _ ?_) fun j hj b hlen next2 => hP1 _ _ _ ?_
          · unfold T268_12
            refine ⟨fun h => absurd h (by omega), fun _ => ?_⟩
            rw [idxT_sp2]
            exact t13 l ep.symm
          · unfold T268_12
            rw [idxT_sp2, List.length_append] at hlen
            have h2 : 2 ≤ (l.map sp2)[j].length := by rw [List.getElem_map]; show 2 ≤ ([32, 32] ++ l[j]'(by simpa using hj)).length; simp
            rw [List.length_map] at hj
            refine ⟨fun _ => ⟨by omega, _, get_at (by simpa using hj), h2, _, c276 H ?_, ?_⟩, fun h => absurd (show (j : Int) < ((l.map sp2).length : Int) by rw [List.length_map]; omega) h⟩
            · show ((m.out ++ B) ++ b).length ≤ _
              rw [List.length_append, List.length_append]
              omega
            · rw [wr_nat (by omega)]
              exact next2
        · have hk : ¬m.query.k = (i : Int) := of_decide_eq_false hk
          have h3 : m.query.kind = 3 := h3
          rw [hC3 h3]
          unfold prtL
          rw [if_neg (by omega), if_neg (by omega)]
      unfold T268_9
      simp only [← hnn] at t10
      refine ⟨fun _ => ⟨by omega, _, get_at hi, fun k2 => ⟨sp2 a, rfl, by show 2 ≤ ([32, 32] ++ a).length; simp, _, c276 H ?_, ?_⟩, fun k2 => ?_⟩, fun h => absurd (show (i : Int) < x.frames.length by omega) h⟩
      · show (m.out ++ B).length ≤ _
        rw [List.length_append]
        omega
      · have k2 : m.query.kind = 2 := k2
        refine t10 [a] (fun _ => ?_) (fun h3 => absurd h3 (by omega))
        unfold prtL
        rw [if_pos k2, ea]
        rfl
      · have k2 : ¬m.query.kind = 2 := k2
        have := t10 [] (fun h3 => by unfold prtL; rw [if_neg k2, if_neg (by omega)]) (fun _ => rfl)
        rw [Dsk.add_nil] at this
        exact this
  unfold T268_4
  refine ⟨fun h3 => ⟨fun hk => ?_, fun hk => t5 (by omega)⟩, fun h3 => t5 fun h => h3 h.1⟩
  rw [if_pos ⟨h3, by omega⟩]
  exact ⟨rfl, (Dsk.add_nil m).symm⟩
theorem c271 {m : Dsk} (hm : OkI m.image) (hs : WfS m.state) (hf : fitS m.image m.state = true) (hl : m.out.length + (eachL (inL m.image m.query.name) m.state).length ≤ 1000000000) : PuV prog 271 (Dk m) (fun r => r = .i .i64 0) (Dk (m.add (eachL (inL m.image m.query.name) m.state))) := by
  intro d st q u k v hq hk hb hB
  have hW : W prog d pf271.body (sl0 [.p q u 0]) st fun e σ st' => (e = .normal ∨ e = .ret) ∧ ∃ r, ares σ st' pf271.res = some r ∧ r = .i .i64 0 ∧ Dk (m.add (eachL (inL m.image m.query.name) m.state)) st'.bx st'.ow k v ∧ Fr d k st.bx st.ow st'.bx st'.ow :=
    q_ rfl (m_ (s_nil (q_ rfl (s_loadP rfl hb rfl rfl (s_loadP rfl hb rfl rfl (s_mkbf (sec rfl sen) (s_callXF (sec rfl (sec rfl sen)) (c272i H hm hs hf hl) (Nat.lt_succ_of_lt hk) hB fun st' hb' hf' => m_ (s_nil (W.ret ⟨.inr rfl, _, rfl, rfl, hb', Fr.pass Fr.refl hf'⟩)))))))))
  obtain ⟨r, st', h1, h2⟩ := Fn.of' (prog := prog) (K := fun r st' => r = .i .i64 0 ∧ Dk (m.add (eachL (inL m.image m.query.name) m.state)) st'.bx st'.ow k v ∧ Fr d k st.bx st.ow st'.bx st'.ow) H.f271 (Nat.le_of_ble_eq_true rfl) (hW.mono fun e σ st' hq => by
    obtain ⟨he, r, h1, h2, h3, h4⟩ := hq
    rcases he with rfl | rfl
    · exact ⟨r, h1, h2, Dk.out d _ _ k v hk h3, h4.out⟩
    · exact ⟨r, h1, h2, Dk.out d _ _ k v hk h3, h4.out⟩)
  exact ⟨r, st', h1, h2⟩
theorem c274 {m : Dsk} (hm : OkI m.image) (hs : WfS m.state) (hf : fitS m.image m.state = true) (hl : m.out.length + (eachL (slotL m.image m.query.name) m.state).length ≤ 1000000000) : PuV prog 274 (Dk m) (fun r => r = .i .i64 0) (Dk (m.add (eachL (slotL m.image m.query.name) m.state))) := by
  intro d st q u k v hq hk hb hB
  have hW : W prog d pf274.body (sl0 [.p q u 0]) st fun e σ st' => (e = .normal ∨ e = .ret) ∧ ∃ r, ares σ st' pf274.res = some r ∧ r = .i .i64 0 ∧ Dk (m.add (eachL (slotL m.image m.query.name) m.state)) st'.bx st'.ow k v ∧ Fr d k st.bx st.ow st'.bx st'.ow :=
    q_ rfl (m_ (s_nil (q_ rfl (s_loadP rfl hb rfl rfl (s_loadP rfl hb rfl rfl (s_mkbf (sec rfl sen) (s_callXF (sec rfl (sec rfl sen)) (c272s H hm hs hf hl) (Nat.lt_succ_of_lt hk) hB fun st' hb' hf' => m_ (s_nil (W.ret ⟨.inr rfl, _, rfl, rfl, hb', Fr.pass Fr.refl hf'⟩)))))))))
  obtain ⟨r, st', h1, h2⟩ := Fn.of' (prog := prog) (K := fun r st' => r = .i .i64 0 ∧ Dk (m.add (eachL (slotL m.image m.query.name) m.state)) st'.bx st'.ow k v ∧ Fr d k st.bx st.ow st'.bx st'.ow) H.f274 (Nat.le_of_ble_eq_true rfl) (hW.mono fun e σ st' hq => by
    obtain ⟨he, r, h1, h2, h3, h4⟩ := hq
    rcases he with rfl | rfl
    · exact ⟨r, h1, h2, Dk.out d _ _ k v hk h3, h4.out⟩
    · exact ⟨r, h1, h2, Dk.out d _ _ k v hk h3, h4.out⟩)
  exact ⟨r, st', h1, h2⟩
theorem c264 {m : Img} {s : Sta} {q : Qry} (hm : OkI m) (hs : WfS s) : Pus prog 264 [m.av, s.av, q.av] (.tup [.sl .ext ((ansR m s q).1.map rowS), .i .i64 (ansR m s q).2]) := by
  obtain ⟨x, y, ⟨rfl, rfl⟩, h⟩ := p264 H.f264 (m0 := m) (s1 := s) (q2 := q) (K := fun x y => x = (ansR m s q).1 ∧ y = (ansR m s q).2) (by
    unfold T264_0 T264_1
    refine ⟨_, c247 H.toHasU q, fun h => ?_, fun h => ⟨_, c213 H.toHasT hm hs, fun h2 => ?_, fun h2 => ?_⟩⟩
    · have h' : ¬okQ q = true := fun e => h (chkQ_iff.2 e)
      unfold ansR chkQ
      rw [if_neg h', if_neg h']
      exact ⟨rfl, rfl⟩
    · have ho : okQ q = true := chkQ_iff.1 (Decidable.not_not.1 h)
      have h' : ¬fitS m s = true := fun e => h2 (by unfold fitSR; rw [if_pos e])
      unfold ansR fitSR
      rw [if_pos ho, if_neg h', if_neg h']
      exact ⟨rfl, rfl⟩
    have ho : okQ q = true := chkQ_iff.1 (Decidable.not_not.1 h)
    have hf : fitS m s = true := by
      rcases Bool.eq_false_or_eq_true (fitS m s) with e | e
      · exact e
      · unfold fitSR at h2
        rw [e] at h2
        exact absurd (show (8 : Int) ≠ 0 by decide) h2
    obtain ⟨l1, l2, l3, l4, l5⟩ := ans_len hs hf q
    have bd : ∀ {n : Nat}, n ≤ 100000000 → 0 + n ≤ 1000000000 := fun h => by omega
    have e : ansR m s q = ansL m s q := by unfold ansR; rw [if_pos ho, if_pos hf]
    rw [e]
    have hg := (okQ_iff.1 ho).g
    have fin : ∀ l : List Bytes, l = (ansL m s q).1 → (ansL m s q).2 = 0 → (((Dsk.mk m s q []).add l).out = (ansL m s q).1 ∧ (0 : Int) = (ansL m s q).2) := fun l h1 h2 => ⟨by unfold Dsk.add; simpa using h1, h2.symm⟩
    refine ⟨fun k1 => ⟨_, _, c269 H (m := ⟨m, s, q, []⟩) hm hs hf (bd l1), fun h => absurd rfl h, fun _ => fin _ ?_ ?_⟩, fun k1 => ⟨fun k6 => ⟨_, _, c270 H (m := ⟨m, s, q, []⟩) hf (bd l2), fun h => absurd rfl h, fun _ => fin _ ?_ ?_⟩, fun k6 => ⟨fun k7 => ⟨_, _, c271 H (m := ⟨m, s, q, []⟩) hm hs hf (bd l3), fun h => absurd rfl h, fun _ => fin _ ?_ ?_⟩, fun k7 => ⟨fun k8 => ⟨_, _, c274 H (m := ⟨m, s, q, []⟩) hm hs hf (bd l4), fun h => absurd rfl h, fun _ => fin _ ?_ ?_⟩, fun k8 => ?_⟩⟩⟩⟩
    · unfold ansL; rw [if_pos k1]
    · unfold ansL; rw [if_pos k1]
    · unfold ansL; rw [if_neg k1, if_pos k6]
    · unfold ansL; rw [if_neg k1, if_pos k6]
    · unfold ansL; rw [if_neg k1, if_neg k6, if_pos k7]
    · unfold ansL; rw [if_neg k1, if_neg k6, if_pos k7]
    · unfold ansL; rw [if_neg k1, if_neg k6, if_neg k7, if_pos k8]
    · unfold ansL; rw [if_neg k1, if_neg k6, if_neg k7, if_pos k8]
    · have e : ansL m s q = partR m s q := by unfold ansL; rw [if_neg k1, if_neg k6, if_neg k7, if_neg k8]
      rw [e] at fin ⊢
      refine ⟨_, _, c268 H (m := ⟨m, s, q, []⟩) hm hs hf hg.1 (bd l5), fun h => ?_, fun h => fin _ rfl (Decidable.not_not.1 h)⟩
      rcases partR_out (m := m) (s := s) (q := q) with e0 | e0
      · exact absurd e0 h
      · exact ⟨e0.symm, rfl⟩)
  exact h
end
end Go.AM

/- Parts of the proof. -/
namespace Go.AM
open Go
structure HasW (prog : Prog) : Prop extends HasV prog where
  f249 : prog.fn 249 = some pf249
  f251 : prog.fn 251 = some pf251
  f252 : prog.fn 252 = some pf252
  f253 : prog.fn 253 = some pf253
  f254 : prog.fn 254 = some pf254
  f255 : prog.fn 255 = some pf255
  f256 : prog.fn 256 = some pf256
abbrev sGiven : Sta := ⟨3, -1, 0, [⟨2, 7, [⟨1, 2, 0, [⟨0, ⟨2, 5, [], [], false⟩⟩]⟩, ⟨0, 4, 0, []⟩], [], []⟩]⟩
abbrev mProg : Img := ⟨[], [], [⟨[109, 97, 105, 110], 0, 0, [], rep 6 Ins.zero, [], []⟩, ⟨[102], 0, 0, [⟨[120], 0⟩, ⟨[121], 0⟩], rep 6 Ins.zero, [], []⟩]⟩
theorem ok_prog : OkI mProg := OkI.of (by decide +kernel)
theorem wfv {k n : Int} (hk : 0 ≤ k ∧ k < 256) (hn : -9223372036854775808 ≤ n ∧ n < 9223372036854775808) : Wf ⟨k, n, [], [], false⟩ := .mk hk hn (by decide) (by simp)
theorem wf_given : WfS sGiven := by
  refine ⟨by decide, fun x hx => ?_, by decide⟩
  obtain rfl := List.mem_singleton.1 hx
  refine ⟨by decide, by decide, fun y hy => ?_, by simp, by simp, by decide, by decide, by decide⟩
  simp only [List.mem_cons, List.not_mem_nil, or_false] at hy
  rcases hy with rfl | rfl
  · refine ⟨by decide, by decide, fun l hl => ?_⟩
    obtain rfl := List.mem_singleton.1 hl
    exact wfv (by decide) (by decide)
  · exact ⟨by decide, by decide, by simp⟩
theorem is_read {q : Qry} (h : OkQ q) (hk : -9223372036854775808 ≤ q.key ∧ q.key < 9223372036854775808) : rdTQ (shownQ q) = (q, 0) := by
  have := shownQ_len (q := q) (Nat.le_trans h.n (by decide))
  exact ref_found (by omega) (okQ_iff.2 h) hk rfl
section
variable {prog : Prog} (H : HasW prog)
include H
theorem c254 {m : Img} {s : Sta} {t : Bytes} (hm : OkI m) (hs : WfS s) : Pus prog 254 [m.av, s.av, .s t] (.tup [.sl .ext ((askR m s t).1.map rowS), .i .i64 (askR m s t).2]) := by
  obtain ⟨x, y, ⟨rfl, rfl⟩, h⟩ := p254 H.f254 (m0 := m) (s1 := s) (text2 := t) (K := fun x y => x = (askR m s t).1 ∧ y = (askR m s t).2) (by
    unfold T254_0
    refine ⟨_, _, c245 H.toHasU t, fun h => ?_, fun h => ⟨_, _, c264 H.toHasV hm hs, ?_⟩⟩
    · unfold askR; rw [if_neg h]; exact ⟨rfl, rfl⟩
    · unfold askR; rw [if_pos (Decidable.not_not.1 h)]; exact ⟨rfl, rfl⟩)
  exact h
theorem c252 : PuN prog 252 [] (fun r => r = sGiven.avo .full) := by
  refine (p252 H.f252 (K := fun x => x = sGiven) (by unfold T252_0; rfl)).to ?_
  rintro r ⟨x, h1, rfl⟩
  exact h1
theorem c255 : Pus prog 255 [] mProg.av := by
  obtain ⟨x, rfl, h⟩ := p255 H.f255 (K := fun x => x = mProg) (by unfold T255_0; rfl)
  exact h
theorem c249 {q : Qry} {w : Bytes} (hk : -9223372036854775808 ≤ q.key ∧ q.key < 9223372036854775808) (ho : okQ q = true) (hw : shownQ q = w) : Pus prog 249 [q.av, .s w] (.b true) := by
  subst hw
  obtain ⟨x, rfl, h⟩ := p249 H.f249 (q0 := q) (want1 := shownQ q) (K := fun x => x = true) (by
    have t : txtQ q = (shownQ q, 0) := by unfold txtQ; rw [if_pos ho]
    have c3 := c243 H.toHasU hk
    rw [t] at c3
    have c5 := c245 H.toHasU (shownQ q)
    rw [is_read (okQ_iff.1 ho) hk] at c5
    unfold T249_0
    exact ⟨_, _, c3, _, _, c5, fun _ => ⟨fun _ => ⟨fun _ => eqQ_iff.2 rfl, fun h => absurd rfl h⟩, fun h => absurd rfl h⟩, fun h => absurd rfl h⟩)
  exact h
theorem c251 {t : Bytes} {e : Int} (h : askR mProg sGiven t = ([], e)) : Pus prog 251 [.s t, .i .i64 e] (.b true) := by
  obtain ⟨x, rfl, h⟩ := p251 H.f251 (text0 := t) (want1 := e) (K := fun x => x = true) (by
    have c := c254 H (t := t) ok_prog wf_given
    rw [h] at c
    unfold T251_0
    exact ⟨_, c255 H, _, c252 H, _, _, c, fun _ => rfl, fun h => absurd rfl h⟩)
  exact h
theorem c253 {s : Sta} {t : Bytes} {want : List Bytes} (hs : WfS s) (h : askR mProg s t = (want, 0)) (hw : want.length ≤ 1000000000) : Pus prog 253 [s.av, .s t, .sl .ext (want.map rowS)] (.b true) := by
  obtain ⟨x, rfl, h⟩ := p253 H.f253 (s0 := s) (text1 := t) (want2 := want) (K := fun x => x = true) (by
    have c := c254 H (t := t) ok_prog hs
    rw [h] at c
    unfold T253_0
    exact ⟨_, c255 H, _, _, c, fun _ => ⟨_, c29 H.toHas03 hw, decide_eq_true rfl⟩, fun h => absurd rfl h⟩)
  exact h
theorem c256 : Pus prog 256 [] (.b true) := by
  obtain ⟨x, rfl, h⟩ := p256 H.f256 (K := fun x => x = true) (by
    unfold T256_0
    exact ⟨_, c252 H, _, c253 H (t := [103, 111, 114, 111, 117, 116, 105, 110, 101, 115]) (want := [[103, 111, 114, 111, 117, 116, 105, 110, 101, 32, 48, 58, 32, 98, 108, 111, 99, 107, 101, 100, 32, 55]]) wf_given (by decide +kernel) (by decide), fun _ => ⟨_, c253 H (t := [119, 97, 105, 116, 115, 32, 55]) (want := [[103, 111, 114, 111, 117, 116, 105, 110, 101, 32, 48]]) wf_given (by decide +kernel) (by decide), fun _ => ⟨_, c253 H (t := [105, 110, 32, 34, 109, 97, 105, 110, 34]) (want := [[48, 32, 49, 32, 97, 116, 32, 52]]) wf_given (by decide +kernel) (by decide), fun _ => ⟨_, c253 H (t := [115, 108, 111, 116, 32, 34, 120, 34]) (want := [[48, 32, 48, 32, 48, 32, 61, 32, 53]]) wf_given (by decide +kernel) (by decide), fun _ => ⟨_, c253 H (t := [102, 114, 97, 109, 101, 115, 32, 48]) (want := [[35, 48, 32, 49, 32, 34, 102, 34, 32, 97, 116, 32, 50, 32, 99, 97, 108, 108], [35, 49, 32, 48, 32, 34, 109, 97, 105, 110, 34, 32, 97, 116, 32, 52, 32, 99, 97, 108, 108]]) wf_given (by decide +kernel) (by decide), fun _ => ⟨_, c253 H (t := [108, 111, 99, 97, 108, 115, 32, 48, 32, 49]) (want := []) wf_given (by decide +kernel) (by decide), fun _ => ⟨_, c251 H (t := [102, 114, 97, 109, 101, 115, 32, 49]) (by decide +kernel), fun _ => ⟨_, c251 H (t := [102, 114, 97, 109, 101, 115, 32, 48, 49]) (by decide +kernel), rfl⟩, nofun⟩, nofun⟩, nofun⟩, nofun⟩, nofun⟩, nofun⟩, nofun⟩)
  exact h
theorem law242 (hf : prog.fn 242 = some pf242) {q : Qry} {s : Bytes} (hk : -9223372036854775808 ≤ q.key ∧ q.key < 9223372036854775808) : Pus prog 242 [q.av, .s s] (.b true) := by
  obtain ⟨x, rfl, h⟩ := p242 hf (q0 := q) (s1 := s) (K := fun x => x = true) (by
    unfold T242_0 T242_1 T242_2 T242_3
    have e1 : (txtQ q).2 = chkQ q := by unfold txtQ chkQ; split <;> rfl
    refine ⟨_, c256 H, fun _ => rfl, fun _ => ⟨fun _ => rfl, fun hs => ⟨fun h => (by cases h), fun _ => ⟨_, _, c243 H.toHasU hk, _, c247 H.toHasU q, fun h => absurd e1 h, fun _ => ⟨_, c248 H.toHasU q, fun h => absurd (by rw [e1]) h, fun _ => ?_⟩⟩⟩⟩⟩
    have t4 : T242_4 prog (fun x => x = true) s true := by
      unfold T242_4 T242_5
      refine ⟨_, _, c245 H.toHasU s, fun h => ⟨fun _ => ?_, fun h => (by cases h)⟩, fun h => ?_⟩
      · have e : rdTQ s = (qz, 12) := by
          unfold rdTQ at h ⊢
          rw [if_neg (by omega)] at h ⊢
          split at h
          · exact absurd rfl h
          · rename_i hh; rw [if_neg hh]
        rw [e]
        rfl
      · have h := Decidable.not_not.1 h
        have e : ((gotQ s).2 = true ∧ okQ (gotQ s).1 = true ∧ shownQ (gotQ s).1 = s) ∧ (rdTQ s).1 = (gotQ s).1 := by
          unfold rdTQ at h ⊢
          rw [if_neg (by omega)] at h ⊢
          split at h
          · rename_i hh; rw [if_pos hh]; exact ⟨hh, rfl⟩
          · cases h
        obtain ⟨⟨_, e2, e3⟩, e4⟩ := e
        rw [e4]
        have c3 := c243 H.toHasU (gotQ_key s)
        have t : txtQ (gotQ s).1 = (shownQ (gotQ s).1, 0) := by unfold txtQ; rw [if_pos e2]
        rw [t] at c3
        exact ⟨_, _, c3, fun _ => ⟨fun _ => decide_eq_true e3, fun h => absurd rfl h⟩, fun h => (by cases h)⟩
    refine ⟨fun h => ?_, fun _ => t4⟩
    have ho : okQ q = true := by
      rw [e1] at h
      exact chkQ_iff.1 h
    have t : txtQ q = (shownQ q, 0) := by unfold txtQ; rw [if_pos ho]
    rw [t]
    exact ⟨_, c249 H hk ho rfl, fun h => (by cases h), fun _ => t4⟩)
  exact h
end
end Go.AM

/- The statement QueryBack: for every input the law returns true, and each argument reads afterwards as before. No conditions. -/
namespace Go.Proofs.Ytbcdfamilcmjnaa.QueryBackProof
open Go Go.AM Go.RowKit Go.ChangeShapes Go.WideShapes Go.ChangeAt

theorem ok242 : FnOk Try.prog X 5 pf242 := FnOk.of Try.func5 (by kernel_rfl) (by kernel_rfl) (by kernel_rfl) (by kernel_rfl) (by kernel_rfl)
def fns : List (Nat × AF) := [(42, pf42), (46, pf46), (36, pf36), (43, pf43), (47, pf47), (11, pf11), (15, pf15), (21, pf21), (25, pf25), (30, pf30), (34, pf34), (37, pf37), (39, pf39), (45, pf45), (29, pf29), (197, pf197), (243, pf243), (245, pf245), (247, pf247), (248, pf248), (258, pf258), (260, pf260), (261, pf261), (266, pf266), (267, pf267), (145, pf145), (126, pf126), (72, pf72), (76, pf76), (104, pf104), (109, pf109), (154, pf154), (158, pf158), (178, pf178), (183, pf183), (169, pf169), (82, pf82), (86, pf86), (111, pf111), (112, pf112), (113, pf113), (122, pf122), (123, pf123), (144, pf144), (207, pf207), (213, pf213), (216, pf216), (219, pf219), (220, pf220), (224, pf224), (225, pf225), (227, pf227), (228, pf228), (229, pf229), (230, pf230), (231, pf231), (232, pf232), (233, pf233), (234, pf234), (236, pf236), (237, pf237), (238, pf238), (239, pf239), (264, pf264), (268, pf268), (269, pf269), (270, pf270), (271, pf271), (272, pf272), (273, pf273), (274, pf274), (275, pf275), (276, pf276), (249, pf249), (251, pf251), (252, pf252), (253, pf253), (254, pf254), (255, pf255), (256, pf256), (242, pf242)]
def prog : Prog := ⟨fnOf fns, orcQ, orsB⟩
set_option maxRecDepth 100000 in
theorem fns_ok : FnsOk Try.prog X fns fms :=
  And.intro (fun F h => noneF (show (none : Option AF) = some F from h)) (
  And.intro (fun F h => noneF (show (none : Option AF) = some F from h)) (
  And.intro (fun F h => noneF (show (none : Option AF) = some F from h)) (
  And.intro (fun F h => Option.some.inj (show some pf242 = some F from h) ▸ ok242) (
  And.intro (fun F h => Option.some.inj (show some pf243 = some F from h) ▸ ok243) (
  And.intro (fun F h => noneF (show (none : Option AF) = some F from h)) (
  And.intro (fun F h => Option.some.inj (show some pf245 = some F from h) ▸ ok245) (
  And.intro (fun F h => noneF (show (none : Option AF) = some F from h)) (
  And.intro (fun F h => Option.some.inj (show some pf247 = some F from h) ▸ ok247) (
  And.intro (fun F h => Option.some.inj (show some pf248 = some F from h) ▸ ok248) (
  And.intro (fun F h => Option.some.inj (show some pf249 = some F from h) ▸ ok249) (
  And.intro (fun F h => noneF (show (none : Option AF) = some F from h)) (
  And.intro (fun F h => Option.some.inj (show some pf251 = some F from h) ▸ ok251) (
  And.intro (fun F h => Option.some.inj (show some pf252 = some F from h) ▸ ok252) (
  And.intro (fun F h => Option.some.inj (show some pf253 = some F from h) ▸ ok253) (
  And.intro (fun F h => Option.some.inj (show some pf254 = some F from h) ▸ ok254) (
  And.intro (fun F h => Option.some.inj (show some pf255 = some F from h) ▸ ok255) (
  And.intro (fun F h => Option.some.inj (show some pf256 = some F from h) ▸ ok256) (
  And.intro (fun F h => noneF (show (none : Option AF) = some F from h)) (
  And.intro (fun F h => Option.some.inj (show some pf258 = some F from h) ▸ ok258) (
  And.intro (fun F h => Option.some.inj (show some pf15 = some F from h) ▸ ok15) (
  And.intro (fun F h => Option.some.inj (show some pf11 = some F from h) ▸ ok11) (
  And.intro (fun F h => noneF (show (none : Option AF) = some F from h)) (
  And.intro (fun F h => Option.some.inj (show some pf260 = some F from h) ▸ ok260) (
  And.intro (fun F h => Option.some.inj (show some pf261 = some F from h) ▸ ok261) (
  And.intro (fun F h => noneF (show (none : Option AF) = some F from h)) (
  And.intro (fun F h => noneF (show (none : Option AF) = some F from h)) (
  And.intro (fun F h => noneF (show (none : Option AF) = some F from h)) (
  And.intro (fun F h => noneF (show (none : Option AF) = some F from h)) (
  And.intro (fun F h => Option.some.inj (show some pf264 = some F from h) ▸ ok264) (
  And.intro (fun F h => Option.some.inj (show some pf29 = some F from h) ▸ ok29) (
  And.intro (fun F h => Option.some.inj (show some pf34 = some F from h) ▸ ok34) (
  And.intro (fun F h => Option.some.inj (show some pf30 = some F from h) ▸ ok30) (
  And.intro (fun F h => noneF (show (none : Option AF) = some F from h)) (
  And.intro (fun F h => noneF (show (none : Option AF) = some F from h)) (
  And.intro (fun F h => noneF (show (none : Option AF) = some F from h)) (
  And.intro (fun F h => Option.some.inj (show some pf266 = some F from h) ▸ ok266) (
  And.intro (fun F h => Option.some.inj (show some pf267 = some F from h) ▸ ok267) (
  And.intro (fun F h => Option.some.inj (show some pf21 = some F from h) ▸ ok21) (
  And.intro (fun F h => Option.some.inj (show some pf25 = some F from h) ▸ ok25) (
  And.intro (fun F h => noneF (show (none : Option AF) = some F from h)) (
  And.intro (fun F h => noneF (show (none : Option AF) = some F from h)) (
  And.intro (fun F h => Option.some.inj (show some pf213 = some F from h) ▸ ok213) (
  And.intro (fun F h => Option.some.inj (show some pf268 = some F from h) ▸ ok268) (
  And.intro (fun F h => Option.some.inj (show some pf269 = some F from h) ▸ ok269) (
  And.intro (fun F h => Option.some.inj (show some pf270 = some F from h) ▸ ok270) (
  And.intro (fun F h => Option.some.inj (show some pf271 = some F from h) ▸ ok271) (
  And.intro (fun F h => Option.some.inj (show some pf272 = some F from h) ▸ ok272) (
  And.intro (fun F h => Option.some.inj (show some pf273 = some F from h) ▸ ok273) (
  And.intro (fun F h => Option.some.inj (show some pf274 = some F from h) ▸ ok274) (
  And.intro (fun F h => Option.some.inj (show some pf275 = some F from h) ▸ ok275) (
  And.intro (fun F h => noneF (show (none : Option AF) = some F from h)) (
  And.intro (fun F h => noneF (show (none : Option AF) = some F from h)) (
  And.intro (fun F h => Option.some.inj (show some pf197 = some F from h) ▸ ok197) (
  And.intro (fun F h => Option.some.inj (show some pf36 = some F from h) ▸ ok36) (
  And.intro (fun F h => Option.some.inj (show some pf37 = some F from h) ▸ ok37) (
  And.intro (fun F h => Option.some.inj (show some pf39 = some F from h) ▸ ok39) (
  And.intro (fun F h => noneF (show (none : Option AF) = some F from h)) (
  And.intro (fun F h => Option.some.inj (show some pf224 = some F from h) ▸ ok224) (
  And.intro (fun F h => Option.some.inj (show some pf225 = some F from h) ▸ ok225) (
  And.intro (fun F h => Option.some.inj (show some pf219 = some F from h) ▸ ok219) (
  And.intro (fun F h => Option.some.inj (show some pf207 = some F from h) ▸ ok207) (
  And.intro (fun F h => Option.some.inj (show some pf276 = some F from h) ▸ ok276) (
  And.intro (fun F h => Option.some.inj (show some pf72 = some F from h) ▸ ok72) (
  And.intro (fun F h => Option.some.inj (show some pf47 = some F from h) ▸ ok47) (
  And.intro (fun F h => noneF (show (none : Option AF) = some F from h)) (
  And.intro (fun F h => noneF (show (none : Option AF) = some F from h)) (
  And.intro (fun F h => Option.some.inj (show some pf42 = some F from h) ▸ ok42) (
  And.intro (fun F h => Option.some.inj (show some pf43 = some F from h) ▸ ok43) (
  And.intro (fun F h => Option.some.inj (show some pf45 = some F from h) ▸ ok45) (
  And.intro (fun F h => Option.some.inj (show some pf236 = some F from h) ▸ ok236) (
  And.intro (fun F h => Option.some.inj (show some pf227 = some F from h) ▸ ok227) (
  And.intro (fun F h => Option.some.inj (show some pf228 = some F from h) ▸ ok228) (
  And.intro (fun F h => Option.some.inj (show some pf86 = some F from h) ▸ ok86) (
  And.intro (fun F h => Option.some.inj (show some pf229 = some F from h) ▸ ok229) (
  And.intro (fun F h => Option.some.inj (show some pf230 = some F from h) ▸ ok230) (
  And.intro (fun F h => Option.some.inj (show some pf231 = some F from h) ▸ ok231) (
  And.intro (fun F h => Option.some.inj (show some pf232 = some F from h) ▸ ok232) (
  And.intro (fun F h => Option.some.inj (show some pf233 = some F from h) ▸ ok233) (
  And.intro (fun F h => Option.some.inj (show some pf158 = some F from h) ▸ ok158) (
  And.intro (fun F h => Option.some.inj (show some pf220 = some F from h) ▸ ok220) (
  And.intro (fun F h => Option.some.inj (show some pf216 = some F from h) ▸ ok216) (
  And.intro (fun F h => Option.some.inj (show some pf76 = some F from h) ▸ ok76) (
  And.intro (fun F h => Option.some.inj (show some pf104 = some F from h) ▸ ok104) (
  And.intro (fun F h => noneF (show (none : Option AF) = some F from h)) (
  And.intro (fun F h => noneF (show (none : Option AF) = some F from h)) (
  And.intro (fun F h => noneF (show (none : Option AF) = some F from h)) (
  And.intro (fun F h => Option.some.inj (show some pf46 = some F from h) ▸ ok46) (
  And.intro (fun F h => Option.some.inj (show some pf237 = some F from h) ▸ ok237) (
  And.intro (fun F h => Option.some.inj (show some pf122 = some F from h) ▸ ok122) (
  And.intro (fun F h => Option.some.inj (show some pf123 = some F from h) ▸ ok123) (
  And.intro (fun F h => Option.some.inj (show some pf238 = some F from h) ▸ ok238) (
  And.intro (fun F h => Option.some.inj (show some pf239 = some F from h) ▸ ok239) (
  And.intro (fun F h => Option.some.inj (show some pf183 = some F from h) ▸ ok183) (
  And.intro (fun F h => Option.some.inj (show some pf82 = some F from h) ▸ ok82) (
  And.intro (fun F h => Option.some.inj (show some pf234 = some F from h) ▸ ok234) (
  And.intro (fun F h => Option.some.inj (show some pf154 = some F from h) ▸ ok154) (
  And.intro (fun F h => Option.some.inj (show some pf109 = some F from h) ▸ ok109) (
  And.intro (fun F h => Option.some.inj (show some pf126 = some F from h) ▸ ok126) (
  And.intro (fun F h => Option.some.inj (show some pf144 = some F from h) ▸ ok144) (
  And.intro (fun F h => Option.some.inj (show some pf111 = some F from h) ▸ ok111) (
  And.intro (fun F h => Option.some.inj (show some pf112 = some F from h) ▸ ok112) (
  And.intro (fun F h => Option.some.inj (show some pf113 = some F from h) ▸ ok113) (
  And.intro (fun F h => Option.some.inj (show some pf178 = some F from h) ▸ ok178) (
  And.intro (fun F h => Option.some.inj (show some pf145 = some F from h) ▸ ok145) (
  And.intro (fun F h => noneF (show (none : Option AF) = some F from h)) (
  And.intro (fun F h => noneF (show (none : Option AF) = some F from h)) (
  And.intro (fun F h => noneF (show (none : Option AF) = some F from h)) (
  And.intro (fun F h => noneF (show (none : Option AF) = some F from h)) (trivial)))))))))))))))))))))))))))))))))))))))))))))))))))))))))))))))))))))))))))))))))))))))))))))))))))))))))))))
theorem o48_ok : OracOk Try.prog X { fn := fnOf fns, orac := orc48 48 } := orc48_ok (f0 := 88) (fun f h => by have := fm_inv h; simpa [fms] using this) Try.func88 (by kernel_rfl) (by kernel_rfl) (by kernel_rfl) (by kernel_rfl)
theorem orac_ok : OracOk Try.prog X prog := orcQ_ok (orcB_ok o48_ok (f0 := 108) (fun f h => by have := fm_inv h; simpa [fms] using this) Try.func108 (by kernel_rfl) (by kernel_rfl) (by kernel_rfl) (by kernel_rfl)) (f0 := 20) (fun f h => by have := fm_inv h; simpa [fms] using this) words_enter
theorem orsB_ok : OracSOk Try.prog X prog := Go.AM.orsB_ok Try.lays169 Try.extraB (fun f h => by have := fm_inv h; have e : f = 87 := (by simpa [fms] using this); exact e) (by kernel_rfl) (by kernel_rfl) Try.func87 (by kernel_rfl) rfl
def tl : List Nat := [2, 3, 5, 9, 23]
theorem at_ : LawAt Try.prog X prog tl := ⟨tab_ok tys_ok, by kernel_rfl, prog_ok fns_ok.all rfl, orac_ok, orsB_ok, by
    intro t ht
    exact (show ∀ t ∈ tl, okTy X.T tl t = true by decide) t (by simpa using ht)⟩
set_option maxRecDepth 100000 in
theorem has : HasW prog := { f42 := by kernel_rfl, f46 := by kernel_rfl, f36 := by kernel_rfl, f43 := by kernel_rfl, f47 := by kernel_rfl, f11 := by kernel_rfl, f15 := by kernel_rfl, f21 := by kernel_rfl, f25 := by kernel_rfl, f30 := by kernel_rfl, f34 := by kernel_rfl, f37 := by kernel_rfl, f39 := by kernel_rfl, f45 := by kernel_rfl, f29 := by kernel_rfl, f197 := by kernel_rfl, f243 := by kernel_rfl, f245 := by kernel_rfl, f247 := by kernel_rfl, f248 := by kernel_rfl, f258 := by kernel_rfl, f260 := by kernel_rfl, f261 := by kernel_rfl, f266 := by kernel_rfl, f267 := by kernel_rfl, f145 := by kernel_rfl, f126 := by kernel_rfl, f72 := by kernel_rfl, f76 := by kernel_rfl, f104 := by kernel_rfl, f109 := by kernel_rfl, f154 := by kernel_rfl, f158 := by kernel_rfl, f178 := by kernel_rfl, f183 := by kernel_rfl, f169 := by kernel_rfl, f82 := by kernel_rfl, f86 := by kernel_rfl, f111 := by kernel_rfl, f112 := by kernel_rfl, f113 := by kernel_rfl, f122 := by kernel_rfl, f123 := by kernel_rfl, f144 := by kernel_rfl, f207 := by kernel_rfl, f213 := by kernel_rfl, f216 := by kernel_rfl, f219 := by kernel_rfl, f220 := by kernel_rfl, f224 := by kernel_rfl, f225 := by kernel_rfl, f227 := by kernel_rfl, f228 := by kernel_rfl, f229 := by kernel_rfl, f230 := by kernel_rfl, f231 := by kernel_rfl, f232 := by kernel_rfl, f233 := by kernel_rfl, f234 := by kernel_rfl, f236 := by kernel_rfl, f237 := by kernel_rfl, f238 := by kernel_rfl, f239 := by kernel_rfl, f264 := by kernel_rfl, f268 := by kernel_rfl, f269 := by kernel_rfl, f270 := by kernel_rfl, f271 := by kernel_rfl, f272 := by kernel_rfl, f273 := by kernel_rfl, f274 := by kernel_rfl, f275 := by kernel_rfl, f276 := by kernel_rfl, f249 := by kernel_rfl, f251 := by kernel_rfl, f252 := by kernel_rfl, f253 := by kernel_rfl, f254 := by kernel_rfl, f255 := by kernel_rfl, f256 := by kernel_rfl, f48 := rfl, o48 := orcQ_48, f257 := rfl, o257 := orcQ_257, f146 := rfl, f105 := rfl, o146 := orcQ_146, o105 := orcQ_105, s105 := orsB_105 }
theorem own : ownKnob Try.prog.godebug = none := by kernel_rfl
theorem laidOut : laidOutB Try.prog = true := by kernel_rfl
theorem typed (avs : List AV) (h : ArgsOk X.T [23, 9] avs) : Pus prog 242 avs (.b true) := by
  match avs, h with
  | [a, b], ⟨h1, h2, _⟩ =>
    obtain ⟨q, rfl, hq⟩ := ArgOk.isQry tyQry h1
    obtain ⟨s, rfl, _⟩ := ArgOk.str (i := _) rfl rfl h2
    exact law242 has rfl hq.key

set_option maxRecDepth 100000 in
theorem lifted (os : Os) (started : os.Started) (H : Type) (enc : TypeId × Value → H) :
    ReturnsInHanded {} Try.checked os 5 .any (Rows.queryBackSpec.pre6 enc Try.prog Try.f5 Rows.queryBackRow.domain false) (Rows.queryBackSpec.post enc Try.prog Try.f5 false true false false) := by
  refine returnsInHanded_of_change (C := Try.checked) own started (by kernel_rfl) Try.func5
    (ChangeSpec.witness6 (enc := enc) (C := Try.checked) false ⟨#[], #[.agg #[.int .u8 0, .int .i64 0, .int .i64 0, .int .i64 0, .string ⟨#[]⟩], .string ⟨#[]⟩], []⟩ 8 (by kernel_rfl) (by kernel_rfl) (by kernel_rfl) (by kernel_rfl)) ?_
  intro W base args ds gs before hval0 hW hcnd _
  have hval : ∀ (j : Nat) t v, Try.f5.params[j]? = some t → args[j]? = some v → Value.okWide Try.prog W .any base t v := hval0
  have hW' := hW
  obtain ⟨p, q, hA0, hV, rfl, hfz, hnd⟩ := hW
  have hA : DataW.TrodAll enc Try.prog W 0 (fun _ => true) true Try.f5.params.toList args.toList ds p := hA0
  rw [Try.params5] at hA hval
  obtain ⟨rfl, rfl⟩ := trodVars_none hV
  obtain ⟨avs, hR, hok⟩ := args_read at_.T at_.types (ts := [23, 9]) (by decide) (fun j t v h1 h2 => hval j t v (by simpa using h1) (by simpa using h2)) hA
  have hlt := args_lt hA
  have hlen := trod_len hA
  refine (law_calls at_ (f := 5) (c := 242) rfl (ok242.enters _ _) hR (typed avs hok)).mono fun e W' ⟨he, bel⟩ => ?_
  subst he
  have hB := args_below laidOut bel (by kernel_rfl) hA hlt
  obtain ⟨d0, d1, rfl⟩ := ds2 hlen
  exact ⟨_, rfl, _, _, _, [], _, [], hW', trodAll_mk1 (shut_bool Try.underlying4 _), hB, rfl, bel.frame _, fun h => by cases h⟩

theorem over : Rows.queryBackRow.holds Try.pinned (OpenSpec.ofChange Rows.queryBackSpec) :=
  OpenClaim.holds_of_wide 5 Try.f5 rfl rfl rfl rfl rfl rfl rfl ⟨rfl, rfl, rfl, rfl, rfl⟩ rfl rfl rfl rfl rfl (by kernel_rfl) Try.func5 (by kernel_rfl)
    (of_decide_eq_true (by kernel_rfl)) (by unfold Func.isWrapper; rw [if_neg (of_decide_eq_false (by kernel_rfl))]; exact ⟨rfl, rfl⟩)
    (fun os started H enc _ => lifted os started H enc)

/-- The statement. -/
theorem proved : Rows.QueryBackSaid := over
#print axioms proved
end Go.Proofs.Ytbcdfamilcmjnaa.QueryBackProof
