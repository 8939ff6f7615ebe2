/- Parts of the proof: C38d, C38e, C38f, C38g, C39, C39b, C39c, V39c, C39d, C39e, C39f, Pk, Rh, Ri, Rj, Rk, Rl, Rm, K39r. -/
import Derived.Test.YtffbkdcgkhbpoaaG5
import Derived.Test.YtffbkdcgkhbpoaaG4
import Derived.Test.YtffbkdcgkhbpoaaG2
import Derived.LoopNIn
import Derived.Test.YtffbkdcgkhbpoaaRows
import Derived.Test.YtffbkdcgkhbpoaaG3
import Derived.Shelf.Strings.Builder1
import Derived.Shelf.Strings.Count
set_option linter.all false
namespace Go.AM
open Go
theorem txts_app (l m : List Val) : txts (l ++ m) = txts l ++ (if l.length = 0 then txts m else txtl m) := by
  cases l with
  | nil => simp [txts]
  | cons a l => simp [txts, txtl_app]
theorem txts_take_len (l : List Val) (i : Nat) : (txts (l.take i)).length ≤ (txts l).length := by
  have := txts_app (l.take i) (l.drop i)
  rw [List.take_append_drop] at this
  rw [this, List.length_append]
  omega
theorem quoR_ok {s : Bytes} (h : s.length ≤ 400) : quoR s = (quo s, 0) := by
  unfold quoR
  rw [if_neg (by omega)]
section
variable {prog : Prog} (H : Has38 prog)
include H
theorem show_loop {K : Int → Bytes → Prop} {l : List Val} {e0 e1 : UInt8} {b : Bytes} (hl : l.length ≤ 16) (hx : ∀ x ∈ l, ∀ b : Bytes, b.length + (txt x).length ≤ 100000000 → PuX prog 104 (Bl b) [x.av] (fun r => r = .i .i64 0) (Bl (b ++ txt x)))
    (hb : b.length + (txts l).length + 2 ≤ 100000000) (hK : K 0 (b ++ [e0] ++ txts l ++ [e1])) : ∀ P0 : Int → Bytes → Prop, (∀ (t22 : Int) (mP : Bytes), T104_9 prog K P0 [e0, e1] l (l.length : Int) t22 mP → P0 t22 mP) → P0 0 (b ++ [e0]) := by
  intro P hP
  have := loop_up (P := fun m i => P i m) (fun i => b ++ [e0] ++ txts (l.take i)) l.length ?_ fun i hi ihP => ?_
  · simpa [txts] using this
  · apply hP
    unfold T104_9 T104_11 T104_4
    rw [List.take_length]
    refine ⟨fun h => absurd h (by omega), fun _ => ⟨by simp, _, _, c126 H.toHasB (s := [e1]) ?_, hK⟩⟩
    rw [maxBytes_eq]; simp only [List.length_append, List.length_cons, List.length_nil]; omega
  · apply hP
    have h1 := txts_take_len l (i + 1)
    rw [txts_take hi] at h1 ihP
    simp only [List.length_append] at h1
    unfold T104_9 T104_10
    refine ⟨fun _ => ⟨by omega, _, get_at hi, fun h2 => ?_, fun h2 => ?_⟩, fun h => absurd (show (i : Int) < l.length by omega) h⟩
    · rw [if_pos (by omega)] at h1 ihP
      refine ⟨_, _, c126 H.toHasB (s := [44, 32]) ?_, _, _, hx _ (List.getElem_mem hi) _ ?_, fun h => absurd rfl h, fun _ => ?_⟩
      · rw [maxBytes_eq]; simp only [List.length_append, List.length_cons, List.length_nil]; omega
      · simp only [List.length_append, List.length_cons, List.length_nil] at h1 ⊢; omega
      · rw [wr_succ (by omega)]
        simpa using ihP
    · rw [if_neg (by omega)] at h1 ihP
      refine ⟨_, _, hx _ (List.getElem_mem hi) _ ?_, fun h => absurd rfl h, fun _ => ?_⟩
      · simp only [List.length_append, List.length_cons, List.length_nil] at h1 ⊢; omega
      · rw [wr_succ (by omega)]
        simpa using ihP
set_option maxHeartbeats 1000000 in
theorem c104 : ∀ (d : Nat) {v : Val}, okv d v = true → Wf v → ∀ b : Bytes, b.length + (txt v).length ≤ 100000000 → PuX prog 104 (Bl b) [v.av] (fun r => r = .i .i64 0) (Bl (b ++ txt v))
  | 0, v, h, _, _, _ => by cases h
  | d + 1, v, h, hw, b, hlen => by
    have h1 := okv_head h
    have h2 := okv_sub h
    have ih : ∀ x ∈ v.list, ∀ b : Bytes, b.length + (txt x).length ≤ 100000000 → PuX prog 104 (Bl b) [x.av] (fun r => r = .i .i64 0) (Bl (b ++ txt x)) := fun x hx b hb => c104 d (h2 _ hx) (hw.e _ hx) b hb
    refine (p104 H.f104 (v1 := v) (mP := b) (K := fun r b' => r = 0 ∧ b' = b ++ txt v) ?_).to fun r b' hk => ?_
    · have hB : ∀ {s : Bytes} {a : Int}, (txt v) = s → ∃ r' : Int, ∃ b'' : Bytes, PuX prog 126 (Bl b) [.s s] (fun r => r = .tup [.i .i64 r', .ni]) (Bl b'') ∧ T104_4 prog (fun r b' => r = 0 ∧ b' = b ++ txt v) b'' := by
        intro s a hs
        refine ⟨_, _, c126 H.toHasB (s := s) ?_ (hs ▸ txt_ne v), ?_⟩
        · rw [← hs, maxBytes_eq]; omega
        · unfold T104_4; rw [hs]; exact ⟨rfl, rfl⟩
      have hk : 1 ≤ v.kind ∧ v.kind ≤ 7 := by unfold Val.okh Okh at h1; omega
      have hn := hw.n
      rw [txt_eq] at hlen
      have ht := txt_eq v
      unfold T104_0 T104_1
      refine ⟨by omega, ?_⟩
      have hkk : v.kind = 1 ∨ v.kind = 2 ∨ v.kind = 3 ∨ v.kind = 4 ∨ v.kind = 5 ∨ v.kind = 6 ∨ v.kind = 7 := by omega
      rcases hkk with k | k | k | k | k | k | k
      all_goals rw [k]
      all_goals simp only [k, if_true, reduceCtorEq, if_false, Int.reduceEq] at ht hlen
      · refine ⟨[], rfl, ?_⟩
        unfold T104_2 T104_3 T104_5
        rw [k]
        refine ⟨fun _ => ⟨fun h => hB (a := 0) ?_, fun h => ⟨fun _ => hB (a := 0) ?_, fun h => by simp at h⟩⟩, fun h => absurd rfl h⟩
        · rw [ht, if_pos (by simpa using h)]; rfl
        · rw [ht, if_neg (by simpa using h)]; rfl
      · refine ⟨[], rfl, ?_⟩
        unfold T104_2 T104_3 T104_5 T104_6
        rw [k]
        refine ⟨fun h => absurd h (by decide), fun _ => ⟨fun h => (by cases h), fun _ => ⟨fun h => (by simp at h), fun _ => ⟨fun _ => ⟨_, c15 H.toHas03 hn.1 hn.2, hB (a := 0) ht⟩, fun h => by simp at h⟩⟩⟩⟩
      · refine ⟨[], rfl, ?_⟩
        unfold T104_2 T104_3 T104_5 T104_6 T104_7
        rw [k]
        refine ⟨fun h => absurd h (by decide), fun _ => ⟨fun h => (by cases h), fun _ => ⟨fun h => (by simp at h), fun _ => ⟨fun h => (by simp at h), fun _ => ⟨fun _ => ⟨_, _, c11 H.toHas03 v.text, ?_⟩, fun h => by simp at h⟩⟩⟩⟩⟩
        rw [quoR_ok (by unfold Val.okh Okh at h1; omega)]
        refine ⟨_, _, c126 H.toHasB (s := quo v.text) ?_, rfl, ?_⟩
        · rw [maxBytes_eq]; omega
        · rw [ht]
      · refine ⟨[], rfl, ?_⟩
        unfold T104_2 T104_3 T104_5 T104_6 T104_7 T104_8
        rw [k]
        refine ⟨fun h => absurd h (by decide), fun _ => ⟨fun h => (by cases h), fun _ => ⟨fun h => (by simp at h), fun _ => ⟨fun h => (by simp at h), fun _ => ⟨fun h => (by simp at h), fun _ => ⟨fun _ => ⟨fun hc => hB (a := 0) ?_, fun hc => ⟨fun _ => ⟨fun hl => hB (a := 0) ?_, fun hl => ⟨fun _ => ?_, fun h => absurd rfl h⟩⟩, fun h => absurd rfl h⟩⟩, fun h => absurd rfl h⟩⟩⟩⟩⟩⟩
        · rw [ht, if_pos hc]; rfl
        · rw [ht, if_neg (by rw [hc]; decide), if_pos (by omega)]; rfl
        · rw [if_neg (by rw [hc]; decide), if_neg (by omega)] at ht hlen
          have hl1 : v.list.length = 1 := by unfold Val.okh Okh at h1; omega
          obtain ⟨w, hw1⟩ := List.length_eq_one_iff.1 hl1
          rw [hw1, txts_one] at hlen ht
          simp only [List.length_cons] at hlen
          refine ⟨_, _, c126 H.toHasB (s := [38]) ?_, w, by rw [hw1]; rfl, _, _, ih w (by rw [hw1]; exact List.mem_cons_self) _ ?_, rfl, ?_⟩
          · rw [maxBytes_eq]; simp only [List.length_cons, List.length_nil]; omega
          · simp only [List.length_append, List.length_cons, List.length_nil]; omega
          · rw [ht]; simp
      · have hc : v.cut = false := by
          have : v.cut.toNat = 0 := by unfold Val.okh Okh at h1; omega
          cases hc : v.cut
          · rfl
          · rw [hc] at this; cases this
        refine ⟨[123, 125], rfl, ?_⟩
        unfold T104_2 T104_3 T104_5 T104_6 T104_7 T104_8
        rw [k]
        refine ⟨fun h => absurd h (by decide), fun _ => ⟨fun h => (by cases h), fun _ => ⟨fun h => (by simp at h), fun _ => ⟨fun h => (by simp at h), fun _ => ⟨fun h => (by simp at h), fun _ => ⟨fun h => absurd h (by decide), fun _ => ⟨fun h => (by cases h), fun _ => ⟨fun h => absurd h (by decide), fun _ => ⟨fun h => absurd h (by decide), fun _ => ⟨fun h => (by rw [hc] at h; cases h), fun _ => ⟨by decide, _, _, c126 H.toHasB (s := [123]) ?_, ?_⟩⟩⟩⟩⟩⟩⟩⟩⟩⟩⟩
        · rw [maxBytes_eq]; simp only [List.length_cons, List.length_nil, List.length_append] at hlen ⊢; omega
        · simp only [List.length_cons, List.length_nil, List.length_append] at hlen
          exact show_loop H (by unfold Val.okh Okh at h1; omega) ih (by omega) ⟨rfl, by rw [ht]; simp⟩
      · have hc : v.cut = false := by
          have : v.cut.toNat = 0 := by unfold Val.okh Okh at h1; omega
          cases hc : v.cut
          · rfl
          · rw [hc] at this; cases this
        refine ⟨[91, 93], rfl, ?_⟩
        unfold T104_2 T104_3 T104_5 T104_6 T104_7 T104_8
        rw [k]
        refine ⟨fun h => absurd h (by decide), fun _ => ⟨fun h => (by cases h), fun _ => ⟨fun h => (by simp at h), fun _ => ⟨fun h => (by simp at h), fun _ => ⟨fun h => (by simp at h), fun _ => ⟨fun h => absurd h (by decide), fun _ => ⟨fun h => (by cases h), fun _ => ⟨fun h => absurd h (by decide), fun _ => ⟨fun h => absurd h (by decide), fun _ => ⟨fun h => (by rw [hc] at h; cases h), fun _ => ⟨by decide, _, _, c126 H.toHasB (s := [91]) ?_, ?_⟩⟩⟩⟩⟩⟩⟩⟩⟩⟩⟩
        · rw [maxBytes_eq]; simp only [List.length_cons, List.length_nil, List.length_append] at hlen ⊢; omega
        · simp only [List.length_cons, List.length_nil, List.length_append] at hlen
          exact show_loop H (by unfold Val.okh Okh at h1; omega) ih (by omega) ⟨rfl, by rw [ht]; simp⟩
      · refine ⟨[60, 62], rfl, ?_⟩
        unfold T104_2 T104_3 T104_5 T104_6 T104_7 T104_8
        rw [k]
        refine ⟨fun h => absurd h (by decide), fun _ => ⟨fun h => (by cases h), fun _ => ⟨fun h => (by simp at h), fun _ => ⟨fun h => (by simp at h), fun _ => ⟨fun h => (by simp at h), fun _ => ⟨fun h => absurd h (by decide), fun _ => ⟨fun h => (by cases h), fun _ => ⟨fun h => absurd h (by decide), fun _ => ⟨fun h => absurd h (by decide), fun _ => ⟨fun hc => hB (a := 0) ?_, fun hc => ⟨by decide, _, _, c126 H.toHasB (s := [60]) ?_, ?_⟩⟩⟩⟩⟩⟩⟩⟩⟩⟩⟩
        · rw [ht, if_pos hc]; rfl
        · rw [if_neg (by rw [hc]; decide)] at hlen
          rw [maxBytes_eq]; simp only [List.length_cons, List.length_nil, List.length_append] at hlen ⊢; omega
        · rw [if_neg (by rw [hc]; decide)] at hlen ht
          simp only [List.length_cons, List.length_nil, List.length_append] at hlen
          exact show_loop H (by unfold Val.okh Okh at h1; omega) ih (by omega) ⟨rfl, by rw [ht]; simp⟩
    · obtain ⟨x0, h1, rfl, rfl⟩ := hk
      exact ⟨h1, rfl⟩
theorem c72 {v : Val} (hw : Wf v) : Pus prog 72 [v.av] (.tup [.s (if fine v = true then txt v else []), .i .i64 (chkR v)]) := by
  obtain ⟨x, y, ⟨rfl, rfl⟩, h⟩ := p72 H.f72 (v0 := v) (K := fun x y => x = (if fine v = true then txt v else []) ∧ y = chkR v) (by
    unfold T72_0
    refine ⟨_, c76 H hw, fun h => ?_, fun h => ?_⟩
    · unfold chkR at h ⊢
      by_cases hf : fine v = true
      · rw [if_pos hf] at h; exact absurd rfl h
      · rw [if_neg hf, if_neg hf]; exact ⟨rfl, rfl⟩
    · unfold chkR at h ⊢
      by_cases hf : fine v = true
      · rw [if_pos hf, if_pos hf]
        have := fine_len hf
        refine ⟨_, _, c104 H 130 (fine_ok hf).1 hw [] (by simp only [List.length_nil]; omega), fun h => absurd rfl h, fun _ => ⟨_, c105 H.toHasB (by rw [List.nil_append, maxBytes_eq]; omega), rfl, rfl⟩⟩
      · rw [if_neg hf] at h; exact absurd (by decide) h)
  exact h
end
end Go.AM

namespace Go.AM
open Go
theorem digN_lt : ∀ {s : Bytes} {i : Nat}, i < digN s → ∃ c, s[i]? = some c ∧ isD c = true
  | [], i, h => absurd h (Nat.not_lt_zero _)
  | c :: s, 0, h => by
    rw [digN] at h
    split at h
    · rename_i hc; exact ⟨c, rfl, hc⟩
    · exact absurd h (Nat.not_lt_zero _)
  | c :: s, i + 1, h => by
    rw [digN] at h
    split at h
    · exact digN_lt (s := s) (i := i) (by omega)
    · exact absurd h (Nat.not_lt_zero _)
theorem digN_stop : ∀ {s : Bytes} {c : UInt8}, s[digN s]? = some c → isD c = false
  | [], c, h => by cases h
  | x :: s, c, h => by
    rw [digN] at h
    split at h
    · rw [Nat.add_comm, List.getElem?_cons_succ] at h
      exact digN_stop h
    · rename_i hx
      rw [List.getElem?_cons_zero] at h
      injection h with h
      subst h
      simpa using hx
theorem numN_lt {s : Bytes} {i : Nat} (h : i < numN s) : ∃ c, s[i]? = some c ∧ (isD c = true ∨ (i = 0 ∧ c = 45)) := by
  unfold numN at h
  split at h
  · rename_i h1
    cases s with
    | nil => cases h1
    | cons x s =>
      injection h1 with h1
      subst h1
      cases i with
      | zero => exact ⟨45, rfl, .inr ⟨rfl, rfl⟩⟩
      | succ i =>
        obtain ⟨c, h2, h3⟩ := digN_lt (s := s) (i := i) (by simp only [List.drop_succ_cons, List.drop_zero] at h; omega)
        exact ⟨c, h2, .inl h3⟩
  · obtain ⟨c, h2, h3⟩ := digN_lt h
    exact ⟨c, h2, .inl h3⟩
theorem numN_stop {s : Bytes} {c : UInt8} (h : s[numN s]? = some c) : isD c = false ∧ (numN s = 0 → c ≠ 45) := by
  unfold numN at *
  split at h
  · rename_i h1
    rw [if_pos h1]
    cases s with
    | nil => cases h1
    | cons x s =>
      simp only [List.drop_succ_cons, List.drop_zero] at h ⊢
      rw [Nat.add_comm, List.getElem?_cons_succ] at h
      exact ⟨digN_stop h, fun h => absurd h (by omega)⟩
  · rename_i h1
    rw [if_neg h1]
    refine ⟨digN_stop h, fun h2 => ?_⟩
    rw [h2] at h
    rintro rfl
    exact h1 (by rw [List.head?_eq_getElem?]; exact h)
theorem isD_iff {c : UInt8} : isD c = true ↔ 48 ≤ c.toNat ∧ c.toNat ≤ 57 := by unfold isD; simp
theorem isD_not {c : UInt8} : isD c = false ↔ ¬(48 ≤ c.toNat ∧ c.toNat ≤ 57) := by rw [← isD_iff]; simp
theorem qs_nil : qs [] = none := rfl
theorem qs_esc0 : qs [92] = none := rfl
theorem qs_esc (x : UInt8) (r : Bytes) : qs (92 :: x :: r) = (qs r).map (· + 2) := rfl
theorem qs_end (r : Bytes) : qs (34 :: r) = some 1 := by rw [qs.eq_def]; rfl
theorem qs_go {c : UInt8} (h1 : ¬c = 92) (h2 : ¬c = 34) (r : Bytes) : qs (c :: r) = (qs r).map (· + 1) := by
  rw [qs.eq_def]
  simp only [if_neg h1, if_neg h2]
theorem u8_45 {c : UInt8} : c = 45 ↔ c.toNat = 45 := ⟨fun h => by rw [h]; rfl, fun h => u8_eq h⟩
section
variable {prog : Prog} (H : Has38 prog)
include H
theorem c128 (p s : Bytes) : PuX prog 128 (Bx [.s s]) [.s p] (fun r => r = .b (cutp p s).2) (Bx [.s (cutp p s).1]) := by
  refine (p128 H.f128 (what1 := p) (mP := ⟨s⟩) (K := fun r b => r = (cutp p s).2 ∧ b = ⟨(cutp p s).1⟩) ?_).to (b := ⟨(cutp p s).1⟩) fun r b' hk => ?_
  · unfold T128_0
    exact ⟨_, _, c36 H.toHas03 s p, rfl, rfl⟩
  · obtain ⟨x0, h1, rfl, rfl⟩ := hk
    exact ⟨h1, rfl⟩
theorem c131 {s : Bytes} (hs : s.length ≤ 1000000000) : PuX prog 131 (Bx [.s s]) [] (fun r => r = .tup [.i .i64 (scNum s).1, .b (scNum s).2.1]) (Bx [.s (scNum s).2.2]) := by
  refine (p131 H.f131 (mP := ⟨s⟩) (K := fun x y b => x = (scNum s).1 ∧ y = (scNum s).2.1 ∧ b = ⟨(scNum s).2.2⟩) ?_).to (b := ⟨(scNum s).2.2⟩) fun r b' hk => ?_
  · unfold T131_0 T131_1
    intro P hP
    have hle := numN_le s
    refine loop_up0 (P := fun i => P i ⟨s⟩) (numN s) ?_ fun i hi ih => ?_
    · apply hP
      unfold T131_2
      have fin : 0 ≤ ((numN s : Nat) : Int) ∧ ((numN s : Nat) : Int).toNat ≤ s.length ∧ ∃ r : Int, ∃ r' : Int, Pus prog 21 [.s (s.take ((numN s : Nat) : Int).toNat)] (.tup [.i .i64 r, .i .i64 r']) ∧ 0 ≤ ((numN s : Nat) : Int) ∧ ((numN s : Nat) : Int).toNat ≤ s.length ∧ r = (scNum s).1 ∧ (decide (r' = 0)) = (scNum s).2.1 ∧ Sc.mk (s.drop ((numN s : Nat) : Int).toNat) = ⟨(scNum s).2.2⟩ := by
        rw [toNat_cast]
        exact ⟨by omega, hle, _, _, c21 H.toHas03 _, by omega, hle, rfl, rfl, rfl⟩
      refine ⟨fun h => ?_, fun _ => fin⟩
      have hlt : numN s < s.length := by simp only at h; omega
      obtain ⟨h1, h2⟩ := numN_stop (List.getElem?_eq_getElem hlt)
      have h1 := isD_not.1 h1
      have h2 : numN s = 0 → ¬(s[numN s].toNat = 45) := fun h => fun h' => h2 h (u8_45.2 h')
      refine ⟨by omega, s[numN s], get_at hlt, fun h3 => ⟨by omega, s[numN s], get_at hlt, fun h4 => absurd ⟨by omega, by omega⟩ h1, fun h4 => ⟨fun h5 => ⟨by omega, s[numN s], get_at hlt, fun h6 => absurd (show s[numN s].toNat = 45 by omega) (h2 (by omega)), fun _ => fin⟩, fun _ => fin⟩⟩,
        fun h3 => ⟨fun h5 => ⟨by omega, s[numN s], get_at hlt, fun h6 => absurd (show s[numN s].toNat = 45 by omega) (h2 (by omega)), fun _ => fin⟩, fun _ => fin⟩⟩
    · apply hP
      obtain ⟨c, hc, hd⟩ := numN_lt hi
      have hc' : s[((i : Nat) : Int).toNat]? = some c := hc
      rw [isD_iff, u8_45] at hd
      have ih' : P (IntKind.i64.wrap ((i : Int) + 1)) ⟨s⟩ := by rw [wr_succ (by omega)]; exact ih
      unfold T131_2
      refine ⟨fun _ => ⟨by omega, c, hc', fun h3 => ⟨by omega, c, hc', fun _ => ih', fun h4 => ⟨fun h5 => ⟨by omega, c, hc', fun _ => ih', fun h6 => absurd h6 (by omega)⟩, fun h5 => absurd h5 (by omega)⟩⟩,
        fun h3 => ⟨fun h5 => ⟨by omega, c, hc', fun _ => ih', fun h6 => absurd h6 (by omega)⟩, fun h5 => absurd h5 (by omega)⟩⟩, fun h => absurd (show (i : Int) < s.length by omega) h⟩
  · obtain ⟨x0, x1, h1, rfl, rfl, rfl⟩ := hk
    exact ⟨h1, rfl⟩
theorem c130 {s : Bytes} (hs : s.length ≤ 1000000000) : PuX prog 130 (Bx [.s s]) [] (fun r => r = .tup [.s (scQ s).1, .b (scQ s).2.1]) (Bx [.s (scQ s).2.2]) := by
  refine (p130 H.f130 (mP := ⟨s⟩) (K := fun x y b => x = (scQ s).1 ∧ y = (scQ s).2.1 ∧ b = ⟨(scQ s).2.2⟩) ?_).to (b := ⟨(scQ s).2.2⟩) fun r b' hk => ?_
  · unfold T130_0 T130_1
    intro P hP
    have go : ∀ m i : Nat, s.length ≤ i + m → i ≤ s.length + 1 → 1 ≤ i → qs (s.drop 1) = (qs (s.drop i)).map (· + (i - 1)) → P (i : Int) ⟨s⟩ := by
      intro m
      induction m using Nat.strongRecOn with
      | _ m ih =>
      intro i hm hi h1 hq
      apply hP
      unfold T130_2
      refine ⟨fun h => ?_, fun h => ?_⟩
      · have : s.drop i = [] := List.drop_eq_nil_of_le (by simp only at h; omega)
        rw [this, qs_nil, Option.map_none] at hq
        unfold scQ
        rw [hq]
        exact ⟨rfl, rfl, rfl⟩
      · have hlt : i < s.length := by simp only at h; omega
        have hd : s.drop i = s[i] :: s.drop (i + 1) := List.drop_eq_getElem_cons hlt
        refine ⟨by omega, s[i], get_at hlt, fun h2 => ?_, fun h2 => ⟨by omega, s[i], get_at hlt, fun h3 => ?_, fun h3 => ?_⟩⟩
        · rw [wr_i64 (by omega) (by omega), show (i : Int) + 2 = ((i + 2 : Nat) : Int) by omega]
          have hc : s[i] = 92 := u8_eq (by show s[i].toNat = 92; omega)
          rw [hd, hc] at hq
          by_cases hl : i + 1 < s.length
          · have hd2 : s.drop (i + 1) = s[i + 1] :: s.drop (i + 2) := List.drop_eq_getElem_cons hl
            refine ih (m - 2) (by omega) (i + 2) (by omega) (by omega) (by omega) ?_
            rw [hd2, qs_esc, Option.map_map] at hq
            rw [hq]
            congr 1
            funext x
            simp only [Function.comp]
            omega
          · have hd2 : s.drop (i + 1) = [] := List.drop_eq_nil_of_le (by omega)
            refine ih (m - 1) (by omega) (i + 2) (by omega) (by omega) (by omega) ?_
            rw [hd2, qs_esc0] at hq
            rw [hq, List.drop_eq_nil_of_le (show s.length ≤ i + 2 by omega), qs_nil]
            rfl
        · rw [wr_succ (by omega)]
          have hc : ¬s[i] = 92 := fun e => h2 (by rw [e]; rfl)
          have hc' : ¬s[i] = 34 := fun e => h3 (by rw [e]; rfl)
          rw [hd, qs_go hc hc', Option.map_map] at hq
          refine ih (m - 1) (by omega) (i + 1) (by omega) (by omega) (by omega) ?_
          rw [hq]
          congr 1
          funext x
          simp only [Function.comp]
          omega
        · rw [wr_succ (by omega), toNat_cast]
          have hc : s[i] = 34 := u8_eq (by show s[i].toNat = 34; simp only [ne_eq, Decidable.not_not] at h3; omega)
          rw [hd, hc, qs_end, Option.map_some] at hq
          have e : 1 + (i - 1) + 1 = i + 1 := by omega
          refine ⟨by omega, by show i + 1 ≤ s.length; omega, _, _, c25 H.toHas03 _, by omega, by show i + 1 ≤ s.length; omega, ?_⟩
          unfold scQ
          rw [hq]
          simp [e]
    exact go s.length 1 (by omega) (by omega) (by omega) (by simp)
  · obtain ⟨x0, x1, h1, rfl, rfl, rfl⟩ := hk
    exact ⟨h1, rfl⟩
end
end Go.AM

namespace Go.AM
open Go
theorem scNum_len (s : Bytes) : (scNum s).2.2.length ≤ s.length := by unfold scNum; simp
theorem scQ_len (s : Bytes) : (scQ s).2.2.length ≤ s.length := by
  unfold scQ
  split <;> simp
theorem cutp_len (p s : Bytes) : (cutp p s).1.length ≤ s.length := by
  unfold cutp
  split <;> simp
section
variable {f : Bytes → Val × Bool × Bytes}
theorem scG_len {kind : Int} {stop : Bytes} (hf : ∀ s, (f s).2.2.length ≤ s.length) : ∀ (n : Nat) (acc : List Val) (s : Bytes), (scG f kind stop n acc s).2.2.length ≤ s.length
  | 0, acc, s => Nat.le_refl _
  | n + 1, acc, s => by
    have h1 := hf s
    have h2 := cutp_len stop (f s).2.2
    have h3 := cutp_len [44, 32] (cutp stop (f s).2.2).1
    rw [scG]
    split
    · exact h1
    · split
      · exact Nat.le_trans h2 h1
      · split
        · exact Nat.le_trans h3 (Nat.le_trans h2 h1)
        · exact Nat.le_trans (scG_len hf n _ _) (Nat.le_trans h3 (Nat.le_trans h2 h1))
theorem scL_len {kind : Int} {stop s : Bytes} (hf : ∀ s, (f s).2.2.length ≤ s.length) : (scL f kind stop s).2.2.length ≤ s.length := by
  unfold scL
  split
  · exact cutp_len _ _
  · exact Nat.le_trans (scG_len hf 17 [] _) (cutp_len _ _)
theorem len_ite {c : Prop} [Decidable c] {a b : Val × Bool × Bytes} {n : Nat} (ha : a.2.2.length ≤ n) (hb : b.2.2.length ≤ n) : (if c then a else b).2.2.length ≤ n := by
  split
  · exact ha
  · exact hb
theorem scV_len : ∀ (d : Nat) (s : Bytes), (scV d s).2.2.length ≤ s.length
  | 0, s => Nat.le_refl _
  | d + 1, s => by
    have ih := scV_len d
    rw [scV]
    exact len_ite (Nat.le_refl _) (len_ite (cutp_len _ _) (len_ite (cutp_len _ _) (len_ite (cutp_len _ _) (len_ite (cutp_len _ _) (len_ite (cutp_len _ _) (len_ite (Nat.le_trans (ih _) (cutp_len _ _)) (len_ite (Nat.le_trans (scL_len ih) (cutp_len _ _))
      (len_ite (Nat.le_trans (scL_len ih) (cutp_len _ _)) (len_ite (Nat.le_trans (scL_len ih) (cutp_len _ _)) (len_ite (scQ_len _) (scNum_len _)))))))))))
end
section
variable {prog : Prog} (H : Has38 prog)
include H
abbrev ScR (r : Val × Bool × Bytes) : AV → Prop := fun x => ∃ o : Own, x = .tup [.ag [.i .u8 r.1.kind, .i .i64 r.1.int, .s r.1.text, .sl o (List.map Val.row r.1.list), .b r.1.cut], .b r.2.1]
theorem c129 {f : Bytes → Val × Bool × Bytes} {d : Nat} (hf : ∀ s, (f s).2.2.length ≤ s.length) (hc : ∀ s : Bytes, s.length ≤ 1000000000 → PuX prog 107 (Bx [.s s]) [.i .i64 (d : Int)] (ScR (f s)) (Bx [.s (f s).2.2])) {kind : Int} {stop s : Bytes} (hs : s.length ≤ 1000000000) :
    PuX prog 129 (Bx [.s s]) [.i .u8 kind, .s stop, .i .i64 (d : Int)] (ScR (scL f kind stop s)) (Bx [.s (scL f kind stop s).2.2]) := by
  refine (p129 H.f129 (kind1 := kind) (end2 := stop) (nest3 := (d : Int)) (mP := ⟨s⟩) (K := fun x y b => x = (scL f kind stop s).1 ∧ y = (scL f kind stop s).2.1 ∧ b = ⟨(scL f kind stop s).2.2⟩) ?_).to (b := ⟨(scL f kind stop s).2.2⟩) fun r b' hk => ?_
  · unfold T129_0
    refine ⟨_, ⟨(cutp stop s).1⟩, c128 H stop s, fun h => ?_, fun h P hP => ?_⟩
    · unfold scL
      rw [if_pos h]
      exact ⟨rfl, rfl, rfl⟩
    · have e : scL f kind stop s = scG f kind stop 17 [] (cutp stop s).1 := by unfold scL; rw [if_neg (by rw [h]; decide)]
      have hl := cutp_len stop s
      generalize (cutp stop s).1 = t at hl e ⊢
      have go : ∀ (n : Nat) (acc : List Val) (u : Bytes), acc.length + n = 17 → u.length ≤ t.length → scG f kind stop 17 [] t = scG f kind stop n acc u → P (Val.mk 0 0 [] [] false) (Val.mk kind 0 [] acc false) ⟨u⟩ := by
        intro n
        induction n with
        | zero =>
          intro acc u ha hu hq
          apply hP
          rw [e, hq]
          unfold T129_1 T129_2
          refine ⟨fun h => absurd h (by simp only [Val.list_mk]; omega), fun _ => ⟨rfl, rfl, rfl⟩⟩
        | succ n ih =>
          intro acc u ha hu hq
          apply hP
          rw [e, hq, scG]
          have h1 := hf u
          have h2 := cutp_len stop (f u).2.2
          have h3 := cutp_len [44, 32] (cutp stop (f u).2.2).1
          unfold T129_1
          refine ⟨fun _ => ⟨(f u).1, (f u).2.1, ⟨(f u).2.2⟩, hc u (by omega), fun g1 => ?_, fun g1 => ⟨⟨?_, ?_⟩, _, ⟨(cutp stop (f u).2.2).1⟩, c128 H stop (f u).2.2, fun g2 => ?_, fun g2 => ⟨_, ⟨(cutp [44, 32] (cutp stop (f u).2.2).1).1⟩, c128 H [44, 32] (cutp stop (f u).2.2).1, fun g3 => ?_, fun g3 => ?_⟩⟩⟩, fun h => absurd (show (acc.length : Int) ≤ 16 by omega) h⟩
          · rw [if_pos (by simpa using g1)]
            exact ⟨rfl, rfl, rfl⟩
          · simp only [Val.list_mk, List.length_cons, List.length_nil, maxBytes_eq]; omega
          · simp only [Val.list_mk, List.length_cons, List.length_nil, maxBytes_eq]; omega
          · rw [if_neg (by simpa using g1), if_pos g2]
            exact ⟨rfl, rfl, rfl⟩
          · rw [if_neg (by simpa using g1), if_neg (by rw [g2]; decide), if_pos (by simpa using g3)]
            exact ⟨rfl, rfl, rfl⟩
          · refine ih (acc ++ [(f u).1]) _ (by simp; omega) (by omega) ?_
            rw [hq, scG, if_neg (by simpa using g1), if_neg (by rw [g2]; decide), if_neg (by simpa using g3)]
      exact go 17 [] t rfl (Nat.le_refl _) rfl
  · obtain ⟨x0, x1, h1, rfl, rfl, rfl⟩ := hk
    exact ⟨h1, rfl⟩
theorem c107 : ∀ (d : Nat) {s : Bytes}, s.length ≤ 1000000000 → d ≤ 1000 → PuX prog 107 (Bx [.s s]) [.i .i64 (d : Int)] (ScR (scV d s)) (Bx [.s (scV d s).2.2])
  | 0, s, hs, hd => by
    refine (p107 H.f107 (nest1 := ((0 : Nat) : Int)) (mP := ⟨s⟩) (K := fun x y b => x = (scV 0 s).1 ∧ y = (scV 0 s).2.1 ∧ b = ⟨(scV 0 s).2.2⟩) ?_).to (b := ⟨(scV 0 s).2.2⟩) fun r b' hk => ?_
    · unfold T107_0 T107_1
      exact ⟨fun _ => ⟨rfl, rfl, rfl⟩, fun h => absurd rfl h⟩
    · obtain ⟨x0, x1, h1, rfl, rfl, rfl⟩ := hk
      exact ⟨h1, rfl⟩
  | d + 1, s, hs, hd => by
    have ih := fun s hs => @c107 d s hs (by omega)
    have hm : IntKind.i64.wrap (((d + 1 : Nat) : Int) - 1) = (d : Int) := by rw [wr_i64 (by omega) (by omega)]; omega
    refine (p107 H.f107 (nest1 := ((d + 1 : Nat) : Int)) (mP := ⟨s⟩) (K := fun x y b => x = (scV (d + 1) s).1 ∧ y = (scV (d + 1) s).2.1 ∧ b = ⟨(scV (d + 1) s).2.2⟩) ?_).to (b := ⟨(scV (d + 1) s).2.2⟩) fun r b' hk => ?_
    · have e := scV.eq_2 s d
      unfold T107_0 T107_1
      refine ⟨fun h => absurd h (by omega), fun _ => ⟨fun h => ?_, fun h0 => ?_⟩⟩
      · rw [e, if_pos h]; exact ⟨rfl, rfl, rfl⟩
      rw [if_neg h0] at e
      unfold T107_2
      refine ⟨_, ⟨(cutp tTrue s).1⟩, c128 H tTrue s, ?_⟩
      unfold T107_3
      refine ⟨fun h => ?_, fun h => ?_⟩
      · rw [e, if_pos h]; exact ⟨rfl, rfl, rfl⟩
      rw [if_neg (by rw [h]; decide)] at e
      rw [cutp_no h]
      refine ⟨_, ⟨(cutp tFalse s).1⟩, c128 H tFalse s, ?_⟩
      clear h
      unfold T107_4
      refine ⟨fun h => ?_, fun h => ?_⟩
      · rw [e, if_pos h]; exact ⟨rfl, rfl, rfl⟩
      rw [if_neg (by rw [h]; decide)] at e
      rw [cutp_no h]
      refine ⟨_, ⟨(cutp tNil s).1⟩, c128 H tNil s, ?_⟩
      clear h
      unfold T107_5
      refine ⟨fun h => ?_, fun h => ?_⟩
      · rw [e, if_pos h]; exact ⟨rfl, rfl, rfl⟩
      rw [if_neg (by rw [h]; decide)] at e
      rw [cutp_no h]
      refine ⟨_, ⟨(cutp tCutP s).1⟩, c128 H tCutP s, ?_⟩
      clear h
      unfold T107_6
      refine ⟨fun h => ?_, fun h => ?_⟩
      · rw [e, if_pos h]; exact ⟨rfl, rfl, rfl⟩
      rw [if_neg (by rw [h]; decide)] at e
      rw [cutp_no h]
      refine ⟨_, ⟨(cutp tCutS s).1⟩, c128 H tCutS s, ?_⟩
      clear h
      unfold T107_7
      refine ⟨fun h => ?_, fun h => ?_⟩
      · rw [e, if_pos h]; exact ⟨rfl, rfl, rfl⟩
      rw [if_neg (by rw [h]; decide)] at e
      rw [cutp_no h]
      refine ⟨_, ⟨(cutp [38] s).1⟩, c128 H [38] s, ?_⟩
      clear h
      unfold T107_8
      rw [hm]
      have l1 := cutp_len [38] s
      refine ⟨fun h => ⟨_, _, ⟨_⟩, ih _ (Nat.le_trans l1 hs), ?_⟩, fun h => ?_⟩
      · rw [e, if_pos h]; exact ⟨rfl, rfl, rfl⟩
      rw [if_neg (by rw [h]; decide)] at e
      rw [cutp_no h]
      have l1 := cutp_len [123] s
      refine ⟨_, ⟨(cutp [123] s).1⟩, c128 H [123] s, fun h => ⟨_, _, ⟨_⟩, c129 H (scV_len d) ih (Nat.le_trans l1 hs), ?_⟩, fun h => ?_⟩
      · rw [e, if_pos h]; exact ⟨rfl, rfl, rfl⟩
      rw [if_neg (by rw [h]; decide)] at e
      rw [cutp_no h]
      have l1 := cutp_len [91] s
      refine ⟨_, ⟨(cutp [91] s).1⟩, c128 H [91] s, fun h => ⟨_, _, ⟨_⟩, c129 H (scV_len d) ih (Nat.le_trans l1 hs), ?_⟩, fun h => ?_⟩
      · rw [e, if_pos h]; exact ⟨rfl, rfl, rfl⟩
      rw [if_neg (by rw [h]; decide)] at e
      rw [cutp_no h]
      have l1 := cutp_len [60] s
      refine ⟨_, ⟨(cutp [60] s).1⟩, c128 H [60] s, fun h => ⟨_, _, ⟨_⟩, c129 H (scV_len d) ih (Nat.le_trans l1 hs), ?_⟩, fun h => ?_⟩
      · rw [e, if_pos h]; exact ⟨rfl, rfl, rfl⟩
      rw [if_neg (by rw [h]; decide)] at e
      rw [cutp_no h]
      cases s with
      | nil => exact absurd rfl h0
      | cons c s =>
        refine ⟨c, rfl, fun h => ⟨_, _, ⟨_⟩, c130 H hs, ?_⟩, fun h => ⟨_, _, ⟨_⟩, c131 H hs, ?_⟩⟩
        · have hc : c = 34 := u8_eq (by show c.toNat = 34; omega)
          subst hc
          rw [e, List.head?_cons, if_pos rfl]; exact ⟨rfl, rfl, rfl⟩
        · rw [e, if_neg (by rw [List.head?_cons]; intro he; injection he with he; exact h (by rw [he]; rfl))]; exact ⟨rfl, rfl, rfl⟩
    · obtain ⟨x0, x1, h1, rfl, rfl, rfl⟩ := hk
      exact ⟨h1, rfl⟩
omit H in
theorem chk_fine {v : Val} : chkR v = 0 ↔ fine v = true := by
  unfold chkR
  by_cases h : fine v = true
  · rw [if_pos h]; simp [h]
  · rw [if_neg h]; simp [h]
theorem c74 {s : Bytes} (hs : s.length ≤ 1000000000) : Pus prog 74 [.s s] (.tup [(rvs s).1.av, .i .i64 (rvs s).2]) := by
  obtain ⟨x, y, ⟨rfl, rfl⟩, h⟩ := p74 H.f74 (s0 := s) (K := fun x y => x = (rvs s).1 ∧ y = (rvs s).2) (by
    unfold T74_0 rvs
    refine ⟨fun h => ?_, fun h => ⟨_, _, ⟨_⟩, c107 H 130 hs (by decide), fun h1 => ?_, fun h1 => ⟨fun h2 => ?_, fun h2 => ⟨_, _, c72 H (scV_wf _ _), fun h3 => ?_, fun h3 => ⟨fun h4 => ?_, fun h4 => ?_⟩⟩⟩⟩⟩
    · rw [if_pos (by omega)]; exact ⟨rfl, rfl⟩
    · rw [if_neg (by omega), if_neg (by rintro ⟨h, _⟩; rw [h] at h1; cases h1)]; exact ⟨rfl, rfl⟩
    · rw [if_neg (by omega), if_neg (by rintro ⟨_, h, _⟩; exact h2 h)]; exact ⟨rfl, rfl⟩
    · rw [if_neg (by omega), if_neg (by rintro ⟨_, _, h, _⟩; exact h3 (chk_fine.2 h))]; exact ⟨rfl, rfl⟩
    · rw [if_neg (by omega), if_neg]; · exact ⟨rfl, rfl⟩
      rintro ⟨_, _, h5, h6⟩
      rw [if_pos h5] at h4
      exact h4 h6
    · have h5 := chk_fine.1 (Decidable.not_not.1 h3)
      rw [if_pos h5] at h4
      rw [if_neg (by omega), if_pos ⟨by simpa using h1, Decidable.not_not.1 h2, h5, Decidable.not_not.1 h4⟩]
      exact ⟨rfl, rfl⟩)
  exact h
end
end Go.AM

namespace Go.AM
open Go
def RdK (q : Val × Bool × Bytes) (v : Val) (r : Bytes) (ok : Bool) : Prop := ok = q.2.1 ∧ (ok = true → v = q.1 ∧ r = q.2.2)
theorem RdK.no {q : Val × Bool × Bytes} {v : Val} {r : Bytes} (h : q.2.1 = false) : RdK q v r false := ⟨h.symm, fun h => by cases h⟩
theorem RdK.yes {q : Val × Bool × Bytes} {v : Val} {r : Bytes} (h : q = (v, true, r)) : RdK q v r true := by subst h; exact ⟨rfl, fun _ => ⟨rfl, rfl⟩⟩
section
variable {prog : Prog} (H : Has38 prog)
include H
theorem c78 {a : Val} (hw : Wf a) : ∀ b : Val, Pus prog 78 [a.av, b.av] (.b (sameV a b)) := by
  induction hw with
  | @mk k n s l c hk hn hl _ ih =>
    intro b
    obtain ⟨x, rfl, h⟩ := p78 H.f78 (a0 := Val.mk k n s l c) (b1 := b) (K := fun x => x = sameV (Val.mk k n s l c) b) (by
      have no : ∀ {p : Prop}, (Val.mk k n s l c = b → p) → ¬p → false = sameV (Val.mk k n s l c) b := fun h1 h2 => (sameV_false.2 fun h => h2 (h1 h)).symm
      unfold T78_0
      refine ⟨fun h => no (fun e => by rw [← e]) h, fun h1 => ⟨fun h => no (fun e => by rw [← e]) h, fun h2 => ⟨fun h => no (fun e => by rw [← e]) h, fun h3 => ⟨fun h => no (fun e => by rw [← e]) h, fun h4 => ⟨fun h => no (fun e => by rw [← e]) h, fun h5 P hP => ?_⟩⟩⟩⟩⟩
      have h1 := Decidable.not_not.1 h1
      have h2 := Decidable.not_not.1 h2
      have h3 := Decidable.not_not.1 h3
      have h4 := Decidable.not_not.1 h4
      have h5 : l.length = b.list.length := by have := Decidable.not_not.1 h5; simp only [Val.list_mk] at this; omega
      refine loop_inv (P := fun _ i => P i (Val.mk k n s l c) b) (fun _ => ()) l.length (fun i => l.take i = b.list.take i) (by simp) (fun hI => ?_) (fun i hi hI ihP => ?_)
      · apply hP
        unfold T78_1 T78_2
        refine ⟨fun h => absurd h (by simp only [Val.list_mk]; omega), fun _ => (sameV_true.2 ?_).symm⟩
        rw [List.take_length, h5, List.take_length] at hI
        rw [b.eta, ← h1, ← h2, ← h3, ← h4, hI]
        rfl
      · apply hP
        have hi2 : i < b.list.length := by omega
        unfold T78_1
        refine ⟨fun _ => ⟨by omega, l[i], get_at (l := l) hi, by omega, b.list[i], get_at hi2, _, ih _ (List.getElem_mem hi) _, fun h6 => ?_, fun h6 => ?_⟩, fun h => absurd (show (i : Int) < l.length by omega) h⟩
        · refine no (p := l[i] = b.list[i]) (fun e => ?_) (sameV_false.1 (by simpa using h6))
          subst e
          rfl
        · rw [wr_i64 (by omega) (by omega)]
          refine ihP ?_
          have h7 : l[i] = b.list[i] := sameV_true.1 (by simpa using h6)
          rw [List.take_succ_eq_append_getElem hi, List.take_succ_eq_append_getElem hi2, hI, h7])
    exact h
end
end Go.AM

namespace Go.AM
open Go
structure HasO (prog : Prog) : Prop extends Has38 prog where
  f154 : prog.fn 154 = some pf154
  f158 : prog.fn 158 = some pf158
  f159 : prog.fn 159 = some pf159
  f178 : prog.fn 178 = some pf178
  f180 : prog.fn 180 = some pf180
  f183 : prog.fn 183 = some pf183
  f186 : prog.fn 186 = some pf186
  f190 : prog.fn 190 = some pf190
  f191 : prog.fn 191 = some pf191
def faults4 : List Bytes := [[], tF1, tF2, tF3]
def kinds5 : List UInt8 := [0, 2, 1, 3, 2]
theorem kinds5_at {t : Int} (h : 0 ≤ t) (h4 : ¬t > 4) : ∃ c : UInt8, kinds5[t.toNat]? = some c ∧ ((c.toNat : Nat) : Int) = kindT t := by
  rcases (show t = 0 ∨ t = 1 ∨ t = 2 ∨ t = 3 ∨ t = 4 by omega) with rfl | rfl | rfl | rfl | rfl
  · exact ⟨0, rfl, rfl⟩
  · exact ⟨2, rfl, rfl⟩
  · exact ⟨1, rfl, rfl⟩
  · exact ⟨3, rfl, rfl⟩
  · exact ⟨2, rfl, rfl⟩
theorem faults4_at {n : Int} (h : 1 ≤ n) (h3 : n ≤ 3) : faults4[n.toNat]? = some (faultT n) := by
  rcases (show n = 1 ∨ n = 2 ∨ n = 3 by omega) with rfl | rfl | rfl <;> rfl
theorem okP_no4 {p : Pan} (h : p.tag > 4) : okP p = false := by unfold okP; rw [decide_eq_false (by omega)]; rfl
theorem okP_nok {p : Pan} (h : p.value.kind ≠ kindT p.tag) : okP p = false := by unfold okP; rw [decide_eq_false h]; simp
theorem okP_0 {p : Pan} (h : p.tag = 0) (hk : p.value.kind = kindT p.tag) : okP p = (isZ p.value && decide (p.flags = 2 ∨ p.flags = 6)) := by
  unfold okP; rw [decide_eq_true hk, decide_eq_true (by omega), if_pos h]; rfl
theorem okP_n0 {p : Pan} (h4 : ¬p.tag > 4) (h : p.tag ≠ 0) (hk : p.value.kind = kindT p.tag) : okP p = (decide (p.flags = 0 ∨ p.flags = 1 ∨ p.flags = 4 ∨ p.flags = 5) && decide (p.tag = 4 → 1 ≤ p.value.int ∧ p.value.int ≤ 3) && fine p.value) := by
  unfold okP; rw [decide_eq_true hk, decide_eq_true (by omega), if_neg h]; rfl
theorem chkP_no {p : Pan} (h : okP p = false) : chkP p = 8 := by unfold chkP; rw [h]; rfl
theorem chkP_yes {p : Pan} (h : okP p = true) : chkP p = 0 := by unfold chkP; rw [h]; rfl
theorem chkP_iff {p : Pan} : chkP p = 0 ↔ okP p = true := by unfold chkP; split <;> simp_all
section
variable {prog : Prog} (H : HasO prog)
include H
theorem c178 : Pus prog 178 [] (.ag (faults4.map AV.s)) := by
  obtain ⟨x, rfl, h⟩ := p178 H.f178 (K := fun x => x = faults4) rfl
  exact h
theorem c183 : Pus prog 183 [] (.ag (kinds5.map c8)) := by
  obtain ⟨x, rfl, h⟩ := p183 H.f183 (K := fun x => x = kinds5) rfl
  exact h
theorem c191 {s p : Bytes} (hs : s.length ≤ 1000000000) : Pus prog 191 [.s s, .s p] (.b (cuts p s).2) := by
  obtain ⟨x, rfl, h⟩ := p191 H.f191 (s0 := s) (suffix1 := p) (K := fun x => x = (cuts p s).2) (by
    unfold T191_0 cuts
    refine ⟨fun h => ?_, fun h => ?_⟩
    · rw [wr_i64 (by omega) (by omega), show ((s.length : Int) - (p.length : Int)).toNat = s.length - p.length by omega]
      refine ⟨by omega, by omega, ?_⟩
      by_cases h1 : s.drop (s.length - p.length) = p
      · rw [decide_eq_true h1, if_pos ⟨by omega, h1⟩]
      · rw [decide_eq_false h1, if_neg fun h2 => h1 h2.2]
    · rw [if_neg fun h2 => h (by omega)])
  exact h
theorem c186 {s p : Bytes} (hs : s.length ≤ 1000000000) : Pus prog 186 [.s s, .s p] (.b (cuts p s).2) := by
  obtain ⟨x, rfl, h⟩ := p186 H.f186 (s0 := s) (suffix1 := p) (K := fun x => x = (cuts p s).2) (by
    unfold T186_0
    exact ⟨_, c191 H hs, rfl⟩)
  exact h
theorem c190 {s p : Bytes} (hs : s.length ≤ 1000000000) : Pus prog 190 [.s s, .s p] (.tup [.s (cuts p s).1, .b (cuts p s).2]) := by
  obtain ⟨x, y, ⟨rfl, rfl⟩, h⟩ := p190 H.f190 (s0 := s) (suffix1 := p) (K := fun x y => x = (cuts p s).1 ∧ y = (cuts p s).2) (by
    unfold T190_0
    refine ⟨_, c191 H hs, fun h => ?_, fun h => ?_⟩
    · have h : (cuts p s).2 = false := by simpa using h
      exact ⟨(cuts_no h).symm, h.symm⟩
    · have h : (cuts p s).2 = true := by simpa using h
      have hl : p.length ≤ s.length := by have := congrArg List.length (cuts_yes h); rw [List.length_append] at this; omega
      rw [wr_i64 (by omega) (by omega), show ((s.length : Int) - (p.length : Int)).toNat = s.length - p.length by omega]
      refine ⟨by omega, by omega, ?_, h.symm⟩
      unfold cuts at h ⊢
      split
      · rfl
      · rename_i h1; rw [if_neg h1] at h; cases h)
  exact h
theorem c180 {s p : Bytes} (hs : s.length ≤ 1000000000) : Pus prog 180 [.s s, .s p] (.tup [.s (cuts p s).1, .b (cuts p s).2]) := by
  obtain ⟨x, y, ⟨rfl, rfl⟩, h⟩ := p180 H.f180 (s0 := s) (suffix1 := p) (K := fun x y => x = (cuts p s).1 ∧ y = (cuts p s).2) (by
    unfold T180_0
    exact ⟨_, _, c190 H hs, rfl, rfl⟩)
  exact h
theorem c158 {p : Pan} (hp : WfP p) : Pus prog 158 [p.av] (.i .i64 (chkP p)) := by
  obtain ⟨x, rfl, h⟩ := p158 H.f158 (p0 := p) (K := fun x => x = chkP p) (by
    unfold T158_0 T158_1
    refine ⟨fun h => (chkP_no (okP_no4 h)).symm, fun h4 => ?_⟩
    obtain ⟨c, g1, g2⟩ := kinds5_at hp.t.1 h4
    refine ⟨_, c183 H, rfl, hp.t.1, c, g1, fun h => (chkP_no (okP_nok (by rw [← g2]; exact h))).symm, fun h => ?_⟩
    have hk : p.value.kind = kindT p.tag := by rw [← g2]; exact Decidable.not_not.1 h
    unfold T158_2
    refine ⟨fun h0 => ?_, fun h0 => ?_⟩
    · have e := okP_0 h0 hk
      have hk0 : p.value.kind = 0 := by rw [hk, h0]; rfl
      have no : isZ p.value = false → 8 = chkP p := fun h => (chkP_no (by rw [e, h]; rfl)).symm
      have nz : ∀ {q : Prop}, (p.value = vz → q) → ¬q → isZ p.value = false := fun a b => by rw [← Bool.not_eq_true, isZ_true]; exact fun h => b (a h)
      refine ⟨fun h => no (nz (fun e => by rw [e]; rfl) h), fun h1 => ⟨fun h => no (nz (fun e => by rw [e]; rfl) h), fun h2 => ⟨fun h => no (nz (q := ¬((p.value.list.length : Int) > 0)) (fun e => by rw [e]; decide) (fun h' => h' h)), fun h3 => ⟨fun h => no (nz (q := p.value.cut = false) (fun e => by rw [e]; rfl) (by rw [h]; decide)), fun h4 => ?_⟩⟩⟩⟩
      have hz : isZ p.value = true := by
        unfold isZ
        rw [decide_eq_true hk0, decide_eq_true (Decidable.not_not.1 h1), decide_eq_true (Decidable.not_not.1 h2), decide_eq_true (by omega), h4]; rfl
      have fl := flag2 hp.f
      rw [hz, Bool.true_and] at e
      refine ⟨fun h => (chkP_no (by rw [e]; exact decide_eq_false fun h' => h (fl.2 h'))).symm, fun h => (chkP_yes (by rw [e]; exact decide_eq_true (fl.1 (Decidable.not_not.1 h)))).symm⟩
    · have e := okP_n0 h4 h0 hk
      have fl := flag0 hp.f
      unfold T158_3
      refine ⟨fun h => (chkP_no (by rw [e, decide_eq_false (fun h' => h (fl.2 h'))]; rfl)).symm, fun h => ?_⟩
      rw [decide_eq_true (fl.1 (Decidable.not_not.1 h)), Bool.true_and] at e
      have last : (p.tag = 4 → 1 ≤ p.value.int ∧ p.value.int ≤ 3) → T158_4 prog (fun x => x = chkP p) p := fun hh => by
        unfold T158_4
        refine ⟨_, c76 H.toHas38 hp.v, ?_⟩
        rw [decide_eq_true hh, Bool.true_and] at e
        unfold chkR chkP
        rw [e]
      refine ⟨fun h5 => ⟨fun h => (chkP_no (by rw [e, decide_eq_false (fun h' => by have := h' h5; omega)]; rfl)).symm, fun h6 => ⟨fun h => (chkP_no (by rw [e, decide_eq_false (fun h' => by have := h' h5; omega)]; rfl)).symm, fun h7 => last fun _ => by omega⟩⟩, fun h5 => last fun h' => absurd h' h5⟩)
  exact h
theorem c159 {p : Pan} (hp : WfP p) : Pus prog 159 [p.av] (.i .i64 (chkP p)) := by
  obtain ⟨x, rfl, h⟩ := p159 H.f159 (p0 := p) (K := fun x => x = chkP p) (by
    unfold T159_0 T159_1
    refine ⟨_, c77 H.toHas38 hp.v, ?_⟩
    have ef : decide (chkR p.value = 0) = fine p.value := by
      cases h : fine p.value with
      | true => exact decide_eq_true (chk_fine.2 h)
      | false => exact decide_eq_false fun h' => by rw [chk_fine.1 h'] at h; cases h
    rw [ef]
    unfold T159_2 T159_3
    refine ⟨fun h => (chkP_no (okP_no4 h)).symm, fun h4 => ?_⟩
    obtain ⟨c, g1, g2⟩ := kinds5_at hp.t.1 h4
    refine ⟨hp.t.1, c, g1, fun h => (chkP_no (okP_nok (by rw [← g2]; exact h))).symm, fun h => ?_⟩
    have hk : p.value.kind = kindT p.tag := by rw [← g2]; exact Decidable.not_not.1 h
    have t6 : ∀ b : Bool, okP p = b → T159_6 prog (fun x => x = chkP p) b := fun b hb => by
      unfold T159_6
      cases b with
      | true => exact ⟨fun h => (by cases h), fun _ => (chkP_yes hb).symm⟩
      | false => exact ⟨fun _ => (chkP_no hb).symm, fun h => (by cases h)⟩
    have t5 : ∀ b : Bool, (okP p = (b && decide (p.tag = 4 → 1 ≤ p.value.int ∧ p.value.int ≤ 3))) → T159_5 prog (fun x => x = chkP p) b p := fun b hb => by
      unfold T159_5
      refine ⟨fun h => ⟨fun h1 => ⟨fun h2 => t6 _ ?_, fun h2 => t6 _ ?_⟩, fun h1 => t6 _ (by rw [hb, h1]; rfl)⟩, fun h => t6 _ ?_⟩
      · rw [hb, h1, Bool.true_and]; exact decide_eq_decide.2 ⟨fun h3 => (h3 h).2, fun h3 _ => ⟨h2, h3⟩⟩
      · rw [hb, decide_eq_false (fun h3 => h2 (h3 h).1), Bool.and_false]
      · rw [hb, decide_eq_true fun h3 => absurd h3 h, Bool.and_true]
    unfold T159_4
    refine ⟨fun h0 => ?_, fun h0 => ?_⟩
    · have e := okP_0 h0 hk
      have e5 : decide (p.tag = 4 → 1 ≤ p.value.int ∧ p.value.int ≤ 3) = true := decide_eq_true fun h => by omega
      refine ⟨_, c78 H.toHas38 hp.v vz, fun h => ?_, fun h => t5 _ ?_⟩
      · have hz : isZ p.value = true := isZ_true.2 (sameV_true.1 h)
        rw [hz, Bool.true_and] at e
        refine ⟨fun h1 => t5 _ ?_, fun h1 => t5 _ ?_⟩
        · rw [e, e5, decide_eq_true (.inl h1)]; rfl
        · rw [e, e5, Bool.and_true]; exact decide_eq_decide.2 ⟨fun h => h.resolve_left h1, .inr⟩
      · have hz : isZ p.value = false := by rw [← Bool.not_eq_true, isZ_true]; exact sameV_false.1 h
        rw [e, hz]; rfl
    · have e := okP_n0 h4 h0 hk
      refine ⟨fun hf => ?_, fun hf => t5 _ (by rw [e, hf]; simp)⟩
      rw [hf, Bool.and_true] at e
      refine ⟨fun h1 => t5 _ ?_, fun h1 => ⟨fun h2 => t5 _ ?_, fun h2 => ⟨fun h3 => t5 _ ?_, fun h3 => t5 _ ?_⟩⟩⟩
      · rw [e, decide_eq_true (.inl h1)]
      · rw [e, decide_eq_true (.inr (.inl h2))]
      · rw [e, decide_eq_true (.inr (.inr (.inl h3)))]
      · rw [e]; congr 1; exact decide_eq_decide.2 ⟨fun h => by omega, fun h => by omega⟩)
  exact h
omit H in
theorem and1 {f : Int} (h : f = 0 ∨ f = 1 ∨ f = 2 ∨ f = 4 ∨ f = 5 ∨ f = 6) : (bAnd .u64 f 1 ≠ 0 ↔ f % 2 = 1) ∧ (bAnd .u64 f 4 ≠ 0 ↔ 4 ≤ f) ∧ (f.tmod 2 = 1 ↔ f % 2 = 1) := by
  rcases h with rfl | rfl | rfl | rfl | rfl | rfl <;> decide
omit H in
theorem okP_f6 {p : Pan} (h : okP p = true) : p.flags = 0 ∨ p.flags = 1 ∨ p.flags = 2 ∨ p.flags = 4 ∨ p.flags = 5 ∨ p.flags = 6 := by rcases okP_flags h with ⟨_, _, h⟩ | ⟨_, _, h⟩ <;> omega
omit H in
theorem okP_4 {p : Pan} (h : okP p = true) (h4 : p.tag = 4) : 1 ≤ p.value.int ∧ p.value.int ≤ 3 := by
  unfold okP at h
  simp only [Bool.and_eq_true, decide_eq_true_eq] at h
  have h3 := h.2
  rw [if_neg (by omega)] at h3
  simp only [Bool.and_eq_true, decide_eq_true_eq] at h3
  exact h3.1.2 h4
omit H in
theorem shown_steps {p : Pan} {b : Bytes} (hb : b = baseP p) : shown p = (b ++ (if p.flags % 2 = 1 then tRec else [])) ++ (if 4 ≤ p.flags then tAb else []) := by
  rw [hb, shown, sufP, List.append_assoc]
theorem c154 {p : Pan} (hp : WfP p) : Pus prog 154 [p.av] (.tup [.s (lnP p).1, .i .i64 (lnP p).2]) := by
  obtain ⟨x, y, ⟨rfl, rfl⟩, h⟩ := p154 H.f154 (p0 := p) (K := fun x y => x = (lnP p).1 ∧ y = (lnP p).2) (by
    unfold T154_0
    refine ⟨_, c158 H hp, fun h => ?_, fun h => ?_⟩
    · have h1 : okP p ≠ true := fun h' => h (chkP_iff.2 h')
      unfold lnP chkP; rw [if_neg h1, if_neg h1]; exact ⟨rfl, rfl⟩
    · have ho := chkP_iff.1 (Decidable.not_not.1 h)
      have hl := shown_len ho
      obtain ⟨a1, a2, a3⟩ := and1 (okP_f6 ho)
      unfold lnP; rw [if_pos ho]
      have t1 : ∀ b, b = baseP p → T154_1 prog (fun x y => x = (shown p, (0 : Int)).1 ∧ y = (shown p, (0 : Int)).2) b p := fun b hb => by
        have e := shown_steps hb
        have hl : b.length ≤ 400 := by rw [e, List.length_append, List.length_append] at hl; omega
        unfold T154_1 T154_2 T154_3
        simp only [List.length_append, List.length_cons, List.length_nil, maxStr_eq]
        refine ⟨fun h1 => ⟨by omega, fun h2 => ⟨by omega, ?_, trivial⟩, fun h2 => ⟨?_, trivial⟩⟩, fun h1 => ⟨fun h2 => ⟨by omega, ?_, trivial⟩, fun h2 => ⟨?_, trivial⟩⟩⟩
        · rw [e, if_pos (a1.1 h1), if_pos (a2.1 h2)]; rfl
        · rw [e, if_pos (a1.1 h1), if_neg fun h => h2 (a2.2 h), List.append_nil]; rfl
        · rw [e, if_neg fun h => h1 (a1.2 h), if_pos (a2.1 h2), List.append_nil]; rfl
        · rw [e, if_neg fun h => h1 (a1.2 h), if_neg fun h => h2 (a2.2 h), List.append_nil, List.append_nil]
      refine ⟨fun h0 => t1 _ (by unfold baseP; rw [if_pos h0]; rfl), fun h0 => ⟨fun h4 => ?_, fun h4 => ?_⟩⟩
      · obtain ⟨g1, g2⟩ := okP_4 ho h4
        exact ⟨_, c178 H, rfl, by omega, _, faults4_at g1 g2, t1 _ (by unfold baseP; rw [if_neg h0, if_pos h4])⟩
      · have hf : fine p.value = true := by rcases okP_flags ho with h | h; exact absurd h.1 h0; exact h.2.1
        have := fine_len hf
        refine ⟨_, _, c72 H.toHas38 hp.v, fun h => absurd (chk_fine.2 hf) h, fun _ => ?_⟩
        rw [if_pos hf]
        refine ⟨?_, t1 _ (by unfold baseP; rw [if_neg h0, if_neg h4]; rfl)⟩
        simp only [List.length_cons, List.length_nil, maxStr_eq]; omega)
  exact h
end
end Go.AM

namespace Go.AM
open Go
structure HasP (prog : Prog) : Prop extends HasO prog where
  f156 : prog.fn 156 = some pf156
  f160 : prog.fn 160 = some pf160
  f181 : prog.fn 181 = some pf181
theorem cuts_len (p s : Bytes) : (cuts p s).1.length ≤ s.length := by
  unfold cuts
  split
  · simp only [List.length_take]; omega
  · exact Nat.le_refl _
noncomputable def sameP (p q : Pan) : Bool := decide (p.tag = q.tag) && decide (p.flags = q.flags) && sameV p.value q.value
theorem sameP_true {p q : Pan} : sameP p q = true ↔ p = q := by
  obtain ⟨a, b, c⟩ := p
  obtain ⟨d, e, f⟩ := q
  unfold sameP
  simp only [Bool.and_eq_true, decide_eq_true_eq, sameV_true, Pan.mk.injEq]
  constructor
  · rintro ⟨⟨h1, h2⟩, h3⟩; exact ⟨h1, h3, h2⟩
  · rintro ⟨h1, h2, h3⟩; exact ⟨⟨h1, h3⟩, h2⟩
theorem sameP_rfl (p : Pan) : sameP p p = true := sameP_true.2 rfl
def rdC (s : Bytes) : Pan × Bool := match coreP s with | some p => (p, true) | none => (pz, false)
def addF (p : Pan) (r a : Bool) : Pan := ⟨p.tag, p.value, p.flags + (if r = true then 1 else 0) + (if a = true then 4 else 0)⟩
theorem rlP_or (s : Bytes) (h : ¬2000 < s.length) : (rlP s).2 = 0 ∨ rlP s = (pz, 12) := by
  unfold rlP
  rw [if_neg h]
  simp only
  split
  · exact .inr rfl
  · rename_i p _
    by_cases ho : okP ⟨p.tag, p.value, p.flags + (if (cuts tRec (cuts tAb s).1).2 = true then 1 else 0) + (if (cuts tAb s).2 = true then 4 else 0)⟩ = true
    · rw [if_pos ho]; exact .inl rfl
    · rw [if_neg ho]; exact .inr rfl
section
variable {prog : Prog} (H : HasP prog)
include H
theorem c160 {p q : Pan} (hp : Wf p.value) : Pus prog 160 [p.av, q.av] (.b (sameP p q)) := by
  obtain ⟨x, rfl, h⟩ := p160 H.f160 (a0 := p) (b1 := q) (K := fun x => x = sameP p q) (by
    unfold T160_0
    refine ⟨fun h1 => ⟨fun h2 => ⟨_, c78 H.toHas38 hp _, ?_⟩, fun h2 => ?_⟩, fun h1 => ?_⟩
    · unfold sameP; rw [decide_eq_true h1, decide_eq_true h2]; rfl
    · unfold sameP; rw [decide_eq_false h2, Bool.and_false]; rfl
    · unfold sameP; rw [decide_eq_false h1]; rfl)
  exact h
theorem c181 {s : Bytes} (hs : s.length ≤ 1000000000) : Pus prog 181 [.s s] (.tup [(rdC s).1.av, .b (rdC s).2]) := by
  obtain ⟨x, y, ⟨rfl, rfl⟩, h⟩ := p181 H.f181 (s0 := s) (K := fun x y => x = (rdC s).1 ∧ y = (rdC s).2) (by
    unfold T181_0 T181_1
    have yes : ∀ {p : Pan}, coreP s = some p → p = (rdC s).1 ∧ true = (rdC s).2 := fun h => by unfold rdC; rw [h]; exact ⟨rfl, rfl⟩
    have no : coreP s = none → pz = (rdC s).1 ∧ false = (rdC s).2 := fun h => by unfold rdC; rw [h]; exact ⟨rfl, rfl⟩
    refine ⟨fun h => yes (by unfold coreP; rw [if_pos (show s = tExit from h)]), fun h0 => ?_⟩
    have h0 : s ≠ tExit := h0
    unfold T181_2
    refine ⟨_, c178 H.toHasO, fun P hP => ?_⟩
    have step : ∀ (i : Nat) (f : Bytes), faults4[i]? = some f → i < 4 → (0 < i → f = s → (Pan.mk 4 (Val.mk 2 (i : Int) [] [] false) 0) = (rdC s).1 ∧ true = (rdC s).2) → ((0 < i → f ≠ s) → P ((i + 1 : Nat) : Int) pz) → P (i : Int) pz := fun i f hf hi h1 h2 => by
      apply hP
      unfold T181_3
      refine ⟨fun _ => ⟨rfl, by omega, f, by rw [toNat_cast]; exact hf, fun h3 => ?_, fun h3 => ?_⟩, fun h => absurd (show (i : Int) < 4 by omega) h⟩
      · unfold T181_4
        rw [wr_i64 (by omega) (by omega)]
        exact ⟨fun h4 => h1 (by omega) (of_decide_eq_true h4), fun h4 => h2 fun _ => of_decide_eq_false h4⟩
      · unfold T181_4
        rw [wr_i64 (by omega) (by omega)]
        exact ⟨fun h4 => (by cases h4), fun _ => h2 fun h => by omega⟩
    refine step 0 [] rfl (by decide) (fun h => absurd h (by decide)) fun _ => step 1 tF1 rfl (by decide) (fun _ e => yes (by unfold coreP; rw [if_neg h0, if_pos e.symm]; rfl)) fun n1 => step 2 tF2 rfl (by decide) (fun _ e => yes (by unfold coreP; rw [if_neg h0, if_neg fun e' => n1 (by decide) e'.symm, if_pos e.symm]; rfl)) fun n2 => step 3 tF3 rfl (by decide) (fun _ e => yes (by unfold coreP; rw [if_neg h0, if_neg fun e' => n1 (by decide) e'.symm, if_neg fun e' => n2 (by decide) e'.symm, if_pos e.symm]; rfl)) fun n3 => ?_
    apply hP
    unfold T181_3 T181_5
    refine ⟨fun h => absurd h (by decide), fun _ => ⟨_, _, c36 H.toHas03 s tPan, fun h1 => ?_, fun h1 => ?_⟩⟩
    all_goals
      have e1 : coreP s = if (cutp tPan s).2 = false then none else
        if (rvs (cutp tPan s).1).2 ≠ 0 then none else
        let v := (rvs (cutp tPan s).1).1
        if v.kind = 2 then some ⟨1, v, 0⟩ else if v.kind = 1 then some ⟨2, v, 0⟩ else if v.kind = 3 then some ⟨3, v, 0⟩ else none := by
        conv => lhs; unfold coreP
        rw [if_neg h0, if_neg fun e' => n1 (by decide) e'.symm, if_neg fun e' => n2 (by decide) e'.symm, if_neg fun e' => n3 (by decide) e'.symm]
    · exact no (by rw [e1, if_pos (by simpa using h1)])
    · rw [if_neg (by simpa using h1)] at e1
      have hl : (cutp tPan s).1.length ≤ 1000000000 := by unfold cutp; split <;> simp <;> omega
      refine ⟨_, _, c74 H.toHas38 hl, _, c183 H.toHasO, fun Q hQ => ?_⟩
      by_cases he : (rvs (cutp tPan s).1).2 = 0
      · rw [if_neg (by rw [he]; decide)] at e1
        obtain ⟨g1, _, _⟩ := rvs_inv he
        generalize (rvs (cutp tPan s).1).1 = v at e1 g1 hQ ⊢
        have h7 := okv_head (fine_ok g1).1
        unfold Val.okh Okh at h7
        simp only at e1
        have st : ∀ (i : Nat) (c : UInt8), kinds5[i]? = some c → i < 5 → ((c.toNat : Int) = v.kind → (Pan.mk (i : Int) v 0) = (rdC s).1 ∧ true = (rdC s).2) → (¬(c.toNat : Int) = v.kind → Q ((i + 1 : Nat) : Int) pz v) → Q (i : Int) pz v := fun i c hc hi h1 h2 => by
          apply hQ
          unfold T181_6
          refine ⟨fun _ => ⟨rfl, by omega, c, by rw [toNat_cast]; exact hc, fun h3 => ?_, fun h3 => absurd he h3⟩, fun h => absurd (show (i : Int) < 5 by omega) h⟩
          unfold T181_7
          rw [wr_i64 (by omega) (by omega), wr_u64 (by omega) (by omega)]
          exact ⟨fun h4 => h1 (of_decide_eq_true h4), fun h4 => h2 (of_decide_eq_false h4)⟩
        refine st 0 0 rfl (by decide) (fun h => absurd h (show ¬((0 : Int) = v.kind) by omega)) fun _ => st 1 2 rfl (by decide) (fun h => yes (by rw [e1, if_pos (show v.kind = 2 from h.symm)]; rfl)) fun n2 => st 2 1 rfl (by decide) (fun h => yes (by rw [e1, if_neg fun h' => n2 h'.symm, if_pos (show v.kind = 1 from h.symm)]; rfl)) fun n1 => st 3 3 rfl (by decide) (fun h => yes (by rw [e1, if_neg fun h' => n2 h'.symm, if_neg fun h' => n1 h'.symm, if_pos (show v.kind = 3 from h.symm)]; rfl)) fun n3 => st 4 2 rfl (by decide) (fun h => absurd h n2) fun _ => ?_
        apply hQ
        unfold T181_6 T181_8
        exact ⟨fun h => absurd h (by decide), fun _ => no (by rw [e1, if_neg fun h' => n2 h'.symm, if_neg fun h' => n1 h'.symm, if_neg fun h' => n3 h'.symm])⟩
      · rw [if_pos he] at e1
        have st : ∀ (i : Nat) (c : UInt8), kinds5[i]? = some c → i < 5 → Q ((i + 1 : Nat) : Int) pz (rvs (cutp tPan s).1).1 → Q (i : Int) pz (rvs (cutp tPan s).1).1 := fun i c hc hi h2 => by
          apply hQ
          unfold T181_6
          refine ⟨fun _ => ⟨rfl, by omega, c, by rw [toNat_cast]; exact hc, fun h3 => absurd h3 he, fun h3 => ?_⟩, fun h => absurd (show (i : Int) < 5 by omega) h⟩
          unfold T181_7
          rw [wr_i64 (by omega) (by omega)]
          exact ⟨fun h4 => (by cases h4), fun _ => h2⟩
        refine st 0 0 rfl (by decide) (st 1 2 rfl (by decide) (st 2 1 rfl (by decide) (st 3 3 rfl (by decide) (st 4 2 rfl (by decide) ?_))))
        apply hQ
        unfold T181_6 T181_8
        exact ⟨fun h => absurd h (by decide), fun _ => no e1⟩)
  exact h
omit H in
theorem or_flags {f : Int} (h : f = 0 ∨ f = 2) : bOr .u64 f 1 = f + 1 ∧ bOr .u64 f 4 = f + 4 ∧ bOr .u64 (f + 1) 4 = f + 1 + 4 ∧ IntKind.u64.wrap (f + 1) = f + 1 ∧ IntKind.u64.wrap (f + 4) = f + 4 ∧ IntKind.u64.wrap (f + 1 + 4) = f + 1 + 4 := by
  rcases h with rfl | rfl <;> decide
theorem c156 {s : Bytes} (hs : s.length ≤ 1000000000) : Pus prog 156 [.s s] (.tup [(rlP s).1.av, .i .i64 (rlP s).2]) := by
  obtain ⟨x, y, ⟨rfl, rfl⟩, h⟩ := p156 H.f156 (s0 := s) (K := fun x y => x = (rlP s).1 ∧ y = (rlP s).2) (by
    unfold T156_0
    refine ⟨fun h => ?_, fun h => ?_⟩
    · unfold rlP; rw [if_pos (by omega)]; exact ⟨rfl, rfl⟩
    have hl : ¬2000 < s.length := by omega
    have l1 : (cuts tAb s).1.length ≤ 1000000000 := Nat.le_trans (cuts_len _ _) hs
    have l2 : (cuts tRec (cuts tAb s).1).1.length ≤ 1000000000 := Nat.le_trans (cuts_len _ _) l1
    have e : rlP s = (match coreP (cuts tRec (cuts tAb s).1).1 with
      | none => (pz, 12)
      | some p => if okP (addF p (cuts tRec (cuts tAb s).1).2 (cuts tAb s).2) = true then (addF p (cuts tRec (cuts tAb s).1).2 (cuts tAb s).2, 0) else (pz, 12)) := by
      conv => lhs; unfold rlP
      rw [if_neg hl]
      rfl
    refine ⟨_, _, c180 H.toHasO (p := tAb) hs, _, _, c180 H.toHasO (p := tRec) l1, _, _, c181 H l2, ?_⟩
    generalize cuts tAb s = a at e l1 l2 ⊢
    generalize cuts tRec a.1 = r at e l2 ⊢
    cases hc : coreP r.1 with
    | none =>
      rw [hc] at e
      have e2 : rdC r.1 = (pz, false) := by unfold rdC; rw [hc]
      rw [e, e2]
      unfold T156_1 T156_2
      exact ⟨fun _ => ⟨fun _ => ⟨fun _ => ⟨rfl, rfl⟩, fun h => (by cases h)⟩, fun _ => ⟨fun _ => ⟨rfl, rfl⟩, fun h => (by cases h)⟩⟩, fun _ => ⟨fun _ => ⟨fun _ => ⟨rfl, rfl⟩, fun h => (by cases h)⟩, fun _ => ⟨fun _ => ⟨rfl, rfl⟩, fun h => (by cases h)⟩⟩⟩
    | some p =>
      rw [hc] at e
      have e2 : rdC r.1 = (p, true) := by unfold rdC; rw [hc]
      rw [e, e2]
      obtain ⟨w1, w2, w3, w4, _⟩ := core_wf hc
      obtain ⟨o1, o2, o3, _⟩ := or_flags w2
      have fin : ∀ q : Pan, q = addF p r.2 a.2 → T156_2 prog (fun x y => x = (if okP (addF p r.2 a.2) = true then (addF p r.2 a.2, (0 : Int)) else (pz, 12)).1 ∧ y = (if okP (addF p r.2 a.2) = true then (addF p r.2 a.2, (0 : Int)) else (pz, 12)).2) true pz q := fun q hq => by
        subst hq
        have hw : WfP (addF p r.2 a.2) := ⟨⟨w3, by simp only [addF]; omega⟩, w1, by simp only [addF]; constructor <;> (split <;> split <;> omega)⟩
        unfold T156_2
        refine ⟨fun h => (by cases h), fun _ => ⟨_, c158 H.toHasO hw, fun h1 => ?_, fun h1 => ?_⟩⟩
        · rw [if_neg fun h' => h1 (chkP_iff.2 h')]; exact ⟨rfl, rfl⟩
        · rw [if_pos (chkP_iff.1 (Decidable.not_not.1 h1))]; exact ⟨rfl, rfl⟩
      unfold T156_1
      simp only
      refine ⟨fun h1 => ⟨fun h2 => fin _ ?_, fun h2 => fin _ ?_⟩, fun h1 => ⟨fun h2 => fin _ ?_, fun h2 => fin _ ?_⟩⟩ <;> unfold addF <;> rw [h1, h2]
      · rw [o1, o3]; rfl
      · rw [o1]; simp
      · rw [o2]; simp
      · simp)
  exact h
end
end Go.AM

namespace Go.AM
open Go
structure HasQ (prog : Prog) : Prop extends HasP prog where
  f161 : prog.fn 161 = some pf161
  f162 : prog.fn 162 = some pf162
  f163 : prog.fn 163 = some pf163
  f164 : prog.fn 164 = some pf164
  f165 : prog.fn 165 = some pf165
  f169 : prog.fn 169 = some pf169
  f170 : prog.fn 170 = some pf170
  f171 : prog.fn 171 = some pf171
  f172 : prog.fn 172 = some pf172
  f174 : prog.fn 174 = some pf174
  f176 : prog.fn 176 = some pf176
  f184 : prog.fn 184 = some pf184
  f185 : prog.fn 185 = some pf185
def chainR (l : List Pan) : Int := if 410 < l.length then 4 else if l.all okP = true then 0 else 8
def greatC (l : List Pan) : Bool := (decide (20 < l.length) && decide (l.length ≤ 410)) || decide (420 < l.length) || l.any (fun p => greatv p.value)
def fl0 (p : Pan) : Bool := decide (p.flags = 0)
def causeR (l : List Pan) : Int × Int := if chainR l = 0 then (if l.findIdx fl0 < l.length then ((l.findIdx fl0 : Int), 0) else (0, 6)) else (0, chainR l)
def txtC (l : List Pan) : Bytes := l.flatMap fun p => shown p ++ [10]
def textR (l : List Pan) : Bytes × Int := if chainR l = 0 then (txtC l, 0) else ([], chainR l)
theorem chain_all {l : List Pan} (h : ¬410 < l.length) (ho : ∀ p ∈ l, okP p = true) : chainR l = 0 := by
  unfold chainR; rw [if_neg h, if_pos (List.all_eq_true.2 ho)]
theorem chain_not {l : List Pan} (h : ¬410 < l.length) {p : Pan} (hp : p ∈ l) (ho : okP p ≠ true) : chainR l = 8 := by
  unfold chainR; rw [if_neg h, if_neg fun h' => ho (List.all_eq_true.1 h' p hp)]
theorem chain_ok {l : List Pan} (h : chainR l = 0) : l.length ≤ 410 ∧ ∀ p ∈ l, okP p = true := by
  unfold chainR at h
  split at h
  · cases h
  · split at h
    · rename_i h1 h2; exact ⟨by omega, List.all_eq_true.1 h2⟩
    · cases h
theorem txtC_take {l : List Pan} {i : Nat} (h : i < l.length) : txtC (l.take (i + 1)) = txtC (l.take i) ++ (shown l[i] ++ [10]) := by
  unfold txtC
  rw [List.take_succ_eq_append_getElem h, List.flatMap_append]
  simp
theorem txtC_len {l : List Pan} (ho : ∀ p ∈ l, okP p = true) : (txtC l).length ≤ 401 * l.length := by
  induction l with
  | nil => exact Nat.le_refl _
  | cons p l ih =>
    have h1 := shown_len (ho p List.mem_cons_self)
    have h2 := ih fun q hq => ho q (List.mem_cons_of_mem _ hq)
    unfold txtC at h2 ⊢
    simp only [List.flatMap_cons, List.length_append, List.length_cons, List.length_nil]
    omega
section
variable {prog : Prog} (H : HasQ prog)
include H
theorem c185 {l : List Pan} (hw : ∀ p ∈ l, WfP p) : Pus prog 185 [.sl .ext (l.map Pan.row)] (.i .i64 (chainR l)) := by
  obtain ⟨x, rfl, h⟩ := p185 H.f185 (l0 := l) (K := fun x => x = chainR l) (by
    unfold T185_0
    refine ⟨fun h => by unfold chainR; rw [if_pos (by omega)], fun h P hP => ?_⟩
    refine loop_inv0 l.length (fun i => ∀ p ∈ l.take i, okP p = true) (by simp) (fun hI => hP _ ?_) fun i hi hI next => hP _ ?_
    · unfold T185_1 T185_2
      rw [List.take_length] at hI
      exact ⟨fun h => absurd h (by omega), fun _ => (chain_all (by omega) hI).symm⟩
    · unfold T185_1
      refine ⟨fun _ => ⟨by omega, _, get_at hi, _, c158 H.toHasO (hw _ (List.getElem_mem hi)), fun h1 => ?_, fun h1 => ?_⟩, fun h => absurd (show (i : Int) < l.length by omega) h⟩
      · have hn : okP l[i] ≠ true := fun h' => h1 (chkP_iff.2 h')
        rw [chain_not (by omega) (List.getElem_mem hi) hn, chkP_no (by simpa using hn)]
      · rw [wr_i64 (by omega) (by omega)]
        refine next fun p hp => ?_
        rw [List.take_succ_eq_append_getElem hi] at hp
        rcases List.mem_append.1 hp with hp | hp
        · exact hI p hp
        · rw [List.mem_singleton.1 hp]; exact chkP_iff.1 (Decidable.not_not.1 h1))
  exact h
theorem c163 {l : List Pan} (hw : ∀ p ∈ l, WfP p) : Pus prog 163 [.sl .ext (l.map Pan.row)] (.i .i64 (chainR l)) := by
  obtain ⟨x, rfl, h⟩ := p163 H.f163 (l0 := l) (K := fun x => x = chainR l) (by
    unfold T163_0
    refine ⟨fun h => by unfold chainR; rw [if_pos (by omega)], fun h P hP => ?_⟩
    refine loop_inv0 l.length (fun i => ∀ p ∈ l.take i, okP p = true) (by simp) (fun hI => hP _ ?_) fun i hi hI next => hP _ ?_
    · unfold T163_1 T163_2
      rw [List.take_length] at hI
      exact ⟨fun h => absurd h (by omega), fun _ => (chain_all (by omega) hI).symm⟩
    · unfold T163_1
      refine ⟨fun _ => ⟨by omega, _, get_at hi, _, c159 H.toHasO (hw _ (List.getElem_mem hi)), fun h1 => ?_, fun h1 => ?_⟩, fun h => absurd (show (i : Int) < l.length by omega) h⟩
      · have hn : okP l[i] ≠ true := fun h' => h1 (chkP_iff.2 h')
        rw [chain_not (by omega) (List.getElem_mem hi) hn, chkP_no (by simpa using hn)]
      · rw [wr_i64 (by omega) (by omega)]
        refine next fun p hp => ?_
        rw [List.take_succ_eq_append_getElem hi] at hp
        rcases List.mem_append.1 hp with hp | hp
        · exact hI p hp
        · rw [List.mem_singleton.1 hp]; exact chkP_iff.1 (Decidable.not_not.1 h1))
  exact h
omit H in
theorem idx_at {l : List Pan} {i : Nat} (hi : i < l.length) (h : ∀ j (hj : j < i), fl0 (l[j]'(by omega)) = false) (h1 : fl0 l[i] = true) : l.findIdx fl0 = i := by
  rw [List.findIdx_eq hi]
  exact ⟨h1, h⟩
omit H in
theorem idx_none {l : List Pan} (h : ∀ j (hj : j < l.length), fl0 l[j] = false) : ¬l.findIdx fl0 < l.length := by
  intro h1
  have := List.findIdx_getElem (w := h1)
  rw [h _ h1] at this
  cases this
theorem c165 {l : List Pan} (hw : ∀ p ∈ l, WfP p) : Pus prog 165 [.sl .ext (l.map Pan.row)] (.tup [.i .i64 (causeR l).1, .i .i64 (causeR l).2]) := by
  obtain ⟨x, y, ⟨rfl, rfl⟩, h⟩ := p165 H.f165 (l0 := l) (K := fun x y => x = (causeR l).1 ∧ y = (causeR l).2) (by
    unfold T165_0
    refine ⟨_, c185 H hw, fun h => ?_, fun h P hP => ?_⟩
    · unfold causeR; rw [if_neg h]; exact ⟨rfl, rfl⟩
    have h := Decidable.not_not.1 h
    have hl := (chain_ok h).1
    refine loop_inv0 l.length (fun i => ∀ j (hj : j < l.length), j < i → fl0 l[j] = false) (fun j _ hj => by omega) (fun hI => hP _ ?_) fun i hi hI next => hP _ ?_
    · unfold T165_1 T165_2 causeR
      rw [if_pos h, if_neg (idx_none fun j hj => hI j hj hj)]
      exact ⟨fun h => absurd h (by omega), fun _ => ⟨rfl, rfl⟩⟩
    · unfold T165_1
      refine ⟨fun _ => ⟨by omega, _, get_at hi, fun h1 => ?_, fun h1 => ?_⟩, fun h => absurd (show (i : Int) < l.length by omega) h⟩
      · have e := idx_at hi (fun j hj => hI j _ hj) (decide_eq_true h1)
        unfold causeR
        rw [if_pos h, e, if_pos hi]; exact ⟨rfl, rfl⟩
      · rw [wr_i64 (by omega) (by omega)]
        refine next fun j hj hji => ?_
        rcases Nat.lt_or_ge j i with h2 | h2
        · exact hI j hj h2
        · have : j = i := by omega
          subst this; exact decide_eq_false h1)
  exact h
theorem c162 {l : List Pan} (hw : ∀ p ∈ l, WfP p) : Pus prog 162 [.sl .ext (l.map Pan.row)] (.b (greatC l)) := by
  obtain ⟨x, rfl, h⟩ := p162 H.f162 (l0 := l) (K := fun x => x = greatC l) (by
    have t1 : (decide (20 < l.length) && decide (l.length ≤ 410)) = false → ¬420 < l.length → T162_1 prog (fun x => x = greatC l) l := fun h1 h2 => by
      unfold T162_1
      intro P hP
      have e : greatC l = l.any (fun p => greatv p.value) := by unfold greatC; rw [h1, decide_eq_false h2]; rfl
      rw [e] at hP
      refine loop_inv0 l.length (fun i => ∀ p ∈ l.take i, greatv p.value = false) (by simp) (fun hI => hP _ ?_) fun i hi hI next => hP _ ?_
      · unfold T162_2 T162_3
        rw [List.take_length] at hI
        exact ⟨fun h => absurd h (by omega), fun _ => (List.any_eq_false.2 fun p hp => by simpa using hI p hp).symm⟩
      · unfold T162_2
        refine ⟨fun _ => ⟨by omega, _, get_at hi, _, c71 H.toHas38 (hw _ (List.getElem_mem hi)).v, fun h1 => (List.any_eq_true.2 ⟨_, List.getElem_mem hi, h1⟩).symm, fun h1 => ?_⟩, fun h => absurd (show (i : Int) < l.length by omega) h⟩
        rw [wr_i64 (by omega) (by omega)]
        refine next fun p hp => ?_
        rw [List.take_succ_eq_append_getElem hi] at hp
        rcases List.mem_append.1 hp with hp | hp
        · exact hI p hp
        · rw [List.mem_singleton.1 hp]; exact h1
    unfold T162_0
    refine ⟨fun h1 => ⟨fun h2 => ?_, fun h2 => ⟨fun h3 => ?_, fun h3 => ?_⟩⟩, fun h1 => ⟨fun h3 => ?_, fun h3 => ?_⟩⟩
    · unfold greatC; rw [decide_eq_true (by omega), decide_eq_true (by omega)]; rfl
    · unfold greatC; rw [decide_eq_true (p := 420 < l.length) (by omega)]; simp
    · exact t1 (by rw [decide_eq_false (p := l.length ≤ 410) (by omega)]; simp) (by omega)
    · omega
    · exact t1 (by rw [decide_eq_false (p := 20 < l.length) (by omega)]; rfl) (by omega))
  exact h
theorem c164 {l : List Pan} (hw : ∀ p ∈ l, WfP p) : Pus prog 164 [.sl .ext (l.map Pan.row)] (.tup [.s (textR l).1, .i .i64 (textR l).2]) := by
  obtain ⟨x, y, ⟨rfl, rfl⟩, h⟩ := p164 H.f164 (l0 := l) (K := fun x y => x = (textR l).1 ∧ y = (textR l).2) (by
    unfold T164_0
    refine ⟨_, c185 H hw, fun h => ?_, fun h P hP => ?_⟩
    · unfold textR; rw [if_neg h]; exact ⟨rfl, rfl⟩
    have h := Decidable.not_not.1 h
    obtain ⟨hl, ho⟩ := chain_ok h
    have hb : ∀ i, (txtC (l.take i)).length ≤ 1000000 := fun i => by
      have h1 := txtC_len (l := l.take i) fun p hp => ho p (List.mem_of_mem_take hp)
      have h2 : (l.take i).length ≤ l.length := by simp only [List.length_take]; omega
      omega
    refine loop_inv (P := fun b i => P i b) (fun i => txtC (l.take i)) l.length (fun _ => True) trivial (fun _ => hP _ _ ?_) fun i hi _ next => hP _ _ ?_
    · unfold T164_1 T164_2
      rw [List.take_length]
      have hb2 := hb l.length
      rw [List.take_length] at hb2
      refine ⟨fun h => absurd h (by omega), fun _ => ⟨_, c105 H.toHasB (by rw [maxBytes_eq]; omega), ?_⟩⟩
      unfold textR; rw [if_pos h]; exact ⟨rfl, rfl⟩
    · have hoi := ho _ (List.getElem_mem hi)
      have hs := shown_len hoi
      have hbi := hb i
      have hln : lnP l[i] = (shown l[i], 0) := by unfold lnP; rw [if_pos hoi]
      have k := c154 H.toHasO (hw _ (List.getElem_mem hi))
      rw [hln] at k
      unfold T164_1
      refine ⟨fun _ => ⟨by omega, _, get_at hi, _, _, k, fun h1 => absurd rfl h1, fun _ => ⟨?_, _, _, c126 H.toHasB ?_ (by simp), ?_⟩⟩, fun h => absurd (show (i : Int) < l.length by omega) h⟩
      · simp only [List.length_cons, List.length_nil, maxStr_eq]; omega
      · simp only [List.length_append, List.length_cons, List.length_nil, maxBytes_eq]; omega
      · rw [wr_i64 (by omega) (by omega), ← txtC_take hi]
        exact next trivial)
  exact h
theorem c171 {p : Pan} (hp : WfP p) {s : Bytes} (hs : s.length ≤ 1000000000) (ho : okP p = true) (e : shown p = s) : Pus prog 171 [p.av, .s s] (.b true) := by
  obtain ⟨x, rfl, h⟩ := p171 H.f171 (p0 := p) (want1 := s) (K := fun x => x = true) (by
    unfold T171_0
    have k1 := c154 H.toHasO hp
    rw [show lnP p = (s, 0) by unfold lnP; rw [if_pos ho, e]] at k1
    have k2 := c156 H.toHasP hs
    rw [show rlP s = (p, 0) by rw [← e]; exact rlP_shown ho hp.v] at k2
    refine ⟨_, _, k1, _, _, k2, fun _ => ⟨fun _ => ⟨fun _ => ⟨_, c160 H.toHasP hp.v, sameP_rfl p⟩, fun h => absurd rfl h⟩, fun h => absurd rfl h⟩, fun h => absurd rfl h⟩)
  exact h
theorem c176 {s : Bytes} (hs : s.length ≤ 1000000000) (e : rlP s = (pz, 12)) : Pus prog 176 [.s s] (.b true) := by
  obtain ⟨x, rfl, h⟩ := p176 H.f176 (s0 := s) (K := fun x => x = true) (by
    unfold T176_0
    have k2 := c156 H.toHasP hs
    rw [e] at k2
    exact ⟨_, _, k2, fun _ => ⟨_, c160 H.toHasP (p := pz) (q := pz) Wf.zero, sameP_rfl pz⟩, fun h => absurd rfl h⟩)
  exact h
theorem c172 (n : Int) : Pus prog 172 [.i .i64 n] (Val.mk 2 n [] [] false).av := by
  obtain ⟨x, rfl, h⟩ := p172 H.f172 (n0 := n) (K := fun x => x = Val.mk 2 n [] [] false) rfl
  exact h
theorem c174 (s : Bytes) : Pus prog 174 [.s s] (Val.mk 3 0 s [] false).av := by
  obtain ⟨x, rfl, h⟩ := p174 H.f174 (s0 := s) (K := fun x => x = Val.mk 3 0 s [] false) rfl
  exact h
end
def pG0 : Pan := ⟨3, Val.mk 3 0 [97, 32, 98] [] false, 1⟩
def pG1 : Pan := ⟨4, Val.mk 2 1 [] [] false, 4⟩
def pG2 : Pan := ⟨0, vz, 2⟩
def pG3 : Pan := ⟨1, Val.mk 2 (-1) [] [] false, 0⟩
theorem wG0 : WfP pG0 := ⟨by decide, .mk (by decide) (by decide) (by decide) (by simp), by decide⟩
theorem wG1 : WfP pG1 := ⟨by decide, .mk (by decide) (by decide) (by decide) (by simp), by decide⟩
theorem wG2 : WfP pG2 := ⟨by decide, Wf.zero, by decide⟩
theorem wG3 : WfP pG3 := ⟨by decide, .mk (by decide) (by decide) (by decide) (by simp), by decide⟩
theorem wGs : ∀ p ∈ [pG0, pG1, pG2], WfP p := by
  intro p hp
  simp only [List.mem_cons, List.not_mem_nil, or_false] at hp
  rcases hp with rfl | rfl | rfl
  · exact wG0
  · exact wG1
  · exact wG2
theorem wGs4 : ∀ p ∈ [pG0, pG1, pG2, pG3], WfP p := by
  intro p hp
  simp only [List.mem_cons, List.not_mem_nil, or_false] at hp
  rcases hp with rfl | rfl | rfl | rfl
  · exact wG0
  · exact wG1
  · exact wG2
  · exact wG3
theorem okGs : okP pG0 = true ∧ okP pG1 = true ∧ okP pG2 = true := by decide +kernel
theorem causeG : causeR [pG0, pG1, pG2] = (0, 6) := by decide +kernel
theorem causeG4 : causeR [pG0, pG1, pG2, pG3] = (3, 0) := by decide +kernel
def tG : Bytes := [112, 97, 110, 105, 99, 32, 34, 97, 32, 98, 34, 32, 114, 101, 99, 111, 118, 101, 114, 101, 100, 10, 102, 97, 117, 108, 116, 32, 49, 58, 32, 100, 105, 118, 105, 115, 105, 111, 110, 32, 98, 121, 32, 122, 101, 114, 111, 32, 97, 98, 111, 114, 116, 101, 100, 10, 101, 120, 105, 116, 10]
theorem textG : textR [pG0, pG1, pG2] = (tG, 0) := by decide +kernel
theorem badG1 : rlP [112, 97, 110, 105, 99, 32, 110, 105, 108] = (pz, 12) := by
  rcases rlP_or [112, 97, 110, 105, 99, 32, 110, 105, 108] (by decide) with h | h
  · exact absurd h (by decide +kernel)
  · exact h
theorem badG2 : rlP [101, 120, 105, 116, 32, 114, 101, 99, 111, 118, 101, 114, 101, 100] = (pz, 12) := by
  rcases rlP_or [101, 120, 105, 116, 32, 114, 101, 99, 111, 118, 101, 114, 101, 100] (by decide) with h | h
  · exact absurd h (by decide +kernel)
  · exact h
section
variable {prog : Prog} (H : HasQ prog)
include H
theorem c184 : PuN prog 184 [] (fun r => r = .sl .full ([pG0, pG1, pG2].map Pan.row)) := by
  refine (p184 H.f184 (K := fun l => l = [pG0, pG1, pG2]) (by
    unfold T184_0
    exact ⟨_, c174 H _, _, c172 H _, rfl⟩)).to fun r ⟨v, h1, h2⟩ => ?_
  rw [h1, h2]
theorem c161 : Pus prog 161 [] (.b true) := by
  obtain ⟨x, rfl, h⟩ := p161 H.f161 (K := fun x => x = true) (by
    unfold T161_0 T161_1
    have k1 := c165 H wGs
    rw [causeG] at k1
    have k2 := c165 H wGs4
    rw [causeG4] at k2
    have k3 := c164 H wGs
    rw [textG] at k3
    obtain ⟨o0, o1, o2⟩ := okGs
    refine ⟨_, c184 H, _, _, k1, ?_⟩
    unfold T161_2
    refine ⟨_, c184 H, _, c172 H _, ⟨by decide, by decide⟩, _, _, k2, _, c184 H, _, _, k3, _, c184 H, _, rfl, _, c171 H wG0 (by decide) o0 (by decide +kernel), fun _ => ⟨_, c184 H, _, rfl, _, c171 H wG1 (by decide) o1 (by decide +kernel), fun _ => ⟨_, c184 H, _, rfl, _, c171 H wG2 (by decide) o2 (by decide +kernel), fun _ => ⟨fun _ => ⟨fun _ => ⟨fun _ => ⟨_, c176 H (by decide) badG1, fun _ => ⟨_, c176 H (by decide) badG2, fun _ => ⟨fun _ => decide_eq_true rfl, fun h => absurd rfl h⟩, fun h => (by cases h)⟩, fun h => (by cases h)⟩, fun h => absurd rfl h⟩, fun h => absurd rfl h⟩, fun h => absurd rfl h⟩, fun h => (by cases h)⟩, fun h => (by cases h)⟩, fun h => (by cases h)⟩)
  exact h
end
end Go.AM

namespace Go.AM
open Go
def spl : Bytes → List Bytes × Bytes
  | [] => ([], [])
  | c :: r => if c = 10 then ([] :: (spl r).1, (spl r).2) else match (spl r).1 with
    | [] => ([], c :: (spl r).2)
    | x :: l => ((c :: x) :: l, (spl r).2)
def unl10 (l : List Bytes) : Bytes := l.flatMap fun x => x ++ [10]
theorem unl10_app (l m : List Bytes) : unl10 (l ++ m) = unl10 l ++ unl10 m := by unfold unl10; rw [List.flatMap_append]
theorem unl10_cons (x : Bytes) (l : List Bytes) : unl10 (x :: l) = x ++ 10 :: unl10 l := by unfold unl10; simp
theorem spl_join : ∀ s : Bytes, s = unl10 (spl s).1 ++ (spl s).2
  | [] => rfl
  | c :: r => by
    have ih := spl_join r
    unfold spl
    split
    · rename_i h
      subst h
      simp only [unl10_cons, List.nil_append, List.cons_append]
      rw [← ih]
    · split
      · rename_i h
        rw [h] at ih
        simp only [unl10, List.flatMap_nil, List.nil_append] at ih ⊢
        rw [← ih]
      · rename_i x l h
        rw [h, unl10_cons] at ih
        simp only [unl10_cons, List.cons_append]
        rw [← ih]
theorem spl_nl : ∀ s : Bytes, (∀ x ∈ (spl s).1, (10 : UInt8) ∉ x) ∧ (10 : UInt8) ∉ (spl s).2
  | [] => ⟨fun x h => (by simp [spl] at h), by simp [spl]⟩
  | c :: r => by
    have ih := spl_nl r
    unfold spl
    split
    · refine ⟨fun x h => ?_, ih.2⟩
      simp only [List.mem_cons] at h
      rcases h with rfl | h
      · simp
      · exact ih.1 x h
    · rename_i hc
      have hc' : (10 : UInt8) ≠ c := fun h => hc h.symm
      split
      · exact ⟨fun x h => by simp at h, by simp only [List.mem_cons, not_or]; exact ⟨hc', ih.2⟩⟩
      · rename_i x l h
        rw [h] at ih
        refine ⟨fun y hy => ?_, ih.2⟩
        simp only [List.mem_cons] at hy
        rcases hy with rfl | hy
        · simp only [List.mem_cons, not_or]
          exact ⟨hc', ih.1 x (by simp)⟩
        · exact ih.1 y (by simp [hy])
theorem spl_end : ∀ e : Bytes, (10 : UInt8) ∉ e → spl e = ([], e)
  | [], _ => rfl
  | c :: r, h => by
    simp only [List.mem_cons, not_or] at h
    unfold spl
    rw [if_neg (fun e => h.1 e.symm), spl_end r h.2]
theorem spl_line : ∀ (x r : Bytes), (10 : UInt8) ∉ x → spl (x ++ 10 :: r) = (x :: (spl r).1, (spl r).2)
  | [], r, _ => by rw [List.nil_append, spl, if_pos rfl]
  | c :: x, r, h => by
    simp only [List.mem_cons, not_or] at h
    rw [List.cons_append, spl, if_neg (fun e => h.1 e.symm), spl_line x r h.2]
theorem spl_unl : ∀ (l : List Bytes) (e : Bytes), (∀ x ∈ l, (10 : UInt8) ∉ x) → (10 : UInt8) ∉ e → spl (unl10 l ++ e) = (l, e)
  | [], e, _, he => by simpa [unl10] using spl_end e he
  | x :: l, e, h, he => by
    rw [unl10_cons, List.append_assoc, List.cons_append, spl_line x _ (h x (by simp)), spl_unl l e (fun y hy => h y (by simp [hy])) he]
theorem spl_count (s : Bytes) : (spl s).1.length = s.count 10 := by
  have h := spl_join s
  have h1 := spl_nl s
  rw [congrArg (List.count (10 : UInt8)) h, List.count_append, List.count_eq_zero.2 h1.2, Nat.add_zero]
  generalize (spl s).1 = l at h1
  clear h
  replace h1 := h1.1
  induction l with
  | nil => rfl
  | cons x l ih =>
    rw [unl10_cons, List.count_append, List.count_eq_zero.2 (h1 x (by simp)), List.count_cons_self, List.length_cons, ih fun y hy => h1 y (by simp [hy])]
    omega
theorem unl10_last {l : List Bytes} (h : l ≠ []) : ∃ b, unl10 l = b ++ [10] := by
  obtain ⟨m, x, rfl⟩ : ∃ m x, l = m ++ [x] := ⟨l.dropLast, l.getLast h, (List.dropLast_concat_getLast h).symm⟩
  exact ⟨unl10 m ++ x, by rw [unl10_app]; simp [unl10]⟩
theorem spl_rest {s : Bytes} : (spl s).2 = [] ↔ s = [] ∨ (cuts [10] s).2 = true := by
  constructor
  · intro h
    have h1 := spl_join s
    rw [h, List.append_nil] at h1
    by_cases h2 : (spl s).1 = []
    · rw [h2] at h1; exact .inl h1
    · obtain ⟨b, hb⟩ := unl10_last h2
      rw [h1, hb]
      exact .inr (by rw [cuts_app])
  · rintro (rfl | h)
    · rfl
    · have h1 := cuts_yes h
      generalize (cuts [10] s).1 = b at h1
      subst h1
      have h2 : ∀ b : Bytes, (spl (b ++ [10])).2 = [] := by
        intro b
        induction b with
        | nil => rfl
        | cons c b ih =>
          rw [List.cons_append, spl]
          split
          · exact ih
          · split
            · rename_i h
              have := spl_join (b ++ [10])
              rw [h, ih] at this
              simp [unl10] at this
            · exact ih
      exact h2 b
def rtR (s : Bytes) : List Pan × Int := if 120000 < s.length then ([], 4) else if (spl s).2 ≠ [] ∨ 410 < (spl s).1.length then ([], 12) else
  if (spl s).1.all (fun x => decide ((rlP x).2 = 0)) = true then ((spl s).1.map fun x => (rlP x).1, 0) else ([], 12)
theorem hexd_nl : ∀ k : Fin 16, (10 : UInt8) ≠ hexd k := by decide
theorem hexd_nl' (n : Nat) : (10 : UInt8) ≠ hexd n := by
  by_cases h : n < 16
  · exact hexd_nl ⟨n, h⟩
  · unfold hexd
    rw [List.getD_eq_getElem?_getD, List.getElem?_eq_none (by simp; omega)]
    decide
theorem ds_nl (b : Nat) : ∀ f n, (10 : UInt8) ∉ ds b f n
  | 0, _ => by simp [ds]
  | f + 1, n => by
    unfold ds
    split
    · simp only [List.mem_singleton]; exact hexd_nl' n
    · simp only [List.mem_append, List.mem_singleton, not_or]
      exact ⟨ds_nl b f (n / b), hexd_nl' _⟩
theorem num_nl (n : Int) : (10 : UInt8) ∉ num n := by
  unfold num
  split
  · simp only [List.mem_cons, not_or]
    exact ⟨by decide, ds_nl _ _ _⟩
  · exact ds_nl _ _ _
theorem chr_nl (c : UInt8) : (10 : UInt8) ∉ chr c := by
  unfold chr
  split
  · rename_i h
    simp only [List.mem_cons, List.not_mem_nil, or_false, not_or]
    exact ⟨by decide, fun e => by subst e; revert h; decide⟩
  · split
    · decide
    · rename_i h
      split
      · simp only [List.mem_cons, List.not_mem_nil, or_false, not_or]
        exact ⟨by decide, by decide, hexd_nl' _, hexd_nl' _⟩
      · simp only [List.mem_singleton]
        exact fun e => h (by rw [← e]; rfl)
theorem quo_nl (s : Bytes) : (10 : UInt8) ∉ quo s := by
  unfold quo chrs
  simp only [List.mem_cons, List.mem_append, List.mem_flatMap, List.not_mem_nil, or_false, not_or, not_exists, not_and]
  exact ⟨by decide, fun c _ => chr_nl c, by decide⟩
mutual
theorem txt_nl : ∀ v : Val, (10 : UInt8) ∉ txt v
  | .mk k n s l c => by
    have h := txts_nl l
    rw [txt]
    split
    · split <;> decide
    · split
      · exact num_nl n
      · split
        · exact quo_nl s
        · split
          · simp only [List.mem_cons, List.mem_append, List.not_mem_nil, or_false, not_or]; exact ⟨by decide, h, by decide⟩
          · split
            · simp only [List.mem_cons, List.mem_append, List.not_mem_nil, or_false, not_or]; exact ⟨by decide, h, by decide⟩
            · split
              · split
                · decide
                · simp only [List.mem_cons, List.mem_append, List.not_mem_nil, or_false, not_or]; exact ⟨by decide, h, by decide⟩
              · split
                · decide
                · split
                  · decide
                  · simp only [List.mem_cons, not_or]; exact ⟨by decide, h⟩
theorem txts_nl : ∀ l : List Val, (10 : UInt8) ∉ txts l
  | [] => by simp [txts]
  | v :: l => by rw [txts]; simp only [List.mem_append, not_or]; exact ⟨txt_nl v, txtl_nl l⟩
theorem txtl_nl : ∀ l : List Val, (10 : UInt8) ∉ txtl l
  | [] => by simp [txtl]
  | v :: l => by rw [txtl]; simp only [List.mem_cons, List.mem_append, not_or]; exact ⟨by decide, by decide, txt_nl v, txtl_nl l⟩
end
theorem shown_nl (p : Pan) : (10 : UInt8) ∉ shown p := by
  unfold shown baseP sufP
  simp only [List.mem_append, not_or]
  refine ⟨?_, ?_, ?_⟩
  · split
    · decide
    · split
      · unfold faultT
        split
        · decide
        · split
          · decide
          · split <;> decide
      · simp only [List.mem_append, not_or]
        exact ⟨by decide, txt_nl _⟩
  · split <;> decide
  · split <;> decide
theorem txtC_unl (l : List Pan) : txtC l = unl10 (l.map shown) := by unfold txtC unl10; rw [List.flatMap_map]
theorem spl_txtC (l : List Pan) : spl (txtC l) = (l.map shown, []) := by
  rw [txtC_unl, ← List.append_nil (unl10 _)]
  exact spl_unl _ _ (fun x h => by rw [List.mem_map] at h; obtain ⟨p, _, rfl⟩ := h; exact shown_nl p) (by simp)
theorem rtR_txtC {l : List Pan} (h : chainR l = 0) (hw : ∀ p ∈ l, WfP p) (hl : l.length ≤ 200) : rtR (txtC l) = (l, 0) := by
  have ho := chain_ok h
  unfold rtR
  rw [if_neg (by have := txtC_len ho.2; omega), spl_txtC, if_neg (by simp; omega), if_pos]
  · rw [List.map_map]
    congr 1
    rw [List.map_congr_left (g := id) fun p hp => by show (rlP (shown p)).1 = p; rw [rlP_shown (ho.2 p hp) (hw p hp).v], List.map_id]
  · rw [List.all_map, List.all_eq_true]
    intro p hp
    show decide ((rlP (shown p)).2 = 0) = true
    rw [rlP_shown (ho.2 p hp) (hw p hp).v]; rfl
theorem rtR_inv {s : Bytes} (h : (rtR s).2 = 0) : chainR (rtR s).1 = 0 ∧ txtC (rtR s).1 = s ∧ ∀ p ∈ (rtR s).1, WfP p := by
  unfold rtR at h ⊢
  split at h
  · cases h
  rename_i h1
  rw [if_neg h1]
  split at h
  · cases h
  rename_i h2
  rw [if_neg h2]
  split at h
  case isFalse => cases h
  rename_i h3
  rw [if_pos h3]
  have h4 : ∀ x ∈ (spl s).1, (rlP x).2 = 0 := fun x hx => by simpa using List.all_eq_true.1 h3 x hx
  have h5 : (spl s).2 = [] := by
    by_cases e : (spl s).2 = []
    · exact e
    · exact absurd (.inl e) h2
  refine ⟨chain_all (by rw [List.length_map]; exact fun h => h2 (.inr h)) fun p hp => ?_, ?_, fun p hp => ?_⟩
  · rw [List.mem_map] at hp
    obtain ⟨x, hx, rfl⟩ := hp
    exact (rlP_inv (h4 x hx)).1
  · rw [txtC_unl, List.map_map, List.map_congr_left (g := id) (f := shown ∘ fun x => (rlP x).1) fun x hx => (rlP_inv (h4 x hx)).2.2.1, List.map_id]
    have := spl_join s
    rw [h5, List.append_nil] at this
    exact this.symm
  · rw [List.mem_map] at hp
    obtain ⟨x, hx, rfl⟩ := hp
    exact (rlP_inv (h4 x hx)).2.1
theorem rtR_or (s : Bytes) (h : s.length ≤ 120000) : (rtR s).2 = 0 ∨ rtR s = ([], 12) := by
  unfold rtR
  rw [if_neg (by omega)]
  split
  · exact .inr rfl
  · split
    · exact .inl rfl
    · exact .inr rfl
end Go.AM

namespace Go.AM
open Go
section
variable {prog : Prog} (H : HasQ prog)
include H
end
end Go.AM

namespace Go.AM
open Go
section
variable {prog : Prog} (H : HasQ prog)
include H
theorem c170 {l : List Pan} (hl : l.length ≤ 1000000000) (hw : ∀ p ∈ l, WfP p) : Pus prog 170 [.sl .ext (l.map Pan.row), .sl .ext (l.map Pan.row)] (.b true) := by
  obtain ⟨x, rfl, h⟩ := p170 H.f170 (a0 := l) (b1 := l) (K := fun x => x = true) (by
    unfold T170_0
    refine ⟨fun h => absurd rfl h, fun _ P hP => ?_⟩
    refine loop_inv0 l.length (fun _ => True) trivial (fun _ => hP _ ?_) fun i hi _ next => hP _ ?_
    · unfold T170_1 T170_2
      exact ⟨fun h => absurd h (by omega), fun _ => rfl⟩
    · have k := c160 H.toHasP (p := l[i]) (q := l[i]) (hw _ (List.getElem_mem hi)).v
      rw [sameP_rfl] at k
      unfold T170_1
      refine ⟨fun _ => ⟨by omega, _, get_at hi, by omega, _, get_at hi, _, k, fun h => (by cases h), fun _ => ?_⟩, fun h => absurd (show (i : Int) < l.length by omega) h⟩
      rw [wr_i64 (by omega) (by omega)]
      exact next trivial)
  exact h
end
end Go.AM

namespace Go.AM
open Go
theorem spl_snoc (c : UInt8) : ∀ a : Bytes, spl (a ++ [c]) = if c = 10 then ((spl a).1 ++ [(spl a).2], []) else ((spl a).1, (spl a).2 ++ [c])
  | [] => by
    simp only [List.nil_append, spl]
  | x :: a => by
    have ih := spl_snoc c a
    rw [List.cons_append]
    conv => lhs; unfold spl
    rw [ih]
    conv => rhs; unfold spl
    by_cases hc : c = 10
    · rw [if_pos hc]
      by_cases hx : x = 10
      · simp only [if_pos hx, if_pos hc, List.cons_append]
      · simp only [if_neg hx, if_pos hc]
        cases h : (spl a).1 with
        | nil => rfl
        | cons y l => rfl
    · rw [if_neg hc]
      by_cases hx : x = 10
      · simp only [if_pos hx, if_neg hc]
      · simp only [if_neg hx, if_neg hc]
        cases h : (spl a).1 with
        | nil => rfl
        | cons y l => rfl
theorem spl_drop (a : Bytes) : a.drop (a.length - (spl a).2.length) = (spl a).2 := by
  have h := spl_join a
  generalize (spl a).1 = l at h
  generalize (spl a).2 = e at h
  subst h
  rw [List.length_append, Nat.add_sub_cancel, List.drop_left]
theorem spl_le (a : Bytes) : (spl a).2.length ≤ a.length ∧ (spl a).1.length ≤ a.length := by
  constructor
  · have h := congrArg List.length (spl_join a)
    rw [List.length_append] at h
    omega
  · rw [spl_count]; exact List.count_le_length
theorem spl_len (a : Bytes) : ∀ x ∈ (spl a).1, x.length ≤ a.length := by
  intro x hx
  have h := congrArg List.length (spl_join a)
  rw [List.length_append] at h
  have : ∀ l : List Bytes, x ∈ l → x.length ≤ (unl10 l).length := by
    intro l
    induction l with
    | nil => intro h; cases h
    | cons y l ih =>
      intro h
      rw [unl10_cons, List.length_append, List.length_cons]
      rcases List.mem_cons.1 h with rfl | h
      · omega
      · have := ih h; omega
  have := this _ hx
  omega
theorem greatC_len {l : List Pan} (h : greatC l = false) (hc : chainR l = 0) : l.length ≤ 20 := by
  have := (chain_ok hc).1
  unfold greatC at h
  simp only [Bool.or_eq_false_iff, Bool.and_eq_false_iff, decide_eq_false_iff_not] at h
  omega
structure HasR (prog : Prog) : Prop extends HasQ prog where
  f177 : prog.fn 177 = some pf177
  f167 : prog.fn 167 = none
  o167 : ∀ s : Bytes, s.length ≤ 1000000000 → prog.orac 167 [.s s] = some (.tup [.sl .ext ((rtR s).1.map Pan.row), .i .i64 (rtR s).2])
section
variable {prog : Prog}
theorem c177 (hf : prog.fn 177 = some pf177) {s : Bytes} (hs : s.length ≤ 1000000000) : Pus prog 177 [.s s] (.tup [.sl .ext ((spl s).1.map rowS), .b (decide ((spl s).2 = []))]) := by
  obtain ⟨x, y, ⟨rfl, rfl⟩, h⟩ := p177 hf (s0 := s) (K := fun x y => x = (spl s).1 ∧ y = decide ((spl s).2 = [])) (by
    unfold T177_0
    intro P hP
    refine loop_up (P := fun (a : List Bytes × Int) i => P a.1 a.2 i) (fun i => ((spl (s.take i)).1, ((i - (spl (s.take i)).2.length : Nat) : Int))) s.length ?_ fun i hi next => ?_
    · refine hP _ _ _ ?_
      unfold T177_1 T177_3
      rw [List.take_length]
      refine ⟨fun h => absurd h (by omega), fun _ => ⟨rfl, ?_⟩⟩
      have := (spl_le s).1
      rw [decide_eq_decide]
      constructor
      · intro h
        exact List.length_eq_zero_iff.1 (by omega)
      · intro h
        rw [h]; simp
    · refine hP _ _ _ ?_
      have h1 := spl_le (s.take i)
      have ht : (s.take i).length = i := by rw [List.length_take]; omega
      rw [ht] at h1
      have e : spl (s.take (i + 1)) = _ := (congrArg spl (List.take_succ_eq_append_getElem hi)).trans (spl_snoc s[i] (s.take i))
      simp only [e] at next
      unfold T177_1
      refine ⟨fun _ => ⟨by omega, s[i], by rw [toNat_cast]; exact List.getElem?_eq_getElem hi, fun h10 => ?_, fun h10 => ?_⟩, fun h => absurd (show (i : Int) < s.length by omega) h⟩
      · have h10 : s[i] = 10 := by
          apply UInt8.toNat_inj.1
          exact Int.ofNat_inj.1 h10
        rw [if_pos h10] at next
        simp only [List.length_nil, Nat.sub_zero] at next
        have e2 : (s.drop (((i - (spl (s.take i)).2.length : Nat) : Int)).toNat).take ((i : Int).toNat - (((i - (spl (s.take i)).2.length : Nat) : Int)).toNat) = (spl (s.take i)).2 := by
          have := spl_drop (s.take i)
          rw [ht, List.drop_take] at this
          rw [toNat_cast, toNat_cast]
          exact this
        unfold T177_2
        rw [e2, wr_i64 (by omega) (by omega)]
        refine ⟨by omega, by omega, by omega, ⟨?_, ?_⟩, next⟩ <;> simp only [List.length_cons, List.length_nil, maxBytes] <;> omega
      · have h10 : ¬s[i] = 10 := fun h => h10 (by rw [h]; rfl)
        rw [if_neg h10] at next
        unfold T177_2
        rw [wr_i64 (by omega) (by omega)]
        have e3 : (i + 1 - ((spl (s.take i)).2 ++ [s[i]]).length : Nat) = i - (spl (s.take i)).2.length := by
          rw [List.length_append, List.length_cons, List.length_nil]; omega
        simp only [e3] at next
        exact next)
  exact h
variable (H : HasR prog)
include H
theorem c167 {s : Bytes} (hs : s.length ≤ 1000000000) : Pus prog 167 [.s s] (.tup [.sl .ext ((rtR s).1.map Pan.row), .i .i64 (rtR s).2]) := Pus.orac H.f167 (H.o167 s hs) rfl
theorem law153 (hf : prog.fn 153 = some pf153) {l : List Pan} (hw : ∀ p ∈ l, WfP p) (s : Bytes) : Pus prog 153 [.sl .ext (l.map Pan.row), .s s] (.b true) := by
  obtain ⟨x, rfl, h⟩ := p153 hf (l0 := l) (s1 := s) (K := fun x => x = true) (by
    unfold T153_0 T153_1 T153_2
    refine ⟨_, c161 H.toHasQ, _, c162 H.toHasQ hw, fun _ => rfl, fun hg => ⟨fun _ => rfl, fun hs => ⟨fun _ => rfl, fun _ => ?_⟩⟩⟩
    have hs : s.length ≤ 3000 := by omega
    have hs' : s.length ≤ 1000000000 := by omega
    have fin : T153_9 prog (fun x => x = true) s true := by
      unfold T153_9
      refine ⟨_, _, c167 H hs', fun h => ⟨fun _ => ?_, fun h => (by cases h)⟩, fun h => ?_⟩
      · rcases rtR_or s (by omega) with h1 | h1
        · exact absurd h1 h
        · rw [h1]; rfl
      · have h := Decidable.not_not.1 h
        obtain ⟨h1, h2, h3⟩ := rtR_inv h
        unfold T153_10
        have e : textR (rtR s).1 = (s, 0) := by unfold textR; rw [if_pos h1, h2]
        refine ⟨_, _, c164 H.toHasQ h3, fun _ => ⟨fun _ => ?_, fun h => ?_⟩, fun h => (by cases h)⟩
        · rw [e]; exact decide_eq_true rfl
        · rw [e] at h; exact absurd rfl h
    unfold T153_3 T153_4
    have hte : (textR l).2 = chainR l := by
      unfold textR
      split
      · rename_i h; rw [h]
      · rfl
    refine ⟨_, _, c164 H.toHasQ hw, _, c163 H.toHasQ hw, fun h => absurd (by rw [hte]) h, fun _ => ?_⟩
    unfold T153_5 T153_6
    refine ⟨fun h0 => ?_, fun _ => fin⟩
    have hc : chainR l = 0 := by rw [hte] at h0; simpa using h0
    have hlen := greatC_len hg hc
    have hE : (textR l).1 = txtC l := by unfold textR; rw [if_pos hc]
    rw [hE]
    have ho := chain_ok hc
    have htl := txtC_len ho.2
    have hrt := rtR_txtC hc hw (by omega)
    have k1 := c167 H (s := txtC l) (by omega)
    rw [hrt] at k1
    have k2 := c177 H.f177 (s := txtC l) (by omega)
    rw [spl_txtC] at k2
    refine ⟨_, _, k1, _, _, k2, fun h => absurd rfl h, fun _ => ⟨_, c170 H.toHasQ (show l.length ≤ 1000000000 by omega) hw, fun h => (by cases h), fun _ => ⟨fun h => (by cases h), fun _ => ⟨fun h => absurd (by simp) h, fun _ => ?_⟩⟩⟩⟩
    unfold T153_7
    intro P hP
    refine loop_up0 l.length (hP _ ?_) fun i hi next => hP _ ?_
    · unfold T153_8
      exact ⟨fun h => absurd h (by omega), fun _ => fin⟩
    · have k := c154 H.toHasO (hw _ (List.getElem_mem hi))
      have hoi := ho.2 _ (List.getElem_mem hi)
      have el : lnP l[i] = (shown l[i], 0) := by unfold lnP; rw [if_pos hoi]
      rw [el] at k
      unfold T153_8
      refine ⟨fun _ => ⟨by omega, _, get_at hi, _, _, k, fun h => absurd rfl h, fun _ => ⟨by omega, shown l[i], ?_, fun h => absurd rfl h, fun _ => ?_⟩⟩, fun h => absurd (show (i : Int) < l.length by omega) h⟩
      · rw [toNat_cast, List.getElem?_map, List.getElem?_eq_getElem hi]; rfl
      · rw [wr_i64 (by omega) (by omega)]
        exact next)
  exact h
end
end Go.AM

namespace Go.AM
open Go
abbrev ts : List Nat → List Opd
  | [] => []
  | a :: r => .t a :: ts r
abbrev zs : AV := .s []
abbrev Rou.cs (V : Rou) : List AV := [.i .u8 V.status, .i .i64 V.key, .sl .ext (List.map Frm.row V.frames), .sl .ext (List.map Dfr.row V.defers), .sl .ext (List.map Pan.row V.panics)]
abbrev Img.cs (V : Img) : List AV := [.sl .ext (List.map Typ.row V.types), .sl .ext (List.map rowS V.texts), .sl .ext (List.map Fun.row V.funcs)]
abbrev Fun.cs (V : Fun) : List AV := [.s V.name, .i .i64 V.params, .i .i64 V.result, .sl .ext (List.map Fld.row V.slots), .sl .ext (List.map Ins.row V.code), .sl .ext (List.map Rnn.row V.sizes), .sl .ext (List.map Rnn.row V.lives)]
abbrev Qry.cs (V : Qry) : List AV := [.i .u8 V.kind, .i .i64 V.g, .i .i64 V.k, .i .i64 V.key, .s V.name]
abbrev Val.cs (V : Val) : List AV := [.i .u8 V.kind, .i .i64 V.int, .s V.text, .sl .ext (List.map Val.row V.list), .b V.cut]
abbrev Frm.cs (V : Frm) : List AV := [.i .i64 V.func, .i .i64 V.pos, .i .u64 V.mode, .sl .ext (List.map Loc.row V.locals)]
abbrev Sta.cs (V : Sta) : List AV := [.i .u8 V.outcome, .i .i64 V.failing, .i .i64 V.steps, .sl .ext (List.map Rou.row V.routines)]
abbrev Pan.cs (V : Pan) : List AV := [.i .u64 V.tag, .i .u8 V.value.kind, .i .i64 V.value.int, .s V.value.text, .sl .ext (List.map Val.row V.value.list), .b V.value.cut, .i .u64 V.flags]
section
variable {prog : Prog} {d id base i : Nat} {σ : Sl} {st : St} {K : Sl → St → Prop} {r : List AI} {o o2 o3 o4 : Option Nat} {p p2 p3 p4 : AOp} {g g2 g3 g4 : Nat}
end
end Go.AM
namespace Go.AM
open Go
section
variable {α β γ : Type}
abbrev H1 (e : α → AV) (s : Nat) (Q : AE → Sl → St → Prop) (K : α → Prop) : Prop := ∀ ⦃σ : Sl⦄ ⦃st : St⦄ ⦃a : α⦄, σ s = e a → K a → Q .ret σ st
abbrev H2 (e : α → AV) (f : β → AV) (s t : Nat) (Q : AE → Sl → St → Prop) (K : α → β → Prop) : Prop := ∀ ⦃σ : Sl⦄ ⦃st : St⦄ ⦃a : α⦄ ⦃b : β⦄, σ s = e a → σ t = f b → K a b → Q .ret σ st
abbrev HL (e : α → List AV) (s : Nat) (Q : AE → Sl → St → Prop) (K : List α → Prop) : Prop := ∀ ⦃σ : Sl⦄ ⦃st : St⦄ ⦃o : Own⦄ ⦃a : List α⦄, σ s = .sl o (List.map e a) → K a → Q .ret σ st
abbrev HM (e : α → List AV) (f : β → AV) (s t : Nat) (Q : AE → Sl → St → Prop) (K : List α → β → Prop) : Prop := ∀ ⦃σ : Sl⦄ ⦃st : St⦄ ⦃o : Own⦄ ⦃a : List α⦄ ⦃b : β⦄, σ s = .sl o (List.map e a) → σ t = f b → K a b → Q .ret σ st
variable {prog : Prog} {f : Nat} {F : AF} {args : List AV} {s t : Nat}
abbrev Q1 (F : AF) (R : AV → Prop) : AE → Sl → St → Prop := endW 0 F.res fun r _ => ∃ v, r.strip = some v ∧ R v
theorem h1 {e : α → AV} {K : α → Prop} (hr : F.res = [.tmp s]) (he : ∀ a, (e a).strip = some (e a)) : H1 e s (Q1 F fun v => ∃ a, K a ∧ v = e a) K := by
  intro σ st a h k
  exact ⟨e a, by simp only [hr, ares, ares1, h], _, he a, a, k, rfl⟩
theorem h2 {e : α → AV} {g : β → AV} {K : α → β → Prop} (hr : F.res = [.tmp s, .tmp t]) (he : ∀ a b, (AV.tup [e a, g b]).strip = some (AV.tup [e a, g b])) : H2 e g s t (Q1 F fun v => ∃ a b, K a b ∧ v = .tup [e a, g b]) K := by
  intro σ st a b h h' k
  exact ⟨.tup [e a, g b], by simp only [hr, ares, aresL, ares1, h, h', Option.map_some], _, he a b, a, b, k, rfl⟩
theorem hL {e : α → List AV} {K : List α → Prop} (hr : F.res = [.tmp s]) : HL e s (Q1 F fun v => ∃ a, K a ∧ v = .sl .ext (List.map e a)) K := by
  intro σ st o a h k
  exact ⟨.sl o (List.map e a), by simp only [hr, ares, ares1, h], _, rfl, a, k, rfl⟩
theorem hM {e : α → List AV} {g : β → AV} {K : List α → β → Prop} (hr : F.res = [.tmp s, .tmp t]) (he : ∀ o a b, (AV.tup [.sl o (List.map e a), g b]).strip = some (AV.tup [.sl .ext (List.map e a), g b])) : HM e g s t (Q1 F fun v => ∃ a b, K a b ∧ v = .tup [.sl .ext (List.map e a), g b]) K := by
  intro σ st o a b h h' k
  exact ⟨.tup [.sl o (List.map e a), g b], by simp only [hr, ares, aresL, ares1, h, h', Option.map_some], _, he o a b, a, b, k, rfl⟩
theorem P1 {e : α → AV} {K : α → Prop} (hf : prog.fn f = some F) (hn : Nat.ble args.length F.nt = true) (w : W prog 0 F.body (sl0 args) st0 (Q1 F fun v => ∃ a, K a ∧ v = e a)) : ∃ a, K a ∧ Pus prog f args (e a) := by
  obtain ⟨v, hv, a, hk, rfl⟩ := Pus.of hf hn w
  exact ⟨a, hk, hv⟩
end
end Go.AM
namespace Go.AM
open Go
section
variable {prog : Prog} {d id base i : Nat} {σ : Sl} {st : St} {K : Sl → St → Prop}
variable {x y z u : Opd} {v v2 v3 v4 w w2 w3 w4 : AV}
theorem x2 {α β : Type} {p : α → β → Prop} {c : Prop} (h : ∃ a b, p a b) (k : ∀ a b, p a b → c) : c := h.elim fun a h => h.elim fun b h => k a b h
theorem x1 {α : Type} {p : α → Prop} {c : Prop} (h : ∃ a, p a) (k : ∀ a, p a → c) : c := h.elim k
end
end Go.AM

namespace Go.AM
open Go
def r167_0 : List AI := [oO 2 (.alloc [.sl .full []]), oO 3 (.alloc [.i .i64 0])]
def r167_1 : List AI := [oM 8 0, oO 9 (.len true (.t 8)), oB 10 .gtr (.t 9) (.c (.i .i64 120000))]
def r167_2 : List AI := [⟨none, .store 1 (.t 2) (.c (.sl .full [])), none⟩, ⟨none, .store 1 (.t 3) (.c (.i .i64 4)), none⟩]
def r167_3 : List AI := [oM 11 0, oB 12 .neq (.t 11) (.c (.s [])), oM 13 12, oG 14 (.mv (.t 0)) 13 true, oG 15 (.call false 186 [(.t 14), (.c (.s [10]))]) 13 true, oG 16 (.un .not (.t 15)) 13 true,
 oO 17 (.pick (.t 13) (.t 16) (.c (.b false))), oM 18 17, oG 19 (.mv (.t 0)) 18 false, oG 20 (.call false 187 [(.t 19), (.c (.s [10]))]) 18 false, oG 21 (.bin .gtr (.t 20) (.c (.i .i64 410))) 18 false, oO 22 (.pick (.t 18) (.c (.b true)) (.t 21))]
def r167_4 : List AI := [⟨none, .store 1 (.t 2) (.c (.sl .full [])), none⟩, ⟨none, .store 1 (.t 3) (.c (.i .i64 12)), none⟩]
def r167_5 : List AI := [oO 4 (.alloc [.sl .full []])]
def r167_7 : List AI := [oM 5 25]
def r167_8 : List AI := [oM 27 5, oO 28 (.call false 189 [(.t 27), (.c (.s [10]))]), oO 29 (.call false 156 [(.t 28)]), oM 26 29, oE 30 0 26, oE 31 1 26,
 oO 6 (.alloc [.i .u64 0, .i .u8 0, .i .i64 0, .s [], .sl .full [], .b false, .i .u64 0]), oS 7 6 30, oM 7 31]
def r167_9 : List AI := [oM 32 7, oB 33 .neq (.t 32) (.c (.i .i64 0))]
def r167_10 : List AI := [⟨none, .store 1 (.t 2) (.c (.sl .full [])), none⟩, ⟨none, .store 1 (.t 3) (.c (.i .i64 12)), none⟩]
def r167_11 : List AI := [oL 34 4, oO 35 (.load 7 true (.t 6)), oO 36 (.bslice [.i .u64 0, .i .u8 0, .i .i64 0, .s [], .sl .full [], .b false, .i .u64 0] 1 [(0, (.t 35))]), oO 37 (.app 7 80 (.t 34) (.t 36)), oS 1 4 37]
def r188_0 : List AI := [oO 1 (.box 1 (.t 0)), oC 2 (.nf)]
def r188_1 : List AI := [oO 3 (.mkfn 195 [(.t 1)]), oM 2 3]
def b188 : AC := .seq (.reg 0 r188_0) (.seq (.reg 1 r188_1) .ret)
def r195_0 : List AI := [oL 5 1, oO 6 (.len true (.t 5)), oB 7 .gtr (.t 6) (.c (.i .i64 0))]
def r195_1 : List AI := [oC 3 (.s [])]
def r195_2 : List AI := [oL 8 1, oO 9 (.call false 43 [(.t 8), (.c (.i .u8 10))]), oM 4 9]
def r195_3 : List AI := [oM 10 4, oB 11 .geq (.t 10) (.c (.i .i64 0))]
def r195_4 : List AI := [oL 12 1, oM 13 4, oB 14 .add (.t 13) (.c (.i .i64 1)), oO 15 (.slS (.t 12) none (some (.t 14))), oL 16 1, oM 17 4, oB 18 .add (.t 17) (.c (.i .i64 1)), oO 19 (.slS (.t 16) (some (.t 18)) none), oM 3 15, oS 1 1 19]
def r195_5 : List AI := [oL 20 1, oM 3 20, ⟨none, .store 1 (.t 1) (.c (.s [])), none⟩]
abbrev a195_0 : AC := .seq (.reg 0 r195_0) (.cond (.t 7) .skip (.exit 0))
abbrev a195_2 : AC := .seq (.reg 2 r195_2) (.seq (.reg 3 r195_3) (.cond (.t 11) (.reg 4 r195_4) (.reg 5 r195_5)))
abbrev a167_8 : AC := .block 1 (.seq (.reg 8 r167_8) (.seq (.seq (.reg 9 r167_9) (.cond (.t 33) (.seq (.reg 10 r167_10) .ret) .skip)) (.reg 11 r167_11)))
structure B4 (v2 v3 v4 : Nat) (st : St) (x2 x3 : AV) (acc : List Pan) : Prop where
  b2 : lk st.bx (0, 0) = some (v2, [x2])
  b3 : lk st.bx (0, 1) = some (v3, [x3])
  b4 : ∃ o, lk st.bx (0, 20480) = some (v4, [.sl o (acc.map Pan.row)]) ∧ App st.ow o acc.length
section
variable {prog : Prog} {σ : Sl} {st : St}
theorem w195_0 {vs : Nat} {rest : Bytes} (h1 : σ 1 = .p (1, 0) vs 0) (hb : lk st.bx (1, 0) = some (vs, [.s rest])) :
    W prog 1 a195_0 σ st fun e σ' st' => σ' 0 = σ 0 ∧ σ' 1 = σ 1 ∧ st'.bx = st.bx ∧ st'.ow = st.ow ∧ (rest = [] → e = .exit 0) ∧ (rest ≠ [] → e = .normal) := by
  refine W.seq (W.reg0 rfl fun _ _ => s_loadP h1 hb rfl rfl (s_lenS rfl (s_bin rfl rfl gtr_ (s_nil ?_))))
  refine c_split rfl (fun h => W.skip ⟨rfl, rfl, rfl, rfl, fun e => ?_, fun _ => rfl⟩) fun h => W.exit ⟨rfl, rfl, rfl, rfl, fun _ => rfl, fun e => ?_⟩
  · subst e; exact absurd h (by decide)
  · exact absurd (List.length_eq_zero_iff.1 (by omega)) e
theorem w195_1 : W prog 1 (.reg 1 r195_1) σ st fun e σ' st' => e = .normal ∧ σ' 0 = σ 0 ∧ σ' 1 = σ 1 ∧ st'.bx = st.bx ∧ st'.ow = st.ow :=
  W.reg0 rfl fun _ _ => s_mv rfl (s_nil ⟨rfl, rfl, rfl, rfl, rfl⟩)
theorem ib_first {c : UInt8} : ∀ {x r : Bytes}, c ∉ x → Lib.indexByte (x ++ c :: r) c = (x.length : Int)
  | [], r, _ => by rw [List.nil_append, Lib.indexByte, if_pos (by simp)]; rfl
  | a :: x, r, h => by
    simp only [List.mem_cons, not_or] at h
    rw [List.cons_append, Lib.indexByte, ib_first (r := r) h.2, if_neg (by simpa using fun e => h.1 e.symm), if_neg (by simp)]
    simp
theorem w195_2 (H : HasP prog) {vs : Nat} {x r : Bytes} (hx : (10 : UInt8) ∉ x) (hl : (x ++ 10 :: r).length ≤ 1000000000) (h1 : σ 1 = .p (1, 0) vs 0) (hb : lk st.bx (1, 0) = some (vs, [.s (x ++ 10 :: r)])) :
    W prog 1 a195_2 σ st fun e σ' st' => e = .normal ∧ σ' 0 = σ 0 ∧ σ' 1 = σ 1 ∧ σ' 3 = .s (x ++ [10]) ∧ st'.bx = st_ st.bx (1, 0) (vs, [.s r]) ∧ st'.ow = st.ow := by
  have c := c43 H.toHas03 (x ++ 10 :: r) 10
  rw [ib_first hx] at c
  simp only [List.length_append, List.length_cons] at hl
  have e1 : (x ++ 10 :: r).take ((IntKind.i64.wrap ((x.length : Int) + 1))).toNat = x ++ [10] := by
    rw [wr_i64 (by omega) (by omega), show ((x.length : Int) + 1).toNat = x.length + 1 by omega, show x ++ 10 :: r = (x ++ [10]) ++ r by simp, List.take_left' (by simp)]
  have e2 : (x ++ 10 :: r).drop ((IntKind.i64.wrap ((x.length : Int) + 1))).toNat = r := by
    rw [wr_i64 (by omega) (by omega), show ((x.length : Int) + 1).toNat = x.length + 1 by omega, show x ++ 10 :: r = (x ++ [10]) ++ r by simp, List.drop_left' (by simp)]
  have b0 : 0 ≤ IntKind.i64.wrap ((x.length : Int) + 1) := by rw [wr_i64 (by omega) (by omega)]; omega
  have b1 : (IntKind.i64.wrap ((x.length : Int) + 1)).toNat ≤ (x ++ 10 :: r).length := by rw [wr_i64 (by omega) (by omega)]; simp
  refine W.seq (W.reg0 rfl fun _ _ => s_loadP h1 hb rfl rfl (s_call (sc rfl rfl (sc rfl rfl sn)) c (s_mv rfl (s_nil ?_))))
  refine W.seq (W.reg0 rfl fun _ _ => s_mv rfl (s_bin rfl rfl geq_ (s_nil ?_)))
  refine c_split rfl (fun _ => ?_) fun h => absurd (show (x.length : Int) ≥ 0 by omega) h
  refine W.reg0 rfl fun _ _ => s_loadP h1 hb rfl rfl (s_mv rfl (s_bin rfl rfl add_ (s_slS_hi rfl rfl b0 b1 (s_loadP h1 hb rfl rfl (s_mv rfl (s_bin rfl rfl add_ (s_slS_lo rfl rfl b0 b1 (s_mv rfl (s_storeP h1 hb rfl rfl rfl (s_nil ?_))))))))))
  refine ⟨rfl, rfl, rfl, ?_, ?_, rfl⟩
  · show AV.s ((x ++ 10 :: r).take _) = _
    rw [e1]
  · show st_ st.bx (1, 0) (vs, [AV.s ((x ++ 10 :: r).drop _)]) = _
    rw [e2]
structure HasR0 (prog : Prog) : Prop extends HasP prog where
  f189 : prog.fn 189 = some pf189
  f196 : prog.fn 196 = some pf196
theorem c196 (H : HasR0 prog) {s p : Bytes} (hs : s.length ≤ 1000000000) : Pus prog 196 [.s s, .s p] (.s (cuts p s).1) := by
  obtain ⟨x, rfl, h⟩ := p196 H.f196 (s0 := s) (suffix1 := p) (K := fun x => x = (cuts p s).1) (by
    unfold T196_0
    refine ⟨_, c191 H.toHasO hs, fun h => ?_, fun h => ?_⟩
    · have h2 : p.length ≤ s.length := by
        unfold cuts at h
        split at h
        · rename_i h2; exact h2.1
        · cases h
      rw [wr_i64 (by omega) (by omega)]
      refine ⟨by omega, by omega, ?_⟩
      unfold cuts at h ⊢
      split at h
      · rename_i h3
        rw [if_pos h3]
        show s.take _ = s.take _
        congr 1
        omega
      · cases h
    · unfold cuts at h ⊢
      split at h
      · cases h
      · rename_i h3
        rw [if_neg h3])
  exact h
theorem c189 (H : HasR0 prog) {s p : Bytes} (hs : s.length ≤ 1000000000) : Pus prog 189 [.s s, .s p] (.s (cuts p s).1) := by
  obtain ⟨x, rfl, h⟩ := p189 H.f189 (s0 := s) (suffix1 := p) (K := fun x => x = (cuts p s).1) (by
    unfold T189_0
    exact ⟨_, c196 H hs, rfl⟩)
  exact h
theorem w167_7 : W prog 0 (.reg 7 r167_7) σ st fun e σ' st' => e = .normal ∧ σ' = up σ 5 (σ 25) ∧ st'.bx = st.bx ∧ st'.ow = st.ow :=
  W.reg0 rfl fun _ _ => s_mv rfl (s_nil ⟨rfl, rfl, rfl, rfl⟩)
theorem w167_8 (H : HasR0 prog) {v2 v3 v4 vs : Nat} {x rest : Bytes} {x2 x3 : AV} {acc : List Pan} (hl : x.length ≤ 900000000) (ha : acc.length ≤ 1000000) (h5 : σ 5 = .s (x ++ [10])) (h2 : σ 2 = .p (0, 0) v2 0) (h3 : σ 3 = .p (0, 1) v3 0) (h4 : σ 4 = .p (0, 20480) v4 0)
    (hB : B4 v2 v3 v4 st x2 x3 acc) (hb : lk st.bx (1, 0) = some (vs, [.s rest])) :
    W prog 0 a167_8 σ st fun e _ st' => ((rlP x).2 = 0 → e = .normal ∧ B4 v2 v3 v4 st' x2 x3 (acc ++ [(rlP x).1])) ∧ ((rlP x).2 ≠ 0 → e = .ret ∧ B4 v2 v3 v4 st' (.sl .full []) (.i .i64 12) acc) ∧ lk st'.bx (1, 0) = some (vs, [.s rest]) := by
  obtain ⟨b2, b3, o, b4, b5⟩ := hB
  have c1 := c189 H (s := x ++ [10]) (p := [10]) (by simp; omega)
  rw [cuts_app] at c1
  have c2 := c156 H.toHasP (s := x) (by omega)
  refine W.block (W.seq (W.reg (s_mv rfl (s_call (sc h5 rfl (sc rfl rfl sn)) c1 (s_call (sc rfl rfl sn) c2 (s_mv rfl (s_ext rfl rfl (s_ext rfl rfl (s_alloc (s_storeP rfl lk_here rfl rfl rfl (s_mv rfl (s_nil ?_)))))))))))) 
  refine W.seq (W.seq (W.reg0 rfl fun _ _ => s_mv rfl (s_bin rfl rfl neq_ (s_nil ?_))))
  refine c_split rfl (fun h => ?_) fun h => W.skip ?_
  · have e2 : lk (st_ (st_ st.bx (0, 8 * 4096 + 6) (st.nx + 6, [.i .u64 0, .i .u8 0, .i .i64 0, .s [], .sl .full [], .b false, .i .u64 0])) (0, 8 * 4096 + 6) (st.nx + 6, (rlP x).1.row)) (0, 0) = _ := lk_other rfl (lk_other rfl b2)
    refine W.seq (W.reg0 rfl fun _ _ => s_storeP h2 (lk_other rfl (lk_other rfl b2)) rfl rfl rfl (s_storeP h3 (lk_other rfl (lk_other rfl (lk_other rfl b3))) rfl rfl rfl (s_nil (W.ret ?_))))
    refine ⟨fun h' => absurd h' h, fun _ => ⟨rfl, lk_other rfl lk_here, lk_here, o, lk_other rfl (lk_other rfl (lk_other rfl (lk_other rfl b4))), b5⟩, ?_⟩
    have hk : ∀ s : Nat, ((0, s) : Key) ≠ (1, 0) := fun s e => by injection e with e _; cases e
    exact (lk_ne (hk _)).trans ((lk_ne (hk _)).trans ((lk_ne (hk _)).trans ((lk_ne (hk _)).trans hb)))
  · have h := Decidable.not_not.1 h
    refine W.reg0 rfl fun _ _ => s_loadP h4 (lk_other rfl (lk_other rfl b4)) rfl rfl (s_loadP rfl lk_here rfl rfl (s_bslM (f := Pan.row) (l := [(rlP x).1]) rfl rfl (g_cons rfl rfl rfl g_nil) (by simp only [List.map_cons, List.map_nil, Pan.row_eq]; rfl) (s_app Pan.row_len rfl rfl rfl b5 ⟨?_, ?_⟩ rfl fun o' ow' ha' hw ho => s_storeP h4 (lk_other rfl (lk_other rfl b4)) rfl rfl rfl (s_nil ?_))))
    · simp only [List.length_cons, List.length_nil, maxBytes]; omega
    · simp only [List.length_cons, List.length_nil, maxBytes]; omega
    · refine ⟨fun _ => ⟨rfl, lk_other rfl (lk_other rfl (lk_other rfl b2)), lk_other rfl (lk_other rfl (lk_other rfl b3)), o', lk_here, ha'⟩, fun h' => absurd h h', ?_⟩
      have hk : ∀ s : Nat, ((0, s) : Key) ≠ (1, 0) := fun s e => by injection e with e _; cases e
      exact (lk_ne (hk _)).trans ((lk_ne (hk _)).trans ((lk_ne (hk _)).trans hb))
def ends10 (s : Bytes) : Bool := (cuts [10] s).2
def badT (s : Bytes) : Bool := (decide (s ≠ []) && !ends10 s) || decide (410 < s.count 10)
theorem w167_0 : W prog 0 (.reg 0 r167_0) σ st fun e σ' st' => e = .normal ∧ σ' 0 = σ 0 ∧ σ' 2 = .p (0, 0) st.nx 0 ∧ σ' 3 = .p (0, 1) (st.nx + 1) 0 ∧ lk st'.bx (0, 0) = some (st.nx, [.sl .full []]) ∧ lk st'.bx (0, 1) = some (st.nx + 1, [.i .i64 0]) ∧ st'.ow = st.ow :=
  W.reg (s_alloc (s_alloc (s_nil ⟨rfl, rfl, rfl, rfl, lk_other rfl lk_here, lk_here, rfl⟩)))
theorem w167_1 {v2 v3 : Nat} {s : Bytes} {x2 x3 : AV} (h0 : σ 0 = .s s) (h2 : σ 2 = .p (0, 0) v2 0) (h3 : σ 3 = .p (0, 1) v3 0) (b2 : lk st.bx (0, 0) = some (v2, [x2])) (b3 : lk st.bx (0, 1) = some (v3, [x3])) :
    W prog 0 (.seq (.reg 1 r167_1) (.cond (.t 10) (.seq (.reg 2 r167_2) .ret) .skip)) σ st fun e σ' st' => σ' 0 = σ 0 ∧ σ' 2 = σ 2 ∧ σ' 3 = σ 3 ∧ st'.ow = st.ow ∧ (120000 < s.length → e = .ret ∧ lk st'.bx (0, 0) = some (v2, [.sl .full []]) ∧ lk st'.bx (0, 1) = some (v3, [.i .i64 4])) ∧ (¬120000 < s.length → e = .normal ∧ st'.bx = st.bx) := by
  refine W.seq (W.reg0 rfl fun _ _ => s_mv h0 (s_lenS rfl (s_bin rfl rfl gtr_ (s_nil ?_))))
  refine c_split rfl (fun h => ?_) fun h => W.skip ⟨rfl, rfl, rfl, rfl, fun h' => absurd (show (s.length : Int) > 120000 by omega) h, fun _ => ⟨rfl, rfl⟩⟩
  refine W.seq (W.reg0 rfl fun _ _ => s_storeP h2 b2 rfl rfl rfl (s_storeP h3 (lk_other rfl b3) rfl rfl rfl (s_nil (W.ret ?_))))
  exact ⟨rfl, rfl, rfl, rfl, fun _ => ⟨rfl, lk_other rfl lk_here, lk_here⟩, fun h' => absurd (show 120000 < s.length by omega) h'⟩
theorem w167_3 (H : HasP prog) (c187 : ∀ s : Bytes, s.length ≤ 1000000000 → Pus prog 187 [.s s, .s [10]] (.i .i64 (s.count 10 : Int))) {v2 v3 : Nat} {s : Bytes} {x2 x3 : AV} (hs : s.length ≤ 1000000000) (h0 : σ 0 = .s s) (h2 : σ 2 = .p (0, 0) v2 0) (h3 : σ 3 = .p (0, 1) v3 0) (b2 : lk st.bx (0, 0) = some (v2, [x2])) (b3 : lk st.bx (0, 1) = some (v3, [x3])) :
    W prog 0 (.seq (.reg 3 r167_3) (.cond (.t 22) (.seq (.reg 4 r167_4) .ret) .skip)) σ st fun e σ' st' => σ' 0 = σ 0 ∧ σ' 2 = σ 2 ∧ σ' 3 = σ 3 ∧ st'.ow = st.ow ∧ (badT s = true → e = .ret ∧ lk st'.bx (0, 0) = some (v2, [.sl .full []]) ∧ lk st'.bx (0, 1) = some (v3, [.i .i64 12])) ∧ (badT s = false → e = .normal ∧ st'.bx = st.bx) := by
  have c186' := c186 H.toHasO (s := s) (p := [10]) hs
  have hc := c187 s hs
  have yes : ∀ {σ' : Sl} {st' : St}, σ' 0 = σ 0 → σ' 2 = σ 2 → σ' 3 = σ 3 → st'.bx = st.bx → st'.ow = st.ow → badT s = true → W prog 0 (.seq (.reg 4 r167_4) .ret) σ' st' fun e σ' st' => σ' 0 = σ 0 ∧ σ' 2 = σ 2 ∧ σ' 3 = σ 3 ∧ st'.ow = st.ow ∧ (badT s = true → e = .ret ∧ lk st'.bx (0, 0) = some (v2, [.sl .full []]) ∧ lk st'.bx (0, 1) = some (v3, [.i .i64 12])) ∧ (badT s = false → e = .normal ∧ st'.bx = st.bx) := by
    intro σ' st' e0 e2 e3 eb eo hb
    refine W.seq (W.reg0 rfl fun _ _ => s_storeP (e2.trans h2) (eb ▸ b2) rfl rfl rfl (s_storeP (e3.trans h3) (lk_other rfl (eb ▸ b3)) rfl rfl rfl (s_nil (W.ret ?_))))
    exact ⟨e0, e2, e3, eo, fun _ => ⟨rfl, lk_other rfl lk_here, lk_here⟩, fun h' => by rw [hb] at h'; cases h'⟩
  -- the count
  have cnt : badT s = decide (410 < s.count 10) → ∀ {b : Nat} {σ' : Sl} {st' : St}, σ' 18 = .b false → σ' 0 = σ 0 → σ' 2 = σ 2 → σ' 3 = σ 3 → st'.bx = st.bx → st'.ow = st.ow → WO prog 0 3 b 8 [oG 19 (.mv (.t 0)) 18 false, oG 20 (.call false 187 [(.t 19), (.c (.s [10]))]) 18 false, oG 21 (.bin .gtr (.t 20) (.c (.i .i64 410))) 18 false, oO 22 (.pick (.t 18) (.c (.b true)) (.t 21))] σ' st' (fun σ' st' => W prog 0 (.cond (.t 22) (.seq (.reg 4 r167_4) .ret) .skip) σ' st' fun e σ' st' => σ' 0 = σ 0 ∧ σ' 2 = σ 2 ∧ σ' 3 = σ 3 ∧ st'.ow = st.ow ∧ (badT s = true → e = .ret ∧ lk st'.bx (0, 0) = some (v2, [.sl .full []]) ∧ lk st'.bx (0, 1) = some (v3, [.i .i64 12])) ∧ (badT s = false → e = .normal ∧ st'.bx = st.bx)) := by
    intro hbad b σ' st' e18 e0 e2 e3 eb eo
    refine s_gy e18 (s_mv (e0.trans h0) (s_gy e18 (s_call (sc rfl rfl (sc rfl rfl sn)) hc (s_gy e18 (s_bin rfl rfl gtr_ (s_pickF e18 rfl (s_nil ?_)))))))
    refine c_split rfl (fun h => yes e0 e2 e3 eb eo (by rw [hbad]; exact decide_eq_true (by omega))) fun h => W.skip ⟨e0, e2, e3, eo, fun h' => ?_, fun _ => ⟨rfl, eb⟩⟩
    rw [hbad] at h'
    exact absurd (show (s.count 10 : Int) > 410 by have := of_decide_eq_true h'; omega) h
  refine W.seq (W.reg0 rfl fun _ _ => s_mv h0 (s_bin rfl rfl sne_ (s_mv rfl ?_)))
  refine s_em (g := 13) rfl (fun hne => ?_) fun hne => ?_
  · refine s_gy rfl (s_mv h0 (s_gy rfl (s_call (sc rfl rfl (sc rfl rfl sn)) c186' (s_gy rfl (s_not rfl (s_pickT rfl rfl (s_mv rfl ?_)))))))
    refine s_emb (g := 18) rfl (fun hb => ?_) fun hb => ?_
    · refine s_gn (b := true) rfl rfl (s_gn (b := true) rfl rfl (s_gn (b := true) rfl rfl (s_pickT rfl rfl (s_nil ?_))))
      refine c_tt rfl (yes rfl rfl rfl rfl rfl ?_)
      unfold badT ends10
      rw [hb, decide_eq_true hne]; rfl
    · refine cnt ?_ rfl rfl rfl rfl rfl rfl
      unfold badT ends10
      rw [hb]
      simp
  · refine s_gn (b := false) rfl rfl (s_gn (b := false) rfl rfl (s_gn (b := false) rfl rfl (s_pickF rfl rfl (s_mv rfl ?_))))
    refine cnt ?_ rfl rfl rfl rfl rfl rfl
    unfold badT
    rw [decide_eq_false hne]; rfl
theorem w167_5 : W prog 0 (.reg 5 r167_5) σ st fun e σ' st' => e = .normal ∧ σ' 0 = σ 0 ∧ σ' 2 = σ 2 ∧ σ' 3 = σ 3 ∧ σ' 4 = .p (0, 20480) st.nx 0 ∧ st'.bx = st_ st.bx (0, 20480) (st.nx, [.sl .full []]) ∧ st'.ow = st.ow :=
  W.reg (s_alloc (s_nil ⟨rfl, rfl, rfl, rfl, rfl, rfl, rfl⟩))
theorem w188 {s : Bytes} (h0 : σ 0 = .s s) : W prog 1 b188 σ st fun e σ' st' => e = .ret ∧ σ' 2 = .fn 195 [.p (1, 0) st.nx 0] ∧ st'.bx = st_ st.bx (1, 0) (st.nx, [.s s]) ∧ st'.ow = st.ow := by
  refine W.seq (W.reg0 rfl fun _ _ => s_box h0 rfl (s_mv rfl (s_nil ?_)))
  exact W.seq (W.reg0 rfl fun _ _ => s_mkfn (sec rfl sen) (s_mv rfl (s_nil (W.ret ⟨rfl, rfl, rfl, rfl⟩))))
end
end Go.AM

namespace Go.AM
open Go Go.RowKit
section
variable {P : Program} {ops : Array Oper} {Q : Exit → Act → World → Prop} {i n : Nat} {r : List Nat} {a : Act} {w w' : World} {o : Oper}
theorem in_val {v : Value} (ho : ops[i]? = some o) (hg : o.guard = none) (hr : (execOp a.eval o).run P w = .ok (.value v) w') (hk : wpOpsIn Fence.wide n P ops Q r (a.put o.dst v) w') : wpOpsIn Fence.wide n P ops Q (i :: r) a w := by
  simp only [wpOpsIn, ho]
  rw [if_pos (by simp [Region.wanted, hg])]
  refine ⟨fun _ _ => trivial, ?_⟩
  show o.uponIn Fence.wide n P a _ Q ((o.semAt none a.eval).run P w)
  rw [Oper.semAt_none, hr]
  exact hk
theorem in_skip (ho : ops[i]? = some o) (hg : o.guard = none) (hr : (execOp a.eval o).run P w = .ok .skip w') (hk : wpOpsIn Fence.wide n P ops Q r (a.put o.dst undef) w') : wpOpsIn Fence.wide n P ops Q (i :: r) a w := by
  simp only [wpOpsIn, ho]
  rw [if_pos (by simp [Region.wanted, hg])]
  refine ⟨fun _ _ => trivial, ?_⟩
  show o.uponIn Fence.wide n P a _ Q ((o.semAt none a.eval).run P w)
  rw [Oper.semAt_none, hr]
  exact hk
theorem in_call {f : FuncId} {args : Array Value} {R : Value → World → Prop} (ho : ops[i]? = some o) (hg : o.guard = none) (hr : (execOp a.eval o).run P w = .ok (.enter f args) w') (hc : Calls P f args w' fun e w => match e with | .returned v => R v w | _ => False) (hk : ∀ v w'', R v w'' → wpOpsIn Fence.wide n P ops Q r (a.put o.dst v) w'') : wpOpsIn Fence.wide n P ops Q (i :: r) a w := by
  simp only [wpOpsIn, ho]
  rw [if_pos (by simp [Region.wanted, hg])]
  refine ⟨fun _ _ => trivial, ?_⟩
  show o.uponIn Fence.wide n P a _ Q ((o.semAt none a.eval).run P w)
  rw [Oper.semAt_none, hr]
  refine ⟨fun h => (by cases h), (callsIn_wide.2 hc).mono fun e w'' he => ?_⟩
  cases e with
  | returned v => exact hk v w'' he
  | panicked c => exact he.elim
  | outgrown => exact he.elim
theorem in_round {l : Nat} {f : FuncId} {tmps : Array Value} {asg bd : Code} {R : Value → World → Prop} (ho : ops[i]? = some o) (hg : o.guard = none) (hr : (execOp a.eval o).run P w = .ok (.round l f tmps asg bd) w') (hc : RoundIn Fence.wide (n - 1) P l f tmps asg bd w' fun e w => match e with | .returned v => R v w | _ => False) (hk : ∀ v w'', R v w'' → wpOpsIn Fence.wide n P ops Q r (a.put o.dst v) w'') : wpOpsIn Fence.wide n P ops Q (i :: r) a w := by
  simp only [wpOpsIn, ho]
  rw [if_pos (by simp [Region.wanted, hg])]
  refine ⟨fun _ _ => trivial, ?_⟩
  show o.uponIn Fence.wide n P a _ Q ((o.semAt none a.eval).run P w)
  rw [Oper.semAt_none, hr]
  refine ⟨fun h => (by cases h), hc.mono fun e w'' he => ?_⟩
  cases e with
  | returned v => exact hk v w'' he
  | panicked c => exact he.elim
  | outgrown => exact he.elim
theorem run_move {x : Operand} (h : o.op = .move x) : (execOp a.eval o).run P w = .ok (.value (a.eval x)) w := by simp only [execOp, h, Sem.run_pure]
theorem run_load {t : TypeId} {x : Operand} {v : Value} (h : o.op = .load t x) (hr : (Instr.loadAt t (a.eval x)).run P w = .ok v w) : (execOp a.eval o).run P w = .ok (.value v) w := by simp only [execOp, h, Sem.run_bind, hr, Sem.run_pure, Result.andThen_ok]
theorem run_store {t : TypeId} {x y : Operand} (h : o.op = .store t x y) (hr : (Instr.storeAt t (a.eval x) (a.eval y)).run P w = .ok () w') : (execOp a.eval o).run P w = .ok .skip w' := by simp only [execOp, h, Sem.run_bind, hr, Sem.run_pure, Result.andThen_ok]
theorem run_not {t : TypeId} {x : Operand} {b : Bool} (h : o.op = .unOp .not t x) (hx : a.eval x = .bool b) : (execOp a.eval o).run P w = .ok (.value (.bool (!b))) w := by simp [execOp, h, hx, Op.unary, Sem.run_pure]
theorem run_yieldop {x y : Operand} {ts : Array TypeId} {l : Nat} {v : Value} {nx : Next} (h : o.op = .call { callee := .value x, args := #[y], argTypes := ts }) (hx : a.eval x = .func (.yield l) #[] #[]) (hy : a.eval y = v) (hr : (Instr.yield l #[v]).run P w = .ok nx w') : (execOp a.eval o).run P w = .ok nx w' := by
  subst hy
  simp only [execOp, h, resolve, hx]
  simpa [go_sem] using hr
theorem run_callop {g : FuncId} {y : Operand} {ts : Array TypeId} {v : Value} (h : o.op = .call { callee := .value (.func g), args := #[y], argTypes := ts }) (hy : a.eval y = v) (hr : (callFunc g #[v]).run P w = .ok (.enter g #[v]) w) : (execOp a.eval o).run P w = .ok (.enter g #[v]) w := by
  subst hy
  simp only [execOp, h, resolve]
  simpa [go_sem] using hr
end
end Go.AM

namespace Go.AM
open Go Go.RowKit
theorem Gh.LeR.trans {A B C : Gh} (h : A.LeR B) (k : B.LeR C) : A.LeR C :=
  ⟨fun _ _ _ x => k.H _ _ _ (h.H _ _ _ x), fun _ _ _ x => k.ρ _ _ _ (h.ρ _ _ _ x), fun _ _ _ x => k.ω _ _ _ (h.ω _ _ _ x), k.fm.trans h.fm, fun _ _ x => k.M _ _ (h.M _ _ x)⟩
theorem Gh.LeR.refl (A : Gh) : A.LeR A := (Gh.Le.refl A).toR
structure RtAt (P : Program) (X : Cx) where
  (fR fL fY : Nat)
  (nR nL nY : Func)
  (A0 A1 A3 A5 A7 A8 Y0 Y1 Y2 cL : Code)
  (p1 p2 q1 q2 q3 z1 z2 z3 z4 : Oper)
  (t1 t2 t3 : TypeId)
  (tp tz : Array TypeId)
  (i1 i2 : TI)
  eR : P.funcs[fR]? = some nR
  bR : nR.body = some (.seq A0 (.seq A1 (.seq A3 (.seq A5 (.seq (.seq (.region 6 #[p1, p2] false) (.block 0 (.rangeFunc (.tmp 24) #[25] A7 A8))) (.seq (.region 12 #[q1, q2, q3] false) .ret))))))
  tR : nR.ntmps = 39
  rR : cRess X nR.results.toList = some [.cell 2 1 false, .cell 3 1 false]
  mR : (nR.name == "runtime.NumGoroutine") = false
  eL : P.funcs[fL]? = some nL
  bL : nL.body = some cL
  tL : nL.ntmps = 4
  rL : cRess X nL.results.toList = some [.tmp 2]
  mL : (nL.name == "runtime.NumGoroutine") = false
  eY : P.funcs[fY]? = some nY
  bY : nY.body = some (.block 0 (.loop (.seq Y0 (.block 1 (.seq Y1 (.seq Y2 (.seq (.region 6 #[z1, z2, z3, z4] false) (.cond (.tmp 24) .ret .skip))))))))
  tY : nY.ntmps = 25
  rY : cRess X nY.results.toList = some []
  mY : (nY.name == "runtime.NumGoroutine") = false
  a0 : cCode X 39 A0 = some (.reg 0 r167_0)
  a1 : cCode X 39 A1 = some (.seq (.reg 1 r167_1) (.cond (.t 10) (.seq (.reg 2 r167_2) .ret) .skip))
  a3 : cCode X 39 A3 = some (.seq (.reg 3 r167_3) (.cond (.t 22) (.seq (.reg 4 r167_4) .ret) .skip))
  a5 : cCode X 39 A5 = some (.reg 5 r167_5)
  a7 : cCode X 39 A7 = some (.reg 7 r167_7)
  a8 : cCode X 39 A8 = some a167_8
  w7 : plainR X 39 A7 = true
  w8 : plainR X 39 A8 = true
  y0 : cCode X 25 Y0 = some a195_0
  y1 : cCode X 25 Y1 = some (.reg 1 r195_1)
  y2 : cCode X 25 Y2 = some a195_2
  l0 : cCode X 4 cL = some b188
  p1o : p1.op = .move (.tmp 0)
  p1d : p1.dst = some 23
  p1g : p1.guard = none
  p2o : p2.op = .call { callee := .value (.func fL), args := #[.tmp 23], argTypes := tp }
  p2d : p2.dst = some 24
  p2g : p2.guard = none
  q1o : q1.op = .load t1 (.tmp 4)
  q1d : q1.dst = some 38
  q1g : q1.guard = none
  q2o : q2.op = .store t1 (.tmp 2) (.tmp 38)
  q2d : q2.dst = none
  q2g : q2.guard = none
  q3o : q3.op = .store t2 (.tmp 3) (.const (.int .i64 0))
  q3d : q3.dst = none
  q3g : q3.guard = none
  u1 : X.T t1 = some i1
  s1 : i1.size = 1
  g1 : i1.kind.agg = false
  u2 : X.T t2 = some i2
  s2 : i2.size = 1
  z1o : z1.op = .move (.tmp 0)
  z1d : z1.dst = some 21
  z1g : z1.guard = none
  z2o : z2.op = .move (.tmp 3)
  z2d : z2.dst = some 22
  z2g : z2.guard = none
  z3o : z3.op = .call { callee := .value (.tmp 21), args := #[.tmp 22], argTypes := tz }
  z3d : z3.dst = some 23
  z3g : z3.guard = none
  z4o : z4.op = .unOp .not t3 (.tmp 23)
  z4d : z4.dst = some 24
  z4g : z4.guard = none
  fm : ∀ f, X.fm f = some 195 → f = fY
section
variable {P : Program} {X : Cx} {prog : Prog}
theorem W.wpn (hT : TTok P X.T) (hm : P.follows .mixedOrders = true) (hC : ∀ n, CallOk P X.fm (acall prog n)) {nt d n : Nat} {c : Code} {ac : AC} (hc : cCode X nt c = some ac) {σ : Sl} {st : St} {Q0 : AE → Sl → St → Prop} (h : W prog d ac σ st Q0) {G : Gh} {w0 w : World} {a : Act} (hfm : X.fm = G.fm) (hA : RelA G nt σ a) (hR : Rel G w0 st w)
    {Q : Exit → Act → World → Prop} (hQ : ∀ e σ' st', Q0 e σ' st' → ∀ a' w' G', RelA G' nt σ' a' → Run G G' w0 st st' w' d → Q (toExit e) a' w') : c.wpIn Fence.wide n P Q a w := by
  obtain ⟨m, e, σ', st', h1, h2⟩ := h
  exact wpIn_wide.2 (code_ok hT (hC m) hm m d _ c (Nat.lt_succ_self _) hc h1 hfm hA hR (hQ e σ' st' h2))
theorem W.inr (hT : TTok P X.T) (hC : ∀ n, CallOk P X.fm (acall prog n)) {nt d : Nat} {c : Code} {ac : AC} (hc : cCode X nt c = some ac) (hp : plainR X nt c = true) {σ : Sl} {st : St} {Q0 : AE → Sl → St → Prop} (h : W prog d ac σ st Q0) {G : Gh} {w0 w : World} {a : Act} (hfm : X.fm = G.fm) (hA : RelA G nt σ a) (hR : Rel G w0 st w)
    {Q : Exit → Act → World → Prop} (hQ : ∀ e σ' st', Q0 e σ' st' → ∀ a' w' G', RelA G' nt σ' a' → Run G G' w0 st st' w' d → Q (toExit e) a' w') (r n : Nat) : c.wpIn (wideR r) n P Q a w := by
  obtain ⟨m, e, σ', st', h1, h2⟩ := h
  exact code_in_round hT (hC m) m d c hp hc h1 hfm hA hR (hQ e σ' st' h2) r n
theorem B4.of_eq {v2 v3 v4 : Nat} {st st' : St} {x2 x3 : AV} {acc : List Pan} (h : B4 v2 v3 v4 st x2 x3 acc) (hb : st'.bx = st.bx) (ho : st'.ow = st.ow) : B4 v2 v3 v4 st' x2 x3 acc := by
  obtain ⟨b2, b3, o, b4, b5⟩ := h
  exact ⟨by rw [hb]; exact b2, by rw [hb]; exact b3, o, by rw [hb]; exact b4, by rw [ho]; exact b5⟩
theorem B4.other {v2 v3 v4 : Nat} {st st' : St} {x2 x3 : AV} {acc : List Pan} {k : Key} {y : Nat × List AV} (h : B4 v2 v3 v4 st x2 x3 acc) (hk : k.1 = 1) (hb : st'.bx = st_ st.bx k y) (ho : st'.ow = st.ow) : B4 v2 v3 v4 st' x2 x3 acc := by
  obtain ⟨b2, b3, o, b4, b5⟩ := h
  have hn : ∀ s : Nat, k ≠ ((0, s) : Key) := fun s e => by rw [e] at hk; cases hk
  exact ⟨by rw [hb, lk_ne (hn _)]; exact b2, by rw [hb, lk_ne (hn _)]; exact b3, o, by rw [hb, lk_ne (hn _)]; exact b4, by rw [ho]; exact b5⟩
structure Bt (Gs Ge : Gh) (w0 : World) (D l : Nat) (v2 v3 v4 vs : Nat) (rec : Loop) (x2 x3 : AV) (acc : List Pan) (rest : Bytes) (G : Gh) (st : St) (w : World) : Prop where
  le : Ge.LeR G
  newH : ∀ g o v, G.H g o = some v → Gs.H g o = some v ∨ w0.heap.size ≤ g
  old : ∀ b x, Gs.M b = some x → G.M b = some x
  rel : Rel G w0 st w
  mD : G.M D = some (.ob (.deferred (some [])))
  ml : G.M l = some (.ob (.loop rec))
  b4 : B4 v2 v3 v4 st x2 x3 acc
  bs : lk st.bx (1, 0) = some (vs, [.s rest])
variable {Gs Ge : Gh} {w0 : World} {D l v2 v3 v4 vs : Nat} {rec : Loop} {x2 x3 : AV} {acc : List Pan} {rest : Bytes} {G : Gh} {st : St} {w : World}
theorem Bt.run {G' : Gh} {st' : St} {w' : World} {d : Nat} {x2' x3' : AV} {acc' : List Pan} {rest' : Bytes} (h : Bt Gs Ge w0 D l v2 v3 v4 vs rec x2 x3 acc rest G st w) (hr : Run G G' w0 st st' w' d) (hb : B4 v2 v3 v4 st' x2' x3' acc') (hs : lk st'.bx (1, 0) = some (vs, [.s rest'])) : Bt Gs Ge w0 D l v2 v3 v4 vs rec x2' x3' acc' rest' G' st' w' :=
  ⟨h.le.trans hr.le.toR, fun g o v hv => by
    rcases hr.newH g o v hv with h' | h'
    · exact h.newH g o v h'
    · exact .inr h', fun b x hx => hr.le.M b x (h.old b x hx), hr.rel, hr.le.M _ _ h.mD, hr.le.M _ _ h.ml, hb, hs⟩
theorem Bt.at (h : Bt Gs Ge w0 D l v2 v3 v4 vs rec x2 x3 acc rest G st w) : w.heap[l]? = some (.loop rec) := (h.rel.mp _ _ h.ml).1
theorem Bt.turn (h : Bt Gs Ge w0 D l v2 v3 v4 vs rec x2 x3 acc rest G st w) (rec' : Loop) (hne : D ≠ l) (h0 : Gs.M l = none) (hge : w0.heap.size ≤ l) : G.LeR (G.setM l (.ob (.loop rec'))) ∧ Bt Gs Ge w0 D l v2 v3 v4 vs rec' x2 x3 acc rest (G.setM l (.ob (.loop rec'))) st (w.putObj l (.loop rec')) := by
  have hn : ∀ x, G.M l ≠ some (.mp x) := fun x e => by rw [h.ml] at e; cases e
  have hle := Gh.setM_le (G := G) (x := .ob (.loop rec')) hn
  refine ⟨hle, h.le.trans hle, h.newH, fun b x hx => ?_, h.rel.putOb h.at rfl rfl hge hn, ?_, Gh.setM_at _ _, h.b4, h.bs⟩
  · rw [Gh.setM_ne _ (by rintro rfl; rw [h0] at hx; cases hx)]
    exact h.old b x hx
  · rw [Gh.setM_ne _ hne]
    exact h.mD
end
end Go.AM

namespace Go.AM
open Go Go.RowKit
abbrev okL (x : Bytes) : Prop := (rlP x).2 = 0
section
variable {P : Program} {X : Cx} {prog : Prog}
abbrev RtAt.lp (A : RtAt P X) (fn : Nat) (T0 : Array Value) (D : Nat) (s : LoopState) (p : Option Code) : Loop := { state := s, pending := p, fn := fn, tmps := T0, params := #[25], assign := A.A7, body := A.A8, defers := D }
variable (A : RtAt P X) (H : HasR0 prog) (hT : TTok P X.T) (hm : P.follows .mixedOrders = true) (hC : ∀ n, CallOk P X.fm (acall prog n))
include hT hm hC H
theorem rt_round {Gs Ge : Gh} {w0 : World} {D l v2 v3 v4 vs fn : Nat} {T0 : Array Value} {σe : Sl} {x2 x3 : AV} {acc : List Pan} {x rest : Bytes} {G : Gh} {st : St} {w : World} {v : Value}
    (hne : D ≠ l) (hl0 : Gs.M l = none) (hge : w0.heap.size ≤ l) (hfe : X.fm = Ge.fm) (hE : RelA Ge 39 σe ⟨T0, []⟩) (h2 : σe 2 = .p (0, 0) v2 0) (h3 : σe 3 = .p (0, 1) v3 0) (h4 : σe 4 = .p (0, 20480) v4 0)
    (hx : x.length ≤ 900000000) (ha : acc.length ≤ 1000000) (hB : Bt Gs Ge w0 D l v2 v3 v4 vs (A.lp fn T0 D .ready none) x2 x3 acc rest G st w) (hv : R G (.s (x ++ [10])) v) :
    RoundIn Fence.wide (0 - 1) P l fn (T0.setIfInBounds 25 v) A.A7 A.A8 w fun e w' => match e with
      | .returned u => ∃ G' st', G.LeR G' ∧ ((u = .bool true ∧ okL x ∧ Bt Gs Ge w0 D l v2 v3 v4 vs (A.lp fn T0 D .ready none) x2 x3 (acc ++ [(rlP x).1]) rest G' st' w') ∨ (u = .bool false ∧ ¬okL x ∧ Bt Gs Ge w0 D l v2 v3 v4 vs (A.lp fn T0 D .done (some .ret)) (.sl .full []) (.i .i64 12) acc rest G' st' w'))
      | _ => False := by
  have hR0 : RelA G 39 (updO σe (some 25) (.s (x ++ [10]))) ⟨T0.setIfInBounds 25 v, []⟩ := (hE.monoR hB.le).put (d := some 25) (fun t h => by cases h; decide) hv
  have hfm : X.fm = G.fm := hfe.trans hB.le.fm.symm
  refine roundIn_of_wpIn (F := Fence.wide) trivial (W.inr hT hC A.a7 A.w7 w167_7 hfm hR0 hB.rel (fun e σ1 st1 hq a1 w1 G1 hA1 hrun1 => ?_) l _)
  obtain ⟨rfl, hσ, hbx, how⟩ := hq
  have hB1 := hB.run hrun1 (hB.b4.of_eq hbx how) (by rw [hbx]; exact hB.bs)
  refine ⟨_, run_beginRound hB1.at rfl, ?_⟩
  obtain ⟨hle2, hB2⟩ := hB1.turn (A.lp fn T0 D .busy none) hne hl0 hge
  have e5 : σ1 5 = .s (x ++ [10]) := by rw [hσ]; rfl
  have e2 : σ1 2 = .p (0, 0) v2 0 := by rw [hσ]; exact h2
  have e3 : σ1 3 = .p (0, 1) v3 0 := by rw [hσ]; exact h3
  have e4 : σ1 4 = .p (0, 20480) v4 0 := by rw [hσ]; exact h4
  refine W.inr hT hC A.a8 A.w8 (w167_8 H hx ha e5 e2 e3 e4 hB2.b4 hB2.bs) ((hfm.trans hrun1.le.fm.symm).trans hle2.fm.symm) (hA1.monoR hle2) hB2.rel (fun e σ3 st3 hq a3 w3 G3 hA3 hrun3 => ?_) l _
  obtain ⟨hok, hno, hs⟩ := hq
  have hLe : G.LeR G3 := (hrun1.le.toR.trans hle2).trans hrun3.le.toR
  by_cases hx0 : okL x
  · obtain ⟨rfl, hb4⟩ := hok hx0
    have hB3 := hB2.run hrun3 hb4 hs
    obtain ⟨hle4, hB4⟩ := hB3.turn (A.lp fn T0 D .ready none) hne hl0 hge
    exact ⟨_, _, run_endRound none hB3.at, _, _, hLe.trans hle4, .inl ⟨rfl, hx0, hB4⟩⟩
  · obtain ⟨rfl, hb4⟩ := hno hx0
    have hB3 := hB2.run hrun3 hb4 hs
    obtain ⟨hle4, hB4⟩ := hB3.turn (A.lp fn T0 D .done (some .ret)) hne hl0 hge
    exact ⟨_, _, run_endRound (some .ret) hB3.at, _, _, hLe.trans hle4, .inr ⟨rfl, hx0, hB4⟩⟩
theorem rt_lines {Gs Ge : Gh} {w0 : World} {D l v2 v3 v4 vs fn : Nat} {T0 : Array Value} {σe : Sl} {x2 x3 : AV} {Y : World → Prop}
    (hne : D ≠ l) (hl0 : Gs.M l = none) (hge : w0.heap.size ≤ l) (hfe : X.fm = Ge.fm) (hE : RelA Ge 39 σe ⟨T0, []⟩) (h2 : σe 2 = .p (0, 0) v2 0) (h3 : σe 3 = .p (0, 1) v3 0) (h4 : σe 4 = .p (0, 20480) v4 0) :
    ∀ (ls : List Bytes) (acc : List Pan) {G : Gh} {st : St} {w : World} {a : Act} {σ : Sl}, (∀ x ∈ ls, (10 : UInt8) ∉ x ∧ x.length ≤ 900000000) → (unl10 ls).length ≤ 1000000000 → acc.length + ls.length ≤ 1000000 →
      Bt Gs Ge w0 D l v2 v3 v4 vs (A.lp fn T0 D .ready none) x2 x3 acc (unl10 ls) G st w → RelA G 25 σ a → σ 0 = .yl l → σ 1 = .p (1, 0) vs 0 →
      (∀ G st w, Bt Gs Ge w0 D l v2 v3 v4 vs (A.lp fn T0 D .ready none) x2 x3 (acc ++ ls.map fun x => (rlP x).1) [] G st w → (∀ x ∈ ls, okL x) → Y w) →
      (∀ G st w acc rest, Bt Gs Ge w0 D l v2 v3 v4 vs (A.lp fn T0 D .done (some .ret)) (.sl .full []) (.i .i64 12) acc rest G st w → (∃ x ∈ ls, ¬okL x) → Y w) →
      Code.roundsIn Fence.wide 0 P (.seq A.Y0 (.block 1 (.seq A.Y1 (.seq A.Y2 (.seq (.region 6 #[A.z1, A.z2, A.z3, A.z4] false) (.cond (.tmp 24) .ret .skip)))))) (Exit.inBlock 0 (bodyPost P A.nY fun e w' => match e with | .returned _ => Y w' | _ => False)) (ls.length + 1) a w
  | [], acc, G, st, w, a, σ, _, _, _, hB, hA, e0, e1, hdone, _ => by
    rw [roundsIn_succ]
    refine wpIn_seq (W.wpn hT hm hC A.y0 (w195_0 e1 hB.bs) (hfe.trans hB.le.fm.symm) hA hB.rel fun e σ' st' hq a' w' G' hA' hrun => ?_)
    obtain ⟨_, _, eb, eo, hq1, _⟩ := hq
    obtain rfl := hq1 rfl
    simp only [toExit, Exit.then, Exit.inBlock, if_true]
    obtain ⟨u, h5, _⟩ := results_ok hT hA' hrun.rel (fn := A.nY) (xs := []) A.rY (by decide) (r := .tup []) rfl
    refine ⟨hA'.1, u, h5, hdone G' st' w' ?_ (by simp)⟩
    have := hB.run hrun (hB.b4.of_eq eb eo) (by rw [eb]; exact hB.bs)
    simpa [unl10] using this
  | x :: ls, acc, G, st, w, a, σ, hls, hlen, hac, hB, hA, e0, e1, hdone, hstop => by
    rw [roundsIn_succ]
    have hx := hls x (by simp)
    rw [unl10_cons] at hB hlen
    have hlen2 : (unl10 ls).length ≤ 1000000000 := by simp only [List.length_append, List.length_cons] at hlen; omega
    rw [List.length_cons] at hac
    refine wpIn_seq (W.wpn hT hm hC A.y0 (w195_0 e1 hB.bs) (hfe.trans hB.le.fm.symm) hA hB.rel fun e σ1 st1 hq a1 w1 G1 hA1 hrun1 => ?_)
    obtain ⟨f0, f1, eb, eo, _, hq2⟩ := hq
    obtain rfl := hq2 (by simp)
    have hB1 := hB.run hrun1 (hB.b4.of_eq eb eo) (by rw [eb]; exact hB.bs)
    refine wpIn_block (wpIn_seq (W.wpn hT hm hC A.y1 w195_1 (hfe.trans hB1.le.fm.symm) hA1 hB1.rel fun e σ2 st2 hq a2 w2 G2 hA2 hrun2 => ?_))
    obtain ⟨rfl, g0, g1, eb, eo⟩ := hq
    have hB2 := hB1.run hrun2 (hB1.b4.of_eq eb eo) (by rw [eb]; exact hB1.bs)
    refine wpIn_seq (W.wpn hT hm hC A.y2 (w195_2 H.toHasP hx.1 hlen (g1.trans (f1.trans e1)) hB2.bs) (hfe.trans hB2.le.fm.symm) hA2 hB2.rel fun e σ3 st3 hq a3 w3 G3 hA3 hrun3 => ?_)
    obtain ⟨rfl, k0, k1, k3, eb, eo⟩ := hq
    have hB3 := hB2.run hrun3 (hB2.b4.other rfl eb eo) (by rw [eb]; exact lk_here)
    have j0 : σ3 0 = .yl l := k0.trans (g0.trans (f0.trans e0))
    have j1 : σ3 1 = .p (1, 0) vs 0 := k1.trans (g1.trans (f1.trans e1))
    refine wpIn_seq (wpIn_region ?_)
    show wpOpsIn Fence.wide 0 P #[A.z1, A.z2, A.z3, A.z4] _ [0, 1, 2, 3] a3 w3
    have s0 := cOpd_ok hA3 (x := .tmp 0) (y := .t 0) rfl
    refine in_val (o := A.z1) rfl A.z1g (run_move A.z1o) ?_
    have hA4 := hA3.put (d := A.z1.dst) (fun t ht => by rw [A.z1d] at ht; cases ht; decide) s0
    have s3 := cOpd_ok hA4 (x := .tmp 3) (y := .t 3) rfl
    refine in_val (o := A.z2) rfl A.z2g (run_move A.z2o) ?_
    have hA5 := hA4.put (d := A.z2.dst) (fun t ht => by rw [A.z2d] at ht; cases ht; decide) s3
    have s21 := cOpd_ok hA5 (x := .tmp 21) (y := .t 21) rfl
    have s22 := cOpd_ok hA5 (x := .tmp 22) (y := .t 22) rfl
    have v21 : (updO (updO σ3 A.z1.dst ((Opd.t 0).ev σ3)) A.z2.dst ((Opd.t 3).ev (updO σ3 A.z1.dst ((Opd.t 0).ev σ3)))) 21 = .yl l := by
      rw [A.z1d, A.z2d]; exact j0
    have v22 : (updO (updO σ3 A.z1.dst ((Opd.t 0).ev σ3)) A.z2.dst ((Opd.t 3).ev (updO σ3 A.z1.dst ((Opd.t 0).ev σ3)))) 22 = .s (x ++ [10]) := by
      rw [A.z1d, A.z2d]; exact k3
    have w0' : (updO (updO σ3 A.z1.dst ((Opd.t 0).ev σ3)) A.z2.dst ((Opd.t 3).ev (updO σ3 A.z1.dst ((Opd.t 0).ev σ3)))) 0 = .yl l := by
      rw [A.z1d, A.z2d]; exact j0
    have w1' : (updO (updO σ3 A.z1.dst ((Opd.t 0).ev σ3)) A.z2.dst ((Opd.t 3).ev (updO σ3 A.z1.dst ((Opd.t 0).ev σ3)))) 1 = .p (1, 0) vs 0 := by
      rw [A.z1d, A.z2d]; exact j1
    generalize (updO (updO σ3 A.z1.dst ((Opd.t 0).ev σ3)) A.z2.dst ((Opd.t 3).ev (updO σ3 A.z1.dst ((Opd.t 0).ev σ3)))) = σ5 at *
    unfold Same at s21 s22
    simp only [Opd.ev] at s21 s22
    rw [v21] at s21
    rw [v22] at s22
    generalize ((a3.put A.z1.dst (a3.eval (.tmp 0))).put A.z2.dst ((a3.put A.z1.dst (a3.eval (.tmp 0))).eval (.tmp 3))) = a5 at *
    have hrnd := rt_round A H hT hm hC hne hl0 hge hfe hE h2 h3 h4 hx.2 (by omega) hB3 s22
    have hyl : (Instr.yield l #[a5.eval (.tmp 22)]).run P w3 = .ok (.round l fn (T0.setIfInBounds 25 (a5.eval (.tmp 22))) A.A7 A.A8) w3 := by
      have := run_yield (P := P) (args := #[a5.eval (.tmp 22)]) hB3.at rfl
      simpa using this
    refine in_round (R := fun u w6 => ∃ G' st', G3.LeR G' ∧ ((u = .bool true ∧ okL x ∧ Bt Gs Ge w0 D l v2 v3 v4 vs (A.lp fn T0 D .ready none) x2 x3 (acc ++ [(rlP x).1]) (unl10 ls) G' st' w6) ∨ (u = .bool false ∧ ¬okL x ∧ Bt Gs Ge w0 D l v2 v3 v4 vs (A.lp fn T0 D .done (some .ret)) (.sl .full []) (.i .i64 12) acc (unl10 ls) G' st' w6))) (o := A.z3) rfl A.z3g (run_yieldop A.z3o s21.yl_inv rfl hyl) hrnd fun u w6 hu => ?_
    obtain ⟨G6, st6, hle6, hu⟩ := hu
    have hRu : ∃ b, u = .bool b ∧ R G6 (.b b) u := by
      rcases hu with ⟨rfl, _⟩ | ⟨rfl, _⟩
      · exact ⟨true, rfl, .fz _ _ (.b _)⟩
      · exact ⟨false, rfl, .fz _ _ (.b _)⟩
    obtain ⟨b, rfl, hRb⟩ := hRu
    have hA6 := (hA5.monoR hle6).put (d := A.z3.dst) (fun t ht => by rw [A.z3d] at ht; cases ht; decide) hRb
    have s23 := cOpd_ok hA6 (x := .tmp 23) (y := .t 23) rfl
    have v23 : updO σ5 A.z3.dst (.b b) 23 = .b b := by rw [A.z3d]; rfl
    have v0 : updO σ5 A.z3.dst (.b b) 0 = .yl l := by rw [A.z3d]; exact w0'
    have v1 : updO σ5 A.z3.dst (.b b) 1 = .p (1, 0) vs 0 := by rw [A.z3d]; exact w1'
    generalize updO σ5 A.z3.dst (.b b) = σ6 at *
    unfold Same at s23
    simp only [Opd.ev] at s23
    rw [v23] at s23
    refine in_val (o := A.z4) rfl A.z4g (run_not A.z4o s23.bool_inv) ?_
    have hA7 := hA6.put (d := A.z4.dst) (v := .b (!b)) (x := .bool (!b)) (fun t ht => by rw [A.z4d] at ht; cases ht; decide) (.fz _ _ (.b _))
    generalize ((a5.put A.z3.dst (.bool b)).put A.z4.dst (.bool (!b))) = a7 at *
    have v24 : updO σ6 A.z4.dst (.b (!b)) 24 = .b (!b) := by rw [A.z4d]; rfl
    have u0 : updO σ6 A.z4.dst (.b (!b)) 0 = .yl l := by rw [A.z4d]; exact v0
    have u1 : updO σ6 A.z4.dst (.b (!b)) 1 = .p (1, 0) vs 0 := by rw [A.z4d]; exact v1
    have s24 := cOpd_ok hA7 (x := .tmp 24) (y := .t 24) rfl
    generalize updO σ6 A.z4.dst (.b (!b)) = σ7 at *
    unfold Same at s24
    simp only [Opd.ev] at s24
    rw [v24] at s24
    show (Code.cond (.tmp 24) .ret .skip).wpIn Fence.wide 0 P _ a7 w6
    rcases hu with ⟨hb, hok, hB6⟩ | ⟨hb, hok, hB6⟩
    · injection hb with hb
      subst hb
      refine wpIn_cond_false s24.bool_inv (wpIn_skip ?_)
      refine rt_lines hne hl0 hge hfe hE h2 h3 h4 ls (acc ++ [(rlP x).1]) (fun y hy => hls y (by simp [hy])) hlen2 (by simp; omega) hB6 hA7 u0 u1 (fun G st w hb hall => ?_) fun G st w acc rest hb hex => ?_
      · refine hdone G st w ?_ fun y hy => ?_
        · simpa using hb
        · rcases List.mem_cons.1 hy with rfl | hy
          · exact hok
          · exact hall y hy
      · obtain ⟨y, hy, hy2⟩ := hex
        exact hstop G st w acc rest hb ⟨y, by simp [hy], hy2⟩
    · injection hb with hb
      subst hb
      refine wpIn_cond_true s24.bool_inv (wpIn_ret ?_)
      obtain ⟨u, h5, _⟩ := results_ok hT hA7 hB6.rel (fn := A.nY) (xs := []) A.rY (by decide) (r := .tup []) rfl
      exact ⟨hA7.1, u, h5, hstop G6 st6 w6 acc _ hB6 ⟨x, by simp, hok⟩⟩
end
end Go.AM

namespace Go.AM
open Go Go.RowKit
def RtFin (Gs : Gh) (w0 : World) (s : Bytes) (v : Value) (w' : World) : Prop := ∃ G' st' r, r.strip = some (.tup [.sl .ext ((rtR s).1.map Pan.row), .i .i64 (rtR s).2]) ∧ R G' r v ∧ HLe Gs.H G'.H ∧ G'.fm = Gs.fm ∧ (∀ g o v, G'.H g o = some v → Gs.H g o = some v ∨ w0.heap.size ≤ g) ∧ Rel G' w0 st' w' ∧ (∀ b x, Gs.M b = some x → G'.M b = some x)
theorem badT_no {s : Bytes} (h : badT s = false) : (spl s).2 = [] ∧ (spl s).1.length ≤ 410 := by
  unfold badT at h
  simp only [Bool.or_eq_false_iff, Bool.and_eq_false_iff, decide_eq_false_iff_not, Bool.not_eq_false'] at h
  refine ⟨spl_rest.2 ?_, by rw [spl_count]; omega⟩
  rcases h.1 with h1 | h1
  · exact .inl (Decidable.not_not.1 h1)
  · exact .inr h1
theorem badT_yes {s : Bytes} (h : badT s = true) (hs : ¬120000 < s.length) : rtR s = ([], 12) := by
  unfold badT at h
  simp only [Bool.or_eq_true, Bool.and_eq_true, decide_eq_true_eq, Bool.not_eq_true'] at h
  unfold rtR
  rw [if_neg hs, if_pos]
  rcases h with ⟨h1, h2⟩ | h
  · refine .inl fun e => ?_
    rcases spl_rest.1 e with e | e
    · exact h1 e
    · unfold ends10 at h2; rw [h2] at e; cases e
  · exact .inr (by rw [spl_count]; exact h)
theorem rtR_all {s : Bytes} (h : badT s = false) (hs : ¬120000 < s.length) (hall : ∀ x ∈ (spl s).1, okL x) : rtR s = ((spl s).1.map fun x => (rlP x).1, 0) := by
  obtain ⟨h1, h2⟩ := badT_no h
  unfold rtR
  rw [if_neg hs, if_neg (by rintro (h | h); exact h h1; omega), if_pos (List.all_eq_true.2 fun x hx => decide_eq_true (hall x hx))]
theorem rtR_not {s : Bytes} (h : badT s = false) (hs : ¬120000 < s.length) (hex : ∃ x ∈ (spl s).1, ¬okL x) : rtR s = ([], 12) := by
  obtain ⟨h1, h2⟩ := badT_no h
  unfold rtR
  rw [if_neg hs, if_neg (by rintro (h | h); exact h h1; omega), if_neg]
  intro ha
  obtain ⟨x, hx, hn⟩ := hex
  exact hn (of_decide_eq_true (List.all_eq_true.1 ha x hx))
section
variable {P : Program} {X : Cx} {prog : Prog} (A : RtAt P X)
theorem rt_res (hT : TTok P X.T) {G : Gh} {w0 w : World} {st : St} {σ : Sl} {T : Array Value} {v2 v3 : Nat} {x2 x3 : AV} (hA : RelA G 39 σ ⟨T, []⟩) (hR : Rel G w0 st w) (h2 : σ 2 = .p (0, 0) v2 0) (h3 : σ 3 = .p (0, 1) v3 0) (b2 : lk st.bx (0, 0) = some (v2, [x2])) (b3 : lk st.bx (0, 1) = some (v3, [x3])) :
    ∃ v, (results A.nR T).run P w = .ok v w ∧ R G (.tup [x2, x3]) v := by
  refine results_ok hT hA hR (fn := A.nR) A.rR (by decide) ?_
  have e2 : ares1 σ st (.cell 2 1 false) = some x2 := ares_cell h2 b2 rfl rfl
  have e3 : ares1 σ st (.cell 3 1 false) = some x3 := ares_cell h3 b3 rfl rfl
  simp only [ares, aresL, e2, e3, Option.map_some]
variable (H : HasR0 prog) (hT : TTok P X.T) (hm : P.follows .mixedOrders = true) (hC : ∀ n, CallOk P X.fm (acall prog n)) (c187 : ∀ s : Bytes, s.length ≤ 1000000000 → Pus prog 187 [.s s, .s [10]] (.i .i64 (s.count 10 : Int)))
include hT hm hC H
theorem rt_Lines {G : Gh} {w0 w : World} {st : St} {s : Bytes} {v : Value} (hfm : X.fm = G.fm) (hR : Rel G w0 st w) (hv : R G (.s s) v) : Calls P A.fL #[v] w fun e w' => match e with
    | .returned u => ∃ G' st', R G' (.fn 195 [.p (1, 0) st.nx 0]) u ∧ Run G G' w0 st st' w' 1 ∧ st'.bx = st_ st.bx (1, 0) (st.nx, [.s s]) ∧ st'.ow = st.ow
    | _ => False := by
  refine calls_of_wp A.eL A.bL ?_
  rw [A.tL]
  have hE : RelA G 4 (sl0 [.s s]) { tmps := ([v] : List Value).toArray ++ Array.replicate (4 - ([v] : List Value).toArray.size) undef, defers := [] } := RelA.enter ⟨rfl, fun j a u h1 h2 => by
    cases j with
    | zero => simp at h1 h2; subst h1; subst h2; exact hv
    | succ j => simp at h1⟩ (by simp)
  refine (wpIn_wide (n := 0)).1 (W.wpn (prog := prog) (d := 1) hT hm hC A.l0 (w188 (s := s) rfl) hfm hE hR fun e σ' st' hq a' w' G' hA' hrun => ?_)
  obtain ⟨rfl, h2, hbx, how⟩ := hq
  obtain ⟨u, h3, h4⟩ := results_ok hT hA' hrun.rel (fn := A.nL) A.rL (by decide) (r := .fn 195 [.p (1, 0) st.nx 0]) (by simp only [ares, ares1, h2])
  exact ⟨hA'.1, u, h3, G', st', h4, hrun, hbx, how⟩
include c187
theorem rt_calls {Gs : Gh} {w0 : World} {s : Bytes} {vals : List Value} (hL : ∃ c, X.fm A.fL = some c) (hY : X.fm A.fY = some 195) (hs : s.length ≤ 1000000000) (hfm : X.fm = Gs.fm) (hR : Rel Gs w0 st0 w0) (hV : Rs Gs [.s s] vals) : Calls P A.fR vals.toArray w0 fun e w' => match e with | .returned v => RtFin Gs w0 s v w' | _ => False := by
  refine (callsIn_wide (n := 0)).1 (callsIn_of_wp_marks (F := Fence.wide) (n := 0) A.eR A.bR trivial ?_)
  rw [A.tR]
  have hA0 := RelA.enter (nt := 39) hV (by simp)
  -- an end ahead of the loop
  have early : ∀ {x2 x3 : AV} {v2 v3 : Nat} {σ : Sl} {G : Gh} {st : St} {a : Act} {w : World}, (.tup [x2, x3] : AV).strip = some (.tup [.sl .ext ((rtR s).1.map Pan.row), .i .i64 (rtR s).2]) → RelA G 39 σ a → Run Gs G w0 st0 st w 0 → σ 2 = .p (0, 0) v2 0 → σ 3 = .p (0, 1) v3 0 → lk st.bx (0, 0) = some (v2, [x2]) → lk st.bx (0, 1) = some (v3, [x3]) →
      bodyPostM Fence.wide 0 P A.nR (fun e w' => match e with | .returned v => RtFin Gs w0 s v w' | _ => False) .ret a w := by
    intro x2 x3 v2 v3 σ G st a w hst hA hrun h2 h3 b2 b3
    obtain ⟨v, e1, e2⟩ := rt_res A hT (T := a.tmps) ⟨rfl, hA.2⟩ hrun.rel h2 h3 b2 b3
    show LeavesInM Fence.wide 0 P A.nR a.tmps _ a.defers .returning w
    rw [hA.1]
    exact ⟨v, e1, G, st, _, hst, e2, hrun.le.H, hrun.le.fm, hrun.newH, hrun.rel, hrun.le.M⟩
  refine wpIn_seq (W.wpn hT hm hC A.a0 w167_0 hfm hA0 hR fun e σ1 st1 hq a1 w1 G1 hA1 hrun1 => ?_)
  obtain ⟨rfl, f0, f2, f3, fb2, fb3, fo⟩ := hq
  have g0 : σ1 0 = .s s := f0
  refine wpIn_seq (W.wpn hT hm hC A.a1 (w167_1 g0 f2 f3 fb2 fb3) (hfm.trans hrun1.le.fm.symm) hA1 hrun1.rel fun e σ2 st2 hq a2 w2 G2 hA2 hrun2 => ?_)
  obtain ⟨e0, e2, e3, eo, hbig, hsm⟩ := hq
  have run2 := hrun1.trans hrun2
  by_cases hlen : 120000 < s.length
  · obtain ⟨rfl, b2, b3⟩ := hbig hlen
    refine early ?_ hA2 run2 (e2.trans f2) (e3.trans f3) b2 b3
    unfold rtR
    rw [if_pos hlen]
    rfl
  obtain ⟨rfl, eb⟩ := hsm hlen
  refine wpIn_seq (W.wpn hT hm hC A.a3 (w167_3 H.toHasP c187 hs (e0.trans g0) (e2.trans f2) (e3.trans f3) (eb ▸ fb2) (eb ▸ fb3)) (hfm.trans run2.le.fm.symm) hA2 hrun2.rel fun e σ3 st3 hq a3 w3 G3 hA3 hrun3 => ?_)
  obtain ⟨d0, d2, d3, dO, hyes, hno⟩ := hq
  have run3 := run2.trans hrun3
  cases hbad : badT s with
  | true =>
    obtain ⟨rfl, b2, b3⟩ := hyes hbad
    refine early ?_ hA3 run3 (d2.trans (e2.trans f2)) (d3.trans (e3.trans f3)) b2 b3
    rw [badT_yes hbad hlen]
    rfl
  | false =>
  obtain ⟨rfl, db⟩ := hno hbad
  refine wpIn_seq (W.wpn hT hm hC A.a5 w167_5 (hfm.trans run3.le.fm.symm) hA3 hrun3.rel fun e σ4 st4 hq a4 w4 G4 hA4 hrun4 => ?_)
  obtain ⟨rfl, c0, c2, c3, c4, cb, co⟩ := hq
  have run4 := run3.trans hrun4
  have m0 : σ4 0 = .s s := c0.trans (d0.trans (e0.trans g0))
  have m2 : σ4 2 = .p (0, 0) st0.nx 0 := c2.trans (d2.trans (e2.trans f2))
  have m3 : σ4 3 = .p (0, 1) (st0.nx + 1) 0 := c3.trans (d3.trans (e3.trans f3))
  have hB4 : B4 st0.nx (st0.nx + 1) st3.nx st4 (.sl .full []) (.i .i64 0) [] := by
    refine ⟨?_, ?_, .full, ?_, trivial⟩
    · rw [cb]; exact lk_other rfl (by rw [db, eb]; exact fb2)
    · rw [cb]; exact lk_other rfl (by rw [db, eb]; exact fb3)
    · rw [cb]; exact lk_here
  -- strings.Lines
  refine wpIn_seq (wpIn_seq (wpIn_region ?_))
  show wpOpsIn Fence.wide 0 P #[A.p1, A.p2] _ [0, 1] a4 w4
  have q0 := cOpd_ok hA4 (x := .tmp 0) (y := .t 0) rfl
  refine in_val (o := A.p1) rfl A.p1g (run_move A.p1o) ?_
  have hA5 := hA4.put (d := A.p1.dst) (fun t ht => by rw [A.p1d] at ht; cases ht; decide) q0
  have v23 : updO σ4 A.p1.dst ((Opd.t 0).ev σ4) 23 = .s s := by rw [A.p1d]; exact m0
  have k2 : updO σ4 A.p1.dst ((Opd.t 0).ev σ4) 2 = .p (0, 0) st0.nx 0 := by rw [A.p1d]; exact m2
  have k3 : updO σ4 A.p1.dst ((Opd.t 0).ev σ4) 3 = .p (0, 1) (st0.nx + 1) 0 := by rw [A.p1d]; exact m3
  have k4 : updO σ4 A.p1.dst ((Opd.t 0).ev σ4) 4 = .p (0, 20480) st3.nx 0 := by rw [A.p1d]; exact c4
  have q23 := cOpd_ok hA5 (x := .tmp 23) (y := .t 23) rfl
  generalize updO σ4 A.p1.dst ((Opd.t 0).ev σ4) = σ5 at *
  generalize a4.put A.p1.dst (a4.eval (.tmp 0)) = a5 at *
  unfold Same at q23
  simp only [Opd.ev] at q23
  rw [v23] at q23
  refine in_call (o := A.p2) rfl A.p2g (run_callop A.p2o rfl (callFunc_enter A.eL A.mL A.bL _)) (rt_Lines A H hT hm hC (hfm.trans run4.le.fm.symm) hrun4.rel q23) fun u w6 hu => ?_
  obtain ⟨G6, st6, hRu, hrun6, nb, no⟩ := hu
  have hA6 := (hA5.mono hrun6.le).put (d := A.p2.dst) (fun t ht => by rw [A.p2d] at ht; cases ht; decide) hRu
  have v24 : updO σ5 A.p2.dst (.fn 195 [.p (1, 0) st4.nx 0]) 24 = .fn 195 [.p (1, 0) st4.nx 0] := by rw [A.p2d]; rfl
  have n2 : updO σ5 A.p2.dst (.fn 195 [.p (1, 0) st4.nx 0]) 2 = .p (0, 0) st0.nx 0 := by rw [A.p2d]; exact k2
  have n3 : updO σ5 A.p2.dst (.fn 195 [.p (1, 0) st4.nx 0]) 3 = .p (0, 1) (st0.nx + 1) 0 := by rw [A.p2d]; exact k3
  have n4 : updO σ5 A.p2.dst (.fn 195 [.p (1, 0) st4.nx 0]) 4 = .p (0, 20480) st3.nx 0 := by rw [A.p2d]; exact k4
  have q24 := cOpd_ok hA6 (x := .tmp 24) (y := .t 24) rfl
  generalize updO σ5 A.p2.dst (.fn 195 [.p (1, 0) st4.nx 0]) = σ6 at *
  generalize a5.put A.p2.dst u = a6 at *
  unfold Same at q24
  simp only [Opd.ev] at q24
  rw [v24] at q24
  have hB6 : B4 st0.nx (st0.nx + 1) st3.nx st6 (.sl .full []) (.i .i64 0) [] := hB4.other rfl nb no
  have hs6 : lk st6.bx (1, 0) = some (st4.nx, [.s s]) := by rw [nb]; exact lk_here
  have run6 : Gs.Le G6 ∧ (∀ g o v, G6.H g o = some v → Gs.H g o = some v ∨ w0.heap.size ≤ g) := ⟨run4.le.trans hrun6.le, fun g o v hv => by
    rcases hrun6.newH g o v hv with h' | h'
    · exact run4.newH g o v h'
    · exact .inr h'⟩
  show (Code.block 0 (.rangeFunc (.tmp 24) #[25] A.A7 A.A8)).wpIn Fence.wide 0 P _ a6 w6
  obtain ⟨f, us, hf, hval, hus⟩ := q24.fn_inv
  have hfm6 : X.fm = G6.fm := hfm.trans run6.1.fm.symm
  obtain rfl := A.fm f (by rw [hfm6]; exact hf)
  refine wpIn_block (wpIn_rangeFunc ?_)
  intro fn _
  obtain ⟨hn1, hR7⟩ := hrun6.rel.newOb (o := .deferred (some [])) rfl
  obtain ⟨hn2, hR8⟩ := hR7.newOb (o := .loop (A.lp fn a6.tmps w6.heap.size .ready none)) rfl
  rw [World.size_alloc] at hn2 hR8
  have hne : w6.heap.size ≠ w6.heap.size + 1 := by omega
  have hgD : Gs.M w6.heap.size = none := by
    cases h : Gs.M w6.heap.size with
    | none => rfl
    | some x => have := run6.1.M _ _ h; rw [hn1] at this; cases this
  have hgl : Gs.M (w6.heap.size + 1) = none := by
    cases h : Gs.M (w6.heap.size + 1) with
    | none => rfl
    | some x => have := run6.1.M _ _ h; rw [Gh.setM_ne _ (by omega), this] at hn2; cases hn2
  have hsz := hrun6.rel.bel.size
  have hE : RelA G6 39 σ6 ⟨a6.tmps, []⟩ := ⟨rfl, hA6.2⟩
  obtain ⟨hp1, hp2⟩ := badT_no hbad
  have hsp : s = unl10 (spl s).1 := by
    have := spl_join s
    rw [hp1, List.append_nil] at this
    exact this
  have le7 := Gh.setM_leM (x := .ob (.deferred (some []))) hn1
  have le8 := Gh.setM_leM (x := .ob (.loop (A.lp fn a6.tmps w6.heap.size .ready none))) hn2
  have hB8 : Bt Gs G6 w0 w6.heap.size (w6.heap.size + 1) st0.nx (st0.nx + 1) st3.nx st4.nx (A.lp fn a6.tmps w6.heap.size .ready none) (.sl .full []) (.i .i64 0) [] (unl10 (spl s).1) ((G6.setM w6.heap.size (.ob (.deferred (some [])))).setM (w6.heap.size + 1) (.ob (.loop (A.lp fn a6.tmps w6.heap.size .ready none)))) st6 ((w6.alloc (.deferred (some []))).alloc (.loop (A.lp fn a6.tmps w6.heap.size .ready none))) :=
    ⟨(le7.trans le8).toR, run6.2, fun b x hx => (le7.trans le8).M b x (run6.1.M b x hx), hR8, by rw [Gh.setM_ne _ hne, Gh.setM_at], Gh.setM_at _ _, hB6, by rw [← hsp]; exact hs6⟩
  generalize hW : (w6.alloc (.deferred (some []))).alloc (.loop (A.lp fn a6.tmps w6.heap.size .ready none)) = W1 at *
  generalize (G6.setM w6.heap.size (.ob (.deferred (some [])))).setM (w6.heap.size + 1) (.ob (.loop (A.lp fn a6.tmps w6.heap.size .ready none))) = G8 at *
  -- the end
  have close : ∀ {lp : Loop} {x2 x3 : AV} {acc : List Pan} {rest : Bytes} {σ : Sl} {T : Array Value} {G : Gh} {st : St} {w : World}, (.tup [x2, x3] : AV).strip = some (.tup [.sl .ext ((rtR s).1.map Pan.row), .i .i64 (rtR s).2]) → Bt Gs G6 w0 w6.heap.size (w6.heap.size + 1) st0.nx (st0.nx + 1) st3.nx st4.nx lp x2 x3 acc rest G st w → RelA G 39 σ ⟨T, []⟩ → σ 2 = .p (0, 0) st0.nx 0 → σ 3 = .p (0, 1) (st0.nx + 1) 0 →
      LeavesInM Fence.wide 0 P A.nR T (fun e w' => match e with | .returned v => RtFin Gs w0 s v w' | _ => False) [{ target := .collected w6.heap.size, args := #[] }] .returning w := by
    intro lp x2 x3 acc rest σ T G st w hst hB hA h2 h3
    have hD := hB.rel.mp _ _ hB.mD
    have hn : ∀ x, G.M w6.heap.size ≠ some (.mp x) := fun x e => by rw [hB.mD] at e; cases e
    have hrel := hB.rel.putOb (o' := .deferred none) hD.1 rfl rfl hsz hn
    have hle := Gh.setM_le (G := G) (x := .ob (.deferred none)) hn
    refine ⟨by simp, .inl ⟨w6.heap.size, _, rfl, run_takeDeferred hD.1, ?_⟩⟩
    obtain ⟨v, e1, e2⟩ := rt_res A hT (hA.monoR hle) hrel h2 h3 hB.b4.b2 hB.b4.b3
    exact ⟨v, e1, _, st, _, hst, e2, fun g o v hv => hB.le.H _ _ _ (run6.1.H _ _ _ hv), hB.le.fm.trans run6.1.fm, hB.newH, hrel, fun b x hx => by
      rw [Gh.setM_ne _ (by rintro rfl; rw [hgD] at hx; cases hx)]
      exact hB.old b x hx⟩
  refine ⟨w6.heap.size + 1, [{ target := .collected w6.heap.size, args := #[] }], W1, { target := .fn (.func A.fY) us.toArray, args := #[.func (.yield (w6.heap.size + 1)) #[] #[]] }, W1, A.fY, #[.func (.yield (w6.heap.size + 1)) #[] #[]] ++ us.toArray, W1, ?_, ?_, fun _ _ => trivial, ?_, fun h => (by cases h), ?_⟩
  · rw [← hW]; exact run_enterLoop_outer _ _ _ _ _
  · simp only [resolve, hval]
    simp [go_sem]
  · simp [invoke, go_sem, callFunc_enter A.eY A.mY A.bY]
  · have hAY : RelA G8 25 (sl0 [.yl (w6.heap.size + 1), .p (1, 0) st4.nx 0]) { tmps := (.func (.yield (w6.heap.size + 1)) #[] #[] :: us).toArray ++ Array.replicate (25 - (Value.func (.yield (w6.heap.size + 1)) #[] #[] :: us).toArray.size) undef, defers := [] } := by
      refine RelA.enter ⟨by have := hus.1; simp at this ⊢; omega, fun j a u h1 h2 => ?_⟩ (by simp)
      cases j with
      | zero => simp at h1 h2; subst h1; subst h2; exact .yl _
      | succ j => exact (hus.2 j a u (by simpa using h1) (by simpa using h2)).monoR hB8.le
    have eargs : (#[.func (.yield (w6.heap.size + 1)) #[] #[]] ++ us.toArray : Array Value) = (.func (.yield (w6.heap.size + 1)) #[] #[] :: us).toArray := by simp
    refine (callsIn_of_wp (F := Fence.wide) (n := 0) (R := fun e w' => match e with
      | .returned _ => (∃ G st, Bt Gs G6 w0 w6.heap.size (w6.heap.size + 1) st0.nx (st0.nx + 1) st3.nx st4.nx (A.lp fn a6.tmps w6.heap.size .ready none) (.sl .full []) (.i .i64 0) ((spl s).1.map fun x => (rlP x).1) [] G st w' ∧ ∀ x ∈ (spl s).1, okL x) ∨ (∃ G st acc rest, Bt Gs G6 w0 w6.heap.size (w6.heap.size + 1) st0.nx (st0.nx + 1) st3.nx st4.nx (A.lp fn a6.tmps w6.heap.size .done (some .ret)) (.sl .full []) (.i .i64 12) acc rest G st w' ∧ ∃ x ∈ (spl s).1, ¬okL x)
      | _ => False) A.eY A.bY trivial ?_).mono fun e w9 he => ?_
    · rw [eargs, A.tY]
      refine wpIn_block (wpIn_loop_rounds _ (rt_lines A H hT hm hC hne hgl (by omega) hfm6 hE n2 n3 n4 (spl s).1 [] (fun x hx => ⟨(spl_nl s).1 x hx, ?_⟩) ?_ ?_ hB8 hAY rfl rfl (fun G st w hB hall => .inl ⟨G, st, by simpa using hB, hall⟩) fun G st w acc rest hB hex => .inr ⟨G, st, acc, rest, hB, hex⟩))
      · have := spl_len s x hx; omega
      · rw [← hsp]; exact hs
      · simp; omega
    · cases e with
      | panicked c => exact he.elim
      | outgrown => exact he.elim
      | returned v =>
        rcases he with ⟨G9, st9, hB9, hall⟩ | ⟨G9, st9, acc, rest, hB9, hex⟩
        · obtain ⟨hle, hB10⟩ := hB9.turn (A.lp fn a6.tmps w6.heap.size .exhausted none) hne hgl (by omega)
          refine ⟨none, _, run_endLoop hB9.at (by simp), ?_⟩
          show (Code.seq (.region 12 #[A.q1, A.q2, A.q3] false) .ret).wpIn Fence.wide 0 P _ { a6 with defers := [{ target := .collected w6.heap.size, args := #[] }] ++ a6.defers } _
          rw [hA6.1]
          generalize w9.putObj (w6.heap.size + 1) _ = w10 at *
          generalize G9.setM (w6.heap.size + 1) _ = G10 at *
          have hE10 := hE.monoR hB10.le
          obtain ⟨b2, b3, o, b4, b5⟩ := hB10.b4
          refine wpIn_seq (wpIn_region ?_)
          show wpOpsIn Fence.wide 0 P #[A.q1, A.q2, A.q3] _ [0, 1, 2] _ _
          have r4 := cOpd_ok hE10 (x := .tmp 4) (y := .t 4) rfl
          unfold Same at r4
          simp only [Opd.ev] at r4
          rw [n4] at r4
          obtain ⟨u1, hr1, hR1⟩ := aload_ok (P := P) hB10.rel (hT A.t1 A.i1 A.u1) (fun _ => A.s1) (r := .sl o (((spl s).1.map fun x => (rlP x).1).map Pan.row)) (by
            rw [A.s1, A.g1]
            simp only [aload, b4]
            rfl) r4
          refine in_val (o := A.q1) rfl A.q1g (run_load A.q1o hr1) ?_
          have hA11 := hE10.put (d := A.q1.dst) (fun t ht => by rw [A.q1d] at ht; cases ht; decide) hR1
          have v38 : updO σ6 A.q1.dst (.sl o (((spl s).1.map fun x => (rlP x).1).map Pan.row)) 38 = .sl o (((spl s).1.map fun x => (rlP x).1).map Pan.row) := by rw [A.q1d]; rfl
          have v2 : updO σ6 A.q1.dst (.sl o (((spl s).1.map fun x => (rlP x).1).map Pan.row)) 2 = .p (0, 0) st0.nx 0 := by rw [A.q1d]; exact n2
          have v3 : updO σ6 A.q1.dst (.sl o (((spl s).1.map fun x => (rlP x).1).map Pan.row)) 3 = .p (0, 1) (st0.nx + 1) 0 := by rw [A.q1d]; exact n3
          have r38 := cOpd_ok hA11 (x := .tmp 38) (y := .t 38) rfl
          have r2 := cOpd_ok hA11 (x := .tmp 2) (y := .t 2) rfl
          have r3 := cOpd_ok hA11 (x := .tmp 3) (y := .t 3) rfl
          have hput : ({ a6 with defers := [{ target := .collected w6.heap.size, args := #[] }] ++ [] } : Act).put A.q1.dst u1 = { (⟨a6.tmps, []⟩ : Act).put A.q1.dst u1 with defers := [{ target := .collected w6.heap.size, args := #[] }] } := by rw [A.q1d]; rfl
          rw [hput]
          have hd0 : ((⟨a6.tmps, []⟩ : Act).put A.q1.dst u1).defers = [] := hA11.1
          generalize (⟨a6.tmps, []⟩ : Act).put A.q1.dst u1 = a11 at *
          generalize updO σ6 A.q1.dst (.sl o (((spl s).1.map fun x => (rlP x).1).map Pan.row)) = σ11 at *
          unfold Same at r38 r2 r3
          simp only [Opd.ev] at r38 r2 r3
          rw [v38] at r38
          rw [v2] at r2
          rw [v3] at r3
          obtain ⟨w11, hr2, hst2⟩ := astore_ok (P := P) hB10.rel (hT A.t1 A.i1 A.u1) (st' := { st9 with bx := st_ st9.bx (0, 0) (st0.nx, [.sl o (((spl s).1.map fun x => (rlP x).1).map Pan.row)]) }) (by
            rw [A.s1]
            simp only [astore, b2]
            rfl) r2 r38 (d := 0) (site := 0) (ver := st9.nx)
          refine in_skip (o := A.q2) rfl A.q2g (run_store A.q2o hr2) ?_
          rw [A.q2d]
          have hrun11 := Run.step (Run.refl (d := 0) hB10.rel) hst2 (Nat.le_refl _)
          obtain ⟨w12, hr3, hst3⟩ := astore_ok (P := P) hst2.rel (hT A.t2 A.i2 A.u2) (st' := { st9 with bx := st_ (st_ st9.bx (0, 0) (st0.nx, [.sl o (((spl s).1.map fun x => (rlP x).1).map Pan.row)])) (0, 1) (st0.nx + 1, [.i .i64 0]) }) (by
            rw [A.s2]
            simp only [astore, lk_other (d := 0) (s := 0) (s' := 1) rfl b3]
            rfl) r3 (.fz _ _ (.i .i64 0)) (d := 0) (site := 0) (ver := st9.nx)
          refine in_skip (o := A.q3) rfl A.q3g (run_store A.q3o hr3) ?_
          rw [A.q3d]
          have hrun12 := Run.step hrun11 hst3 (Nat.le_refl _)
          have hB12 := hB10.run (x2' := .sl o (((spl s).1.map fun x => (rlP x).1).map Pan.row)) (x3' := .i .i64 0) (acc' := (spl s).1.map fun x => (rlP x).1) (rest' := []) hrun12 ⟨lk_other rfl lk_here, lk_here, o, lk_other rfl (lk_other rfl b4), b5⟩ (by
            have hk : ∀ z : Nat, ((0, z) : Key) ≠ (1, 0) := fun z e => by injection e with e _; cases e
            exact (lk_ne (hk _)).trans ((lk_ne (hk _)).trans hB10.bs))
          refine wpIn_ret ?_
          show LeavesInM Fence.wide 0 P A.nR a11.tmps _ [{ target := .collected w6.heap.size, args := #[] }] .returning w12
          refine close ?_ hB12 ⟨rfl, hA11.2⟩ v2 v3
          rw [rtR_all hbad hlen hall]
          rfl
        · obtain ⟨hle, hB10⟩ := hB9.turn (A.lp fn a6.tmps w6.heap.size .exhausted (some .ret)) hne hgl (by omega)
          refine ⟨some .ret, _, run_endLoop hB9.at (by simp), wpIn_ret ?_⟩
          show LeavesInM Fence.wide 0 P A.nR a6.tmps _ ([{ target := .collected w6.heap.size, args := #[] }] ++ a6.defers) .returning _
          rw [hA6.1]
          refine close ?_ hB10 (hE.monoR hB10.le) n2 n3
          rw [rtR_not hbad hlen hex]
          rfl
end
end Go.AM

namespace Go.AM
open Go Go.RowKit
def bodyR (f : Func) : Code := f.body.getD .skip
def sqA : Code → Code | .seq a _ => a | c => c
def sqB : Code → Code | .seq _ b => b | c => c
def sqU : Code → Code | .block _ c => c | .loop c => c | c => c
def rfA : Code → Code | .rangeFunc _ _ a _ => a | c => c
def rfB : Code → Code | .rangeFunc _ _ _ b => b | c => c
def rgO (c : Code) (i : Nat) : Oper := match c with | .region _ o _ => o.getD i default | _ => default
theorem lift0 {P : Program} {X : Cx} {G : Gh} {w0 w : World} {st : St} {d : Nat} {f : FuncId} {s : Bytes} {vals : List Value} (hR : Rel G w0 st w) (hen : (callFunc f vals.toArray).run P w = .ok (.enter f vals.toArray) w)
    (h : Calls P f vals.toArray w fun e w' => match e with | .returned v => RtFin ⟨G.H, fun _ _ => none, fun _ _ => none, G.fm, G.M⟩ w s v w' | _ => False) :
    Goes P f vals.toArray w fun v w' => ∃ G', R G' (.tup [.sl .ext ((rtR s).1.map Pan.row), .i .i64 (rtR s).2]) v ∧ Run G G' w0 st st w' d := by
  refine .inl ⟨hen, h.mono fun e w' he => ?_⟩
  cases e with
  | panicked c => exact he.elim
  | outgrown => exact he.elim
  | returned v =>
    obtain ⟨G', st', r, h1, h2, h3, h4, h5, h6, h7⟩ := he
    have hs := (Step.grow (d := d) (site := 0) (ver := 0) hR h6.bel.bel h3 (fun g o v hg => by
      rcases h5 g o v hg with h' | h'
      · exact .inl h'
      · exact .inr ⟨h', h6.ext g o v hg⟩)).setM h7 h6.mp
    exact ⟨⟨G'.H, G.ρ, G.ω, G.fm, G'.M⟩, strip_ok (G := G') (fun _ _ _ h => h) (fun _ _ h => h) h2 h1 G.fm, ⟨hs.le, hs.rel, hs.nx, fun _ _ _ => ⟨rfl, rfl⟩, fun _ _ _ _ _ _ h => h, fun g o v hg => by
      rcases h5 g o v hg with h' | h'
      · exact .inl h'
      · exact .inr (Nat.le_trans hR.bel.size h')⟩⟩
theorem rel0 {G : Gh} {w0 w : World} {st : St} (hR : Rel G w0 st w) : Rel ⟨G.H, fun _ _ => none, fun _ _ => none, G.fm, G.M⟩ w st0 w := by
  refine ⟨hR.bel.here, hR.ext, ?_, ?_, ?_, ?_, fun _ _ _ => ⟨rfl, rfl⟩, fun k ver cs g _ h1 => ?_, fun k ver n _ h1 => ?_, hR.mp⟩
  rotate_left 4
  · simp [st0, lk] at h1
  · simp [st0, lk] at h1
  · intro k ver cs g h1; simp [st0, lk] at h1
  · intro k k' ver ver' cs cs' g h1; simp [st0, lk] at h1
  · intro k ver n h1; simp [st0, lk] at h1
  · intro k k' ver ver' n n' g cap size cap' size' h1; simp [st0, lk] at h1
def orcC : Nat → List AV → Option AV := fun c args => if c = 187 then (match args with | [.s s, .s [b]] => some (.i .i64 (s.count b : Int)) | _ => none) else orcB c args
def orcR : Nat → List AV → Option AV := fun c args => if c = 167 then (match args with | [.s s] => if s.length ≤ 1000000000 then some (.tup [.sl .ext ((rtR s).1.map Pan.row), .i .i64 (rtR s).2]) else none | _ => none) else orcC c args
theorem orcC_187 (s : Bytes) (b : UInt8) : orcC 187 [.s s, .s [b]] = some (.i .i64 (s.count b : Int)) := rfl
theorem orcC_48 (s : List UInt8) (c : UInt8) : orcC 48 [.s s, .i .u8 (c.toNat : Int)] = some (.i .i64 (Lib.indexByte s c)) := by
  unfold orcC
  rw [if_neg (by decide)]
  exact orcB_48 s c
theorem orcC_146 (k : Key) (v : Nat) : orcC 146 [.p k v 0] = some (.p k v 0) := rfl
theorem orcC_105 (args : List AV) : orcC 105 args = none := by
  unfold orcC
  rw [if_neg (by decide)]
  exact orcB_105 args
theorem orcR_167 (s : Bytes) (h : s.length ≤ 1000000000) : orcR 167 [.s s] = some (.tup [.sl .ext ((rtR s).1.map Pan.row), .i .i64 (rtR s).2]) := by
  unfold orcR
  rw [if_pos rfl]
  simp only
  rw [if_pos h]
theorem orcR_48 (s : List UInt8) (c : UInt8) : orcR 48 [.s s, .i .u8 (c.toNat : Int)] = some (.i .i64 (Lib.indexByte s c)) := by
  unfold orcR
  rw [if_neg (by decide)]
  exact orcC_48 s c
theorem orcR_146 (k : Key) (v : Nat) : orcR 146 [.p k v 0] = some (.p k v 0) := rfl
theorem orcR_105 (args : List AV) : orcR 105 args = none := by
  unfold orcR
  rw [if_neg (by decide)]
  exact orcC_105 args
variable {P : Program} {X : Cx} {fn : Nat → Option AF} {orc : Nat → List AV → St → Option (AV × St)}
theorem orcC_ok (hB : OracOk P X ⟨fn, orcB, orc⟩) {f0 : Nat} (hf : ∀ f, X.fm f = some 187 → f = f0) (hen : ∀ args w, (callFunc f0 args).run P w = .ok (.enter f0 args) w)
    (hc : ∀ (s : ByteArray) (c : UInt8) (w : World), Calls P f0 #[.string s, .string ⟨#[c]⟩] w fun e w' => e = .returned (.int .i64 (Lib.countByte s.data.toList c)) ∧ w' = w) : OracOk P X ⟨fn, orcC, orc⟩ := by
  intro f c hfc hn args r hr G w0 st w vals d hG hR hV
  simp only [orcC] at hr
  split at hr
  case isFalse => exact hB f c hfc hn args r hr G w0 st w vals d hG hR hV
  rename_i h187
  subst h187
  obtain rfl := hf f hfc
  split at hr
  case h_2 => cases hr
  rename_i s b
  cases hr
  have hlen := hV.1
  match vals, hlen with
  | [u1, u2], _ =>
    have e1 := (hV.2 0 _ u1 rfl rfl).str_inv
    have e2 := (hV.2 1 _ u2 rfl rfl).str_inv
    subst e1; subst e2
    refine .inl ⟨hen _ _, (hc ⟨s.toArray⟩ b w).mono fun e w' he => ?_⟩
    obtain ⟨rfl, rfl⟩ := he
    exact ⟨G, .fz _ _ (.i _ _), .refl hR⟩
theorem orcR_ok (hC0 : OracOk P X ⟨fn, orcC, orc⟩) (hS : OracSOk P X ⟨fn, orcC, orc⟩) (hT : TTok P X.T) (hm : P.follows .mixedOrders = true) (hF : ProgOk P X fn) (H : HasR0 ⟨fn, orcC, orc⟩) (hf187 : fn 187 = none) (A : RtAt P X) (hR167 : ∀ f, X.fm f = some 167 → f = A.fR) (hL : ∃ c, X.fm A.fL = some c) (hY : X.fm A.fY = some 195) : OracOk P X ⟨fn, orcR, orc⟩ := by
  intro f c hfc hn args r hr G w0 st w vals d hG hR hV
  simp only [orcR] at hr
  split at hr
  case isFalse => exact hC0 f c hfc hn args r hr G w0 st w vals d hG hR hV
  rename_i h167
  subst h167
  obtain rfl := hR167 f hfc
  split at hr
  case h_2 => cases hr
  rename_i s
  split at hr
  case isFalse => cases hr
  rename_i hs
  cases hr
  refine lift0 (X := X) hR (callFunc_enter A.eR A.mR A.bR _) ?_
  refine rt_calls A (prog := ⟨fn, orcC, orc⟩) H hT hm (calls_ok hT hm hF hC0 hS) (fun s hs => Pus.orac hf187 (orcC_187 s 10) rfl) hL hY hs hG.symm (rel0 hR) ⟨hV.1, fun j a u h1 h2 => ?_⟩
  have := hV.2 j a u h1 h2
  cases j with
  | zero =>
    simp at h1
    subst h1
    rw [this.str_inv]
    exact .fz _ _ (.s _)
  | succ j => simp at h1
end Go.AM

/- MADE BY PROGRAM (seat2.py): the types of the program, and that its code is the machine's. -/
namespace Go.Proofs
open Go.Shelf
def Try.lays169_ren : Go.Shelf.Ren := ⟨fun | 169 => 50 | n => n, fun | 70 => 86 | 9 => 9 | 0 => 0 | 72 => 88 | 37 => 63 | 127 => 108 | 3 => 3 | 5 => 5 | n => n, fun | n => n⟩
theorem Try.lays169 : Go.Proofs.Lays.n169 Try.prog Try.lays169_ren := {
  mixed := by kernel_rfl
  f169 := Try.func50.trans (congrArg some (by kernel_rfl))
  t0 := Try.underlying0
  a0 := Try.isAgg0
  z0 := Try.sizeOf0
  v0 := Try.zeroValue0
  t3 := Try.underlying3
  a3 := Try.isAgg3
  z3 := Try.sizeOf3
  v3 := Try.zeroValue3
  t9 := Try.underlying9
  a9 := Try.isAgg9
  z9 := Try.sizeOf9
  v9 := Try.zeroValue9
  t37 := Try.underlying63
  a37 := Try.isAgg63
  z37 := Try.sizeOf63
  v37 := Try.zeroValue63
  t70 := Try.underlying86
  a70 := Try.isAgg86
  z70 := Try.sizeOf86
  v70 := Try.zeroValue86
  t72 := Try.underlying88
  a72 := Try.isAgg88
  z72 := Try.sizeOf88
  v72 := Try.zeroValue88
  t127 := Try.underlying108
  a127 := Try.isAgg108
  z127 := Try.sizeOf108
  v127 := Try.zeroValue108 }

theorem Try.extraB : Builder.Extra Try.prog Try.lays169_ren := {
  sizeBuilder := by kernel_rfl
  liesBuilder := by kernel_rfl
  t5 := Try.underlying5
  a5 := Try.isAgg5
  z5 := Try.sizeOf5
  v5 := Try.zeroValue5
  infoByte := by kernel_rfl
  cellsByte := by kernel_rfl
  sizeByte := by kernel_rfl
  neB5 := by decide }
def Try.lays138_ren : Go.Shelf.Ren := ⟨fun | 138 => 53 | 195 => 67 | 218 => 68 | 143 => 69 | 219 => 88 | 217 => 89 | 225 => 99 | 224 => 100 | 267 => 101 | 266 => 102 | 314 => 106 | n => n, fun | 9 => 9 | 3 => 3 | 4 => 4 | 5 => 5 | 0 => 0 | 46 => 139 | 146 => 145 | 51 => 144 | n => n, fun | 1 => 0 | n => n⟩
theorem Try.lays138 : Go.Proofs.Lays.n138 Try.prog Try.lays138_ren := {
  mixed := by kernel_rfl
  f138 := Try.func53.trans (congrArg some (by kernel_rfl))
  f143 := Try.func69.trans (congrArg some (by kernel_rfl))
  f195 := Try.func67.trans (congrArg some (by kernel_rfl))
  f217 := Try.func89.trans (congrArg some (by kernel_rfl))
  f218 := Try.func68.trans (congrArg some (by kernel_rfl))
  f219 := Try.func88.trans (congrArg some (by kernel_rfl))
  f224 := Try.func100.trans (congrArg some (by kernel_rfl))
  f225 := Try.func99.trans (congrArg some (by kernel_rfl))
  f266 := Try.func102.trans (congrArg some (by kernel_rfl))
  f267 := Try.func101.trans (congrArg some (by kernel_rfl))
  f314 := Try.func106.trans (congrArg some (by kernel_rfl))
  t0 := Try.underlying0
  a0 := Try.isAgg0
  z0 := Try.sizeOf0
  v0 := Try.zeroValue0
  t3 := Try.underlying3
  a3 := Try.isAgg3
  z3 := Try.sizeOf3
  v3 := Try.zeroValue3
  t4 := Try.underlying4
  a4 := Try.isAgg4
  z4 := Try.sizeOf4
  v4 := Try.zeroValue4
  t5 := Try.underlying5
  a5 := Try.isAgg5
  z5 := Try.sizeOf5
  v5 := Try.zeroValue5
  t9 := Try.underlying9
  a9 := Try.isAgg9
  z9 := Try.sizeOf9
  v9 := Try.zeroValue9
  t46 := Try.underlying139
  a46 := Try.isAgg139
  z46 := Try.sizeOf139
  v46 := Try.zeroValue139
  t51 := Try.underlying144
  a51 := Try.isAgg144
  z51 := Try.sizeOf144
  v51 := Try.zeroValue144
  t146 := Try.underlying145
  a146 := Try.isAgg145
  z146 := Try.sizeOf145
  v146 := Try.zeroValue145
  g1 := by kernel_rfl }

end Go.Proofs
namespace Go.Proofs.Ytffbkdcgkhbpoaa
open Go Go.AM

def tys : List (Nat × TI) := [
(2, ⟨.int .i64, 1, 8, [.i .i64 0]⟩),
  (3, ⟨.int .i64, 1, 8, [.i .i64 0]⟩),
  (4, ⟨.bool, 1, 1, [.b false]⟩),
  (5, ⟨.int .u8, 1, 1, [.i .u8 0]⟩),
  (9, ⟨.str, 1, 16, [.s []]⟩),
  (22, ⟨.int .u64, 1, 8, [.i .u64 0]⟩),
  (23, ⟨.sl 25, 1, 24, [.sl .full []]⟩),
  (25, ⟨.st [(5, 0), (2, 1), (9, 2), (23, 3), (4, 4)], 5, 64, [.i .u8 0, .i .i64 0, .s [], .sl .full [], .b false]⟩),
  (27, ⟨.st [(22, 0), (25, 1), (22, 6)], 7, 80, [.i .u64 0, .i .u8 0, .i .i64 0, .s [], .sl .full [], .b false, .i .u64 0]⟩),
  (29, ⟨.int .i64, 1, 8, [.i .i64 0]⟩),
  (42, ⟨.sl 27, 1, 24, [.sl .full []]⟩),
  (63, ⟨.sl 5, 1, 24, [.sl .full []]⟩),
  (65, ⟨.sl 9, 1, 24, [.sl .full []]⟩),
  (70, ⟨.arr 4 9, 4, 64, [.s [], .s [], .s [], .s []]⟩),
  (80, ⟨.arr 5 5, 5, 5, [.i .u8 0, .i .u8 0, .i .u8 0, .i .u8 0, .i .u8 0]⟩),
  (86, ⟨.ptr 88, 1, 8, [.np]⟩),
  (88, ⟨.st [(86, 0), (63, 1)], 2, 32, [.np, .sl .full []]⟩),
  (90, ⟨.other, 1, 16, [.ni]⟩),
  (109, ⟨.arr 8 9, 8, 128, [.s [], .s [], .s [], .s [], .s [], .s [], .s [], .s []]⟩),
  (116, ⟨.ptr 118, 1, 8, [.np]⟩),
  (118, ⟨.st [(9, 0)], 1, 16, [.s []]⟩),
  (125, ⟨.uptr, 1, 8, [.np]⟩),
  (138, ⟨.arr 64 5, 64, 64, [.i .u8 0, .i .u8 0, .i .u8 0, .i .u8 0, .i .u8 0, .i .u8 0, .i .u8 0, .i .u8 0, .i .u8 0, .i .u8 0, .i .u8 0, .i .u8 0, .i .u8 0, .i .u8 0, .i .u8 0, .i .u8 0, .i .u8 0, .i .u8 0, .i .u8 0, .i .u8 0, .i .u8 0, .i .u8 0, .i .u8 0, .i .u8 0, .i .u8 0, .i .u8 0, .i .u8 0, .i .u8 0, .i .u8 0, .i .u8 0, .i .u8 0, .i .u8 0, .i .u8 0, .i .u8 0, .i .u8 0, .i .u8 0, .i .u8 0, .i .u8 0, .i .u8 0, .i .u8 0, .i .u8 0, .i .u8 0, .i .u8 0, .i .u8 0, .i .u8 0, .i .u8 0, .i .u8 0, .i .u8 0, .i .u8 0, .i .u8 0, .i .u8 0, .i .u8 0, .i .u8 0, .i .u8 0, .i .u8 0, .i .u8 0, .i .u8 0, .i .u8 0, .i .u8 0, .i .u8 0, .i .u8 0, .i .u8 0, .i .u8 0, .i .u8 0]⟩)]
theorem ty2 : TOk Try.prog 2 (((2, ⟨.int .i64, 1, 8, [.i .i64 0]⟩) : Nat × TI).2) := TOk.of (ti := Try.t2) (by kernel_rfl) (by kernel_rfl) (by kernel_rfl) (show Try.prog.underlying 2 = some (.int .i64) from by kernel_rfl)
theorem ty3 : TOk Try.prog 3 (((3, ⟨.int .i64, 1, 8, [.i .i64 0]⟩) : Nat × TI).2) := TOk.of (ti := Try.t3) (by kernel_rfl) (by kernel_rfl) (by kernel_rfl) (show Try.prog.underlying 3 = some (.int .i64) from by kernel_rfl)
theorem ty4 : TOk Try.prog 4 (((4, ⟨.bool, 1, 1, [.b false]⟩) : Nat × TI).2) := TOk.of (ti := Try.t4) (by kernel_rfl) (by kernel_rfl) (by kernel_rfl) (show Try.prog.underlying 4 = some (.bool) from by kernel_rfl)
theorem ty5 : TOk Try.prog 5 (((5, ⟨.int .u8, 1, 1, [.i .u8 0]⟩) : Nat × TI).2) := TOk.of (ti := Try.t5) (by kernel_rfl) (by kernel_rfl) (by kernel_rfl) (show Try.prog.underlying 5 = some (.int .u8) from by kernel_rfl)
theorem ty9 : TOk Try.prog 9 (((9, ⟨.str, 1, 16, [.s []]⟩) : Nat × TI).2) := TOk.of (ti := Try.t9) (by kernel_rfl) (by kernel_rfl) (by kernel_rfl) (show Try.prog.underlying 9 = some (.string) from by kernel_rfl)
theorem ty22 : TOk Try.prog 22 (((22, ⟨.int .u64, 1, 8, [.i .u64 0]⟩) : Nat × TI).2) := TOk.of (ti := Try.t22) (by kernel_rfl) (by kernel_rfl) (by kernel_rfl) (show Try.prog.underlying 22 = some (.int .u64) from by kernel_rfl)
theorem ty23 : TOk Try.prog 23 (((23, ⟨.sl 25, 1, 24, [.sl .full []]⟩) : Nat × TI).2) := TOk.of (ti := Try.t23) (by kernel_rfl) (by kernel_rfl) (by kernel_rfl) (show Try.prog.underlying 23 = some (.slice 25) from by kernel_rfl)
theorem ty25 : TOk Try.prog 25 (((25, ⟨.st [(5, 0), (2, 1), (9, 2), (23, 3), (4, 4)], 5, 64, [.i .u8 0, .i .i64 0, .s [], .sl .full [], .b false]⟩) : Nat × TI).2) := TOk.of (ti := Try.t25) (by kernel_rfl) (by kernel_rfl) (by kernel_rfl) (TK.ok_st (by kernel_rfl))
theorem ty27 : TOk Try.prog 27 (((27, ⟨.st [(22, 0), (25, 1), (22, 6)], 7, 80, [.i .u64 0, .i .u8 0, .i .i64 0, .s [], .sl .full [], .b false, .i .u64 0]⟩) : Nat × TI).2) := TOk.of (ti := Try.t27) (by kernel_rfl) (by kernel_rfl) (by kernel_rfl) (TK.ok_st (by kernel_rfl))
theorem ty29 : TOk Try.prog 29 (((29, ⟨.int .i64, 1, 8, [.i .i64 0]⟩) : Nat × TI).2) := TOk.of (ti := Try.t29) (by kernel_rfl) (by kernel_rfl) (by kernel_rfl) (show Try.prog.underlying 29 = some (.int .i64) from by kernel_rfl)
theorem ty42 : TOk Try.prog 42 (((42, ⟨.sl 27, 1, 24, [.sl .full []]⟩) : Nat × TI).2) := TOk.of (ti := Try.t42) (by kernel_rfl) (by kernel_rfl) (by kernel_rfl) (show Try.prog.underlying 42 = some (.slice 27) from by kernel_rfl)
theorem ty63 : TOk Try.prog 63 (((63, ⟨.sl 5, 1, 24, [.sl .full []]⟩) : Nat × TI).2) := TOk.of (ti := Try.t63) (by kernel_rfl) (by kernel_rfl) (by kernel_rfl) (show Try.prog.underlying 63 = some (.slice 5) from by kernel_rfl)
theorem ty65 : TOk Try.prog 65 (((65, ⟨.sl 9, 1, 24, [.sl .full []]⟩) : Nat × TI).2) := TOk.of (ti := Try.t65) (by kernel_rfl) (by kernel_rfl) (by kernel_rfl) (show Try.prog.underlying 65 = some (.slice 9) from by kernel_rfl)
theorem ty70 : TOk Try.prog 70 (((70, ⟨.arr 4 9, 4, 64, [.s [], .s [], .s [], .s []]⟩) : Nat × TI).2) := TOk.of (ti := Try.t70) (by kernel_rfl) (by kernel_rfl) (by kernel_rfl) (show Try.prog.underlying 70 = some (.array 4 9) from by kernel_rfl)
theorem ty80 : TOk Try.prog 80 (((80, ⟨.arr 5 5, 5, 5, [.i .u8 0, .i .u8 0, .i .u8 0, .i .u8 0, .i .u8 0]⟩) : Nat × TI).2) := TOk.of (ti := Try.t80) (by kernel_rfl) (by kernel_rfl) (by kernel_rfl) (show Try.prog.underlying 80 = some (.array 5 5) from by kernel_rfl)
theorem ty86 : TOk Try.prog 86 (((86, ⟨.ptr 88, 1, 8, [.np]⟩) : Nat × TI).2) := TOk.of (ti := Try.t86) (by kernel_rfl) (by kernel_rfl) (by kernel_rfl) (And.intro (by kernel_rfl) (by kernel_rfl))
theorem ty88 : TOk Try.prog 88 (((88, ⟨.st [(86, 0), (63, 1)], 2, 32, [.np, .sl .full []]⟩) : Nat × TI).2) := TOk.of (ti := Try.t88) (by kernel_rfl) (by kernel_rfl) (by kernel_rfl) (TK.ok_st (by kernel_rfl))
theorem ty90 : TOk Try.prog 90 (((90, ⟨.other, 1, 16, [.ni]⟩) : Nat × TI).2) := TOk.of (ti := Try.t90) (by kernel_rfl) (by kernel_rfl) (by kernel_rfl) (TK.ok_other (by kernel_rfl))
theorem ty109 : TOk Try.prog 109 (((109, ⟨.arr 8 9, 8, 128, [.s [], .s [], .s [], .s [], .s [], .s [], .s [], .s []]⟩) : Nat × TI).2) := TOk.of (ti := Try.t109) (by kernel_rfl) (by kernel_rfl) (by kernel_rfl) (show Try.prog.underlying 109 = some (.array 8 9) from by kernel_rfl)
theorem ty116 : TOk Try.prog 116 (((116, ⟨.ptr 118, 1, 8, [.np]⟩) : Nat × TI).2) := TOk.of (ti := Try.t116) (by kernel_rfl) (by kernel_rfl) (by kernel_rfl) (And.intro (by kernel_rfl) (by kernel_rfl))
theorem ty118 : TOk Try.prog 118 (((118, ⟨.st [(9, 0)], 1, 16, [.s []]⟩) : Nat × TI).2) := TOk.of (ti := Try.t118) (by kernel_rfl) (by kernel_rfl) (by kernel_rfl) (TK.ok_st (by kernel_rfl))
theorem ty125 : TOk Try.prog 125 (((125, ⟨.uptr, 1, 8, [.np]⟩) : Nat × TI).2) := TOk.of (ti := Try.t125) (by kernel_rfl) (by kernel_rfl) (by kernel_rfl) (show Try.prog.underlying 125 = some (.unsafePointer) from by kernel_rfl)
theorem ty138 : TOk Try.prog 138 (((138, ⟨.arr 64 5, 64, 64, [.i .u8 0, .i .u8 0, .i .u8 0, .i .u8 0, .i .u8 0, .i .u8 0, .i .u8 0, .i .u8 0, .i .u8 0, .i .u8 0, .i .u8 0, .i .u8 0, .i .u8 0, .i .u8 0, .i .u8 0, .i .u8 0, .i .u8 0, .i .u8 0, .i .u8 0, .i .u8 0, .i .u8 0, .i .u8 0, .i .u8 0, .i .u8 0, .i .u8 0, .i .u8 0, .i .u8 0, .i .u8 0, .i .u8 0, .i .u8 0, .i .u8 0, .i .u8 0, .i .u8 0, .i .u8 0, .i .u8 0, .i .u8 0, .i .u8 0, .i .u8 0, .i .u8 0, .i .u8 0, .i .u8 0, .i .u8 0, .i .u8 0, .i .u8 0, .i .u8 0, .i .u8 0, .i .u8 0, .i .u8 0, .i .u8 0, .i .u8 0, .i .u8 0, .i .u8 0, .i .u8 0, .i .u8 0, .i .u8 0, .i .u8 0, .i .u8 0, .i .u8 0, .i .u8 0, .i .u8 0, .i .u8 0, .i .u8 0, .i .u8 0, .i .u8 0]⟩) : Nat × TI).2) := TOk.of (ti := Try.t138) (by kernel_rfl) (by kernel_rfl) (by kernel_rfl) (show Try.prog.underlying 138 = some (.array 64 5) from by kernel_rfl)
theorem tys_ok : ∀ x ∈ tys, TOk Try.prog x.1 x.2 := by
  unfold tys
  simp only [List.mem_cons, List.not_mem_nil, or_false, forall_eq_or_imp, forall_eq]
  exact ⟨ty2, ty3, ty4, ty5, ty9, ty22, ty23, ty25, ty27, ty29, ty42, ty63, ty65, ty70, ty80, ty86, ty88, ty90, ty109, ty116, ty118, ty125, ty138⟩
def fms : List (Nat × Nat) := [(2, 2), (3, 148), (4, 149), (5, 150), (6, 151), (7, 152), (8, 153), (9, 71), (10, 154), (11, 155), (12, 156), (13, 157), (14, 158), (15, 159), (16, 160), (17, 161), (18, 162), (19, 163), (20, 164), (21, 165), (22, 72), (23, 166), (24, 167), (25, 168), (26, 169), (27, 170), (28, 171), (29, 172), (30, 173), (31, 174), (32, 175), (33, 176), (34, 177), (35, 102), (36, 103), (37, 178), (38, 179), (39, 180), (40, 181), (41, 182), (42, 75), (43, 183), (44, 76), (45, 77), (46, 78), (47, 184), (48, 185), (49, 126), (50, 105), (51, 104), (52, 186), (53, 187), (54, 188), (55, 189), (56, 106), (57, 190), (58, 36), (59, 74), (60, 108), (61, 109), (62, 110), (63, 145), (64, 15), (65, 11), (66, 191), (67, 192), (69, 194), (70, 195), (71, 43), (72, 196), (73, 16), (74, 31), (75, 127), (76, 42), (77, 107), (78, 132), (79, 133), (80, 134), (81, 26), (82, 135), (83, 22), (84, 136), (85, 146), (86, 34), (87, 30), (88, 197), (89, 47), (90, 35), (91, 41), (92, 46), (93, 128), (94, 129), (95, 130), (96, 131), (97, 40), (98, 38), (100, 199), (101, 200), (102, 48), (103, 25), (104, 21), (105, 44), (106, 201), (107, 39), (108, 37), (109, 45), (1000000000000, 1000000088), (1000000000001, 1000000005)]
def X : Cx := ⟨tabOf tys, fmOf fms, fun c => [30, 89, 104, 105, 107, 115, 116, 117, 120, 122, 123, 126, 128, 129, 130, 131, 139, 140, 144, 145, 146, 184, 217, 224, 225, 227, 228, 229, 230, 232, 233, 236, 237, 238, 239, 252, 268, 269, 270, 271, 272, 273, 274, 275, 276].contains c, []⟩
theorem ok42 : FnOk Try.prog X 76 pf42 := FnOk.of Try.func76 (by kernel_rfl) (by kernel_rfl) (by kernel_rfl) (by kernel_rfl) (by kernel_rfl)
theorem ok46 : FnOk Try.prog X 92 pf46 := FnOk.of Try.func92 (by kernel_rfl) (by kernel_rfl) (by kernel_rfl) (by kernel_rfl) (by kernel_rfl)
theorem ok36 : FnOk Try.prog X 58 pf36 := FnOk.of Try.func58 (by kernel_rfl) (by kernel_rfl) (by kernel_rfl) (by kernel_rfl) (by kernel_rfl)
theorem ok43 : FnOk Try.prog X 71 pf43 := FnOk.of Try.func71 (by kernel_rfl) (by kernel_rfl) (by kernel_rfl) (by kernel_rfl) (by kernel_rfl)
theorem ok47 : FnOk Try.prog X 89 pf47 := FnOk.of Try.func89 (by kernel_rfl) (by kernel_rfl) (by kernel_rfl) (by kernel_rfl) (by kernel_rfl)
theorem ok11 : FnOk Try.prog X 65 pf11 := FnOk.of Try.func65 (by kernel_rfl) (by kernel_rfl) (by kernel_rfl) (by kernel_rfl) (by kernel_rfl)
theorem ok15 : FnOk Try.prog X 64 pf15 := FnOk.of Try.func64 (by kernel_rfl) (by kernel_rfl) (by kernel_rfl) (by kernel_rfl) (by kernel_rfl)
theorem ok21 : FnOk Try.prog X 104 pf21 := FnOk.of Try.func104 (by kernel_rfl) (by kernel_rfl) (by kernel_rfl) (by kernel_rfl) (by kernel_rfl)
theorem ok25 : FnOk Try.prog X 103 pf25 := FnOk.of Try.func103 (by kernel_rfl) (by kernel_rfl) (by kernel_rfl) (by kernel_rfl) (by kernel_rfl)
theorem ok30 : FnOk Try.prog X 87 pf30 := FnOk.of Try.func87 (by kernel_rfl) (by kernel_rfl) (by kernel_rfl) (by kernel_rfl) (by kernel_rfl)
theorem ok34 : FnOk Try.prog X 86 pf34 := FnOk.of Try.func86 (by kernel_rfl) (by kernel_rfl) (by kernel_rfl) (by kernel_rfl) (by kernel_rfl)
theorem ok37 : FnOk Try.prog X 108 pf37 := FnOk.of Try.func108 (by kernel_rfl) (by kernel_rfl) (by kernel_rfl) (by kernel_rfl) (by kernel_rfl)
theorem ok39 : FnOk Try.prog X 107 pf39 := FnOk.of Try.func107 (by kernel_rfl) (by kernel_rfl) (by kernel_rfl) (by kernel_rfl) (by kernel_rfl)
theorem ok45 : FnOk Try.prog X 109 pf45 := FnOk.of Try.func109 (by kernel_rfl) (by kernel_rfl) (by kernel_rfl) (by kernel_rfl) (by kernel_rfl)
theorem ok145 : FnOk Try.prog X 63 pf145 := FnOk.of Try.func63 (by kernel_rfl) (by kernel_rfl) (by kernel_rfl) (by kernel_rfl) (by kernel_rfl)
theorem ok126 : FnOk Try.prog X 49 pf126 := FnOk.of Try.func49 (by kernel_rfl) (by kernel_rfl) (by kernel_rfl) (by kernel_rfl) (by kernel_rfl)
theorem ok71 : FnOk Try.prog X 9 pf71 := FnOk.of Try.func9 (by kernel_rfl) (by kernel_rfl) (by kernel_rfl) (by kernel_rfl) (by kernel_rfl)
theorem ok72 : FnOk Try.prog X 22 pf72 := FnOk.of Try.func22 (by kernel_rfl) (by kernel_rfl) (by kernel_rfl) (by kernel_rfl) (by kernel_rfl)
theorem ok74 : FnOk Try.prog X 59 pf74 := FnOk.of Try.func59 (by kernel_rfl) (by kernel_rfl) (by kernel_rfl) (by kernel_rfl) (by kernel_rfl)
theorem ok76 : FnOk Try.prog X 44 pf76 := FnOk.of Try.func44 (by kernel_rfl) (by kernel_rfl) (by kernel_rfl) (by kernel_rfl) (by kernel_rfl)
theorem ok77 : FnOk Try.prog X 45 pf77 := FnOk.of Try.func45 (by kernel_rfl) (by kernel_rfl) (by kernel_rfl) (by kernel_rfl) (by kernel_rfl)
theorem ok78 : FnOk Try.prog X 46 pf78 := FnOk.of Try.func46 (by kernel_rfl) (by kernel_rfl) (by kernel_rfl) (by kernel_rfl) (by kernel_rfl)
theorem ok102 : FnOk Try.prog X 35 pf102 := FnOk.of Try.func35 (by kernel_rfl) (by kernel_rfl) (by kernel_rfl) (by kernel_rfl) (by kernel_rfl)
theorem ok103 : FnOk Try.prog X 36 pf103 := FnOk.of Try.func36 (by kernel_rfl) (by kernel_rfl) (by kernel_rfl) (by kernel_rfl) (by kernel_rfl)
theorem ok104 : FnOk Try.prog X 51 pf104 := FnOk.of Try.func51 (by kernel_rfl) (by kernel_rfl) (by kernel_rfl) (by kernel_rfl) (by kernel_rfl)
theorem ok107 : FnOk Try.prog X 77 pf107 := FnOk.of Try.func77 (by kernel_rfl) (by kernel_rfl) (by kernel_rfl) (by kernel_rfl) (by kernel_rfl)
theorem ok109 : FnOk Try.prog X 61 pf109 := FnOk.of Try.func61 (by kernel_rfl) (by kernel_rfl) (by kernel_rfl) (by kernel_rfl) (by kernel_rfl)
theorem ok110 : FnOk Try.prog X 62 pf110 := FnOk.of Try.func62 (by kernel_rfl) (by kernel_rfl) (by kernel_rfl) (by kernel_rfl) (by kernel_rfl)
theorem ok128 : FnOk Try.prog X 93 pf128 := FnOk.of Try.func93 (by kernel_rfl) (by kernel_rfl) (by kernel_rfl) (by kernel_rfl) (by kernel_rfl)
theorem ok129 : FnOk Try.prog X 94 pf129 := FnOk.of Try.func94 (by kernel_rfl) (by kernel_rfl) (by kernel_rfl) (by kernel_rfl) (by kernel_rfl)
theorem ok130 : FnOk Try.prog X 95 pf130 := FnOk.of Try.func95 (by kernel_rfl) (by kernel_rfl) (by kernel_rfl) (by kernel_rfl) (by kernel_rfl)
theorem ok131 : FnOk Try.prog X 96 pf131 := FnOk.of Try.func96 (by kernel_rfl) (by kernel_rfl) (by kernel_rfl) (by kernel_rfl) (by kernel_rfl)
theorem ok136 : FnOk Try.prog X 84 pf136 := FnOk.of Try.func84 (by kernel_rfl) (by kernel_rfl) (by kernel_rfl) (by kernel_rfl) (by kernel_rfl)
theorem ok154 : FnOk Try.prog X 10 pf154 := FnOk.of Try.func10 (by kernel_rfl) (by kernel_rfl) (by kernel_rfl) (by kernel_rfl) (by kernel_rfl)
theorem ok158 : FnOk Try.prog X 14 pf158 := FnOk.of Try.func14 (by kernel_rfl) (by kernel_rfl) (by kernel_rfl) (by kernel_rfl) (by kernel_rfl)
theorem ok159 : FnOk Try.prog X 15 pf159 := FnOk.of Try.func15 (by kernel_rfl) (by kernel_rfl) (by kernel_rfl) (by kernel_rfl) (by kernel_rfl)
theorem ok178 : FnOk Try.prog X 37 pf178 := FnOk.of Try.func37 (by kernel_rfl) (by kernel_rfl) (by kernel_rfl) (by kernel_rfl) (by kernel_rfl)
theorem ok180 : FnOk Try.prog X 39 pf180 := FnOk.of Try.func39 (by kernel_rfl) (by kernel_rfl) (by kernel_rfl) (by kernel_rfl) (by kernel_rfl)
theorem ok183 : FnOk Try.prog X 43 pf183 := FnOk.of Try.func43 (by kernel_rfl) (by kernel_rfl) (by kernel_rfl) (by kernel_rfl) (by kernel_rfl)
theorem ok186 : FnOk Try.prog X 52 pf186 := FnOk.of Try.func52 (by kernel_rfl) (by kernel_rfl) (by kernel_rfl) (by kernel_rfl) (by kernel_rfl)
theorem ok190 : FnOk Try.prog X 57 pf190 := FnOk.of Try.func57 (by kernel_rfl) (by kernel_rfl) (by kernel_rfl) (by kernel_rfl) (by kernel_rfl)
theorem ok191 : FnOk Try.prog X 66 pf191 := FnOk.of Try.func66 (by kernel_rfl) (by kernel_rfl) (by kernel_rfl) (by kernel_rfl) (by kernel_rfl)
theorem ok156 : FnOk Try.prog X 12 pf156 := FnOk.of Try.func12 (by kernel_rfl) (by kernel_rfl) (by kernel_rfl) (by kernel_rfl) (by kernel_rfl)
theorem ok160 : FnOk Try.prog X 16 pf160 := FnOk.of Try.func16 (by kernel_rfl) (by kernel_rfl) (by kernel_rfl) (by kernel_rfl) (by kernel_rfl)
theorem ok181 : FnOk Try.prog X 40 pf181 := FnOk.of Try.func40 (by kernel_rfl) (by kernel_rfl) (by kernel_rfl) (by kernel_rfl) (by kernel_rfl)
theorem ok161 : FnOk Try.prog X 17 pf161 := FnOk.of Try.func17 (by kernel_rfl) (by kernel_rfl) (by kernel_rfl) (by kernel_rfl) (by kernel_rfl)
theorem ok162 : FnOk Try.prog X 18 pf162 := FnOk.of Try.func18 (by kernel_rfl) (by kernel_rfl) (by kernel_rfl) (by kernel_rfl) (by kernel_rfl)
theorem ok163 : FnOk Try.prog X 19 pf163 := FnOk.of Try.func19 (by kernel_rfl) (by kernel_rfl) (by kernel_rfl) (by kernel_rfl) (by kernel_rfl)
theorem ok164 : FnOk Try.prog X 20 pf164 := FnOk.of Try.func20 (by kernel_rfl) (by kernel_rfl) (by kernel_rfl) (by kernel_rfl) (by kernel_rfl)
theorem ok165 : FnOk Try.prog X 21 pf165 := FnOk.of Try.func21 (by kernel_rfl) (by kernel_rfl) (by kernel_rfl) (by kernel_rfl) (by kernel_rfl)
theorem ok169 : FnOk Try.prog X 26 pf169 := FnOk.of Try.func26 (by kernel_rfl) (by kernel_rfl) (by kernel_rfl) (by kernel_rfl) (by kernel_rfl)
theorem ok170 : FnOk Try.prog X 27 pf170 := FnOk.of Try.func27 (by kernel_rfl) (by kernel_rfl) (by kernel_rfl) (by kernel_rfl) (by kernel_rfl)
theorem ok171 : FnOk Try.prog X 28 pf171 := FnOk.of Try.func28 (by kernel_rfl) (by kernel_rfl) (by kernel_rfl) (by kernel_rfl) (by kernel_rfl)
theorem ok172 : FnOk Try.prog X 29 pf172 := FnOk.of Try.func29 (by kernel_rfl) (by kernel_rfl) (by kernel_rfl) (by kernel_rfl) (by kernel_rfl)
theorem ok174 : FnOk Try.prog X 31 pf174 := FnOk.of Try.func31 (by kernel_rfl) (by kernel_rfl) (by kernel_rfl) (by kernel_rfl) (by kernel_rfl)
theorem ok176 : FnOk Try.prog X 33 pf176 := FnOk.of Try.func33 (by kernel_rfl) (by kernel_rfl) (by kernel_rfl) (by kernel_rfl) (by kernel_rfl)
theorem ok184 : FnOk Try.prog X 47 pf184 := FnOk.of Try.func47 (by kernel_rfl) (by kernel_rfl) (by kernel_rfl) (by kernel_rfl) (by kernel_rfl)
theorem ok185 : FnOk Try.prog X 48 pf185 := FnOk.of Try.func48 (by kernel_rfl) (by kernel_rfl) (by kernel_rfl) (by kernel_rfl) (by kernel_rfl)
theorem ok177 : FnOk Try.prog X 34 pf177 := FnOk.of Try.func34 (by kernel_rfl) (by kernel_rfl) (by kernel_rfl) (by kernel_rfl) (by kernel_rfl)
theorem ok189 : FnOk Try.prog X 55 pf189 := FnOk.of Try.func55 (by kernel_rfl) (by kernel_rfl) (by kernel_rfl) (by kernel_rfl) (by kernel_rfl)
theorem ok196 : FnOk Try.prog X 72 pf196 := FnOk.of Try.func72 (by kernel_rfl) (by kernel_rfl) (by kernel_rfl) (by kernel_rfl) (by kernel_rfl)
theorem tyVal : TyVal X.T 25 := ⟨5, 2, 9, 23, 4, ⟨_, rfl, rfl, rfl⟩, ⟨_, rfl, rfl, rfl⟩, ⟨_, rfl, rfl, rfl⟩, ⟨_, rfl, rfl, rfl⟩, ⟨_, rfl, rfl, rfl⟩, ⟨_, rfl, rfl, rfl⟩⟩
theorem tyPan : TyPan X.T 27 := ⟨22, 25, 22, ⟨_, rfl, rfl, rfl⟩, ⟨_, rfl, rfl, rfl⟩, tyVal, ⟨_, rfl, rfl, rfl⟩⟩
noncomputable def rt : RtAt Try.prog X where
  fR := 24
  fL := 54
  fY := 70
  nR := Try.f24
  nL := Try.f54
  nY := Try.f70
  A0 := (sqA (bodyR Try.f24))
  A1 := (sqA (sqB (bodyR Try.f24)))
  A3 := (sqA (sqB (sqB (bodyR Try.f24))))
  A5 := (sqA (sqB (sqB (sqB (bodyR Try.f24)))))
  A7 := (rfA (sqU (sqB (sqA (sqB (sqB (sqB (sqB (bodyR Try.f24)))))))))
  A8 := (rfB (sqU (sqB (sqA (sqB (sqB (sqB (sqB (bodyR Try.f24)))))))))
  Y0 := (sqA (sqU (sqU (bodyR Try.f70))))
  Y1 := (sqA (sqU (sqB (sqU (sqU (bodyR Try.f70))))))
  Y2 := (sqA (sqB (sqU (sqB (sqU (sqU (bodyR Try.f70)))))))
  cL := (bodyR Try.f54)
  p1 := (rgO (sqA (sqA (sqB (sqB (sqB (sqB (bodyR Try.f24))))))) 0)
  p2 := (rgO (sqA (sqA (sqB (sqB (sqB (sqB (bodyR Try.f24))))))) 1)
  q1 := (rgO (sqA (sqB (sqB (sqB (sqB (sqB (bodyR Try.f24))))))) 0)
  q2 := (rgO (sqA (sqB (sqB (sqB (sqB (sqB (bodyR Try.f24))))))) 1)
  q3 := (rgO (sqA (sqB (sqB (sqB (sqB (sqB (bodyR Try.f24))))))) 2)
  z1 := (rgO (sqA (sqB (sqB (sqU (sqB (sqU (sqU (bodyR Try.f70)))))))) 0)
  z2 := (rgO (sqA (sqB (sqB (sqU (sqB (sqU (sqU (bodyR Try.f70)))))))) 1)
  z3 := (rgO (sqA (sqB (sqB (sqU (sqB (sqU (sqU (bodyR Try.f70)))))))) 2)
  z4 := (rgO (sqA (sqB (sqB (sqU (sqB (sqU (sqU (bodyR Try.f70)))))))) 3)
  t1 := 42
  t2 := 29
  t3 := 4
  tp := #[9]
  tz := #[9]
  i1 := ((42, ⟨.sl 27, 1, 24, [.sl .full []]⟩) : Nat × TI).2
  i2 := ((29, ⟨.int .i64, 1, 8, [.i .i64 0]⟩) : Nat × TI).2
  eR := Try.func24
  eL := Try.func54
  eY := Try.func70
  bR := by kernel_rfl
  tR := by kernel_rfl
  rR := by kernel_rfl
  mR := by kernel_rfl
  bL := by kernel_rfl
  tL := by kernel_rfl
  rL := by kernel_rfl
  mL := by kernel_rfl
  bY := by kernel_rfl
  tY := by kernel_rfl
  rY := by kernel_rfl
  mY := by kernel_rfl
  a0 := by kernel_rfl
  a1 := by kernel_rfl
  a3 := by kernel_rfl
  a5 := by kernel_rfl
  a7 := by kernel_rfl
  a8 := by kernel_rfl
  w7 := by kernel_rfl
  w8 := by kernel_rfl
  y0 := by kernel_rfl
  y1 := by kernel_rfl
  y2 := by kernel_rfl
  l0 := by kernel_rfl
  p1o := by kernel_rfl
  p1d := by kernel_rfl
  p1g := by kernel_rfl
  p2o := by kernel_rfl
  p2d := by kernel_rfl
  p2g := by kernel_rfl
  q1o := by kernel_rfl
  q1d := by kernel_rfl
  q1g := by kernel_rfl
  q2o := by kernel_rfl
  q2d := by kernel_rfl
  q2g := by kernel_rfl
  q3o := by kernel_rfl
  q3d := by kernel_rfl
  q3g := by kernel_rfl
  z1o := by kernel_rfl
  z1d := by kernel_rfl
  z1g := by kernel_rfl
  z2o := by kernel_rfl
  z2d := by kernel_rfl
  z2g := by kernel_rfl
  z3o := by kernel_rfl
  z3d := by kernel_rfl
  z3g := by kernel_rfl
  z4o := by kernel_rfl
  z4d := by kernel_rfl
  z4g := by kernel_rfl
  u1 := rfl
  s1 := rfl
  g1 := rfl
  u2 := rfl
  s2 := rfl
  fm := fun f h => by have := fm_inv h; simpa [fms] using this
end Go.Proofs.Ytffbkdcgkhbpoaa
