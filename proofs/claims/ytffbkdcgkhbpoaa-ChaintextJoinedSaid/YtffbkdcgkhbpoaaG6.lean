/- The statement ChaintextJoined: for every input the law returns true, and each argument reads afterwards as before. No conditions. -/
import Derived.Test.YtffbkdcgkhbpoaaG5
import Derived.Test.YtffbkdcgkhbpoaaG4
set_option linter.all false
/- Parts of the proof. -/
namespace Go.AM
open Go
theorem txts_app (l m : List Val) : txts (l ++ m) = txts l ++ (if l.length = 0 then txts m else txtl m) := by
  cases l with
  | nil => simp [txts]
  | cons a l => simp [txts, txtl_app]
theorem txts_take_len (l : List Val) (i : Nat) : (txts (l.take i)).length ≤ (txts l).length := by
  have := txts_app (l.take i) (l.drop i)
  rw [List.take_append_drop] at this
  rw [this, List.length_append]
  omega
theorem quoR_ok {s : Bytes} (h : s.length ≤ 400) : quoR s = (quo s, 0) := by
  unfold quoR
  rw [if_neg (by omega)]
section
variable {prog : Prog} (H : Has38 prog)
include H
theorem show_loop {K : Int → Bytes → Prop} {l : List Val} {e0 e1 : UInt8} {b : Bytes} (hl : l.length ≤ 16) (hx : ∀ x ∈ l, ∀ b : Bytes, b.length + (txt x).length ≤ 100000000 → PuX prog 104 (Bl b) [x.av] (fun r => r = .i .i64 0) (Bl (b ++ txt x)))
    (hb : b.length + (txts l).length + 2 ≤ 100000000) (hK : K 0 (b ++ [e0] ++ txts l ++ [e1])) : ∀ P0 : Int → Bytes → Prop, (∀ (t22 : Int) (mP : Bytes), T104_9 prog K P0 [e0, e1] l (l.length : Int) t22 mP → P0 t22 mP) → P0 0 (b ++ [e0]) := by
  intro P hP
  have := loop_up (P := fun m i => P i m) (fun i => b ++ [e0] ++ txts (l.take i)) l.length ?_ fun i hi ihP => ?_
  · simpa [txts] using this
  · apply hP
    unfold T104_9 T104_11 T104_4
    rw [List.take_length]
    refine ⟨fun h => absurd h (by omega), fun _ => ⟨by simp, _, _, c126 H.toHasB (s := [e1]) ?_, hK⟩⟩
    rw [maxBytes_eq]; simp only [List.length_append, List.length_cons, List.length_nil]; omega
  · apply hP
    have h1 := txts_take_len l (i + 1)
    rw [txts_take hi] at h1 ihP
    simp only [List.length_append] at h1
    unfold T104_9 T104_10
    refine ⟨fun _ => ⟨by omega, _, get_at hi, fun h2 => ?_, fun h2 => ?_⟩, fun h => absurd (show (i : Int) < l.length by omega) h⟩
    · rw [if_pos (by omega)] at h1 ihP
      refine ⟨_, _, c126 H.toHasB (s := [44, 32]) ?_, _, _, hx _ (List.getElem_mem hi) _ ?_, fun h => absurd rfl h, fun _ => ?_⟩
      · rw [maxBytes_eq]; simp only [List.length_append, List.length_cons, List.length_nil]; omega
      · simp only [List.length_append, List.length_cons, List.length_nil] at h1 ⊢; omega
      · rw [wr_succ (by omega)]
        simpa using ihP
    · rw [if_neg (by omega)] at h1 ihP
      refine ⟨_, _, hx _ (List.getElem_mem hi) _ ?_, fun h => absurd rfl h, fun _ => ?_⟩
      · simp only [List.length_append, List.length_cons, List.length_nil] at h1 ⊢; omega
      · rw [wr_succ (by omega)]
        simpa using ihP
set_option maxHeartbeats 1000000 in
theorem c104 : ∀ (d : Nat) {v : Val}, okv d v = true → Wf v → ∀ b : Bytes, b.length + (txt v).length ≤ 100000000 → PuX prog 104 (Bl b) [v.av] (fun r => r = .i .i64 0) (Bl (b ++ txt v))
  | 0, v, h, _, _, _ => by cases h
  | d + 1, v, h, hw, b, hlen => by
    have h1 := okv_head h
    have h2 := okv_sub h
    have ih : ∀ x ∈ v.list, ∀ b : Bytes, b.length + (txt x).length ≤ 100000000 → PuX prog 104 (Bl b) [x.av] (fun r => r = .i .i64 0) (Bl (b ++ txt x)) := fun x hx b hb => c104 d (h2 _ hx) (hw.e _ hx) b hb
    refine (p104 H.f104 (v1 := v) (mP := b) (K := fun r b' => r = 0 ∧ b' = b ++ txt v) ?_).to fun r b' hk => ?_
    · have hB : ∀ {s : Bytes} {a : Int}, (txt v) = s → ∃ r' : Int, ∃ b'' : Bytes, PuX prog 126 (Bl b) [.s s] (fun r => r = .tup [.i .i64 r', .ni]) (Bl b'') ∧ T104_4 prog (fun r b' => r = 0 ∧ b' = b ++ txt v) b'' := by
        intro s a hs
        refine ⟨_, _, c126 H.toHasB (s := s) ?_ (hs ▸ txt_ne v), ?_⟩
        · rw [← hs, maxBytes_eq]; omega
        · unfold T104_4; rw [hs]; exact ⟨rfl, rfl⟩
      have hk : 1 ≤ v.kind ∧ v.kind ≤ 7 := by unfold Val.okh Okh at h1; omega
      have hn := hw.n
      rw [txt_eq] at hlen
      have ht := txt_eq v
      unfold T104_0 T104_1
      refine ⟨by omega, ?_⟩
      have hkk : v.kind = 1 ∨ v.kind = 2 ∨ v.kind = 3 ∨ v.kind = 4 ∨ v.kind = 5 ∨ v.kind = 6 ∨ v.kind = 7 := by omega
      rcases hkk with k | k | k | k | k | k | k
      all_goals rw [k]
      all_goals simp only [k, if_true, reduceCtorEq, if_false, Int.reduceEq] at ht hlen
      · refine ⟨[], rfl, ?_⟩
        unfold T104_2 T104_3 T104_5
        rw [k]
        refine ⟨fun _ => ⟨fun h => hB (a := 0) ?_, fun h => ⟨fun _ => hB (a := 0) ?_, fun h => by simp at h⟩⟩, fun h => absurd rfl h⟩
        · rw [ht, if_pos (by simpa using h)]; rfl
        · rw [ht, if_neg (by simpa using h)]; rfl
      · refine ⟨[], rfl, ?_⟩
        unfold T104_2 T104_3 T104_5 T104_6
        rw [k]
        refine ⟨fun h => absurd h (by decide), fun _ => ⟨fun h => (by cases h), fun _ => ⟨fun h => (by simp at h), fun _ => ⟨fun _ => ⟨_, c15 H.toHas03 hn.1 hn.2, hB (a := 0) ht⟩, fun h => by simp at h⟩⟩⟩⟩
      · refine ⟨[], rfl, ?_⟩
        unfold T104_2 T104_3 T104_5 T104_6 T104_7
        rw [k]
        refine ⟨fun h => absurd h (by decide), fun _ => ⟨fun h => (by cases h), fun _ => ⟨fun h => (by simp at h), fun _ => ⟨fun h => (by simp at h), fun _ => ⟨fun _ => ⟨_, _, c11 H.toHas03 v.text, ?_⟩, fun h => by simp at h⟩⟩⟩⟩⟩
        rw [quoR_ok (by unfold Val.okh Okh at h1; omega)]
        refine ⟨_, _, c126 H.toHasB (s := quo v.text) ?_, rfl, ?_⟩
        · rw [maxBytes_eq]; omega
        · rw [ht]
      · refine ⟨[], rfl, ?_⟩
        unfold T104_2 T104_3 T104_5 T104_6 T104_7 T104_8
        rw [k]
        refine ⟨fun h => absurd h (by decide), fun _ => ⟨fun h => (by cases h), fun _ => ⟨fun h => (by simp at h), fun _ => ⟨fun h => (by simp at h), fun _ => ⟨fun h => (by simp at h), fun _ => ⟨fun _ => ⟨fun hc => hB (a := 0) ?_, fun hc => ⟨fun _ => ⟨fun hl => hB (a := 0) ?_, fun hl => ⟨fun _ => ?_, fun h => absurd rfl h⟩⟩, fun h => absurd rfl h⟩⟩, fun h => absurd rfl h⟩⟩⟩⟩⟩⟩
        · rw [ht, if_pos hc]; rfl
        · rw [ht, if_neg (by rw [hc]; decide), if_pos (by omega)]; rfl
        · rw [if_neg (by rw [hc]; decide), if_neg (by omega)] at ht hlen
          have hl1 : v.list.length = 1 := by unfold Val.okh Okh at h1; omega
          obtain ⟨w, hw1⟩ := List.length_eq_one_iff.1 hl1
          rw [hw1, txts_one] at hlen ht
          simp only [List.length_cons] at hlen
          refine ⟨_, _, c126 H.toHasB (s := [38]) ?_, w, by rw [hw1]; rfl, _, _, ih w (by rw [hw1]; exact List.mem_cons_self) _ ?_, rfl, ?_⟩
          · rw [maxBytes_eq]; simp only [List.length_cons, List.length_nil]; omega
          · simp only [List.length_append, List.length_cons, List.length_nil]; omega
          · rw [ht]; simp
      · have hc : v.cut = false := by
          have : v.cut.toNat = 0 := by unfold Val.okh Okh at h1; omega
          cases hc : v.cut
          · rfl
          · rw [hc] at this; cases this
        refine ⟨[123, 125], rfl, ?_⟩
        unfold T104_2 T104_3 T104_5 T104_6 T104_7 T104_8
        rw [k]
        refine ⟨fun h => absurd h (by decide), fun _ => ⟨fun h => (by cases h), fun _ => ⟨fun h => (by simp at h), fun _ => ⟨fun h => (by simp at h), fun _ => ⟨fun h => (by simp at h), fun _ => ⟨fun h => absurd h (by decide), fun _ => ⟨fun h => (by cases h), fun _ => ⟨fun h => absurd h (by decide), fun _ => ⟨fun h => absurd h (by decide), fun _ => ⟨fun h => (by rw [hc] at h; cases h), fun _ => ⟨by decide, _, _, c126 H.toHasB (s := [123]) ?_, ?_⟩⟩⟩⟩⟩⟩⟩⟩⟩⟩⟩
        · rw [maxBytes_eq]; simp only [List.length_cons, List.length_nil, List.length_append] at hlen ⊢; omega
        · simp only [List.length_cons, List.length_nil, List.length_append] at hlen
          exact show_loop H (by unfold Val.okh Okh at h1; omega) ih (by omega) ⟨rfl, by rw [ht]; simp⟩
      · have hc : v.cut = false := by
          have : v.cut.toNat = 0 := by unfold Val.okh Okh at h1; omega
          cases hc : v.cut
          · rfl
          · rw [hc] at this; cases this
        refine ⟨[91, 93], rfl, ?_⟩
        unfold T104_2 T104_3 T104_5 T104_6 T104_7 T104_8
        rw [k]
        refine ⟨fun h => absurd h (by decide), fun _ => ⟨fun h => (by cases h), fun _ => ⟨fun h => (by simp at h), fun _ => ⟨fun h => (by simp at h), fun _ => ⟨fun h => (by simp at h), fun _ => ⟨fun h => absurd h (by decide), fun _ => ⟨fun h => (by cases h), fun _ => ⟨fun h => absurd h (by decide), fun _ => ⟨fun h => absurd h (by decide), fun _ => ⟨fun h => (by rw [hc] at h; cases h), fun _ => ⟨by decide, _, _, c126 H.toHasB (s := [91]) ?_, ?_⟩⟩⟩⟩⟩⟩⟩⟩⟩⟩⟩
        · rw [maxBytes_eq]; simp only [List.length_cons, List.length_nil, List.length_append] at hlen ⊢; omega
        · simp only [List.length_cons, List.length_nil, List.length_append] at hlen
          exact show_loop H (by unfold Val.okh Okh at h1; omega) ih (by omega) ⟨rfl, by rw [ht]; simp⟩
      · refine ⟨[60, 62], rfl, ?_⟩
        unfold T104_2 T104_3 T104_5 T104_6 T104_7 T104_8
        rw [k]
        refine ⟨fun h => absurd h (by decide), fun _ => ⟨fun h => (by cases h), fun _ => ⟨fun h => (by simp at h), fun _ => ⟨fun h => (by simp at h), fun _ => ⟨fun h => (by simp at h), fun _ => ⟨fun h => absurd h (by decide), fun _ => ⟨fun h => (by cases h), fun _ => ⟨fun h => absurd h (by decide), fun _ => ⟨fun h => absurd h (by decide), fun _ => ⟨fun hc => hB (a := 0) ?_, fun hc => ⟨by decide, _, _, c126 H.toHasB (s := [60]) ?_, ?_⟩⟩⟩⟩⟩⟩⟩⟩⟩⟩⟩
        · rw [ht, if_pos hc]; rfl
        · rw [if_neg (by rw [hc]; decide)] at hlen
          rw [maxBytes_eq]; simp only [List.length_cons, List.length_nil, List.length_append] at hlen ⊢; omega
        · rw [if_neg (by rw [hc]; decide)] at hlen ht
          simp only [List.length_cons, List.length_nil, List.length_append] at hlen
          exact show_loop H (by unfold Val.okh Okh at h1; omega) ih (by omega) ⟨rfl, by rw [ht]; simp⟩
    · obtain ⟨x0, h1, rfl, rfl⟩ := hk
      exact ⟨h1, rfl⟩
theorem c72 {v : Val} (hw : Wf v) : Pus prog 72 [v.av] (.tup [.s (if fine v = true then txt v else []), .i .i64 (chkR v)]) := by
  obtain ⟨x, y, ⟨rfl, rfl⟩, h⟩ := p72 H.f72 (v0 := v) (K := fun x y => x = (if fine v = true then txt v else []) ∧ y = chkR v) (by
    unfold T72_0
    refine ⟨_, c76 H hw, fun h => ?_, fun h => ?_⟩
    · unfold chkR at h ⊢
      by_cases hf : fine v = true
      · rw [if_pos hf] at h; exact absurd rfl h
      · rw [if_neg hf, if_neg hf]; exact ⟨rfl, rfl⟩
    · unfold chkR at h ⊢
      by_cases hf : fine v = true
      · rw [if_pos hf, if_pos hf]
        have := fine_len hf
        refine ⟨_, _, c104 H 130 (fine_ok hf).1 hw [] (by simp only [List.length_nil]; omega), fun h => absurd rfl h, fun _ => ⟨_, c105 H.toHasB (by rw [List.nil_append, maxBytes_eq]; omega), rfl, rfl⟩⟩
      · rw [if_neg hf] at h; exact absurd (by decide) h)
  exact h
end
end Go.AM

/- Parts of the proof. -/
namespace Go.AM
open Go
theorem digN_lt : ∀ {s : Bytes} {i : Nat}, i < digN s → ∃ c, s[i]? = some c ∧ isD c = true
  | [], i, h => absurd h (Nat.not_lt_zero _)
  | c :: s, 0, h => by
    rw [digN] at h
    split at h
    · rename_i hc; exact ⟨c, rfl, hc⟩
    · exact absurd h (Nat.not_lt_zero _)
  | c :: s, i + 1, h => by
    rw [digN] at h
    split at h
    · exact digN_lt (s := s) (i := i) (by omega)
    · exact absurd h (Nat.not_lt_zero _)
theorem digN_stop : ∀ {s : Bytes} {c : UInt8}, s[digN s]? = some c → isD c = false
  | [], c, h => by cases h
  | x :: s, c, h => by
    rw [digN] at h
    split at h
    · rw [Nat.add_comm, List.getElem?_cons_succ] at h
      exact digN_stop h
    · rename_i hx
      rw [List.getElem?_cons_zero] at h
      injection h with h
      subst h
      simpa using hx
theorem numN_lt {s : Bytes} {i : Nat} (h : i < numN s) : ∃ c, s[i]? = some c ∧ (isD c = true ∨ (i = 0 ∧ c = 45)) := by
  unfold numN at h
  split at h
  · rename_i h1
    cases s with
    | nil => cases h1
    | cons x s =>
      injection h1 with h1
      subst h1
      cases i with
      | zero => exact ⟨45, rfl, .inr ⟨rfl, rfl⟩⟩
      | succ i =>
        obtain ⟨c, h2, h3⟩ := digN_lt (s := s) (i := i) (by simp only [List.drop_succ_cons, List.drop_zero] at h; omega)
        exact ⟨c, h2, .inl h3⟩
  · obtain ⟨c, h2, h3⟩ := digN_lt h
    exact ⟨c, h2, .inl h3⟩
theorem numN_stop {s : Bytes} {c : UInt8} (h : s[numN s]? = some c) : isD c = false ∧ (numN s = 0 → c ≠ 45) := by
  unfold numN at *
  split at h
  · rename_i h1
    rw [if_pos h1]
    cases s with
    | nil => cases h1
    | cons x s =>
      simp only [List.drop_succ_cons, List.drop_zero] at h ⊢
      rw [Nat.add_comm, List.getElem?_cons_succ] at h
      exact ⟨digN_stop h, fun h => absurd h (by omega)⟩
  · rename_i h1
    rw [if_neg h1]
    refine ⟨digN_stop h, fun h2 => ?_⟩
    rw [h2] at h
    rintro rfl
    exact h1 (by rw [List.head?_eq_getElem?]; exact h)
theorem isD_iff {c : UInt8} : isD c = true ↔ 48 ≤ c.toNat ∧ c.toNat ≤ 57 := by unfold isD; simp
theorem isD_not {c : UInt8} : isD c = false ↔ ¬(48 ≤ c.toNat ∧ c.toNat ≤ 57) := by rw [← isD_iff]; simp
theorem qs_nil : qs [] = none := rfl
theorem qs_esc0 : qs [92] = none := rfl
theorem qs_esc (x : UInt8) (r : Bytes) : qs (92 :: x :: r) = (qs r).map (· + 2) := rfl
theorem qs_end (r : Bytes) : qs (34 :: r) = some 1 := by rw [qs.eq_def]; rfl
theorem qs_go {c : UInt8} (h1 : ¬c = 92) (h2 : ¬c = 34) (r : Bytes) : qs (c :: r) = (qs r).map (· + 1) := by
  rw [qs.eq_def]
  simp only [if_neg h1, if_neg h2]
theorem u8_45 {c : UInt8} : c = 45 ↔ c.toNat = 45 := ⟨fun h => by rw [h]; rfl, fun h => u8_eq h⟩
section
variable {prog : Prog} (H : Has38 prog)
include H
theorem c128 (p s : Bytes) : PuX prog 128 (Bx [.s s]) [.s p] (fun r => r = .b (cutp p s).2) (Bx [.s (cutp p s).1]) := by
  refine (p128 H.f128 (what1 := p) (mP := ⟨s⟩) (K := fun r b => r = (cutp p s).2 ∧ b = ⟨(cutp p s).1⟩) ?_).to (b := ⟨(cutp p s).1⟩) fun r b' hk => ?_
  · unfold T128_0
    exact ⟨_, _, c36 H.toHas03 s p, rfl, rfl⟩
  · obtain ⟨x0, h1, rfl, rfl⟩ := hk
    exact ⟨h1, rfl⟩
theorem c131 {s : Bytes} (hs : s.length ≤ 1000000000) : PuX prog 131 (Bx [.s s]) [] (fun r => r = .tup [.i .i64 (scNum s).1, .b (scNum s).2.1]) (Bx [.s (scNum s).2.2]) := by
  refine (p131 H.f131 (mP := ⟨s⟩) (K := fun x y b => x = (scNum s).1 ∧ y = (scNum s).2.1 ∧ b = ⟨(scNum s).2.2⟩) ?_).to (b := ⟨(scNum s).2.2⟩) fun r b' hk => ?_
  · unfold T131_0 T131_1
    intro P hP
    have hle := numN_le s
    refine loop_up0 (P := fun i => P i ⟨s⟩) (numN s) ?_ fun i hi ih => ?_
    · apply hP
      unfold T131_2
      have fin : 0 ≤ ((numN s : Nat) : Int) ∧ ((numN s : Nat) : Int).toNat ≤ s.length ∧ ∃ r : Int, ∃ r' : Int, Pus prog 21 [.s (s.take ((numN s : Nat) : Int).toNat)] (.tup [.i .i64 r, .i .i64 r']) ∧ 0 ≤ ((numN s : Nat) : Int) ∧ ((numN s : Nat) : Int).toNat ≤ s.length ∧ r = (scNum s).1 ∧ (decide (r' = 0)) = (scNum s).2.1 ∧ Sc.mk (s.drop ((numN s : Nat) : Int).toNat) = ⟨(scNum s).2.2⟩ := by
        rw [toNat_cast]
        exact ⟨by omega, hle, _, _, c21 H.toHas03 _, by omega, hle, rfl, rfl, rfl⟩
      refine ⟨fun h => ?_, fun _ => fin⟩
      have hlt : numN s < s.length := by simp only at h; omega
      obtain ⟨h1, h2⟩ := numN_stop (List.getElem?_eq_getElem hlt)
      have h1 := isD_not.1 h1
      have h2 : numN s = 0 → ¬(s[numN s].toNat = 45) := fun h => fun h' => h2 h (u8_45.2 h')
      refine ⟨by omega, s[numN s], get_at hlt, fun h3 => ⟨by omega, s[numN s], get_at hlt, fun h4 => absurd ⟨by omega, by omega⟩ h1, fun h4 => ⟨fun h5 => ⟨by omega, s[numN s], get_at hlt, fun h6 => absurd (show s[numN s].toNat = 45 by omega) (h2 (by omega)), fun _ => fin⟩, fun _ => fin⟩⟩,
        fun h3 => ⟨fun h5 => ⟨by omega, s[numN s], get_at hlt, fun h6 => absurd (show s[numN s].toNat = 45 by omega) (h2 (by omega)), fun _ => fin⟩, fun _ => fin⟩⟩
    · apply hP
      obtain ⟨c, hc, hd⟩ := numN_lt hi
      have hc' : s[((i : Nat) : Int).toNat]? = some c := hc
      rw [isD_iff, u8_45] at hd
      have ih' : P (IntKind.i64.wrap ((i : Int) + 1)) ⟨s⟩ := by rw [wr_succ (by omega)]; exact ih
      unfold T131_2
      refine ⟨fun _ => ⟨by omega, c, hc', fun h3 => ⟨by omega, c, hc', fun _ => ih', fun h4 => ⟨fun h5 => ⟨by omega, c, hc', fun _ => ih', fun h6 => absurd h6 (by omega)⟩, fun h5 => absurd h5 (by omega)⟩⟩,
        fun h3 => ⟨fun h5 => ⟨by omega, c, hc', fun _ => ih', fun h6 => absurd h6 (by omega)⟩, fun h5 => absurd h5 (by omega)⟩⟩, fun h => absurd (show (i : Int) < s.length by omega) h⟩
  · obtain ⟨x0, x1, h1, rfl, rfl, rfl⟩ := hk
    exact ⟨h1, rfl⟩
theorem c130 {s : Bytes} (hs : s.length ≤ 1000000000) : PuX prog 130 (Bx [.s s]) [] (fun r => r = .tup [.s (scQ s).1, .b (scQ s).2.1]) (Bx [.s (scQ s).2.2]) := by
  refine (p130 H.f130 (mP := ⟨s⟩) (K := fun x y b => x = (scQ s).1 ∧ y = (scQ s).2.1 ∧ b = ⟨(scQ s).2.2⟩) ?_).to (b := ⟨(scQ s).2.2⟩) fun r b' hk => ?_
  · unfold T130_0 T130_1
    intro P hP
    have go : ∀ m i : Nat, s.length ≤ i + m → i ≤ s.length + 1 → 1 ≤ i → qs (s.drop 1) = (qs (s.drop i)).map (· + (i - 1)) → P (i : Int) ⟨s⟩ := by
      intro m
      induction m using Nat.strongRecOn with
      | _ m ih =>
      intro i hm hi h1 hq
      apply hP
      unfold T130_2
      refine ⟨fun h => ?_, fun h => ?_⟩
      · have : s.drop i = [] := List.drop_eq_nil_of_le (by simp only at h; omega)
        rw [this, qs_nil, Option.map_none] at hq
        unfold scQ
        rw [hq]
        exact ⟨rfl, rfl, rfl⟩
      · have hlt : i < s.length := by simp only at h; omega
        have hd : s.drop i = s[i] :: s.drop (i + 1) := List.drop_eq_getElem_cons hlt
        refine ⟨by omega, s[i], get_at hlt, fun h2 => ?_, fun h2 => ⟨by omega, s[i], get_at hlt, fun h3 => ?_, fun h3 => ?_⟩⟩
        · rw [wr_i64 (by omega) (by omega), show (i : Int) + 2 = ((i + 2 : Nat) : Int) by omega]
          have hc : s[i] = 92 := u8_eq (by show s[i].toNat = 92; omega)
          rw [hd, hc] at hq
          by_cases hl : i + 1 < s.length
          · have hd2 : s.drop (i + 1) = s[i + 1] :: s.drop (i + 2) := List.drop_eq_getElem_cons hl
            refine ih (m - 2) (by omega) (i + 2) (by omega) (by omega) (by omega) ?_
            rw [hd2, qs_esc, Option.map_map] at hq
            rw [hq]
            congr 1
            funext x
            simp only [Function.comp]
            omega
          · have hd2 : s.drop (i + 1) = [] := List.drop_eq_nil_of_le (by omega)
            refine ih (m - 1) (by omega) (i + 2) (by omega) (by omega) (by omega) ?_
            rw [hd2, qs_esc0] at hq
            rw [hq, List.drop_eq_nil_of_le (show s.length ≤ i + 2 by omega), qs_nil]
            rfl
        · rw [wr_succ (by omega)]
          have hc : ¬s[i] = 92 := fun e => h2 (by rw [e]; rfl)
          have hc' : ¬s[i] = 34 := fun e => h3 (by rw [e]; rfl)
          rw [hd, qs_go hc hc', Option.map_map] at hq
          refine ih (m - 1) (by omega) (i + 1) (by omega) (by omega) (by omega) ?_
          rw [hq]
          congr 1
          funext x
          simp only [Function.comp]
          omega
        · rw [wr_succ (by omega), toNat_cast]
          have hc : s[i] = 34 := u8_eq (by show s[i].toNat = 34; simp only [ne_eq, Decidable.not_not] at h3; omega)
          rw [hd, hc, qs_end, Option.map_some] at hq
          have e : 1 + (i - 1) + 1 = i + 1 := by omega
          refine ⟨by omega, by show i + 1 ≤ s.length; omega, _, _, c25 H.toHas03 _, by omega, by show i + 1 ≤ s.length; omega, ?_⟩
          unfold scQ
          rw [hq]
          simp [e]
    exact go s.length 1 (by omega) (by omega) (by omega) (by simp)
  · obtain ⟨x0, x1, h1, rfl, rfl, rfl⟩ := hk
    exact ⟨h1, rfl⟩
end
end Go.AM

/- Parts of the proof. -/
namespace Go.AM
open Go
theorem scNum_len (s : Bytes) : (scNum s).2.2.length ≤ s.length := by unfold scNum; simp
theorem scQ_len (s : Bytes) : (scQ s).2.2.length ≤ s.length := by
  unfold scQ
  split <;> simp
theorem cutp_len (p s : Bytes) : (cutp p s).1.length ≤ s.length := by
  unfold cutp
  split <;> simp
section
variable {f : Bytes → Val × Bool × Bytes}
theorem scG_len {kind : Int} {stop : Bytes} (hf : ∀ s, (f s).2.2.length ≤ s.length) : ∀ (n : Nat) (acc : List Val) (s : Bytes), (scG f kind stop n acc s).2.2.length ≤ s.length
  | 0, acc, s => Nat.le_refl _
  | n + 1, acc, s => by
    have h1 := hf s
    have h2 := cutp_len stop (f s).2.2
    have h3 := cutp_len [44, 32] (cutp stop (f s).2.2).1
    rw [scG]
    split
    · exact h1
    · split
      · exact Nat.le_trans h2 h1
      · split
        · exact Nat.le_trans h3 (Nat.le_trans h2 h1)
        · exact Nat.le_trans (scG_len hf n _ _) (Nat.le_trans h3 (Nat.le_trans h2 h1))
theorem scL_len {kind : Int} {stop s : Bytes} (hf : ∀ s, (f s).2.2.length ≤ s.length) : (scL f kind stop s).2.2.length ≤ s.length := by
  unfold scL
  split
  · exact cutp_len _ _
  · exact Nat.le_trans (scG_len hf 17 [] _) (cutp_len _ _)
theorem len_ite {c : Prop} [Decidable c] {a b : Val × Bool × Bytes} {n : Nat} (ha : a.2.2.length ≤ n) (hb : b.2.2.length ≤ n) : (if c then a else b).2.2.length ≤ n := by
  split
  · exact ha
  · exact hb
theorem scV_len : ∀ (d : Nat) (s : Bytes), (scV d s).2.2.length ≤ s.length
  | 0, s => Nat.le_refl _
  | d + 1, s => by
    have ih := scV_len d
    rw [scV]
    exact len_ite (Nat.le_refl _) (len_ite (cutp_len _ _) (len_ite (cutp_len _ _) (len_ite (cutp_len _ _) (len_ite (cutp_len _ _) (len_ite (cutp_len _ _) (len_ite (Nat.le_trans (ih _) (cutp_len _ _)) (len_ite (Nat.le_trans (scL_len ih) (cutp_len _ _))
      (len_ite (Nat.le_trans (scL_len ih) (cutp_len _ _)) (len_ite (Nat.le_trans (scL_len ih) (cutp_len _ _)) (len_ite (scQ_len _) (scNum_len _)))))))))))
end
section
variable {prog : Prog} (H : Has38 prog)
include H
abbrev ScR (r : Val × Bool × Bytes) : AV → Prop := fun x => ∃ o : Own, x = .tup [.ag [.i .u8 r.1.kind, .i .i64 r.1.int, .s r.1.text, .sl o (List.map Val.row r.1.list), .b r.1.cut], .b r.2.1]
theorem c129 {f : Bytes → Val × Bool × Bytes} {d : Nat} (hf : ∀ s, (f s).2.2.length ≤ s.length) (hc : ∀ s : Bytes, s.length ≤ 1000000000 → PuX prog 107 (Bx [.s s]) [.i .i64 (d : Int)] (ScR (f s)) (Bx [.s (f s).2.2])) {kind : Int} {stop s : Bytes} (hs : s.length ≤ 1000000000) :
    PuX prog 129 (Bx [.s s]) [.i .u8 kind, .s stop, .i .i64 (d : Int)] (ScR (scL f kind stop s)) (Bx [.s (scL f kind stop s).2.2]) := by
  refine (p129 H.f129 (kind1 := kind) (end2 := stop) (nest3 := (d : Int)) (mP := ⟨s⟩) (K := fun x y b => x = (scL f kind stop s).1 ∧ y = (scL f kind stop s).2.1 ∧ b = ⟨(scL f kind stop s).2.2⟩) ?_).to (b := ⟨(scL f kind stop s).2.2⟩) fun r b' hk => ?_
  · unfold T129_0
    refine ⟨_, ⟨(cutp stop s).1⟩, c128 H stop s, fun h => ?_, fun h P hP => ?_⟩
    · unfold scL
      rw [if_pos h]
      exact ⟨rfl, rfl, rfl⟩
    · have e : scL f kind stop s = scG f kind stop 17 [] (cutp stop s).1 := by unfold scL; rw [if_neg (by rw [h]; decide)]
      have hl := cutp_len stop s
      generalize (cutp stop s).1 = t at hl e ⊢
      have go : ∀ (n : Nat) (acc : List Val) (u : Bytes), acc.length + n = 17 → u.length ≤ t.length → scG f kind stop 17 [] t = scG f kind stop n acc u → P (Val.mk 0 0 [] [] false) (Val.mk kind 0 [] acc false) ⟨u⟩ := by
        intro n
        induction n with
        | zero =>
          intro acc u ha hu hq
          apply hP
          rw [e, hq]
          unfold T129_1 T129_2
          refine ⟨fun h => absurd h (by simp only [Val.list_mk]; omega), fun _ => ⟨rfl, rfl, rfl⟩⟩
        | succ n ih =>
          intro acc u ha hu hq
          apply hP
          rw [e, hq, scG]
          have h1 := hf u
          have h2 := cutp_len stop (f u).2.2
          have h3 := cutp_len [44, 32] (cutp stop (f u).2.2).1
          unfold T129_1
          refine ⟨fun _ => ⟨(f u).1, (f u).2.1, ⟨(f u).2.2⟩, hc u (by omega), fun g1 => ?_, fun g1 => ⟨⟨?_, ?_⟩, _, ⟨(cutp stop (f u).2.2).1⟩, c128 H stop (f u).2.2, fun g2 => ?_, fun g2 => ⟨_, ⟨(cutp [44, 32] (cutp stop (f u).2.2).1).1⟩, c128 H [44, 32] (cutp stop (f u).2.2).1, fun g3 => ?_, fun g3 => ?_⟩⟩⟩, fun h => absurd (show (acc.length : Int) ≤ 16 by omega) h⟩
          · rw [if_pos (by simpa using g1)]
            exact ⟨rfl, rfl, rfl⟩
          · simp only [Val.list_mk, List.length_cons, List.length_nil, maxBytes_eq]; omega
          · simp only [Val.list_mk, List.length_cons, List.length_nil, maxBytes_eq]; omega
          · rw [if_neg (by simpa using g1), if_pos g2]
            exact ⟨rfl, rfl, rfl⟩
          · rw [if_neg (by simpa using g1), if_neg (by rw [g2]; decide), if_pos (by simpa using g3)]
            exact ⟨rfl, rfl, rfl⟩
          · refine ih (acc ++ [(f u).1]) _ (by simp; omega) (by omega) ?_
            rw [hq, scG, if_neg (by simpa using g1), if_neg (by rw [g2]; decide), if_neg (by simpa using g3)]
      exact go 17 [] t rfl (Nat.le_refl _) rfl
  · obtain ⟨x0, x1, h1, rfl, rfl, rfl⟩ := hk
    exact ⟨h1, rfl⟩
theorem c107 : ∀ (d : Nat) {s : Bytes}, s.length ≤ 1000000000 → d ≤ 1000 → PuX prog 107 (Bx [.s s]) [.i .i64 (d : Int)] (ScR (scV d s)) (Bx [.s (scV d s).2.2])
  | 0, s, hs, hd => by
    refine (p107 H.f107 (nest1 := ((0 : Nat) : Int)) (mP := ⟨s⟩) (K := fun x y b => x = (scV 0 s).1 ∧ y = (scV 0 s).2.1 ∧ b = ⟨(scV 0 s).2.2⟩) ?_).to (b := ⟨(scV 0 s).2.2⟩) fun r b' hk => ?_
    · unfold T107_0 T107_1
      exact ⟨fun _ => ⟨rfl, rfl, rfl⟩, fun h => absurd rfl h⟩
    · obtain ⟨x0, x1, h1, rfl, rfl, rfl⟩ := hk
      exact ⟨h1, rfl⟩
  | d + 1, s, hs, hd => by
    have ih := fun s hs => @c107 d s hs (by omega)
    have hm : IntKind.i64.wrap (((d + 1 : Nat) : Int) - 1) = (d : Int) := by rw [wr_i64 (by omega) (by omega)]; omega
    refine (p107 H.f107 (nest1 := ((d + 1 : Nat) : Int)) (mP := ⟨s⟩) (K := fun x y b => x = (scV (d + 1) s).1 ∧ y = (scV (d + 1) s).2.1 ∧ b = ⟨(scV (d + 1) s).2.2⟩) ?_).to (b := ⟨(scV (d + 1) s).2.2⟩) fun r b' hk => ?_
    · have e := scV.eq_2 s d
      unfold T107_0 T107_1
      refine ⟨fun h => absurd h (by omega), fun _ => ⟨fun h => ?_, fun h0 => ?_⟩⟩
      · rw [e, if_pos h]; exact ⟨rfl, rfl, rfl⟩
      rw [if_neg h0] at e
      unfold T107_2
      refine ⟨_, ⟨(cutp tTrue s).1⟩, c128 H tTrue s, ?_⟩
      unfold T107_3
      refine ⟨fun h => ?_, fun h => ?_⟩
      · rw [e, if_pos h]; exact ⟨rfl, rfl, rfl⟩
      rw [if_neg (by rw [h]; decide)] at e
      rw [cutp_no h]
      refine ⟨_, ⟨(cutp tFalse s).1⟩, c128 H tFalse s, ?_⟩
      clear h
      unfold T107_4
      refine ⟨fun h => ?_, fun h => ?_⟩
      · rw [e, if_pos h]; exact ⟨rfl, rfl, rfl⟩
      rw [if_neg (by rw [h]; decide)] at e
      rw [cutp_no h]
      refine ⟨_, ⟨(cutp tNil s).1⟩, c128 H tNil s, ?_⟩
      clear h
      unfold T107_5
      refine ⟨fun h => ?_, fun h => ?_⟩
      · rw [e, if_pos h]; exact ⟨rfl, rfl, rfl⟩
      rw [if_neg (by rw [h]; decide)] at e
      rw [cutp_no h]
      refine ⟨_, ⟨(cutp tCutP s).1⟩, c128 H tCutP s, ?_⟩
      clear h
      unfold T107_6
      refine ⟨fun h => ?_, fun h => ?_⟩
      · rw [e, if_pos h]; exact ⟨rfl, rfl, rfl⟩
      rw [if_neg (by rw [h]; decide)] at e
      rw [cutp_no h]
      refine ⟨_, ⟨(cutp tCutS s).1⟩, c128 H tCutS s, ?_⟩
      clear h
      unfold T107_7
      refine ⟨fun h => ?_, fun h => ?_⟩
      · rw [e, if_pos h]; exact ⟨rfl, rfl, rfl⟩
      rw [if_neg (by rw [h]; decide)] at e
      rw [cutp_no h]
      refine ⟨_, ⟨(cutp [38] s).1⟩, c128 H [38] s, ?_⟩
      clear h
      unfold T107_8
      rw [hm]
      have l1 := cutp_len [38] s
      refine ⟨fun h => ⟨_, _, ⟨_⟩, ih _ (Nat.le_trans l1 hs), ?_⟩, fun h => ?_⟩
      · rw [e, if_pos h]; exact ⟨rfl, rfl, rfl⟩
      rw [if_neg (by rw [h]; decide)] at e
      rw [cutp_no h]
      have l1 := cutp_len [123] s
      refine ⟨_, ⟨(cutp [123] s).1⟩, c128 H [123] s, fun h => ⟨_, _, ⟨_⟩, c129 H (scV_len d) ih (Nat.le_trans l1 hs), ?_⟩, fun h => ?_⟩
      · rw [e, if_pos h]; exact ⟨rfl, rfl, rfl⟩
      rw [if_neg (by rw [h]; decide)] at e
      rw [cutp_no h]
      have l1 := cutp_len [91] s
      refine ⟨_, ⟨(cutp [91] s).1⟩, c128 H [91] s, fun h => ⟨_, _, ⟨_⟩, c129 H (scV_len d) ih (Nat.le_trans l1 hs), ?_⟩, fun h => ?_⟩
      · rw [e, if_pos h]; exact ⟨rfl, rfl, rfl⟩
      rw [if_neg (by rw [h]; decide)] at e
      rw [cutp_no h]
      have l1 := cutp_len [60] s
      refine ⟨_, ⟨(cutp [60] s).1⟩, c128 H [60] s, fun h => ⟨_, _, ⟨_⟩, c129 H (scV_len d) ih (Nat.le_trans l1 hs), ?_⟩, fun h => ?_⟩
      · rw [e, if_pos h]; exact ⟨rfl, rfl, rfl⟩
      rw [if_neg (by rw [h]; decide)] at e
      rw [cutp_no h]
      cases s with
      | nil => exact absurd rfl h0
      | cons c s =>
        refine ⟨c, rfl, fun h => ⟨_, _, ⟨_⟩, c130 H hs, ?_⟩, fun h => ⟨_, _, ⟨_⟩, c131 H hs, ?_⟩⟩
        · have hc : c = 34 := u8_eq (by show c.toNat = 34; omega)
          subst hc
          rw [e, List.head?_cons, if_pos rfl]; exact ⟨rfl, rfl, rfl⟩
        · rw [e, if_neg (by rw [List.head?_cons]; intro he; injection he with he; exact h (by rw [he]; rfl))]; exact ⟨rfl, rfl, rfl⟩
    · obtain ⟨x0, x1, h1, rfl, rfl, rfl⟩ := hk
      exact ⟨h1, rfl⟩
omit H in
theorem chk_fine {v : Val} : chkR v = 0 ↔ fine v = true := by
  unfold chkR
  by_cases h : fine v = true
  · rw [if_pos h]; simp [h]
  · rw [if_neg h]; simp [h]
theorem c74 {s : Bytes} (hs : s.length ≤ 1000000000) : Pus prog 74 [.s s] (.tup [(rvs s).1.av, .i .i64 (rvs s).2]) := by
  obtain ⟨x, y, ⟨rfl, rfl⟩, h⟩ := p74 H.f74 (s0 := s) (K := fun x y => x = (rvs s).1 ∧ y = (rvs s).2) (by
    unfold T74_0 rvs
    refine ⟨fun h => ?_, fun h => ⟨_, _, ⟨_⟩, c107 H 130 hs (by decide), fun h1 => ?_, fun h1 => ⟨fun h2 => ?_, fun h2 => ⟨_, _, c72 H (scV_wf _ _), fun h3 => ?_, fun h3 => ⟨fun h4 => ?_, fun h4 => ?_⟩⟩⟩⟩⟩
    · rw [if_pos (by omega)]; exact ⟨rfl, rfl⟩
    · rw [if_neg (by omega), if_neg (by rintro ⟨h, _⟩; rw [h] at h1; cases h1)]; exact ⟨rfl, rfl⟩
    · rw [if_neg (by omega), if_neg (by rintro ⟨_, h, _⟩; exact h2 h)]; exact ⟨rfl, rfl⟩
    · rw [if_neg (by omega), if_neg (by rintro ⟨_, _, h, _⟩; exact h3 (chk_fine.2 h))]; exact ⟨rfl, rfl⟩
    · rw [if_neg (by omega), if_neg]; · exact ⟨rfl, rfl⟩
      rintro ⟨_, _, h5, h6⟩
      rw [if_pos h5] at h4
      exact h4 h6
    · have h5 := chk_fine.1 (Decidable.not_not.1 h3)
      rw [if_pos h5] at h4
      rw [if_neg (by omega), if_pos ⟨by simpa using h1, Decidable.not_not.1 h2, h5, Decidable.not_not.1 h4⟩]
      exact ⟨rfl, rfl⟩)
  exact h
end
end Go.AM

/- Parts of the proof. -/
namespace Go.AM
open Go
def RdK (q : Val × Bool × Bytes) (v : Val) (r : Bytes) (ok : Bool) : Prop := ok = q.2.1 ∧ (ok = true → v = q.1 ∧ r = q.2.2)
theorem RdK.no {q : Val × Bool × Bytes} {v : Val} {r : Bytes} (h : q.2.1 = false) : RdK q v r false := ⟨h.symm, fun h => by cases h⟩
theorem RdK.yes {q : Val × Bool × Bytes} {v : Val} {r : Bytes} (h : q = (v, true, r)) : RdK q v r true := by subst h; exact ⟨rfl, fun _ => ⟨rfl, rfl⟩⟩
section
variable {prog : Prog} (H : Has38 prog)
include H
theorem c78 {a : Val} (hw : Wf a) : ∀ b : Val, Pus prog 78 [a.av, b.av] (.b (sameV a b)) := by
  induction hw with
  | @mk k n s l c hk hn hl _ ih =>
    intro b
    obtain ⟨x, rfl, h⟩ := p78 H.f78 (a0 := Val.mk k n s l c) (b1 := b) (K := fun x => x = sameV (Val.mk k n s l c) b) (by
      have no : ∀ {p : Prop}, (Val.mk k n s l c = b → p) → ¬p → false = sameV (Val.mk k n s l c) b := fun h1 h2 => (sameV_false.2 fun h => h2 (h1 h)).symm
      unfold T78_0
      refine ⟨fun h => no (fun e => by rw [← e]) h, fun h1 => ⟨fun h => no (fun e => by rw [← e]) h, fun h2 => ⟨fun h => no (fun e => by rw [← e]) h, fun h3 => ⟨fun h => no (fun e => by rw [← e]) h, fun h4 => ⟨fun h => no (fun e => by rw [← e]) h, fun h5 P hP => ?_⟩⟩⟩⟩⟩
      have h1 := Decidable.not_not.1 h1
      have h2 := Decidable.not_not.1 h2
      have h3 := Decidable.not_not.1 h3
      have h4 := Decidable.not_not.1 h4
      have h5 : l.length = b.list.length := by have := Decidable.not_not.1 h5; simp only [Val.list_mk] at this; omega
      refine loop_inv (P := fun _ i => P i (Val.mk k n s l c) b) (fun _ => ()) l.length (fun i => l.take i = b.list.take i) (by simp) (fun hI => ?_) (fun i hi hI ihP => ?_)
      · apply hP
        unfold T78_1 T78_2
        refine ⟨fun h => absurd h (by simp only [Val.list_mk]; omega), fun _ => (sameV_true.2 ?_).symm⟩
        rw [List.take_length, h5, List.take_length] at hI
        rw [b.eta, ← h1, ← h2, ← h3, ← h4, hI]
        rfl
      · apply hP
        have hi2 : i < b.list.length := by omega
        unfold T78_1
        refine ⟨fun _ => ⟨by omega, l[i], get_at (l := l) hi, by omega, b.list[i], get_at hi2, _, ih _ (List.getElem_mem hi) _, fun h6 => ?_, fun h6 => ?_⟩, fun h => absurd (show (i : Int) < l.length by omega) h⟩
        · refine no (p := l[i] = b.list[i]) (fun e => ?_) (sameV_false.1 (by simpa using h6))
          subst e
          rfl
        · rw [wr_i64 (by omega) (by omega)]
          refine ihP ?_
          have h7 : l[i] = b.list[i] := sameV_true.1 (by simpa using h6)
          rw [List.take_succ_eq_append_getElem hi, List.take_succ_eq_append_getElem hi2, hI, h7])
    exact h
end
end Go.AM

/- Parts of the proof. -/
namespace Go.AM
open Go
structure HasO (prog : Prog) : Prop extends Has38 prog where
  f154 : prog.fn 154 = some pf154
  f158 : prog.fn 158 = some pf158
  f159 : prog.fn 159 = some pf159
  f178 : prog.fn 178 = some pf178
  f180 : prog.fn 180 = some pf180
  f183 : prog.fn 183 = some pf183
  f190 : prog.fn 190 = some pf190
  f191 : prog.fn 191 = some pf191
def faults4 : List Bytes := [[], tF1, tF2, tF3]
def kinds5 : List UInt8 := [0, 2, 1, 3, 2]
theorem kinds5_at {t : Int} (h : 0 ≤ t) (h4 : ¬t > 4) : ∃ c : UInt8, kinds5[t.toNat]? = some c ∧ ((c.toNat : Nat) : Int) = kindT t := by
  rcases (show t = 0 ∨ t = 1 ∨ t = 2 ∨ t = 3 ∨ t = 4 by omega) with rfl | rfl | rfl | rfl | rfl
  · exact ⟨0, rfl, rfl⟩
  · exact ⟨2, rfl, rfl⟩
  · exact ⟨1, rfl, rfl⟩
  · exact ⟨3, rfl, rfl⟩
  · exact ⟨2, rfl, rfl⟩
theorem faults4_at {n : Int} (h : 1 ≤ n) (h3 : n ≤ 3) : faults4[n.toNat]? = some (faultT n) := by
  rcases (show n = 1 ∨ n = 2 ∨ n = 3 by omega) with rfl | rfl | rfl <;> rfl
theorem okP_no4 {p : Pan} (h : p.tag > 4) : okP p = false := by unfold okP; rw [decide_eq_false (by omega)]; rfl
theorem okP_nok {p : Pan} (h : p.value.kind ≠ kindT p.tag) : okP p = false := by unfold okP; rw [decide_eq_false h]; simp
theorem okP_0 {p : Pan} (h : p.tag = 0) (hk : p.value.kind = kindT p.tag) : okP p = (isZ p.value && decide (p.flags = 2 ∨ p.flags = 6)) := by
  unfold okP; rw [decide_eq_true hk, decide_eq_true (by omega), if_pos h]; rfl
theorem okP_n0 {p : Pan} (h4 : ¬p.tag > 4) (h : p.tag ≠ 0) (hk : p.value.kind = kindT p.tag) : okP p = (decide (p.flags = 0 ∨ p.flags = 1 ∨ p.flags = 4 ∨ p.flags = 5) && decide (p.tag = 4 → 1 ≤ p.value.int ∧ p.value.int ≤ 3) && fine p.value) := by
  unfold okP; rw [decide_eq_true hk, decide_eq_true (by omega), if_neg h]; rfl
theorem chkP_no {p : Pan} (h : okP p = false) : chkP p = 8 := by unfold chkP; rw [h]; rfl
theorem chkP_yes {p : Pan} (h : okP p = true) : chkP p = 0 := by unfold chkP; rw [h]; rfl
theorem chkP_iff {p : Pan} : chkP p = 0 ↔ okP p = true := by unfold chkP; split <;> simp_all
section
variable {prog : Prog} (H : HasO prog)
include H
theorem c178 : Pus prog 178 [] (.ag (faults4.map AV.s)) := by
  obtain ⟨x, rfl, h⟩ := p178 H.f178 (K := fun x => x = faults4) rfl
  exact h
theorem c183 : Pus prog 183 [] (.ag (kinds5.map c8)) := by
  obtain ⟨x, rfl, h⟩ := p183 H.f183 (K := fun x => x = kinds5) rfl
  exact h
theorem c191 {s p : Bytes} (hs : s.length ≤ 1000000000) : Pus prog 191 [.s s, .s p] (.b (cuts p s).2) := by
  obtain ⟨x, rfl, h⟩ := p191 H.f191 (s0 := s) (suffix1 := p) (K := fun x => x = (cuts p s).2) (by
    unfold T191_0 cuts
    refine ⟨fun h => ?_, fun h => ?_⟩
    · rw [wr_i64 (by omega) (by omega), show ((s.length : Int) - (p.length : Int)).toNat = s.length - p.length by omega]
      refine ⟨by omega, by omega, ?_⟩
      by_cases h1 : s.drop (s.length - p.length) = p
      · rw [decide_eq_true h1, if_pos ⟨by omega, h1⟩]
      · rw [decide_eq_false h1, if_neg fun h2 => h1 h2.2]
    · rw [if_neg fun h2 => h (by omega)])
  exact h
theorem c190 {s p : Bytes} (hs : s.length ≤ 1000000000) : Pus prog 190 [.s s, .s p] (.tup [.s (cuts p s).1, .b (cuts p s).2]) := by
  obtain ⟨x, y, ⟨rfl, rfl⟩, h⟩ := p190 H.f190 (s0 := s) (suffix1 := p) (K := fun x y => x = (cuts p s).1 ∧ y = (cuts p s).2) (by
    unfold T190_0
    refine ⟨_, c191 H hs, fun h => ?_, fun h => ?_⟩
    · have h : (cuts p s).2 = false := by simpa using h
      exact ⟨(cuts_no h).symm, h.symm⟩
    · have h : (cuts p s).2 = true := by simpa using h
      have hl : p.length ≤ s.length := by have := congrArg List.length (cuts_yes h); rw [List.length_append] at this; omega
      rw [wr_i64 (by omega) (by omega), show ((s.length : Int) - (p.length : Int)).toNat = s.length - p.length by omega]
      refine ⟨by omega, by omega, ?_, h.symm⟩
      unfold cuts at h ⊢
      split
      · rfl
      · rename_i h1; rw [if_neg h1] at h; cases h)
  exact h
theorem c180 {s p : Bytes} (hs : s.length ≤ 1000000000) : Pus prog 180 [.s s, .s p] (.tup [.s (cuts p s).1, .b (cuts p s).2]) := by
  obtain ⟨x, y, ⟨rfl, rfl⟩, h⟩ := p180 H.f180 (s0 := s) (suffix1 := p) (K := fun x y => x = (cuts p s).1 ∧ y = (cuts p s).2) (by
    unfold T180_0
    exact ⟨_, _, c190 H hs, rfl, rfl⟩)
  exact h
theorem c158 {p : Pan} (hp : WfP p) : Pus prog 158 [p.av] (.i .i64 (chkP p)) := by
  obtain ⟨x, rfl, h⟩ := p158 H.f158 (p0 := p) (K := fun x => x = chkP p) (by
    unfold T158_0 T158_1
    refine ⟨fun h => (chkP_no (okP_no4 h)).symm, fun h4 => ?_⟩
    obtain ⟨c, g1, g2⟩ := kinds5_at hp.t.1 h4
    refine ⟨_, c183 H, rfl, hp.t.1, c, g1, fun h => (chkP_no (okP_nok (by rw [← g2]; exact h))).symm, fun h => ?_⟩
    have hk : p.value.kind = kindT p.tag := by rw [← g2]; exact Decidable.not_not.1 h
    unfold T158_2
    refine ⟨fun h0 => ?_, fun h0 => ?_⟩
    · have e := okP_0 h0 hk
      have hk0 : p.value.kind = 0 := by rw [hk, h0]; rfl
      have no : isZ p.value = false → 8 = chkP p := fun h => (chkP_no (by rw [e, h]; rfl)).symm
      have nz : ∀ {q : Prop}, (p.value = vz → q) → ¬q → isZ p.value = false := fun a b => by rw [← Bool.not_eq_true, isZ_true]; exact fun h => b (a h)
      refine ⟨fun h => no (nz (fun e => by rw [e]; rfl) h), fun h1 => ⟨fun h => no (nz (fun e => by rw [e]; rfl) h), fun h2 => ⟨fun h => no (nz (q := ¬((p.value.list.length : Int) > 0)) (fun e => by rw [e]; decide) (fun h' => h' h)), fun h3 => ⟨fun h => no (nz (q := p.value.cut = false) (fun e => by rw [e]; rfl) (by rw [h]; decide)), fun h4 => ?_⟩⟩⟩⟩
      have hz : isZ p.value = true := by
        unfold isZ
        rw [decide_eq_true hk0, decide_eq_true (Decidable.not_not.1 h1), decide_eq_true (Decidable.not_not.1 h2), decide_eq_true (by omega), h4]; rfl
      have fl := flag2 hp.f
      rw [hz, Bool.true_and] at e
      refine ⟨fun h => (chkP_no (by rw [e]; exact decide_eq_false fun h' => h (fl.2 h'))).symm, fun h => (chkP_yes (by rw [e]; exact decide_eq_true (fl.1 (Decidable.not_not.1 h)))).symm⟩
    · have e := okP_n0 h4 h0 hk
      have fl := flag0 hp.f
      unfold T158_3
      refine ⟨fun h => (chkP_no (by rw [e, decide_eq_false (fun h' => h (fl.2 h'))]; rfl)).symm, fun h => ?_⟩
      rw [decide_eq_true (fl.1 (Decidable.not_not.1 h)), Bool.true_and] at e
      have last : (p.tag = 4 → 1 ≤ p.value.int ∧ p.value.int ≤ 3) → T158_4 prog (fun x => x = chkP p) p := fun hh => by
        unfold T158_4
        refine ⟨_, c76 H.toHas38 hp.v, ?_⟩
        rw [decide_eq_true hh, Bool.true_and] at e
        unfold chkR chkP
        rw [e]
      refine ⟨fun h5 => ⟨fun h => (chkP_no (by rw [e, decide_eq_false (fun h' => by have := h' h5; omega)]; rfl)).symm, fun h6 => ⟨fun h => (chkP_no (by rw [e, decide_eq_false (fun h' => by have := h' h5; omega)]; rfl)).symm, fun h7 => last fun _ => by omega⟩⟩, fun h5 => last fun h' => absurd h' h5⟩)
  exact h
theorem c159 {p : Pan} (hp : WfP p) : Pus prog 159 [p.av] (.i .i64 (chkP p)) := by
  obtain ⟨x, rfl, h⟩ := p159 H.f159 (p0 := p) (K := fun x => x = chkP p) (by
    unfold T159_0 T159_1
    refine ⟨_, c77 H.toHas38 hp.v, ?_⟩
    have ef : decide (chkR p.value = 0) = fine p.value := by
      cases h : fine p.value with
      | true => exact decide_eq_true (chk_fine.2 h)
      | false => exact decide_eq_false fun h' => by rw [chk_fine.1 h'] at h; cases h
    rw [ef]
    unfold T159_2 T159_3
    refine ⟨fun h => (chkP_no (okP_no4 h)).symm, fun h4 => ?_⟩
    obtain ⟨c, g1, g2⟩ := kinds5_at hp.t.1 h4
    refine ⟨hp.t.1, c, g1, fun h => (chkP_no (okP_nok (by rw [← g2]; exact h))).symm, fun h => ?_⟩
    have hk : p.value.kind = kindT p.tag := by rw [← g2]; exact Decidable.not_not.1 h
    have t6 : ∀ b : Bool, okP p = b → T159_6 prog (fun x => x = chkP p) b := fun b hb => by
      unfold T159_6
      cases b with
      | true => exact ⟨fun h => (by cases h), fun _ => (chkP_yes hb).symm⟩
      | false => exact ⟨fun _ => (chkP_no hb).symm, fun h => (by cases h)⟩
    have t5 : ∀ b : Bool, (okP p = (b && decide (p.tag = 4 → 1 ≤ p.value.int ∧ p.value.int ≤ 3))) → T159_5 prog (fun x => x = chkP p) b p := fun b hb => by
      unfold T159_5
      refine ⟨fun h => ⟨fun h1 => ⟨fun h2 => t6 _ ?_, fun h2 => t6 _ ?_⟩, fun h1 => t6 _ (by rw [hb, h1]; rfl)⟩, fun h => t6 _ ?_⟩
      · rw [hb, h1, Bool.true_and]; exact decide_eq_decide.2 ⟨fun h3 => (h3 h).2, fun h3 _ => ⟨h2, h3⟩⟩
      · rw [hb, decide_eq_false (fun h3 => h2 (h3 h).1), Bool.and_false]
      · rw [hb, decide_eq_true fun h3 => absurd h3 h, Bool.and_true]
    unfold T159_4
    refine ⟨fun h0 => ?_, fun h0 => ?_⟩
    · have e := okP_0 h0 hk
      have e5 : decide (p.tag = 4 → 1 ≤ p.value.int ∧ p.value.int ≤ 3) = true := decide_eq_true fun h => by omega
      refine ⟨_, c78 H.toHas38 hp.v vz, fun h => ?_, fun h => t5 _ ?_⟩
      · have hz : isZ p.value = true := isZ_true.2 (sameV_true.1 h)
        rw [hz, Bool.true_and] at e
        refine ⟨fun h1 => t5 _ ?_, fun h1 => t5 _ ?_⟩
        · rw [e, e5, decide_eq_true (.inl h1)]; rfl
        · rw [e, e5, Bool.and_true]; exact decide_eq_decide.2 ⟨fun h => h.resolve_left h1, .inr⟩
      · have hz : isZ p.value = false := by rw [← Bool.not_eq_true, isZ_true]; exact sameV_false.1 h
        rw [e, hz]; rfl
    · have e := okP_n0 h4 h0 hk
      refine ⟨fun hf => ?_, fun hf => t5 _ (by rw [e, hf]; simp)⟩
      rw [hf, Bool.and_true] at e
      refine ⟨fun h1 => t5 _ ?_, fun h1 => ⟨fun h2 => t5 _ ?_, fun h2 => ⟨fun h3 => t5 _ ?_, fun h3 => t5 _ ?_⟩⟩⟩
      · rw [e, decide_eq_true (.inl h1)]
      · rw [e, decide_eq_true (.inr (.inl h2))]
      · rw [e, decide_eq_true (.inr (.inr (.inl h3)))]
      · rw [e]; congr 1; exact decide_eq_decide.2 ⟨fun h => by omega, fun h => by omega⟩)
  exact h
omit H in
theorem and1 {f : Int} (h : f = 0 ∨ f = 1 ∨ f = 2 ∨ f = 4 ∨ f = 5 ∨ f = 6) : (bAnd .u64 f 1 ≠ 0 ↔ f % 2 = 1) ∧ (bAnd .u64 f 4 ≠ 0 ↔ 4 ≤ f) ∧ (f.tmod 2 = 1 ↔ f % 2 = 1) := by
  rcases h with rfl | rfl | rfl | rfl | rfl | rfl <;> decide
omit H in
theorem okP_f6 {p : Pan} (h : okP p = true) : p.flags = 0 ∨ p.flags = 1 ∨ p.flags = 2 ∨ p.flags = 4 ∨ p.flags = 5 ∨ p.flags = 6 := by rcases okP_flags h with ⟨_, _, h⟩ | ⟨_, _, h⟩ <;> omega
omit H in
theorem okP_4 {p : Pan} (h : okP p = true) (h4 : p.tag = 4) : 1 ≤ p.value.int ∧ p.value.int ≤ 3 := by
  unfold okP at h
  simp only [Bool.and_eq_true, decide_eq_true_eq] at h
  have h3 := h.2
  rw [if_neg (by omega)] at h3
  simp only [Bool.and_eq_true, decide_eq_true_eq] at h3
  exact h3.1.2 h4
omit H in
theorem shown_steps {p : Pan} {b : Bytes} (hb : b = baseP p) : shown p = (b ++ (if p.flags % 2 = 1 then tRec else [])) ++ (if 4 ≤ p.flags then tAb else []) := by
  rw [hb, shown, sufP, List.append_assoc]
theorem c154 {p : Pan} (hp : WfP p) : Pus prog 154 [p.av] (.tup [.s (lnP p).1, .i .i64 (lnP p).2]) := by
  obtain ⟨x, y, ⟨rfl, rfl⟩, h⟩ := p154 H.f154 (p0 := p) (K := fun x y => x = (lnP p).1 ∧ y = (lnP p).2) (by
    unfold T154_0
    refine ⟨_, c158 H hp, fun h => ?_, fun h => ?_⟩
    · have h1 : okP p ≠ true := fun h' => h (chkP_iff.2 h')
      unfold lnP chkP; rw [if_neg h1, if_neg h1]; exact ⟨rfl, rfl⟩
    · have ho := chkP_iff.1 (Decidable.not_not.1 h)
      have hl := shown_len ho
      obtain ⟨a1, a2, a3⟩ := and1 (okP_f6 ho)
      unfold lnP; rw [if_pos ho]
      have t1 : ∀ b, b = baseP p → T154_1 prog (fun x y => x = (shown p, (0 : Int)).1 ∧ y = (shown p, (0 : Int)).2) b p := fun b hb => by
        have e := shown_steps hb
        have hl : b.length ≤ 400 := by rw [e, List.length_append, List.length_append] at hl; omega
        unfold T154_1 T154_2 T154_3
        simp only [List.length_append, List.length_cons, List.length_nil, maxStr_eq]
        refine ⟨fun h1 => ⟨by omega, fun h2 => ⟨by omega, ?_, trivial⟩, fun h2 => ⟨?_, trivial⟩⟩, fun h1 => ⟨fun h2 => ⟨by omega, ?_, trivial⟩, fun h2 => ⟨?_, trivial⟩⟩⟩
        · rw [e, if_pos (a1.1 h1), if_pos (a2.1 h2)]; rfl
        · rw [e, if_pos (a1.1 h1), if_neg fun h => h2 (a2.2 h), List.append_nil]; rfl
        · rw [e, if_neg fun h => h1 (a1.2 h), if_pos (a2.1 h2), List.append_nil]; rfl
        · rw [e, if_neg fun h => h1 (a1.2 h), if_neg fun h => h2 (a2.2 h), List.append_nil, List.append_nil]
      refine ⟨fun h0 => t1 _ (by unfold baseP; rw [if_pos h0]; rfl), fun h0 => ⟨fun h4 => ?_, fun h4 => ?_⟩⟩
      · obtain ⟨g1, g2⟩ := okP_4 ho h4
        exact ⟨_, c178 H, rfl, by omega, _, faults4_at g1 g2, t1 _ (by unfold baseP; rw [if_neg h0, if_pos h4])⟩
      · have hf : fine p.value = true := by rcases okP_flags ho with h | h; exact absurd h.1 h0; exact h.2.1
        have := fine_len hf
        refine ⟨_, _, c72 H.toHas38 hp.v, fun h => absurd (chk_fine.2 hf) h, fun _ => ?_⟩
        rw [if_pos hf]
        refine ⟨?_, t1 _ (by unfold baseP; rw [if_neg h0, if_neg h4]; rfl)⟩
        simp only [List.length_cons, List.length_nil, maxStr_eq]; omega)
  exact h
end
end Go.AM

/- Parts of the proof. -/
namespace Go.AM
open Go
structure HasP (prog : Prog) : Prop extends HasO prog where
  f156 : prog.fn 156 = some pf156
  f160 : prog.fn 160 = some pf160
  f181 : prog.fn 181 = some pf181
theorem cuts_len (p s : Bytes) : (cuts p s).1.length ≤ s.length := by
  unfold cuts
  split
  · simp only [List.length_take]; omega
  · exact Nat.le_refl _
noncomputable def sameP (p q : Pan) : Bool := decide (p.tag = q.tag) && decide (p.flags = q.flags) && sameV p.value q.value
theorem sameP_true {p q : Pan} : sameP p q = true ↔ p = q := by
  obtain ⟨a, b, c⟩ := p
  obtain ⟨d, e, f⟩ := q
  unfold sameP
  simp only [Bool.and_eq_true, decide_eq_true_eq, sameV_true, Pan.mk.injEq]
  constructor
  · rintro ⟨⟨h1, h2⟩, h3⟩; exact ⟨h1, h3, h2⟩
  · rintro ⟨h1, h2, h3⟩; exact ⟨⟨h1, h3⟩, h2⟩
theorem sameP_rfl (p : Pan) : sameP p p = true := sameP_true.2 rfl
def rdC (s : Bytes) : Pan × Bool := match coreP s with | some p => (p, true) | none => (pz, false)
def addF (p : Pan) (r a : Bool) : Pan := ⟨p.tag, p.value, p.flags + (if r = true then 1 else 0) + (if a = true then 4 else 0)⟩
theorem rlP_or (s : Bytes) (h : ¬2000 < s.length) : (rlP s).2 = 0 ∨ rlP s = (pz, 12) := by
  unfold rlP
  rw [if_neg h]
  simp only
  split
  · exact .inr rfl
  · rename_i p _
    by_cases ho : okP ⟨p.tag, p.value, p.flags + (if (cuts tRec (cuts tAb s).1).2 = true then 1 else 0) + (if (cuts tAb s).2 = true then 4 else 0)⟩ = true
    · rw [if_pos ho]; exact .inl rfl
    · rw [if_neg ho]; exact .inr rfl
section
variable {prog : Prog} (H : HasP prog)
include H
theorem c160 {p q : Pan} (hp : Wf p.value) : Pus prog 160 [p.av, q.av] (.b (sameP p q)) := by
  obtain ⟨x, rfl, h⟩ := p160 H.f160 (a0 := p) (b1 := q) (K := fun x => x = sameP p q) (by
    unfold T160_0
    refine ⟨fun h1 => ⟨fun h2 => ⟨_, c78 H.toHas38 hp _, ?_⟩, fun h2 => ?_⟩, fun h1 => ?_⟩
    · unfold sameP; rw [decide_eq_true h1, decide_eq_true h2]; rfl
    · unfold sameP; rw [decide_eq_false h2, Bool.and_false]; rfl
    · unfold sameP; rw [decide_eq_false h1]; rfl)
  exact h
theorem c181 {s : Bytes} (hs : s.length ≤ 1000000000) : Pus prog 181 [.s s] (.tup [(rdC s).1.av, .b (rdC s).2]) := by
  obtain ⟨x, y, ⟨rfl, rfl⟩, h⟩ := p181 H.f181 (s0 := s) (K := fun x y => x = (rdC s).1 ∧ y = (rdC s).2) (by
    unfold T181_0 T181_1
    have yes : ∀ {p : Pan}, coreP s = some p → p = (rdC s).1 ∧ true = (rdC s).2 := fun h => by unfold rdC; rw [h]; exact ⟨rfl, rfl⟩
    have no : coreP s = none → pz = (rdC s).1 ∧ false = (rdC s).2 := fun h => by unfold rdC; rw [h]; exact ⟨rfl, rfl⟩
    refine ⟨fun h => yes (by unfold coreP; rw [if_pos (show s = tExit from h)]), fun h0 => ?_⟩
    have h0 : s ≠ tExit := h0
    unfold T181_2
    refine ⟨_, c178 H.toHasO, fun P hP => ?_⟩
    have step : ∀ (i : Nat) (f : Bytes), faults4[i]? = some f → i < 4 → (0 < i → f = s → (Pan.mk 4 (Val.mk 2 (i : Int) [] [] false) 0) = (rdC s).1 ∧ true = (rdC s).2) → ((0 < i → f ≠ s) → P ((i + 1 : Nat) : Int) pz) → P (i : Int) pz := fun i f hf hi h1 h2 => by
      apply hP
      unfold T181_3
      refine ⟨fun _ => ⟨rfl, by omega, f, by rw [toNat_cast]; exact hf, fun h3 => ?_, fun h3 => ?_⟩, fun h => absurd (show (i : Int) < 4 by omega) h⟩
      · unfold T181_4
        rw [wr_i64 (by omega) (by omega)]
        exact ⟨fun h4 => h1 (by omega) (of_decide_eq_true h4), fun h4 => h2 fun _ => of_decide_eq_false h4⟩
      · unfold T181_4
        rw [wr_i64 (by omega) (by omega)]
        exact ⟨fun h4 => (by cases h4), fun _ => h2 fun h => by omega⟩
    refine step 0 [] rfl (by decide) (fun h => absurd h (by decide)) fun _ => step 1 tF1 rfl (by decide) (fun _ e => yes (by unfold coreP; rw [if_neg h0, if_pos e.symm]; rfl)) fun n1 => step 2 tF2 rfl (by decide) (fun _ e => yes (by unfold coreP; rw [if_neg h0, if_neg fun e' => n1 (by decide) e'.symm, if_pos e.symm]; rfl)) fun n2 => step 3 tF3 rfl (by decide) (fun _ e => yes (by unfold coreP; rw [if_neg h0, if_neg fun e' => n1 (by decide) e'.symm, if_neg fun e' => n2 (by decide) e'.symm, if_pos e.symm]; rfl)) fun n3 => ?_
    apply hP
    unfold T181_3 T181_5
    refine ⟨fun h => absurd h (by decide), fun _ => ⟨_, _, c36 H.toHas03 s tPan, fun h1 => ?_, fun h1 => ?_⟩⟩
    all_goals
      have e1 : coreP s = if (cutp tPan s).2 = false then none else
        if (rvs (cutp tPan s).1).2 ≠ 0 then none else
        let v := (rvs (cutp tPan s).1).1
        if v.kind = 2 then some ⟨1, v, 0⟩ else if v.kind = 1 then some ⟨2, v, 0⟩ else if v.kind = 3 then some ⟨3, v, 0⟩ else none := by
        conv => lhs; unfold coreP
        rw [if_neg h0, if_neg fun e' => n1 (by decide) e'.symm, if_neg fun e' => n2 (by decide) e'.symm, if_neg fun e' => n3 (by decide) e'.symm]
    · exact no (by rw [e1, if_pos (by simpa using h1)])
    · rw [if_neg (by simpa using h1)] at e1
      have hl : (cutp tPan s).1.length ≤ 1000000000 := by unfold cutp; split <;> simp <;> omega
      refine ⟨_, _, c74 H.toHas38 hl, _, c183 H.toHasO, fun Q hQ => ?_⟩
      by_cases he : (rvs (cutp tPan s).1).2 = 0
      · rw [if_neg (by rw [he]; decide)] at e1
        obtain ⟨g1, _, _⟩ := rvs_inv he
        generalize (rvs (cutp tPan s).1).1 = v at e1 g1 hQ ⊢
        have h7 := okv_head (fine_ok g1).1
        unfold Val.okh Okh at h7
        simp only at e1
        have st : ∀ (i : Nat) (c : UInt8), kinds5[i]? = some c → i < 5 → ((c.toNat : Int) = v.kind → (Pan.mk (i : Int) v 0) = (rdC s).1 ∧ true = (rdC s).2) → (¬(c.toNat : Int) = v.kind → Q ((i + 1 : Nat) : Int) pz v) → Q (i : Int) pz v := fun i c hc hi h1 h2 => by
          apply hQ
          unfold T181_6
          refine ⟨fun _ => ⟨rfl, by omega, c, by rw [toNat_cast]; exact hc, fun h3 => ?_, fun h3 => absurd he h3⟩, fun h => absurd (show (i : Int) < 5 by omega) h⟩
          unfold T181_7
          rw [wr_i64 (by omega) (by omega), wr_u64 (by omega) (by omega)]
          exact ⟨fun h4 => h1 (of_decide_eq_true h4), fun h4 => h2 (of_decide_eq_false h4)⟩
        refine st 0 0 rfl (by decide) (fun h => absurd h (show ¬((0 : Int) = v.kind) by omega)) fun _ => st 1 2 rfl (by decide) (fun h => yes (by rw [e1, if_pos (show v.kind = 2 from h.symm)]; rfl)) fun n2 => st 2 1 rfl (by decide) (fun h => yes (by rw [e1, if_neg fun h' => n2 h'.symm, if_pos (show v.kind = 1 from h.symm)]; rfl)) fun n1 => st 3 3 rfl (by decide) (fun h => yes (by rw [e1, if_neg fun h' => n2 h'.symm, if_neg fun h' => n1 h'.symm, if_pos (show v.kind = 3 from h.symm)]; rfl)) fun n3 => st 4 2 rfl (by decide) (fun h => absurd h n2) fun _ => ?_
        apply hQ
        unfold T181_6 T181_8
        exact ⟨fun h => absurd h (by decide), fun _ => no (by rw [e1, if_neg fun h' => n2 h'.symm, if_neg fun h' => n1 h'.symm, if_neg fun h' => n3 h'.symm])⟩
      · rw [if_pos he] at e1
        have st : ∀ (i : Nat) (c : UInt8), kinds5[i]? = some c → i < 5 → Q ((i + 1 : Nat) : Int) pz (rvs (cutp tPan s).1).1 → Q (i : Int) pz (rvs (cutp tPan s).1).1 := fun i c hc hi h2 => by
          apply hQ
          unfold T181_6
          refine ⟨fun _ => ⟨rfl, by omega, c, by rw [toNat_cast]; exact hc, fun h3 => absurd h3 he, fun h3 => ?_⟩, fun h => absurd (show (i : Int) < 5 by omega) h⟩
          unfold T181_7
          rw [wr_i64 (by omega) (by omega)]
          exact ⟨fun h4 => (by cases h4), fun _ => h2⟩
        refine st 0 0 rfl (by decide) (st 1 2 rfl (by decide) (st 2 1 rfl (by decide) (st 3 3 rfl (by decide) (st 4 2 rfl (by decide) ?_))))
        apply hQ
        unfold T181_6 T181_8
        exact ⟨fun h => absurd h (by decide), fun _ => no e1⟩)
  exact h
omit H in
theorem or_flags {f : Int} (h : f = 0 ∨ f = 2) : bOr .u64 f 1 = f + 1 ∧ bOr .u64 f 4 = f + 4 ∧ bOr .u64 (f + 1) 4 = f + 1 + 4 ∧ IntKind.u64.wrap (f + 1) = f + 1 ∧ IntKind.u64.wrap (f + 4) = f + 4 ∧ IntKind.u64.wrap (f + 1 + 4) = f + 1 + 4 := by
  rcases h with rfl | rfl <;> decide
theorem c156 {s : Bytes} (hs : s.length ≤ 1000000000) : Pus prog 156 [.s s] (.tup [(rlP s).1.av, .i .i64 (rlP s).2]) := by
  obtain ⟨x, y, ⟨rfl, rfl⟩, h⟩ := p156 H.f156 (s0 := s) (K := fun x y => x = (rlP s).1 ∧ y = (rlP s).2) (by
    unfold T156_0
    refine ⟨fun h => ?_, fun h => ?_⟩
    · unfold rlP; rw [if_pos (by omega)]; exact ⟨rfl, rfl⟩
    have hl : ¬2000 < s.length := by omega
    have l1 : (cuts tAb s).1.length ≤ 1000000000 := Nat.le_trans (cuts_len _ _) hs
    have l2 : (cuts tRec (cuts tAb s).1).1.length ≤ 1000000000 := Nat.le_trans (cuts_len _ _) l1
    have e : rlP s = (match coreP (cuts tRec (cuts tAb s).1).1 with
      | none => (pz, 12)
      | some p => if okP (addF p (cuts tRec (cuts tAb s).1).2 (cuts tAb s).2) = true then (addF p (cuts tRec (cuts tAb s).1).2 (cuts tAb s).2, 0) else (pz, 12)) := by
      conv => lhs; unfold rlP
      rw [if_neg hl]
      rfl
    refine ⟨_, _, c180 H.toHasO (p := tAb) hs, _, _, c180 H.toHasO (p := tRec) l1, _, _, c181 H l2, ?_⟩
    generalize cuts tAb s = a at e l1 l2 ⊢
    generalize cuts tRec a.1 = r at e l2 ⊢
    cases hc : coreP r.1 with
    | none =>
      rw [hc] at e
      have e2 : rdC r.1 = (pz, false) := by unfold rdC; rw [hc]
      rw [e, e2]
      unfold T156_1 T156_2
      exact ⟨fun _ => ⟨fun _ => ⟨fun _ => ⟨rfl, rfl⟩, fun h => (by cases h)⟩, fun _ => ⟨fun _ => ⟨rfl, rfl⟩, fun h => (by cases h)⟩⟩, fun _ => ⟨fun _ => ⟨fun _ => ⟨rfl, rfl⟩, fun h => (by cases h)⟩, fun _ => ⟨fun _ => ⟨rfl, rfl⟩, fun h => (by cases h)⟩⟩⟩
    | some p =>
      rw [hc] at e
      have e2 : rdC r.1 = (p, true) := by unfold rdC; rw [hc]
      rw [e, e2]
      obtain ⟨w1, w2, w3, w4, _⟩ := core_wf hc
      obtain ⟨o1, o2, o3, _⟩ := or_flags w2
      have fin : ∀ q : Pan, q = addF p r.2 a.2 → T156_2 prog (fun x y => x = (if okP (addF p r.2 a.2) = true then (addF p r.2 a.2, (0 : Int)) else (pz, 12)).1 ∧ y = (if okP (addF p r.2 a.2) = true then (addF p r.2 a.2, (0 : Int)) else (pz, 12)).2) true pz q := fun q hq => by
        subst hq
        have hw : WfP (addF p r.2 a.2) := ⟨⟨w3, by simp only [addF]; omega⟩, w1, by simp only [addF]; constructor <;> (split <;> split <;> omega)⟩
        unfold T156_2
        refine ⟨fun h => (by cases h), fun _ => ⟨_, c158 H.toHasO hw, fun h1 => ?_, fun h1 => ?_⟩⟩
        · rw [if_neg fun h' => h1 (chkP_iff.2 h')]; exact ⟨rfl, rfl⟩
        · rw [if_pos (chkP_iff.1 (Decidable.not_not.1 h1))]; exact ⟨rfl, rfl⟩
      unfold T156_1
      simp only
      refine ⟨fun h1 => ⟨fun h2 => fin _ ?_, fun h2 => fin _ ?_⟩, fun h1 => ⟨fun h2 => fin _ ?_, fun h2 => fin _ ?_⟩⟩ <;> unfold addF <;> rw [h1, h2]
      · rw [o1, o3]; rfl
      · rw [o1]; simp
      · rw [o2]; simp
      · simp)
  exact h
end
end Go.AM

/- Parts of the proof. -/
namespace Go.AM
open Go
structure HasQ (prog : Prog) : Prop extends HasP prog where
  f161 : prog.fn 161 = some pf161
  f162 : prog.fn 162 = some pf162
  f163 : prog.fn 163 = some pf163
  f164 : prog.fn 164 = some pf164
  f165 : prog.fn 165 = some pf165
  f169 : prog.fn 169 = some pf169
  f171 : prog.fn 171 = some pf171
  f172 : prog.fn 172 = some pf172
  f174 : prog.fn 174 = some pf174
  f176 : prog.fn 176 = some pf176
  f184 : prog.fn 184 = some pf184
  f185 : prog.fn 185 = some pf185
def chainR (l : List Pan) : Int := if 410 < l.length then 4 else if l.all okP = true then 0 else 8
def greatC (l : List Pan) : Bool := (decide (20 < l.length) && decide (l.length ≤ 410)) || decide (420 < l.length) || l.any (fun p => greatv p.value)
def fl0 (p : Pan) : Bool := decide (p.flags = 0)
def causeR (l : List Pan) : Int × Int := if chainR l = 0 then (if l.findIdx fl0 < l.length then ((l.findIdx fl0 : Int), 0) else (0, 6)) else (0, chainR l)
def txtC (l : List Pan) : Bytes := l.flatMap fun p => shown p ++ [10]
def textR (l : List Pan) : Bytes × Int := if chainR l = 0 then (txtC l, 0) else ([], chainR l)
theorem chain_all {l : List Pan} (h : ¬410 < l.length) (ho : ∀ p ∈ l, okP p = true) : chainR l = 0 := by
  unfold chainR; rw [if_neg h, if_pos (List.all_eq_true.2 ho)]
theorem chain_not {l : List Pan} (h : ¬410 < l.length) {p : Pan} (hp : p ∈ l) (ho : okP p ≠ true) : chainR l = 8 := by
  unfold chainR; rw [if_neg h, if_neg fun h' => ho (List.all_eq_true.1 h' p hp)]
theorem chain_ok {l : List Pan} (h : chainR l = 0) : l.length ≤ 410 ∧ ∀ p ∈ l, okP p = true := by
  unfold chainR at h
  split at h
  · cases h
  · split at h
    · rename_i h1 h2; exact ⟨by omega, List.all_eq_true.1 h2⟩
    · cases h
theorem txtC_take {l : List Pan} {i : Nat} (h : i < l.length) : txtC (l.take (i + 1)) = txtC (l.take i) ++ (shown l[i] ++ [10]) := by
  unfold txtC
  rw [List.take_succ_eq_append_getElem h, List.flatMap_append]
  simp
theorem txtC_len {l : List Pan} (ho : ∀ p ∈ l, okP p = true) : (txtC l).length ≤ 401 * l.length := by
  induction l with
  | nil => exact Nat.le_refl _
  | cons p l ih =>
    have h1 := shown_len (ho p List.mem_cons_self)
    have h2 := ih fun q hq => ho q (List.mem_cons_of_mem _ hq)
    unfold txtC at h2 ⊢
    simp only [List.flatMap_cons, List.length_append, List.length_cons, List.length_nil]
    omega
section
variable {prog : Prog} (H : HasQ prog)
include H
theorem c185 {l : List Pan} (hw : ∀ p ∈ l, WfP p) : Pus prog 185 [.sl .ext (l.map Pan.row)] (.i .i64 (chainR l)) := by
  obtain ⟨x, rfl, h⟩ := p185 H.f185 (l0 := l) (K := fun x => x = chainR l) (by
    unfold T185_0
    refine ⟨fun h => by unfold chainR; rw [if_pos (by omega)], fun h P hP => ?_⟩
    refine loop_inv0 l.length (fun i => ∀ p ∈ l.take i, okP p = true) (by simp) (fun hI => hP _ ?_) fun i hi hI next => hP _ ?_
    · unfold T185_1 T185_2
      rw [List.take_length] at hI
      exact ⟨fun h => absurd h (by omega), fun _ => (chain_all (by omega) hI).symm⟩
    · unfold T185_1
      refine ⟨fun _ => ⟨by omega, _, get_at hi, _, c158 H.toHasO (hw _ (List.getElem_mem hi)), fun h1 => ?_, fun h1 => ?_⟩, fun h => absurd (show (i : Int) < l.length by omega) h⟩
      · have hn : okP l[i] ≠ true := fun h' => h1 (chkP_iff.2 h')
        rw [chain_not (by omega) (List.getElem_mem hi) hn, chkP_no (by simpa using hn)]
      · rw [wr_i64 (by omega) (by omega)]
        refine next fun p hp => ?_
        rw [List.take_succ_eq_append_getElem hi] at hp
        rcases List.mem_append.1 hp with hp | hp
        · exact hI p hp
        · rw [List.mem_singleton.1 hp]; exact chkP_iff.1 (Decidable.not_not.1 h1))
  exact h
theorem c163 {l : List Pan} (hw : ∀ p ∈ l, WfP p) : Pus prog 163 [.sl .ext (l.map Pan.row)] (.i .i64 (chainR l)) := by
  obtain ⟨x, rfl, h⟩ := p163 H.f163 (l0 := l) (K := fun x => x = chainR l) (by
    unfold T163_0
    refine ⟨fun h => by unfold chainR; rw [if_pos (by omega)], fun h P hP => ?_⟩
    refine loop_inv0 l.length (fun i => ∀ p ∈ l.take i, okP p = true) (by simp) (fun hI => hP _ ?_) fun i hi hI next => hP _ ?_
    · unfold T163_1 T163_2
      rw [List.take_length] at hI
      exact ⟨fun h => absurd h (by omega), fun _ => (chain_all (by omega) hI).symm⟩
    · unfold T163_1
      refine ⟨fun _ => ⟨by omega, _, get_at hi, _, c159 H.toHasO (hw _ (List.getElem_mem hi)), fun h1 => ?_, fun h1 => ?_⟩, fun h => absurd (show (i : Int) < l.length by omega) h⟩
      · have hn : okP l[i] ≠ true := fun h' => h1 (chkP_iff.2 h')
        rw [chain_not (by omega) (List.getElem_mem hi) hn, chkP_no (by simpa using hn)]
      · rw [wr_i64 (by omega) (by omega)]
        refine next fun p hp => ?_
        rw [List.take_succ_eq_append_getElem hi] at hp
        rcases List.mem_append.1 hp with hp | hp
        · exact hI p hp
        · rw [List.mem_singleton.1 hp]; exact chkP_iff.1 (Decidable.not_not.1 h1))
  exact h
omit H in
theorem idx_at {l : List Pan} {i : Nat} (hi : i < l.length) (h : ∀ j (hj : j < i), fl0 (l[j]'(by omega)) = false) (h1 : fl0 l[i] = true) : l.findIdx fl0 = i := by
  rw [List.findIdx_eq hi]
  exact ⟨h1, h⟩
omit H in
theorem idx_none {l : List Pan} (h : ∀ j (hj : j < l.length), fl0 l[j] = false) : ¬l.findIdx fl0 < l.length := by
  intro h1
  have := List.findIdx_getElem (w := h1)
  rw [h _ h1] at this
  cases this
theorem c165 {l : List Pan} (hw : ∀ p ∈ l, WfP p) : Pus prog 165 [.sl .ext (l.map Pan.row)] (.tup [.i .i64 (causeR l).1, .i .i64 (causeR l).2]) := by
  obtain ⟨x, y, ⟨rfl, rfl⟩, h⟩ := p165 H.f165 (l0 := l) (K := fun x y => x = (causeR l).1 ∧ y = (causeR l).2) (by
    unfold T165_0
    refine ⟨_, c185 H hw, fun h => ?_, fun h P hP => ?_⟩
    · unfold causeR; rw [if_neg h]; exact ⟨rfl, rfl⟩
    have h := Decidable.not_not.1 h
    have hl := (chain_ok h).1
    refine loop_inv0 l.length (fun i => ∀ j (hj : j < l.length), j < i → fl0 l[j] = false) (fun j _ hj => by omega) (fun hI => hP _ ?_) fun i hi hI next => hP _ ?_
    · unfold T165_1 T165_2 causeR
      rw [if_pos h, if_neg (idx_none fun j hj => hI j hj hj)]
      exact ⟨fun h => absurd h (by omega), fun _ => ⟨rfl, rfl⟩⟩
    · unfold T165_1
      refine ⟨fun _ => ⟨by omega, _, get_at hi, fun h1 => ?_, fun h1 => ?_⟩, fun h => absurd (show (i : Int) < l.length by omega) h⟩
      · have e := idx_at hi (fun j hj => hI j _ hj) (decide_eq_true h1)
        unfold causeR
        rw [if_pos h, e, if_pos hi]; exact ⟨rfl, rfl⟩
      · rw [wr_i64 (by omega) (by omega)]
        refine next fun j hj hji => ?_
        rcases Nat.lt_or_ge j i with h2 | h2
        · exact hI j hj h2
        · have : j = i := by omega
          subst this; exact decide_eq_false h1)
  exact h
theorem c162 {l : List Pan} (hw : ∀ p ∈ l, WfP p) : Pus prog 162 [.sl .ext (l.map Pan.row)] (.b (greatC l)) := by
  obtain ⟨x, rfl, h⟩ := p162 H.f162 (l0 := l) (K := fun x => x = greatC l) (by
    have t1 : (decide (20 < l.length) && decide (l.length ≤ 410)) = false → ¬420 < l.length → T162_1 prog (fun x => x = greatC l) l := fun h1 h2 => by
      unfold T162_1
      intro P hP
      have e : greatC l = l.any (fun p => greatv p.value) := by unfold greatC; rw [h1, decide_eq_false h2]; rfl
      rw [e] at hP
      refine loop_inv0 l.length (fun i => ∀ p ∈ l.take i, greatv p.value = false) (by simp) (fun hI => hP _ ?_) fun i hi hI next => hP _ ?_
      · unfold T162_2 T162_3
        rw [List.take_length] at hI
        exact ⟨fun h => absurd h (by omega), fun _ => (List.any_eq_false.2 fun p hp => by simpa using hI p hp).symm⟩
      · unfold T162_2
        refine ⟨fun _ => ⟨by omega, _, get_at hi, _, c71 H.toHas38 (hw _ (List.getElem_mem hi)).v, fun h1 => (List.any_eq_true.2 ⟨_, List.getElem_mem hi, h1⟩).symm, fun h1 => ?_⟩, fun h => absurd (show (i : Int) < l.length by omega) h⟩
        rw [wr_i64 (by omega) (by omega)]
        refine next fun p hp => ?_
        rw [List.take_succ_eq_append_getElem hi] at hp
        rcases List.mem_append.1 hp with hp | hp
        · exact hI p hp
        · rw [List.mem_singleton.1 hp]; exact h1
    unfold T162_0
    refine ⟨fun h1 => ⟨fun h2 => ?_, fun h2 => ⟨fun h3 => ?_, fun h3 => ?_⟩⟩, fun h1 => ⟨fun h3 => ?_, fun h3 => ?_⟩⟩
    · unfold greatC; rw [decide_eq_true (by omega), decide_eq_true (by omega)]; rfl
    · unfold greatC; rw [decide_eq_true (p := 420 < l.length) (by omega)]; simp
    · exact t1 (by rw [decide_eq_false (p := l.length ≤ 410) (by omega)]; simp) (by omega)
    · omega
    · exact t1 (by rw [decide_eq_false (p := 20 < l.length) (by omega)]; rfl) (by omega))
  exact h
theorem c164 {l : List Pan} (hw : ∀ p ∈ l, WfP p) : Pus prog 164 [.sl .ext (l.map Pan.row)] (.tup [.s (textR l).1, .i .i64 (textR l).2]) := by
  obtain ⟨x, y, ⟨rfl, rfl⟩, h⟩ := p164 H.f164 (l0 := l) (K := fun x y => x = (textR l).1 ∧ y = (textR l).2) (by
    unfold T164_0
    refine ⟨_, c185 H hw, fun h => ?_, fun h P hP => ?_⟩
    · unfold textR; rw [if_neg h]; exact ⟨rfl, rfl⟩
    have h := Decidable.not_not.1 h
    obtain ⟨hl, ho⟩ := chain_ok h
    have hb : ∀ i, (txtC (l.take i)).length ≤ 1000000 := fun i => by
      have h1 := txtC_len (l := l.take i) fun p hp => ho p (List.mem_of_mem_take hp)
      have h2 : (l.take i).length ≤ l.length := by simp only [List.length_take]; omega
      omega
    refine loop_inv (P := fun b i => P i b) (fun i => txtC (l.take i)) l.length (fun _ => True) trivial (fun _ => hP _ _ ?_) fun i hi _ next => hP _ _ ?_
    · unfold T164_1 T164_2
      rw [List.take_length]
      have hb2 := hb l.length
      rw [List.take_length] at hb2
      refine ⟨fun h => absurd h (by omega), fun _ => ⟨_, c105 H.toHasB (by rw [maxBytes_eq]; omega), ?_⟩⟩
      unfold textR; rw [if_pos h]; exact ⟨rfl, rfl⟩
    · have hoi := ho _ (List.getElem_mem hi)
      have hs := shown_len hoi
      have hbi := hb i
      have hln : lnP l[i] = (shown l[i], 0) := by unfold lnP; rw [if_pos hoi]
      have k := c154 H.toHasO (hw _ (List.getElem_mem hi))
      rw [hln] at k
      unfold T164_1
      refine ⟨fun _ => ⟨by omega, _, get_at hi, _, _, k, fun h1 => absurd rfl h1, fun _ => ⟨?_, _, _, c126 H.toHasB ?_ (by simp), ?_⟩⟩, fun h => absurd (show (i : Int) < l.length by omega) h⟩
      · simp only [List.length_cons, List.length_nil, maxStr_eq]; omega
      · simp only [List.length_append, List.length_cons, List.length_nil, maxBytes_eq]; omega
      · rw [wr_i64 (by omega) (by omega), ← txtC_take hi]
        exact next trivial)
  exact h
theorem c171 {p : Pan} (hp : WfP p) {s : Bytes} (hs : s.length ≤ 1000000000) (ho : okP p = true) (e : shown p = s) : Pus prog 171 [p.av, .s s] (.b true) := by
  obtain ⟨x, rfl, h⟩ := p171 H.f171 (p0 := p) (want1 := s) (K := fun x => x = true) (by
    unfold T171_0
    have k1 := c154 H.toHasO hp
    rw [show lnP p = (s, 0) by unfold lnP; rw [if_pos ho, e]] at k1
    have k2 := c156 H.toHasP hs
    rw [show rlP s = (p, 0) by rw [← e]; exact rlP_shown ho hp.v] at k2
    refine ⟨_, _, k1, _, _, k2, fun _ => ⟨fun _ => ⟨fun _ => ⟨_, c160 H.toHasP hp.v, sameP_rfl p⟩, fun h => absurd rfl h⟩, fun h => absurd rfl h⟩, fun h => absurd rfl h⟩)
  exact h
theorem c176 {s : Bytes} (hs : s.length ≤ 1000000000) (e : rlP s = (pz, 12)) : Pus prog 176 [.s s] (.b true) := by
  obtain ⟨x, rfl, h⟩ := p176 H.f176 (s0 := s) (K := fun x => x = true) (by
    unfold T176_0
    have k2 := c156 H.toHasP hs
    rw [e] at k2
    exact ⟨_, _, k2, fun _ => ⟨_, c160 H.toHasP (p := pz) (q := pz) Wf.zero, sameP_rfl pz⟩, fun h => absurd rfl h⟩)
  exact h
theorem c172 (n : Int) : Pus prog 172 [.i .i64 n] (Val.mk 2 n [] [] false).av := by
  obtain ⟨x, rfl, h⟩ := p172 H.f172 (n0 := n) (K := fun x => x = Val.mk 2 n [] [] false) rfl
  exact h
theorem c174 (s : Bytes) : Pus prog 174 [.s s] (Val.mk 3 0 s [] false).av := by
  obtain ⟨x, rfl, h⟩ := p174 H.f174 (s0 := s) (K := fun x => x = Val.mk 3 0 s [] false) rfl
  exact h
end
def pG0 : Pan := ⟨3, Val.mk 3 0 [97, 32, 98] [] false, 1⟩
def pG1 : Pan := ⟨4, Val.mk 2 1 [] [] false, 4⟩
def pG2 : Pan := ⟨0, vz, 2⟩
def pG3 : Pan := ⟨1, Val.mk 2 (-1) [] [] false, 0⟩
theorem wG0 : WfP pG0 := ⟨by decide, .mk (by decide) (by decide) (by decide) (by simp), by decide⟩
theorem wG1 : WfP pG1 := ⟨by decide, .mk (by decide) (by decide) (by decide) (by simp), by decide⟩
theorem wG2 : WfP pG2 := ⟨by decide, Wf.zero, by decide⟩
theorem wG3 : WfP pG3 := ⟨by decide, .mk (by decide) (by decide) (by decide) (by simp), by decide⟩
theorem wGs : ∀ p ∈ [pG0, pG1, pG2], WfP p := by
  intro p hp
  simp only [List.mem_cons, List.not_mem_nil, or_false] at hp
  rcases hp with rfl | rfl | rfl
  · exact wG0
  · exact wG1
  · exact wG2
theorem wGs4 : ∀ p ∈ [pG0, pG1, pG2, pG3], WfP p := by
  intro p hp
  simp only [List.mem_cons, List.not_mem_nil, or_false] at hp
  rcases hp with rfl | rfl | rfl | rfl
  · exact wG0
  · exact wG1
  · exact wG2
  · exact wG3
theorem okGs : okP pG0 = true ∧ okP pG1 = true ∧ okP pG2 = true := by decide +kernel
theorem causeG : causeR [pG0, pG1, pG2] = (0, 6) := by decide +kernel
theorem causeG4 : causeR [pG0, pG1, pG2, pG3] = (3, 0) := by decide +kernel
def tG : Bytes := [112, 97, 110, 105, 99, 32, 34, 97, 32, 98, 34, 32, 114, 101, 99, 111, 118, 101, 114, 101, 100, 10, 102, 97, 117, 108, 116, 32, 49, 58, 32, 100, 105, 118, 105, 115, 105, 111, 110, 32, 98, 121, 32, 122, 101, 114, 111, 32, 97, 98, 111, 114, 116, 101, 100, 10, 101, 120, 105, 116, 10]
theorem textG : textR [pG0, pG1, pG2] = (tG, 0) := by decide +kernel
theorem badG1 : rlP [112, 97, 110, 105, 99, 32, 110, 105, 108] = (pz, 12) := by
  rcases rlP_or [112, 97, 110, 105, 99, 32, 110, 105, 108] (by decide) with h | h
  · exact absurd h (by decide +kernel)
  · exact h
theorem badG2 : rlP [101, 120, 105, 116, 32, 114, 101, 99, 111, 118, 101, 114, 101, 100] = (pz, 12) := by
  rcases rlP_or [101, 120, 105, 116, 32, 114, 101, 99, 111, 118, 101, 114, 101, 100] (by decide) with h | h
  · exact absurd h (by decide +kernel)
  · exact h
section
variable {prog : Prog} (H : HasQ prog)
include H
theorem c184 : PuN prog 184 [] (fun r => r = .sl .full ([pG0, pG1, pG2].map Pan.row)) := by
  refine (p184 H.f184 (K := fun l => l = [pG0, pG1, pG2]) (by
    unfold T184_0
    exact ⟨_, c174 H _, _, c172 H _, rfl⟩)).to fun r ⟨v, h1, h2⟩ => ?_
  rw [h1, h2]
theorem c161 : Pus prog 161 [] (.b true) := by
  obtain ⟨x, rfl, h⟩ := p161 H.f161 (K := fun x => x = true) (by
    unfold T161_0 T161_1
    have k1 := c165 H wGs
    rw [causeG] at k1
    have k2 := c165 H wGs4
    rw [causeG4] at k2
    have k3 := c164 H wGs
    rw [textG] at k3
    obtain ⟨o0, o1, o2⟩ := okGs
    refine ⟨_, c184 H, _, _, k1, ?_⟩
    unfold T161_2
    refine ⟨_, c184 H, _, c172 H _, ⟨by decide, by decide⟩, _, _, k2, _, c184 H, _, _, k3, _, c184 H, _, rfl, _, c171 H wG0 (by decide) o0 (by decide +kernel), fun _ => ⟨_, c184 H, _, rfl, _, c171 H wG1 (by decide) o1 (by decide +kernel), fun _ => ⟨_, c184 H, _, rfl, _, c171 H wG2 (by decide) o2 (by decide +kernel), fun _ => ⟨fun _ => ⟨fun _ => ⟨fun _ => ⟨_, c176 H (by decide) badG1, fun _ => ⟨_, c176 H (by decide) badG2, fun _ => ⟨fun _ => decide_eq_true rfl, fun h => absurd rfl h⟩, fun h => (by cases h)⟩, fun h => (by cases h)⟩, fun h => absurd rfl h⟩, fun h => absurd rfl h⟩, fun h => absurd rfl h⟩, fun h => (by cases h)⟩, fun h => (by cases h)⟩, fun h => (by cases h)⟩)
  exact h
end
end Go.AM

/- Parts of the proof. -/
namespace Go.AM
open Go
theorem txtC_append (l m : List Pan) : txtC (l ++ m) = txtC l ++ txtC m := by unfold txtC; rw [List.flatMap_append]
theorem chain_app {l m : List Pan} (hl : chainR l = 0) (hm : chainR m = 0) (h : l.length + m.length ≤ 410) : chainR (l ++ m) = 0 := by
  obtain ⟨_, h1⟩ := chain_ok hl
  obtain ⟨_, h2⟩ := chain_ok hm
  refine chain_all (by simp; omega) fun p hp => ?_
  rcases List.mem_append.1 hp with hp | hp
  · exact h1 p hp
  · exact h2 p hp
section
variable {prog : Prog} (H : HasQ prog)
include H
theorem law149 (hf : prog.fn 149 = some pf149) {l m : List Pan} (hl : ∀ p ∈ l, WfP p) (hm : ∀ p ∈ m, WfP p) : Pus prog 149 [.sl .ext (l.map Pan.row), .sl .ext (m.map Pan.row)] (.b true) := by
  obtain ⟨x, rfl, h⟩ := p149 hf (l0 := l) (m1 := m) (K := fun x => x = true) (by
    unfold T149_0 T149_1 T149_2
    refine ⟨_, c161 H, fun _ => rfl, fun l20 => ⟨fun _ => rfl, fun m20 => ⟨_, c162 H hl, fun _ => rfl, fun _ => ⟨_, c162 H hm, fun _ => rfl, fun _ => ⟨_, c163 H hl, fun _ => rfl, fun h1 => ⟨_, c163 H hm, fun _ => rfl, fun h2 => ⟨fun h => (by cases h), fun _ => ?_⟩⟩⟩⟩⟩⟩⟩
    have h1 := Decidable.not_not.1 h1
    have h2 := Decidable.not_not.1 h2
    obtain ⟨_, o1⟩ := chain_ok h1
    obtain ⟨_, o2⟩ := chain_ok h2
    have h3 := chain_app h1 h2 (by omega)
    have hb : ∀ p ∈ ([] ++ l) ++ m, WfP p := fun p hp => by
      rw [List.nil_append] at hp
      rcases List.mem_append.1 hp with hp | hp
      · exact hl p hp
      · exact hm p hp
    have b1 := txtC_len o1
    have b2 := txtC_len o2
    unfold T149_3
    refine ⟨⟨?_, ?_⟩, ⟨?_, ?_⟩, ?_⟩
    · simp only [List.length_nil, maxBytes_eq]; omega
    · simp only [List.length_nil, maxBytes_eq]; omega
    · simp only [List.nil_append, maxBytes_eq]; omega
    · simp only [List.nil_append, maxBytes_eq]; omega
    unfold T149_4 T149_5 T149_6 T149_7 T149_8 T149_9
    refine ⟨_, _, c164 H hl, _, _, c164 H hm, _, _, c164 H hb, _, _, c165 H hl, _, _, c165 H hm, _, _, c165 H hb, ?_⟩
    rw [List.nil_append]
    unfold textR
    rw [if_pos h1, if_pos h2, if_pos h3]
    refine ⟨fun h => absurd rfl h, fun _ => ⟨fun h => absurd rfl h, fun _ => ⟨fun h => absurd rfl h, fun _ => ⟨?_, fun h => absurd (txtC_append l m) h, fun _ => ?_⟩⟩⟩⟩
    · simp only [maxStr_eq]; omega
    unfold T149_10 T149_11 causeR
    rw [if_pos h1, if_pos h2, if_pos h3, List.findIdx_append]
    by_cases g1 : l.findIdx fl0 < l.length
    · rw [if_pos g1, if_pos (show (if l.findIdx fl0 < l.length then l.findIdx fl0 else m.findIdx fl0 + l.length) < (l ++ m).length by rw [if_pos g1, List.length_append]; omega), if_pos g1]
      exact ⟨fun _ => ⟨fun _ => ⟨fun _ => decide_eq_true rfl, fun h => absurd rfl h⟩, fun h => (by cases h)⟩, fun h => absurd rfl h⟩
    · rw [if_neg g1]
      by_cases g2 : m.findIdx fl0 < m.length
      · rw [if_pos g2, if_pos (show (if l.findIdx fl0 < l.length then l.findIdx fl0 else m.findIdx fl0 + l.length) < (l ++ m).length by rw [if_neg g1, List.length_append]; omega), if_neg g1]
        refine ⟨fun h => absurd h (show ¬((6 : Int) = 0) by decide), fun _ => ⟨fun _ => ⟨fun _ => ⟨fun _ => ⟨fun _ => ⟨fun _ => rfl, fun h => ?_⟩, fun h => absurd rfl h⟩, fun h => absurd rfl h⟩, fun h => absurd rfl h⟩, fun h => (by cases h)⟩⟩
        exfalso
        apply h
        simp only
        rw [wr_i64 (by omega) (by omega)]
        omega
      · rw [if_neg g2, if_neg (show ¬(if l.findIdx fl0 < l.length then l.findIdx fl0 else m.findIdx fl0 + l.length) < (l ++ m).length by rw [if_neg g1, List.length_append]; omega)]
        refine ⟨fun h => absurd h (show ¬((6 : Int) = 0) by decide), fun _ => ⟨fun _ => ⟨fun _ => ⟨fun _ => ⟨fun h => absurd h (show ¬((6 : Int) = 0) by decide), fun _ => decide_eq_true rfl⟩, fun h => absurd rfl h⟩, fun h => absurd rfl h⟩, fun h => (by cases h)⟩⟩)
  exact h
end
end Go.AM

/- The statement ChaintextJoined: for every input the law returns true, and each argument reads afterwards as before. No conditions. -/
namespace Go.Proofs.Ytffbkdcgkhbpoaa.ChaintextJoinedProof
open Go Go.AM Go.RowKit Go.ChangeShapes Go.WideShapes Go.ChangeAt

theorem ok149 : FnOk Try.prog X 4 pf149 := FnOk.of Try.func4 (by kernel_rfl) (by kernel_rfl) (by kernel_rfl) (by kernel_rfl) (by kernel_rfl)
def fns : List (Nat × AF) := [(42, pf42), (46, pf46), (36, pf36), (43, pf43), (47, pf47), (11, pf11), (15, pf15), (21, pf21), (25, pf25), (30, pf30), (34, pf34), (37, pf37), (39, pf39), (45, pf45), (145, pf145), (126, pf126), (71, pf71), (72, pf72), (74, pf74), (76, pf76), (77, pf77), (78, pf78), (102, pf102), (103, pf103), (104, pf104), (107, pf107), (109, pf109), (110, pf110), (128, pf128), (129, pf129), (130, pf130), (131, pf131), (136, pf136), (154, pf154), (158, pf158), (159, pf159), (178, pf178), (180, pf180), (183, pf183), (190, pf190), (191, pf191), (156, pf156), (160, pf160), (181, pf181), (161, pf161), (162, pf162), (163, pf163), (164, pf164), (165, pf165), (169, pf169), (171, pf171), (172, pf172), (174, pf174), (176, pf176), (184, pf184), (185, pf185), (149, pf149)]
def prog : Prog := ⟨fnOf fns, orcB, orsB⟩
set_option maxRecDepth 100000 in
theorem fns_ok : FnsOk Try.prog X fns fms :=
  And.intro (fun F h => noneF (show (none : Option AF) = some F from h)) (
  And.intro (fun F h => noneF (show (none : Option AF) = some F from h)) (
  And.intro (fun F h => Option.some.inj (show some pf149 = some F from h) ▸ ok149) (
  And.intro (fun F h => noneF (show (none : Option AF) = some F from h)) (
  And.intro (fun F h => noneF (show (none : Option AF) = some F from h)) (
  And.intro (fun F h => noneF (show (none : Option AF) = some F from h)) (
  And.intro (fun F h => noneF (show (none : Option AF) = some F from h)) (
  And.intro (fun F h => Option.some.inj (show some pf71 = some F from h) ▸ ok71) (
  And.intro (fun F h => Option.some.inj (show some pf154 = some F from h) ▸ ok154) (
  And.intro (fun F h => noneF (show (none : Option AF) = some F from h)) (
  And.intro (fun F h => Option.some.inj (show some pf156 = some F from h) ▸ ok156) (
  And.intro (fun F h => noneF (show (none : Option AF) = some F from h)) (
  And.intro (fun F h => Option.some.inj (show some pf158 = some F from h) ▸ ok158) (
  And.intro (fun F h => Option.some.inj (show some pf159 = some F from h) ▸ ok159) (
  And.intro (fun F h => Option.some.inj (show some pf160 = some F from h) ▸ ok160) (
  And.intro (fun F h => Option.some.inj (show some pf161 = some F from h) ▸ ok161) (
  And.intro (fun F h => Option.some.inj (show some pf162 = some F from h) ▸ ok162) (
  And.intro (fun F h => Option.some.inj (show some pf163 = some F from h) ▸ ok163) (
  And.intro (fun F h => Option.some.inj (show some pf164 = some F from h) ▸ ok164) (
  And.intro (fun F h => Option.some.inj (show some pf165 = some F from h) ▸ ok165) (
  And.intro (fun F h => Option.some.inj (show some pf72 = some F from h) ▸ ok72) (
  And.intro (fun F h => noneF (show (none : Option AF) = some F from h)) (
  And.intro (fun F h => noneF (show (none : Option AF) = some F from h)) (
  And.intro (fun F h => noneF (show (none : Option AF) = some F from h)) (
  And.intro (fun F h => Option.some.inj (show some pf169 = some F from h) ▸ ok169) (
  And.intro (fun F h => noneF (show (none : Option AF) = some F from h)) (
  And.intro (fun F h => Option.some.inj (show some pf171 = some F from h) ▸ ok171) (
  And.intro (fun F h => Option.some.inj (show some pf172 = some F from h) ▸ ok172) (
  And.intro (fun F h => noneF (show (none : Option AF) = some F from h)) (
  And.intro (fun F h => Option.some.inj (show some pf174 = some F from h) ▸ ok174) (
  And.intro (fun F h => noneF (show (none : Option AF) = some F from h)) (
  And.intro (fun F h => Option.some.inj (show some pf176 = some F from h) ▸ ok176) (
  And.intro (fun F h => noneF (show (none : Option AF) = some F from h)) (
  And.intro (fun F h => Option.some.inj (show some pf102 = some F from h) ▸ ok102) (
  And.intro (fun F h => Option.some.inj (show some pf103 = some F from h) ▸ ok103) (
  And.intro (fun F h => Option.some.inj (show some pf178 = some F from h) ▸ ok178) (
  And.intro (fun F h => noneF (show (none : Option AF) = some F from h)) (
  And.intro (fun F h => Option.some.inj (show some pf180 = some F from h) ▸ ok180) (
  And.intro (fun F h => Option.some.inj (show some pf181 = some F from h) ▸ ok181) (
  And.intro (fun F h => noneF (show (none : Option AF) = some F from h)) (
  And.intro (fun F h => noneF (show (none : Option AF) = some F from h)) (
  And.intro (fun F h => Option.some.inj (show some pf183 = some F from h) ▸ ok183) (
  And.intro (fun F h => Option.some.inj (show some pf76 = some F from h) ▸ ok76) (
  And.intro (fun F h => Option.some.inj (show some pf77 = some F from h) ▸ ok77) (
  And.intro (fun F h => Option.some.inj (show some pf78 = some F from h) ▸ ok78) (
  And.intro (fun F h => Option.some.inj (show some pf184 = some F from h) ▸ ok184) (
  And.intro (fun F h => Option.some.inj (show some pf185 = some F from h) ▸ ok185) (
  And.intro (fun F h => Option.some.inj (show some pf126 = some F from h) ▸ ok126) (
  And.intro (fun F h => noneF (show (none : Option AF) = some F from h)) (
  And.intro (fun F h => Option.some.inj (show some pf104 = some F from h) ▸ ok104) (
  And.intro (fun F h => noneF (show (none : Option AF) = some F from h)) (
  And.intro (fun F h => noneF (show (none : Option AF) = some F from h)) (
  And.intro (fun F h => noneF (show (none : Option AF) = some F from h)) (
  And.intro (fun F h => noneF (show (none : Option AF) = some F from h)) (
  And.intro (fun F h => noneF (show (none : Option AF) = some F from h)) (
  And.intro (fun F h => Option.some.inj (show some pf190 = some F from h) ▸ ok190) (
  And.intro (fun F h => Option.some.inj (show some pf36 = some F from h) ▸ ok36) (
  And.intro (fun F h => Option.some.inj (show some pf74 = some F from h) ▸ ok74) (
  And.intro (fun F h => noneF (show (none : Option AF) = some F from h)) (
  And.intro (fun F h => Option.some.inj (show some pf109 = some F from h) ▸ ok109) (
  And.intro (fun F h => Option.some.inj (show some pf110 = some F from h) ▸ ok110) (
  And.intro (fun F h => Option.some.inj (show some pf145 = some F from h) ▸ ok145) (
  And.intro (fun F h => Option.some.inj (show some pf15 = some F from h) ▸ ok15) (
  And.intro (fun F h => Option.some.inj (show some pf11 = some F from h) ▸ ok11) (
  And.intro (fun F h => Option.some.inj (show some pf191 = some F from h) ▸ ok191) (
  And.intro (fun F h => noneF (show (none : Option AF) = some F from h)) (
  And.intro (fun F h => noneF (show (none : Option AF) = some F from h)) (
  And.intro (fun F h => noneF (show (none : Option AF) = some F from h)) (
  And.intro (fun F h => Option.some.inj (show some pf43 = some F from h) ▸ ok43) (
  And.intro (fun F h => noneF (show (none : Option AF) = some F from h)) (
  And.intro (fun F h => noneF (show (none : Option AF) = some F from h)) (
  And.intro (fun F h => noneF (show (none : Option AF) = some F from h)) (
  And.intro (fun F h => noneF (show (none : Option AF) = some F from h)) (
  And.intro (fun F h => Option.some.inj (show some pf42 = some F from h) ▸ ok42) (
  And.intro (fun F h => Option.some.inj (show some pf107 = some F from h) ▸ ok107) (
  And.intro (fun F h => noneF (show (none : Option AF) = some F from h)) (
  And.intro (fun F h => noneF (show (none : Option AF) = some F from h)) (
  And.intro (fun F h => noneF (show (none : Option AF) = some F from h)) (
  And.intro (fun F h => noneF (show (none : Option AF) = some F from h)) (
  And.intro (fun F h => noneF (show (none : Option AF) = some F from h)) (
  And.intro (fun F h => noneF (show (none : Option AF) = some F from h)) (
  And.intro (fun F h => Option.some.inj (show some pf136 = some F from h) ▸ ok136) (
  And.intro (fun F h => noneF (show (none : Option AF) = some F from h)) (
  And.intro (fun F h => Option.some.inj (show some pf34 = some F from h) ▸ ok34) (
  And.intro (fun F h => Option.some.inj (show some pf30 = some F from h) ▸ ok30) (
  And.intro (fun F h => noneF (show (none : Option AF) = some F from h)) (
  And.intro (fun F h => Option.some.inj (show some pf47 = some F from h) ▸ ok47) (
  And.intro (fun F h => noneF (show (none : Option AF) = some F from h)) (
  And.intro (fun F h => noneF (show (none : Option AF) = some F from h)) (
  And.intro (fun F h => Option.some.inj (show some pf46 = some F from h) ▸ ok46) (
  And.intro (fun F h => Option.some.inj (show some pf128 = some F from h) ▸ ok128) (
  And.intro (fun F h => Option.some.inj (show some pf129 = some F from h) ▸ ok129) (
  And.intro (fun F h => Option.some.inj (show some pf130 = some F from h) ▸ ok130) (
  And.intro (fun F h => Option.some.inj (show some pf131 = some F from h) ▸ ok131) (
  And.intro (fun F h => noneF (show (none : Option AF) = some F from h)) (
  And.intro (fun F h => noneF (show (none : Option AF) = some F from h)) (
  And.intro (fun F h => noneF (show (none : Option AF) = some F from h)) (
  And.intro (fun F h => noneF (show (none : Option AF) = some F from h)) (
  And.intro (fun F h => noneF (show (none : Option AF) = some F from h)) (
  And.intro (fun F h => Option.some.inj (show some pf25 = some F from h) ▸ ok25) (
  And.intro (fun F h => Option.some.inj (show some pf21 = some F from h) ▸ ok21) (
  And.intro (fun F h => noneF (show (none : Option AF) = some F from h)) (
  And.intro (fun F h => noneF (show (none : Option AF) = some F from h)) (
  And.intro (fun F h => Option.some.inj (show some pf39 = some F from h) ▸ ok39) (
  And.intro (fun F h => Option.some.inj (show some pf37 = some F from h) ▸ ok37) (
  And.intro (fun F h => Option.some.inj (show some pf45 = some F from h) ▸ ok45) (
  And.intro (fun F h => noneF (show (none : Option AF) = some F from h)) (
  And.intro (fun F h => noneF (show (none : Option AF) = some F from h)) (trivial))))))))))))))))))))))))))))))))))))))))))))))))))))))))))))))))))))))))))))))))))))))))))))))))))))))))))))
theorem o48_ok : OracOk Try.prog X { fn := fnOf fns, orac := orc48 48 } := orc48_ok (f0 := 102) (fun f h => by have := fm_inv h; simpa [fms] using this) Try.func102 (by kernel_rfl) (by kernel_rfl) (by kernel_rfl) (by kernel_rfl)
theorem orac_ok : OracOk Try.prog X prog := orcB_ok o48_ok (f0 := 85) (fun f h => by have := fm_inv h; simpa [fms] using this) Try.func85 (by kernel_rfl) (by kernel_rfl) (by kernel_rfl) (by kernel_rfl)
theorem orsB_ok : OracSOk Try.prog X prog := Go.AM.orsB_ok Try.lays169 Try.extraB (fun f h => by have := fm_inv h; have e : f = 50 := (by simpa [fms] using this); exact e) (by kernel_rfl) (by kernel_rfl) Try.func50 (by kernel_rfl) rfl
def tl : List Nat := [2, 4, 5, 9, 22, 23, 25, 27, 42]
theorem at_ : LawAt Try.prog X prog tl := ⟨tab_ok tys_ok, by kernel_rfl, prog_ok fns_ok.all rfl, orac_ok, orsB_ok, by
    intro t ht
    exact (show ∀ t ∈ tl, okTy X.T tl t = true by decide) t (by simpa using ht)⟩
set_option maxRecDepth 100000 in
theorem has : HasQ prog := { f42 := by kernel_rfl, f46 := by kernel_rfl, f36 := by kernel_rfl, f43 := by kernel_rfl, f47 := by kernel_rfl, f11 := by kernel_rfl, f15 := by kernel_rfl, f21 := by kernel_rfl, f25 := by kernel_rfl, f30 := by kernel_rfl, f34 := by kernel_rfl, f37 := by kernel_rfl, f39 := by kernel_rfl, f45 := by kernel_rfl, f145 := by kernel_rfl, f126 := by kernel_rfl, f71 := by kernel_rfl, f72 := by kernel_rfl, f74 := by kernel_rfl, f76 := by kernel_rfl, f77 := by kernel_rfl, f78 := by kernel_rfl, f102 := by kernel_rfl, f103 := by kernel_rfl, f104 := by kernel_rfl, f107 := by kernel_rfl, f109 := by kernel_rfl, f110 := by kernel_rfl, f128 := by kernel_rfl, f129 := by kernel_rfl, f130 := by kernel_rfl, f131 := by kernel_rfl, f136 := by kernel_rfl, f154 := by kernel_rfl, f158 := by kernel_rfl, f159 := by kernel_rfl, f178 := by kernel_rfl, f180 := by kernel_rfl, f183 := by kernel_rfl, f190 := by kernel_rfl, f191 := by kernel_rfl, f156 := by kernel_rfl, f160 := by kernel_rfl, f181 := by kernel_rfl, f161 := by kernel_rfl, f162 := by kernel_rfl, f163 := by kernel_rfl, f164 := by kernel_rfl, f165 := by kernel_rfl, f169 := by kernel_rfl, f171 := by kernel_rfl, f172 := by kernel_rfl, f174 := by kernel_rfl, f176 := by kernel_rfl, f184 := by kernel_rfl, f185 := by kernel_rfl, f48 := rfl, o48 := orcB_48, f146 := rfl, f105 := rfl, o146 := orcB_146, o105 := orcB_105, s105 := orsB_105 }
theorem own : ownKnob Try.prog.godebug = none := by kernel_rfl
theorem laidOut : laidOutB Try.prog = true := by kernel_rfl
theorem typed (avs : List AV) (h : ArgsOk X.T [42, 42] avs) : Pus prog 149 avs (.b true) := by
  match avs, h with
  | [a, b], ⟨h1, h2, _⟩ =>
    obtain ⟨l, rfl, _, hl⟩ := ArgOk.isLs ⟨_, rfl, rfl, rfl⟩ (szPan tyPan) (HasC.isPan tyPan) h1
    obtain ⟨m, rfl, _, hm⟩ := ArgOk.isLs ⟨_, rfl, rfl, rfl⟩ (szPan tyPan) (HasC.isPan tyPan) h2
    exact law149 has rfl (fun p hp => ⟨(hl p hp).tag, (hl p hp).value, (hl p hp).flags⟩) fun p hp => ⟨(hm p hp).tag, (hm p hp).value, (hm p hp).flags⟩

set_option maxRecDepth 100000 in
theorem lifted (os : Os) (started : os.Started) (H : Type) (enc : TypeId × Value → H) :
    ReturnsInHanded {} Try.checked os 4 .any (Rows.chaintextJoinedSpec.pre6 enc Try.prog Try.f4 Rows.chaintextJoinedRow.domain false) (Rows.chaintextJoinedSpec.post enc Try.prog Try.f4 false true false false) := by
  refine returnsInHanded_of_change (C := Try.checked) own started (by kernel_rfl) Try.func4
    (ChangeSpec.witness6 (enc := enc) (C := Try.checked) false ⟨#[], #[.slice none 0 0, .slice none 0 0], []⟩ 8 (by kernel_rfl) (by kernel_rfl) (by kernel_rfl) (by kernel_rfl)) ?_
  intro W base args ds gs before hval0 hW hcnd _
  have hval : ∀ (j : Nat) t v, Try.f4.params[j]? = some t → args[j]? = some v → Value.okWide Try.prog W .any base t v := hval0
  have hW' := hW
  obtain ⟨p, q, hA0, hV, rfl, hfz, hnd⟩ := hW
  have hA : DataW.TrodAll enc Try.prog W 0 (fun _ => true) true Try.f4.params.toList args.toList ds p := hA0
  rw [Try.params4] at hA hval
  obtain ⟨rfl, rfl⟩ := trodVars_none hV
  obtain ⟨avs, hR, hok⟩ := args_read at_.T at_.types (ts := [42, 42]) (by decide) (fun j t v h1 h2 => hval j t v (by simpa using h1) (by simpa using h2)) hA
  have hlt := args_lt hA
  have hlen := trod_len hA
  refine (law_calls at_ (f := 4) (c := 149) rfl (ok149.enters _ _) hR (typed avs hok)).mono fun e W' ⟨he, bel⟩ => ?_
  subst he
  have hB := args_below laidOut bel (by kernel_rfl) hA hlt
  obtain ⟨d0, d1, rfl⟩ := ds2 hlen
  exact ⟨_, rfl, _, _, _, [], _, [], hW', trodAll_mk1 (shut_bool Try.underlying4 _), hB, rfl, bel.frame _, fun h => by cases h⟩

theorem over : Rows.chaintextJoinedRow.holds Try.pinned (OpenSpec.ofChange Rows.chaintextJoinedSpec) :=
  OpenClaim.holds_of_wide 4 Try.f4 rfl rfl rfl rfl rfl rfl rfl ⟨rfl, rfl, rfl, rfl, rfl⟩ rfl rfl rfl rfl rfl (by kernel_rfl) Try.func4 (by kernel_rfl)
    (of_decide_eq_true (by kernel_rfl)) (by unfold Func.isWrapper; rw [if_neg (of_decide_eq_false (by kernel_rfl))]; exact ⟨rfl, rfl⟩)
    (fun os started H enc _ => lifted os started H enc)

/-- The statement. -/
theorem proved : Rows.ChaintextJoinedSaid := over
#print axioms proved
end Go.Proofs.Ytffbkdcgkhbpoaa.ChaintextJoinedProof
