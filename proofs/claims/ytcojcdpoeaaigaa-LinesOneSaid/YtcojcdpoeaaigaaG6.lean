/- The statement LinesOne: for every input the law returns true, and each argument reads afterwards as before. No conditions. -/
import Derived.Test.YtcojcdpoeaaigaaG2
import Derived.Test.YtcojcdpoeaaigaaG5
import Derived.Test.YtcojcdpoeaaigaaG3
import Derived.Test.YtcojcdpoeaaigaaG4
set_option linter.all false
/- Parts of the proof. -/
namespace Go.AM
open Go
def isD (c : UInt8) : Bool := decide (48 ≤ c.toNat) && decide (c.toNat ≤ 57)
def digN : Bytes → Nat
  | [] => 0
  | c :: s => if isD c = true then 1 + digN s else 0
def numN (s : Bytes) : Nat := if s.head? = some 45 then 1 + digN (s.drop 1) else digN s
theorem digN_le : ∀ s : Bytes, digN s ≤ s.length
  | [] => Nat.le_refl _
  | c :: s => by
    have := digN_le s
    rw [digN, List.length_cons]
    split <;> omega
theorem numN_le (s : Bytes) : numN s ≤ s.length := by
  unfold numN
  cases s with
  | nil => simp [digN]
  | cons c s =>
    have h1 := digN_le s
    have h2 := digN_le (c :: s)
    split
    · simp only [List.drop_succ_cons, List.drop_zero, List.length_cons]; omega
    · exact h2
def qs : Bytes → Option Nat
  | [] => none
  | c :: r => if c = 92 then (match r with | [] => none | _ :: r' => (qs r').map (· + 2)) else if c = 34 then some 1 else (qs r).map (· + 1)
def scNum (s : Bytes) : Int × Bool × Bytes := ((unnum (s.take (numN s))).1, decide ((unnum (s.take (numN s))).2 = 0), s.drop (numN s))
def scQ (s : Bytes) : Bytes × Bool × Bytes := match qs (s.drop 1) with
  | none => ([], false, s)
  | some k => ((unquo (s.take (k + 1))).1, decide ((unquo (s.take (k + 1))).2 = 0), s.drop (k + 1))
def scG (f : Bytes → Val × Bool × Bytes) (kind : Int) (stop : Bytes) : Nat → List Val → Bytes → Val × Bool × Bytes
  | 0, acc, s => (Val.mk kind 0 [] acc false, false, s)
  | k + 1, acc, s => if (f s).2.1 = false then (Val.mk kind 0 [] acc false, false, (f s).2.2) else
      if (cutp stop (f s).2.2).2 = true then (Val.mk kind 0 [] (acc ++ [(f s).1]) false, true, (cutp stop (f s).2.2).1) else
      if (cutp [44, 32] (cutp stop (f s).2.2).1).2 = false then (Val.mk kind 0 [] (acc ++ [(f s).1]) false, false, (cutp [44, 32] (cutp stop (f s).2.2).1).1) else
      scG f kind stop k (acc ++ [(f s).1]) (cutp [44, 32] (cutp stop (f s).2.2).1).1
def scL (f : Bytes → Val × Bool × Bytes) (kind : Int) (stop s : Bytes) : Val × Bool × Bytes :=
  if (cutp stop s).2 = true then (Val.mk kind 0 [] [] false, true, (cutp stop s).1) else scG f kind stop 17 [] (cutp stop s).1
def scV : Nat → Bytes → Val × Bool × Bytes
  | 0, s => (vz, false, s)
  | d + 1, s => if s = [] then (vz, false, s) else
      if (cutp tTrue s).2 = true then (Val.mk 1 1 [] [] false, true, (cutp tTrue s).1) else
      if (cutp tFalse s).2 = true then (Val.mk 1 0 [] [] false, true, (cutp tFalse s).1) else
      if (cutp tNil s).2 = true then (Val.mk 4 0 [] [] false, true, (cutp tNil s).1) else
      if (cutp tCutP s).2 = true then (Val.mk 4 0 [] [] true, true, (cutp tCutP s).1) else
      if (cutp tCutS s).2 = true then (Val.mk 7 0 [] [] true, true, (cutp tCutS s).1) else
      if (cutp [38] s).2 = true then (Val.mk 4 0 [] [(scV d (cutp [38] s).1).1] false, (scV d (cutp [38] s).1).2) else
      if (cutp [123] s).2 = true then scL (scV d) 5 [125] (cutp [123] s).1 else
      if (cutp [91] s).2 = true then scL (scV d) 6 [93] (cutp [91] s).1 else
      if (cutp [60] s).2 = true then scL (scV d) 7 [62] (cutp [60] s).1 else
      if s.head? = some 34 then (Val.mk 3 0 (scQ s).1 [] false, (scQ s).2) else
      (Val.mk 2 (scNum s).1 [] [] false, (scNum s).2)
theorem cutp_no {p s : Bytes} (h : (cutp p s).2 = false) : (cutp p s).1 = s := by
  unfold cutp at h ⊢
  split
  · rename_i h1; rw [if_pos h1] at h; cases h
  · rfl
theorem cutp_app (p s : Bytes) : cutp p (p ++ s) = (s, true) := by
  unfold cutp
  rw [if_pos (by simp), List.drop_left]
theorem cutp_head {c d : UInt8} {p s : Bytes} (h : c ≠ d) : cutp (c :: p) (d :: s) = (d :: s, false) := by
  unfold cutp
  rw [if_neg]
  simp only [List.length_cons, List.take_succ_cons, List.cons.injEq]
  rintro ⟨rfl, _⟩
  exact h rfl
theorem cutp_cons (c : UInt8) (p s : Bytes) : cutp (c :: p) (c :: s) = if (cutp p s).2 = true then ((cutp p s).1, true) else (c :: s, false) := by
  unfold cutp
  simp only [List.length_cons, List.take_succ_cons, List.cons.injEq, true_and, List.drop_succ_cons]
  split <;> simp_all
theorem unnum_rng (s : Bytes) : -9223372036854775808 ≤ (unnum s).1 ∧ (unnum s).1 < 9223372036854775808 := by
  have h1 := rd_le 10 9223372036854775808 (s.drop 1)
  have h2 := rd_le 10 9223372036854775807 s
  unfold unnum
  split
  · exact ⟨by decide, by decide⟩
  split
  · split
    · exact ⟨by decide, by decide⟩
    · dsimp only
      omega
  · dsimp only
    omega
theorem Wf.ite {c : Prop} [Decidable c] {a b : Val × Bool × Bytes} (ha : Wf a.1) (hb : Wf b.1) : Wf (if c then a else b).1 := by
  split
  · exact ha
  · exact hb
theorem scG_wf {f : Bytes → Val × Bool × Bytes} {kind : Int} {stop : Bytes} (hk : 0 ≤ kind ∧ kind < 256) (hf : ∀ s, Wf (f s).1) : ∀ (n : Nat) (acc : List Val) (s : Bytes), n ≤ 17 → acc.length + n = 17 → (∀ x ∈ acc, Wf x) → Wf (scG f kind stop n acc s).1
  | 0, acc, s, _, hl, h => by
    rw [scG]
    exact .mk hk (by decide) (by omega) h
  | n + 1, acc, s, hn, hl, h => by
    have h1 : ∀ x ∈ acc ++ [(f s).1], Wf x := by
      intro x hx
      rcases List.mem_append.1 hx with hx | hx
      · exact h x hx
      · rw [List.mem_singleton.1 hx]; exact hf s
    rw [scG]
    split
    · exact .mk hk (by decide) (by omega) h
    · split
      · exact .mk hk (by decide) (by simp; omega) h1
      · split
        · exact .mk hk (by decide) (by simp; omega) h1
        · exact scG_wf hk hf n _ _ (by omega) (by simp; omega) h1
theorem scL_wf {f : Bytes → Val × Bool × Bytes} {kind : Int} {stop s : Bytes} (hk : 0 ≤ kind ∧ kind < 256) (hf : ∀ s, Wf (f s).1) : Wf (scL f kind stop s).1 := by
  unfold scL
  split
  · exact .mk hk (by decide) (by decide) (by simp)
  · exact scG_wf hk hf 17 [] _ (by omega) rfl (by simp)
theorem scV_wf : ∀ (d : Nat) (s : Bytes), Wf (scV d s).1
  | 0, s => Wf.zero
  | d + 1, s => by
    have w0 : ∀ (k n : Int) (c : Bool), 0 ≤ k ∧ k < 256 → -9223372036854775808 ≤ n ∧ n < 9223372036854775808 → Wf (Val.mk k n [] [] c) := fun k n c h1 h2 => .mk h1 h2 (by decide) (by simp)
    rw [scV]
    exact .ite Wf.zero (.ite (w0 _ _ _ (by decide) (by decide)) (.ite (w0 _ _ _ (by decide) (by decide)) (.ite (w0 _ _ _ (by decide) (by decide)) (.ite (w0 _ _ _ (by decide) (by decide)) (.ite (w0 _ _ _ (by decide) (by decide))
      (.ite (.mk (by decide) (by decide) (by simp) (fun x hx => by rw [List.mem_singleton.1 hx]; exact scV_wf d _)) (.ite (scL_wf (by decide) (scV_wf d)) (.ite (scL_wf (by decide) (scV_wf d)) (.ite (scL_wf (by decide) (scV_wf d))
      (.ite (.mk (by decide) (by decide) (by simp) (by simp)) (.mk (by decide) (unnum_rng _) (by simp) (by simp))))))))))))
def Stop (r : Bytes) : Prop := ∀ c, r.head? = some c → c = 44 ∨ c = 125 ∨ c = 93 ∨ c = 62
theorem Stop.notD {r : Bytes} (h : Stop r) : digN r = 0 := by
  cases r with
  | nil => rfl
  | cons c r =>
    rw [digN, if_neg]
    rcases h c rfl with rfl | rfl | rfl | rfl <;> decide
theorem digN_all : ∀ (s r : Bytes), (∀ c ∈ s, isD c = true) → digN r = 0 → digN (s ++ r) = s.length
  | [], r, _, h => h
  | c :: s, r, hs, h => by
    rw [List.cons_append, digN, if_pos (hs c List.mem_cons_self), digN_all s r (fun c hc => hs c (List.mem_cons_of_mem _ hc)) h, List.length_cons]
    omega
theorem hexd_isD : ∀ n : Fin 10, isD (hexd n.val) = true := by decide
theorem ds_isD : ∀ (f n : Nat), ∀ c ∈ ds 10 f n, isD c = true
  | 0, n, c, h => by simp [ds] at h
  | f + 1, n, c, h => by
    rw [ds] at h
    split at h
    · rename_i hn
      rw [List.mem_singleton.1 h]
      exact hexd_isD ⟨n, hn⟩
    · rcases List.mem_append.1 h with h | h
      · exact ds_isD f _ c h
      · rw [List.mem_singleton.1 h]
        exact hexd_isD ⟨n % 10, Nat.mod_lt _ (by decide)⟩
theorem isD_ne {c : UInt8} {l : List UInt8} (h : isD c = true) (hl : (l.all fun x => !isD x) = true) : c ∉ l := by
  intro hc
  have := List.all_eq_true.1 hl c hc
  rw [h] at this
  cases this
theorem num_head (n : Int) : ∃ c r, num n = c :: r ∧ (c = 45 ∨ isD c = true) := by
  have hd : ∀ n, ∃ c r, digs 10 n = c :: r ∧ isD c = true := by
    intro n
    have h1 := digs_ne 10 n
    have h2 := ds_isD 64 n
    unfold digs at *
    cases h : ds 10 64 n with
    | nil => exact absurd h h1
    | cons c r => exact ⟨c, r, rfl, h2 c (by rw [h]; exact List.mem_cons_self)⟩
  unfold num
  split
  · exact ⟨45, _, rfl, .inl rfl⟩
  · obtain ⟨c, r, h1, h2⟩ := hd n.toNat
    exact ⟨c, r, h1, .inr h2⟩
theorem numN_num {n : Int} {r : Bytes} (hr : digN r = 0) : numN (num n ++ r) = (num n).length := by
  unfold num numN
  split
  · rw [List.cons_append, List.head?_cons, if_pos rfl, List.drop_succ_cons, List.drop_zero, List.length_cons, Nat.add_comm]
    congr 1
    exact digN_all _ r (ds_isD 64 _) hr
  · obtain ⟨c, t, h1, h2⟩ := num_head n
    rw [num, if_neg (by assumption)] at h1
    rw [if_neg]
    · exact digN_all _ r (ds_isD 64 _) hr
    rw [h1, List.cons_append, List.head?_cons]
    intro e
    injection e with e
    subst e
    rcases h2 with h2 | h2
    · have := ds_isD 64 n.toNat 45 (by show (45 : UInt8) ∈ digs 10 n.toNat; rw [h1]; exact List.mem_cons_self)
      exact absurd this (by decide)
    · exact absurd h2 (by decide)
theorem scNum_num {n : Int} {r : Bytes} (h1 : -9223372036854775808 ≤ n) (h2 : n < 9223372036854775808) (hr : digN r = 0) : scNum (num n ++ r) = (n, true, r) := by
  unfold scNum
  rw [numN_num hr, List.take_left, List.drop_left, unnum_num h1 h2]
  rfl
theorem qs_chrs : ∀ (s r : Bytes), qs (chrs s ++ 34 :: r) = some ((chrs s).length + 1)
  | [], r => by
    show qs (34 :: r) = some 1
    rw [qs.eq_def]
    simp
  | c :: s, r => by
    have ih := qs_chrs s r
    have e : chrs (c :: s) = chr c ++ chrs s := rfl
    have hx : ∀ k : Fin 16, hexd k.val ≠ 92 ∧ hexd k.val ≠ 34 := by decide
    rw [e, List.append_assoc]
    unfold chr
    split
    · rw [List.cons_append, List.cons_append, List.nil_append, qs.eq_def]
      simp only [if_true, ih, Option.map_some, List.length_append, List.length_cons, List.length_nil]
      congr 1
      omega
    · rename_i h1
      split
      · rw [List.cons_append, List.cons_append, List.nil_append, qs.eq_def]
        simp only [if_true, ih, Option.map_some, List.length_append, List.length_cons, List.length_nil]
        congr 1
        omega
      · split
        · have hc := c.toNat_lt
          obtain ⟨a1, a2⟩ := hx ⟨c.toNat / 16, by omega⟩
          obtain ⟨b1, b2⟩ := hx ⟨c.toNat % 16, by omega⟩
          simp only at a1 a2 b1 b2
          rw [List.cons_append, List.cons_append, List.cons_append, List.cons_append, List.nil_append, qs.eq_def]
          simp only [if_true]
          rw [qs.eq_def]
          simp only [if_neg a1, if_neg a2]
          rw [qs.eq_def]
          simp only [if_neg b1, if_neg b2, ih, Option.map_some, List.length_append, List.length_cons, List.length_nil]
          congr 1
          omega
        · have c1 : c ≠ 92 := by rintro rfl; exact h1 (.inr rfl)
          have c2 : c ≠ 34 := by rintro rfl; exact h1 (.inl rfl)
          rw [List.cons_append, List.nil_append, qs.eq_def]
          simp only [if_neg c1, if_neg c2, ih, Option.map_some, List.length_append, List.length_cons, List.length_nil]
          congr 1
          omega
theorem scQ_quo {s r : Bytes} (h : s.length ≤ 400) : scQ (quo s ++ r) = (s, true, r) := by
  have e : quo s ++ r = 34 :: (chrs s ++ 34 :: r) := by simp [quo]
  have e2 : (quo s).length = (chrs s).length + 1 + 1 := by simp [quo]
  unfold scQ
  rw [show (quo s ++ r).drop 1 = chrs s ++ 34 :: r by rw [e]; rfl, qs_chrs]
  simp only
  rw [← e2, List.take_left, List.drop_left, unquo_quo h]
  rfl
end Go.AM

/- Parts of the proof. -/
namespace Go.AM
open Go
theorem txt_head (v : Val) : ∃ c t, txt v = c :: t ∧ (c ∈ ([116, 102, 110, 38, 60, 123, 91, 34, 45] : Bytes) ∨ isD c = true) := by
  rw [txt_eq]
  have h1 := num_head v.int
  repeat' split
  all_goals first
    | (obtain ⟨c, t, h2, h3⟩ := h1
       refine ⟨c, t, h2, ?_⟩
       rcases h3 with rfl | h3
       · exact .inl (by decide)
       · exact .inr h3)
    | exact ⟨_, _, rfl, .inl (by decide)⟩
theorem txt_head_ne {v : Val} {e : UInt8} (he : (e = 46 ∨ e = 125 ∨ e = 93 ∨ e = 62 ∨ e = 44)) (p r : Bytes) : (cutp (e :: p) (txt v ++ r)) = (txt v ++ r, false) := by
  obtain ⟨c, t, h1, h2⟩ := txt_head v
  rw [h1, List.cons_append]
  refine cutp_head ?_
  rintro rfl
  rcases h2 with h2 | h2
  · rcases he with rfl | rfl | rfl | rfl | rfl <;> exact absurd h2 (by decide)
  · rcases he with rfl | rfl | rfl | rfl | rfl <;> exact absurd h2 (by decide)
section
variable {f : Bytes → Val × Bool × Bytes} {kind : Int} {e : UInt8}
theorem scG_txts (he : e = 125 ∨ e = 93 ∨ e = 62) : ∀ (l : List Val) (x : Val) (acc : List Val) (n : Nat) (r : Bytes), (∀ y ∈ x :: l, ∀ r, Stop r → f (txt y ++ r) = (y, true, r)) → l.length < n → scG f kind [e] n acc (txts (x :: l) ++ e :: r) = (Val.mk kind 0 [] (acc ++ x :: l) false, true, r)
  | l, x, acc, 0, r, hf, hn => absurd hn (Nat.not_lt_zero _)
  | [], x, acc, n + 1, r, hf, hn => by
    have hs : Stop (e :: r) := by intro c hc; injection hc with hc; subst hc; rcases he with h | h | h <;> simp [h]
    have h1 := hf x List.mem_cons_self (e :: r) hs
    have h2 : cutp [e] (e :: r) = (r, true) := cutp_app [e] r
    rw [txts_one, scG]
    simp only [h1, h2, Bool.true_eq_false, if_false, if_true]
  | y :: l, x, acc, n + 1, r, hf, hn => by
    have e1 : txts (x :: y :: l) ++ e :: r = txt x ++ (44 :: 32 :: (txts (y :: l) ++ e :: r)) := by simp [txts, txtl]
    have hs : Stop (44 :: 32 :: (txts (y :: l) ++ e :: r)) := by intro c hc; injection hc with hc; subst hc; exact .inl rfl
    have h1 := hf x List.mem_cons_self _ hs
    have hne : e ≠ 44 := by rcases he with rfl | rfl | rfl <;> decide
    have h2 : cutp [e] (44 :: 32 :: (txts (y :: l) ++ e :: r)) = (44 :: 32 :: (txts (y :: l) ++ e :: r), false) := cutp_head hne
    have h3 : cutp [44, 32] (44 :: 32 :: (txts (y :: l) ++ e :: r)) = (txts (y :: l) ++ e :: r, true) := cutp_app [44, 32] _
    have ih := scG_txts he l y (acc ++ [x]) n r (fun z hz => hf z (List.mem_cons_of_mem _ hz)) (by simp only [List.length_cons] at hn; omega)
    rw [e1, scG]
    simp only [h1, h2, h3, Bool.true_eq_false, Bool.false_eq_true, if_false]
    rw [ih, List.append_assoc]
    rfl
theorem scL_txts (he : e = 125 ∨ e = 93 ∨ e = 62) (l : List Val) (r : Bytes) (hf : ∀ y ∈ l, ∀ r, Stop r → f (txt y ++ r) = (y, true, r)) (hn : l.length ≤ 16) : scL f kind [e] (txts l ++ e :: r) = (Val.mk kind 0 [] l false, true, r) := by
  unfold scL
  cases l with
  | nil =>
    have h2 : cutp [e] (txts [] ++ e :: r) = (r, true) := cutp_app [e] r
    simp only [h2, if_true]
  | cons x l =>
    have h2 : cutp [e] (txts (x :: l) ++ e :: r) = (txts (x :: l) ++ e :: r, false) := by
      rw [txts, List.append_assoc]
      exact txt_head_ne (by rcases he with h | h | h <;> simp [h]) _ _
    simp only [h2, Bool.false_eq_true, if_false]
    exact scG_txts he l x [] 17 r hf (by simp only [List.length_cons] at hn; omega)
end
theorem txts_head {l : List Val} {e : UInt8} {p r : Bytes} : (cutp (46 :: p) (txts l ++ 62 :: r)).2 = false := by
  cases l with
  | nil => rw [show txts [] ++ 62 :: r = 62 :: r from rfl, cutp_head (by decide)]
  | cons x l => rw [txts, List.append_assoc, txt_head_ne (.inl rfl)]
theorem len0 {α : Type} {l : List α} (h : l.length = 0) : l = [] := List.length_eq_zero_iff.1 h
theorem scV_txt : ∀ (d : Nat) (v : Val), okv d v = true → Wf v → ∀ r, Stop r → scV d (txt v ++ r) = (v, true, r)
  | 0, v, h, _, r, hr => by cases h
  | d + 1, v, h, hw, r, hr => by
    have h1 := okv_head h
    have h2 := okv_sub h
    have ih : ∀ y ∈ v.list, ∀ r, Stop r → scV d (txt y ++ r) = (y, true, r) := fun y hy => scV_txt d y (h2 y hy) (hw.e y hy)
    have hn := hw.n
    have hne : ∀ x : Bytes, ¬(txt v ++ x = []) := fun x e => txt_ne v (List.append_eq_nil_iff.1 e).1
    clear h h2 hw
    cases v with
    | mk k n s l c =>
    unfold Val.okh Okh at h1
    simp only [Val.kind_mk, Val.int_mk, Val.text_mk, Val.list_mk, Val.cut_mk] at h1 ih hn
    have ht := hne r
    rw [scV, if_neg ht]
    clear ht hne
    have nohead : ∀ {a b : UInt8} {p t : Bytes}, a ≠ b → (cutp (a :: p) (b :: t)).2 = false := fun h => by rw [cutp_head h]
    rcases h1 with ⟨rfl, a1, a2, a3, a4⟩ | ⟨rfl, a1, a2, a3⟩ | ⟨rfl, a1, a2, rfl, a4⟩ | ⟨rfl, rfl, a1, a2, a3⟩ | ⟨rfl, rfl, a1, a2, a3⟩ | ⟨rfl, rfl, a1, a2, a3, a4⟩ | ⟨rfl, rfl, a1, a2, a3⟩
    · have := len0 a1; have := len0 a3; subst l; subst s
      have : c = false := by cases c; rfl; cases a2
      subst c
      rcases a4 with rfl | rfl
      · rw [show txt (Val.mk 1 0 [] [] false) = tFalse from rfl, show tFalse ++ r = 102 :: ([97, 108, 115, 101] ++ r) from rfl, tTrue, if_neg (by rw [nohead (by decide)]; decide)]
        have := cutp_app tFalse r
        rw [show tFalse ++ r = 102 :: ([97, 108, 115, 101] ++ r) from rfl] at this
        rw [if_pos (by rw [this]), this]
      · rw [show txt (Val.mk 1 1 [] [] false) = tTrue from rfl, if_pos (by rw [cutp_app]), cutp_app]
    · have := len0 a1; have := len0 a3; subst l; subst s
      have : c = false := by cases c; rfl; cases a2
      subst c
      rw [show txt (Val.mk 2 n [] [] false) = num n from rfl]
      have hd := scNum_num (r := r) hn.1 hn.2 hr.notD
      obtain ⟨x, t, h3, h4⟩ := num_head n
      rw [h3] at hd ⊢
      rw [List.cons_append] at hd ⊢
      have hx : ∀ y : UInt8, y ∈ ([116, 102, 110, 38, 60, 123, 91, 34] : Bytes) → y ≠ x := by
        rintro y hy rfl
        rcases h4 with rfl | h4
        · exact absurd hy (by decide)
        · exact isD_ne h4 (by decide) hy
      rw [tTrue, if_neg (by rw [nohead (hx _ (by decide))]; decide), tFalse, if_neg (by rw [nohead (hx _ (by decide))]; decide), tNil, if_neg (by rw [nohead (hx _ (by decide))]; decide), tCutP, if_neg (by rw [nohead (hx _ (by decide))]; decide), tCutS, if_neg (by rw [nohead (hx _ (by decide))]; decide),
        if_neg (by rw [nohead (hx _ (by decide))]; decide), if_neg (by rw [nohead (hx _ (by decide))]; decide), if_neg (by rw [nohead (hx _ (by decide))]; decide), if_neg (by rw [nohead (hx _ (by decide))]; decide),
        if_neg (by rw [List.head?_cons]; intro e; injection e with e; exact hx 34 (by decide) e.symm), hd]
    · have := len0 a1; subst l
      have : c = false := by cases c; rfl; cases a2
      subst c
      rw [show txt (Val.mk 3 0 s [] false) = quo s from rfl]
      have hd := scQ_quo (s := s) (r := r) (by omega)
      rw [show quo s ++ r = 34 :: (chrs s ++ [34] ++ r) from rfl] at hd ⊢
      rw [tTrue, if_neg (by rw [nohead (by decide)]; decide), tFalse, if_neg (by rw [nohead (by decide)]; decide), tNil, if_neg (by rw [nohead (by decide)]; decide), tCutP, if_neg (by rw [nohead (by decide)]; decide), tCutS, if_neg (by rw [nohead (by decide)]; decide),
        if_neg (by rw [nohead (by decide)]; decide), if_neg (by rw [nohead (by decide)]; decide), if_neg (by rw [nohead (by decide)]; decide), if_neg (by rw [nohead (by decide)]; decide), List.head?_cons, if_pos rfl, hd]
    · have := len0 a1; subst s
      cases c with
      | true =>
        have := len0 (a3.resolve_left (by decide)); subst l
        have e := cutp_app tCutP r
        rw [show txt (Val.mk 4 0 [] [] true) = tCutP from rfl]
        rw [show tCutP ++ r = 38 :: ([46, 46, 46] ++ r) from rfl] at e ⊢
        rw [tTrue, if_neg (by rw [nohead (by decide)]; decide), tFalse, if_neg (by rw [nohead (by decide)]; decide), tNil, if_neg (by rw [nohead (by decide)]; decide), if_pos (by rw [e]), e]
      | false =>
        match l, a2 with
        | [], _ =>
          have e := cutp_app tNil r
          rw [show txt (Val.mk 4 0 [] [] false) = tNil from rfl]
          rw [show tNil ++ r = 110 :: ([105, 108] ++ r) from rfl] at e ⊢
          rw [tTrue, if_neg (by rw [nohead (by decide)]; decide), tFalse, if_neg (by rw [nohead (by decide)]; decide), if_pos (by rw [e]), e]
        | [w], _ =>
          rw [show txt (Val.mk 4 0 [] [w] false) = 38 :: txts [w] from rfl, txts_one, List.cons_append]
          have e : cutp [38] (38 :: (txt w ++ r)) = (txt w ++ r, true) := cutp_app [38] _
          have e2 : (cutp tCutP (38 :: (txt w ++ r))).2 = false := by rw [tCutP, cutp_cons, txt_head_ne (.inl rfl)]; rfl
          rw [tTrue, if_neg (by rw [nohead (by decide)]; decide), tFalse, if_neg (by rw [nohead (by decide)]; decide), tNil, if_neg (by rw [nohead (by decide)]; decide), if_neg (by rw [e2]; decide), tCutS, if_neg (by rw [nohead (by decide)]; decide), if_pos (by rw [e]), e]
          simp only
          rw [ih w List.mem_cons_self r hr]
    · have := len0 a1; subst s
      have : c = false := by cases c; rfl; cases a3
      subst c
      rw [show txt (Val.mk 5 0 [] l false) = 123 :: (txts l ++ [125]) from rfl]
      have e0 : 123 :: (txts l ++ [125]) ++ r = 123 :: (txts l ++ 125 :: r) := by simp
      have e : cutp [123] (123 :: (txts l ++ 125 :: r)) = (txts l ++ 125 :: r, true) := cutp_app [123] _
      rw [e0, tTrue, if_neg (by rw [nohead (by decide)]; decide), tFalse, if_neg (by rw [nohead (by decide)]; decide), tNil, if_neg (by rw [nohead (by decide)]; decide), tCutP, if_neg (by rw [nohead (by decide)]; decide), tCutS, if_neg (by rw [nohead (by decide)]; decide), if_neg (by rw [nohead (by decide)]; decide), if_pos (by rw [e]), e]
      exact scL_txts (.inl rfl) l r ih (by omega)
    · have := len0 a1; subst s
      have : c = false := by cases c; rfl; cases a4
      subst c
      rw [show txt (Val.mk 6 0 [] l false) = 91 :: (txts l ++ [93]) from rfl]
      have e0 : 91 :: (txts l ++ [93]) ++ r = 91 :: (txts l ++ 93 :: r) := by simp
      have e : cutp [91] (91 :: (txts l ++ 93 :: r)) = (txts l ++ 93 :: r, true) := cutp_app [91] _
      rw [e0, tTrue, if_neg (by rw [nohead (by decide)]; decide), tFalse, if_neg (by rw [nohead (by decide)]; decide), tNil, if_neg (by rw [nohead (by decide)]; decide), tCutP, if_neg (by rw [nohead (by decide)]; decide), tCutS, if_neg (by rw [nohead (by decide)]; decide), if_neg (by rw [nohead (by decide)]; decide), if_neg (by rw [nohead (by decide)]; decide), if_pos (by rw [e]), e]
      exact scL_txts (.inr (.inl rfl)) l r ih (by omega)
    · have := len0 a1; subst s
      cases c with
      | true =>
        have := len0 (a3.resolve_left (by decide)); subst l
        have e := cutp_app tCutS r
        rw [show txt (Val.mk 7 0 [] [] true) = tCutS from rfl]
        rw [show tCutS ++ r = 60 :: ([46, 46, 46, 62] ++ r) from rfl] at e ⊢
        rw [tTrue, if_neg (by rw [nohead (by decide)]; decide), tFalse, if_neg (by rw [nohead (by decide)]; decide), tNil, if_neg (by rw [nohead (by decide)]; decide), tCutP, if_neg (by rw [nohead (by decide)]; decide), if_pos (by rw [e]), e]
      | false =>
        rw [show txt (Val.mk 7 0 [] l false) = 60 :: (txts l ++ [62]) from rfl]
        have e0 : 60 :: (txts l ++ [62]) ++ r = 60 :: (txts l ++ 62 :: r) := by simp
        have e : cutp [60] (60 :: (txts l ++ 62 :: r)) = (txts l ++ 62 :: r, true) := cutp_app [60] _
        have e2 : (cutp tCutS (60 :: (txts l ++ 62 :: r))).2 = false := by
          have := txts_head (l := l) (e := 0) (p := [46, 46, 62]) (r := r)
          rw [tCutS, cutp_cons, if_neg (by rw [this]; decide)]
        rw [e0, tTrue, if_neg (by rw [nohead (by decide)]; decide), tFalse, if_neg (by rw [nohead (by decide)]; decide), tNil, if_neg (by rw [nohead (by decide)]; decide), tCutP, if_neg (by rw [nohead (by decide)]; decide), if_neg (by rw [e2]; decide), if_neg (by rw [nohead (by decide)]; decide), if_neg (by rw [nohead (by decide)]; decide), if_neg (by rw [nohead (by decide)]; decide), if_pos (by rw [e]), e]
        exact scL_txts (.inr (.inr rfl)) l r ih (by omega)
def rvs (s : Bytes) : Val × Int := if 1400000 < s.length then (vz, 4) else
  if (scV 130 s).2.1 = true ∧ (scV 130 s).2.2 = [] ∧ fine (scV 130 s).1 = true ∧ txt (scV 130 s).1 = s then ((scV 130 s).1, 0) else (vz, 12)
theorem fine_ok {v : Val} (h : fine v = true) : okv 130 v = true ∧ v.nodes ≤ 5000 := by
  simpa [fine] using h
theorem scV_fine {v : Val} (h : fine v = true) (hw : Wf v) : scV 130 (txt v) = (v, true, []) := by
  have := scV_txt 130 v (fine_ok h).1 hw [] (by intro c hc; cases hc)
  rwa [List.append_nil] at this
theorem rvs_txt {v : Val} (h : fine v = true) (hw : Wf v) : rvs (txt v) = (v, 0) := by
  have h1 := fine_len h
  unfold rvs
  rw [if_neg (by omega), scV_fine h hw, if_pos ⟨rfl, rfl, h, rfl⟩]
theorem txt_inj {v w : Val} (hv : fine v = true) (hw : fine w = true) (wv : Wf v) (ww : Wf w) (h : txt v = txt w) : v = w := by
  have h1 := rvs_txt hv wv
  rw [h, rvs_txt hw ww] at h1
  injection h1 with h1
  exact h1.symm
theorem rvs_wf (s : Bytes) : Wf (rvs s).1 := by
  unfold rvs
  split
  · exact Wf.zero
  · split
    · exact scV_wf _ _
    · exact Wf.zero
noncomputable def sameV (v w : Val) : Bool := @decide (v = w) (Classical.propDecidable _)
theorem sameV_true {v w : Val} : sameV v w = true ↔ v = w := by unfold sameV; simp
theorem sameV_rfl (v : Val) : sameV v v = true := sameV_true.2 rfl
theorem sameV_false {v w : Val} : sameV v w = false ↔ v ≠ w := by
  rw [← Bool.not_eq_true, sameV_true]
end Go.AM

/- Parts of the proof. -/
namespace Go.AM
open Go
structure Has38 (prog : Prog) : Prop extends Has03 prog, HasB prog where
  f71 : prog.fn 71 = some pf71
  f72 : prog.fn 72 = some pf72
  f74 : prog.fn 74 = some pf74
  f76 : prog.fn 76 = some pf76
  f77 : prog.fn 77 = some pf77
  f78 : prog.fn 78 = some pf78
  f102 : prog.fn 102 = some pf102
  f103 : prog.fn 103 = some pf103
  f104 : prog.fn 104 = some pf104
  f107 : prog.fn 107 = some pf107
  f109 : prog.fn 109 = some pf109
  f110 : prog.fn 110 = some pf110
  f128 : prog.fn 128 = some pf128
  f129 : prog.fn 129 = some pf129
  f130 : prog.fn 130 = some pf130
  f131 : prog.fn 131 = some pf131
  f136 : prog.fn 136 = some pf136
section
variable {prog : Prog} (H : Has38 prog)
include H
theorem c136 (v : Val) : Pus prog 136 [v.av] (.b (decide (v.list.length = 0 ∧ v.cut = false))) := by
  obtain ⟨x, rfl, h⟩ := p136 H.f136 (v0 := v) (K := fun x => x = decide (v.list.length = 0 ∧ v.cut = false)) (by
    unfold T136_0
    refine ⟨fun h => ?_, fun h => ?_⟩
    · cases v.cut
      · exact (decide_eq_true ⟨by omega, rfl⟩).symm
      · exact (decide_eq_false (by rintro ⟨_, h⟩; cases h)).symm
    · exact (decide_eq_false (by rintro ⟨h1, _⟩; omega)).symm)
  exact h
theorem c102 : ∀ (d : Nat) {v : Val}, Wf v → d ≤ 1000 → Pus prog 102 [v.av, .i .i64 (d : Int)] (.b (deepv d v))
  | 0, v, hw, hd => by
    obtain ⟨x, rfl, h⟩ := p102 H.f102 (v0 := v) (most1 := ((0 : Nat) : Int)) (K := fun x => x = deepv 0 v) (by
      unfold T102_0
      exact ⟨fun _ => rfl, fun h => absurd rfl h⟩)
    exact h
  | d + 1, v, hw, hd => by
    have ih := @c102 d
    obtain ⟨x, rfl, h⟩ := p102 H.f102 (v0 := v) (most1 := ((d + 1 : Nat) : Int)) (K := fun x => x = deepv (d + 1) v) (by
      have hm : IntKind.i64.wrap (((d + 1 : Nat) : Int) - 1) = (d : Int) := by rw [wr_i64 (by omega) (by omega)]; omega
      unfold T102_0
      refine ⟨fun h => absurd h (by omega), fun _ => ⟨fun h => ?_, fun h1 => ⟨fun h => ?_, fun h2 P hP => ?_⟩⟩⟩
      · rw [deepv, decide_eq_true (show 100 < v.text.length by omega)]; rfl
      · rw [deepv, decide_eq_true (show 400 < v.list.length by omega), Bool.or_true]; rfl
      · have e : deepv (d + 1) v = v.list.any (deepv d) := by
          rw [deepv, decide_eq_false (by omega), decide_eq_false (by omega)]; rfl
        refine loop_inv (P := fun _ i => P i v) (fun _ => ()) v.list.length (fun i => (v.list.take i).any (deepv d) = false) (by simp) (fun hI => ?_) (fun i hi hI ihP => ?_)
        · apply hP
          unfold T102_1 T102_2
          refine ⟨fun h => absurd h (by omega), fun _ => ?_⟩
          rw [List.take_length] at hI
          rw [e, hI]
        · apply hP
          unfold T102_1
          refine ⟨fun _ => ⟨by omega, _, get_at hi, _, by rw [hm]; exact ih (hw.e _ (List.getElem_mem hi)) (by omega), fun h3 => ?_, fun h3 => ?_⟩, fun h => absurd (show (i : Int) < v.list.length by omega) h⟩
          · rw [e]
            exact (List.any_eq_true.2 ⟨_, List.getElem_mem hi, h3⟩).symm
          · rw [wr_succ (by omega)]
            refine ihP ?_
            rw [List.take_succ_eq_append_getElem hi, List.any_append, hI]
            simpa using h3)
    exact h
omit H in
theorem rNs_snoc {l : List Val} {i n : Nat} (hi : i < l.length) (hn : rNs (l.take i) n ≤ 5000) : rNs (l.take (i + 1)) n = rNs (l.take i) n + rN l[i] := by
  have key : ∀ (l : List Val) (v : Val) (n : Nat), rNs l n ≤ 5000 → rNs (l ++ [v]) n = rNs l n + rN v := by
    intro l
    induction l with
    | nil => intro v n h; rw [rNs] at h; simp [rNs, h]
    | cons w l ih =>
      intro v n h
      rw [rNs] at h
      by_cases hn : n ≤ 5000
      · rw [if_pos hn] at h
        simp only [List.cons_append, rNs, if_pos hn]
        exact ih v _ h
      · rw [if_neg hn] at h
        exact absurd h hn
  rw [List.take_succ_eq_append_getElem hi, key _ _ _ hn]
omit H in
theorem rNs_stop {l : List Val} {i n : Nat} (h : 5000 < rNs (l.take i) n) : rNs l n = rNs (l.take i) n := by
  have key : ∀ (l m : List Val) (n : Nat), 5000 < rNs l n → rNs (l ++ m) n = rNs l n := by
    intro l
    induction l with
    | nil =>
      intro m n h
      rw [rNs] at h
      cases m with
      | nil => rfl
      | cons w m => simp only [List.nil_append, rNs]; rw [if_neg (by omega)]
    | cons w l ih =>
      intro m n h
      rw [rNs] at h
      simp only [List.cons_append, rNs]
      split
      · rename_i hn; rw [if_pos hn] at h; exact ih m _ h
      · rfl
  have := key (l.take i) (l.drop i) n h
  rwa [List.take_append_drop] at this
theorem c103 : ∀ (d : Nat) {v : Val}, Sm d v → d ≤ 1000 → Pus prog 103 [v.av] (.i .i64 (rN v : Int))
  | 0, v, hs, hd => hs.elim
  | d + 1, v, hs, hd => by
    have ih := @c103 d
    obtain ⟨x, rfl, h⟩ := p103 H.f103 (v0 := v) (K := fun x => x = (rN v : Int)) (by
      unfold T103_0
      intro P hP
      have e := rN_eq v
      refine loop_inv (P := fun n i => P n i v) (fun i => (rNs (v.list.take i) 1 : Int)) v.list.length (fun _ => True) trivial (fun _ => ?_) (fun i hi _ ihP => ?_)
      · apply hP
        unfold T103_1 T103_2
        refine ⟨fun h => absurd h (by omega), fun _ => ?_⟩
        rw [List.take_length, e]
      · apply hP
        unfold T103_1 T103_2
        refine ⟨fun _ => ⟨fun h => ⟨by omega, _, get_at hi, _, ih (hs.2 _ (List.getElem_mem hi)) (by omega), ?_⟩, fun h => ?_⟩, fun h => absurd (show (i : Int) < v.list.length by omega) h⟩
        · have h1 := rN_le (hs.2 _ (List.getElem_mem hi))
          have h2 := hs.1
          have h3 := rNs_snoc (l := v.list) (n := 1) hi (by omega)
          have := ihP trivial
          rw [h3] at this
          rw [wr_i64 (by omega) (by omega), wr_succ (by omega)]
          simpa using this
        · rw [e, rNs_stop (i := i) (by omega)])
    exact h
theorem c71 {v : Val} (hw : Wf v) : Pus prog 71 [v.av] (.b (greatv v)) := by
  obtain ⟨x, rfl, h⟩ := p71 H.f71 (v0 := v) (K := fun x => x = greatv v) (by
    unfold T71_0 greatv
    refine ⟨_, c102 H 14 hw (by decide), fun h => by rw [h]; rfl, fun h => ⟨_, c103 H 14 (deepv_sm h) (by decide), ?_⟩⟩
    rw [h, Bool.false_or]
    exact decide_eq_decide.2 (by omega))
  exact h
end
end Go.AM

/- Parts of the proof. -/
namespace Go.AM
open Go
theorem bAnd1 (n : Int) : bAnd .i64 n 1 = n % 2 := by
  unfold bAnd
  have h1 : (BitVec.ofInt IntKind.i64.bits n &&& BitVec.ofInt IntKind.i64.bits 1).toNat = (n % 2).toNat := by
    show (BitVec.ofInt 64 n &&& BitVec.ofInt 64 1).toNat = _
    rw [BitVec.toNat_and]
    have h2 : (BitVec.ofInt 64 1).toNat = 2 ^ 1 - 1 := by decide
    rw [h2, Nat.and_two_pow_sub_one_eq_mod, BitVec.toNat_ofInt]
    omega
  rw [h1, wr_i64 (by omega) (by omega)]
  omega
theorem cut_cases (v : Val) : (v.cut = true ∧ v.cut.toNat = 1) ∨ (v.cut = false ∧ v.cut.toNat = 0) := by cases v.cut <;> simp
theorem okv_succ (d : Nat) (v : Val) : okv (d + 1) v = (decide v.okh && v.list.all (okv d)) := rfl
theorem okv_no {d : Nat} {v : Val} (h : ¬v.okh) : okv (d + 1) v = false := by rw [okv_succ, decide_eq_false h]; rfl
theorem okv_yes {d : Nat} {v : Val} (h : v.okh) : okv (d + 1) v = v.list.all (okv d) := by rw [okv_succ, decide_eq_true h]; rfl
theorem okv_leaf {d : Nat} {v : Val} (h : v.list.length = 0) (p : Prop) [Decidable p] (hp : p ↔ v.okh) : decide p = okv (d + 1) v := by
  rw [okv_succ, decide_eq_decide.2 hp, show v.list.all (okv d) = true by rw [len0 h]; rfl, Bool.and_true]
section
variable {prog : Prog} (H : Has38 prog)
include H
set_option maxHeartbeats 1000000 in
theorem c110 : ∀ (d : Nat) {v : Val}, Wf v → d ≤ 1000 → Pus prog 110 [v.av, .i .i64 (d : Int)] (.b (okv d v))
  | 0, v, hw, hd => by
    obtain ⟨x, rfl, h⟩ := p110 H.f110 (v0 := v) (deep1 := ((0 : Nat) : Int)) (K := fun x => x = okv 0 v) (by
      unfold T110_0 T110_1
      exact ⟨fun _ => rfl, fun h => absurd rfl h⟩)
    exact h
  | d + 1, v, hw, hd => by
    have ih := @c110 d
    obtain ⟨x, rfl, h⟩ := p110 H.f110 (v0 := v) (deep1 := ((d + 1 : Nat) : Int)) (K := fun x => x = okv (d + 1) v) (by
      have hm : IntKind.i64.wrap (((d + 1 : Nat) : Int) - 1) = (d : Int) := by rw [wr_i64 (by omega) (by omega)]; omega
      have ht : v.text = [] ↔ v.text.length = 0 := List.length_eq_zero_iff.symm
      have no : ¬v.okh → false = okv (d + 1) v := fun h => (okv_no h).symm
      have hl := hw.l
      have lp : v.okh → ∀ P : Int → Val → Prop, (∀ (i6 : Int) (m0 : Val), T110_8 prog (fun x => x = okv (d + 1) v) P ((d + 1 : Nat) : Int) i6 m0 → P i6 m0) → P 0 v := by
        intro ho P hP
        have e := okv_yes (d := d) ho
        refine loop_inv (P := fun _ i => P i v) (fun _ => ()) v.list.length (fun i => (v.list.take i).all (okv d) = true) (by simp) (fun hI => ?_) (fun i hi hI ihP => ?_)
        · apply hP
          unfold T110_8 T110_9
          refine ⟨fun h => absurd h (by omega), fun _ => ?_⟩
          rw [List.take_length] at hI
          rw [e, hI]
        · apply hP
          unfold T110_8
          refine ⟨fun _ => ⟨by omega, _, get_at hi, _, by rw [hm]; exact ih (hw.e _ (List.getElem_mem hi)) (by omega), fun h3 => ?_, fun h3 => ?_⟩, fun h => absurd (show (i : Int) < v.list.length by omega) h⟩
          · rw [e]
            refine (List.all_eq_false.2 ⟨_, List.getElem_mem hi, ?_⟩).symm
            simpa using h3
          · rw [wr_i64 (by omega) (by omega)]
            refine ihP ?_
            rw [List.take_succ_eq_append_getElem hi, List.all_append, hI]
            simpa using h3
      have leaf : v.list.length = 0 → ∀ (p : Prop) [Decidable p], (p ↔ v.okh) → decide p = okv (d + 1) v := fun h p _ hp => okv_leaf h p hp
      have leafT : v.list.length = 0 → v.okh → true = okv (d + 1) v := fun h hp => by rw [← leaf h True (by simpa using hp)]; simp
      unfold T110_0 T110_1 T110_2 T110_3 T110_4 T110_5 T110_6 T110_7
      simp only [ht, ne_eq]
      refine ⟨fun h => absurd h (by omega), fun _ => ?_⟩
      rcases cut_cases v with ⟨hc, hcn⟩ | ⟨hc, hcn⟩
      all_goals
        refine ⟨fun _ => ⟨_, c136 H v, ?_, ?_⟩, fun _ => ⟨fun _ => ⟨_, c136 H v, ?_, ?_⟩, fun _ => ⟨fun _ => ⟨_, c136 H v, ?_, ?_⟩, ?_⟩⟩⟩
      all_goals simp only [hc, decide_eq_true_eq, decide_eq_false_iff_not, reduceCtorEq, false_imp_iff, true_imp_iff, and_true, true_and, and_false]
      all_goals repeat' first | refine ⟨fun _ => ?_, fun _ => ?_⟩ | (intro h)
      all_goals first
        | exact no (by unfold Val.okh Okh; omega)
        | exact leafT (by omega) (by unfold Val.okh Okh; omega)
        | exact leaf (by omega) _ (by unfold Val.okh Okh; omega)
        | exact lp (by unfold Val.okh Okh; omega) _ ‹_›
        | (exfalso; omega))
    exact h
end
end Go.AM

/- Parts of the proof. -/
namespace Go.AM
open Go
section
variable {prog : Prog} (H : Has38 prog)
include H
set_option maxHeartbeats 1000000 in
theorem c109 : ∀ (d : Nat) {v : Val}, Wf v → d ≤ 1000 → Pus prog 109 [v.av, .i .i64 (d : Int)] (.tup [.i .i64 (cntR d v).1, .b (cntR d v).2])
  | 0, v, hw, hd => by
    obtain ⟨x, y, ⟨rfl, rfl⟩, h⟩ := p109 H.f109 (v0 := v) (nest1 := ((0 : Nat) : Int)) (K := fun x y => x = (cntR 0 v).1 ∧ y = (cntR 0 v).2) (by
      unfold T109_0 T109_1 T109_2 T109_3 T109_4
      have : cntR 0 v = (0, false) := by unfold cntR; rw [if_neg (by rintro ⟨h, _⟩; cases h)]
      rw [this]
      repeat' first | exact ⟨rfl, rfl⟩ | refine ⟨fun _ => ?_, fun _ => ?_⟩ | (intro h)
      all_goals exact absurd rfl ‹¬((0 : Nat) : Int) = 0›)
    exact h
  | d + 1, v, hw, hd => by
    have ih := @c109 d
    obtain ⟨x, y, ⟨rfl, rfl⟩, h⟩ := p109 H.f109 (v0 := v) (nest1 := ((d + 1 : Nat) : Int)) (K := fun x y => x = (cntR (d + 1) v).1 ∧ y = (cntR (d + 1) v).2) (by
      have hm : IntKind.i64.wrap (((d + 1 : Nat) : Int) - 1) = (d : Int) := by rw [wr_i64 (by omega) (by omega)]; omega
      have ht : v.text = [] ↔ v.text.length = 0 := List.length_eq_zero_iff.symm
      have ht' : [] = v.text ↔ v.text.length = 0 := by rw [← ht]; exact eq_comm
      have cno : ¬(okv (d + 1) v = true ∧ v.nodes ≤ 5000) → cntR (d + 1) v = (0, false) := fun h => by unfold cntR; rw [if_neg h]
      have no : ¬v.okh → (0 : Int) = (cntR (d + 1) v).1 ∧ false = (cntR (d + 1) v).2 := fun h => by
        rw [cno (by rw [okv_no h]; rintro ⟨h, _⟩; cases h)]; exact ⟨rfl, rfl⟩
      have hl := hw.l
      have hn := nodes_eq v
      have lp : v.okh → ∀ P : Int → Int → Prop, (∀ (sum10 : Int) (t103 : Int), T109_5 prog (fun x y => x = (cntR (d + 1) v).1 ∧ y = (cntR (d + 1) v).2) P ((d + 1 : Nat) : Int) sum10 v.list (v.list.length : Int) t103 → P sum10 t103) → P 1 0 := by
        intro ho P hP
        have e := okv_yes (d := d) ho
        refine loop_inv (P := fun s i => P s i) (fun i => ((1 + Val.nodesL (v.list.take i) : Nat) : Int)) v.list.length (fun i => (v.list.take i).all (okv d) = true ∧ 1 + Val.nodesL (v.list.take i) ≤ 5000) (by simp [Val.nodesL]) (fun hI => ?_) (fun i hi hI ihP => ?_)
        · apply hP
          unfold T109_5 T109_6
          refine ⟨fun h => absurd h (by omega), fun _ => ?_⟩
          rw [List.take_length] at hI ⊢
          unfold cntR
          rw [if_pos ⟨by rw [e]; exact hI.1, by omega⟩, hn]
          exact ⟨rfl, rfl⟩
        · apply hP
          unfold T109_5
          have hnt := nodesL_take hi
          have hle := nodesL_le (l := v.list) (i + 1)
          refine ⟨fun _ => ⟨by omega, _, get_at hi, _, _, by rw [hm]; exact ih (hw.e _ (List.getElem_mem hi)) (by omega), ?_⟩, fun h => absurd (show (i : Int) < v.list.length by omega) h⟩
          by_cases hc : okv d v.list[i] = true ∧ v.list[i].nodes ≤ 5000
          · rw [show cntR d v.list[i] = ((v.list[i].nodes : Int), true) by unfold cntR; rw [if_pos hc]]
            refine ⟨fun h => (by cases h), fun _ => ⟨fun h => ?_, fun h => ?_⟩⟩
            · rw [wr_i64 (by omega) (by omega)] at h
              rw [cno (by omega)]
              exact ⟨rfl, rfl⟩
            · rw [wr_i64 (by omega) (by omega)] at h ⊢
              rw [wr_i64 (by omega) (by omega)]
              have := ihP ⟨by rw [List.take_succ_eq_append_getElem hi, List.all_append, hI.1]; simpa using hc.1, by omega⟩
              rw [hnt] at this
              rw [show ((1 + Val.nodesL (v.list.take i) : Nat) : Int) + (v.list[i].nodes : Int) = ((1 + (Val.nodesL (v.list.take i) + v.list[i].nodes) : Nat) : Int) by omega]
              exact this
          · rw [show cntR d v.list[i] = (0, false) by unfold cntR; rw [if_neg hc]]
            refine ⟨fun _ => ?_, fun h => (by cases h)⟩
            rw [cno (fun h => hc ⟨okv_sub h.1 _ (List.getElem_mem hi), by have := nodes_mem (List.getElem_mem hi); omega⟩)]
            exact ⟨rfl, rfl⟩
      unfold T109_0 T109_1 T109_2 T109_3 T109_4
      simp only [Val.int_mk, Val.text_mk, Val.cut_mk, Val.kind_mk, Val.list_mk, bAnd1, ht', ne_eq, not_true_eq_false, false_imp_iff, true_imp_iff, true_and, not_false_eq_true]
      rcases cut_cases v with ⟨hc, hcn⟩ | ⟨hc, hcn⟩
      all_goals simp only [hc, reduceCtorEq, false_imp_iff, true_imp_iff, not_true_eq_false, not_false_eq_true, true_and, and_true]
      all_goals repeat' first | refine ⟨fun _ => ?_, fun _ => ?_⟩ | (intro h)
      all_goals first
        | exact no (by unfold Val.okh Okh; omega)
        | exact lp (by unfold Val.okh Okh; omega) _ ‹_›
        | (exfalso; omega))
    exact h
theorem c76 {v : Val} (hw : Wf v) : Pus prog 76 [v.av] (.i .i64 (chkR v)) := by
  obtain ⟨x, rfl, h⟩ := p76 H.f76 (v0 := v) (K := fun x => x = chkR v) (by
    unfold T76_0 chkR
    refine ⟨_, _, c109 H 130 hw (by decide), ?_⟩
    unfold cntR fine
    by_cases h : okv 130 v = true ∧ v.nodes ≤ 5000
    · rw [if_pos h, if_pos (by simpa using h)]
      exact ⟨fun h => (by cases h), fun _ => rfl⟩
    · rw [if_neg h, if_neg (by simpa using h)]
      exact ⟨fun _ => rfl, fun h => (by cases h)⟩)
  exact h
theorem c77 {v : Val} (hw : Wf v) : Pus prog 77 [v.av] (.i .i64 (chkR v)) := by
  obtain ⟨x, rfl, h⟩ := p77 H.f77 (v0 := v) (K := fun x => x = chkR v) (by
    unfold T77_0 chkR fine
    refine ⟨_, c110 H 130 hw (by decide), fun h => ?_, fun h => ⟨_, c103 H 130 (okv_sm (by simpa using h)) (by decide), fun h1 => ?_, fun h1 => ?_⟩⟩
    · rw [show okv 130 v = false by simpa using h]; rfl
    · have h2 := rN_spec v
      rw [show okv 130 v = true by simpa using h, decide_eq_false (by omega)]; rfl
    · have h2 := rN_spec v
      rw [show okv 130 v = true by simpa using h, decide_eq_true (by omega)]; rfl)
  exact h
end
end Go.AM

/- Parts of the proof. -/
namespace Go.AM
open Go
theorem txts_app (l m : List Val) : txts (l ++ m) = txts l ++ (if l.length = 0 then txts m else txtl m) := by
  cases l with
  | nil => simp [txts]
  | cons a l => simp [txts, txtl_app]
theorem txts_take_len (l : List Val) (i : Nat) : (txts (l.take i)).length ≤ (txts l).length := by
  have := txts_app (l.take i) (l.drop i)
  rw [List.take_append_drop] at this
  rw [this, List.length_append]
  omega
theorem quoR_ok {s : Bytes} (h : s.length ≤ 400) : quoR s = (quo s, 0) := by
  unfold quoR
  rw [if_neg (by omega)]
section
variable {prog : Prog} (H : Has38 prog)
include H
theorem show_loop {K : Int → Bytes → Prop} {l : List Val} {e0 e1 : UInt8} {b : Bytes} (hl : l.length ≤ 16) (hx : ∀ x ∈ l, ∀ b : Bytes, b.length + (txt x).length ≤ 100000000 → PuX prog 104 (Bl b) [x.av] (fun r => r = .i .i64 0) (Bl (b ++ txt x)))
    (hb : b.length + (txts l).length + 2 ≤ 100000000) (hK : K 0 (b ++ [e0] ++ txts l ++ [e1])) : ∀ P0 : Int → Bytes → Prop, (∀ (t22 : Int) (mP : Bytes), T104_9 prog K P0 [e0, e1] l (l.length : Int) t22 mP → P0 t22 mP) → P0 0 (b ++ [e0]) := by
  intro P hP
  have := loop_up (P := fun m i => P i m) (fun i => b ++ [e0] ++ txts (l.take i)) l.length ?_ fun i hi ihP => ?_
  · simpa [txts] using this
  · apply hP
    unfold T104_9 T104_11 T104_4
    rw [List.take_length]
    refine ⟨fun h => absurd h (by omega), fun _ => ⟨by simp, _, _, c126 H.toHasB (s := [e1]) ?_, hK⟩⟩
    rw [maxBytes_eq]; simp only [List.length_append, List.length_cons, List.length_nil]; omega
  · apply hP
    have h1 := txts_take_len l (i + 1)
    rw [txts_take hi] at h1 ihP
    simp only [List.length_append] at h1
    unfold T104_9 T104_10
    refine ⟨fun _ => ⟨by omega, _, get_at hi, fun h2 => ?_, fun h2 => ?_⟩, fun h => absurd (show (i : Int) < l.length by omega) h⟩
    · rw [if_pos (by omega)] at h1 ihP
      refine ⟨_, _, c126 H.toHasB (s := [44, 32]) ?_, _, _, hx _ (List.getElem_mem hi) _ ?_, fun h => absurd rfl h, fun _ => ?_⟩
      · rw [maxBytes_eq]; simp only [List.length_append, List.length_cons, List.length_nil]; omega
      · simp only [List.length_append, List.length_cons, List.length_nil] at h1 ⊢; omega
      · rw [wr_succ (by omega)]
        simpa using ihP
    · rw [if_neg (by omega)] at h1 ihP
      refine ⟨_, _, hx _ (List.getElem_mem hi) _ ?_, fun h => absurd rfl h, fun _ => ?_⟩
      · simp only [List.length_append, List.length_cons, List.length_nil] at h1 ⊢; omega
      · rw [wr_succ (by omega)]
        simpa using ihP
set_option maxHeartbeats 1000000 in
theorem c104 : ∀ (d : Nat) {v : Val}, okv d v = true → Wf v → ∀ b : Bytes, b.length + (txt v).length ≤ 100000000 → PuX prog 104 (Bl b) [v.av] (fun r => r = .i .i64 0) (Bl (b ++ txt v))
  | 0, v, h, _, _, _ => by cases h
  | d + 1, v, h, hw, b, hlen => by
    have h1 := okv_head h
    have h2 := okv_sub h
    have ih : ∀ x ∈ v.list, ∀ b : Bytes, b.length + (txt x).length ≤ 100000000 → PuX prog 104 (Bl b) [x.av] (fun r => r = .i .i64 0) (Bl (b ++ txt x)) := fun x hx b hb => c104 d (h2 _ hx) (hw.e _ hx) b hb
    refine (p104 H.f104 (v1 := v) (mP := b) (K := fun r b' => r = 0 ∧ b' = b ++ txt v) ?_).to fun r b' hk => ?_
    · have hB : ∀ {s : Bytes} {a : Int}, (txt v) = s → ∃ r' : Int, ∃ b'' : Bytes, PuX prog 126 (Bl b) [.s s] (fun r => r = .tup [.i .i64 r', .ni]) (Bl b'') ∧ T104_4 prog (fun r b' => r = 0 ∧ b' = b ++ txt v) b'' := by
        intro s a hs
        refine ⟨_, _, c126 H.toHasB (s := s) ?_, ?_⟩
        · rw [← hs, maxBytes_eq]; omega
        · unfold T104_4; rw [hs]; exact ⟨rfl, rfl⟩
      have hk : 1 ≤ v.kind ∧ v.kind ≤ 7 := by unfold Val.okh Okh at h1; omega
      have hn := hw.n
      rw [txt_eq] at hlen
      have ht := txt_eq v
      unfold T104_0 T104_1
      refine ⟨by omega, ?_⟩
      have hkk : v.kind = 1 ∨ v.kind = 2 ∨ v.kind = 3 ∨ v.kind = 4 ∨ v.kind = 5 ∨ v.kind = 6 ∨ v.kind = 7 := by omega
      rcases hkk with k | k | k | k | k | k | k
      all_goals rw [k]
      all_goals simp only [k, if_true, reduceCtorEq, if_false, Int.reduceEq] at ht hlen
      · refine ⟨[], rfl, ?_⟩
        unfold T104_2 T104_3 T104_5
        rw [k]
        refine ⟨fun _ => ⟨fun h => hB (a := 0) ?_, fun h => ⟨fun _ => hB (a := 0) ?_, fun h => by simp at h⟩⟩, fun h => absurd rfl h⟩
        · rw [ht, if_pos (by simpa using h)]; rfl
        · rw [ht, if_neg (by simpa using h)]; rfl
      · refine ⟨[], rfl, ?_⟩
        unfold T104_2 T104_3 T104_5 T104_6
        rw [k]
        refine ⟨fun h => absurd h (by decide), fun _ => ⟨fun h => (by cases h), fun _ => ⟨fun h => (by simp at h), fun _ => ⟨fun _ => ⟨_, c15 H.toHas03 hn.1 hn.2, hB (a := 0) ht⟩, fun h => by simp at h⟩⟩⟩⟩
      · refine ⟨[], rfl, ?_⟩
        unfold T104_2 T104_3 T104_5 T104_6 T104_7
        rw [k]
        refine ⟨fun h => absurd h (by decide), fun _ => ⟨fun h => (by cases h), fun _ => ⟨fun h => (by simp at h), fun _ => ⟨fun h => (by simp at h), fun _ => ⟨fun _ => ⟨_, _, c11 H.toHas03 v.text, ?_⟩, fun h => by simp at h⟩⟩⟩⟩⟩
        rw [quoR_ok (by unfold Val.okh Okh at h1; omega)]
        refine ⟨_, _, c126 H.toHasB (s := quo v.text) ?_, rfl, ?_⟩
        · rw [maxBytes_eq]; omega
        · rw [ht]
      · refine ⟨[], rfl, ?_⟩
        unfold T104_2 T104_3 T104_5 T104_6 T104_7 T104_8
        rw [k]
        refine ⟨fun h => absurd h (by decide), fun _ => ⟨fun h => (by cases h), fun _ => ⟨fun h => (by simp at h), fun _ => ⟨fun h => (by simp at h), fun _ => ⟨fun h => (by simp at h), fun _ => ⟨fun _ => ⟨fun hc => hB (a := 0) ?_, fun hc => ⟨fun _ => ⟨fun hl => hB (a := 0) ?_, fun hl => ⟨fun _ => ?_, fun h => absurd rfl h⟩⟩, fun h => absurd rfl h⟩⟩, fun h => absurd rfl h⟩⟩⟩⟩⟩⟩
        · rw [ht, if_pos hc]; rfl
        · rw [ht, if_neg (by rw [hc]; decide), if_pos (by omega)]; rfl
        · rw [if_neg (by rw [hc]; decide), if_neg (by omega)] at ht hlen
          have hl1 : v.list.length = 1 := by unfold Val.okh Okh at h1; omega
          obtain ⟨w, hw1⟩ := List.length_eq_one_iff.1 hl1
          rw [hw1, txts_one] at hlen ht
          simp only [List.length_cons] at hlen
          refine ⟨_, _, c126 H.toHasB (s := [38]) ?_, w, by rw [hw1]; rfl, _, _, ih w (by rw [hw1]; exact List.mem_cons_self) _ ?_, rfl, ?_⟩
          · rw [maxBytes_eq]; simp only [List.length_cons, List.length_nil]; omega
          · simp only [List.length_append, List.length_cons, List.length_nil]; omega
          · rw [ht]; simp
      · have hc : v.cut = false := by
          have : v.cut.toNat = 0 := by unfold Val.okh Okh at h1; omega
          cases hc : v.cut
          · rfl
          · rw [hc] at this; cases this
        refine ⟨[123, 125], rfl, ?_⟩
        unfold T104_2 T104_3 T104_5 T104_6 T104_7 T104_8
        rw [k]
        refine ⟨fun h => absurd h (by decide), fun _ => ⟨fun h => (by cases h), fun _ => ⟨fun h => (by simp at h), fun _ => ⟨fun h => (by simp at h), fun _ => ⟨fun h => (by simp at h), fun _ => ⟨fun h => absurd h (by decide), fun _ => ⟨fun h => (by cases h), fun _ => ⟨fun h => absurd h (by decide), fun _ => ⟨fun h => absurd h (by decide), fun _ => ⟨fun h => (by rw [hc] at h; cases h), fun _ => ⟨by decide, _, _, c126 H.toHasB (s := [123]) ?_, ?_⟩⟩⟩⟩⟩⟩⟩⟩⟩⟩⟩
        · rw [maxBytes_eq]; simp only [List.length_cons, List.length_nil, List.length_append] at hlen ⊢; omega
        · simp only [List.length_cons, List.length_nil, List.length_append] at hlen
          exact show_loop H (by unfold Val.okh Okh at h1; omega) ih (by omega) ⟨rfl, by rw [ht]; simp⟩
      · have hc : v.cut = false := by
          have : v.cut.toNat = 0 := by unfold Val.okh Okh at h1; omega
          cases hc : v.cut
          · rfl
          · rw [hc] at this; cases this
        refine ⟨[91, 93], rfl, ?_⟩
        unfold T104_2 T104_3 T104_5 T104_6 T104_7 T104_8
        rw [k]
        refine ⟨fun h => absurd h (by decide), fun _ => ⟨fun h => (by cases h), fun _ => ⟨fun h => (by simp at h), fun _ => ⟨fun h => (by simp at h), fun _ => ⟨fun h => (by simp at h), fun _ => ⟨fun h => absurd h (by decide), fun _ => ⟨fun h => (by cases h), fun _ => ⟨fun h => absurd h (by decide), fun _ => ⟨fun h => absurd h (by decide), fun _ => ⟨fun h => (by rw [hc] at h; cases h), fun _ => ⟨by decide, _, _, c126 H.toHasB (s := [91]) ?_, ?_⟩⟩⟩⟩⟩⟩⟩⟩⟩⟩⟩
        · rw [maxBytes_eq]; simp only [List.length_cons, List.length_nil, List.length_append] at hlen ⊢; omega
        · simp only [List.length_cons, List.length_nil, List.length_append] at hlen
          exact show_loop H (by unfold Val.okh Okh at h1; omega) ih (by omega) ⟨rfl, by rw [ht]; simp⟩
      · refine ⟨[60, 62], rfl, ?_⟩
        unfold T104_2 T104_3 T104_5 T104_6 T104_7 T104_8
        rw [k]
        refine ⟨fun h => absurd h (by decide), fun _ => ⟨fun h => (by cases h), fun _ => ⟨fun h => (by simp at h), fun _ => ⟨fun h => (by simp at h), fun _ => ⟨fun h => (by simp at h), fun _ => ⟨fun h => absurd h (by decide), fun _ => ⟨fun h => (by cases h), fun _ => ⟨fun h => absurd h (by decide), fun _ => ⟨fun h => absurd h (by decide), fun _ => ⟨fun hc => hB (a := 0) ?_, fun hc => ⟨by decide, _, _, c126 H.toHasB (s := [60]) ?_, ?_⟩⟩⟩⟩⟩⟩⟩⟩⟩⟩⟩
        · rw [ht, if_pos hc]; rfl
        · rw [if_neg (by rw [hc]; decide)] at hlen
          rw [maxBytes_eq]; simp only [List.length_cons, List.length_nil, List.length_append] at hlen ⊢; omega
        · rw [if_neg (by rw [hc]; decide)] at hlen ht
          simp only [List.length_cons, List.length_nil, List.length_append] at hlen
          exact show_loop H (by unfold Val.okh Okh at h1; omega) ih (by omega) ⟨rfl, by rw [ht]; simp⟩
    · obtain ⟨x0, h1, rfl, rfl⟩ := hk
      exact ⟨h1, rfl⟩
theorem c72 {v : Val} (hw : Wf v) : Pus prog 72 [v.av] (.tup [.s (if fine v = true then txt v else []), .i .i64 (chkR v)]) := by
  obtain ⟨x, y, ⟨rfl, rfl⟩, h⟩ := p72 H.f72 (v0 := v) (K := fun x y => x = (if fine v = true then txt v else []) ∧ y = chkR v) (by
    unfold T72_0
    refine ⟨_, c76 H hw, fun h => ?_, fun h => ?_⟩
    · unfold chkR at h ⊢
      by_cases hf : fine v = true
      · rw [if_pos hf] at h; exact absurd rfl h
      · rw [if_neg hf, if_neg hf]; exact ⟨rfl, rfl⟩
    · unfold chkR at h ⊢
      by_cases hf : fine v = true
      · rw [if_pos hf, if_pos hf]
        have := fine_len hf
        refine ⟨_, _, c104 H 130 (fine_ok hf).1 hw [] (by simp only [List.length_nil]; omega), fun h => absurd rfl h, fun _ => ⟨_, c105 H.toHasB (txt_ne v) (by rw [List.nil_append, maxBytes_eq]; omega), rfl, rfl⟩⟩
      · rw [if_neg hf] at h; exact absurd (by decide) h)
  exact h
end
end Go.AM

/- Parts of the proof. -/
namespace Go.AM
open Go
theorem digN_lt : ∀ {s : Bytes} {i : Nat}, i < digN s → ∃ c, s[i]? = some c ∧ isD c = true
  | [], i, h => absurd h (Nat.not_lt_zero _)
  | c :: s, 0, h => by
    rw [digN] at h
    split at h
    · rename_i hc; exact ⟨c, rfl, hc⟩
    · exact absurd h (Nat.not_lt_zero _)
  | c :: s, i + 1, h => by
    rw [digN] at h
    split at h
    · exact digN_lt (s := s) (i := i) (by omega)
    · exact absurd h (Nat.not_lt_zero _)
theorem digN_stop : ∀ {s : Bytes} {c : UInt8}, s[digN s]? = some c → isD c = false
  | [], c, h => by cases h
  | x :: s, c, h => by
    rw [digN] at h
    split at h
    · rw [Nat.add_comm, List.getElem?_cons_succ] at h
      exact digN_stop h
    · rename_i hx
      rw [List.getElem?_cons_zero] at h
      injection h with h
      subst h
      simpa using hx
theorem numN_lt {s : Bytes} {i : Nat} (h : i < numN s) : ∃ c, s[i]? = some c ∧ (isD c = true ∨ (i = 0 ∧ c = 45)) := by
  unfold numN at h
  split at h
  · rename_i h1
    cases s with
    | nil => cases h1
    | cons x s =>
      injection h1 with h1
      subst h1
      cases i with
      | zero => exact ⟨45, rfl, .inr ⟨rfl, rfl⟩⟩
      | succ i =>
        obtain ⟨c, h2, h3⟩ := digN_lt (s := s) (i := i) (by simp only [List.drop_succ_cons, List.drop_zero] at h; omega)
        exact ⟨c, h2, .inl h3⟩
  · obtain ⟨c, h2, h3⟩ := digN_lt h
    exact ⟨c, h2, .inl h3⟩
theorem numN_stop {s : Bytes} {c : UInt8} (h : s[numN s]? = some c) : isD c = false ∧ (numN s = 0 → c ≠ 45) := by
  unfold numN at *
  split at h
  · rename_i h1
    rw [if_pos h1]
    cases s with
    | nil => cases h1
    | cons x s =>
      simp only [List.drop_succ_cons, List.drop_zero] at h ⊢
      rw [Nat.add_comm, List.getElem?_cons_succ] at h
      exact ⟨digN_stop h, fun h => absurd h (by omega)⟩
  · rename_i h1
    rw [if_neg h1]
    refine ⟨digN_stop h, fun h2 => ?_⟩
    rw [h2] at h
    rintro rfl
    exact h1 (by rw [List.head?_eq_getElem?]; exact h)
theorem isD_iff {c : UInt8} : isD c = true ↔ 48 ≤ c.toNat ∧ c.toNat ≤ 57 := by unfold isD; simp
theorem isD_not {c : UInt8} : isD c = false ↔ ¬(48 ≤ c.toNat ∧ c.toNat ≤ 57) := by rw [← isD_iff]; simp
theorem qs_nil : qs [] = none := rfl
theorem qs_esc0 : qs [92] = none := rfl
theorem qs_esc (x : UInt8) (r : Bytes) : qs (92 :: x :: r) = (qs r).map (· + 2) := rfl
theorem qs_end (r : Bytes) : qs (34 :: r) = some 1 := by rw [qs.eq_def]; rfl
theorem qs_go {c : UInt8} (h1 : ¬c = 92) (h2 : ¬c = 34) (r : Bytes) : qs (c :: r) = (qs r).map (· + 1) := by
  rw [qs.eq_def]
  simp only [if_neg h1, if_neg h2]
theorem u8_45 {c : UInt8} : c = 45 ↔ c.toNat = 45 := ⟨fun h => by rw [h]; rfl, fun h => u8_eq h⟩
section
variable {prog : Prog} (H : Has38 prog)
include H
theorem c128 (p s : Bytes) : PuX prog 128 (Bx [.s s]) [.s p] (fun r => r = .b (cutp p s).2) (Bx [.s (cutp p s).1]) := by
  refine (p128 H.f128 (what1 := p) (mP := ⟨s⟩) (K := fun r b => r = (cutp p s).2 ∧ b = ⟨(cutp p s).1⟩) ?_).to (b := ⟨(cutp p s).1⟩) fun r b' hk => ?_
  · unfold T128_0
    exact ⟨_, _, c36 H.toHas03 s p, rfl, rfl⟩
  · obtain ⟨x0, h1, rfl, rfl⟩ := hk
    exact ⟨h1, rfl⟩
theorem c131 {s : Bytes} (hs : s.length ≤ 1000000000) : PuX prog 131 (Bx [.s s]) [] (fun r => r = .tup [.i .i64 (scNum s).1, .b (scNum s).2.1]) (Bx [.s (scNum s).2.2]) := by
  refine (p131 H.f131 (mP := ⟨s⟩) (K := fun x y b => x = (scNum s).1 ∧ y = (scNum s).2.1 ∧ b = ⟨(scNum s).2.2⟩) ?_).to (b := ⟨(scNum s).2.2⟩) fun r b' hk => ?_
  · unfold T131_0 T131_1
    intro P hP
    have hle := numN_le s
    refine loop_up0 (P := fun i => P i ⟨s⟩) (numN s) ?_ fun i hi ih => ?_
    · apply hP
      unfold T131_2
      have fin : 0 ≤ ((numN s : Nat) : Int) ∧ ((numN s : Nat) : Int).toNat ≤ s.length ∧ ∃ r : Int, ∃ r' : Int, Pus prog 21 [.s (s.take ((numN s : Nat) : Int).toNat)] (.tup [.i .i64 r, .i .i64 r']) ∧ 0 ≤ ((numN s : Nat) : Int) ∧ ((numN s : Nat) : Int).toNat ≤ s.length ∧ r = (scNum s).1 ∧ (decide (r' = 0)) = (scNum s).2.1 ∧ Sc.mk (s.drop ((numN s : Nat) : Int).toNat) = ⟨(scNum s).2.2⟩ := by
        rw [toNat_cast]
        exact ⟨by omega, hle, _, _, c21 H.toHas03 _, by omega, hle, rfl, rfl, rfl⟩
      refine ⟨fun h => ?_, fun _ => fin⟩
      have hlt : numN s < s.length := by simp only at h; omega
      obtain ⟨h1, h2⟩ := numN_stop (List.getElem?_eq_getElem hlt)
      have h1 := isD_not.1 h1
      have h2 : numN s = 0 → ¬(s[numN s].toNat = 45) := fun h => fun h' => h2 h (u8_45.2 h')
      refine ⟨by omega, s[numN s], get_at hlt, fun h3 => ⟨by omega, s[numN s], get_at hlt, fun h4 => absurd ⟨by omega, by omega⟩ h1, fun h4 => ⟨fun h5 => ⟨by omega, s[numN s], get_at hlt, fun h6 => absurd (show s[numN s].toNat = 45 by omega) (h2 (by omega)), fun _ => fin⟩, fun _ => fin⟩⟩,
        fun h3 => ⟨fun h5 => ⟨by omega, s[numN s], get_at hlt, fun h6 => absurd (show s[numN s].toNat = 45 by omega) (h2 (by omega)), fun _ => fin⟩, fun _ => fin⟩⟩
    · apply hP
      obtain ⟨c, hc, hd⟩ := numN_lt hi
      have hc' : s[((i : Nat) : Int).toNat]? = some c := hc
      rw [isD_iff, u8_45] at hd
      have ih' : P (IntKind.i64.wrap ((i : Int) + 1)) ⟨s⟩ := by rw [wr_succ (by omega)]; exact ih
      unfold T131_2
      refine ⟨fun _ => ⟨by omega, c, hc', fun h3 => ⟨by omega, c, hc', fun _ => ih', fun h4 => ⟨fun h5 => ⟨by omega, c, hc', fun _ => ih', fun h6 => absurd h6 (by omega)⟩, fun h5 => absurd h5 (by omega)⟩⟩,
        fun h3 => ⟨fun h5 => ⟨by omega, c, hc', fun _ => ih', fun h6 => absurd h6 (by omega)⟩, fun h5 => absurd h5 (by omega)⟩⟩, fun h => absurd (show (i : Int) < s.length by omega) h⟩
  · obtain ⟨x0, x1, h1, rfl, rfl, rfl⟩ := hk
    exact ⟨h1, rfl⟩
theorem c130 {s : Bytes} (hs : s.length ≤ 1000000000) : PuX prog 130 (Bx [.s s]) [] (fun r => r = .tup [.s (scQ s).1, .b (scQ s).2.1]) (Bx [.s (scQ s).2.2]) := by
  refine (p130 H.f130 (mP := ⟨s⟩) (K := fun x y b => x = (scQ s).1 ∧ y = (scQ s).2.1 ∧ b = ⟨(scQ s).2.2⟩) ?_).to (b := ⟨(scQ s).2.2⟩) fun r b' hk => ?_
  · unfold T130_0 T130_1
    intro P hP
    have go : ∀ m i : Nat, s.length ≤ i + m → i ≤ s.length + 1 → 1 ≤ i → qs (s.drop 1) = (qs (s.drop i)).map (· + (i - 1)) → P (i : Int) ⟨s⟩ := by
      intro m
      induction m using Nat.strongRecOn with
      | _ m ih =>
      intro i hm hi h1 hq
      apply hP
      unfold T130_2
      refine ⟨fun h => ?_, fun h => ?_⟩
      · have : s.drop i = [] := List.drop_eq_nil_of_le (by simp only at h; omega)
        rw [this, qs_nil, Option.map_none] at hq
        unfold scQ
        rw [hq]
        exact ⟨rfl, rfl, rfl⟩
      · have hlt : i < s.length := by simp only at h; omega
        have hd : s.drop i = s[i] :: s.drop (i + 1) := List.drop_eq_getElem_cons hlt
        refine ⟨by omega, s[i], get_at hlt, fun h2 => ?_, fun h2 => ⟨by omega, s[i], get_at hlt, fun h3 => ?_, fun h3 => ?_⟩⟩
        · rw [wr_i64 (by omega) (by omega), show (i : Int) + 2 = ((i + 2 : Nat) : Int) by omega]
          have hc : s[i] = 92 := u8_eq (by show s[i].toNat = 92; omega)
          rw [hd, hc] at hq
          by_cases hl : i + 1 < s.length
          · have hd2 : s.drop (i + 1) = s[i + 1] :: s.drop (i + 2) := List.drop_eq_getElem_cons hl
            refine ih (m - 2) (by omega) (i + 2) (by omega) (by omega) (by omega) ?_
            rw [hd2, qs_esc, Option.map_map] at hq
            rw [hq]
            congr 1
            funext x
            simp only [Function.comp]
            omega
          · have hd2 : s.drop (i + 1) = [] := List.drop_eq_nil_of_le (by omega)
            refine ih (m - 1) (by omega) (i + 2) (by omega) (by omega) (by omega) ?_
            rw [hd2, qs_esc0] at hq
            rw [hq, List.drop_eq_nil_of_le (show s.length ≤ i + 2 by omega), qs_nil]
            rfl
        · rw [wr_succ (by omega)]
          have hc : ¬s[i] = 92 := fun e => h2 (by rw [e]; rfl)
          have hc' : ¬s[i] = 34 := fun e => h3 (by rw [e]; rfl)
          rw [hd, qs_go hc hc', Option.map_map] at hq
          refine ih (m - 1) (by omega) (i + 1) (by omega) (by omega) (by omega) ?_
          rw [hq]
          congr 1
          funext x
          simp only [Function.comp]
          omega
        · rw [wr_succ (by omega), toNat_cast]
          have hc : s[i] = 34 := u8_eq (by show s[i].toNat = 34; simp only [ne_eq, Decidable.not_not] at h3; omega)
          rw [hd, hc, qs_end, Option.map_some] at hq
          have e : 1 + (i - 1) + 1 = i + 1 := by omega
          refine ⟨by omega, by show i + 1 ≤ s.length; omega, _, _, c25 H.toHas03 _, by omega, by show i + 1 ≤ s.length; omega, ?_⟩
          unfold scQ
          rw [hq]
          simp [e]
    exact go s.length 1 (by omega) (by omega) (by omega) (by simp)
  · obtain ⟨x0, x1, h1, rfl, rfl, rfl⟩ := hk
    exact ⟨h1, rfl⟩
end
end Go.AM

/- Parts of the proof. -/
namespace Go.AM
open Go
theorem scNum_len (s : Bytes) : (scNum s).2.2.length ≤ s.length := by unfold scNum; simp
theorem scQ_len (s : Bytes) : (scQ s).2.2.length ≤ s.length := by
  unfold scQ
  split <;> simp
theorem cutp_len (p s : Bytes) : (cutp p s).1.length ≤ s.length := by
  unfold cutp
  split <;> simp
section
variable {f : Bytes → Val × Bool × Bytes}
theorem scG_len {kind : Int} {stop : Bytes} (hf : ∀ s, (f s).2.2.length ≤ s.length) : ∀ (n : Nat) (acc : List Val) (s : Bytes), (scG f kind stop n acc s).2.2.length ≤ s.length
  | 0, acc, s => Nat.le_refl _
  | n + 1, acc, s => by
    have h1 := hf s
    have h2 := cutp_len stop (f s).2.2
    have h3 := cutp_len [44, 32] (cutp stop (f s).2.2).1
    rw [scG]
    split
    · exact h1
    · split
      · exact Nat.le_trans h2 h1
      · split
        · exact Nat.le_trans h3 (Nat.le_trans h2 h1)
        · exact Nat.le_trans (scG_len hf n _ _) (Nat.le_trans h3 (Nat.le_trans h2 h1))
theorem scL_len {kind : Int} {stop s : Bytes} (hf : ∀ s, (f s).2.2.length ≤ s.length) : (scL f kind stop s).2.2.length ≤ s.length := by
  unfold scL
  split
  · exact cutp_len _ _
  · exact Nat.le_trans (scG_len hf 17 [] _) (cutp_len _ _)
theorem len_ite {c : Prop} [Decidable c] {a b : Val × Bool × Bytes} {n : Nat} (ha : a.2.2.length ≤ n) (hb : b.2.2.length ≤ n) : (if c then a else b).2.2.length ≤ n := by
  split
  · exact ha
  · exact hb
theorem scV_len : ∀ (d : Nat) (s : Bytes), (scV d s).2.2.length ≤ s.length
  | 0, s => Nat.le_refl _
  | d + 1, s => by
    have ih := scV_len d
    rw [scV]
    exact len_ite (Nat.le_refl _) (len_ite (cutp_len _ _) (len_ite (cutp_len _ _) (len_ite (cutp_len _ _) (len_ite (cutp_len _ _) (len_ite (cutp_len _ _) (len_ite (Nat.le_trans (ih _) (cutp_len _ _)) (len_ite (Nat.le_trans (scL_len ih) (cutp_len _ _))
      (len_ite (Nat.le_trans (scL_len ih) (cutp_len _ _)) (len_ite (Nat.le_trans (scL_len ih) (cutp_len _ _)) (len_ite (scQ_len _) (scNum_len _)))))))))))
end
section
variable {prog : Prog} (H : Has38 prog)
include H
abbrev ScR (r : Val × Bool × Bytes) : AV → Prop := fun x => ∃ o : Own, x = .tup [.ag [.i .u8 r.1.kind, .i .i64 r.1.int, .s r.1.text, .sl o (List.map Val.row r.1.list), .b r.1.cut], .b r.2.1]
theorem c129 {f : Bytes → Val × Bool × Bytes} {d : Nat} (hf : ∀ s, (f s).2.2.length ≤ s.length) (hc : ∀ s : Bytes, s.length ≤ 1000000000 → PuX prog 107 (Bx [.s s]) [.i .i64 (d : Int)] (ScR (f s)) (Bx [.s (f s).2.2])) {kind : Int} {stop s : Bytes} (hs : s.length ≤ 1000000000) :
    PuX prog 129 (Bx [.s s]) [.i .u8 kind, .s stop, .i .i64 (d : Int)] (ScR (scL f kind stop s)) (Bx [.s (scL f kind stop s).2.2]) := by
  refine (p129 H.f129 (kind1 := kind) (end2 := stop) (nest3 := (d : Int)) (mP := ⟨s⟩) (K := fun x y b => x = (scL f kind stop s).1 ∧ y = (scL f kind stop s).2.1 ∧ b = ⟨(scL f kind stop s).2.2⟩) ?_).to (b := ⟨(scL f kind stop s).2.2⟩) fun r b' hk => ?_
  · unfold T129_0
    refine ⟨_, ⟨(cutp stop s).1⟩, c128 H stop s, fun h => ?_, fun h P hP => ?_⟩
    · unfold scL
      rw [if_pos h]
      exact ⟨rfl, rfl, rfl⟩
    · have e : scL f kind stop s = scG f kind stop 17 [] (cutp stop s).1 := by unfold scL; rw [if_neg (by rw [h]; decide)]
      have hl := cutp_len stop s
      generalize (cutp stop s).1 = t at hl e ⊢
      have go : ∀ (n : Nat) (acc : List Val) (u : Bytes), acc.length + n = 17 → u.length ≤ t.length → scG f kind stop 17 [] t = scG f kind stop n acc u → P (Val.mk 0 0 [] [] false) (Val.mk kind 0 [] acc false) ⟨u⟩ := by
        intro n
        induction n with
        | zero =>
          intro acc u ha hu hq
          apply hP
          rw [e, hq]
          unfold T129_1 T129_2
          refine ⟨fun h => absurd h (by simp only [Val.list_mk]; omega), fun _ => ⟨rfl, rfl, rfl⟩⟩
        | succ n ih =>
          intro acc u ha hu hq
          apply hP
          rw [e, hq, scG]
          have h1 := hf u
          have h2 := cutp_len stop (f u).2.2
          have h3 := cutp_len [44, 32] (cutp stop (f u).2.2).1
          unfold T129_1
          refine ⟨fun _ => ⟨(f u).1, (f u).2.1, ⟨(f u).2.2⟩, hc u (by omega), fun g1 => ?_, fun g1 => ⟨⟨?_, ?_⟩, _, ⟨(cutp stop (f u).2.2).1⟩, c128 H stop (f u).2.2, fun g2 => ?_, fun g2 => ⟨_, ⟨(cutp [44, 32] (cutp stop (f u).2.2).1).1⟩, c128 H [44, 32] (cutp stop (f u).2.2).1, fun g3 => ?_, fun g3 => ?_⟩⟩⟩, fun h => absurd (show (acc.length : Int) ≤ 16 by omega) h⟩
          · rw [if_pos (by simpa using g1)]
            exact ⟨rfl, rfl, rfl⟩
          · simp only [Val.list_mk, List.length_cons, List.length_nil, maxBytes_eq]; omega
          · simp only [Val.list_mk, List.length_cons, List.length_nil, maxBytes_eq]; omega
          · rw [if_neg (by simpa using g1), if_pos g2]
            exact ⟨rfl, rfl, rfl⟩
          · rw [if_neg (by simpa using g1), if_neg (by rw [g2]; decide), if_pos (by simpa using g3)]
            exact ⟨rfl, rfl, rfl⟩
          · refine ih (acc ++ [(f u).1]) _ (by simp; omega) (by omega) ?_
            rw [hq, scG, if_neg (by simpa using g1), if_neg (by rw [g2]; decide), if_neg (by simpa using g3)]
      exact go 17 [] t rfl (Nat.le_refl _) rfl
  · obtain ⟨x0, x1, h1, rfl, rfl, rfl⟩ := hk
    exact ⟨h1, rfl⟩
theorem c107 : ∀ (d : Nat) {s : Bytes}, s.length ≤ 1000000000 → d ≤ 1000 → PuX prog 107 (Bx [.s s]) [.i .i64 (d : Int)] (ScR (scV d s)) (Bx [.s (scV d s).2.2])
  | 0, s, hs, hd => by
    refine (p107 H.f107 (nest1 := ((0 : Nat) : Int)) (mP := ⟨s⟩) (K := fun x y b => x = (scV 0 s).1 ∧ y = (scV 0 s).2.1 ∧ b = ⟨(scV 0 s).2.2⟩) ?_).to (b := ⟨(scV 0 s).2.2⟩) fun r b' hk => ?_
    · unfold T107_0 T107_1
      exact ⟨fun _ => ⟨rfl, rfl, rfl⟩, fun h => absurd rfl h⟩
    · obtain ⟨x0, x1, h1, rfl, rfl, rfl⟩ := hk
      exact ⟨h1, rfl⟩
  | d + 1, s, hs, hd => by
    have ih := fun s hs => @c107 d s hs (by omega)
    have hm : IntKind.i64.wrap (((d + 1 : Nat) : Int) - 1) = (d : Int) := by rw [wr_i64 (by omega) (by omega)]; omega
    refine (p107 H.f107 (nest1 := ((d + 1 : Nat) : Int)) (mP := ⟨s⟩) (K := fun x y b => x = (scV (d + 1) s).1 ∧ y = (scV (d + 1) s).2.1 ∧ b = ⟨(scV (d + 1) s).2.2⟩) ?_).to (b := ⟨(scV (d + 1) s).2.2⟩) fun r b' hk => ?_
    · have e := scV.eq_2 s d
      unfold T107_0 T107_1
      refine ⟨fun h => absurd h (by omega), fun _ => ⟨fun h => ?_, fun h0 => ?_⟩⟩
      · rw [e, if_pos h]; exact ⟨rfl, rfl, rfl⟩
      rw [if_neg h0] at e
      unfold T107_2
      refine ⟨_, ⟨(cutp tTrue s).1⟩, c128 H tTrue s, ?_⟩
      unfold T107_3
      refine ⟨fun h => ?_, fun h => ?_⟩
      · rw [e, if_pos h]; exact ⟨rfl, rfl, rfl⟩
      rw [if_neg (by rw [h]; decide)] at e
      rw [cutp_no h]
      refine ⟨_, ⟨(cutp tFalse s).1⟩, c128 H tFalse s, ?_⟩
      clear h
      unfold T107_4
      refine ⟨fun h => ?_, fun h => ?_⟩
      · rw [e, if_pos h]; exact ⟨rfl, rfl, rfl⟩
      rw [if_neg (by rw [h]; decide)] at e
      rw [cutp_no h]
      refine ⟨_, ⟨(cutp tNil s).1⟩, c128 H tNil s, ?_⟩
      clear h
      unfold T107_5
      refine ⟨fun h => ?_, fun h => ?_⟩
      · rw [e, if_pos h]; exact ⟨rfl, rfl, rfl⟩
      rw [if_neg (by rw [h]; decide)] at e
      rw [cutp_no h]
      refine ⟨_, ⟨(cutp tCutP s).1⟩, c128 H tCutP s, ?_⟩
      clear h
      unfold T107_6
      refine ⟨fun h => ?_, fun h => ?_⟩
      · rw [e, if_pos h]; exact ⟨rfl, rfl, rfl⟩
      rw [if_neg (by rw [h]; decide)] at e
      rw [cutp_no h]
      refine ⟨_, ⟨(cutp tCutS s).1⟩, c128 H tCutS s, ?_⟩
      clear h
      unfold T107_7
      refine ⟨fun h => ?_, fun h => ?_⟩
      · rw [e, if_pos h]; exact ⟨rfl, rfl, rfl⟩
      rw [if_neg (by rw [h]; decide)] at e
      rw [cutp_no h]
      refine ⟨_, ⟨(cutp [38] s).1⟩, c128 H [38] s, ?_⟩
      clear h
      unfold T107_8
      rw [hm]
      have l1 := cutp_len [38] s
      refine ⟨fun h => ⟨_, _, ⟨_⟩, ih _ (Nat.le_trans l1 hs), ?_⟩, fun h => ?_⟩
      · rw [e, if_pos h]; exact ⟨rfl, rfl, rfl⟩
      rw [if_neg (by rw [h]; decide)] at e
      rw [cutp_no h]
      have l1 := cutp_len [123] s
      refine ⟨_, ⟨(cutp [123] s).1⟩, c128 H [123] s, fun h => ⟨_, _, ⟨_⟩, c129 H (scV_len d) ih (Nat.le_trans l1 hs), ?_⟩, fun h => ?_⟩
      · rw [e, if_pos h]; exact ⟨rfl, rfl, rfl⟩
      rw [if_neg (by rw [h]; decide)] at e
      rw [cutp_no h]
      have l1 := cutp_len [91] s
      refine ⟨_, ⟨(cutp [91] s).1⟩, c128 H [91] s, fun h => ⟨_, _, ⟨_⟩, c129 H (scV_len d) ih (Nat.le_trans l1 hs), ?_⟩, fun h => ?_⟩
      · rw [e, if_pos h]; exact ⟨rfl, rfl, rfl⟩
      rw [if_neg (by rw [h]; decide)] at e
      rw [cutp_no h]
      have l1 := cutp_len [60] s
      refine ⟨_, ⟨(cutp [60] s).1⟩, c128 H [60] s, fun h => ⟨_, _, ⟨_⟩, c129 H (scV_len d) ih (Nat.le_trans l1 hs), ?_⟩, fun h => ?_⟩
      · rw [e, if_pos h]; exact ⟨rfl, rfl, rfl⟩
      rw [if_neg (by rw [h]; decide)] at e
      rw [cutp_no h]
      cases s with
      | nil => exact absurd rfl h0
      | cons c s =>
        refine ⟨c, rfl, fun h => ⟨_, _, ⟨_⟩, c130 H hs, ?_⟩, fun h => ⟨_, _, ⟨_⟩, c131 H hs, ?_⟩⟩
        · have hc : c = 34 := u8_eq (by show c.toNat = 34; omega)
          subst hc
          rw [e, List.head?_cons, if_pos rfl]; exact ⟨rfl, rfl, rfl⟩
        · rw [e, if_neg (by rw [List.head?_cons]; intro he; injection he with he; exact h (by rw [he]; rfl))]; exact ⟨rfl, rfl, rfl⟩
    · obtain ⟨x0, x1, h1, rfl, rfl, rfl⟩ := hk
      exact ⟨h1, rfl⟩
omit H in
theorem chk_fine {v : Val} : chkR v = 0 ↔ fine v = true := by
  unfold chkR
  by_cases h : fine v = true
  · rw [if_pos h]; simp [h]
  · rw [if_neg h]; simp [h]
theorem c74 {s : Bytes} (hs : s.length ≤ 1000000000) : Pus prog 74 [.s s] (.tup [(rvs s).1.av, .i .i64 (rvs s).2]) := by
  obtain ⟨x, y, ⟨rfl, rfl⟩, h⟩ := p74 H.f74 (s0 := s) (K := fun x y => x = (rvs s).1 ∧ y = (rvs s).2) (by
    unfold T74_0 rvs
    refine ⟨fun h => ?_, fun h => ⟨_, _, ⟨_⟩, c107 H 130 hs (by decide), fun h1 => ?_, fun h1 => ⟨fun h2 => ?_, fun h2 => ⟨_, _, c72 H (scV_wf _ _), fun h3 => ?_, fun h3 => ⟨fun h4 => ?_, fun h4 => ?_⟩⟩⟩⟩⟩
    · rw [if_pos (by omega)]; exact ⟨rfl, rfl⟩
    · rw [if_neg (by omega), if_neg (by rintro ⟨h, _⟩; rw [h] at h1; cases h1)]; exact ⟨rfl, rfl⟩
    · rw [if_neg (by omega), if_neg (by rintro ⟨_, h, _⟩; exact h2 h)]; exact ⟨rfl, rfl⟩
    · rw [if_neg (by omega), if_neg (by rintro ⟨_, _, h, _⟩; exact h3 (chk_fine.2 h))]; exact ⟨rfl, rfl⟩
    · rw [if_neg (by omega), if_neg]; · exact ⟨rfl, rfl⟩
      rintro ⟨_, _, h5, h6⟩
      rw [if_pos h5] at h4
      exact h4 h6
    · have h5 := chk_fine.1 (Decidable.not_not.1 h3)
      rw [if_pos h5] at h4
      rw [if_neg (by omega), if_pos ⟨by simpa using h1, Decidable.not_not.1 h2, h5, Decidable.not_not.1 h4⟩]
      exact ⟨rfl, rfl⟩)
  exact h
end
end Go.AM

/- Parts of the proof. -/
namespace Go.AM
open Go
def RdK (q : Val × Bool × Bytes) (v : Val) (r : Bytes) (ok : Bool) : Prop := ok = q.2.1 ∧ (ok = true → v = q.1 ∧ r = q.2.2)
theorem RdK.no {q : Val × Bool × Bytes} {v : Val} {r : Bytes} (h : q.2.1 = false) : RdK q v r false := ⟨h.symm, fun h => by cases h⟩
theorem RdK.yes {q : Val × Bool × Bytes} {v : Val} {r : Bytes} (h : q = (v, true, r)) : RdK q v r true := by subst h; exact ⟨rfl, fun _ => ⟨rfl, rfl⟩⟩
section
variable {prog : Prog} (H : Has38 prog)
include H
theorem c78 {a : Val} (hw : Wf a) : ∀ b : Val, Pus prog 78 [a.av, b.av] (.b (sameV a b)) := by
  induction hw with
  | @mk k n s l c hk hn hl _ ih =>
    intro b
    obtain ⟨x, rfl, h⟩ := p78 H.f78 (a0 := Val.mk k n s l c) (b1 := b) (K := fun x => x = sameV (Val.mk k n s l c) b) (by
      have no : ∀ {p : Prop}, (Val.mk k n s l c = b → p) → ¬p → false = sameV (Val.mk k n s l c) b := fun h1 h2 => (sameV_false.2 fun h => h2 (h1 h)).symm
      unfold T78_0
      refine ⟨fun h => no (fun e => by rw [← e]) h, fun h1 => ⟨fun h => no (fun e => by rw [← e]) h, fun h2 => ⟨fun h => no (fun e => by rw [← e]) h, fun h3 => ⟨fun h => no (fun e => by rw [← e]) h, fun h4 => ⟨fun h => no (fun e => by rw [← e]) h, fun h5 P hP => ?_⟩⟩⟩⟩⟩
      have h1 := Decidable.not_not.1 h1
      have h2 := Decidable.not_not.1 h2
      have h3 := Decidable.not_not.1 h3
      have h4 := Decidable.not_not.1 h4
      have h5 : l.length = b.list.length := by have := Decidable.not_not.1 h5; simp only [Val.list_mk] at this; omega
      refine loop_inv (P := fun _ i => P i (Val.mk k n s l c) b) (fun _ => ()) l.length (fun i => l.take i = b.list.take i) (by simp) (fun hI => ?_) (fun i hi hI ihP => ?_)
      · apply hP
        unfold T78_1 T78_2
        refine ⟨fun h => absurd h (by simp only [Val.list_mk]; omega), fun _ => (sameV_true.2 ?_).symm⟩
        rw [List.take_length, h5, List.take_length] at hI
        rw [b.eta, ← h1, ← h2, ← h3, ← h4, hI]
        rfl
      · apply hP
        have hi2 : i < b.list.length := by omega
        unfold T78_1
        refine ⟨fun _ => ⟨by omega, l[i], get_at (l := l) hi, by omega, b.list[i], get_at hi2, _, ih _ (List.getElem_mem hi) _, fun h6 => ?_, fun h6 => ?_⟩, fun h => absurd (show (i : Int) < l.length by omega) h⟩
        · refine no (p := l[i] = b.list[i]) (fun e => ?_) (sameV_false.1 (by simpa using h6))
          subst e
          rfl
        · rw [wr_i64 (by omega) (by omega)]
          refine ihP ?_
          have h7 : l[i] = b.list[i] := sameV_true.1 (by simpa using h6)
          rw [List.take_succ_eq_append_getElem hi, List.take_succ_eq_append_getElem hi2, hI, h7])
    exact h
end
end Go.AM

/- Parts of the proof. -/
namespace Go.AM
open Go
def gFld (s : Fld) : Bool := decide (40 < s.name.length)
def gFun (f : Fun) : Bool := decide (40 < f.name.length) || decide (30 < f.slots.length) || decide (300 < f.code.length) || f.slots.any gFld
def greatI (m : Img) : Bool := (m.funcs.take 41).any gFun || decide (40 < m.funcs.length)
structure OkI (m : Img) : Prop where
  n : m.funcs.length ≤ 40
  f : ∀ f ∈ m.funcs, f.name.length ≤ 40 ∧ f.slots.length ≤ 30 ∧ f.code.length ≤ 300 ∧ ∀ s ∈ f.slots, s.name.length ≤ 40
theorem OkI.of {m : Img} (h : greatI m = false) : OkI m := by
  simp only [greatI, Bool.or_eq_false_iff, decide_eq_false_iff_not] at h
  have hn : m.funcs.length ≤ 40 := by omega
  refine ⟨hn, fun f hf => ?_⟩
  have h1 := h.1
  rw [List.take_of_length_le (by omega), List.any_eq_false] at h1
  have h2 := h1 f hf
  simp only [gFun, Bool.not_eq_true, Bool.or_eq_false_iff, decide_eq_false_iff_not, List.any_eq_false] at h2
  refine ⟨by omega, by omega, by omega, fun s hs => ?_⟩
  simpa [gFld] using h2.2 s hs
structure WfX (x : Frm) : Prop where
  m : 0 ≤ x.mode
  n : x.locals.length ≤ 9223372036854775807
  v : ∀ l ∈ x.locals, Wf l.value
def asc (n : Int) : Int → List Loc → Bool
  | _, [] => true
  | last, l :: r => decide (last < l.slot) && decide (l.slot < n) && fine l.value && asc n l.slot r
def fitF (f : Fun) (x : Frm) : Bool := decide (f.slots.length ≤ 16) && decide (f.name.length ≤ 16) && decide (0 ≤ x.pos) && decide (x.pos < f.code.length) && f.slots.all (fun s => decide (s.name.length ≤ 16)) && asc f.slots.length (-1) x.locals
def fitb (m : Img) (x : Frm) : Bool := decide (0 ≤ x.func) && decide (x.mode ≤ 3) && (match m.funcs[x.func.toNat]? with | none => false | some f => fitF f x)
def fitR (m : Img) (x : Frm) : Int := if fitb m x = true then 0 else 8
def modes4 : List Bytes := [[99, 97, 108, 108], [100, 101, 102, 101, 114], [112, 97, 110, 105, 99], [101, 120, 105, 116]]
def modeW (n : Int) : Bytes := (modes4[n.toNat]?).getD []
def headL (f : Fun) (k : Int) (x : Frm) : Bytes := [35] ++ num k ++ [32] ++ num x.func ++ [32] ++ quo f.name ++ [32, 97, 116, 32] ++ num x.pos ++ [32] ++ modeW x.mode
def slotN (f : Fun) (n : Int) : Bytes := ((f.slots[n.toNat]?).getD Fld.zero).name
def locL (f : Fun) (l : Loc) : Bytes := [32, 32] ++ num l.slot ++ [32] ++ quo (slotN f l.slot) ++ [32, 61, 32] ++ txt l.value
def frmL (m : Img) (k : Int) (x : Frm) : List Bytes := match m.funcs[x.func.toNat]? with
  | none => []
  | some f => headL f k x :: x.locals.map (locL f)
def frR (m : Img) (k : Int) (x : Frm) : List Bytes × Int := if k < 0 ∨ 170 ≤ k then ([], 2) else if fitb m x = true then (frmL m k x, 0) else ([], 8)
theorem fitb_iff {m : Img} {x : Frm} : fitb m x = true ↔ 0 ≤ x.func ∧ x.mode ≤ 3 ∧ ∃ f, m.funcs[x.func.toNat]? = some f ∧ fitF f x = true := by
  unfold fitb
  cases h : m.funcs[x.func.toNat]? with
  | none => simp
  | some f => simp [and_assoc]
theorem fitF_iff {f : Fun} {x : Frm} : fitF f x = true ↔ f.slots.length ≤ 16 ∧ f.name.length ≤ 16 ∧ 0 ≤ x.pos ∧ x.pos < f.code.length ∧ (∀ s ∈ f.slots, s.name.length ≤ 16) ∧ asc f.slots.length (-1) x.locals = true := by
  simp [fitF, and_assoc]
theorem asc_mem {n : Int} : ∀ {l : List Loc} {last : Int}, asc n last l = true → ∀ x ∈ l, last < x.slot ∧ x.slot < n ∧ fine x.value = true
  | [], _, _, x, hx => by cases hx
  | y :: r, last, h, x, hx => by
    simp only [asc, Bool.and_eq_true, decide_eq_true_eq] at h
    obtain ⟨⟨⟨h1, h2⟩, h3⟩, h4⟩ := h
    rcases List.mem_cons.1 hx with rfl | hx
    · exact ⟨h1, h2, h3⟩
    · have := asc_mem h4 x hx
      exact ⟨by omega, this.2⟩
theorem asc_len {n : Int} : ∀ {l : List Loc} {last : Int}, asc n last l = true → l = [] ∨ (l.length : Int) < n - last
  | [], _, _ => .inl rfl
  | y :: r, last, h => by
    simp only [asc, Bool.and_eq_true, decide_eq_true_eq] at h
    obtain ⟨⟨⟨h1, h2⟩, h3⟩, h4⟩ := h
    rcases asc_len h4 with rfl | h5
    · right; simp only [List.length_cons, List.length_nil]; omega
    · right; simp only [List.length_cons]; omega
theorem asc_take {n last : Int} : ∀ (l : List Loc) (i : Nat), asc n last l = true → asc n last (l.take i) = true
  | [], i, h => by rw [List.take_nil]; rfl
  | y :: r, 0, h => rfl
  | y :: r, i + 1, h => by
    simp only [asc, List.take_succ_cons, Bool.and_eq_true] at h ⊢
    exact ⟨h.1, asc_take r i h.2⟩
def lastS (last : Int) : List Loc → Int
  | [] => last
  | l :: r => lastS l.slot r
theorem lastS_snoc : ∀ (l : List Loc) (last : Int) (x : Loc), lastS last (l ++ [x]) = x.slot
  | [], _, _ => rfl
  | y :: r, last, x => lastS_snoc r y.slot x
theorem asc_snoc {n : Int} : ∀ (l : List Loc) (last : Int) (x : Loc), asc n last (l ++ [x]) = (asc n last l && decide (lastS last l < x.slot) && decide (x.slot < n) && fine x.value)
  | [], last, x => by simp [asc, lastS]; rfl
  | y :: r, last, x => by
    simp only [List.cons_append, asc, lastS, asc_snoc r y.slot x]
    simp only [Bool.and_assoc]
    rfl
theorem asc_no {n last : Int} {l : List Loc} {i : Nat} (h : asc n last (l.take i) = false) : asc n last l = false := by
  rw [← Bool.not_eq_true] at h ⊢
  exact fun h' => h (asc_take l i h')
def scI (n : Int) (s : Bytes) : Int × Bool × Bytes := ((scNum s).1, (scNum s).2.1 && decide (0 ≤ (scNum s).1) && decide ((scNum s).1 < n), (scNum s).2.2)
def idxOf (v : Bytes) : List Bytes → Int
  | [] => -1
  | x :: r => if v = x then 0 else if idxOf v r = -1 then -1 else 1 + idxOf v r
def modeI (s : Bytes) : Int := idxOf s modes4
def nameAt (m : Img) (n : Int) : Bytes := ((m.funcs[n.toNat]?).getD Fun.zero).name
def codeAt (m : Img) (n : Int) : Int := (((m.funcs[n.toNat]?).getD Fun.zero).code.length : Nat)
def frP4 (k f p : Int) (s : Bytes) : Int × Frm × Bool := (k, ⟨f, p, max 0 (modeI s), []⟩, decide (0 ≤ modeI s))
def frP3 (m : Img) (k f : Int) (s : Bytes) : Int × Frm × Bool :=
  if (scI (codeAt m f) s).2.1 = false then (0, ⟨f, (scI (codeAt m f) s).1, 0, []⟩, false) else
  if (cutp [32] (scI (codeAt m f) s).2.2).2 = false then (0, ⟨f, (scI (codeAt m f) s).1, 0, []⟩, false) else frP4 k f (scI (codeAt m f) s).1 (cutp [32] (scI (codeAt m f) s).2.2).1
def frP2 (m : Img) (k : Int) (s : Bytes) : Int × Frm × Bool :=
  if (scI m.funcs.length s).2.1 = false then (0, ⟨(scI m.funcs.length s).1, 0, 0, []⟩, false) else
  if (cutp ([32] ++ quo (nameAt m (scI m.funcs.length s).1) ++ [32, 97, 116, 32]) (scI m.funcs.length s).2.2).2 = false then (0, ⟨(scI m.funcs.length s).1, 0, 0, []⟩, false) else
  frP3 m k (scI m.funcs.length s).1 (cutp ([32] ++ quo (nameAt m (scI m.funcs.length s).1) ++ [32, 97, 116, 32]) (scI m.funcs.length s).2.2).1
def frP1 (m : Img) (s : Bytes) : Int × Frm × Bool :=
  if (scI 170 s).2.1 = false then (0, ⟨0, 0, 0, []⟩, false) else if (cutp [32] (scI 170 s).2.2).2 = false then (0, ⟨0, 0, 0, []⟩, false) else frP2 m (scI 170 s).1 (cutp [32] (scI 170 s).2.2).1
def frP (m : Img) (s : Bytes) : Int × Frm × Bool := if (cutp [35] s).2 = false then (0, ⟨0, 0, 0, []⟩, false) else frP1 m (cutp [35] s).1
def loP (f : Fun) (s : Bytes) : Option Loc :=
  if (cutp [32, 32] s).2 = false then none else
  if (scI f.slots.length (cutp [32, 32] s).1).2.1 = false then none else
  if (cutp ([32] ++ quo (slotN f (scI f.slots.length (cutp [32, 32] s).1).1) ++ [32, 61, 32]) (scI f.slots.length (cutp [32, 32] s).1).2.2).2 = false then none else
  if (rvs (cutp ([32] ++ quo (slotN f (scI f.slots.length (cutp [32, 32] s).1).1) ++ [32, 61, 32]) (scI f.slots.length (cutp [32, 32] s).1).2.2).1).2 = 0 then
    some ⟨(scI f.slots.length (cutp [32, 32] s).1).1, (rvs (cutp ([32] ++ quo (slotN f (scI f.slots.length (cutp [32, 32] s).1).1) ++ [32, 61, 32]) (scI f.slots.length (cutp [32, 32] s).1).2.2).1).1⟩ else none
def loPs (f : Fun) : List Bytes → Option (List Loc)
  | [] => some []
  | s :: r => match loP f s with
    | none => none
    | some y => match loPs f r with | none => none | some ys => some (y :: ys)
abbrev fz : Frm := ⟨0, 0, 0, []⟩
def rfR (m : Img) (l : List Bytes) : Int × Frm × Int :=
  if 17 < l.length ∨ long 1400060 l = true then (0, fz, 4) else
  match l with
  | [] => (0, fz, 12)
  | s :: r => if (frP m s).2.2 = false then (0, fz, 12) else
    match m.funcs[(frP m s).2.1.func.toNat]? with
    | none => (0, fz, 12)
    | some f => match loPs f r with
      | none => (0, fz, 12)
      | some ys => if frR m (frP m s).1 { (frP m s).2.1 with locals := ys } = (l, 0) then ((frP m s).1, { (frP m s).2.1 with locals := ys }, 0) else (0, fz, 12)
theorem scI_rng (n : Int) (s : Bytes) : (scI n s).2.1 = true → 0 ≤ (scI n s).1 ∧ (scI n s).1 < n := by
  intro h
  simp only [scI, Bool.and_eq_true, decide_eq_true_eq] at h ⊢
  omega
theorem idxOf_rng (v : Bytes) : ∀ l : List Bytes, -1 ≤ idxOf v l ∧ idxOf v l < l.length
  | [] => ⟨Int.le_refl _, by show (-1 : Int) < 0; decide⟩
  | x :: r => by
    have := idxOf_rng v r
    rw [idxOf, List.length_cons]
    repeat' split
    all_goals omega
theorem modeI_rng (s : Bytes) : -1 ≤ modeI s ∧ modeI s < 4 := idxOf_rng s modes4
theorem frP_mode (m : Img) (s : Bytes) : 0 ≤ (frP m s).2.1.mode := by
  have h0 : ∀ a : Int, 0 ≤ max 0 a := fun a => by omega
  unfold frP frP1 frP2 frP3 frP4
  repeat' split
  all_goals first | exact h0 _ | exact Int.le_refl 0
theorem frP_locals (m : Img) (s : Bytes) : (frP m s).2.1.locals = [] := by
  unfold frP frP1 frP2 frP3 frP4
  repeat' split
  all_goals rfl
theorem frP_ok {m : Img} {s : Bytes} (h : (frP m s).2.2 = true) : 0 ≤ (frP m s).2.1.func ∧ (frP m s).2.1.func < m.funcs.length ∧ 0 ≤ (frP m s).1 ∧ (frP m s).1 < 170 := by
  unfold frP at h ⊢
  split at h
  · cases h
  rename_i h1
  rw [if_neg h1]
  clear h1
  generalize (cutp [35] s).1 = t at h ⊢
  unfold frP1 at h ⊢
  split at h
  · cases h
  rename_i h1
  rw [if_neg h1]
  split at h
  · cases h
  rename_i h2
  rw [if_neg h2]
  have k1 := scI_rng 170 t (by simpa using h1)
  clear h1 h2
  generalize (scI 170 t).1 = k at h k1 ⊢
  generalize (cutp [32] (scI 170 t).2.2).1 = u at h ⊢
  unfold frP2 at h ⊢
  split at h
  · cases h
  rename_i h1
  rw [if_neg h1]
  split at h
  · cases h
  rename_i h2
  rw [if_neg h2]
  have k2 := scI_rng m.funcs.length u (by simpa using h1)
  clear h1 h2
  generalize (cutp ([32] ++ quo (nameAt m (scI m.funcs.length u).1) ++ [32, 97, 116, 32]) (scI m.funcs.length u).2.2).1 = w at h ⊢
  generalize (scI m.funcs.length u).1 = f at h k2 ⊢
  unfold frP3 at h ⊢
  split at h
  · cases h
  rename_i h1
  rw [if_neg h1]
  split at h
  · cases h
  rename_i h2
  rw [if_neg h2]
  exact ⟨k2.1, k2.2, k1.1, k1.2⟩
end Go.AM

/- Parts of the proof. -/
namespace Go.AM
open Go
structure HasF (prog : Prog) : Prop extends Has38 prog where
  f82 : prog.fn 82 = some pf82
  f86 : prog.fn 86 = some pf86
  f88 : prog.fn 88 = some pf88
  f111 : prog.fn 111 = some pf111
  f112 : prog.fn 112 = some pf112
  f113 : prog.fn 113 = some pf113
  f115 : prog.fn 115 = some pf115
  f116 : prog.fn 116 = some pf116
  f119 : prog.fn 119 = some pf119
  f122 : prog.fn 122 = some pf122
  f123 : prog.fn 123 = some pf123
  f124 : prog.fn 124 = some pf124
  f139 : prog.fn 139 = some pf139
  f141 : prog.fn 141 = some pf141
  f144 : prog.fn 144 = some pf144
def idxP {α : Type} (p : α → Bool) : List α → Int
  | [] => -1
  | x :: r => if p x = true then 0 else if idxP p r = -1 then -1 else 1 + idxP p r
theorem idxP_any {α : Type} (p : α → Bool) : ∀ l : List α, -1 ≤ idxP p l ∧ (0 ≤ idxP p l ↔ l.any p = true)
  | [] => by simp [idxP]
  | x :: r => by
    have := idxP_any p r
    rw [idxP, List.any_cons]
    cases p x
    · simp only [Bool.false_eq_true, if_false, Bool.false_or]
      split
      · exact ⟨by omega, fun h => absurd h (by decide), fun h => absurd (this.2.2 h) (by omega)⟩
      · exact ⟨by omega, fun _ => this.2.1 (by omega), fun h => by have := this.2.2 h; omega⟩
    · simp
theorem loop_idx {α : Type} {P : Int → Prop} {Q : Int → Prop} (p : α → Bool) (l : List α) (h1 : Q (-1) → P (l.length : Int)) (h2 : ∀ (i : Nat) (hi : i < l.length), p l[i] = true → Q (i : Int) → P (i : Int)) (h3 : ∀ (i : Nat) (hi : i < l.length), p l[i] = false → P ((i + 1 : Nat) : Int) → P (i : Int)) (hQ : Q (idxP p l)) : P 0 := by
  have key : ∀ m i : Nat, i + m = l.length → Q (if idxP p (l.drop i) = -1 then -1 else i + idxP p (l.drop i)) → P (i : Int) := by
    intro m
    induction m with
    | zero =>
      intro i hi hq
      have : l.drop i = [] := List.drop_eq_nil_of_le (by omega)
      rw [this] at hq
      simp only [Nat.add_zero] at hi
      subst hi
      exact h1 (by simpa [idxP] using hq)
    | succ m ih =>
      intro i hi hq
      have hil : i < l.length := by omega
      rw [List.drop_eq_getElem_cons hil, idxP] at hq
      have hb := (idxP_any p (l.drop (i + 1))).1
      cases hp : p l[i] with
      | true =>
        refine h2 i hil hp ?_
        rw [hp] at hq
        simpa using hq
      | false =>
        refine h3 i hil hp (ih (i + 1) (by omega) ?_)
        rw [hp] at hq
        simp only [Bool.false_eq_true, if_false] at hq
        by_cases hn : idxP p (l.drop (i + 1)) = -1
        · rw [if_pos hn] at hq ⊢
          simpa using hq
        · rw [if_neg hn] at hq ⊢
          rw [if_neg (by omega)] at hq
          rw [show ((i + 1 : Nat) : Int) + idxP p (l.drop (i + 1)) = (i : Int) + (1 + idxP p (l.drop (i + 1))) by omega]
          exact hq
  refine key l.length 0 (by omega) ?_
  rw [List.drop_zero]
  split
  · rename_i h; rw [h] at hQ; exact hQ
  · simpa using hQ
theorem idxOf_P (v : Bytes) : ∀ l : List Bytes, idxOf v l = idxP (fun x => decide (v = x)) l
  | [] => rfl
  | x :: r => by rw [idxOf, idxP, idxOf_P v r]; simp
theorem modes4_get {n : Int} (h0 : 0 ≤ n) (h1 : n ≤ 3) : modes4[n.toNat]? = some (modeW n) := by
  have : n = 0 ∨ n = 1 ∨ n = 2 ∨ n = 3 := by omega
  rcases this with rfl | rfl | rfl | rfl <;> rfl
theorem modeW_len {n : Int} (h0 : 0 ≤ n) (h1 : n ≤ 3) : (modeW n).length ≤ 5 := by
  have : n = 0 ∨ n = 1 ∨ n = 2 ∨ n = 3 := by omega
  rcases this with rfl | rfl | rfl | rfl <;> decide
section
variable {prog : Prog} (H : HasF prog)
include H
theorem c111 {n : Int} (h1 : -9223372036854775808 ≤ n) (h2 : n < 9223372036854775808) : Pus prog 111 [.i .i64 n] (.s (num n)) := by
  obtain ⟨x, rfl, h⟩ := p111 H.f111 (n0 := n) (K := fun x => x = num n) (by
    unfold T111_0
    exact ⟨_, c15 H.toHas03 h1 h2, rfl⟩)
  exact h
theorem c112 {s : Bytes} (hs : s.length ≤ 400) : Pus prog 112 [.s s] (.s (quo s)) := by
  obtain ⟨x, rfl, h⟩ := p112 H.f112 (s0 := s) (K := fun x => x = quo s) (by
    unfold T112_0
    refine ⟨_, _, c11 H.toHas03 s, ?_⟩
    rw [quoR_ok hs])
  exact h
theorem c113 : Pus prog 113 [] (.ag (modes4.map AV.s)) := by
  obtain ⟨x, rfl, h⟩ := p113 H.f113 (K := fun x => x = modes4) (by unfold T113_0; rfl)
  exact h
theorem c116 (s : Bytes) : PuN prog 116 [.s s] (fun r => r = .b (decide (1400060 < s.length))) := by
  refine (p116 H.f116 (s0 := s) (K := fun x => x = decide (1400060 < s.length)) ?_).to ?_
  · unfold T116_0
    exact decide_eq_decide.2 (by omega)
  · rintro r ⟨x, rfl, rfl⟩; rfl
theorem c123 (s : Fld) : PuN prog 123 [s.av] (fun r => r = .b (decide (16 < s.name.length))) := by
  refine (p123 H.f123 (s0 := s) (K := fun x => x = decide (16 < s.name.length)) ?_).to ?_
  · unfold T123_0
    exact decide_eq_decide.2 (by omega)
  · rintro r ⟨x, rfl, rfl⟩; rfl
theorem c139 {l : List Bytes} {f : Nat × List AV} {p : Bytes → Bool} (hl : l.length ≤ 9223372036854775807) (hf : ∀ x ∈ l, PuN prog f.1 ([.s x] ++ f.2) (fun r => r = .b (p x))) (o : Own) : PuN prog 139 [.sl o (l.map rowS), .fn f.1 f.2] (fun r => r = .i .i64 (idxP p l)) := by
  refine (p139 H.f139 (s0 := l) (f1 := f) (K := fun x => x = idxP p l) ?_ o).to ?_
  · unfold T139_0
    intro P hP
    refine loop_idx (Q := fun x => x = idxP p l) p l (fun h => hP _ ?_) (fun i hi hp hq => hP _ ?_) (fun i hi hp ih => hP _ ?_) rfl
    · unfold T139_1 T139_2
      exact ⟨fun h' => absurd h' (by omega), fun _ => h⟩
    · unfold T139_1
      refine ⟨fun _ => ⟨by omega, _, get_at hi, _, hf _ (List.getElem_mem hi), fun _ => hq, fun h' => ?_⟩, fun h' => absurd h' (by omega)⟩
      rw [hp] at h'; cases h'
    · unfold T139_1
      refine ⟨fun _ => ⟨by omega, _, get_at hi, _, hf _ (List.getElem_mem hi), fun h' => ?_, fun _ => ?_⟩, fun h' => absurd h' (by omega)⟩
      · rw [hp] at h'; cases h'
      · rw [wr_i64 (by omega) (by omega)]; exact ih
  · rintro r ⟨x, rfl, rfl⟩; rfl
theorem c144 {l : List Fld} {f : Nat × List AV} {p : Fld → Bool} (hl : l.length ≤ 9223372036854775807) (hf : ∀ x ∈ l, PuN prog f.1 ([x.av] ++ f.2) (fun r => r = .b (p x))) (o : Own) : PuN prog 144 [.sl o (l.map Fld.row), .fn f.1 f.2] (fun r => r = .i .i64 (idxP p l)) := by
  refine (p144 H.f144 (s0 := l) (f1 := f) (K := fun x => x = idxP p l) ?_ o).to ?_
  · unfold T144_0
    intro P hP
    refine loop_idx (Q := fun x => x = idxP p l) p l (fun h => hP _ ?_) (fun i hi hp hq => hP _ ?_) (fun i hi hp ih => hP _ ?_) rfl
    · unfold T144_1 T144_2
      exact ⟨fun h' => absurd h' (by omega), fun _ => h⟩
    · unfold T144_1
      refine ⟨fun _ => ⟨by omega, _, get_at hi, _, hf _ (List.getElem_mem hi), fun _ => hq, fun h' => ?_⟩, fun h' => absurd h' (by omega)⟩
      rw [hp] at h'; cases h'
    · unfold T144_1
      refine ⟨fun _ => ⟨by omega, _, get_at hi, _, hf _ (List.getElem_mem hi), fun h' => ?_, fun _ => ?_⟩, fun h' => absurd h' (by omega)⟩
      · rw [hp] at h'; cases h'
      · rw [wr_i64 (by omega) (by omega)]; exact ih
  · rintro r ⟨x, rfl, rfl⟩; rfl
theorem c115 {l : List Bytes} {f : Nat × List AV} {p : Bytes → Bool} (hl : l.length ≤ 9223372036854775807) (hf : ∀ x ∈ l, PuN prog f.1 ([.s x] ++ f.2) (fun r => r = .b (p x))) (o : Own) : PuN prog 115 [.sl o (l.map rowS), .fn f.1 f.2] (fun r => r = .b (l.any p)) := by
  refine (p115 H.f115 (s0 := l) (f1 := f) (K := fun x => x = l.any p) ?_ o).to ?_
  · unfold T115_0
    refine ⟨_, fun o => c139 H hl hf o, ?_⟩
    have := (idxP_any p l).2
    cases h : l.any p
    · exact decide_eq_false (by rw [h] at this; intro h'; exact absurd (this.1 h') (by decide))
    · exact decide_eq_true (this.2 h)
  · rintro r ⟨x, rfl, rfl⟩; rfl
theorem c122 {l : List Fld} {f : Nat × List AV} {p : Fld → Bool} (hl : l.length ≤ 9223372036854775807) (hf : ∀ x ∈ l, PuN prog f.1 ([x.av] ++ f.2) (fun r => r = .b (p x))) (o : Own) : PuN prog 122 [.sl o (l.map Fld.row), .fn f.1 f.2] (fun r => r = .b (l.any p)) := by
  refine (p122 H.f122 (s0 := l) (f1 := f) (K := fun x => x = l.any p) ?_ o).to ?_
  · unfold T122_0
    refine ⟨_, fun o => c144 H hl hf o, ?_⟩
    have := (idxP_any p l).2
    cases h : l.any p
    · exact decide_eq_false (by rw [h] at this; intro h'; exact absurd (this.1 h') (by decide))
    · exact decide_eq_true (this.2 h)
  · rintro r ⟨x, rfl, rfl⟩; rfl
theorem c141 {l : List Bytes} (hl : l.length ≤ 1000000) (v : Bytes) : Pus prog 141 [.sl .ext (l.map rowS), .s v] (.i .i64 (idxOf v l)) := by
  obtain ⟨x, rfl, h⟩ := p141 H.f141 (s0 := l) (v1 := v) (K := fun x => x = idxOf v l) (by
    unfold T141_0
    intro P hP
    refine loop_idx (Q := fun x => x = idxOf v l) (fun x => decide (v = x)) l (fun h => hP _ ?_) (fun i hi hp hq => hP _ ?_) (fun i hi hp ih => hP _ ?_) (idxOf_P v l).symm
    · unfold T141_1 T141_2
      exact ⟨fun h' => absurd h' (by omega), fun _ => h⟩
    · unfold T141_1
      exact ⟨fun _ => ⟨by omega, _, get_at hi, fun _ => hq, fun h' => absurd (by simpa using hp) h'⟩, fun h' => absurd h' (by omega)⟩
    · unfold T141_1
      refine ⟨fun _ => ⟨by omega, _, get_at hi, fun h' => absurd h' (by simpa using hp), fun _ => ?_⟩, fun h' => absurd h' (by omega)⟩
      rw [wr_i64 (by omega) (by omega)]; exact ih)
  exact h
theorem c119 {a b : List Bytes} (ha : a.length ≤ 9223372036854775807) : Pus prog 119 [.sl .ext (a.map rowS), .sl .ext (b.map rowS)] (.b (decide (a = b))) := by
  obtain ⟨x, rfl, h⟩ := p119 H.f119 (s10 := a) (s21 := b) (K := fun x => x = decide (a = b)) (by
    unfold T119_0
    refine ⟨fun h => (decide_eq_false fun e => h (by rw [e])).symm, fun h P hP => ?_⟩
    have h5 : a.length = b.length := by omega
    refine loop_inv0 (P := P) a.length (fun i => a.take i = b.take i) (by simp) (fun hI => hP _ ?_) (fun i hi hI ihP => hP _ ?_)
    · unfold T119_1 T119_2
      refine ⟨fun h => absurd h (by omega), fun _ => ?_⟩
      rw [List.take_length, h5, List.take_length] at hI
      exact (decide_eq_true hI).symm
    · have hi2 : i < b.length := by omega
      unfold T119_1
      refine ⟨fun _ => ⟨by omega, _, get_at hi, by omega, _, get_at hi2, fun h6 => ?_, fun h6 => ?_⟩, fun h => absurd h (by omega)⟩
      · refine (decide_eq_false fun e => h6 ?_).symm
        subst e; rfl
      · rw [wr_i64 (by omega) (by omega)]
        refine ihP ?_
        rw [List.take_succ_eq_append_getElem hi, List.take_succ_eq_append_getElem hi2, hI, Decidable.not_not.1 h6])
  exact h
end
end Go.AM

/- Parts of the proof. -/
namespace Go.AM
open Go
theorem fitR_no {m : Img} {x : Frm} (h : fitb m x ≠ true) : (8 : Int) = fitR m x := by unfold fitR; rw [if_neg h]
theorem fitR_yes {m : Img} {x : Frm} (h : fitb m x = true) : (0 : Int) = fitR m x := by unfold fitR; rw [if_pos h]
theorem fun_at {m : Img} {n : Int} (h0 : 0 ≤ n) (h1 : n < m.funcs.length) : ∃ f, m.funcs[n.toNat]? = some f ∧ f ∈ m.funcs := by
  have h : n.toNat < m.funcs.length := by omega
  exact ⟨m.funcs[n.toNat], List.getElem?_eq_getElem h, List.getElem_mem h⟩
theorem asc_go {n : Int} {l : List Loc} {i : Nat} (hi : i < l.length) : asc n (-1) (l.take (i + 1)) = (asc n (-1) (l.take i) && decide (lastS (-1) (l.take i) < l[i].slot) && decide (l[i].slot < n) && fine l[i].value) := by
  rw [List.take_succ_eq_append_getElem hi, asc_snoc]
section
variable {prog : Prog} (H : HasF prog)
include H
theorem c86 {m : Img} {x : Frm} (hm : OkI m) (hx : WfX x) : Pus prog 86 [m.av, x.av] (.i .i64 (fitR m x)) := by
  obtain ⟨y, rfl, h⟩ := p86 H.f86 (m0 := m) (x1 := x) (K := fun y => y = fitR m x) (by
    unfold T86_0 T86_1
    have no : ¬(0 ≤ x.func ∧ x.mode ≤ 3 ∧ ∃ f, m.funcs[x.func.toNat]? = some f ∧ fitF f x = true) → (8 : Int) = fitR m x := fun h => fitR_no fun h' => h (fitb_iff.1 h')
    refine ⟨fun h => no (by omega), fun h0 => ⟨fun h => no ?_, fun h1 => ⟨fun h => no (by omega), fun h2 => ?_⟩⟩⟩
    · rintro ⟨_, _, f, hf, _⟩
      rw [List.getElem?_eq_none (by omega)] at hf
      cases hf
    obtain ⟨f, hf, hmem⟩ := fun_at (m := m) (n := x.func) (by omega) (by omega)
    obtain ⟨q1, q2, q3, q4⟩ := hm.f f hmem
    have no : fitF f x ≠ true → (8 : Int) = fitR m x := fun h => no (by
      rintro ⟨_, _, g, hg, h'⟩
      rw [hf] at hg
      cases hg
      exact h h')
    have no : ¬(f.slots.length ≤ 16 ∧ f.name.length ≤ 16 ∧ 0 ≤ x.pos ∧ x.pos < f.code.length ∧ (∀ s ∈ f.slots, s.name.length ≤ 16) ∧ asc f.slots.length (-1) x.locals = true) → (8 : Int) = fitR m x := fun h => no fun h' => h (fitF_iff.1 h')
    unfold T86_2 T86_3
    refine ⟨by omega, f, hf, fun h => no (by omega), fun k1 => ⟨fun h => no (by omega), fun k2 => ⟨fun h => no (by omega), fun k3 => ⟨fun h => no (by omega), fun k4 => ⟨_, fun o => c122 H (l := f.slots) (f := (123, [])) (p := fun s => decide (16 < s.name.length)) (by omega) (fun s _ => c123 H s) o, fun h => no ?_, fun h => ?_⟩⟩⟩⟩⟩
    · rintro ⟨_, _, _, _, h', _⟩
      rw [List.any_eq_true] at h
      obtain ⟨s, hs, h3⟩ := h
      have := h' s hs
      simp only [decide_eq_true_eq] at h3
      omega
    have hs : ∀ s ∈ f.slots, s.name.length ≤ 16 := by
      intro s hs
      rw [List.any_eq_false] at h
      simpa using h s hs
    have no : asc f.slots.length (-1) x.locals ≠ true → (8 : Int) = fitR m x := fun h => no (by rintro ⟨_, _, _, _, _, h'⟩; exact h h')
    unfold T86_4
    intro P hP
    have hn := hx.n
    have go : ∀ k i : Nat, i + k = x.locals.length → asc f.slots.length (-1) (x.locals.take i) = true → P (lastS (-1) (x.locals.take i)) (i : Int) f := by
      intro k
      induction k with
      | zero =>
        intro i hi ha
        apply hP
        unfold T86_5 T86_6
        refine ⟨fun h => absurd h (by omega), fun _ => fitR_yes ?_⟩
        rw [List.take_of_length_le (by omega)] at ha
        exact fitb_iff.2 ⟨by omega, by omega, f, hf, fitF_iff.2 ⟨by omega, by omega, by omega, by omega, hs, ha⟩⟩
      | succ k ih =>
        intro i hi ha
        have hil : i < x.locals.length := by omega
        have e := asc_go (n := f.slots.length) hil
        have no : asc f.slots.length (-1) (x.locals.take (i + 1)) = false → (8 : Int) = fitR m x := fun h => no (by rw [asc_no h]; decide)
        rw [ha, Bool.true_and] at e
        apply hP
        unfold T86_5
        refine ⟨fun _ => ⟨by omega, _, get_at hil, fun h => no ?_, fun h3 => ⟨fun h => no ?_, fun h4 => ⟨_, c76 H.toHas38 (hx.v _ (List.getElem_mem hil)), fun h => no ?_, fun h5 => ?_⟩⟩⟩, fun h => absurd (show (i : Int) < x.locals.length by omega) h⟩
        · rw [e, decide_eq_false (by omega)]; rfl
        · rw [e, decide_eq_false (p := x.locals[i].slot < _) (by omega)]; simp
        · rw [e, show fine x.locals[i].value = false by rw [← Bool.not_eq_true]; exact fun h' => h (chk_fine.2 h')]; simp
        · rw [wr_i64 (by omega) (by omega)]
          have h6 := chk_fine.1 (Decidable.not_not.1 h5)
          have := ih (i + 1) (by omega) (by rw [e, h6, decide_eq_true (by omega), decide_eq_true (by omega)]; rfl)
          rw [List.take_succ_eq_append_getElem hil, lastS_snoc] at this
          exact this
    exact go x.locals.length 0 (by omega) rfl)
  exact h
end
end Go.AM

/- Parts of the proof. -/
namespace Go.AM
open Go
theorem slot_at {f : Fun} {n : Int} (h0 : 0 ≤ n) (h1 : n < f.slots.length) : ∃ s, f.slots[n.toNat]? = some s ∧ s ∈ f.slots ∧ slotN f n = s.name := by
  have h : n.toNat < f.slots.length := by omega
  refine ⟨f.slots[n.toNat], List.getElem?_eq_getElem h, List.getElem_mem h, ?_⟩
  unfold slotN
  rw [List.getElem?_eq_getElem h]
  rfl
theorem map_take_snoc {α β : Type} (g : α → β) {l : List α} {i : Nat} (h : i < l.length) : (l.take (i + 1)).map g = (l.take i).map g ++ [g l[i]] := by
  rw [List.take_succ_eq_append_getElem h, List.map_append]
  rfl
theorem frmL_eq {m : Img} {x : Frm} {f : Fun} (h : m.funcs[x.func.toNat]? = some f) (k : Int) : frmL m k x = headL f k x :: x.locals.map (locL f) := by
  unfold frmL
  rw [h]
theorem frR_bad {m : Img} {k : Int} {x : Frm} (h : k < 0 ∨ 170 ≤ k) : frR m k x = ([], 2) := by unfold frR; rw [if_pos h]
theorem frR_no {m : Img} {k : Int} {x : Frm} (h : ¬(k < 0 ∨ 170 ≤ k)) (h1 : fitb m x ≠ true) : frR m k x = ([], 8) := by unfold frR; rw [if_neg h, if_neg h1]
theorem frR_yes {m : Img} {k : Int} {x : Frm} (h : ¬(k < 0 ∨ 170 ≤ k)) (h1 : fitb m x = true) : frR m k x = (frmL m k x, 0) := by unfold frR; rw [if_neg h, if_pos h1]
noncomputable def sameX (a b : Frm) : Bool := @decide (a = b) (Classical.propDecidable _)
theorem sameX_true {v w : Frm} : sameX v w = true ↔ v = w := by unfold sameX; simp
theorem sameX_false {v w : Frm} : sameX v w = false ↔ v ≠ w := by rw [← Bool.not_eq_true, sameX_true]
noncomputable def sameLs (a b : List Loc) : Bool := @decide (a = b) (Classical.propDecidable _)
theorem sameLs_true {v w : List Loc} : sameLs v w = true ↔ v = w := by unfold sameLs; simp
theorem sameLs_false {v w : List Loc} : sameLs v w = false ↔ v ≠ w := by rw [← Bool.not_eq_true, sameLs_true]
section
variable {prog : Prog} (H : HasF prog)
include H
theorem c82 {m : Img} {k : Int} {x : Frm} (hm : OkI m) (hx : WfX x) : Pus prog 82 [m.av, .i .i64 k, x.av] (.tup [.sl .ext ((frR m k x).1.map rowS), .i .i64 (frR m k x).2]) := by
  obtain ⟨y, z, ⟨rfl, rfl⟩, h⟩ := p82 H.f82 (m0 := m) (k1 := k) (x2 := x) (K := fun y z => y = (frR m k x).1 ∧ z = (frR m k x).2) (by
    unfold T82_0 T82_1
    refine ⟨fun h => by rw [frR_bad (.inl h)]; exact ⟨rfl, rfl⟩, fun h0 => ⟨fun h => by rw [frR_bad (.inr h)]; exact ⟨rfl, rfl⟩, fun h1 => ?_⟩⟩
    unfold T82_2
    refine ⟨_, c86 H hm hx, fun h => ?_, fun h => ?_⟩
    · by_cases hb : fitb m x = true
      · rw [← fitR_yes hb] at h; exact absurd rfl h
      · rw [frR_no (by omega) hb, ← fitR_no hb]; exact ⟨rfl, rfl⟩
    have hb : fitb m x = true := by
      by_cases hb : fitb m x = true
      · exact hb
      · rw [← fitR_no hb] at h; exact absurd (by decide) h
    rw [frR_yes (by omega) hb]
    obtain ⟨f0, f1, f, hf, hF⟩ := fitb_iff.1 hb
    obtain ⟨g1, g2, g3, g4, g5, g6⟩ := fitF_iff.1 hF
    have hmem := List.mem_of_getElem? hf
    obtain ⟨q1, q2, q3, q4⟩ := hm.f f hmem
    have hn := hm.n
    have hfl : x.func < m.funcs.length := by
      have := (List.getElem?_eq_some_iff.1 hf).1
      omega
    have l1 := num_len k
    have l2 := num_len x.func
    have l3 := num_len x.pos
    have l4 := quo_len f.name
    have l5 := modeW_len hx.m f1
    rw [frmL_eq hf]
    unfold T82_3
    refine ⟨f0, f, hf, ?_⟩
    unfold T82_4
    refine ⟨_, c111 H (by omega) (by omega), ?_, ?_, _, c111 H (by omega) (by omega), ?_, ?_, _, c112 H (by omega), ?_, ?_, _, c111 H (by omega) (by omega), ?_, ?_, _, c113 H, rfl, hx.m, _, modes4_get hx.m f1, ?_, fun P hP => ?_⟩
    all_goals try (rw [maxStr_eq]; simp only [List.length_append, List.length_cons, List.length_nil]; omega)
    have len := asc_len g6
    have hn2 : x.locals.length ≤ 16 := by
      rcases len with h | h
      · rw [h]; exact Nat.zero_le _
      · omega
    refine loop_up (P := fun o i => P o i f) (fun i => headL f k x :: (x.locals.take i).map (locL f)) x.locals.length (hP _ _ _ ?_) fun i hi ih => hP _ _ _ ?_
    · unfold T82_5 T82_6
      rw [List.take_length]
      exact ⟨fun h => absurd h (by omega), fun _ => ⟨rfl, rfl⟩⟩
    · obtain ⟨a1, a2, a3⟩ := asc_mem g6 _ (List.getElem_mem hi)
      obtain ⟨s, b1, b2, b3⟩ := slot_at (f := f) (n := x.locals[i].slot) (by omega) (by omega)
      have c1 := num_len x.locals[i].slot
      have c2 := quo_len s.name
      have c3 := q4 s b2
      have c4 := fine_len a3
      unfold T82_5
      refine ⟨fun _ => ⟨by omega, _, get_at hi, _, _, c72 H.toHas38 (hx.v _ (List.getElem_mem hi)), fun h => absurd (chk_fine.2 a3) h, fun _ => ?_⟩, fun h => absurd (show (i : Int) < x.locals.length by omega) h⟩
      rw [if_pos a3]
      refine ⟨_, c111 H (by omega) (by omega), ?_, ?_, by omega, s, b1, _, c112 H (by omega), ?_, ?_, ?_, ⟨?_, ?_⟩, ?_⟩
      all_goals try (rw [maxStr_eq]; simp only [List.length_append, List.length_cons, List.length_nil]; omega)
      all_goals try (rw [maxBytes_eq]; simp only [List.length_append, List.length_cons, List.length_nil, List.length_map, List.length_take]; omega)
      rw [wr_i64 (by omega) (by omega)]
      rw [map_take_snoc (locL f) hi] at ih
      unfold locL at ih ⊢
      rw [b3] at ih
      exact ih)
  exact h
theorem c124 {a b : List Loc} (ha : a.length ≤ 9223372036854775807) (hw : ∀ l ∈ a, Wf l.value) : Pus prog 124 [.sl .ext (a.map Loc.row), .sl .ext (b.map Loc.row)] (.b (sameLs a b)) := by
  obtain ⟨x, rfl, h⟩ := p124 H.f124 (a0 := a) (b1 := b) (K := fun x => x = sameLs a b) (by
    have no : ∀ {p : Prop}, (a = b → p) → ¬p → false = sameLs a b := fun h1 h2 => (sameLs_false.2 fun h => h2 (h1 h)).symm
    unfold T124_0
    refine ⟨fun h => no (fun e => by rw [e]) h, fun h P hP => ?_⟩
    have h5 : a.length = b.length := by omega
    refine loop_inv0 (P := P) a.length (fun i => a.take i = b.take i) (by simp) (fun hI => hP _ ?_) (fun i hi hI ihP => hP _ ?_)
    · unfold T124_1 T124_2
      refine ⟨fun h => absurd h (by omega), fun _ => ?_⟩
      rw [List.take_length, h5, List.take_length] at hI
      exact (sameLs_true.2 hI).symm
    · have hi2 : i < b.length := by omega
      unfold T124_1
      refine ⟨fun _ => ⟨by omega, _, get_at hi, by omega, _, get_at hi2, fun h6 => no (p := a[i].slot = b[i].slot) (fun e => by subst e; rfl) h6, fun h6 => ⟨by omega, _, get_at hi, by omega, _, get_at hi2, _, c78 H.toHas38 (hw _ (List.getElem_mem hi)) _, fun h7 => no (p := a[i].value = b[i].value) (fun e => by subst e; rfl) (sameV_false.1 (by simpa using h7)), fun h7 => ?_⟩⟩, fun h => absurd (show (i : Int) < a.length by omega) h⟩
      rw [wr_i64 (by omega) (by omega)]
      refine ihP ?_
      have e1 : a[i].slot = b[i].slot := Decidable.not_not.1 h6
      have e2 : a[i].value = b[i].value := sameV_true.1 (by simpa using h7)
      have e : a[i] = b[i] := by
        cases ha : a[i]; cases hb : b[i]
        rw [ha, hb] at e1 e2
        simp only at e1 e2
        rw [e1, e2]
      rw [List.take_succ_eq_append_getElem hi, List.take_succ_eq_append_getElem hi2, hI, e])
  exact h
theorem c88 {a b : Frm} (ha : WfX a) : Pus prog 88 [a.av, b.av] (.b (sameX a b)) := by
  obtain ⟨x, rfl, h⟩ := p88 H.f88 (a0 := a) (b1 := b) (K := fun x => x = sameX a b) (by
    have no : ∀ {p : Prop}, (a = b → p) → ¬p → false = sameX a b := fun h1 h2 => (sameX_false.2 fun h => h2 (h1 h)).symm
    unfold T88_0
    refine ⟨fun h1 => ⟨fun h2 => ⟨fun h3 => ⟨_, c124 H ha.n ha.v, ?_⟩, fun h => no (fun e => by rw [e]) h⟩, fun h => no (fun e => by rw [e]) h⟩, fun h => no (fun e => by rw [e]) h⟩
    cases a; cases b
    simp only at h1 h2 h3 ⊢
    subst h1; subst h2; subst h3
    unfold sameLs sameX
    simp)
  exact h
end
end Go.AM

/- Parts of the proof. -/
namespace Go.AM
open Go
structure HasG (prog : Prog) : Prop extends HasF prog where
  f84 : prog.fn 84 = some pf84
  f117 : prog.fn 117 = some pf117
  f118 : prog.fn 118 = some pf118
  f140 : prog.fn 140 = some pf140
theorem nameAt_eq {m : Img} {n : Int} {f : Fun} (h : m.funcs[n.toNat]? = some f) : nameAt m n = f.name := by unfold nameAt; rw [h]; rfl
theorem codeAt_eq {m : Img} {n : Int} {f : Fun} (h : m.funcs[n.toNat]? = some f) : codeAt m n = (f.code.length : Int) := by unfold codeAt; rw [h]; rfl
theorem max0 (a : Int) : (if 0 < a then a else 0) = max 0 a := by
  by_cases h : 0 < a
  · rw [if_pos h]; omega
  · rw [if_neg h]; omega
theorem scI_len (n : Int) (s : Bytes) : (scI n s).2.2.length ≤ s.length := scNum_len s
section
variable {prog : Prog} (H : HasG prog)
include H
theorem c140 {n : Int} {s : Bytes} (hs : s.length ≤ 1000000000) : PuX prog 140 (Bx [.s s]) [.i .i64 n] (fun r => r = .tup [.i .i64 (scI n s).1, .b (scI n s).2.1]) (Bx [.s (scI n s).2.2]) := by
  refine (p140 H.f140 (n1 := n) (mP := ⟨s⟩) (K := fun x y b => x = (scI n s).1 ∧ y = (scI n s).2.1 ∧ b = ⟨(scI n s).2.2⟩) ?_).to (b := ⟨(scI n s).2.2⟩) fun r b' hk => ?_
  · unfold T140_0
    refine ⟨_, _, ⟨_⟩, c131 H.toHas38 hs, fun h => ⟨fun h1 => ⟨rfl, ?_, rfl⟩, fun h1 => ⟨rfl, ?_, rfl⟩⟩, fun h => ⟨rfl, ?_, rfl⟩⟩
    · unfold scI; simp only [h, decide_eq_true (show 0 ≤ (scNum s).1 by omega), Bool.true_and]
    · unfold scI; simp only [h, decide_eq_false (show ¬0 ≤ (scNum s).1 by omega), Bool.true_and, Bool.false_and]
    · unfold scI; simp only [h, Bool.false_and]
  · obtain ⟨x0, x1, h1, rfl, rfl, rfl⟩ := hk
    exact ⟨h1, rfl⟩
abbrev FrA (r : Int × Frm × Bool) : AV := .tup [.i .i64 r.1, r.2.1.avo .full, .b r.2.2]
theorem c117 {m : Img} (hm : OkI m) {s : Bytes} (hs : s.length ≤ 1000000000) : PuN prog 117 [m.av, .s s] (fun r => r = FrA (frP m s)) := by
  refine (p117 H.f117 (m0 := m) (line1 := s) (K := fun x y z => x = (frP m s).1 ∧ y = (frP m s).2.1 ∧ z = (frP m s).2.2) ?_).to ?_
  · have hn := hm.n
    unfold T117_0 T117_1 T117_2 T117_3
    refine ⟨_, ⟨(cutp [35] s).1⟩, c128 H.toHas38 [35] s, fun h => ?_, fun h => ?_⟩
    · unfold frP
      rw [if_pos (by simpa using h)]
      exact ⟨rfl, rfl, rfl⟩
    have e : frP m s = frP1 m (cutp [35] s).1 := by unfold frP; rw [if_neg (by simpa using h)]
    rw [e]
    have hl : (cutp [35] s).1.length ≤ 1000000000 := Nat.le_trans (cutp_len _ _) hs
    clear e h hs
    generalize (cutp [35] s).1 = t at hl ⊢
    unfold T117_4 T117_5 T117_6
    refine ⟨_, _, ⟨(scI 170 t).2.2⟩, c140 H hl, fun h => ⟨fun _ => ?_, fun h' => (by cases h')⟩, fun h => ⟨_, ⟨(cutp [32] (scI 170 t).2.2).1⟩, c128 H.toHas38 [32] _, fun h2 => ?_, fun h2 => ?_⟩⟩
    · unfold frP1
      rw [if_pos (by simpa using h)]
      exact ⟨rfl, rfl, rfl⟩
    · unfold frP1
      rw [if_neg (by simpa using h), if_pos (by simpa using h2)]
      exact ⟨rfl, rfl, rfl⟩
    have e : frP1 m t = frP2 m (scI 170 t).1 (cutp [32] (scI 170 t).2.2).1 := by unfold frP1; rw [if_neg (by simpa using h), if_neg (by simpa using h2)]
    rw [e]
    have hl : (cutp [32] (scI 170 t).2.2).1.length ≤ 1000000000 := Nat.le_trans (cutp_len _ _) (Nat.le_trans (scI_len _ _) hl)
    clear e h h2
    generalize (cutp [32] (scI 170 t).2.2).1 = u at hl ⊢
    generalize (scI 170 t).1 = k
    unfold T117_7 T117_8 T117_9
    refine ⟨_, _, ⟨(scI m.funcs.length u).2.2⟩, c140 H hl, fun h => ⟨fun _ => ?_, fun h' => (by cases h')⟩, fun h => ?_⟩
    · unfold frP2
      rw [if_pos (by simpa using h)]
      exact ⟨rfl, rfl, rfl⟩
    have h : (scI m.funcs.length u).2.1 = true := by simpa using h
    have hr := scI_rng _ _ h
    obtain ⟨f, hf, hmem⟩ := fun_at hr.1 hr.2
    obtain ⟨q1, q2, q3, q4⟩ := hm.f f hmem
    have q5 := quo_len f.name
    refine ⟨hr.1, f, hf, _, c112 H.toHasF (by omega), ?_, ?_, _, ⟨(cutp ([32] ++ quo f.name ++ [32, 97, 116, 32]) (scI m.funcs.length u).2.2).1⟩, c128 H.toHas38 _ _, fun h2 => ?_, fun h2 => ?_⟩
    · rw [maxStr_eq]; simp only [List.length_append, List.length_cons, List.length_nil]; omega
    · rw [maxStr_eq]; simp only [List.length_append, List.length_cons, List.length_nil]; omega
    · unfold frP2
      rw [if_neg (by rw [h]; decide), nameAt_eq hf, if_pos (by simpa using h2)]
      exact ⟨rfl, rfl, rfl⟩
    have e : frP2 m k u = frP3 m k (scI m.funcs.length u).1 (cutp ([32] ++ quo f.name ++ [32, 97, 116, 32]) (scI m.funcs.length u).2.2).1 := by
      unfold frP2
      rw [if_neg (by rw [h]; decide), nameAt_eq hf, if_neg (by simpa using h2)]
    rw [e]
    have hl : (cutp ([32] ++ quo f.name ++ [32, 97, 116, 32]) (scI m.funcs.length u).2.2).1.length ≤ 1000000000 := Nat.le_trans (cutp_len _ _) (Nat.le_trans (scI_len _ _) hl)
    clear e h h2 q5
    generalize (cutp ([32] ++ quo f.name ++ [32, 97, 116, 32]) (scI m.funcs.length u).2.2).1 = v at hl ⊢
    generalize (scI m.funcs.length u).1 = fi at hr hf ⊢
    have hc := codeAt_eq hf
    unfold T117_10 T117_11
    refine ⟨hr.1, f, hf, _, _, ⟨(scI (codeAt m fi) v).2.2⟩, by rw [hc]; exact c140 H hl, fun h => ⟨fun _ => ?_, fun h' => (by cases h')⟩, fun h => ⟨_, ⟨(cutp [32] (scI (codeAt m fi) v).2.2).1⟩, c128 H.toHas38 [32] _, fun h2 => ?_, fun h2 => ?_⟩⟩
    · unfold frP3
      rw [if_pos (by rw [hc]; simpa using h), hc]
      exact ⟨rfl, rfl, rfl⟩
    · unfold frP3
      rw [if_neg (by rw [hc]; simpa using h), if_pos (by simpa using h2), hc]
      exact ⟨rfl, rfl, rfl⟩
    have e : frP3 m k fi v = frP4 k fi (scI (codeAt m fi) v).1 (cutp [32] (scI (codeAt m fi) v).2.2).1 := by
      unfold frP3
      rw [if_neg (by rw [hc]; simpa using h), if_neg (by simpa using h2)]
    rw [e]
    unfold T117_12 frP4
    have hb := modeI_rng (cutp [32] (scI (codeAt m fi) v).2.2).1
    refine ⟨_, c113 H.toHasF, rfl, rfl, _, c141 H.toHasF (l := modes4) (by decide) _, rfl, ?_, rfl⟩
    rw [max0, ← hc]
    congr 1
    exact wr_u64 (show 0 ≤ max 0 (modeI (cutp [32] (scI (codeAt m fi) v).2.2).1) by omega) (show max 0 (modeI (cutp [32] (scI (codeAt m fi) v).2.2).1) < _ by omega)
  · rintro r ⟨x, y, z, rfl, rfl, rfl, rfl⟩
    rfl
theorem c118 {f : Fun} (hf : f.slots.length ≤ 30 ∧ ∀ s ∈ f.slots, s.name.length ≤ 40) {s : Bytes} (hs : s.length ≤ 1000000000) : ∃ y ok, (ok = (loP f s).isSome ∧ (ok = true → loP f s = some y)) ∧ Pus prog 118 [f.av, .s s] (.tup [y.av, .b ok]) := by
  refine p118 H.f118 (f0 := f) (line1 := s) (K := fun y ok => ok = (loP f s).isSome ∧ (ok = true → loP f s = some y)) ?_
  unfold T118_0
  have no : loP f s = none → ∀ y : Loc, false = (loP f s).isSome ∧ (false = true → loP f s = some y) := fun h y => by rw [h]; exact ⟨rfl, fun h => by cases h⟩
  refine ⟨_, ⟨(cutp [32, 32] s).1⟩, c128 H.toHas38 [32, 32] s, fun h => no ?_ _, fun h => ?_⟩
  · unfold loP; rw [if_pos (by simpa using h)]
  have hl : (cutp [32, 32] s).1.length ≤ 1000000000 := Nat.le_trans (cutp_len _ _) hs
  refine ⟨_, _, ⟨(scI f.slots.length (cutp [32, 32] s).1).2.2⟩, c140 H hl, fun h2 => no ?_ _, fun h2 => ?_⟩
  · unfold loP; rw [if_neg (by simpa using h), if_pos (by simpa using h2)]
  have h2' : (scI f.slots.length (cutp [32, 32] s).1).2.1 = true := by simpa using h2
  have hr := scI_rng _ _ h2'
  obtain ⟨sl, k1, k2, k3⟩ := slot_at hr.1 hr.2
  have q4 := hf.2 sl k2
  have q5 := quo_len sl.name
  refine ⟨hr.1, sl, k1, _, c112 H.toHasF (by omega), ?_, ?_, _, ⟨(cutp ([32] ++ quo sl.name ++ [32, 61, 32]) (scI f.slots.length (cutp [32, 32] s).1).2.2).1⟩, c128 H.toHas38 _ _, fun h3 => no ?_ _, fun h3 => ?_⟩
  · rw [maxStr_eq]; simp only [List.length_append, List.length_cons, List.length_nil]; omega
  · rw [maxStr_eq]; simp only [List.length_append, List.length_cons, List.length_nil]; omega
  · unfold loP; rw [if_neg (by simpa using h), if_neg (by simpa using h2), k3, if_pos (by simpa using h3)]
  unfold T118_1
  refine ⟨_, _, c74 H.toHas38 (Nat.le_trans (cutp_len _ _) (Nat.le_trans (scI_len _ _) hl)), ?_⟩
  unfold loP
  rw [if_neg (by simpa using h), if_neg (by simpa using h2), k3, if_neg (by simpa using h3)]
  split
  · rename_i h4; exact ⟨by rw [decide_eq_true h4]; rfl, fun _ => rfl⟩
  · rename_i h4; exact ⟨by rw [decide_eq_false h4]; rfl, fun h5 => by simp only [decide_eq_true_eq] at h5; exact absurd h5 h4⟩
end
end Go.AM

/- Parts of the proof. -/
namespace Go.AM
open Go
section
variable {prog : Prog} (H : HasG prog)
include H
end
end Go.AM

/- Parts of the proof. -/
namespace Go.AM
open Go
theorem long_len {n : Nat} {l : List Bytes} (h : long n l = false) : ∀ s ∈ l, s.length ≤ n := not_long.1 h
theorem loPs_snoc (f : Fun) : ∀ (l : List Bytes) (s : Bytes), loPs f (l ++ [s]) = (match loPs f l with | none => none | some ys => match loP f s with | none => none | some y => some (ys ++ [y]))
  | [], s => by
    simp only [List.nil_append, loPs]
    try (cases loP f s <;> rfl)
  | x :: r, s => by
    simp only [List.cons_append, loPs, loPs_snoc f r s]
    cases loP f x with
    | none => rfl
    | some y =>
      cases loPs f r with
      | none => rfl
      | some ys => cases loP f s <;> rfl
theorem loPs_take {f : Fun} {l : List Bytes} {i : Nat} (hi : i < l.length) : loPs f (l.take (i + 1)) = (match loPs f (l.take i) with | none => none | some ys => match loP f l[i] with | none => none | some y => some (ys ++ [y])) := by
  rw [List.take_succ_eq_append_getElem hi, loPs_snoc]
theorem loPs_none {f : Fun} : ∀ {l : List Bytes} {i : Nat}, loPs f (l.take i) = none → loPs f l = none
  | [], i, h => by rw [List.take_nil] at h; exact h
  | x :: r, 0, h => by cases h
  | x :: r, i + 1, h => by
    simp only [List.take_succ_cons, loPs] at h ⊢
    cases hx : loP f x with
    | none => rfl
    | some y =>
      rw [hx] at h
      simp only at h ⊢
      cases hr : loPs f (r.take i) with
      | none => rw [loPs_none hr]
      | some ys => rw [hr] at h; cases h
theorem loP_wf {f : Fun} {s : Bytes} {y : Loc} (h : loP f s = some y) : Wf y.value := by
  unfold loP at h
  repeat' split at h
  all_goals first | (cases h; done) | (cases h; exact rvs_wf _)
theorem loPs_wf {f : Fun} : ∀ {l : List Bytes} {ys : List Loc}, loPs f l = some ys → ys.length = l.length ∧ ∀ y ∈ ys, Wf y.value
  | [], ys, h => by cases h; exact ⟨rfl, by simp⟩
  | s :: r, ys, h => by
    rw [loPs] at h
    cases hx : loP f s with
    | none => rw [hx] at h; cases h
    | some y =>
      rw [hx] at h
      simp only at h
      cases hr : loPs f r with
      | none => rw [hr] at h; cases h
      | some zs =>
        rw [hr] at h
        cases h
        obtain ⟨h1, h2⟩ := loPs_wf hr
        exact ⟨by simp [h1], fun y hy => by rcases List.mem_cons.1 hy with rfl | hy; exact loP_wf hx; exact h2 y hy⟩
def rfT (m : Img) (l : List Bytes) (k : Int) (x : Frm) (f : Fun) : Int × Frm × Int := match loPs f (l.drop 1) with
  | none => (0, fz, 12)
  | some ys => if frR m k { x with locals := ys } = (l, 0) then (k, { x with locals := ys }, 0) else (0, fz, 12)
theorem rfR_many {m : Img} {l : List Bytes} (h : 17 < l.length ∨ long 1400060 l = true) : rfR m l = (0, fz, 4) := by unfold rfR; rw [if_pos h]
theorem rfR_nil {m : Img} : rfR m [] = (0, fz, 12) := by unfold rfR; rw [if_neg (by decide)]
theorem rfR_no {m : Img} {l : List Bytes} {s : Bytes} (h : ¬(17 < l.length ∨ long 1400060 l = true)) (hs : l[0]? = some s) (hf : (frP m s).2.2 = false) : rfR m l = (0, fz, 12) := by
  cases l with
  | nil => cases hs
  | cons t r =>
    injection hs with hs
    subst hs
    unfold rfR
    rw [if_neg h]
    simp only
    rw [if_pos hf]
theorem rfR_yes {m : Img} {l : List Bytes} {s : Bytes} {f : Fun} (h : ¬(17 < l.length ∨ long 1400060 l = true)) (hs : l[0]? = some s) (hf : (frP m s).2.2 = true) (hm : m.funcs[(frP m s).2.1.func.toNat]? = some f) : rfR m l = rfT m l (frP m s).1 (frP m s).2.1 f := by
  cases l with
  | nil => cases hs
  | cons t r =>
    injection hs with hs
    subst hs
    unfold rfR rfT
    rw [if_neg h]
    simp only
    rw [if_neg (by rw [hf]; decide), hm]
    rfl
theorem any_long {l : List Bytes} : l.any (fun s => decide (1400060 < s.length)) = long 1400060 l := rfl
section
variable {prog : Prog} (H : HasG prog)
include H
theorem c84 {m : Img} (hm : OkI m) {l : List Bytes} (hl : l.length ≤ 9223372036854775807) : Pus prog 84 [m.av, .sl .ext (l.map rowS)] (.tup [.i .i64 (rfR m l).1, (rfR m l).2.1.av, .i .i64 (rfR m l).2.2]) := by
  obtain ⟨x, y, z, ⟨rfl, rfl, rfl⟩, h⟩ := p84 H.f84 (m0 := m) (l1 := l) (K := fun x y z => x = (rfR m l).1 ∧ y = (rfR m l).2.1 ∧ z = (rfR m l).2.2) (by
    unfold T84_0 T84_1 T84_2
    refine ⟨fun h => ⟨fun _ => ?_, fun h' => (by cases h')⟩, fun h => ⟨_, fun o => c115 H.toHasF (l := l) (f := (116, [])) (p := fun s => decide (1400060 < s.length)) hl (fun s _ => c116 H.toHasF s) o, fun h2 => ?_, fun h2 => ?_⟩⟩
    · rw [rfR_many (.inl (by omega))]; exact ⟨rfl, rfl, rfl⟩
    · rw [rfR_many (.inr h2)]; exact ⟨rfl, rfl, rfl⟩
    have hok : ¬(17 < l.length ∨ long 1400060 l = true) := by
      rintro (h3 | h3)
      · omega
      · rw [any_long, h3] at h2; cases h2
    have hlen := long_len (n := 1400060) (l := l) h2
    unfold T84_3
    refine ⟨fun h3 => ?_, fun h3 => ?_⟩
    · have : l = [] := len0 (by omega)
      subst this
      rw [rfR_nil]; exact ⟨rfl, rfl, rfl⟩
    have h0 : 0 < l.length := by omega
    have hs : l[0]? = some l[0] := List.getElem?_eq_getElem h0
    have hs0 := hlen _ (List.getElem_mem h0)
    unfold T84_4 T84_5
    refine ⟨_, hs, _, _, _, c117 H hm (by omega), fun h4 => ?_, fun h4 => ?_⟩
    · rw [rfR_no hok hs (by simpa using h4)]; exact ⟨rfl, rfl, rfl⟩
    have h4 : (frP m l[0]).2.2 = true := by simpa using h4
    obtain ⟨g1, g2, g3, g4⟩ := frP_ok h4
    obtain ⟨f, hf, hmem⟩ := fun_at g1 g2
    obtain ⟨q1, q2, q3, q4⟩ := hm.f f hmem
    rw [rfR_yes hok hs h4 hf]
    have g5 := frP_mode m l[0]
    have g6 := frP_locals m l[0]
    generalize (frP m l[0]).1 = k at g3 g4 ⊢
    generalize (frP m l[0]).2.1 = x at g1 g2 g5 g6 hf ⊢
    unfold T84_6
    refine ⟨by omega, fun P hP => ?_⟩
    have go : ∀ n i : Nat, i + n = (l.drop 1).length → ∀ ys, loPs f ((l.drop 1).take i) = some ys → P (i : Int) m fz { x with locals := ys } := by
      intro n
      induction n with
      | zero =>
        intro i hi ys hys
        apply hP
        rw [List.take_of_length_le (by omega)] at hys
        obtain ⟨a1, a2⟩ := loPs_wf hys
        have hx : WfX { x with locals := ys } := ⟨g5, by rw [a1]; simp; omega, a2⟩
        have e : rfT m l k x f = if frR m k { x with locals := ys } = (l, 0) then (k, { x with locals := ys }, 0) else (0, fz, 12) := by unfold rfT; rw [hys]
        unfold T84_7 T84_8
        refine ⟨fun h => absurd h (by omega), fun _ => ⟨_, _, c82 H.toHasF hm hx, fun h5 => ?_, fun h5 => ?_⟩⟩
        · unfold T84_9
          rw [e, if_neg (fun h6 => h5 (by rw [h6]))]
          exact ⟨fun _ => ⟨rfl, rfl, rfl⟩, fun h' => (by cases h')⟩
        · have hb : (frR m k { x with locals := ys }).1.length ≤ 9223372036854775807 := by
            unfold frR
            split
            · exact Nat.zero_le _
            · split
              · rw [frmL_eq (x := { x with locals := ys }) (f := f) hf]; simp [a1]; omega
              · exact Nat.zero_le _
          refine ⟨_, c119 H.toHasF hb, ?_⟩
          unfold T84_9 T84_10
          refine ⟨fun h6 => ?_, fun h6 => ?_⟩
          · rw [e, if_neg (fun h7 => by rw [h7] at h6; simp at h6)]; exact ⟨rfl, rfl, rfl⟩
          · have h6 : (frR m k { x with locals := ys }).1 = l := by simpa using h6
            rw [e, if_pos (by rw [← h6]; exact Prod.ext rfl (Decidable.not_not.1 h5))]; exact ⟨rfl, rfl, rfl⟩
      | succ n ih =>
        intro i hi ys hys
        have hd : (l.drop 1).length = l.length - 1 := by simp
        have hil : i < (l.drop 1).length := by omega
        apply hP
        have hsl := hlen _ (List.mem_of_mem_drop (List.getElem_mem hil))
        obtain ⟨y, ok, ⟨b1, b2⟩, b3⟩ := c118 H (f := f) ⟨q2, q4⟩ (s := (l.drop 1)[i]) (by omega)
        obtain ⟨a1, a2⟩ := loPs_wf hys
        have hyl : ys.length ≤ 20 := by rw [a1]; simp; omega
        have e := loPs_take (f := f) hil
        rw [hys] at e
        unfold T84_7
        refine ⟨fun _ => ⟨by omega, _, get_at hil, g1, f, hf, y, ok, b3, fun h5 => ?_, fun h5 => ⟨⟨?_, ?_⟩, ?_⟩⟩, fun h => absurd (show (i : Int) < ((l.drop 1).length : Int) by omega) h⟩
        · have : loP f (l.drop 1)[i] = none := by
            rw [← Option.not_isSome_iff_eq_none, ← b1]
            simpa using h5
          rw [this] at e
          have : rfT m l k x f = (0, fz, 12) := by unfold rfT; rw [loPs_none e]
          rw [this]; exact ⟨rfl, rfl, rfl⟩
        · simp only [List.length_cons, List.length_nil, maxBytes_eq]; omega
        · simp only [List.length_cons, List.length_nil, maxBytes_eq]; omega
        · rw [wr_i64 (by omega) (by omega)]
          rw [b2 (by simpa using h5)] at e
          exact ih (i + 1) (by omega) _ e
    have := go (l.drop 1).length 0 (by omega) [] rfl
    rw [← g6] at this
    exact this)
  exact h
omit H in
theorem sameX_rfl (a : Frm) : sameX a a = true := sameX_true.2 rfl
end
end Go.AM

/- Parts of the proof. -/
namespace Go.AM
open Go
structure HasL (prog : Prog) : Prop extends HasG prog where
  f89 : prog.fn 89 = some pf89
  f90 : prog.fn 90 = some pf90
  f91 : prog.fn 91 = some pf91
  f92 : prog.fn 92 = some pf92
  f93 : prog.fn 93 = some pf93
  f98 : prog.fn 98 = some pf98
  f99 : prog.fn 99 = some pf99
  f101 : prog.fn 101 = some pf101
  f125 : prog.fn 125 = some pf125
theorem Wf.of {k n : Int} {s : Bytes} {l : List Val} {c : Bool} (hk : 0 ≤ k ∧ k < 256) (hn : -9223372036854775808 ≤ n ∧ n < 9223372036854775808) (hl : l.length ≤ 9223372036854775807) (h : ∀ x ∈ l, Wf x) : Wf (.mk k n s l c) := .mk hk hn hl h
noncomputable def isB (v : Val) (s : Bytes) : Bool := @decide (fine v = true ∧ txt v = s) (Classical.propDecidable _)
theorem isB_true {v : Val} {s : Bytes} : isB v s = true ↔ fine v = true ∧ txt v = s := by unfold isB; simp
theorem isB_false {v : Val} {s : Bytes} : isB v s = false ↔ ¬(fine v = true ∧ txt v = s) := by rw [← Bool.not_eq_true, isB_true]
def tGiven : Bytes := [123, 116, 114, 117, 101, 44, 32, 45, 53, 44, 32, 38, 60, 34, 97, 34, 44, 32, 34, 34, 62, 125]
def vNum (n : Int) : Val := Val.mk 2 n [] [] false
def vTxt (s : Bytes) : Val := Val.mk 3 0 s [] false
def vYes : Val := Val.mk 1 1 [] [] false
def vOf (k : Int) (l : List Val) : Val := Val.mk k 0 [] l false
def vGiven : Val := vOf 5 [vYes, vNum (-5), vOf 4 [vOf 7 [vTxt [97], vTxt []]]]
def iProg : Img := Img.mk [] [] [Fun.mk [109, 97, 105, 110] 0 0 [] (rep 9 Ins.zero) [] [], Fun.mk [102] 0 0 [] (rep 9 Ins.zero) [] [], Fun.mk [102] 0 0 [Fld.mk [97] 0, Fld.mk [120] 0, Fld.mk [122] 0] (rep 9 Ins.zero) [] []]
def xLive : Frm := Frm.mk 2 7 1 [Loc.mk 1 (vNum 3)]
def lLive : List Bytes := [[35, 48, 32, 50, 32, 34, 102, 34, 32, 97, 116, 32, 55, 32, 100, 101, 102, 101, 114], [32, 32, 49, 32, 34, 120, 34, 32, 61, 32, 51]]
theorem wfNum {n : Int} (h : -9223372036854775808 ≤ n ∧ n < 9223372036854775808) : Wf (vNum n) := .mk (by decide) h (by decide) (by simp)
theorem wfTxt (s : Bytes) : Wf (vTxt s) := .mk (by decide) (by decide) (by decide) (by simp)
theorem wfYes : Wf vYes := .mk (by decide) (by decide) (by decide) (by simp)
theorem wfOf {k : Int} {l : List Val} (hk : 0 ≤ k ∧ k < 256) (hl : l.length ≤ 9223372036854775807) (h : ∀ x ∈ l, Wf x) : Wf (vOf k l) := .mk hk (by decide) hl h
theorem wfGiven : Wf vGiven := by
  refine wfOf (by decide) (by simp) fun x hx => ?_
  simp only [List.mem_cons, List.not_mem_nil, or_false] at hx
  rcases hx with rfl | rfl | rfl
  · exact wfYes
  · exact wfNum (by decide)
  · refine wfOf (by decide) (by simp) fun x hx => ?_
    rw [List.mem_singleton.1 hx]
    refine wfOf (by decide) (by simp) fun x hx => ?_
    simp only [List.mem_cons, List.not_mem_nil, or_false] at hx
    rcases hx with rfl | rfl <;> exact wfTxt _
theorem given_ok : fine vGiven = true ∧ txt vGiven = tGiven := by decide +kernel
theorem cutpv_ok : fine (Val.mk 4 0 [] [] true) = true ∧ txt (Val.mk 4 0 [] [] true) = tCutP := by decide +kernel
theorem emptys_ok : fine (vOf 7 []) = true ∧ txt (vOf 7 []) = [60, 62] := by decide +kernel
theorem none1 : (rvs [91, 93]).2 = 12 := by decide +kernel
theorem none2 : (rvs [123, 116, 114, 117, 101, 44, 102, 97, 108, 115, 101, 125]).2 = 12 := by decide +kernel
theorem frLive : frR iProg 0 xLive = (lLive, 0) := by decide +kernel
theorem rvs_bad {s : Bytes} (h : (rvs s).2 = 12) : (rvs s).1 = vz := by
  unfold rvs at h ⊢
  split
  · rfl
  · rename_i h1
    rw [if_neg h1] at h
    split
    · rename_i h2; rw [if_pos h2] at h; cases h
    · rfl
theorem okProg : OkI iProg := OkI.of (by decide +kernel)
theorem wxLive : WfX xLive := ⟨by decide, by decide, fun l hl => by rw [List.mem_singleton.1 hl]; exact wfNum (by decide)⟩
theorem live_fr : frP iProg [35, 48, 32, 50, 32, 34, 102, 34, 32, 97, 116, 32, 55, 32, 100, 101, 102, 101, 114] = (0, { xLive with locals := [] }, true) := by kernel_rfl
theorem live_lo : loPs (Fun.mk [102] 0 0 [Fld.mk [97] 0, Fld.mk [120] 0, Fld.mk [122] 0] (rep 9 Ins.zero) [] []) (lLive.drop 1) = some [Loc.mk 1 (vNum 3)] := by kernel_rfl
theorem rfLive : rfR iProg lLive = (0, xLive, 0) := by
  rw [rfR_yes (s := [35, 48, 32, 50, 32, 34, 102, 34, 32, 97, 116, 32, 55, 32, 100, 101, 102, 101, 114]) (f := Fun.mk [102] 0 0 [Fld.mk [97] 0, Fld.mk [120] 0, Fld.mk [122] 0] (rep 9 Ins.zero) [] []) (by decide +kernel) rfl (by rw [live_fr]) (by rw [live_fr]; rfl), live_fr]
  unfold rfT
  rw [live_lo]
  exact if_pos frLive
section
variable {prog : Prog} (H : HasL prog)
include H
theorem c89 (k : Int) (l : List Val) : PuN prog 89 [.i .u8 k, .sl .full (l.map Val.row)] (fun r => r = (vOf k l).avo .full) := by
  refine (p89 H.f89 (kind0 := k) (l1 := l) (K := fun v => v = vOf k l) rfl).to fun r ⟨v, h1, h2⟩ => ?_
  rw [h1, h2]
theorem c90 : Pus prog 90 [] vYes.av := by
  obtain ⟨v, rfl, h⟩ := p90 H.f90 (K := fun v => v = vYes) rfl
  exact h
theorem c92 (n : Int) : Pus prog 92 [.i .i64 n] (vNum n).av := by
  obtain ⟨v, rfl, h⟩ := p92 H.f92 (n0 := n) (K := fun v => v = vNum n) rfl
  exact h
theorem c93 (s : Bytes) : Pus prog 93 [.s s] (vTxt s).av := by
  obtain ⟨v, rfl, h⟩ := p93 H.f93 (s0 := s) (K := fun v => v = vTxt s) rfl
  exact h
theorem c99 : Pus prog 99 [] iProg.av := by
  obtain ⟨v, rfl, h⟩ := p99 H.f99 (K := fun v => v = iProg) rfl
  exact h
theorem c91 {v : Val} (hw : Wf v) {s : Bytes} (hs : s.length ≤ 1000000000) : Pus prog 91 [v.av, .s s] (.b (isB v s)) := by
  obtain ⟨x, rfl, h⟩ := p91 H.f91 (v0 := v) (want1 := s) (K := fun x => x = isB v s) (by
    unfold T91_0
    refine ⟨_, _, c72 H.toHas38 hw, _, _, c74 H.toHas38 hs, fun h1 => ?_, fun h1 => ?_⟩
    · have h1 := chk_fine.1 h1
      rw [if_pos h1]
      refine ⟨fun h2 => ?_, fun h2 => ?_⟩
      · subst h2
        rw [rvs_txt h1 hw]
        exact ⟨fun _ => ⟨_, c78 H.toHas38 hw _, by rw [sameV_rfl, isB_true.2 ⟨h1, rfl⟩]⟩, fun h => absurd rfl h⟩
      · rw [isB_false.2 fun h => h2 h.2]
    · rw [isB_false.2 fun h => h1 (chk_fine.2 h.1)])
  exact h
theorem c98 {s : Bytes} (hs : s.length ≤ 1000000000) (h12 : (rvs s).2 = 12) : Pus prog 98 [.s s] (.b true) := by
  obtain ⟨x, rfl, h⟩ := p98 H.f98 (s0 := s) (K := fun x => x = true) (by
    unfold T98_0
    refine ⟨_, _, c74 H.toHas38 hs, fun _ => ⟨_, c78 H.toHas38 (rvs_wf s) vz, ?_⟩, fun h => absurd h12 h⟩
    rw [rvs_bad h12, sameV_rfl])
  exact h
theorem c125 : Pus prog 125 [] vGiven.av := by
  obtain ⟨v, rfl, h⟩ := p125 H.f125 (K := fun v => v = vGiven) (by
    unfold T125_0
    exact ⟨_, c90 H, _, c92 H _, _, c93 H _, _, c93 H _, _, c89 H _ _, _, c89 H _ _, _, c89 H _ _, rfl⟩)
  exact h
theorem c101 : Pus prog 101 [] (.b true) := by
  obtain ⟨v, rfl, h⟩ := p101 H.f101 (K := fun v => v = true) (by
    unfold T101_0 T101_1
    have k82 := c82 H.toHasF (k := 0) okProg wxLive
    rw [frLive] at k82
    have k84 := c84 H.toHasG okProg (l := lLive) (by decide)
    rw [rfLive] at k84
    have k1 := c91 H wfGiven (s := tGiven) (by decide)
    rw [isB_true.2 given_ok] at k1
    have k2 := c91 H (v := Val.mk 4 0 [] [] true) (.mk (by decide) (by decide) (by decide) (by simp)) (s := tCutP) (by decide)
    rw [isB_true.2 cutpv_ok] at k2
    have k3 := c91 H (v := vOf 7 []) (wfOf (by decide) (by decide) (by simp)) (s := [60, 62]) (by decide)
    rw [isB_true.2 emptys_ok] at k3
    have k4 := c29 H.toHas03 (a := lLive) (b := lLive) (by decide)
    rw [decide_eq_true rfl] at k4
    have k5 := c88 H.toHasF (a := xLive) (b := xLive) wxLive
    rw [sameX_rfl] at k5
    exact ⟨_, c92 H 3, _, c99 H, _, _, k82, _, c99 H, _, _, _, k84, _, c125 H, _, k1, fun _ => ⟨_, k2, fun _ => ⟨_, c89 H 7 [], _, k3, fun _ => ⟨_, c98 H (by decide) none1, fun _ => ⟨_, c98 H (by decide) none2, fun _ => ⟨fun _ => ⟨_, k4, fun _ => ⟨fun _ => ⟨fun _ => ⟨_, k5, rfl⟩, fun h => absurd rfl h⟩, fun h => absurd rfl h⟩, fun h => (by cases h)⟩, fun h => absurd rfl h⟩, fun h => (by cases h)⟩, fun h => (by cases h)⟩, fun h => (by cases h)⟩, fun h => (by cases h)⟩, fun h => (by cases h)⟩)
  exact h
omit H in
theorem fine_of {k : Int} {l m : List Val} (h : fine (vOf 5 l) = true) (hm : ∀ x ∈ m, x ∈ l) (hn : Val.nodesL m ≤ Val.nodesL l) (hk : Okh k 0 0 m.length 0) : fine (vOf k m) = true := by
  obtain ⟨h1, h2⟩ := fine_ok h
  simp only [fine, Bool.and_eq_true, decide_eq_true_eq]
  rw [nodes_eq] at h2 ⊢
  have h3 := okv_sub h1
  refine ⟨?_, ?_⟩
  · show (decide (vOf k m).okh && m.all (okv 129)) = true
    rw [Bool.and_eq_true]
    exact ⟨decide_eq_true hk, List.all_eq_true.2 fun x hx => h3 x (hm x hx)⟩
  · have e1 : (vOf k m).list = m := rfl
    have e2 : (vOf 5 l).list = l := rfl
    rw [e1]; rw [e2] at h2; omega
omit H in
theorem txts_two (v w : Val) : txts [v, w] = txt v ++ [44, 32] ++ txt w := by simp [txts, txtl]
theorem law70 (hf : prog.fn 70 = some pf70) {v w : Val} (hv : Wf v) (hw : Wf w) : Pus prog 70 [v.av, w.av] (.b true) := by
  obtain ⟨x, rfl, h⟩ := p70 hf (v0 := v) (w1 := w) (K := fun x => x = true) (by
    unfold T70_0 T70_1 T70_2
    refine ⟨_, c101 H, _, c71 H.toHas38 hv, fun _ => rfl, fun _ => ⟨_, c71 H.toHas38 hw, fun _ => rfl, fun _ => ⟨fun h => (by cases h), fun _ => ?_⟩⟩⟩
    unfold T70_3 T70_4
    refine ⟨_, _, c72 H.toHas38 hv, _, _, c72 H.toHas38 hw, ?_⟩
    have bd : ∀ v : Val, chkR v = 0 ∨ chkR v = 8 := fun v => by unfold chkR; split <;> simp
    have bad : ∀ (a b : Bytes), T70_6 prog (fun x => x = true) true a (chkR v) b (chkR w) true v w := by
      intro a b
      unfold T70_6
      refine ⟨fun _ => ⟨fun _ => ⟨fun _ => ⟨fun _ => rfl, fun h => decide_eq_true ((bd w).resolve_left h)⟩, fun h => ⟨fun _ => ⟨fun _ => rfl, fun h => decide_eq_true ((bd w).resolve_left h)⟩, fun h' => absurd ((bd v).resolve_left h) h'⟩⟩, fun h => (by cases h)⟩, fun h => (by cases h)⟩
    unfold T70_5
    refine ⟨fun _ => bad _ _, fun h1 => ?_⟩
    by_cases h2 : chkR w = 0
    · rw [decide_eq_false (by simpa using h2)]
      have f1 := chk_fine.1 (Decidable.not_not.1 h1)
      have f2 := chk_fine.1 h2
      have l1 := fine_len f1
      have l2 := fine_len f2
      rw [if_pos f1, if_pos f2]
      unfold T70_6
      refine ⟨fun h => (by cases h), fun _ => ?_⟩
      have hb : Wf (vOf 5 [v, w]) := wfOf (by decide) (by simp) fun x hx => by
        simp only [List.mem_cons, List.not_mem_nil, or_false] at hx
        rcases hx with rfl | rfl <;> assumption
      unfold T70_7
      refine ⟨_, c78 H.toHas38 hv w, fun h3 => ?_, fun _ => ⟨vOf 5 [v, w], c89 H _ _, _, c76 H.toHas38 hb, fun h4 => ⟨fun _ => ⟨_, c77 H.toHas38 hb, decide_eq_true h4⟩, fun h => (by cases h)⟩, fun h4 => ?_⟩⟩
      · exfalso
        apply h3
        by_cases h5 : txt v = txt w
        · rw [decide_eq_true h5, txt_inj f1 f2 hv hw h5, sameV_rfl]
        · rw [decide_eq_false h5, sameV_false.2 fun h => h5 (by rw [h])]
      · have fb := chk_fine.1 (Decidable.not_not.1 h4)
        have e1 : Val.nodesL [v, w] = v.nodes + (w.nodes + 0) := by simp only [Val.nodesL]
        have e2 : Val.nodesL [w, v] = w.nodes + (v.nodes + 0) := by simp only [Val.nodesL]
        have e3 : Val.nodesL [v] = v.nodes + 0 := by simp only [Val.nodesL]
        have e4 : Val.nodesL [w] = w.nodes + 0 := by simp only [Val.nodesL]
        have k1 := c91 H hb (s := ((([123] ++ txt v) ++ [44, 32]) ++ txt w) ++ [125]) (by simp; omega)
        rw [isB_true.2 ⟨fb, by rw [show txt (vOf 5 [v, w]) = 123 :: (txts [v, w] ++ [125]) from rfl, txts_two]; simp⟩] at k1
        have g2 : fine (vOf 6 [w, v]) = true := fine_of fb (by intro x hx; simp only [List.mem_cons, List.not_mem_nil, or_false] at hx ⊢; exact hx.symm) (by omega) (show Okh 6 0 0 2 0 by decide)
        have k2 := c91 H (v := vOf 6 [w, v]) (wfOf (by decide) (by simp) fun x hx => by
          simp only [List.mem_cons, List.not_mem_nil, or_false] at hx
          rcases hx with rfl | rfl <;> assumption) (s := ((([91] ++ txt w) ++ [44, 32]) ++ txt v) ++ [93]) (by simp; omega)
        rw [isB_true.2 ⟨g2, by rw [show txt (vOf 6 [w, v]) = 91 :: (txts [w, v] ++ [93]) from rfl, txts_two]; simp⟩] at k2
        have g3 : fine (vOf 7 [v]) = true := fine_of fb (by simp) (by omega) (show Okh 7 0 0 1 0 by decide)
        have k3 := c91 H (v := vOf 7 [v]) (wfOf (by decide) (by simp) fun x hx => by rw [List.mem_singleton.1 hx]; exact hv) (s := ([60] ++ txt v) ++ [62]) (by simp; omega)
        rw [isB_true.2 ⟨g3, by rw [show txt (vOf 7 [v]) = 60 :: (txts [v] ++ [62]) from rfl, txts_one]; simp⟩] at k3
        have g4 : fine (vOf 4 [w]) = true := fine_of fb (by simp) (by omega) (show Okh 4 0 0 1 0 by decide)
        have k4 := c91 H (v := vOf 4 [w]) (wfOf (by decide) (by simp) fun x hx => by rw [List.mem_singleton.1 hx]; exact hw) (s := [38] ++ txt w) (by simp; omega)
        rw [isB_true.2 ⟨g4, by rw [show txt (vOf 4 [w]) = 38 :: txts [w] from rfl, txts_one]; simp⟩] at k4
        unfold T70_8
        refine ⟨fun _ => ⟨?_, ?_, ?_, ?_, _, k1, fun _ => ⟨_, c89 H 6 [w, v], ?_, ?_, ?_, ?_, _, k2, fun _ => ⟨_, c89 H 7 [v], ?_, ?_, _, k3, fun _ => ⟨_, c89 H 4 [w], ?_, _, k4, rfl⟩, fun h => (by cases h)⟩, fun h => (by cases h)⟩, fun h => (by cases h)⟩, fun h => (by cases h)⟩
        all_goals (simp only [List.length_append, List.length_cons, List.length_nil, maxStr_eq]; omega)
    · rw [decide_eq_true h2]
      exact bad _ _)
  exact h
end
end Go.AM

/- The statement LinesOne: for every input the law returns true, and each argument reads afterwards as before. No conditions. -/
namespace Go.Proofs.Ytcojcdpoeaaigaa.LinesOneProof
open Go Go.AM Go.RowKit Go.ChangeShapes Go.WideShapes Go.ChangeAt

theorem ok70 : FnOk Try.prog X 7 pf70 := FnOk.of Try.func7 (by kernel_rfl) (by kernel_rfl) (by kernel_rfl) (by kernel_rfl) (by kernel_rfl)
def fns : List (Nat × AF) := [(42, pf42), (46, pf46), (36, pf36), (43, pf43), (47, pf47), (11, pf11), (15, pf15), (21, pf21), (25, pf25), (30, pf30), (34, pf34), (37, pf37), (39, pf39), (45, pf45), (29, pf29), (145, pf145), (126, pf126), (71, pf71), (72, pf72), (74, pf74), (76, pf76), (77, pf77), (78, pf78), (102, pf102), (103, pf103), (104, pf104), (107, pf107), (109, pf109), (110, pf110), (128, pf128), (129, pf129), (130, pf130), (131, pf131), (136, pf136), (82, pf82), (86, pf86), (88, pf88), (111, pf111), (112, pf112), (113, pf113), (115, pf115), (116, pf116), (119, pf119), (122, pf122), (123, pf123), (124, pf124), (139, pf139), (141, pf141), (144, pf144), (84, pf84), (117, pf117), (118, pf118), (140, pf140), (89, pf89), (90, pf90), (91, pf91), (92, pf92), (93, pf93), (98, pf98), (99, pf99), (101, pf101), (125, pf125), (70, pf70)]
def prog : Prog := ⟨fnOf fns, orcB, orsB⟩
set_option maxRecDepth 100000 in
theorem fns_ok : FnsOk Try.prog X fns fms :=
  And.intro (fun F h => noneF (show (none : Option AF) = some F from h)) (
  And.intro (fun F h => noneF (show (none : Option AF) = some F from h)) (
  And.intro (fun F h => noneF (show (none : Option AF) = some F from h)) (
  And.intro (fun F h => noneF (show (none : Option AF) = some F from h)) (
  And.intro (fun F h => noneF (show (none : Option AF) = some F from h)) (
  And.intro (fun F h => Option.some.inj (show some pf70 = some F from h) ▸ ok70) (
  And.intro (fun F h => Option.some.inj (show some pf71 = some F from h) ▸ ok71) (
  And.intro (fun F h => Option.some.inj (show some pf72 = some F from h) ▸ ok72) (
  And.intro (fun F h => noneF (show (none : Option AF) = some F from h)) (
  And.intro (fun F h => Option.some.inj (show some pf74 = some F from h) ▸ ok74) (
  And.intro (fun F h => noneF (show (none : Option AF) = some F from h)) (
  And.intro (fun F h => Option.some.inj (show some pf76 = some F from h) ▸ ok76) (
  And.intro (fun F h => Option.some.inj (show some pf77 = some F from h) ▸ ok77) (
  And.intro (fun F h => Option.some.inj (show some pf78 = some F from h) ▸ ok78) (
  And.intro (fun F h => noneF (show (none : Option AF) = some F from h)) (
  And.intro (fun F h => noneF (show (none : Option AF) = some F from h)) (
  And.intro (fun F h => noneF (show (none : Option AF) = some F from h)) (
  And.intro (fun F h => Option.some.inj (show some pf82 = some F from h) ▸ ok82) (
  And.intro (fun F h => noneF (show (none : Option AF) = some F from h)) (
  And.intro (fun F h => Option.some.inj (show some pf84 = some F from h) ▸ ok84) (
  And.intro (fun F h => noneF (show (none : Option AF) = some F from h)) (
  And.intro (fun F h => Option.some.inj (show some pf86 = some F from h) ▸ ok86) (
  And.intro (fun F h => noneF (show (none : Option AF) = some F from h)) (
  And.intro (fun F h => Option.some.inj (show some pf29 = some F from h) ▸ ok29) (
  And.intro (fun F h => Option.some.inj (show some pf88 = some F from h) ▸ ok88) (
  And.intro (fun F h => Option.some.inj (show some pf89 = some F from h) ▸ ok89) (
  And.intro (fun F h => Option.some.inj (show some pf90 = some F from h) ▸ ok90) (
  And.intro (fun F h => Option.some.inj (show some pf91 = some F from h) ▸ ok91) (
  And.intro (fun F h => Option.some.inj (show some pf92 = some F from h) ▸ ok92) (
  And.intro (fun F h => Option.some.inj (show some pf93 = some F from h) ▸ ok93) (
  And.intro (fun F h => noneF (show (none : Option AF) = some F from h)) (
  And.intro (fun F h => noneF (show (none : Option AF) = some F from h)) (
  And.intro (fun F h => noneF (show (none : Option AF) = some F from h)) (
  And.intro (fun F h => noneF (show (none : Option AF) = some F from h)) (
  And.intro (fun F h => Option.some.inj (show some pf98 = some F from h) ▸ ok98) (
  And.intro (fun F h => Option.some.inj (show some pf99 = some F from h) ▸ ok99) (
  And.intro (fun F h => noneF (show (none : Option AF) = some F from h)) (
  And.intro (fun F h => Option.some.inj (show some pf101 = some F from h) ▸ ok101) (
  And.intro (fun F h => Option.some.inj (show some pf102 = some F from h) ▸ ok102) (
  And.intro (fun F h => Option.some.inj (show some pf103 = some F from h) ▸ ok103) (
  And.intro (fun F h => Option.some.inj (show some pf104 = some F from h) ▸ ok104) (
  And.intro (fun F h => noneF (show (none : Option AF) = some F from h)) (
  And.intro (fun F h => noneF (show (none : Option AF) = some F from h)) (
  And.intro (fun F h => Option.some.inj (show some pf107 = some F from h) ▸ ok107) (
  And.intro (fun F h => noneF (show (none : Option AF) = some F from h)) (
  And.intro (fun F h => Option.some.inj (show some pf109 = some F from h) ▸ ok109) (
  And.intro (fun F h => Option.some.inj (show some pf110 = some F from h) ▸ ok110) (
  And.intro (fun F h => Option.some.inj (show some pf111 = some F from h) ▸ ok111) (
  And.intro (fun F h => Option.some.inj (show some pf112 = some F from h) ▸ ok112) (
  And.intro (fun F h => Option.some.inj (show some pf113 = some F from h) ▸ ok113) (
  And.intro (fun F h => noneF (show (none : Option AF) = some F from h)) (
  And.intro (fun F h => Option.some.inj (show some pf115 = some F from h) ▸ ok115) (
  And.intro (fun F h => Option.some.inj (show some pf116 = some F from h) ▸ ok116) (
  And.intro (fun F h => Option.some.inj (show some pf117 = some F from h) ▸ ok117) (
  And.intro (fun F h => Option.some.inj (show some pf118 = some F from h) ▸ ok118) (
  And.intro (fun F h => Option.some.inj (show some pf119 = some F from h) ▸ ok119) (
  And.intro (fun F h => noneF (show (none : Option AF) = some F from h)) (
  And.intro (fun F h => noneF (show (none : Option AF) = some F from h)) (
  And.intro (fun F h => Option.some.inj (show some pf122 = some F from h) ▸ ok122) (
  And.intro (fun F h => Option.some.inj (show some pf123 = some F from h) ▸ ok123) (
  And.intro (fun F h => Option.some.inj (show some pf124 = some F from h) ▸ ok124) (
  And.intro (fun F h => Option.some.inj (show some pf125 = some F from h) ▸ ok125) (
  And.intro (fun F h => Option.some.inj (show some pf126 = some F from h) ▸ ok126) (
  And.intro (fun F h => Option.some.inj (show some pf15 = some F from h) ▸ ok15) (
  And.intro (fun F h => Option.some.inj (show some pf11 = some F from h) ▸ ok11) (
  And.intro (fun F h => noneF (show (none : Option AF) = some F from h)) (
  And.intro (fun F h => noneF (show (none : Option AF) = some F from h)) (
  And.intro (fun F h => noneF (show (none : Option AF) = some F from h)) (
  And.intro (fun F h => Option.some.inj (show some pf128 = some F from h) ▸ ok128) (
  And.intro (fun F h => Option.some.inj (show some pf129 = some F from h) ▸ ok129) (
  And.intro (fun F h => Option.some.inj (show some pf130 = some F from h) ▸ ok130) (
  And.intro (fun F h => Option.some.inj (show some pf131 = some F from h) ▸ ok131) (
  And.intro (fun F h => noneF (show (none : Option AF) = some F from h)) (
  And.intro (fun F h => noneF (show (none : Option AF) = some F from h)) (
  And.intro (fun F h => noneF (show (none : Option AF) = some F from h)) (
  And.intro (fun F h => noneF (show (none : Option AF) = some F from h)) (
  And.intro (fun F h => noneF (show (none : Option AF) = some F from h)) (
  And.intro (fun F h => noneF (show (none : Option AF) = some F from h)) (
  And.intro (fun F h => Option.some.inj (show some pf136 = some F from h) ▸ ok136) (
  And.intro (fun F h => noneF (show (none : Option AF) = some F from h)) (
  And.intro (fun F h => noneF (show (none : Option AF) = some F from h)) (
  And.intro (fun F h => Option.some.inj (show some pf139 = some F from h) ▸ ok139) (
  And.intro (fun F h => Option.some.inj (show some pf140 = some F from h) ▸ ok140) (
  And.intro (fun F h => Option.some.inj (show some pf141 = some F from h) ▸ ok141) (
  And.intro (fun F h => noneF (show (none : Option AF) = some F from h)) (
  And.intro (fun F h => noneF (show (none : Option AF) = some F from h)) (
  And.intro (fun F h => Option.some.inj (show some pf144 = some F from h) ▸ ok144) (
  And.intro (fun F h => Option.some.inj (show some pf145 = some F from h) ▸ ok145) (
  And.intro (fun F h => Option.some.inj (show some pf34 = some F from h) ▸ ok34) (
  And.intro (fun F h => Option.some.inj (show some pf30 = some F from h) ▸ ok30) (
  And.intro (fun F h => noneF (show (none : Option AF) = some F from h)) (
  And.intro (fun F h => noneF (show (none : Option AF) = some F from h)) (
  And.intro (fun F h => Option.some.inj (show some pf36 = some F from h) ▸ ok36) (
  And.intro (fun F h => Option.some.inj (show some pf25 = some F from h) ▸ ok25) (
  And.intro (fun F h => Option.some.inj (show some pf21 = some F from h) ▸ ok21) (
  And.intro (fun F h => noneF (show (none : Option AF) = some F from h)) (
  And.intro (fun F h => noneF (show (none : Option AF) = some F from h)) (
  And.intro (fun F h => noneF (show (none : Option AF) = some F from h)) (
  And.intro (fun F h => Option.some.inj (show some pf42 = some F from h) ▸ ok42) (
  And.intro (fun F h => Option.some.inj (show some pf39 = some F from h) ▸ ok39) (
  And.intro (fun F h => Option.some.inj (show some pf37 = some F from h) ▸ ok37) (
  And.intro (fun F h => noneF (show (none : Option AF) = some F from h)) (
  And.intro (fun F h => Option.some.inj (show some pf46 = some F from h) ▸ ok46) (
  And.intro (fun F h => Option.some.inj (show some pf45 = some F from h) ▸ ok45) (
  And.intro (fun F h => Option.some.inj (show some pf43 = some F from h) ▸ ok43) (
  And.intro (fun F h => Option.some.inj (show some pf47 = some F from h) ▸ ok47) (
  And.intro (fun F h => noneF (show (none : Option AF) = some F from h)) (
  And.intro (fun F h => noneF (show (none : Option AF) = some F from h)) (
  And.intro (fun F h => noneF (show (none : Option AF) = some F from h)) (trivial)))))))))))))))))))))))))))))))))))))))))))))))))))))))))))))))))))))))))))))))))))))))))))))))))))))))))))))
theorem o48_ok : OracOk Try.prog X { fn := fnOf fns, orac := orc48 48 } := orc48_ok (f0 := 108) (fun f h => by have := fm_inv h; simpa [fms] using this) Try.func108 (by kernel_rfl) (by kernel_rfl) (by kernel_rfl) (by kernel_rfl)
theorem orac_ok : OracOk Try.prog X prog := orcB_ok o48_ok (f0 := 99) (fun f h => by have := fm_inv h; simpa [fms] using this) Try.func99 (by kernel_rfl) (by kernel_rfl) (by kernel_rfl) (by kernel_rfl)
theorem orsB_ok : OracSOk Try.prog X prog := Go.AM.orsB_ok Try.lays169 Try.extraB (fun f h => by have := fm_inv h; have e : f = 43 := (by simpa [fms] using this); exact e) (by kernel_rfl) (by kernel_rfl) Try.func43 (by kernel_rfl) rfl
def tl : List Nat := [2, 4, 5, 9, 22, 24]
theorem at_ : LawAt Try.prog X prog tl := ⟨tab_ok tys_ok, by kernel_rfl, prog_ok fns_ok.all rfl, orac_ok, orsB_ok, by
    intro t ht
    exact (show ∀ t ∈ tl, okTy X.T tl t = true by decide) t (by simpa using ht)⟩
set_option maxRecDepth 100000 in
theorem has : HasL prog := { f42 := by kernel_rfl, f46 := by kernel_rfl, f36 := by kernel_rfl, f43 := by kernel_rfl, f47 := by kernel_rfl, f11 := by kernel_rfl, f15 := by kernel_rfl, f21 := by kernel_rfl, f25 := by kernel_rfl, f30 := by kernel_rfl, f34 := by kernel_rfl, f37 := by kernel_rfl, f39 := by kernel_rfl, f45 := by kernel_rfl, f29 := by kernel_rfl, f145 := by kernel_rfl, f126 := by kernel_rfl, f71 := by kernel_rfl, f72 := by kernel_rfl, f74 := by kernel_rfl, f76 := by kernel_rfl, f77 := by kernel_rfl, f78 := by kernel_rfl, f102 := by kernel_rfl, f103 := by kernel_rfl, f104 := by kernel_rfl, f107 := by kernel_rfl, f109 := by kernel_rfl, f110 := by kernel_rfl, f128 := by kernel_rfl, f129 := by kernel_rfl, f130 := by kernel_rfl, f131 := by kernel_rfl, f136 := by kernel_rfl, f82 := by kernel_rfl, f86 := by kernel_rfl, f88 := by kernel_rfl, f111 := by kernel_rfl, f112 := by kernel_rfl, f113 := by kernel_rfl, f115 := by kernel_rfl, f116 := by kernel_rfl, f119 := by kernel_rfl, f122 := by kernel_rfl, f123 := by kernel_rfl, f124 := by kernel_rfl, f139 := by kernel_rfl, f141 := by kernel_rfl, f144 := by kernel_rfl, f84 := by kernel_rfl, f117 := by kernel_rfl, f118 := by kernel_rfl, f140 := by kernel_rfl, f89 := by kernel_rfl, f90 := by kernel_rfl, f91 := by kernel_rfl, f92 := by kernel_rfl, f93 := by kernel_rfl, f98 := by kernel_rfl, f99 := by kernel_rfl, f101 := by kernel_rfl, f125 := by kernel_rfl, f48 := rfl, o48 := orcB_48, f146 := rfl, f105 := rfl, o146 := orcB_146, o105 := orcB_105, s105 := orsB_105 }
theorem own : ownKnob Try.prog.godebug = none := by kernel_rfl
theorem laidOut : laidOutB Try.prog = true := by kernel_rfl
theorem typed (avs : List AV) (h : ArgsOk X.T [24, 24] avs) : Pus prog 70 avs (.b true) := by
  match avs, h with
  | [a, b], ⟨h1, h2, _⟩ =>
    obtain ⟨_, _, _, _, _, valT⟩ := tyVal
    obtain ⟨v, rfl, hv⟩ := ArgOk.val valT h1
    obtain ⟨w, rfl, hw⟩ := ArgOk.val valT h2
    exact law70 has rfl hv hw

set_option maxRecDepth 100000 in
theorem lifted (os : Os) (started : os.Started) (H : Type) (enc : TypeId × Value → H) :
    ReturnsInHanded {} Try.checked os 7 .any (Rows.linesOneSpec.pre6 enc Try.prog Try.f7 Rows.linesOneRow.domain false) (Rows.linesOneSpec.post enc Try.prog Try.f7 false true false false) := by
  refine returnsInHanded_of_change (C := Try.checked) own started (by kernel_rfl) Try.func7
    (ChangeSpec.witness6 (enc := enc) (C := Try.checked) false ⟨#[], #[.agg #[.int .u8 0, .int .i64 0, .string ⟨#[]⟩, .slice none 0 0, .bool false], .agg #[.int .u8 0, .int .i64 0, .string ⟨#[]⟩, .slice none 0 0, .bool false]], []⟩ 8 (by kernel_rfl) (by kernel_rfl) (by kernel_rfl) (by kernel_rfl)) ?_
  intro W base args ds gs before hval0 hW hcnd _
  have hval : ∀ (j : Nat) t v, Try.f7.params[j]? = some t → args[j]? = some v → Value.okWide Try.prog W .any base t v := hval0
  have hW' := hW
  obtain ⟨p, q, hA0, hV, rfl, hfz, hnd⟩ := hW
  have hA : DataW.TrodAll enc Try.prog W 0 (fun _ => true) true Try.f7.params.toList args.toList ds p := hA0
  rw [Try.params7] at hA hval
  obtain ⟨rfl, rfl⟩ := trodVars_none hV
  obtain ⟨avs, hR, hok⟩ := args_read at_.T at_.types (ts := [24, 24]) (by decide) (fun j t v h1 h2 => hval j t v (by simpa using h1) (by simpa using h2)) hA
  have hlt := args_lt hA
  have hlen := trod_len hA
  refine (law_calls at_ (f := 7) (c := 70) rfl (ok70.enters _ _) hR (typed avs hok)).mono fun e W' ⟨he, bel⟩ => ?_
  subst he
  have hB := args_below laidOut bel (by kernel_rfl) hA hlt
  obtain ⟨d0, d1, rfl⟩ := ds2 hlen
  exact ⟨_, rfl, _, _, _, [], _, [], hW', trodAll_mk1 (shut_bool Try.underlying4 _), hB, rfl, bel.frame _, fun h => by cases h⟩

theorem over : Rows.linesOneRow.holds Try.pinned (OpenSpec.ofChange Rows.linesOneSpec) :=
  OpenClaim.holds_of_wide 7 Try.f7 rfl rfl rfl rfl rfl rfl rfl ⟨rfl, rfl, rfl, rfl, rfl⟩ rfl rfl rfl rfl rfl (by kernel_rfl) Try.func7 (by kernel_rfl)
    (of_decide_eq_true (by kernel_rfl)) (by unfold Func.isWrapper; rw [if_neg (of_decide_eq_false (by kernel_rfl))]; exact ⟨rfl, rfl⟩)
    (fun os started H enc _ => lifted os started H enc)

/-- The statement. -/
theorem proved : Rows.LinesOneSaid := over
#print axioms proved
end Go.Proofs.Ytcojcdpoeaaigaa.LinesOneProof
