/- Chapter 03: what the functions compute, in plain Lean. -/
import Derived.Test.YtdfkdendkdbnkaaS0
import Derived.Lib.Bytealg
set_option linter.all false
namespace Go.AM
open Go
abbrev Bytes := List UInt8
abbrev DIG : Bytes := [48, 49, 50, 51, 52, 53, 54, 55, 56, 57, 97, 98, 99, 100, 101, 102]
theorem maxStr_eq : maxStr = 1099511627776 := rfl
theorem maxBytes_eq : maxBytes = 70368744177664 := rfl
theorem fit_iff {n b : Nat} : Fit n b ↔ n * b ≤ 70368744177664 ∧ n ≤ 70368744177664 := Iff.rfl

/-- A loop that counts up, its state given at each count. -/
theorem loop_up {α : Type} {P : α → Int → Prop} (A : Nat → α) (n : Nat) (h1 : P (A n) (n : Int)) (h2 : ∀ i : Nat, i < n → P (A (i + 1)) ((i + 1 : Nat) : Int) → P (A i) (i : Int)) : P (A 0) 0 := by
  have key : ∀ m i : Nat, i + m = n → P (A i) (i : Int) := by
    intro m
    induction m with
    | zero => intro i hi; simp only [Nat.add_zero] at hi; subst hi; exact h1
    | succ m ih => intro i hi; exact h2 i (by omega) (ih (i + 1) (by omega))
  exact key n 0 (by omega)
theorem loop_up0 {P : Int → Prop} (n : Nat) (h1 : P (n : Int)) (h2 : ∀ i : Nat, i < n → P ((i + 1 : Nat) : Int) → P (i : Int)) : P 0 :=
  loop_up (P := fun _ i => P i) (fun _ => ()) n h1 h2
theorem wr_succ {i : Nat} (h : i < 4611686018427387904) : IntKind.i64.wrap ((i : Int) + 1) = ((i + 1 : Nat) : Int) := by
  rw [wr_i64 (by omega) (by omega)]; omega
theorem toNat_cast (i : Nat) : ((i : Int)).toNat = i := rfl

def hexd (n : Nat) : UInt8 := DIG.getD n 0
theorem hexd_get {n : Nat} (h : n < 16) : DIG[n]? = some (hexd n) := by
  unfold hexd
  rw [List.getD_eq_getElem?_getD, List.getElem?_eq_getElem (by simpa using h)]
  rfl
theorem hexd_take {n m : Nat} (h : n < 16) (hm : m = n + 1) : (DIG.drop n).take (m - n) = [hexd n] := by
  subst hm
  rw [show n + 1 - n = 1 by omega, List.drop_eq_getElem_cons (by simpa using h)]
  simp only [List.take_succ_cons, List.take_zero]
  have := hexd_get h
  rw [List.getElem?_eq_getElem (by simpa using h)] at this
  injection this with this
  rw [this]
theorem DIG_len : DIG.length = 16 := rfl

/-! quotation -/
def chr (c : UInt8) : Bytes :=
  if c.toNat = 34 ∨ c.toNat = 92 then [92, c] else if c.toNat = 10 then [92, 110] else if c.toNat < 32 ∨ 126 < c.toNat then [92, 120, hexd (c.toNat / 16), hexd (c.toNat % 16)] else [c]
def chrs (s : Bytes) : Bytes := s.flatMap chr
def quo (s : Bytes) : Bytes := 34 :: (chrs s ++ [34])
theorem chr_len (c : UInt8) : 1 ≤ (chr c).length ∧ (chr c).length ≤ 4 := by
  unfold chr
  split
  · exact ⟨by simp, by simp⟩
  · split
    · exact ⟨by simp, by simp⟩
    · split <;> exact ⟨by simp, by simp⟩
theorem chrs_len (s : Bytes) : (chrs s).length ≤ 4 * s.length := by
  induction s with
  | nil => exact Nat.le_refl _
  | cons c s ih =>
    have h : chrs (c :: s) = chr c ++ chrs s := rfl
    rw [h, List.length_append, List.length_cons]
    have := chr_len c
    omega
theorem quo_len (s : Bytes) : (quo s).length ≤ 4 * s.length + 2 := by
  have := chrs_len s
  simp only [quo, List.length_cons, List.length_append, List.length_nil]
  omega
theorem chrs_take {s : Bytes} {i : Nat} (h : i < s.length) : chrs (s.take (i + 1)) = chrs (s.take i) ++ chr s[i] := by
  rw [List.take_succ_eq_append_getElem h]
  simp only [chrs, List.flatMap_append, List.flatMap_cons, List.flatMap_nil, List.append_nil]
/-! lists -/
def tailQ (l : List Bytes) : Bytes := l.flatMap fun x => 44 :: 32 :: quo x
def innerQ : List Bytes → Bytes
  | [] => []
  | x :: r => quo x ++ tailQ r
def listed (l : List Bytes) : Bytes := 91 :: (innerQ l ++ [93])
theorem innerQ_snoc (l : List Bytes) (x : Bytes) : innerQ (l ++ [x]) = innerQ l ++ (if l.length > 0 then [44, 32] else []) ++ quo x := by
  cases l with
  | nil => simp [innerQ, tailQ]
  | cons a l => simp [innerQ, tailQ]
theorem innerQ_take {l : List Bytes} {i : Nat} (h : i < l.length) : innerQ (l.take (i + 1)) = innerQ (l.take i) ++ (if i > 0 then [44, 32] else []) ++ quo l[i] := by
  rw [List.take_succ_eq_append_getElem h, innerQ_snoc]
  congr 2
  rw [List.length_take]
  congr 1
  rw [eq_iff_iff]
  omega
def tooMany (l : List Bytes) : Bool := l.any (fun x => decide (400 < x.length)) || decide (64 < l.length)
theorem innerQ_len {l : List Bytes} (h : ∀ x ∈ l, x.length ≤ 400) : (innerQ l).length ≤ 1604 * l.length := by
  have tl : ∀ l : List Bytes, (∀ x ∈ l, x.length ≤ 400) → (tailQ l).length ≤ 1604 * l.length := by
    intro l
    induction l with
    | nil => intro _; exact Nat.le_refl _
    | cons x l ih =>
      intro h
      have h1 := ih fun y hy => h y (List.mem_cons_of_mem _ hy)
      have h2 := quo_len x
      have h3 := h x List.mem_cons_self
      have e : tailQ (x :: l) = 44 :: 32 :: quo x ++ tailQ l := rfl
      rw [e]
      simp only [List.length_append, List.length_cons]
      omega
  cases l with
  | nil => exact Nat.le_refl _
  | cons x l =>
    have h1 := tl l fun y hy => h y (List.mem_cons_of_mem _ hy)
    have h2 := quo_len x
    have h3 := h x List.mem_cons_self
    simp only [innerQ, List.length_append, List.length_cons]
    omega

/-! numbers -/
def ds (b : Nat) : Nat → Nat → Bytes
  | 0, _ => []
  | f + 1, n => if n < b then [hexd n] else ds b f (n / b) ++ [hexd (n % b)]
theorem ds_len (b : Nat) : ∀ f n, (ds b f n).length ≤ f
  | 0, _ => Nat.le_refl _
  | f + 1, n => by
    have := ds_len b f (n / b)
    unfold ds
    split
    · simp
    · simp; omega
/-- Enough fuel is enough. -/
theorem ds_fuel {b : Nat} (hb : 2 ≤ b) : ∀ f g n, n < b ^ f → 0 < f → f ≤ g → ds b g n = ds b f n
  | 0, _, _, _, h, _ => absurd h (Nat.lt_irrefl _)
  | f + 1, g, n, h, _, hg => by
    match g, hg with
    | g + 1, hg =>
      unfold ds
      split
      · rfl
      · rename_i hn
        have h1 : n / b < b ^ f := by
          rw [Nat.div_lt_iff_lt_mul (by omega)]
          rw [Nat.pow_succ] at h
          exact h
        have h2 : 0 < f := by
          rcases Nat.eq_zero_or_pos f with rfl | h
          · simp at h; omega
          · exact h
        rw [ds_fuel hb f g (n / b) h1 h2 (by omega)]
def digs (b n : Nat) : Bytes := ds b 64 n
def num (n : Int) : Bytes := if n < 0 then 45 :: digs 10 (-n).toNat else digs 10 n.toNat
def hex (n : Nat) : Bytes := 48 :: 120 :: digs 16 n
def quoR (s : Bytes) : Bytes × Int := if 400 < s.length then ([], 4) else (quo s, 0)
/-- A loop that looks for a long text. -/
theorem anyLong_take {l : List Bytes} {n i : Nat} (hi : i < l.length) : (l.take (i + 1)).any (fun x => decide (n < x.length)) = ((l.take i).any (fun x => decide (n < x.length)) || decide (n < l[i].length)) := by
  rw [List.take_succ_eq_append_getElem hi, List.any_append]
  simp
def long (n : Nat) (l : List Bytes) : Bool := l.any fun x => decide (n < x.length)
theorem long_of {n : Nat} {l : List Bytes} {i : Nat} (hi : i < l.length) (h : n < l[i].length) : long n l = true := by
  unfold long
  rw [List.any_eq_true]
  exact ⟨l[i], List.getElem_mem hi, by simpa using h⟩
theorem not_long {n : Nat} {l : List Bytes} : long n l = false ↔ ∀ x ∈ l, x.length ≤ n := by
  unfold long
  rw [List.any_eq_false]
  simp
/-- A loop that leaves as soon as a text is too long. -/
theorem loop_long {P : Int → Prop} (n : Nat) (l : List Bytes) (h1 : long n l = true → ∀ i, i < l.length → n < (l.getD i []).length → P (i : Int)) (h2 : long n l = false → P (l.length : Int)) (h3 : ∀ i : Nat, i < l.length → (l.getD i []).length ≤ n → P ((i + 1 : Nat) : Int) → P (i : Int)) : P 0 := by
  have key : ∀ m i : Nat, i + m = l.length → long n (l.take i) = false → P (i : Int) := by
    intro m
    induction m with
    | zero =>
      intro i hi hl
      simp only [Nat.add_zero] at hi
      subst hi
      rw [List.take_length] at hl
      exact h2 hl
    | succ m ih =>
      intro i hi hl
      have hil : i < l.length := by omega
      have hg : l.getD i [] = l[i] := by rw [List.getD_eq_getElem?_getD, List.getElem?_eq_getElem hil]; rfl
      rcases Nat.lt_or_ge n (l[i]).length with h | h
      · exact h1 (long_of hil h) i hil (by rw [hg]; exact h)
      · refine h3 i hil (by rw [hg]; exact h) (ih (i + 1) (by omega) ?_)
        unfold long at hl ⊢
        rw [anyLong_take hil, hl]
        simpa using h
  exact key l.length 0 (by omega) rfl
theorem getD_get {l : List Bytes} {i : Nat} (h : i < l.length) : l[i]? = some (l.getD i []) := by
  rw [List.getD_eq_getElem?_getD, List.getElem?_eq_getElem h]; rfl
def many (l : List Bytes) : Bool := long 400 l || decide (64 < l.length)
def great (l : List Bytes) : Bool := long 500 l || decide (70 < l.length)

def listR (l : List Bytes) : Bytes × Int := if many l = true then ([], 4) else (listed l, 0)
theorem many_false {l : List Bytes} : many l = false ↔ (∀ x ∈ l, x.length ≤ 400) ∧ l.length ≤ 64 := by
  unfold many
  rw [Bool.or_eq_false_iff, not_long]
  simp
theorem wr_u64_nat {n : Nat} (h : n < 18446744073709551616) : IntKind.u64.wrap (n : Int) = (n : Int) := wr_u64 (by omega) (by omega)
end Go.AM
