/- Arguments of the laws, typed. -/
import Derived.Test.YtdfkdendkdbnkaaR1
set_option linter.all false
namespace Go.AM
open Go Go.RowKit Go.ChangeShapes
section
variable {T : TTab} {t : TypeId} {a : AV} {i : TI}
theorem ArgOk.plain (hi : T t = some i) (hk : ∀ fs, i.kind ≠ .st fs) (h : ArgOk T t a) : ∃ f, HasC T f t [a] := by
  unfold ArgOk at h
  rw [hi] at h
  obtain ⟨kk, s1, s2, s3⟩ := i
  simp only at hk
  cases kk with
  | st fs => exact absurd rfl (hk fs)
  | int k => exact h
  | bool => exact h
  | str => exact h
  | sl e => exact h
  | arr n e => exact h
  | other => exact h
theorem HasC.int {f : Nat} {as : List AV} {k : IntKind} (hi : T t = some i) (hk : i.kind = .int k) (h : HasC T f t as) : ∃ n, as = [.i k n] ∧ k.min ≤ n ∧ n ≤ k.max := by
  cases f with
  | zero => exact h.elim
  | succ f =>
    unfold HasC at h
    rw [hi] at h
    simp only [hk] at h
    exact h
theorem HasC.bool {f : Nat} {as : List AV} (hi : T t = some i) (hk : i.kind = .bool) (h : HasC T f t as) : ∃ b, as = [.b b] := by
  cases f with
  | zero => exact h.elim
  | succ f =>
    unfold HasC at h
    rw [hi] at h
    simp only [hk] at h
    exact h
theorem HasC.str {f : Nat} {as : List AV} (hi : T t = some i) (hk : i.kind = .str) (h : HasC T f t as) : ∃ s, as = [.s s] ∧ s.length ≤ maxLen := by
  cases f with
  | zero => exact h.elim
  | succ f =>
    unfold HasC at h
    rw [hi] at h
    simp only [hk] at h
    exact h
theorem HasC.sl {f e : Nat} {as : List AV} (hi : T t = some i) (hk : i.kind = .sl e) (h : HasC T f t as) : ∃ g rows, f = g + 1 ∧ as = [.sl .ext rows] ∧ rows.length ≤ maxLen ∧ ∀ r ∈ rows, HasC T g e r := by
  cases f with
  | zero => exact h.elim
  | succ f =>
    unfold HasC at h
    rw [hi] at h
    simp only [hk] at h
    obtain ⟨rows, h1, h2, h3⟩ := h
    exact ⟨f, rows, rfl, h1, h2, h3⟩
theorem HasC.st {f : Nat} {as : List AV} {fs : List (Nat × Nat)} (hi : T t = some i) (hk : i.kind = .st fs) (h : HasC T f t as) : ∃ g, f = g + 1 ∧ ∀ x ∈ fs, ∃ j, T x.1 = some j ∧ HasC T g x.1 ((as.drop x.2).take j.size) := by
  cases f with
  | zero => exact h.elim
  | succ f =>
    unfold HasC at h
    rw [hi] at h
    simp only [hk] at h
    exact ⟨f, rfl, h⟩
theorem ArgOk.int {k : IntKind} (hi : T t = some i) (hk : i.kind = .int k) (h : ArgOk T t a) : ∃ n, a = .i k n ∧ k.min ≤ n ∧ n ≤ k.max := by
  obtain ⟨f, h⟩ := h.plain hi (by rw [hk]; intro fs h; cases h)
  obtain ⟨n, h1, h2⟩ := h.int hi hk
  injection h1 with h1
  exact ⟨n, h1, h2⟩
theorem ArgOk.bool (hi : T t = some i) (hk : i.kind = .bool) (h : ArgOk T t a) : ∃ b, a = .b b := by
  obtain ⟨f, h⟩ := h.plain hi (by rw [hk]; intro fs h; cases h)
  obtain ⟨n, h1⟩ := h.bool hi hk
  injection h1 with h1
  exact ⟨n, h1⟩
theorem ArgOk.str (hi : T t = some i) (hk : i.kind = .str) (h : ArgOk T t a) : ∃ s, a = .s s ∧ s.length ≤ maxLen := by
  obtain ⟨f, h⟩ := h.plain hi (by rw [hk]; intro fs h; cases h)
  obtain ⟨n, h1, h2⟩ := h.str hi hk
  injection h1 with h1
  exact ⟨n, h1, h2⟩
theorem rows_map {α : Type} {f : α → List AV} : ∀ {rows : List (List AV)}, (∀ r ∈ rows, ∃ x, r = f x) → ∃ l : List α, rows = l.map f
  | [], _ => ⟨[], rfl⟩
  | r :: rows, h => by
    obtain ⟨x, rfl⟩ := h r List.mem_cons_self
    obtain ⟨l, rfl⟩ := rows_map fun r hr => h r (List.mem_cons_of_mem _ hr)
    exact ⟨x :: l, rfl⟩
theorem ArgOk.strs {e : Nat} {ie : TI} (hi : T t = some i) (hk : i.kind = .sl e) (he : T e = some ie) (hke : ie.kind = .str) (h : ArgOk T t a) : ∃ l : List (List UInt8), a = .sl .ext (l.map rowS) ∧ l.length ≤ maxLen ∧ ∀ x ∈ l, x.length ≤ maxLen := by
  obtain ⟨f, h⟩ := h.plain hi (by rw [hk]; intro fs h; cases h)
  obtain ⟨g, rows, _, h1, h2, h3⟩ := h.sl hi hk
  injection h1 with h1
  obtain ⟨l, rfl⟩ := rows_map (f := rowS) (rows := rows) fun r hr => by
    obtain ⟨s, hs, _⟩ := (h3 r hr).str he hke
    exact ⟨s, hs⟩
  refine ⟨l, h1, by simpa using h2, fun x hx => ?_⟩
  obtain ⟨s, hs, hl⟩ := (h3 (rowS x) (List.mem_map_of_mem hx)).str he hke
  injection hs with hs
  injection hs with hs
  rw [hs]; exact hl
end
theorem i64_bd {n : Int} (h : IntKind.i64.min ≤ n ∧ n ≤ IntKind.i64.max) : -9223372036854775808 ≤ n ∧ n < 9223372036854775808 := by
  have h1 : IntKind.i64.min = -9223372036854775808 := rfl
  have h2 : IntKind.i64.max = 9223372036854775807 := rfl
  omega
theorem u64_bd {n : Int} (h : IntKind.u64.min ≤ n ∧ n ≤ IntKind.u64.max) : ∃ m : Nat, n = (m : Int) ∧ m < 18446744073709551616 := by
  have h1 : IntKind.u64.min = 0 := rfl
  have h2 : IntKind.u64.max = 18446744073709551615 := rfl
  exact ⟨n.toNat, by omega, by omega⟩
theorem u8_bd {n : Int} (h : IntKind.u8.min ≤ n ∧ n ≤ IntKind.u8.max) : 0 ≤ n ∧ n < 256 := by
  have h1 : IntKind.u8.min = 0 := rfl
  have h2 : IntKind.u8.max = 255 := rfl
  omega
/-- The functions, one by one. -/
def FnsOk (P : Program) (X : Cx) (fs : List (Nat × AF)) : List (Nat × Nat) → Prop
  | [] => True
  | x :: r => (∀ F, fnOf fs x.2 = some F → FnOk P X x.1 F) ∧ FnsOk P X fs r
theorem FnsOk.all {P : Program} {X : Cx} {fs : List (Nat × AF)} : ∀ {l : List (Nat × Nat)}, FnsOk P X fs l → ∀ x ∈ l, ∀ F, fnOf fs x.2 = some F → FnOk P X x.1 F
  | [], _, _, hx => by cases hx
  | y :: l, h, x, hx => by
    rcases List.mem_cons.1 hx with rfl | hx
    · exact h.1
    · exact FnsOk.all h.2 x hx
theorem fm_inv {l : List (Nat × Nat)} {f c : Nat} (h : fmOf l f = some c) : (f, c) ∈ l := by
  unfold fmOf at h
  rw [Option.map_eq_some_iff] at h
  obtain ⟨x, h1, rfl⟩ := h
  have h2 := List.find?_some h1
  have h3 := List.mem_of_find?_eq_some h1
  have : x.1 = f := by simpa using h2
  rw [← this]
  exact h3
def orc48 (k : Nat) : Nat → List AV → Option AV := fun c args =>
  if c = k then match args with
    | [.s s, .i .u8 n] => if 0 ≤ n ∧ n < 256 then some (.i .i64 (Lib.indexByte s n.toNat.toUInt8)) else none
    | _ => none
  else none
theorem orc48_at (k : Nat) (s : List UInt8) (c : UInt8) : orc48 k k [.s s, .i .u8 (c.toNat : Int)] = some (.i .i64 (Lib.indexByte s c)) := by
  have := c.toNat_lt
  unfold orc48
  rw [if_pos rfl]
  simp only
  rw [if_pos ⟨by omega, by omega⟩]
  simp
theorem orc48_ok {P : Program} {X : Cx} {fs : List (Nat × AF)} {k f0 : Nat} {fn : Func} (hf : ∀ f, X.fm f = some k → f = f0) (h1 : P.funcs[f0]? = some fn) (h2 : (fn.name == "runtime.NumGoroutine") = false) (h3 : fn.body.isNone = true) (h4 : Extern.findNext fn = none) (h5 : Extern.find fn = some Extern.BytealgIndexByte.indexByte) : OracOk P X ⟨fnOf fs, orc48 k⟩ := by
  intro f c hfc _ args r hr G w0 st w vals d _ hR hV
  simp only [orc48] at hr
  split at hr
  case isFalse => cases hr
  rename_i hc
  subst hc
  have := hf f hfc
  subst this
  split at hr
  case h_2 => cases hr
  rename_i s n
  split at hr
  case isFalse => cases hr
  rename_i hn
  cases hr
  have e : n = ((n.toNat.toUInt8).toNat : Int) := by
    have : (n.toNat.toUInt8).toNat = n.toNat := by simp; omega
    omega
  have hV' : Rs G [.s s, .i .u8 ((n.toNat.toUInt8).toNat : Int)] vals := by rw [← e]; exact hV
  exact orac_index h1 h2 h3 h4 h5 hR hV'
section
variable {H : Type} {enc : TypeId × Value → H} {P : Program} {W : World}
theorem trod_len {held : Bool} {sp : Nat → Bool} : ∀ {ts : List TypeId} {vs : List Value} {ds : List (DataW H)} {ps : List MemPlace}, DataW.TrodAll enc P W 0 sp held ts vs ds ps → ds.length = ts.length
  | [], vs, ds, ps, h => by
    obtain ⟨rfl, rfl, rfl⟩ := trodAll_nil h
    rfl
  | t :: ts, vs, ds, ps, h => by
    obtain ⟨v, vs1, d, ds1, p, q, rfl, rfl, rfl, h1, h2⟩ := trodAll_cons h
    simp [trod_len h2]
theorem ds0 {α : Type} {ds : List α} (h : ds.length = 0) : ds = [] := List.length_eq_zero_iff.1 h
theorem ds1 {α : Type} {ds : List α} (h : ds.length = 1) : ∃ a, ds = [a] := List.length_eq_one_iff.1 h
theorem ds2 {α : Type} {ds : List α} (h : ds.length = 2) : ∃ a b, ds = [a, b] := by match ds, h with | [a, b], _ => exact ⟨a, b, rfl⟩
theorem ds3 {α : Type} {ds : List α} (h : ds.length = 3) : ∃ a b c, ds = [a, b, c] := by match ds, h with | [a, b, c], _ => exact ⟨a, b, c, rfl⟩
theorem ds4 {α : Type} {ds : List α} (h : ds.length = 4) : ∃ a b c d, ds = [a, b, c, d] := by match ds, h with | [a, b, c, d], _ => exact ⟨a, b, c, d, rfl⟩
theorem ds6 {α : Type} {ds : List α} (h : ds.length = 6) : ∃ a b c d e f, ds = [a, b, c, d, e, f] := by match ds, h with | [a, b, c, d, e, f], _ => exact ⟨a, b, c, d, e, f, rfl⟩
end
theorem noneF {α : Type} {x : α} {p : Prop} (h : (none : Option α) = some x) : p := by cases h
end Go.AM
