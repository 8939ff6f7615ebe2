/- What can be read as data stands for plain values of the abstract machine. -/
import Derived.Test.YtdfkdendkdbnkaaAm18
import Derived.Carry
import Derived.DataReads
set_option linter.all false
namespace Go.AM
open Go Go.RowKit

/-- Cells of a type. -/
def HasC (T : TTab) : Nat → TypeId → List AV → Prop
  | 0, _, _ => False
  | f + 1, t, as => match T t with
    | some i => match i.kind with
      | .int k => ∃ n, as = [.i k n] ∧ k.min ≤ n ∧ n ≤ k.max
      | .bool => ∃ b, as = [.b b]
      | .str => ∃ s, as = [.s s] ∧ s.length ≤ maxLen
      | .sl e => ∃ rows, as = [.sl .ext rows] ∧ rows.length ≤ maxLen ∧ ∀ r ∈ rows, HasC T f e r
      | .st fs => ∀ x ∈ fs, ∃ j, T x.1 = some j ∧ HasC T f x.1 ((as.drop x.2).take j.size)
      | _ => False
    | none => False

def contig (T : TTab) : Nat → List (Nat × Nat) → Option Nat
  | off, [] => some off
  | off, (t, o) :: r => match T t with
    | some i => if o = off then contig T (off + i.size) r else none
    | none => none

/-- Types that are read, closed under their parts. -/
def okTy (T : TTab) (L : List Nat) (t : Nat) : Bool :=
  match T t with
  | some i => match i.kind with
    | .int _ | .bool | .str => i.size == 1
    | .sl e => L.contains e && (match T e with | some j => decide (0 < j.size) | none => false)
    | .st fs => (fs.all fun x => L.contains x.1) && contig T 0 fs == some i.size
    | _ => false
  | none => false

def H0 (w : World) : Hp := fun g o => match w.cell? ⟨g, o, none⟩ with | some v => if v.oneCell' then some v else none | none => none

theorem H0_some {w : World} {g o : Nat} {v : Value} (h : w.cell? ⟨g, o, none⟩ = some v) (h1 : v.oneCell' = true) : H0 w g o = some v := by
  simp only [H0, h, h1, if_true]
theorem H0_inv {w : World} {g o : Nat} {v : Value} (h : H0 w g o = some v) : w.cell? ⟨g, o, none⟩ = some v ∧ v.oneCell' = true := by
  unfold H0 at h
  split at h
  · rename_i v' hv
    split at h
    · rename_i h1; cases h; exact ⟨hv, h1⟩
    · cases h
  · cases h

def Good (w : World) (as : List AV) (cs : List Value) : Prop := as.length = cs.length ∧ ∀ (j : Nat) a u, as[j]? = some a → cs[j]? = some u → Fz (H0 w) a u ∧ a.one = true

theorem Good.one {w : World} {a : AV} {u : Value} (h : Fz (H0 w) a u) (h1 : a.one = true) : Good w [a] [u] := by
  refine ⟨rfl, fun j x y hx hy => ?_⟩
  cases j with
  | zero => simp at hx hy; subst hx; subst hy; exact ⟨h, h1⟩
  | succ j => simp at hx

theorem Good.append {w : World} {as bs : List AV} {cs ds : List Value} (h : Good w as cs) (k : Good w bs ds) : Good w (as ++ bs) (cs ++ ds) := by
  refine ⟨by simp [h.1, k.1], fun j x y hx hy => ?_⟩
  rcases Nat.lt_or_ge j as.length with hj | hj
  · rw [List.getElem?_append_left hj] at hx
    rw [List.getElem?_append_left (by rw [← h.1]; exact hj)] at hy
    exact h.2 j x y hx hy
  · rw [List.getElem?_append_right hj] at hx
    rw [List.getElem?_append_right (by rw [← h.1]; exact hj), ← h.1] at hy
    exact k.2 _ x y hx hy

section
variable {H : Type} {enc : TypeId × Value → H} {P : Program} {T : TTab} {w : World} {base : Nat} {spare : Nat → Bool} {held : Bool} {L : List Nat}

theorem cellsOf_T (hT : TTok P T) {t : Nat} {i : TI} (h : T t = some i) : P.cellsOf t = i.size := by
  obtain ⟨ti, z, h1, h2, _⟩ := (hT t i h).info
  simp [Program.cellsOf, h1, h2]

/-- The fields of a struct, one behind the other. -/
theorem fields_good (hT : TTok P T) {f : Nat} {cs : List Value}
    (ih : ∀ t, L.contains t = true → ∀ cs x, DataW.trod enc P w base spare held f t cs = some x → ∃ as, Good w as cs ∧ HasC T f t as) :
    ∀ (fs : List (Nat × Nat)) (fields : List Field) (off tot : Nat) xs, fields.map (fun g => (g.type, g.offset)) = fs → contig T off fs = some tot → tot = cs.length → (fs.all fun x => L.contains x.1) = true →
      fields.mapM (fun g => DataW.trod enc P w base spare held f g.type ((cs.drop g.offset).take (P.cellsOf g.type))) = some xs →
      off ≤ tot ∧ ∃ as, Good w as (cs.drop off) ∧ ∀ x ∈ fs, off ≤ x.2 ∧ ∃ j, T x.1 = some j ∧ HasC T f x.1 ((as.drop (x.2 - off)).take j.size)
  | [], fields, off, tot, xs, hf, hc, ht, _, _ => by
    cases hc
    refine ⟨Nat.le_refl _, [], ⟨by simp [ht], by simp⟩, by simp⟩
  | (t, o) :: fs, [], off, tot, xs, hf, hc, ht, _, _ => by cases hf
  | (t, o) :: fs, g :: fields, off, tot, xs, hf, hc, ht, hL, hm => by
    simp only [List.map_cons, List.cons.injEq, Prod.mk.injEq] at hf
    obtain ⟨⟨rfl, rfl⟩, hf⟩ := hf
    unfold contig at hc
    split at hc
    case h_2 => cases hc
    rename_i i hi
    split at hc
    case isFalse => cases hc
    rename_i ho
    simp only [List.all_cons, Bool.and_eq_true] at hL
    rw [List.mapM_cons] at hm
    simp only [Option.bind_eq_bind, Option.bind_eq_some_iff, Option.pure_def, Option.some.injEq] at hm
    obtain ⟨x, h1, ys, h2, _⟩ := hm
    obtain ⟨hle, bs, hb1, hb2⟩ := fields_good hT ih fs fields _ tot ys hf hc ht hL.2 h2
    rw [cellsOf_T hT hi] at h1
    obtain ⟨as, ha1, ha2⟩ := ih _ hL.1 _ _ h1
    have hsz : as.length = i.size := by rw [ha1.1]; simp; omega
    refine ⟨by omega, as ++ bs, ?_, ?_⟩
    · have := ha1.append hb1
      rw [ho] at this
      have e : (cs.drop off).take i.size ++ cs.drop (off + i.size) = cs.drop off := by
        rw [← List.drop_drop, List.take_append_drop]
      rwa [e] at this
    · intro y hy
      rcases List.mem_cons.1 hy with rfl | hy
      · refine ⟨by simp [ho], i, hi, ?_⟩
        simp only [ho, Nat.sub_self, List.drop_zero]
        rw [← hsz, List.take_left]
        exact ha2
      · obtain ⟨h3, j, h4, h5⟩ := hb2 y hy
        refine ⟨by omega, j, h4, ?_⟩
        have e : y.2 - off = as.length + (y.2 - (off + i.size)) := by omega
        rw [e, ← List.drop_drop, List.drop_left]
        exact h5

theorem cells_get {a : Addr} {n : Nat} {cs : List Value} (h : w.cells? base a n = some cs) : cs.length = n ∧ ∀ (i : Nat), i < n → w.cell? (a.add i) = cs[i]? := by
  unfold World.cells? at h
  split at h
  case isFalse => cases h
  have hl := mapM_some_length h
  simp at hl
  refine ⟨hl, fun i hi => ?_⟩
  exact mapM_some_get h i i (by simp [hi])


theorem lit_wf {k : IntKind} {n : Int} (h : (Lit.int k n).wf = true) : k.min ≤ n ∧ n ≤ k.max := by
  simp only [Lit.wf, Bool.and_eq_true, decide_eq_true_eq] at h
  exact h

theorem inv_int {f t : Nat} {cs : List Value} {x : DataW H × List MemPlace} {k : IntKind} (hk : P.underlying t = some (.int k)) (h : DataW.trod enc P w base spare held (f + 1) t cs = some x) : ∃ n, cs = [.int k n] ∧ k.min ≤ n ∧ n ≤ k.max := by
  unfold DataW.trod at h
  rw [hk] at h
  split at h
  all_goals rename_i heq
  all_goals first | (injection heq with heq; cases heq; done) | skip
  · injection heq with heq
    injection heq with heq
    subst heq
    split at h
    · rename_i hc
      obtain ⟨rfl, hw⟩ := hc
      exact ⟨_, rfl, lit_wf hw⟩
    · cases h
  · cases h
theorem inv_bool {f t : Nat} {cs : List Value} {x : DataW H × List MemPlace} (hk : P.underlying t = some .bool) (h : DataW.trod enc P w base spare held (f + 1) t cs = some x) : ∃ b, cs = [.bool b] := by
  unfold DataW.trod at h
  rw [hk] at h
  split at h
  all_goals rename_i heq
  all_goals first | (injection heq with heq; cases heq; done) | skip
  · exact ⟨_, rfl⟩
  · cases h
theorem inv_str {f t : Nat} {cs : List Value} {x : DataW H × List MemPlace} (hk : P.underlying t = some .string) (h : DataW.trod enc P w base spare held (f + 1) t cs = some x) : ∃ s, cs = [.string s] ∧ s.size ≤ maxLen := by
  unfold DataW.trod at h
  rw [hk] at h
  split at h
  all_goals rename_i heq
  all_goals first | (injection heq with heq; cases heq; done) | skip
  · split at h
    · exact ⟨_, rfl, by assumption⟩
    · cases h
  · cases h
theorem inv_sl {f t e : Nat} {cs : List Value} {x : DataW H × List MemPlace} (hk : P.underlying t = some (.slice e)) (h : DataW.trod enc P w base spare held (f + 1) t cs = some x) : cs = [.slice none 0 0] ∨
    ∃ a len cap, cs = [.slice (some a) len cap] ∧ len ≤ cap ∧ cap ≤ maxLen ∧ ∀ i, i < len → ∃ cs' y, w.cells? base (a.add (i * P.cellsOf e)) (P.cellsOf e) = some cs' ∧ DataW.trod enc P w base spare held f e cs' = some y := by
  unfold DataW.trod at h
  rw [hk] at h
  split at h
  all_goals rename_i heq
  all_goals first | (injection heq with heq; cases heq; done) | skip
  · exact .inl rfl
  · injection heq with heq
    injection heq with heq
    subst heq
    refine .inr ⟨_, _, _, rfl, ?_⟩
    simp only at h
    split at h
    case isFalse => cases h
    rename_i hc
    refine ⟨hc.2.1, hc.2.2, fun i hi => ?_⟩
    rw [Option.bind_eq_some_iff] at h
    obtain ⟨elems, h1, _⟩ := h
    have hl := mapM_some_length h1
    simp at hl
    have := mapM_some_get h1 i i (by simp [hi])
    rw [List.getElem?_eq_getElem (by omega), Option.bind_eq_some_iff] at this
    obtain ⟨cs', h2, h3⟩ := this
    exact ⟨cs', _, h2, h3⟩
  · cases h
theorem inv_st {f t : Nat} {fs : Array Field} {cs : List Value} {x : DataW H × List MemPlace} (hk : P.underlying t = some (.struct fs)) (h : DataW.trod enc P w base spare held (f + 1) t cs = some x) : cs.length = P.cellsOf t ∧ ∃ xs, fs.toList.mapM (fun g => DataW.trod enc P w base spare held f g.type ((cs.drop g.offset).take (P.cellsOf g.type))) = some xs := by
  unfold DataW.trod at h
  rw [hk] at h
  split at h
  all_goals rename_i heq
  all_goals first | (injection heq with heq; cases heq; done) | skip
  · injection heq with heq
    injection heq with heq
    subst heq
    split at h
    case isFalse => cases h
    rename_i hc
    rw [Option.map_eq_some_iff] at h
    obtain ⟨xs, h1, _⟩ := h
    exact ⟨hc, xs, h1⟩
  · simp_all

theorem add_one {a : Addr} {n : Nat} (h : (w.cell? (a.add n)).isSome = true) : a.add n = ⟨a.block, a.off + n, none⟩ := by
  unfold Addr.add at h ⊢
  split
  · rename_i hn
    rw [if_pos hn] at h
    subst hn
    cases ha : a.spot with
    | none => cases a; cases ha; rfl
    | some x =>
      simp only [World.cell?] at h
      split at h
      · simp [ha] at h
      · cases h
  · rfl

theorem read_sl (hT : TTok P T) {f e : Nat} {j : TI} (hj : T e = some j) (hj0 : 0 < j.size) (ih : ∀ cs x, DataW.trod enc P w base spare held f e cs = some x → ∃ as, Good w as cs ∧ HasC T f e as) {a : Addr} {len cap : Nat} (h1 : len ≤ cap)
    (h : ∀ i, i < len → ∃ cs' y, w.cells? base (a.add (i * P.cellsOf e)) (P.cellsOf e) = some cs' ∧ DataW.trod enc P w base spare held f e cs' = some y) : ∃ rows, Fz (H0 w) (.sl .ext rows) (.slice (some a) len cap) ∧ rows.length = len ∧ ∀ r ∈ rows, HasC T f e r := by
  rw [cellsOf_T hT hj] at h
  have hr : ∀ i, ∃ as, i < len → ∃ cs', w.cells? base (a.add (i * j.size)) j.size = some cs' ∧ Good w as cs' ∧ HasC T f e as := by
    intro i
    by_cases hi : i < len
    · obtain ⟨cs', y, h2, h3⟩ := h i hi
      obtain ⟨as, h4, h5⟩ := ih cs' y h3
      exact ⟨as, fun _ => ⟨cs', h2, h4, h5⟩⟩
    · exact ⟨[], fun h => absurd h hi⟩
  obtain ⟨g, hg⟩ := Classical.axiomOfChoice hr
  have hrows : ∀ (i : Nat) row, ((List.range len).map g)[i]? = some row → i < len ∧ row = g i := by
    intro i row hi
    rw [List.getElem?_map] at hi
    by_cases hl : i < len
    · rw [List.getElem?_range hl] at hi
      simp at hi
      exact ⟨hl, hi.symm⟩
    · rw [List.getElem?_eq_none (by simp; omega)] at hi
      cases hi
  have addr : ∀ i o, i < len → o < j.size → ∃ v, w.cell? ⟨a.block, a.off + i * j.size + o, none⟩ = some v ∧ ∀ x, (g i)[o]? = some x → Fz (H0 w) x v ∧ x.one = true := by
    intro i o hi ho
    obtain ⟨cs', h2, h3, h4⟩ := hg i hi
    obtain ⟨h5, h6⟩ := cells_get h2
    have h7 := h6 o ho
    have h8 : cs'[o]? = some cs'[o] := List.getElem?_eq_getElem (by omega)
    have hx := h6 0 (by omega)
    rw [List.getElem?_eq_getElem (show 0 < cs'.length by omega)] at hx
    have e0 : (a.add (i * j.size)).add 0 = a.add (i * j.size) := rfl
    rw [e0] at hx
    have e1 := add_one (w := w) (a := a) (n := i * j.size) (by rw [hx]; rfl)
    rw [e1] at h7
    rw [h8] at h7
    have e2 := add_one (w := w) (a := ⟨a.block, a.off + i * j.size, none⟩) (n := o) (by rw [h7]; rfl)
    rw [e2] at h7
    exact ⟨_, h7, fun x hx => h3.2 o x _ hx h8⟩
  refine ⟨(List.range len).map g, ?_, by simp, ?_⟩
  · have key := Fz.sl (H := H0 w) ((List.range len).map g) (some a) cap j.size a.block a.off (fun i o => (w.cell? ⟨a.block, a.off + i * j.size + o, none⟩).getD undef) ?_ (by simpa using h1) ?_ ?_ ?_
    · simpa using key
    · intro hne
      have hl : 0 < len := by
        rcases Nat.eq_zero_or_pos len with h | h
        · subst h; exact absurd rfl hne
        · exact h
      obtain ⟨cs', h2, h3, h4⟩ := hg 0 hl
      obtain ⟨h5, h6⟩ := cells_get h2
      have hx := h6 0 (by omega)
      rw [List.getElem?_eq_getElem (show 0 < cs'.length by omega)] at hx
      have e0 : (a.add (0 * j.size)).add 0 = a.add (0 * j.size) := rfl
      rw [e0, Nat.zero_mul] at hx
      have e1 := add_one (w := w) (a := a) (n := 0) (by rw [hx]; rfl)
      have e2 : a.add 0 = a := rfl
      rw [e2] at e1
      rw [e1]
    · intro i row hi
      obtain ⟨hl, rfl⟩ := hrows i row hi
      obtain ⟨cs', h2, h3, h4⟩ := hg i hl
      rw [h3.1, (cells_get h2).1]
    · intro i row o x hi hx
      obtain ⟨hl, rfl⟩ := hrows i row hi
      obtain ⟨cs', h2, h3, h4⟩ := hg i hl
      have ho : o < j.size := by
        have := (List.getElem?_eq_some_iff.1 hx).1
        rw [h3.1, (cells_get h2).1] at this
        exact this
      obtain ⟨v, h5, h6⟩ := addr i o hl ho
      rw [h5]
      exact H0_some h5 (R.one (G := ⟨H0 w, fun _ _ => none, fun _ _ => none, fun _ => none⟩) (.fz _ _ (h6 x hx).1) (h6 x hx).2)
    · intro i row o x hi hx
      obtain ⟨hl, rfl⟩ := hrows i row hi
      obtain ⟨cs', h2, h3, h4⟩ := hg i hl
      have ho : o < j.size := by
        have := (List.getElem?_eq_some_iff.1 hx).1
        rw [h3.1, (cells_get h2).1] at this
        exact this
      obtain ⟨v, h5, h6⟩ := addr i o hl ho
      simp only [h5, Option.getD_some]
      exact (h6 x hx).1
  · intro r hr
    obtain ⟨i, hi, rfl⟩ := List.mem_map.1 hr
    obtain ⟨cs', h2, h3, h4⟩ := hg i (by simpa using hi)
    exact h4

theorem read_good (hT : TTok P T) (hL : ∀ t, L.contains t = true → okTy T L t = true) : ∀ (f t : Nat), L.contains t = true → ∀ cs x, DataW.trod enc P w base spare held f t cs = some x → ∃ as, Good w as cs ∧ HasC T f t as
  | 0, t, _, cs, x, h => by cases h
  | f + 1, t, ht, cs, x, h => by
    have hok := hL t ht
    unfold okTy at hok
    split at hok
    case h_2 => cases hok
    rename_i i hi
    have hk := (hT t i hi).kind
    have ih := read_good hT hL f
    have fin : ∀ {as}, Good w as cs → (match i.kind with
      | .int k => ∃ n, as = [.i k n] ∧ k.min ≤ n ∧ n ≤ k.max
      | .bool => ∃ b, as = [.b b]
      | .str => ∃ s, as = [.s s] ∧ s.length ≤ maxLen
      | .sl e => ∃ rows, as = [.sl .ext rows] ∧ rows.length ≤ maxLen ∧ ∀ r ∈ rows, HasC T f e r
      | .st fs => ∀ x ∈ fs, ∃ j, T x.1 = some j ∧ HasC T f x.1 ((as.drop x.2).take j.size)
      | _ => False) → ∃ as, Good w as cs ∧ HasC T (f + 1) t as := by
      intro as h1 h2
      refine ⟨as, h1, ?_⟩
      unfold HasC
      rw [hi]
      exact h2
    revert hk hok fin
    generalize hkk : i.kind = kk
    cases kk with
    | int k =>
      intro hok hk fin
      obtain ⟨n, rfl, hn⟩ := inv_int hk h
      exact fin (.one (.i k n) rfl) ⟨n, rfl, hn⟩
    | bool =>
      intro hok hk fin
      obtain ⟨b, rfl⟩ := inv_bool hk h
      exact fin (.one (.b b) rfl) ⟨b, rfl⟩
    | str =>
      intro hok hk fin
      obtain ⟨s, rfl, hs⟩ := inv_str hk h
      refine fin (.one (a := .s s.data.toList) ?_ rfl) ⟨_, rfl, by simpa using hs⟩
      have e : s = ⟨s.data.toList.toArray⟩ := by simp
      have := Fz.s (H := H0 w) s.data.toList
      rwa [← e] at this
    | sl e =>
      intro hok hk fin
      simp only [Bool.and_eq_true] at hok
      obtain ⟨hLe, hj⟩ := hok
      split at hj
      case h_2 => cases hj
      rename_i j hj'
      rcases inv_sl hk h with rfl | ⟨a, len, cap, rfl, h1, h2, h3⟩
      · refine fin (.one (a := .sl .ext []) ?_ rfl) ⟨[], rfl, by simp, by simp⟩
        exact Fz.sl [] none 0 0 0 0 (fun _ _ => undef) (by simp) (by simp) (by simp) (by simp) (by simp)
      · obtain ⟨rows, h4, h5, h6⟩ := read_sl hT hj' (of_decide_eq_true hj) (ih e hLe) h1 h3
        exact fin (.one h4 rfl) ⟨rows, rfl, by omega, h6⟩
    | arr n e => intro hok; cases hok
    | st fs =>
      intro hok hk fin
      simp only [Bool.and_eq_true] at hok
      obtain ⟨fields, h1, h2⟩ := hk
      obtain ⟨h3, xs, h4⟩ := inv_st h1 h
      rw [cellsOf_T hT hi] at h3
      have hc : contig T 0 fs = some i.size := by simpa using hok.2
      obtain ⟨_, as, h5, h6⟩ := fields_good hT ih fs fields.toList 0 i.size xs h2 hc h3.symm hok.1 h4
      rw [List.drop_zero] at h5
      refine fin h5 fun x hx => ?_
      obtain ⟨_, j, h7, h8⟩ := h6 x hx
      exact ⟨j, h7, by simpa using h8⟩
    | other => intro hok; cases hok

/-- A value as a whole. -/
theorem Good.val {as : List AV} {v : Value} (h : Good w as v.cells.toList) {agg : Bool} {x : AV} (hx : ofCells agg as = some x) (ha : agg = (match v with | .agg _ => true | _ => false)) : Fz (H0 w) x v ∨ ∃ cs us, x = .ag cs ∧ v = .agg us ∧ Good w cs us.toList := by
  subst ha
  cases v with
  | agg us =>
    simp only [ofCells, if_true] at hx
    cases hx
    exact .inr ⟨as, us, rfl, rfl, h⟩
  | _ =>
    simp only [ofCells, Bool.false_eq_true, if_false] at hx
    split at hx
    · cases hx
      exact .inl (h.2 0 _ _ rfl rfl).1
    · cases hx
end
end Go.AM
