/- Parts of the proof: S0, R1, R2, AmB, R3, S1. -/
import Derived.Test.YtcojcdpoeaaigaaG1
import Derived.WalkKit
import Derived.ProofKit
import Derived.OpenShut
import Derived.Laws.Externs
import Derived.Lib.Bytealg
import Derived.Shelf.Strings.Builder1
import Derived.Lib.Builder
set_option linter.all false
/- Steps of the abstract machine, one law an operation: what the printer's proofs are made of. -/
namespace Go.AM
open Go

/-- upd, so that it is looked up by reduction. -/
def up (σ : Sl) (d : Nat) (v : AV) : Sl := fun t => cond (Nat.beq t d) v (σ t)
theorem up_eq (σ : Sl) (d : Nat) (v : AV) : upd σ d v = up σ d v := by
  funext t
  unfold upd up
  by_cases h : t = d
  · rw [if_pos h, h, Nat.beq_refl]; rfl
  · rw [if_neg h]
    have : Nat.beq t d = false := by
      cases hb : Nat.beq t d with
      | false => rfl
      | true => exact absurd (Nat.eq_of_beq_eq_true hb) h
    rw [this]; rfl
def upO (σ : Sl) (d : Option Nat) (v : AV) : Sl := match d with | some d => up σ d v | none => σ
theorem upO_eq (σ : Sl) (d : Option Nat) (v : AV) : updO σ d v = upO σ d v := by cases d <;> simp [updO, upO, up_eq]

/-- The result of a call that shares no memory, as the caller sees it. -/
def Pus (prog : Prog) (f : Nat) (args : List AV) (r : AV) : Prop := ∃ r', Pu prog f args r' ∧ r'.strip = some r

theorem Pus.det {prog : Prog} {f : Nat} {args : List AV} {r r' : AV} (h : Pus prog f args r) (k : Pus prog f args r') : r = r' := by
  obtain ⟨a, h1, h2⟩ := h
  obtain ⟨b, h3, h4⟩ := k
  rw [h1.det h3, h4] at h2
  injection h2 with h2
  exact h2.symm

/-- The same element again and again. -/
def rep {α : Type} (n : Nat) (a : α) : List α := List.replicate n a
theorem rep_eq {α : Type} (n : Nat) (a : α) : rep n a = List.replicate n a := rfl
theorem rep_len {α : Type} (n : Nat) (a : α) : (rep n a).length = n := List.length_replicate
attribute [irreducible] rep

def Fit (n bytes : Nat) : Prop := n * bytes ≤ maxBytes ∧ n ≤ maxBytes

/-- A call that appends to its first argument. -/
def PuA (prog : Prog) (f : Nat) (rows : List (List AV)) (args : List AV) (rows' : List (List AV)) : Prop :=
  ∀ d st o, App st.ow o rows.length → ∃ o' st', Fn prog d f (.sl o rows :: args) st (.sl o' rows') st' ∧ App st'.ow o' rows'.length

section
variable {prog : Prog} {d id base i : Nat} {σ : Sl} {st : St} {K : Sl → St → Prop} {r : List AI} {t : Option Nat} {x y : Opd}

theorem s_nil (h : K σ st) : WO prog d id base i [] σ st K := h

theorem s_one {op : AOp} (h : WOp prog d (id * 4096 + i) (base + i) σ st (fun v st' => WO prog d id base (i + 1) r (upO σ t v) st' K) op) : WO prog d id base i (⟨t, op, none⟩ :: r) σ st K := by
  show WOp prog d (id * 4096 + i) (base + i) σ st (fun v st' => WO prog d id base (i + 1) r (updO σ t v) st' K) op
  simp only [upO_eq]
  exact h

/-- An operation that looks at nothing but its operands. -/
theorem s_pure {op : AOp} {v : AV} (hv : ∀ K : AV → St → Prop, WOp prog d (id * 4096 + i) (base + i) σ st K op = K v st) (h : WO prog d id base (i + 1) r (upO σ t v) st K) : WO prog d id base i (⟨t, op, none⟩ :: r) σ st K := by
  refine s_one ?_
  rw [hv]
  exact h

theorem s_mv {v : AV} (hx : x.ev σ = v) (h : WO prog d id base (i + 1) r (upO σ t v) st K) : WO prog d id base i (⟨t, .mv x, none⟩ :: r) σ st K :=
  s_pure (fun K => by rw [WOp_mv, hx]) h
theorem s_bin {op : BinOp} {a b v : AV} (hx : x.ev σ = a) (hy : y.ev σ = b) (hv : abin op a b = some v) (h : WO prog d id base (i + 1) r (upO σ t v) st K) : WO prog d id base i (⟨t, .bin op x y, none⟩ :: r) σ st K :=
  s_pure (fun K => by rw [WOp_bin, hx, hy, hv, onO_some]) h
theorem s_beq {a b : Bool} (hx : x.ev σ = .b a) (hy : y.ev σ = .b b) (h : WO prog d id base (i + 1) r (upO σ t (.b (decide (a = b)))) st K) : WO prog d id base i (⟨t, .beq false x y, none⟩ :: r) σ st K :=
  s_pure (fun K => by
    simp only [WOp, aexec, apure, hx, hy, Option.map_some, onO_some]
    cases a <;> cases b <;> rfl) h
theorem s_bne {a b : Bool} (hx : x.ev σ = .b a) (hy : y.ev σ = .b b) (h : WO prog d id base (i + 1) r (upO σ t (.b (decide (a ≠ b)))) st K) : WO prog d id base i (⟨t, .beq true x y, none⟩ :: r) σ st K :=
  s_pure (fun K => by
    simp only [WOp, aexec, apure, hx, hy, Option.map_some, onO_some]
    cases a <;> cases b <;> rfl) h
theorem s_not {a : Bool} (hx : x.ev σ = .b a) (h : WO prog d id base (i + 1) r (upO σ t (.b (!a))) st K) : WO prog d id base i (⟨t, .un .not x, none⟩ :: r) σ st K :=
  s_pure (fun K => by simp only [WOp, aexec, apure, hx, Option.map_some, onO_some]) h
theorem s_notp {p : Prop} [Decidable p] (hx : x.ev σ = .b (decide p)) (h : WO prog d id base (i + 1) r (upO σ t (.b (decide (¬p)))) st K) : WO prog d id base i (⟨t, .un .not x, none⟩ :: r) σ st K :=
  s_not hx (by rw [← decide_not]; exact h)
theorem s_neg {k : IntKind} {n : Int} (hx : x.ev σ = .i k n) (h : WO prog d id base (i + 1) r (upO σ t (.i k (k.wrap (0 - n)))) st K) : WO prog d id base i (⟨t, .un .neg x, none⟩ :: r) σ st K :=
  s_pure (fun K => by simp only [WOp, aexec, apure, hx, Option.map_some, onO_some]) h
theorem s_lenS {l : List UInt8} (hx : x.ev σ = .s l) (h : WO prog d id base (i + 1) r (upO σ t (.i .i64 (l.length : Int))) st K) : WO prog d id base i (⟨t, .len true x, none⟩ :: r) σ st K :=
  s_pure (fun K => by rw [WOp_lenS, hx, onS_s]) h
theorem s_lenL {α : Type} {f : α → List AV} {l : List α} {o : Own} (hx : x.ev σ = .sl o (l.map f)) (h : WO prog d id base (i + 1) r (upO σ t (.i .i64 (l.length : Int))) st K) : WO prog d id base i (⟨t, .len false x, none⟩ :: r) σ st K :=
  s_pure (fun K => by rw [WOp_lenL, hx, onL_sl, List.length_map]) h
theorem s_ixS {l : List UInt8} {k : IntKind} {n : Int} {c : UInt8} (hx : x.ev σ = .s l) (hy : y.ev σ = .i k n) (h0 : 0 ≤ n) (hc : l[n.toNat]? = some c) (h : WO prog d id base (i + 1) r (upO σ t (.i .u8 (c.toNat : Int))) st K) : WO prog d id base i (⟨t, .ixS x y, none⟩ :: r) σ st K :=
  s_pure (fun K => by rw [WOp_ixS, hx, onS_s, hy, onN_pos _ _ _ h0, hc, onO_some]) h
theorem s_cvi {k k' : IntKind} {n : Int} (hx : x.ev σ = .i k' n) (h : WO prog d id base (i + 1) r (upO σ t (.i k (k.wrap n))) st K) : WO prog d id base i (⟨t, .cvi k x, none⟩ :: r) σ st K :=
  s_pure (fun K => by rw [WOp_cvi, hx, onI_i]) h
theorem s_b2s {l : List UInt8} {o : Own} (hx : x.ev σ = .sl o (l.map row8)) (h : WO prog d id base (i + 1) r (upO σ t (.s l)) st K) : WO prog d id base i (⟨t, .b2s x, none⟩ :: r) σ st K :=
  s_pure (fun K => by
    have := bytesOf_bs l
    unfold bs at this
    rw [WOp_b2s, hx, onL_sl, this, onO_some]) h
theorem s_ext {k : Nat} {vs : List AV} {v : AV} (hx : x.ev σ = .tup vs) (hv : vs[k]? = some v) (h : WO prog d id base (i + 1) r (upO σ t v) st K) : WO prog d id base i (⟨t, .ext k x, none⟩ :: r) σ st K :=
  s_pure (fun K => by rw [WOp_ext, hx, onT_tup, hv, onO_some]) h
theorem s_max {k : IntKind} {a b : Int} (hx : x.ev σ = .i k a) (hy : y.ev σ = .i k b) (h : WO prog d id base (i + 1) r (upO σ t (.i k (if a < b then b else a))) st K) : WO prog d id base i (⟨t, .max x y, none⟩ :: r) σ st K :=
  s_pure (fun K => by simp only [WOp, aexec, apure, hx, hy, if_true, Option.map_some, onO_some]) h

/-! strings and slices cut -/
theorem s_slS_lo {z : Opd} {l : List UInt8} {k : IntKind} {n : Int} (hx : x.ev σ = .s l) (hz : z.ev σ = .i k n) (h0 : 0 ≤ n) (h1 : n.toNat ≤ l.length) (h : WO prog d id base (i + 1) r (upO σ t (.s (l.drop n.toNat))) st K) : WO prog d id base i (⟨t, .slS x (some z) none, none⟩ :: r) σ st K :=
  s_pure (fun K => by
    rw [WOp_slS, hx, onS_s]
    have hb : bnds σ l.length l.length (some z) none = some (n.toNat, l.length) := by
      simp only [bnds, hz, AV.nat, h0, if_true]
      rw [if_pos ⟨h1, Nat.le_refl _⟩]
    rw [hb, onO_some]
    simp only
    rw [List.take_of_length_le (by simp)]) h
theorem s_slS_hi {z : Opd} {l : List UInt8} {k : IntKind} {n : Int} (hx : x.ev σ = .s l) (hz : z.ev σ = .i k n) (h0 : 0 ≤ n) (h1 : n.toNat ≤ l.length) (h : WO prog d id base (i + 1) r (upO σ t (.s (l.take n.toNat))) st K) : WO prog d id base i (⟨t, .slS x none (some z), none⟩ :: r) σ st K :=
  s_pure (fun K => by
    rw [WOp_slS, hx, onS_s]
    have hb : bnds σ l.length l.length none (some z) = some (0, n.toNat) := by
      simp only [bnds, hz, AV.nat, h0, if_true]
      rw [if_pos ⟨Nat.zero_le _, h1⟩]
    rw [hb, onO_some]
    simp only [List.drop_zero, Nat.sub_zero]) h
theorem s_slS {z z' : Opd} {l : List UInt8} {k k' : IntKind} {n m : Int} (hx : x.ev σ = .s l) (hz : z.ev σ = .i k n) (hz' : z'.ev σ = .i k' m) (h0 : 0 ≤ n) (h1 : n ≤ m) (h2 : m.toNat ≤ l.length) (h : WO prog d id base (i + 1) r (upO σ t (.s ((l.drop n.toNat).take (m.toNat - n.toNat)))) st K) : WO prog d id base i (⟨t, .slS x (some z) (some z'), none⟩ :: r) σ st K :=
  s_pure (fun K => by
    rw [WOp_slS, hx, onS_s]
    have hb : bnds σ l.length l.length (some z) (some z') = some (n.toNat, m.toNat) := by
      simp only [bnds, hz, hz', AV.nat, h0, show (0 : Int) ≤ m by omega, if_true]
      rw [if_pos ⟨by omega, h2⟩]
    rw [hb, onO_some]) h
theorem s_slL_lo {α : Type} {f : α → List AV} {l : List α} {o : Own} {size : Nat} {z : Opd} {k : IntKind} {n : Int} (hf : ∀ a, (f a).length = size) (hx : x.ev σ = .sl o (l.map f)) (hz : z.ev σ = .i k n) (h0 : 0 ≤ n) (h1 : n.toNat ≤ l.length) (h : WO prog d id base (i + 1) r (upO σ t (.sl .ext ((l.drop n.toNat).map f))) st K) : WO prog d id base i (⟨t, .slL size x (some z) none, none⟩ :: r) σ st K :=
  s_pure (fun K => by
    rw [WOp_slL, hx, onL_sl]
    have hb : bnds σ (l.map f).length (l.map f).length (some z) none = some (n.toNat, (l.map f).length) := by
      simp only [bnds, hz, AV.nat, h0, if_true]
      rw [if_pos ⟨by simpa using h1, Nat.le_refl _⟩]
    have hall : ((l.map f).all fun c => c.length == size) = true := by simp [hf]
    rw [hb, onO_some]
    simp only [hall, true_and]
    rw [List.take_of_length_le (by simp), List.map_drop]) h
theorem s_slL_hi {α : Type} {f : α → List AV} {l : List α} {o : Own} {size : Nat} {z : Opd} {k : IntKind} {n : Int} (hf : ∀ a, (f a).length = size) (hx : x.ev σ = .sl o (l.map f)) (hz : z.ev σ = .i k n) (h0 : 0 ≤ n) (h1 : n.toNat ≤ l.length) (h : WO prog d id base (i + 1) r (upO σ t (.sl .ext ((l.take n.toNat).map f))) st K) : WO prog d id base i (⟨t, .slL size x none (some z), none⟩ :: r) σ st K :=
  s_pure (fun K => by
    rw [WOp_slL, hx, onL_sl]
    have hb : bnds σ (l.map f).length (l.map f).length none (some z) = some (0, n.toNat) := by
      simp only [bnds, hz, AV.nat, h0, if_true]
      rw [if_pos ⟨Nat.zero_le _, by simpa using h1⟩]
    have hall : ((l.map f).all fun c => c.length == size) = true := by simp [hf]
    rw [hb, onO_some]
    simp only [hall, true_and, List.drop_zero, Nat.sub_zero, List.map_take]) h
theorem s_slL {α : Type} {f : α → List AV} {l : List α} {o : Own} {size : Nat} {z z' : Opd} {k k' : IntKind} {n m : Int} (hf : ∀ a, (f a).length = size) (hx : x.ev σ = .sl o (l.map f)) (hz : z.ev σ = .i k n) (hz' : z'.ev σ = .i k' m) (h0 : 0 ≤ n) (h1 : n ≤ m) (h2 : m.toNat ≤ l.length) (h : WO prog d id base (i + 1) r (upO σ t (.sl .ext (((l.drop n.toNat).take (m.toNat - n.toNat)).map f))) st K) : WO prog d id base i (⟨t, .slL size x (some z) (some z'), none⟩ :: r) σ st K :=
  s_pure (fun K => by
    rw [WOp_slL, hx, onL_sl]
    have hb : bnds σ (l.map f).length (l.map f).length (some z) (some z') = some (n.toNat, m.toNat) := by
      simp only [bnds, hz, hz', AV.nat, h0, show (0 : Int) ≤ m by omega, if_true]
      rw [if_pos ⟨by omega, by simpa using h2⟩]
    have hall : ((l.map f).all fun c => c.length == size) = true := by simp [hf]
    rw [hb, onO_some]
    simp only [hall, true_and, List.map_take, List.map_drop]) h

/-! aggregates -/
theorem s_fld {off n : Nat} {agg : Bool} {cs : List AV} {v : AV} (hx : x.ev σ = .ag cs) (hn : Nat.ble (off + n) cs.length = true) (hv : ofCells agg ((cs.drop off).take n) = some v) (h : WO prog d id base (i + 1) r (upO σ t v) st K) : WO prog d id base i (⟨t, .fld off n agg x, none⟩ :: r) σ st K :=
  s_pure (fun K => by simp only [WOp, aexec, apure, hx, Nat.le_of_ble_eq_true hn, if_true, hv, Option.map_some, onO_some]) h
theorem s_build {zero : List AV} {parts : List (Nat × Nat × Opd)} {cs : List AV} (hp : fillCells σ zero parts = some cs) (h : WO prog d id base (i + 1) r (upO σ t (.ag cs)) st K) : WO prog d id base i (⟨t, .build zero parts, none⟩ :: r) σ st K :=
  s_pure (fun K => by simp only [WOp, aexec, apure, hp, Option.map_some, onO_some]) h
theorem f_nil {cs : List AV} : fillCells σ cs [] = some cs := rfl
theorem f_cons {cells cs : List AV} {off n : Nat} {v : AV} {ps : List (Nat × Nat × Opd)} (hx : x.ev σ = v) (hc : (Nat.beq v.cells.length n && Nat.ble (off + n) cells.length && v.cells.all AV.one) = true) (h : fillCells σ (setAt cells off v.cells) ps = some cs) : fillCells σ cells ((off, n, x) :: ps) = some cs := by
  simp only [Bool.and_eq_true] at hc
  simp only [fillCells, hx]
  rw [if_pos ⟨Nat.eq_of_beq_eq_true hc.1.1, Nat.le_of_ble_eq_true hc.1.2, hc.2⟩]
  exact h
theorem s_ixA {α : Type} {f : α → AV} {l : List α} {n : Nat} {k : IntKind} {m : Int} {c : α} (hn : l.length = n) (hx : x.ev σ = .ag (l.map f)) (hy : y.ev σ = .i k m) (h0 : 0 ≤ m) (hc : l[m.toNat]? = some c) (h : WO prog d id base (i + 1) r (upO σ t (f c)) st K) : WO prog d id base i (⟨t, .ixA n 1 false x y, none⟩ :: r) σ st K :=
  s_pure (fun K => by
    have hl : m.toNat < l.length := by
      rcases Nat.lt_or_ge m.toNat l.length with h | h
      · exact h
      · rw [List.getElem?_eq_none h] at hc; cases hc
    have hd : ((l.map f).drop m.toNat).take 1 = [f c] := by
      rw [List.drop_eq_getElem_cons (by simpa using hl)]
      simp only [List.getElem_map, List.take_succ_cons, List.take_zero]
      rw [List.getElem?_eq_getElem hl] at hc
      injection hc with hc
      rw [hc]
    simp only [WOp, aexec, apure, hx, hy, AV.nat, h0, if_true, Nat.mul_one]
    rw [if_pos ⟨by omega, by simp; omega⟩, hd]
    simp only [ofCells, Bool.false_eq_true, if_false, Option.map_some, onO_some]) h

/-! slices -/
theorem s_bslice {zero z : List AV} {n : Nat} {parts : List (Nat × Opd)} {rows : List (List AV)} (hz : softs zero = some z) (hn : (Nat.blt 0 z.length && Nat.ble (n * z.length) 65536) = true) (hp : fillRows z σ (List.replicate n z) parts = some rows) (h : WO prog d id base (i + 1) r (upO σ t (.sl .full rows)) st K) : WO prog d id base i (⟨t, .bslice zero n parts, none⟩ :: r) σ st K :=
  s_pure (fun K => by
    simp only [Bool.and_eq_true] at hn
    have h1 : 0 < z.length := Nat.le_of_ble_eq_true hn.1
    rw [WOp_bslice, hz, onO_some, hp, onO_some]
    simp only [h1, Nat.le_of_ble_eq_true hn.2, and_self, true_and]) h
theorem g_nil {z : List AV} {rows : List (List AV)} : fillRows z σ rows [] = some rows := rfl
theorem g_cons {z : List AV} {rows rows' : List (List AV)} {j : Nat} {v : AV} {cs : List AV} {ps : List (Nat × Opd)} (hx : x.ev σ = v) (hc : softs v.cells = some cs) (hn : (Nat.blt j rows.length && Nat.beq cs.length z.length) = true) (h : fillRows z σ (rows.set j cs) ps = some rows') : fillRows z σ rows ((j, x) :: ps) = some rows' := by
  simp only [Bool.and_eq_true] at hn
  have h1 : j < rows.length := Nat.le_of_ble_eq_true hn.1
  simp only [fillRows, hx, hc]
  rw [if_pos ⟨h1, Nat.eq_of_beq_eq_true hn.2⟩]
  exact h
theorem s_iaL {α : Type} {f : α → List AV} {l : List α} {o : Own} {size : Nat} {k : IntKind} {n : Int} {c : α} {cs : List AV} (hx : x.ev σ = .sl o (l.map f)) (hy : y.ev σ = .i k n) (h0 : 0 ≤ n) (hc : l[n.toNat]? = some c) (hf : f c = cs) (hs : (Nat.beq cs.length size && Nat.blt 0 size) = true) (h : WO prog d id base (i + 1) r (upO σ t (.fp cs)) st K) : WO prog d id base i (⟨t, .iaL size x y, none⟩ :: r) σ st K :=
  s_pure (fun K => by
    simp only [Bool.and_eq_true] at hs
    have h1 : 0 < size := Nat.le_of_ble_eq_true hs.2
    have h2 : (l.map f)[n.toNat]? = some cs := by rw [List.getElem?_map, hc, Option.map_some, hf]
    simp only [WOp, aexec, apure, hx, hy, AV.nat, h0, if_true, h2]
    rw [if_pos ⟨Nat.eq_of_beq_eq_true hs.1, h1⟩, Option.map_some, onO_some]) h
theorem s_loadF {n : Nat} {agg : Bool} {cs : List AV} {v : AV} (hx : x.ev σ = .fp cs) (hn : Nat.ble n cs.length = true) (hv : ofCells agg (cs.take n) = some v) (h : WO prog d id base (i + 1) r (upO σ t v) st K) : WO prog d id base i (⟨t, .load n agg x, none⟩ :: r) σ st K :=
  s_pure (fun K => by simp only [WOp, aexec, aload, hx, Nat.le_of_ble_eq_true hn, if_true, hv, Option.map_some, onO_some]) h
theorem s_ldf {n : Nat} {agg : Bool} {cs : List AV} {v : AV} (hx : x.ev σ = .fp cs) (hn : Nat.ble n cs.length = true) (hv : ofCells agg (cs.take n) = some v) (h : WO prog d id base (i + 1) r (upO σ t v) st K) : WO prog d id base i (⟨t, .ldf n agg x, none⟩ :: r) σ st K :=
  s_pure (fun K => by simp only [WOp, aexec, apure, hx, Nat.le_of_ble_eq_true hn, if_true, hv, Option.map_some, onO_some]) h
theorem s_fadF {off : Nat} {cs : List AV} (hx : x.ev σ = .fp cs) (h : WO prog d id base (i + 1) r (upO σ t (.fp (cs.drop off))) st K) : WO prog d id base i (⟨t, .fad off x, none⟩ :: r) σ st K :=
  s_pure (fun K => by simp only [WOp, aexec, apure, hx, Option.map_some, onO_some]) h
theorem s_nilF {cs : List AV} (hx : x.ev σ = .fp cs) (h : WO prog d id base (i + 1) r (upO σ t (.fp cs)) st K) : WO prog d id base i (⟨t, .nilc x, none⟩ :: r) σ st K :=
  s_pure (fun K => by simp only [WOp, aexec, apure, hx, Option.map_some, onO_some]) h
theorem s_mks {α : Type} {f : α → List AV} {a : α} {zero z : List AV} {bytes : Nat} {k k' : IntKind} {n m : Int} (hz : softs zero = some z) (hf : f a = z) (hz0 : Nat.blt 0 z.length = true) (hx : x.ev σ = .i k n) (hy : y.ev σ = .i k' m) (h0 : 0 ≤ n) (hm : n = m) (hs : Fit n.toNat bytes) (h : WO prog d id base (i + 1) r (upO σ t (.sl .full ((rep n.toNat a).map f))) st K) : WO prog d id base i (⟨t, .mks zero bytes x y, none⟩ :: r) σ st K :=
  s_pure (fun K => by
    subst hm
    have h1 : 0 < z.length := Nat.le_of_ble_eq_true hz0
    simp only [WOp, aexec, hx, hy, AV.nat, h0, if_true, hz]
    rw [if_pos ⟨trivial, hs.1, hs.2, h1⟩, onO_some, rep_eq, List.map_replicate, hf]) h

/-! pointers -/
theorem s_alloc {zero : List AV} (h : WO prog d id base (i + 1) r (upO σ t (.p (d, id * 4096 + i) (base + i) 0)) st K) : WO prog d id base i (⟨t, .alloc zero, none⟩ :: r) σ st K :=
  s_pure (fun _ => rfl) h
theorem s_fadP {off o v : Nat} {k : Key} (hx : x.ev σ = .p k v o) (h : WO prog d id base (i + 1) r (upO σ t (.p k v (o + off))) st K) : WO prog d id base i (⟨t, .fad off x, none⟩ :: r) σ st K :=
  s_pure (fun K => by simp only [WOp, aexec, apure, hx, Option.map_some, onO_some]) h
theorem s_nilP {o v : Nat} {k : Key} (hx : x.ev σ = .p k v o) (h : WO prog d id base (i + 1) r (upO σ t (.p k v o)) st K) : WO prog d id base i (⟨t, .nilc x, none⟩ :: r) σ st K :=
  s_pure (fun K => by simp only [WOp, aexec, apure, hx, Option.map_some, onO_some]) h
theorem s_loadP {n o v : Nat} {agg : Bool} {k : Key} {cs : List AV} {w : AV} (hx : x.ev σ = .p k v o) (hb : lk st.bx k = some (v, cs)) (hn : Nat.ble (o + n) cs.length = true) (hv : ofCells agg ((cs.drop o).take n) = some w) (h : WO prog d id base (i + 1) r (upO σ t w) st K) : WO prog d id base i (⟨t, .load n agg x, none⟩ :: r) σ st K :=
  s_pure (fun K => by simp only [WOp, aexec, aload, hx, hb, Nat.le_of_ble_eq_true hn, and_self, if_true, hv, Option.map_some, onO_some]) h
theorem s_storeP {n o v : Nat} {k : Key} {cs cs' : List AV} {w : AV} (hx : x.ev σ = .p k v o) (hb : lk st.bx k = some (v, cs)) (hy : y.ev σ = w) (hn : (Nat.ble (o + n) cs.length && Nat.beq w.cells.length n && w.cells.all AV.one) = true) (hs : setAt cs o w.cells = cs') (h : WO prog d id base (i + 1) r (upO σ t (.tup [])) { st with bx := st_ st.bx k (v, cs') } K) : WO prog d id base i (⟨t, .store n x y, none⟩ :: r) σ st K := by
  refine s_one ?_
  simp only [Bool.and_eq_true] at hn
  simp only [WOp, aexec, astore, hx, hb, hy]
  rw [if_pos ⟨trivial, Nat.le_of_ble_eq_true hn.1.1, Nat.eq_of_beq_eq_true hn.1.2, hn.2⟩, hs]
  simp only [Option.map_some, onO_some]
  exact h
theorem s_box {n : Nat} {v : AV} (hx : x.ev σ = v) (hn : (Nat.beq v.cells.length n && v.cells.all AV.one) = true) (h : WO prog d id base (i + 1) r (upO σ t (.p (d, id * 4096 + i) (base + i) 0)) { st with bx := st_ st.bx (d, id * 4096 + i) (base + i, v.cells) } K) : WO prog d id base i (⟨t, .box n x, none⟩ :: r) σ st K := by
  refine s_one ?_
  simp only [Bool.and_eq_true] at hn
  simp only [WOp, aexec, hx]
  rw [if_pos ⟨Nat.eq_of_beq_eq_true hn.1, hn.2⟩, onO_some]
  exact h
/-- An array in a box: one cell's address, by an index. -/
theorem s_iaP {n size o v : Nat} {k : Key} {k' : IntKind} {m : Int} (hx : x.ev σ = .p k v o) (hy : y.ev σ = .i k' m) (h0 : 0 ≤ m) (h1 : m.toNat < n) (h : WO prog d id base (i + 1) r (upO σ t (.p k v (o + m.toNat * size))) st K) : WO prog d id base i (⟨t, .iaA n size x y, none⟩ :: r) σ st K :=
  s_pure (fun K => by
    simp only [WOp, aexec, apure, hx, hy, AV.nat, h0, if_true, h1, Option.map_some, onO_some]) h

/-! appends -/
theorem s_app {α : Type} {f : α → List AV} {size bytes : Nat} {l m : List α} {o o2 : Own} (hf : ∀ a, (f a).length = size) (hsz : Nat.blt 0 size = true) (hx : x.ev σ = .sl o (l.map f)) (hy : y.ev σ = .sl o2 (m.map f)) (ha : App st.ow o l.length) (hs : Fit (l.length + m.length) bytes) (hb : Nat.blt (id * 4096 + i) bigSite = true)
    (h : ∀ o' ow', App ow' o' (l ++ m).length → (∀ k, some k ≠ ownKey o → k ≠ (d, id * 4096 + i) → lk ow' k = lk st.ow k) → (ownKey o' = ownKey o ∨ ownKey o' = some (d, id * 4096 + i)) → WO prog d id base (i + 1) r (upO σ t (.sl o' ((l ++ m).map f))) ⟨st.nx, st.bx, ow'⟩ K) : WO prog d id base i (⟨t, .app size bytes x y, none⟩ :: r) σ st K := by
  refine s_one ?_
  have h1 : 0 < size := Nat.le_of_ble_eq_true hsz
  refine WOp_app_ok (Nat.le_of_ble_eq_true hb) hx hy (by simpa using ha) (by simpa using hs.1) (by simpa using hs.2) h1 (by simp [hf]) (by simp [hf]) fun o' ow' h2 h3 h4 => ?_
  rw [← List.map_append] at h2 ⊢
  exact h o' ow' (by simpa using h2) h3 h4
theorem s_appS {l m : List UInt8} {o : Own} (hx : x.ev σ = .sl o (l.map row8)) (hy : y.ev σ = .s m) (ha : App st.ow o l.length) (hs : Fit (l.length + m.length) 1) (hb : Nat.blt (id * 4096 + i) bigSite = true)
    (h : ∀ o' ow', App ow' o' (l ++ m).length → (∀ k, some k ≠ ownKey o → k ≠ (d, id * 4096 + i) → lk ow' k = lk st.ow k) → (ownKey o' = ownKey o ∨ ownKey o' = some (d, id * 4096 + i)) → WO prog d id base (i + 1) r (upO σ t (.sl o' ((l ++ m).map row8))) ⟨st.nx, st.bx, ow'⟩ K) : WO prog d id base i (⟨t, .appS x y, none⟩ :: r) σ st K := by
  refine s_one ?_
  refine WOp_appS_ok (.inl (Nat.le_of_ble_eq_true hb)) hx hy (by simpa using ha) (by simpa using hs.2) (by simp [row8]) fun o' ow' h2 h3 h4 => ?_
  rw [← List.map_append] at h2 ⊢
  exact h o' ow' (by simpa using h2) h3 h4

/-! calls -/
theorem sn : AV.strips (evs σ []) = some [] := rfl
theorem sc {v w : AV} {xs : List Opd} {ws : List AV} (hx : x.ev σ = v) (hw : v.strip = some w) (h : AV.strips (evs σ xs) = some ws) : AV.strips (evs σ (x :: xs)) = some (w :: ws) := by
  simp only [evs, AV.strips, hx, hw, h]
theorem s_call {f : Nat} {args : List Opd} {vs : List AV} {v : AV} (hs : AV.strips (evs σ args) = some vs) (hp : Pus prog f vs v) (h : WO prog d id base (i + 1) r (upO σ t v) st K) : WO prog d id base i (⟨t, .call false f args, none⟩ :: r) σ st K := by
  refine s_one ?_
  obtain ⟨r', h1, h2⟩ := hp
  rw [WOp_call, hs, onO_some, WC_eq h1, h2, onO_some]
  exact h
theorem sen : evs σ [] = [] := rfl
theorem sec {v : AV} {xs : List Opd} {vs : List AV} (hx : x.ev σ = v) (h : evs σ xs = vs) : evs σ (x :: xs) = v :: vs := by simp only [evs, hx, h]
theorem s_callA {f : Nat} {args : List Opd} {vs : List AV} {o : Own} {rows rows' : List (List AV)} (hs : evs σ args = .sl o rows :: vs) (hp : PuA prog f rows vs rows') (ha : App st.ow o rows.length)
    (h : ∀ o' st', App st'.ow o' rows'.length → WO prog d id base (i + 1) r (upO σ t (.sl o' rows')) st' K) : WO prog d id base i (⟨t, .call true f args, none⟩ :: r) σ st K := by
  refine s_one ?_
  obtain ⟨o', st', h1, h2⟩ := hp (d + 1) st o ha
  rw [WOp_callp, hs]
  exact ⟨_, _, h1, h o' st' h2⟩

/-! guards, picks -/
section
variable {dst : Option Nat} {op : AOp} {g : Nat} {w : Bool}
theorem s_gy (hg : σ g = .b w) (h : WO prog d id base i (⟨dst, op, none⟩ :: r) σ st K) : WO prog d id base i (⟨dst, op, some (g, w)⟩ :: r) σ st K := by
  show W1 prog d _ _ ⟨dst, op, some (g, w)⟩ σ st _
  rw [W1_some, hg]
  cases w <;> exact h
theorem s_gn {b : Bool} (hg : σ g = .b b) (hb : (b != w) = true) (h : WO prog d id base (i + 1) r (upO σ dst (.tup [])) st K) : WO prog d id base i (⟨dst, op, some (g, w)⟩ :: r) σ st K := by
  show W1 prog d _ _ ⟨dst, op, some (g, w)⟩ σ st _
  rw [← upO_eq] at h
  rw [W1_some, hg]
  cases w <;> cases b <;> first | exact absurd hb (by decide) | exact h
theorem s_gt (hg : σ g = .tup []) (h : WO prog d id base (i + 1) r (upO σ dst (.tup [])) st K) : WO prog d id base i (⟨dst, op, some (g, w)⟩ :: r) σ st K := by
  show W1 prog d _ _ ⟨dst, op, some (g, w)⟩ σ st _
  rw [← upO_eq] at h
  rw [W1_some, hg]
  exact h
end
/-- Where a slot's bit is not known: both ways. -/
theorem s_em {ops : List AI} {g : Nat} {p : Prop} [Decidable p] (hg : σ g = .b (decide p)) (h1 : p → WO prog d id base i ops (up σ g (.b true)) st K) (h2 : ¬p → WO prog d id base i ops (up σ g (.b false)) st K) : WO prog d id base i ops σ st K := by
  by_cases h : p
  · have := h1 h
    rwa [← up_eq, upd_self (by rw [hg, decide_eq_true h])] at this
  · have := h2 h
    rwa [← up_eq, upd_self (by rw [hg, decide_eq_false h])] at this
theorem s_emb {ops : List AI} {g : Nat} {b : Bool} (hg : σ g = .b b) (h1 : b = true → WO prog d id base i ops (up σ g (.b true)) st K) (h2 : b = false → WO prog d id base i ops (up σ g (.b false)) st K) : WO prog d id base i ops σ st K := by
  cases b with
  | true => have := h1 rfl; rwa [← up_eq, upd_self hg] at this
  | false => have := h2 rfl; rwa [← up_eq, upd_self hg] at this
theorem s_pickT {a b : Opd} {v : AV} (hx : x.ev σ = .b true) (ha : a.ev σ = v) (h : WO prog d id base (i + 1) r (upO σ t v) st K) : WO prog d id base i (⟨t, .pick x a b, none⟩ :: r) σ st K :=
  s_pure (fun K => by rw [WOp_pick, hx, onB_true, ha]; rfl) h
theorem s_pickF {a b : Opd} {v : AV} (hx : x.ev σ = .b false) (hb : b.ev σ = v) (h : WO prog d id base (i + 1) r (upO σ t v) st K) : WO prog d id base i (⟨t, .pick x a b, none⟩ :: r) σ st K :=
  s_pure (fun K => by rw [WOp_pick, hx, onB_false, hb]; rfl) h
end

/-! control -/
section
variable {prog : Prog} {d : Nat} {σ : Sl} {st : St} {Q : AE → Sl → St → Prop}
theorem c_split {c : Opd} {a b : AC} {p : Prop} [Decidable p] (hc : c.ev σ = .b (decide p)) (h1 : p → W prog d a σ st Q) (h2 : ¬p → W prog d b σ st Q) : W prog d (.cond c a b) σ st Q := W.split hc h1 h2
theorem c_bool {c : Opd} {a b : AC} {t : Bool} (hc : c.ev σ = .b t) (h1 : t = true → W prog d a σ st Q) (h2 : t = false → W prog d b σ st Q) : W prog d (.cond c a b) σ st Q := W.cnd hc h1 h2
theorem c_tt {c : Opd} {a b : AC} (hc : c.ev σ = .b true) (h1 : W prog d a σ st Q) : W prog d (.cond c a b) σ st Q := W.tt hc h1
theorem c_ff {c : Opd} {a b : AC} (hc : c.ev σ = .b false) (h1 : W prog d b σ st Q) : W prog d (.cond c a b) σ st Q := W.ff hc h1

/-- A function's end, whatever it returns. -/
def endW (d : Nat) (res : List ARes) (K : AV → St → Prop) : AE → Sl → St → Prop
  | .normal, σ, st | .ret, σ, st => ∃ r, ares σ st res = some r ∧ K r { st with bx := st.bx.filter fun x => x.1.1 < d }
  | _, _, _ => False

theorem Fn.of' {f : Nat} {F : AF} {args : List AV} {K : AV → St → Prop} (hf : prog.fn f = some F) (hn : args.length ≤ F.nt) (h : W prog d F.body (sl0 args) st (endW d F.res K)) : ∃ r st', Fn prog d f args st r st' ∧ K r st' := by
  obtain ⟨n, e, σ1, st1, h1, h2⟩ := h
  cases e with
  | normal =>
    obtain ⟨r, h3, h4⟩ := h2
    exact ⟨r, _, ⟨n + 1, by simp only [acall, hf, if_pos hn, h1, h3, Option.map_some]⟩, h4⟩
  | ret =>
    obtain ⟨r, h3, h4⟩ := h2
    exact ⟨r, _, ⟨n + 1, by simp only [acall, hf, if_pos hn, h1, h3, Option.map_some]⟩, h4⟩
  | exit id => exact h2.elim
  | goto l => exact h2.elim

theorem Pus.of {f : Nat} {F : AF} {args : List AV} {K : AV → Prop} (hf : prog.fn f = some F) (hn : Nat.ble args.length F.nt = true) (h : W prog 0 F.body (sl0 args) st0 (endW 0 F.res fun r _ => ∃ v, r.strip = some v ∧ K v)) : ∃ v, Pus prog f args v ∧ K v := by
  obtain ⟨r, st', h1, v, h2, h3⟩ := Fn.of' hf (Nat.le_of_ble_eq_true hn) h
  exact ⟨v, ⟨r, ⟨st', h1⟩, h2⟩, h3⟩

theorem Pus.orac {f : Nat} {args : List AV} {r v : AV} (hf : prog.fn f = none) (hr : prog.orac f args = some r) (hv : r.strip = some v) : Pus prog f args v :=
  ⟨r, ⟨st0, 1, by simp only [acall, hf, hr, Option.map_some]⟩, hv⟩
end

theorem abin_quo' {k : IntKind} {a b : Int} (h : b ≠ 0) : abin .quo (.i k a) (.i k b) = some (.i k (k.wrap (a.tdiv b))) := by rw [abin_quo, if_neg h]
theorem abin_rem' {k : IntKind} {a b : Int} (h : b ≠ 0) : abin .rem (.i k a) (.i k b) = some (.i k (a.tmod b)) := by simp [abin, aint, h]
theorem abin_shr' {k k' : IntKind} {a b : Int} (h : 0 ≤ b) : abin .shr (.i k a) (.i k' b) = some (.i k (a.fdiv (2 ^ (min b.toNat k.bits)))) := by rw [abin_shr, if_neg (by omega)]
theorem abin_shl' {k k' : IntKind} {a b : Int} (h : 0 ≤ b) : abin .shl (.i k a) (.i k' b) = some (.i k (k.wrap (a * 2 ^ (min b.toNat k.bits)))) := by rw [abin_shl, if_neg (by omega)]
theorem abin_or (k : IntKind) (a b : Int) : abin .or (.i k a) (.i k b) = some (.i k (k.wrap (BitVec.ofInt k.bits a ||| BitVec.ofInt k.bits b).toNat)) := by simp [abin, aint]
theorem abin_andNot (k : IntKind) (a b : Int) : abin .andNot (.i k a) (.i k b) = some (.i k (k.wrap (BitVec.ofInt k.bits a &&& ~~~(BitVec.ofInt k.bits b)).toNat)) := by simp [abin, aint]
theorem abin_cat' {x y : List UInt8} (h : x.length + y.length ≤ maxStr) : abin .add (.s x) (.s y) = some (.s (x ++ y)) := by rw [abin_cat, if_pos h]

/-! rows and cells of plain things -/
def rowS (x : List UInt8) : List AV := [.s x]
def rowI (k : IntKind) (x : Int) : List AV := [.i k x]
def rowB (x : Bool) : List AV := [.b x]
def c8 (x : UInt8) : AV := .i .u8 (x.toNat : Int)
theorem row8_len (x : UInt8) : (row8 x).length = 1 := rfl
theorem rowS_len (x : List UInt8) : (rowS x).length = 1 := rfl
theorem rowI_len (k : IntKind) (x : Int) : (rowI k x).length = 1 := rfl
theorem rowB_len (x : Bool) : (rowB x).length = 1 := rfl
/-- A byte's number is a byte's. -/
theorem u8_of {n : Int} (h0 : 0 ≤ n) (h1 : n < 256) : ∃ c : UInt8, n = (c.toNat : Int) := ⟨UInt8.ofNat n.toNat, by simp; omega⟩

theorem App.full {ow : List (Key × Nat × Nat)} {n : Nat} : App ow .full n := trivial
/-- Boxes. -/
theorem lk_here {α : Type} {l : List (Key × α)} {k : Key} {a : α} : lk (st_ l k a) k = some a := by rw [lk_st', if_pos rfl]
theorem lk_other {α : Type} {l : List (Key × α)} {d s s' : Nat} {a : α} {b : Option α} (h : Nat.beq s s' = false) (hb : lk l (d, s') = b) : lk (st_ l (d, s) a) (d, s') = b := by
  rw [lk_st', if_neg ?_, hb]
  intro e
  injection e with _ e
  rw [e, Nat.beq_refl] at h
  cases h
theorem map_one {α : Type} (f : α → List AV) (a : α) : [a].map f = [f a] := rfl
/-- Storing one cell of an array. -/
theorem setAt_map {α : Type} (f : α → AV) (l : List α) (n : Nat) (a : α) : setAt (l.map f) n [f a] = (l.set n a).map f := by
  simp only [setAt, List.map_set]
/-- An array's cells as bytes. -/
theorem softs_c8 : ∀ l : List UInt8, softs (l.map c8) = some (l.map c8)
  | [] => rfl
  | c :: l => by simp only [List.map_cons, softs, softs_c8 l, c8, AV.soft]
theorem chunk_c8 (l : List UInt8) : chunk 1 l.length (l.map c8) = l.map row8 := by
  unfold chunk
  apply List.ext_getElem
  · simp
  · intro j h1 h2
    simp at h1
    simp only [List.getElem_map, List.getElem_range, Nat.mul_one]
    rw [List.drop_eq_getElem_cons (by simpa using h1)]
    simp [c8, row8]
section
variable {prog : Prog} {d id base i : Nat} {σ : Sl} {st : St} {K : Sl → St → Prop} {r : List AI} {t : Option Nat} {x y : Opd}
/-- An array of bytes, cut from an index on. -/
theorem s_slA_lo {z : Opd} {l : List UInt8} {k : Key} {k' : IntKind} {n v : Nat} {m : Int} (hx : x.ev σ = .p k v 0) (hb : lk st.bx k = some (v, l.map c8)) (hn : l.length = n) (hn0 : Nat.blt 0 n = true) (hz : z.ev σ = .i k' m) (h0 : 0 ≤ m) (h1 : m.toNat ≤ n) (h : WO prog d id base (i + 1) r (upO σ t (.sl .ext ((l.drop m.toNat).map row8))) { st with bx := del st.bx k } K) : WO prog d id base i (⟨t, .slA n 1 x (some z) none, none⟩ :: r) σ st K := by
  refine s_one ?_
  have hbd : bnds σ n n (some z) none = some (m.toNat, n) := by
    simp only [bnds, hz, AV.nat, h0, if_true]
    rw [if_pos ⟨h1, Nat.le_refl _⟩]
  simp only [WOp, aexec, hx, hb]
  rw [if_pos ⟨trivial, trivial, by simp [hn], Nat.one_pos⟩]
  subst hn
  simp only [softs_c8, hbd, Option.map_some, onO_some, chunk_c8]
  rw [List.take_of_length_le (by simp), ← List.map_drop]
  exact h
/-- One cell of an array in a box is stored. -/
theorem s_storeA {α : Type} {f : α → AV} {l : List α} {a : α} {v o : Nat} {k : Key} (hf : ∀ a, (f a).cells = [f a] ∧ (f a).one = true) (hx : x.ev σ = .p k v o) (hb : lk st.bx k = some (v, l.map f)) (hy : y.ev σ = f a) (hn : o < l.length) (h : WO prog d id base (i + 1) r (upO σ t (.tup [])) { st with bx := st_ st.bx k (v, (l.set o a).map f) } K) : WO prog d id base i (⟨t, .store 1 x y, none⟩ :: r) σ st K := by
  refine s_one ?_
  simp only [WOp, aexec, astore, hx, hb, hy, (hf a).1]
  rw [if_pos ⟨trivial, by simp; omega, rfl, by simp [(hf a).2]⟩, setAt_map]
  simp only [Option.map_some, onO_some]
  exact h
end
theorem c8_one (a : UInt8) : (c8 a).cells = [c8 a] ∧ (c8 a).one = true := ⟨rfl, rfl⟩

/-! moves, by the kind of value -/
section
variable {prog : Prog} {d id base i : Nat} {σ : Sl} {st : St} {K : Sl → St → Prop} {r : List AI} {t : Option Nat} {x y : Opd}
theorem s_mvI {k : IntKind} {n : Int} (hx : x.ev σ = .i k n) (h : WO prog d id base (i + 1) r (upO σ t (.i k n)) st K) : WO prog d id base i (⟨t, .mv x, none⟩ :: r) σ st K := s_mv hx h
theorem s_mvB {b : Bool} (hx : x.ev σ = .b b) (h : WO prog d id base (i + 1) r (upO σ t (.b b)) st K) : WO prog d id base i (⟨t, .mv x, none⟩ :: r) σ st K := s_mv hx h
theorem s_mvS {l : List UInt8} (hx : x.ev σ = .s l) (h : WO prog d id base (i + 1) r (upO σ t (.s l)) st K) : WO prog d id base i (⟨t, .mv x, none⟩ :: r) σ st K := s_mv hx h
theorem s_mvL {α : Type} {f : α → List AV} {l : List α} {o : Own} (hx : x.ev σ = .sl o (l.map f)) (h : WO prog d id base (i + 1) r (upO σ t (.sl o (l.map f))) st K) : WO prog d id base i (⟨t, .mv x, none⟩ :: r) σ st K := s_mv hx h
theorem s_mvA {cs : List AV} (hx : x.ev σ = .ag cs) (h : WO prog d id base (i + 1) r (upO σ t (.ag cs)) st K) : WO prog d id base i (⟨t, .mv x, none⟩ :: r) σ st K := s_mv hx h
theorem s_mvT {cs : List AV} (hx : x.ev σ = .tup cs) (h : WO prog d id base (i + 1) r (upO σ t (.tup cs)) st K) : WO prog d id base i (⟨t, .mv x, none⟩ :: r) σ st K := s_mv hx h
theorem s_mvF {cs : List AV} (hx : x.ev σ = .fp cs) (h : WO prog d id base (i + 1) r (upO σ t (.fp cs)) st K) : WO prog d id base i (⟨t, .mv x, none⟩ :: r) σ st K := s_mv hx h
section
variable {a b : Opd}
theorem s_pickTB {v : Bool} (hx : x.ev σ = .b true) (ha : a.ev σ = .b v) (h : WO prog d id base (i + 1) r (upO σ t (.b v)) st K) : WO prog d id base i (⟨t, .pick x a b, none⟩ :: r) σ st K := s_pickT hx ha h
theorem s_pickFB {v : Bool} (hx : x.ev σ = .b false) (hb : b.ev σ = .b v) (h : WO prog d id base (i + 1) r (upO σ t (.b v)) st K) : WO prog d id base i (⟨t, .pick x a b, none⟩ :: r) σ st K := s_pickF hx hb h
end
theorem wr_byte (k : IntKind) (hk : (k != .i8) = true) (c : UInt8) : k.wrap (c.toNat : Int) = (c.toNat : Int) := by
  have := c.toNat_lt
  cases k with
  | i8 => exact absurd hk (by decide)
  | i16 => simp [IntKind.wrap, IntKind.bits, IntKind.signed]; omega
  | i32 => rw [IntKind.wrap_i32]; omega
  | i64 => rw [IntKind.wrap_i64]; omega
  | u8 => rw [IntKind.wrap_u8]; omega
  | u16 => rw [IntKind.wrap_u16]; omega
  | u32 => rw [IntKind.wrap_u32]; omega
  | u64 => rw [IntKind.wrap_u64]; omega
theorem s_cvB {k k' : IntKind} {c : UInt8} (hx : x.ev σ = .i k' (c.toNat : Int)) (hk : (k != .i8) = true) (h : WO prog d id base (i + 1) r (upO σ t (.i k (c.toNat : Int))) st K) : WO prog d id base i (⟨t, .cvi k x, none⟩ :: r) σ st K :=
  s_cvi hx (by rw [wr_byte k hk c]; exact h)
theorem g_u8 {n : Int} {c : UInt8} (hx : x.ev σ = .i .u8 n) (hc : n = (c.toNat : Int)) : x.ev σ = .i .u8 (c.toNat : Int) := by rw [hx, hc]
theorem s_bslM {α : Type} {f : α → List AV} {l : List α} {zero z : List AV} {n : Nat} {parts : List (Nat × Opd)} {rows : List (List AV)} (hz : softs zero = some z) (hn : (Nat.blt 0 z.length && Nat.ble (n * z.length) 65536) = true) (hp : fillRows z σ (List.replicate n z) parts = some rows) (hr : rows = l.map f) (h : WO prog d id base (i + 1) r (upO σ t (.sl .full (l.map f))) st K) : WO prog d id base i (⟨t, .bslice zero n parts, none⟩ :: r) σ st K :=
  s_bslice hz hn hp (by rw [hr]; exact h)
theorem s_buildM {α : Type} {f : α → AV} {l : List α} {zero : List AV} {parts : List (Nat × Nat × Opd)} {cs : List AV} (hp : fillCells σ zero parts = some cs) (hr : cs = l.map f) (h : WO prog d id base (i + 1) r (upO σ t (.ag (l.map f))) st K) : WO prog d id base i (⟨t, .build zero parts, none⟩ :: r) σ st K :=
  s_build hp (by rw [hr]; exact h)
end
def bAnd (k : IntKind) (a b : Int) : Int := k.wrap (BitVec.ofInt k.bits a &&& BitVec.ofInt k.bits b).toNat
def bOr (k : IntKind) (a b : Int) : Int := k.wrap (BitVec.ofInt k.bits a ||| BitVec.ofInt k.bits b).toNat
def bAndNot (k : IntKind) (a b : Int) : Int := k.wrap (BitVec.ofInt k.bits a &&& ~~~(BitVec.ofInt k.bits b)).toNat
def bShr (k : IntKind) (a : Int) (n : Nat) : Int := a.fdiv (2 ^ (min n k.bits))
def bShl (k : IntKind) (a : Int) (n : Nat) : Int := k.wrap (a * 2 ^ (min n k.bits))

/-- A function that appends to its first argument: what its walk gives. -/
def PuAK (prog : Prog) (f : Nat) (rows : List (List AV)) (args : List AV) (KK : List (List AV) → Prop) : Prop :=
  ∀ d st o, App st.ow o rows.length → ∃ o' st' rows', KK rows' ∧ Fn prog d f (.sl o rows :: args) st (.sl o' rows') st' ∧ App st'.ow o' rows'.length
def appK (KK : List (List AV) → Prop) (r : AV) (st' : St) : Prop := ∃ o' rows', r = .sl o' rows' ∧ App st'.ow o' rows'.length ∧ KK rows'
theorem PuAK.of {prog : Prog} {f : Nat} {F : AF} {rows : List (List AV)} {args : List AV} {KK : List (List AV) → Prop} (hf : prog.fn f = some F) (hn : Nat.ble (args.length + 1) F.nt = true) (h : ∀ d st o, App st.ow o rows.length → W prog d F.body (sl0 (.sl o rows :: args)) st (endW d F.res (appK KK))) : PuAK prog f rows args KK := by
  intro d st o ha
  obtain ⟨r, st', h1, o', rows', rfl, h2, h3⟩ := Fn.of' (args := .sl o rows :: args) hf (by simpa using Nat.le_of_ble_eq_true hn) (h d st o ha)
  exact ⟨o', st', rows', h3, h1, h2⟩
theorem PuAK.to {prog : Prog} {f : Nat} {rows rows' : List (List AV)} {args : List AV} (h : PuAK prog f rows args fun x => x = rows') : PuA prog f rows args rows' := by
  intro d st o ha
  obtain ⟨o', st', x, rfl, h1, h2⟩ := h d st o ha
  exact ⟨o', st', h1, h2⟩
section
variable {prog : Prog} {d id base i : Nat} {σ : Sl} {st : St} {K : Sl → St → Prop} {r : List AI} {t : Option Nat} {x y : Opd}
theorem s_iaP1 {n v : Nat} {k : Key} {k' : IntKind} {m : Int} (hx : x.ev σ = .p k v 0) (hy : y.ev σ = .i k' m) (h0 : 0 ≤ m) (h1 : m.toNat < n) (h : WO prog d id base (i + 1) r (upO σ t (.p k v m.toNat)) st K) : WO prog d id base i (⟨t, .iaA n 1 x y, none⟩ :: r) σ st K :=
  s_iaP hx hy h0 h1 (by rw [Nat.zero_add, Nat.mul_one]; exact h)
theorem s_loadAt {α : Type} {f : α → AV} {l : List α} {c : α} {o v : Nat} {k : Key} (hx : x.ev σ = .p k v o) (hb : lk st.bx k = some (v, l.map f)) (hc : l[o]? = some c) (h : WO prog d id base (i + 1) r (upO σ t (f c)) st K) : WO prog d id base i (⟨t, .load 1 false x, none⟩ :: r) σ st K :=
  s_pure (fun K => by
    have hl : o < l.length := by
      rcases Nat.lt_or_ge o l.length with h | h
      · exact h
      · rw [List.getElem?_eq_none h] at hc; cases hc
    have hd : ((l.map f).drop o).take 1 = [f c] := by
      rw [List.drop_eq_getElem_cons (by simpa using hl)]
      simp only [List.getElem_map, List.take_succ_cons, List.take_zero]
      rw [List.getElem?_eq_getElem hl] at hc
      injection hc with hc
      rw [hc]
    simp only [WOp, aexec, aload, hx, hb]
    rw [if_pos ⟨trivial, by simp; omega⟩, hd]
    simp only [ofCells, Bool.false_eq_true, if_false, Option.map_some, onO_some]) h
theorem lk_del_other {α : Type} {l : List (Key × α)} {d s s' : Nat} {b : Option α} (h : Nat.beq s s' = false) (hb : lk l (d, s') = b) : lk (del l (d, s)) (d, s') = b := by
  rw [lk_del', if_neg ?_, hb]
  intro e
  injection e with _ e
  rw [e, Nat.beq_refl] at h
  cases h
end
end Go.AM

/- From a law over the abstract machine to the call in the model. -/
namespace Go.AM
open Go Go.RowKit Go.ChangeShapes Go.WideShapes

/-- An argument of a type. -/
def ArgOk (T : TTab) (t : TypeId) (a : AV) : Prop :=
  match T t with
  | some i => match i.kind with
    | .st _ => ∃ f vsA, a = .ag vsA ∧ vsA.length = i.size ∧ HasC T f t vsA
    | _ => ∃ f, HasC T f t [a]
  | none => False

def ArgsOk (T : TTab) : List TypeId → List AV → Prop
  | [], [] => True
  | t :: ts, a :: vsA => ArgOk T t a ∧ ArgsOk T ts vsA
  | _, _ => False

section
variable {H : Type} {enc : TypeId × Value → H} {P : Program} {X : Cx} {W : World} {L : List Nat}

def G0 (X : Cx) (W : World) : Gh := ⟨H0 W, fun _ _ => none, fun _ _ => none, X.fm⟩
theorem G0_rel : Rel (G0 X W) W st0 W where
  bel := .refl _ _
  ext := fun g o v h => H0_inv h
  bx := by intro k ver cs g h; cases h
  inj := by intro k k' ver ver' cs cs' g h; cases h
  ow := by intro k ver n h; cases h
  owinj := by intro k k' ver ver' n n' g cap size cap' size' h; cases h
  fresh := fun k ver _ => ⟨rfl, rfl⟩
  bxT := by intro k ver cs g hb h; cases h
  owT := by intro k ver n hb h; cases h

theorem arg_read (hT : TTok P X.T) (hL : ∀ t, L.contains t = true → okTy X.T L t = true) {t : TypeId} (ht : L.contains t = true) {v : Value} {d : DataW H} {ps : List MemPlace} {b : Nat} {r : Reach} {held : Bool} {sp : Nat → Bool}
    (hval : Value.okWide P W r b t v) (hd : DataW.Trod enc P W 0 sp held t v d ps) : ∃ a, R (G0 X W) a v ∧ ArgOk X.T t a := by
  obtain ⟨f, hf⟩ := hd
  obtain ⟨vsA, h1, h2⟩ := read_good hT hL f t ht _ _ hf
  have hok := hL t ht
  unfold okTy at hok
  split at hok
  case h_2 => cases hok
  rename_i i hi
  have hk := (hT t i hi).kind
  have plain : (∀ us, v ≠ .agg us) → (∀ fs, i.kind ≠ .st fs) → vsA.length = 1 → ∃ a, R (G0 X W) a v ∧ ArgOk X.T t a := by
    intro hv hst hlen
    have hc : v.cells.toList = [v] := by
      cases v with
      | agg us => exact absurd rfl (hv us)
      | _ => rfl
    match vsA, hlen with
    | [a], _ =>
      rw [hc] at h1
      refine ⟨a, .fz _ _ (h1.2 0 a v rfl rfl).1, ?_⟩
      unfold ArgOk
      rw [hi]
      have key : ∀ kk : TK, (∀ fs, kk ≠ .st fs) → (match kk with | .st _ => ∃ f vsA, a = .ag vsA ∧ vsA.length = i.size ∧ HasC X.T f t vsA | _ => ∃ f, HasC X.T f t [a]) := by
        intro kk hk
        cases kk with
        | st fs => exact absurd rfl (hk fs)
        | int k => exact ⟨f, h2⟩
        | bool => exact ⟨f, h2⟩
        | str => exact ⟨f, h2⟩
        | sl e => exact ⟨f, h2⟩
        | arr n e => exact ⟨f, h2⟩
        | other => exact ⟨f, h2⟩
        | ptr e => exact ⟨f, h2⟩
        | uptr => exact ⟨f, h2⟩
      exact key i.kind hst
  have one : ∀ {vsA : List AV}, Good W vsA v.cells.toList → (∀ us, v ≠ .agg us) → vsA.length = 1 := by
    intro vsA h hv
    rw [h.1]
    cases v with
    | agg us => exact absurd rfl (hv us)
    | _ => rfl
  generalize hkk : i.kind = kk at hk hok
  cases kk with
  | int k =>
    obtain ⟨n, rfl⟩ := okWide_int hk hval
    exact plain (by intro us h; cases h) (by rw [hkk]; intro fs h; cases h) (one h1 (by intro us h; cases h))
  | bool =>
    obtain ⟨n, rfl⟩ := okWide_bool hk hval
    exact plain (by intro us h; cases h) (by rw [hkk]; intro fs h; cases h) (one h1 (by intro us h; cases h))
  | str =>
    obtain ⟨n, rfl⟩ := okWide_string hk hval
    exact plain (by intro us h; cases h) (by rw [hkk]; intro fs h; cases h) (one h1 (by intro us h; cases h))
  | sl e =>
    obtain ⟨a, l, c, rfl⟩ := okWide_slice hk hval
    exact plain (by intro us h; cases h) (by rw [hkk]; intro fs h; cases h) (one h1 (by intro us h; cases h))
  | st fs =>
    obtain ⟨fields, hu, _⟩ := hk
    obtain ⟨cs, rfl, hcs⟩ := okWide_struct hu hval
    refine ⟨.ag vsA, ?_, ?_⟩
    · have hsz : vsA.length = cs.toList.length := h1.1
      have e : Value.agg cs = .agg cs.toList.toArray := by simp
      rw [e]
      exact .ag vsA cs.toList hsz fun j a u ha hu => .fz _ _ (h1.2 j a u ha hu).1
    · unfold ArgOk
      rw [hi]
      simp only [hkk]
      refine ⟨f, vsA, rfl, ?_, h2⟩
      rw [h1.1]
      simp only [Value.cells]
      rw [← cellsOf_T hT hi, ← hcs]
      simp
  | arr n e => simp at hok
  | other => simp at hok
  | ptr e => simp at hok
  | uptr => simp at hok

theorem args_read (hT : TTok P X.T) (hL : ∀ t, L.contains t = true → okTy X.T L t = true) {b : Nat} {r : Reach} {held : Bool} {sp : Nat → Bool} : ∀ {ts : List TypeId} {vs : List Value} {ds : List (DataW H)} {ps : List MemPlace}, (ts.all fun t => L.contains t) = true →
    (∀ (j : Nat) t v, ts[j]? = some t → vs[j]? = some v → Value.okWide P W r b t v) → DataW.TrodAll enc P W 0 sp held ts vs ds ps → ∃ vsA, Rs (G0 X W) vsA vs ∧ ArgsOk X.T ts vsA
  | [], vs, ds, ps, _, _, h => by
    obtain ⟨rfl, rfl, rfl⟩ := trodAll_nil h
    exact ⟨[], ⟨rfl, by simp⟩, trivial⟩
  | t :: ts, vs, ds, ps, ht, hv, h => by
    obtain ⟨v, vs1, d, ds1, p, q, rfl, rfl, rfl, h1, h2⟩ := trodAll_cons h
    simp only [List.all_cons, Bool.and_eq_true] at ht
    obtain ⟨a, h3, h4⟩ := arg_read hT hL ht.1 (hv 0 t v rfl rfl) h1
    obtain ⟨vsA, h5, h6⟩ := args_read hT hL ht.2 (fun j t v h1 h2 => hv (j + 1) t v (by simpa using h1) (by simpa using h2)) h2
    refine ⟨a :: vsA, ⟨by simp [h5.1], fun j x u hx hu => ?_⟩, h4, h6⟩
    cases j with
    | zero => simp at hx hu; subst hx; subst hu; exact h3
    | succ j => exact h5.2 j x u (by simpa using hx) (by simpa using hu)

theorem args_below (hl : laidOutB P = true) {W' : World} (hb : Below W.heap.size W W') : ∀ {ts : List TypeId} {vs : List Value} {ds : List (DataW H)} {ps : List MemPlace}, (ts.all fun t => P.readableRec t && decide (t < P.types.size)) = true →
    DataW.TrodAll enc P W 0 (fun _ => true) true ts vs ds ps → (∀ x ∈ ps, x.block < W.heap.size) → DataW.TrodAll enc P W' 0 (fun b => decide (b < W.heap.size)) true ts vs ds ps
  | [], vs, ds, ps, _, h, _ => by
    obtain ⟨rfl, rfl, rfl⟩ := trodAll_nil h
    exact trodAll_mk0
  | t :: ts, vs, ds, ps, ht, h, hps => by
    obtain ⟨v, vs1, d, ds1, p, q, rfl, rfl, rfl, h1, h2⟩ := trodAll_cons h
    simp only [List.all_cons, Bool.and_eq_true, decide_eq_true_eq] at ht
    exact trodAll_cons_mk (Below.trod hl ht.1.1 ht.1.2 h1 hb fun x hx => hps x (List.mem_append_left _ hx)) (args_below hl hb ht.2 h2 fun x hx => hps x (List.mem_append_right _ hx))

theorem args_lt : ∀ {ts : List TypeId} {vs : List Value} {ds : List (DataW H)} {ps : List MemPlace} {sp : Nat → Bool} {held : Bool}, DataW.TrodAll enc P W 0 sp held ts vs ds ps → ∀ x ∈ ps, x.block < W.heap.size
  | [], vs, ds, ps, _, _, h => by
    obtain ⟨rfl, rfl, rfl⟩ := trodAll_nil h
    simp
  | t :: ts, vs, ds, ps, _, _, h => by
    obtain ⟨v, vs1, d, ds1, p, q, rfl, rfl, rfl, h1, h2⟩ := trodAll_cons h
    intro x hx
    rcases List.mem_append.1 hx with hx | hx
    · obtain ⟨m, hm⟩ := h1
      exact DataW.trod_lt m _ _ _ hm x hx
    · exact args_lt h2 x hx

/-- What a program's law needs. -/
structure LawAt (P : Program) (X : Cx) (prog : Prog) (L : List Nat) : Prop where
  T : TTok P X.T
  mixed : P.follows .mixedOrders = true
  fns : ProgOk P X prog.fn
  orac : OracOk P X prog
  oracS : OracSOk P X prog
  types : ∀ t, L.contains t = true → okTy X.T L t = true

theorem law_calls {prog : Prog} (h : LawAt P X prog L) {f c : Nat} (hfm : X.fm f = some c) {args : Array Value} (hen : (callFunc f args).run P W = .ok (.enter f args) W) {avs : List AV} (hR : Rs (G0 X W) avs args.toList) (hlaw : Pus prog c avs (.b true)) :
    Calls P f args W fun e W' => e = .returned (.bool true) ∧ Below W.heap.size W W' := by
  obtain ⟨r, ⟨st', n, hr⟩, hs⟩ := hlaw
  have hrb : r = .b true := by
    cases r with
    | b x => simpa [AV.strip] using hs
    | sl o rows => simp [AV.strip] at hs
    | ag cs => simp only [AV.strip] at hs; split at hs <;> cases hs
    | tup cs => simp only [AV.strip] at hs; split at hs <;> cases hs
    | p k v o => simp [AV.strip] at hs
    | fn f cap => simp [AV.strip] at hs
    | i k n => simp [AV.strip] at hs
    | s l => simp [AV.strip] at hs
    | fp cs => simp [AV.strip] at hs
    | np => simp [AV.strip] at hs
    | nf => simp [AV.strip] at hs
    | ni => simp [AV.strip] at hs
    | u => simp [AV.strip] at hs
  subst hrb
  have hg := calls_ok h.T h.mixed h.fns h.orac h.oracS n 0 c avs st0 _ st' hr f hfm (G0 X W) W W args.toList rfl G0_rel hR
  have ea : args.toList.toArray = args := by simp
  rw [ea] at hg
  rcases hg with ⟨_, h2⟩ | ⟨v, w', h2, _⟩
  · refine h2.mono fun e w' he => ?_
    cases e with
    | returned v =>
      obtain ⟨G', h3, h4⟩ := he
      exact ⟨by rw [h3.bool_inv], h4.rel.bel⟩
    | panicked c => exact he.elim
    | outgrown => exact he.elim
  · rw [hen] at h2
    cases h2

theorem FnOk.of {f : Nat} {F : AF} {fn : Func} (h1 : P.funcs[f]? = some fn) (h2 : (fn.name == "runtime.NumGoroutine") = false) (h3 : fn.body.bind (cCode X F.nt) = some F.body) (h4 : fn.ntmps = F.nt) (h5 : cRess X fn.results.toList = some F.res) (h6 : Nat.ble F.res.length 4 = true) : FnOk P X f F := by
  rw [Option.bind_eq_some_iff] at h3
  obtain ⟨code, h7, h8⟩ := h3
  exact ⟨fn, code, h1, h2, h7, h4, h8, h5, Nat.le_of_ble_eq_true h6⟩

theorem FnOk.enters {f : Nat} {F : AF} (h : FnOk P X f F) (args : Array Value) (w : World) : (callFunc f args).run P w = .ok (.enter f args) w := by
  obtain ⟨fn, code, h1, h2, h3, _⟩ := h.ok
  exact callFunc_enter h1 h2 h3 args

/-- Types by a list. -/
def tabOf (l : List (Nat × TI)) : TTab := fun t => (l.find? fun x => x.1 == t).map (·.2)
theorem tab_ok {l : List (Nat × TI)} (h : ∀ x ∈ l, TOk P x.1 x.2) : TTok P (tabOf l) := by
  intro t i hi
  unfold tabOf at hi
  rw [Option.map_eq_some_iff] at hi
  obtain ⟨x, h1, rfl⟩ := hi
  have h2 := List.find?_some h1
  have h3 := List.mem_of_find?_eq_some h1
  have : x.1 = t := by simpa using h2
  rw [← this]
  exact h x h3
/-- Functions by a list. -/
def fnOf (l : List (Nat × AF)) : Nat → Option AF := fun c => (l.find? fun x => x.1 == c).map (·.2)
def fmOf (l : List (Nat × Nat)) : FM := fun f => (l.find? fun x => x.1 == f).map (·.2)
/-- The program's functions, one by one: seat's number, number here, program. -/
theorem prog_ok {fm : List (Nat × Nat)} {fs : List (Nat × AF)} (h : ∀ x ∈ fm, ∀ F, fnOf fs x.2 = some F → FnOk P X x.1 F) (hX : X.fm = fmOf fm) : ProgOk P X (fnOf fs) := by
  intro f c F hf hc
  rw [hX] at hf
  unfold fmOf at hf
  rw [Option.map_eq_some_iff] at hf
  obtain ⟨x, h1, rfl⟩ := hf
  have h2 := List.find?_some h1
  have h3 := List.mem_of_find?_eq_some h1
  have : x.1 = f := by simpa using h2
  rw [← this]
  exact h x h3 F hc

/-- The stand-in for strings.IndexByte. -/
theorem orac_index {G : Gh} {w0 w : World} {st : St} {f : FuncId} {fn : Func} {d : Nat} (h1 : P.funcs[f]? = some fn) (h2 : (fn.name == "runtime.NumGoroutine") = false) (h3 : fn.body.isNone = true) (h4 : Extern.findNext fn = none) (h5 : Extern.find fn = some Extern.BytealgIndexByte.indexByte)
    {s : List UInt8} {c : UInt8} {vals : List Value} (hR : Rel G w0 st w) (hV : Rs G [.s s, .i .u8 (c.toNat : Int)] vals) : Goes P f vals.toArray w fun v w' => ∃ G', R G' (.i .i64 (Lib.indexByte s c)) v ∧ Run G G' w0 st st w' d := by
  have hlen := hV.1
  match vals, hlen with
  | [v1, v2], _ =>
    have e1 := (hV.2 0 _ v1 rfl rfl).str_inv
    have e2 := (hV.2 1 _ v2 rfl rfl).int_inv
    subst e1; subst e2
    refine .inr ⟨.int .i64 (Lib.indexByte s c), w, ?_, G, .fz _ _ (.i _ _), .refl hR⟩
    rw [run_callFunc_extern h1 h2 h3 h4 h5]
    have := Lib.run_indexByteString (P := P) ⟨s.toArray⟩ (c.toNat : Int) w
    rw [this]
    simp [Result.andThen]
end
end Go.AM
namespace Go.AM
open Go
theorem TOk.of {P : Program} {t : TypeId} {i : TI} {ti : TypeInfo} (h1 : P.info? t = some ti) (h2 : (Nat.beq ti.size i.size && Nat.beq ti.bytes i.bytes) = true) (h3 : (ti.zero.bind fun z => if z.cells.size = i.size then cVals z.cells.toList else none) = some i.zero) (h4 : i.kind.ok P t) : TOk P t i := by
  simp only [Bool.and_eq_true] at h2
  rw [Option.bind_eq_some_iff] at h3
  obtain ⟨z, h5, h6⟩ := h3
  split at h6
  · rename_i h7
    exact ⟨⟨ti, z, h1, Nat.eq_of_beq_eq_true h2.1, Nat.eq_of_beq_eq_true h2.2, h5, h6, h7⟩, h4⟩
  · cases h6
theorem TK.ok_st {P : Program} {t : TypeId} {fs : List (Nat × Nat)} (h : ((P.underlying t).bind fun d => match d with | .struct f => some (f.toList.map fun f => (f.type, f.offset)) | _ => none) = some fs) : TK.ok P t (.st fs) := by
  rw [Option.bind_eq_some_iff] at h
  obtain ⟨d, h1, h2⟩ := h
  cases d with
  | struct f => simp only [Option.some.injEq] at h2; exact ⟨f, h1, h2⟩
  | _ => cases h2
end Go.AM

/- Arguments of the laws, typed. -/
namespace Go.AM
open Go Go.RowKit Go.ChangeShapes
section
variable {T : TTab} {t : TypeId} {a : AV} {i : TI}
theorem ArgOk.plain (hi : T t = some i) (hk : ∀ fs, i.kind ≠ .st fs) (h : ArgOk T t a) : ∃ f, HasC T f t [a] := by
  unfold ArgOk at h
  rw [hi] at h
  obtain ⟨kk, s1, s2, s3⟩ := i
  simp only at hk
  cases kk with
  | st fs => exact absurd rfl (hk fs)
  | int k => simpa only using h
  | bool => simpa only using h
  | str => simpa only using h
  | sl e => simpa only using h
  | arr n e => simpa only using h
  | other => simpa only using h
  | ptr e => simpa only using h
  | uptr => simpa only using h
theorem HasC.int {f : Nat} {vsA : List AV} {k : IntKind} (hi : T t = some i) (hk : i.kind = .int k) (h : HasC T f t vsA) : ∃ n, vsA = [.i k n] ∧ k.min ≤ n ∧ n ≤ k.max := by
  cases f with
  | zero => exact h.elim
  | succ f =>
    unfold HasC at h
    rw [hi] at h
    simp only [hk] at h
    exact h
theorem HasC.bool {f : Nat} {vsA : List AV} (hi : T t = some i) (hk : i.kind = .bool) (h : HasC T f t vsA) : ∃ b, vsA = [.b b] := by
  cases f with
  | zero => exact h.elim
  | succ f =>
    unfold HasC at h
    rw [hi] at h
    simp only [hk] at h
    exact h
theorem HasC.str {f : Nat} {vsA : List AV} (hi : T t = some i) (hk : i.kind = .str) (h : HasC T f t vsA) : ∃ s, vsA = [.s s] ∧ s.length ≤ maxLen := by
  cases f with
  | zero => exact h.elim
  | succ f =>
    unfold HasC at h
    rw [hi] at h
    simp only [hk] at h
    exact h
theorem HasC.sl {f e : Nat} {vsA : List AV} (hi : T t = some i) (hk : i.kind = .sl e) (h : HasC T f t vsA) : ∃ g rows, f = g + 1 ∧ vsA = [.sl .ext rows] ∧ rows.length ≤ maxLen ∧ (∀ r ∈ rows, HasC T g e r) ∧ ∀ j, T e = some j → ∀ r ∈ rows, r.length = j.size := by
  cases f with
  | zero => exact h.elim
  | succ f =>
    unfold HasC at h
    rw [hi] at h
    simp only [hk] at h
    obtain ⟨rows, h1, h2, h3⟩ := h
    exact ⟨f, rows, rfl, h1, h2, h3⟩
theorem HasC.st {f : Nat} {vsA : List AV} {fs : List (Nat × Nat)} (hi : T t = some i) (hk : i.kind = .st fs) (h : HasC T f t vsA) : ∃ g, f = g + 1 ∧ ∀ x ∈ fs, ∃ j, T x.1 = some j ∧ HasC T g x.1 ((vsA.drop x.2).take j.size) := by
  cases f with
  | zero => exact h.elim
  | succ f =>
    unfold HasC at h
    rw [hi] at h
    simp only [hk] at h
    exact ⟨f, rfl, h⟩
theorem ArgOk.int {k : IntKind} (hi : T t = some i) (hk : i.kind = .int k) (h : ArgOk T t a) : ∃ n, a = .i k n ∧ k.min ≤ n ∧ n ≤ k.max := by
  obtain ⟨f, h⟩ := h.plain hi (by rw [hk]; intro fs h; cases h)
  obtain ⟨n, h1, h2⟩ := h.int hi hk
  injection h1 with h1
  exact ⟨n, h1, h2⟩
theorem ArgOk.bool (hi : T t = some i) (hk : i.kind = .bool) (h : ArgOk T t a) : ∃ b, a = .b b := by
  obtain ⟨f, h⟩ := h.plain hi (by rw [hk]; intro fs h; cases h)
  obtain ⟨n, h1⟩ := h.bool hi hk
  injection h1 with h1
  exact ⟨n, h1⟩
theorem ArgOk.str (hi : T t = some i) (hk : i.kind = .str) (h : ArgOk T t a) : ∃ s, a = .s s ∧ s.length ≤ maxLen := by
  obtain ⟨f, h⟩ := h.plain hi (by rw [hk]; intro fs h; cases h)
  obtain ⟨n, h1, h2⟩ := h.str hi hk
  injection h1 with h1
  exact ⟨n, h1, h2⟩
theorem rows_map {α : Type} {f : α → List AV} : ∀ {rows : List (List AV)}, (∀ r ∈ rows, ∃ x, r = f x) → ∃ l : List α, rows = l.map f
  | [], _ => ⟨[], rfl⟩
  | r :: rows, h => by
    obtain ⟨x, rfl⟩ := h r List.mem_cons_self
    obtain ⟨l, rfl⟩ := rows_map fun r hr => h r (List.mem_cons_of_mem _ hr)
    exact ⟨x :: l, rfl⟩
theorem ArgOk.strs {e : Nat} {ie : TI} (hi : T t = some i) (hk : i.kind = .sl e) (he : T e = some ie) (hke : ie.kind = .str) (h : ArgOk T t a) : ∃ l : List (List UInt8), a = .sl .ext (l.map rowS) ∧ l.length ≤ maxLen ∧ ∀ x ∈ l, x.length ≤ maxLen := by
  obtain ⟨f, h⟩ := h.plain hi (by rw [hk]; intro fs h; cases h)
  obtain ⟨g, rows, _, h1, h2, h3, _⟩ := h.sl hi hk
  injection h1 with h1
  obtain ⟨l, rfl⟩ := rows_map (f := rowS) (rows := rows) fun r hr => by
    obtain ⟨s, hs, _⟩ := (h3 r hr).str he hke
    exact ⟨s, hs⟩
  refine ⟨l, h1, by simpa using h2, fun x hx => ?_⟩
  obtain ⟨s, hs, hl⟩ := (h3 (rowS x) (List.mem_map_of_mem hx)).str he hke
  injection hs with hs
  injection hs with hs
  rw [hs]; exact hl
end
theorem i64_bd {n : Int} (h : IntKind.i64.min ≤ n ∧ n ≤ IntKind.i64.max) : -9223372036854775808 ≤ n ∧ n < 9223372036854775808 := by
  have h1 : IntKind.i64.min = -9223372036854775808 := rfl
  have h2 : IntKind.i64.max = 9223372036854775807 := rfl
  omega
theorem u64_bd {n : Int} (h : IntKind.u64.min ≤ n ∧ n ≤ IntKind.u64.max) : ∃ m : Nat, n = (m : Int) ∧ m < 18446744073709551616 := by
  have h1 : IntKind.u64.min = 0 := rfl
  have h2 : IntKind.u64.max = 18446744073709551615 := rfl
  exact ⟨n.toNat, by omega, by omega⟩
theorem u8_bd {n : Int} (h : IntKind.u8.min ≤ n ∧ n ≤ IntKind.u8.max) : 0 ≤ n ∧ n < 256 := by
  have h1 : IntKind.u8.min = 0 := rfl
  have h2 : IntKind.u8.max = 255 := rfl
  omega
/-- The functions, one by one. -/
def FnsOk (P : Program) (X : Cx) (fs : List (Nat × AF)) : List (Nat × Nat) → Prop
  | [] => True
  | x :: r => (∀ F, fnOf fs x.2 = some F → FnOk P X x.1 F) ∧ FnsOk P X fs r
theorem FnsOk.all {P : Program} {X : Cx} {fs : List (Nat × AF)} : ∀ {l : List (Nat × Nat)}, FnsOk P X fs l → ∀ x ∈ l, ∀ F, fnOf fs x.2 = some F → FnOk P X x.1 F
  | [], _, _, hx => by cases hx
  | y :: l, h, x, hx => by
    rcases List.mem_cons.1 hx with rfl | hx
    · exact h.1
    · exact FnsOk.all h.2 x hx
theorem fm_inv {l : List (Nat × Nat)} {f c : Nat} (h : fmOf l f = some c) : (f, c) ∈ l := by
  unfold fmOf at h
  rw [Option.map_eq_some_iff] at h
  obtain ⟨x, h1, rfl⟩ := h
  have h2 := List.find?_some h1
  have h3 := List.mem_of_find?_eq_some h1
  have : x.1 = f := by simpa using h2
  rw [← this]
  exact h3
def orc48 (k : Nat) : Nat → List AV → Option AV := fun c args =>
  if c = k then match args with
    | [.s s, .i .u8 n] => if 0 ≤ n ∧ n < 256 then some (.i .i64 (Lib.indexByte s n.toNat.toUInt8)) else none
    | _ => none
  else none
theorem orc48_at (k : Nat) (s : List UInt8) (c : UInt8) : orc48 k k [.s s, .i .u8 (c.toNat : Int)] = some (.i .i64 (Lib.indexByte s c)) := by
  have := c.toNat_lt
  unfold orc48
  rw [if_pos rfl]
  simp only
  rw [if_pos ⟨by omega, by omega⟩]
  simp
theorem orc48_ok {P : Program} {X : Cx} {fs : List (Nat × AF)} {k f0 : Nat} {fn : Func} (hf : ∀ f, X.fm f = some k → f = f0) (h1 : P.funcs[f0]? = some fn) (h2 : (fn.name == "runtime.NumGoroutine") = false) (h3 : fn.body.isNone = true) (h4 : Extern.findNext fn = none) (h5 : Extern.find fn = some Extern.BytealgIndexByte.indexByte) : OracOk P X { fn := fnOf fs, orac := orc48 k } := by
  intro f c hfc _ args r hr G w0 st w vals d _ hR hV
  simp only [orc48] at hr
  split at hr
  case isFalse => cases hr
  rename_i hc
  subst hc
  have := hf f hfc
  subst this
  split at hr
  case h_2 => cases hr
  rename_i s n
  split at hr
  case isFalse => cases hr
  rename_i hn
  cases hr
  have e : n = ((n.toNat.toUInt8).toNat : Int) := by
    have : (n.toNat.toUInt8).toNat = n.toNat := by simp; omega
    omega
  have hV' : Rs G [.s s, .i .u8 ((n.toNat.toUInt8).toNat : Int)] vals := by rw [← e]; exact hV
  exact orac_index h1 h2 h3 h4 h5 hR hV'
section
variable {H : Type} {enc : TypeId × Value → H} {P : Program} {W : World}
theorem trod_len {held : Bool} {sp : Nat → Bool} : ∀ {ts : List TypeId} {vs : List Value} {ds : List (DataW H)} {ps : List MemPlace}, DataW.TrodAll enc P W 0 sp held ts vs ds ps → ds.length = ts.length
  | [], vs, ds, ps, h => by
    obtain ⟨rfl, rfl, rfl⟩ := trodAll_nil h
    rfl
  | t :: ts, vs, ds, ps, h => by
    obtain ⟨v, vs1, d, ds1, p, q, rfl, rfl, rfl, h1, h2⟩ := trodAll_cons h
    simp [trod_len h2]
theorem ds0 {α : Type} {ds : List α} (h : ds.length = 0) : ds = [] := List.length_eq_zero_iff.1 h
theorem ds1 {α : Type} {ds : List α} (h : ds.length = 1) : ∃ a, ds = [a] := List.length_eq_one_iff.1 h
theorem ds2 {α : Type} {ds : List α} (h : ds.length = 2) : ∃ a b, ds = [a, b] := by match ds, h with | [a, b], _ => exact ⟨a, b, rfl⟩
theorem ds3 {α : Type} {ds : List α} (h : ds.length = 3) : ∃ a b c, ds = [a, b, c] := by match ds, h with | [a, b, c], _ => exact ⟨a, b, c, rfl⟩
theorem ds4 {α : Type} {ds : List α} (h : ds.length = 4) : ∃ a b c d, ds = [a, b, c, d] := by match ds, h with | [a, b, c, d], _ => exact ⟨a, b, c, d, rfl⟩
theorem ds6 {α : Type} {ds : List α} (h : ds.length = 6) : ∃ a b c d e f, ds = [a, b, c, d, e, f] := by match ds, h with | [a, b, c, d, e, f], _ => exact ⟨a, b, c, d, e, f, rfl⟩
end
theorem noneF {α : Type} {x : α} {p : Prop} (h : (none : Option α) = some x) : p := by cases h
end Go.AM

/- strings.Builder's String: the bytes, and the world behind. -/
namespace Go.AM
open Go Go.RowKit Go.Proofs Go.Shelf

section
variable {P : Program} {ρ : Ren}
set_option maxHeartbeats 1000000 in
set_option maxRecDepth 100000 in
theorem string_run (L : Lays.n169 P ρ) (X : Builder.Extra P ρ) {b g cap : Nat} {p : Value} {cur : Array Value} {l : List UInt8} {w : World} (hbk : w.heap[b]? = some (.cells #[p, .slice (some ⟨g, 0, none⟩) l.length cap] (ρ.t 72) (0, 0)))
    (hg : w.heap[g]? = some (.cells cur (ρ.t 5) (0, 0))) (h0 : l ≠ []) (hcs : l.length ≤ cur.size) (hcap : cap ≠ 0) (h63 : l.length ≤ 9223372036854775807)
    (hcell : ∀ j x, l[j]? = some x → w.cell? ⟨g, j, none⟩ = some (.int .u8 x.toNat)) :
    Calls P (ρ.f 169) #[.pointer (some ⟨b, 0, none⟩)] w fun e w' => e = .returned (.string ⟨l.toArray⟩) ∧ w' = w.drew.freeze ⟨g, 0, none⟩ l.length := by
  have c1 : w.drew.cell? ⟨b, 1, none⟩ = some (.slice (some ⟨g, 0, none⟩) l.length cap) := by
    have : w.drew.heap[b]? = some (.cells #[p, .slice (some ⟨g, 0, none⟩) l.length cap] (ρ.t 72) (0, 0)) := hbk
    rw [Lib.cell_of_heap this]; rfl
  have hSD : (Builtin.unsafeSliceData_ #[(ρ.t 37)] (ρ.t 127) #[.slice (some ⟨g, 0, none⟩) l.length cap]).run P w.drew = .ok (.pointer (some ⟨g, 0, none⟩)) w.drew :=
    Lib.run_unsafeSliceData_row _ _ _ _ _ _ hcap
  have hUS : (Builtin.unsafeString_ #[(ρ.t 127), (ρ.t 3)] (ρ.t 9) #[.pointer (some ⟨g, 0, none⟩), .int .i64 l.length]).run P w.drew = .ok (.string ⟨l.toArray⟩) (w.drew.freeze ⟨g, 0, none⟩ l.length) := by
    refine Lib.run_unsafeString_row w.drew (ρ.t 127) (ρ.t 3) (ρ.t 9) (ρ.t 5) L.t127 X.cellsByte g cur.size (by have hg' : w.drew.heap[g]? = some (.cells cur (ρ.t 5) (0, 0)) := hg; simp [World.shape?, hg']) l h0 hcs h63 ?_
    intro j x hx
    rw [Addr.add_lit, Nat.zero_add]
    exact hcell j x hx
  clear hcap hcell hg hbk
  have mixed := L.mixed
  have t72 := L.t72; have a72 := L.a72; have z72 := L.z72; have v72 := L.v72; have u72 := run_underlying L.t72
  have t70 := L.t70; have a70 := L.a70; have z70 := L.z70; have v70 := L.v70; have u70 := run_underlying L.t70
  have t37 := L.t37; have a37 := L.a37; have z37 := L.z37; have v37 := L.v37; have u37 := run_underlying L.t37
  have t127 := L.t127; have a127 := L.a127; have z127 := L.z127; have v127 := L.v127; have u127 := run_underlying L.t127
  have t3 := L.t3; have a3 := L.a3; have z3 := L.z3; have v3 := L.v3; have u3 := run_underlying L.t3
  have t9 := L.t9; have a9 := L.a9; have z9 := L.z9; have v9 := L.v9; have u9 := run_underlying L.t9
  have t5 := X.t5; have a5 := X.a5; have z5 := X.z5; have v5 := X.v5; have u5 := run_underlying X.t5
  go_enter L.f169, Body.n169_ntmps ρ
  go_wp2
  go_region_o
  all_goals (go_wp2; go_ret; exact ⟨rfl, rfl⟩)
end

/-! ### What freezing own bytes leaves of the state -/
theorem cell_freeze (w : World) (a : Addr) (n : Nat) (p : Addr) : (w.freeze a n).cell? p = w.cell? p := by
  unfold World.freeze
  split
  · rfl
  · simp only [World.cell?, Array.getElem?_modify]
    by_cases h : a.block = p.block
    · rw [if_pos h]
      cases w.heap[p.block]? with
      | none => rfl
      | some o => cases o <;> rfl
    · rw [if_neg h]
theorem heap_freeze (w : World) (a : Addr) (n i : Nat) (h : i ≠ a.block) : (w.freeze a n).heap[i]? = w.heap[i]? := by
  unfold World.freeze
  split
  · rfl
  · simp only [Array.getElem?_modify]
    rw [if_neg (fun e => h e.symm)]

theorem Rel.freezeOwn {G : Gh} {w0 w : World} {st : St} (hR : Rel G w0 st w) {k : Key} {ver n g cap size : Nat} (hk : lk st.ow k = some (ver, n)) (hω : G.ω k ver = some (g, cap, size)) (m : Nat) : Rel G w0 { st with ow := del st.ow k } (w.drew.freeze ⟨g, 0, none⟩ m) := by
  obtain ⟨g1, cap1, size1, e1, hown, hbox⟩ := hR.ow k ver n hk
  rw [hω] at e1
  cases e1
  have hge : w0.heap.size ≤ g := by obtain ⟨_, _, h, _⟩ := hown; exact h
  have hh : ∀ i, i ≠ g → (w.drew.freeze ⟨g, 0, none⟩ m).heap[i]? = w.heap[i]? := fun i hi => heap_freeze w.drew ⟨g, 0, none⟩ m i hi
  have hget : ∀ k' v, lk (del st.ow k) k' = some v → k' ≠ k ∧ lk st.ow k' = some v := by
    intro k' v h
    rw [lk_del] at h
    split at h
    · cases h
    · rename_i hn; exact ⟨hn, h⟩
  have hne : ∀ k' v' n' g' c s, lk (del st.ow k) k' = some (v', n') → G.ω k' v' = some (g', c, s) → g' ≠ g := by
    rintro k' v' n' g' c s h h2 rfl
    obtain ⟨hn, h⟩ := hget _ _ h
    exact hn (hR.owinj k' k v' ver n' n _ _ _ _ _ h hk h2 hω)
  refine ⟨hR.bel.trans (Lib.below_freeze (Below.drew (Below.refl _ w)) (p := ⟨g, 0, none⟩) hge m), ?_, ?_, hR.inj, ?_, ?_, hR.fresh, ?_, ?_⟩
  · intro g' o v h
    obtain ⟨h1, h2⟩ := hR.ext g' o v h
    exact ⟨by rw [cell_freeze]; exact h1, h2⟩
  · intro k' v' cs g' h hg'
    obtain ⟨us, e, a1, a2, a3, a4, a5⟩ := hR.bx k' v' cs g' h hg'
    exact ⟨us, e, a1, by rw [hh g' (by rintro rfl; exact hbox k' v' cs h hg')]; exact a2, a3, a4, a5⟩
  · intro k' v' n' h
    obtain ⟨hn, h0⟩ := hget _ _ h
    obtain ⟨g', c, s, b1, ⟨cur, e, a1, a2, a3⟩, b3⟩ := hR.ow k' v' n' h0
    exact ⟨g', c, s, b1, ⟨cur, e, a1, by rw [hh g' (hne _ _ _ _ _ _ h b1)]; exact a2, a3⟩, b3⟩
  · intro k1 k2 v1 v2 n1 n2 g' c s c' s' h1 h2
    exact hR.owinj k1 k2 v1 v2 n1 n2 g' c s c' s' (hget _ _ h1).2 (hget _ _ h2).2
  · intro k' v' cs g' hb h hg'
    obtain ⟨us, h1⟩ := hR.bxT k' v' cs g' hb h hg'
    exact ⟨us, by rw [hh g' (by rintro rfl; exact hbox k' v' cs h hg')]; exact h1⟩
  · intro k' v' n' hb h g' c s h2
    obtain ⟨us, h1⟩ := hR.owT k' v' n' hb (hget _ _ h).2 g' c s h2
    exact ⟨us, by rw [hh g' (hne _ _ _ _ _ _ h h2)]; exact h1⟩

/-- strings.Builder's String. -/
def bStr (args : List AV) (st : St) : Option (AV × St) :=
  match args with
  | [.p k v 0] => match lk st.bx k with
    | some (v', [_, .sl (.id k2 v2) rows]) =>
      match bytesOf rows, lk st.ow k2 with
      | some l, some (v3, n) => if v' = v ∧ bigSite ≤ k.2 ∧ v3 = v2 ∧ n = rows.length ∧ 0 < n ∧ bigSite ≤ k2.2 ∧ n ≤ maxBytes then some (.s l, { st with ow := del st.ow k2 }) else none
      | _, _ => none
    | _ => none
  | _ => none

theorem bStr_ok {P : Program} {ρ : Ren} {fm : FM} (L : Lays.n169 P ρ) (X : Builder.Extra P ρ) (hb : ρ.t 72 = btOf fm) (he : ρ.t 5 = etOf fm) (hc : ∀ args w, (callFunc (ρ.f 169) args).run P w = .ok (.enter (ρ.f 169) args) w) {args : List AV} {st st' : St} {r : AV} (h : bStr args st = some (r, st'))
    {G : Gh} {w0 w : World} {vals : List Value} {d : Nat} (hfm : G.fm = fm) (hR : Rel G w0 st w) (hV : Rs G args vals) : Goes P (ρ.f 169) vals.toArray w fun v w' => ∃ G', R G' r v ∧ Run G G' w0 st st' w' d := by
  subst hfm
  unfold bStr at h
  split at h
  case h_2 => cases h
  rename_i k v
  split at h
  case h_2 => cases h
  rename_i v' c0 k2 v2 rows hlk
  split at h
  case h_2 => cases h
  rename_i l v3 n hl how
  split at h
  case isFalse => cases h
  rename_i hcond
  obtain ⟨rfl, hbig, rfl, rfl, hpos, hbig2, hmax⟩ := hcond
  cases h
  match vals, hV.1 with
  | [p], _ =>
    obtain ⟨g, rfl, hρ⟩ := (hV.2 0 _ p rfl rfl).p_inv
    obtain ⟨us, e, hge, hheap, hr, h1, hnone⟩ := hR.bx k v' _ g hlk hρ
    obtain ⟨us', h3⟩ := hR.bxT k v' _ g hbig hlk hρ
    rw [hheap] at h3
    injection h3 with h3
    injection h3 with _ h3
    subst h3
    match us, hr.1 with
    | [u0, u1], _ =>
      obtain ⟨A, cap, rfl, hF, hO⟩ := (hr.2 1 _ u1 rfl rfl).sl_inv
      obtain ⟨g2, size, hω, rfl, hrow⟩ := hO
      have hrows := bytesOf_inv hl
      subst hrows
      have hl0 : l ≠ [] := by rintro rfl; simp at hpos
      obtain ⟨g3, cap3, size3, e1, ⟨cur, e2, hge2, hheap2, hcur, hncap, hsz, _⟩, _⟩ := hR.ow k2 v3 _ how
      rw [hω] at e1
      cases e1
      obtain ⟨us2, h4⟩ := hR.owT k2 v3 _ hbig2 how g2 cap size hω
      rw [hheap2] at h4
      injection h4 with h4
      injection h4 with _ h4
      subst h4
      have hcell : ∀ j x, l[j]? = some x → w.cell? ⟨g2, j, none⟩ = some (.int .u8 x.toNat) := by
        intro j x hx
        cases hF with
        | sl _ A cap size' g' off us hA hcap hsz' hH hFz =>
        have hAe := hA (by simpa using hl0)
        injection hAe with hAe
        injection hAe with e3 e4
        subst e3; subst e4
        have hsize : size' = 1 := by
          cases l with
          | nil => exact absurd rfl hl0
          | cons c l => rw [← hsz' 0 (row8 c) rfl]; rfl
        subst hsize
        have hrow' : (l.map row8)[j]? = some (row8 x) := by simp only [List.getElem?_map, hx, Option.map_some]
        have q1 := hH j (row8 x) 0 _ hrow' rfl
        have q2 := hFz j (row8 x) 0 _ hrow' rfl
        have q3 := (hR.ext _ _ _ q1).1
        generalize us j 0 = v0 at q2 q3
        cases q2
        simpa using q3
      have hsize : size = 1 := by
        cases l with
        | nil => exact absurd rfl hl0
        | cons c l => rw [← (hrow 0 (row8 c) rfl).1]; rfl
      subst hsize
      simp only [List.length_map, maxBytes] at hncap hpos hheap how hmax ⊢
      have hrun := string_run L X (b := g) (g := g2) (cap := cap) (p := u0) (cur := cur) (l := l) (w := w) (by rw [hb]; exact hheap) (by rw [he]; exact hheap2) hl0 (by omega) (by omega) ?_ hcell
      · refine .inl ⟨hc _ _, hrun.mono fun e w' ⟨h5, h6⟩ => ?_⟩
        subst h5
        subst h6
        exact ⟨G, .fz _ _ (.s _), ⟨.refl G, hR.freezeOwn how hω _, Nat.le_refl _, fun _ _ _ => ⟨rfl, rfl⟩, fun _ _ _ _ _ _ h => h, fun _ _ _ h => .inl h⟩⟩
      · omega
end Go.AM

/- What stands outside the abstract machine's programs: strings.IndexByte, abi.NoEscape, (*strings.Builder).String. -/
namespace Go.AM
open Go Go.RowKit Go.Shelf Go.Proofs
theorem TK.ok_other {P : Program} {t : TypeId} (h : (match P.underlying t with | none => false | some (.struct _) => false | some (.array _ _) => false | some _ => true) = true) : TK.ok P t .other := by
  show ∃ d, P.underlying t = some d ∧ (match d with | .struct _ | .array _ _ => False | _ => True)
  split at h
  · cases h
  · cases h
  · cases h
  · rename_i d h1 h2 h3
    refine ⟨d, h3, ?_⟩
    split
    · exact absurd rfl (h1 _)
    · exact absurd rfl (h2 _ _)
    · trivial
def orcB : Nat → List AV → Option AV := fun c args =>
  if c = 146 then (match args with | [x] => some x | _ => none) else orc48 48 c args
def orsB : Nat → List AV → St → Option (AV × St) := fun c args st => if c = 105 then bStr args st else none
theorem orcB_146 (k : Key) (v : Nat) : orcB 146 [.p k v 0] = some (.p k v 0) := rfl
theorem orcB_48 (s : List UInt8) (c : UInt8) : orcB 48 [.s s, .i .u8 (c.toNat : Int)] = some (.i .i64 (Lib.indexByte s c)) := by
  unfold orcB
  rw [if_neg (by decide)]
  exact orc48_at 48 s c
theorem orcB_105 (args : List AV) : orcB 105 args = none := by
  unfold orcB orc48
  rw [if_neg (by decide), if_neg (by decide)]
theorem orsB_105 (args : List AV) (st : St) : orsB 105 args st = bStr args st := rfl
section
variable {P : Program} {X : Cx}
theorem orcB_ok {fs : List (Nat × AF)} (h48 : OracOk P X { fn := fnOf fs, orac := orc48 48 }) {f0 : Nat} {fn : Func} (hf : ∀ f, X.fm f = some 146 → f = f0) (h1 : P.funcs[f0]? = some fn) (h2 : (fn.name == "runtime.NumGoroutine") = false) (h3 : fn.body.isNone = true) (h4 : Extern.findNext fn = none) (h5 : Extern.find fn = some Extern.AbiNoEscape.same) : OracOk P X ⟨fnOf fs, orcB, orsB⟩ := by
  intro f c hfc hfn args r hr G w0 st w vals d hG hR hV
  simp only [orcB] at hr
  split at hr
  · rename_i hc
    subst hc
    have := hf f hfc
    subst this
    split at hr
    case h_2 => cases hr
    rename_i x
    cases hr
    have hlen := hV.1
    match vals, hlen with
    | [v1], _ =>
      refine .inr ⟨v1, w, ?_, G, hV.2 0 _ v1 rfl rfl, .refl hR⟩
      rw [run_callFunc_extern h1 h2 h3 h4 h5]
      have := Lib.run_noEscape (P := P) w v1
      rw [this]
      simp [Result.andThen]
  · exact h48 f c hfc hfn args r hr G w0 st w vals d hG hR hV
theorem orsB_ok {fs : List (Nat × AF)} {ρ : Ren} (L : Lays.n169 P ρ) (E : Builder.Extra P ρ) (hf : ∀ f, X.fm f = some 105 → f = ρ.f 169) (hb : X.fm 1000000000000 = some (ρ.t 72 + 1000000000)) (he : X.fm 1000000000001 = some (ρ.t 5 + 1000000000)) {fn : Func} {code : Code} (h1 : P.funcs[ρ.f 169]? = some fn) (h2 : (fn.name == "runtime.NumGoroutine") = false) (h3 : fn.body = some code) : OracSOk P X ⟨fnOf fs, orcB, orsB⟩ := by
  intro f c hfc _ args st r st' hr G w0 w vals d hG hR hV
  simp only [orsB] at hr
  split at hr
  case isFalse => cases hr
  rename_i hc
  subst hc
  have := hf f hfc
  subst this
  have e1 : btOf X.fm = ρ.t 72 := by unfold btOf; rw [hb]; simp
  have e2 : etOf X.fm = ρ.t 5 := by unfold etOf; rw [he]; simp
  exact bStr_ok L E e1.symm e2.symm (fun args w => callFunc_enter h1 h2 h3 args) hr hG hR hV
end
end Go.AM

/- Calls whose first argument points to a box: what they leave as it was; strings.Builder. -/
namespace Go.AM
open Go

abbrev Bxs := List (Key × Nat × List AV)
abbrev Ows := List (Key × Nat × Nat)

/-- At depth d, with the box at k handed in: the boxes and own rows of those outside are as before. -/
def Fr (d : Nat) (k : Key) (bx : Bxs) (ow : Ows) (bx' : Bxs) (ow' : Ows) : Prop :=
  (∀ k' : Key, k'.1 < d → k' ≠ k → lk bx' k' = lk bx k') ∧ (∀ k' : Key, k'.1 < d → k'.2 < bigSite → lk ow' k' = lk ow k')

theorem lk_filter' {α : Type} (l : List (Key × α)) (p : Key → Bool) (k : Key) : lk (l.filter fun x => p x.1) k = if p k then lk l k else none := by
  induction l with
  | nil => simp [lk]
  | cons x r ih =>
    obtain ⟨k1, b⟩ := x
    simp only [List.filter_cons]
    by_cases h : k1 = k
    · subst h
      cases hp : p k1 with
      | true => simp [lk]
      | false => simp [ih, hp]
    · split
      · simp only [lk, if_neg h, ih]
      · simp only [ih, lk, if_neg h]
section
variable {d : Nat} {k : Key} {bx bx' bx2 : Bxs} {ow ow' ow2 : Ows}
theorem Fr.refl : Fr d k bx ow bx ow := ⟨fun _ _ _ => rfl, fun _ _ _ => rfl⟩
theorem lk_ne {α : Type} {l : List (Key × α)} {k k' : Key} {a : α} (h : k ≠ k') : lk (st_ l k a) k' = lk l k' := by rw [lk_st', if_neg h]
/-- A box of this depth is made or written. -/
theorem Fr.box {s : Nat} {a : Nat × List AV} (h : Fr d k bx ow bx' ow') : Fr d k bx ow (st_ bx' (d, s) a) ow' :=
  ⟨fun k' h1 h2 => by rw [lk_ne (by rintro rfl; exact Nat.lt_irrefl _ h1)]; exact h.1 k' h1 h2, h.2⟩
/-- The box handed in is written. -/
theorem Fr.own {a : Nat × List AV} (h : Fr d k bx ow bx' ow') : Fr d k bx ow (st_ bx' k a) ow' :=
  ⟨fun k' h1 h2 => by rw [lk_ne (fun e => h2 e.symm)]; exact h.1 k' h1 h2, h.2⟩
theorem Fr.del {s : Nat} (h : Fr d k bx ow bx' ow') : Fr d k bx ow (Go.AM.del bx' (d, s)) ow' :=
  ⟨fun k' h1 h2 => by rw [lk_del', if_neg (by rintro rfl; exact Nat.lt_irrefl _ h1)]; exact h.1 k' h1 h2, h.2⟩
/-- A call one deeper, with a box of this depth, or with the box handed in. -/
theorem Fr.call {s : Nat} (h : Fr d k bx ow bx' ow') (c : Fr (d + 1) (d, s) bx' ow' bx2 ow2) : Fr d k bx ow bx2 ow2 :=
  ⟨fun k' h1 h2 => (c.1 k' (Nat.lt_succ_of_lt h1) (by rintro rfl; exact Nat.lt_irrefl _ h1)).trans (h.1 k' h1 h2), fun k' h1 h2 => (c.2 k' (Nat.lt_succ_of_lt h1) h2).trans (h.2 k' h1 h2)⟩
theorem Fr.pass (h : Fr d k bx ow bx' ow') (c : Fr (d + 1) k bx' ow' bx2 ow2) : Fr d k bx ow bx2 ow2 :=
  ⟨fun k' h1 h2 => (c.1 k' (Nat.lt_succ_of_lt h1) h2).trans (h.1 k' h1 h2), fun k' h1 h2 => (c.2 k' (Nat.lt_succ_of_lt h1) h2).trans (h.2 k' h1 h2)⟩
theorem Fr.trans (h : Fr d k bx ow bx' ow') (c : Fr d k bx' ow' bx2 ow2) : Fr d k bx ow bx2 ow2 :=
  ⟨fun k' h1 h2 => (c.1 k' h1 h2).trans (h.1 k' h1 h2), fun k' h1 h2 => (c.2 k' h1 h2).trans (h.2 k' h1 h2)⟩
/-- At the function's end. -/
theorem Fr.out (h : Fr d k bx ow bx' ow') : Fr d k bx ow (bx'.filter fun x => x.1.1 < d) ow' :=
  ⟨fun k' h1 h2 => by
    have := lk_filter' bx' (fun k => decide (k.1 < d)) k'
    rw [this, if_pos (by simpa using h1)]
    exact h.1 k' h1 h2, h.2⟩

/-- An own row of this depth. -/
def Mine (d : Nat) : Own → Prop
  | .id k _ => k.1 = d ∧ k.2 < bigSite
  | _ => True
def ApM (d : Nat) (ow : Ows) (o : Own) (n : Nat) : Prop := App ow o n ∧ Mine d o
theorem ApM.mk {o : Own} {n : Nat} (h : App ow o n) (m : Mine d o) : ApM d ow o n := ⟨h, m⟩
theorem ApM.full {n : Nat} : ApM d ow .full n := ⟨trivial, trivial⟩
theorem Mine.app {o o' : Own} {site : Nat} (h : Mine d o) (hs : Nat.blt site bigSite = true) (he : ownKey o' = ownKey o ∨ ownKey o' = some (d, site)) : Mine d o' := by
  have hs : site < bigSite := Nat.le_of_ble_eq_true hs
  cases o' with
  | ext => trivial
  | full => trivial
  | id k v =>
    rcases he with he | he
    · cases o with
      | ext => cases he
      | full => cases he
      | id k' v' => injection he with he; subst he; exact h
    · injection he with he; subst he; exact ⟨rfl, hs⟩
theorem ApM.call {o : Own} {n : Nat} {q : Key} (h : ApM d ow o n) (c : Fr (d + 1) q bx ow bx2 ow2) : ApM d ow2 o n := by
  refine ⟨?_, h.2⟩
  cases o with
  | ext => exact h.1
  | full => trivial
  | id k' v' => exact ⟨(c.2 k' (by rw [h.2.1]; exact Nat.lt_succ_self _) h.2.2).trans h.1.1, h.1.2⟩
/-- .. an append to another one. -/
theorem Fr.app {o : Own} {site : Nat} (h : Fr d k bx ow bx' ow') (hm : Mine d o) (hw : ∀ k', some k' ≠ ownKey o → k' ≠ (d, site) → lk ow2 k' = lk ow' k') : Fr d k bx ow bx' ow2 := by
  refine ⟨h.1, fun k' h1 h2 => (hw k' ?_ ?_).trans (h.2 k' h1 h2)⟩
  · intro e
    cases o with
    | ext => cases e
    | full => cases e
    | id q v => injection e with e; subst e; exact absurd hm.1 (Nat.ne_of_lt h1)
  · rintro rfl; exact Nat.lt_irrefl _ h1
end

/-- What stands in a box. -/
abbrev BC := Bxs → Ows → Key → Nat → Prop
def Bx (cs : List AV) : BC := fun bx _ k v => lk bx k = some (v, cs)
def AppB (ow : Ows) (o : Own) (n : Nat) : Prop :=
  match o with
  | .ext => False
  | .full => n = 0
  | .id k v => lk ow k = some (v, n) ∧ 0 < n ∧ bigSite ≤ k.2
/-- A strings.Builder that holds some bytes. -/
def Bl (b : List UInt8) : BC := fun bx ow k v => ∃ c0 o, lk bx k = some (v, [c0, .sl o (b.map row8)]) ∧ (c0 = .np ∨ c0 = .p k v 0) ∧ AppB ow o b.length ∧ bigSite ≤ k.2

section
variable {d s s' : Nat} {k q : Key} {bx : Bxs} {ow ow' : Ows} {v : Nat} {b : List UInt8}
theorem key_LL (h : Nat.beq s s' = false) : ((d, s) : Key) ≠ (d, s') := by
  intro e
  injection e with _ e
  rw [e, Nat.beq_refl] at h
  cases h
theorem key_PL (h : k.1 < d) : k ≠ (d, s) := by rintro rfl; exact Nat.lt_irrefl _ h
theorem key_LP (h : k.1 < d) : ((d, s) : Key) ≠ k := fun e => key_PL h e.symm
theorem lk_otherP {α : Type} {l : List (Key × α)} {a : α} {o : Option α} (h : k.1 < d) (hb : lk l k = o) : lk (st_ l (d, s) a) k = o := by rw [lk_ne (key_LP h)]; exact hb
theorem lk_otherQ {α : Type} {l : List (Key × α)} {a : α} {o : Option α} (h : k.1 < d) (hb : lk l (d, s) = o) : lk (st_ l k a) (d, s) = o := by rw [lk_ne (key_PL h)]; exact hb
theorem Bl.other {a : Nat × List AV} (hn : q ≠ k) (h : Bl b bx ow k v) : Bl b (st_ bx q a) ow k v := by
  obtain ⟨c0, o, h1, h2⟩ := h
  exact ⟨c0, o, by rw [lk_ne hn]; exact h1, h2⟩
theorem Bl.new (h : lk bx k = some (v, [.np, .sl .full []])) (hk : Nat.ble bigSite k.2 = true) : Bl [] bx ow k v := ⟨.np, .full, h, .inl rfl, rfl, Nat.le_of_ble_eq_true hk⟩
theorem Bl.app {o : Own} {site : Nat} (h : Bl b bx ow k v) (hm : Mine d o) (hs : Nat.blt site bigSite = true) (hw : ∀ k', some k' ≠ ownKey o → k' ≠ (d, site) → lk ow' k' = lk ow k') : Bl b bx ow' k v := by
  obtain ⟨c0, o2, h1, h2, h3, h4⟩ := h
  have hs : site < bigSite := Nat.le_of_ble_eq_true hs
  refine ⟨c0, o2, h1, h2, ?_, h4⟩
  cases o2 with
  | ext => exact h3
  | full => exact h3
  | id q w =>
    refine ⟨(hw q ?_ ?_).trans h3.1, h3.2⟩
    · intro e
      cases o with
      | ext => cases e
      | full => cases e
      | id q' w' => injection e with e; subst e; exact absurd hm.2 (Nat.not_lt.2 h3.2.2)
    · rintro rfl; exact absurd hs (Nat.not_lt.2 h3.2.2)
end

/-- A call with a pointer to a box ahead: results, and what stands in the box behind it. -/
def PuX (prog : Prog) (f : Nat) (B : BC) (args : List AV) (RR : AV → Prop) (B' : BC) : Prop :=
  ∀ d (st : St) (k : Key) (v : Nat), k.1 < d → B st.bx st.ow k v → ∃ r st', Fn prog d f (.p k v 0 :: args) st r st' ∧ RR r ∧ B' st'.bx st'.ow k v ∧ Fr d k st.bx st.ow st'.bx st'.ow
def PuXK {β : Type} (prog : Prog) (f : Nat) (B : BC) (args : List AV) (KK : AV → β → Prop) (B' : β → BC) : Prop :=
  ∀ d (st : St) (k : Key) (v : Nat), k.1 < d → B st.bx st.ow k v → ∃ r st' b, Fn prog d f (.p k v 0 :: args) st r st' ∧ KK r b ∧ B' b st'.bx st'.ow k v ∧ Fr d k st.bx st.ow st'.bx st'.ow
theorem PuXK.to {β : Type} {prog : Prog} {f : Nat} {B : BC} {args : List AV} {KK : AV → β → Prop} {B' : β → BC} {RR : AV → Prop} {b : β} (h : PuXK prog f B args KK B') (hk : ∀ r b', KK r b' → RR r ∧ b' = b) : PuX prog f B args RR (B' b) := by
  intro d st k v h1 h2
  obtain ⟨r, st', b', h3, h4, h5, h6⟩ := h d st k v h1 h2
  obtain ⟨h7, rfl⟩ := hk r b' h4
  exact ⟨r, st', h3, h7, h5, h6⟩

section
variable {prog : Prog} {d id base i : Nat} {σ : Sl} {st : St} {K : Sl → St → Prop} {r : List AI} {t : Option Nat} {x y : Opd}
theorem s_callX {f : Nat} {args : List Opd} {vs : List AV} {B B' : BC} {F : AV} {k : Key} {v : Nat} (hs : evs σ args = .p k v 0 :: vs) (hp : PuX prog f B vs (fun r => r = F) B') (hk : k.1 < d + 1) (hB : B st.bx st.ow k v)
    (h : ∀ st' : St, B' st'.bx st'.ow k v → Fr (d + 1) k st.bx st.ow st'.bx st'.ow → WO prog d id base (i + 1) r (upO σ t F) st' K) : WO prog d id base i (⟨t, .call true f args, none⟩ :: r) σ st K := by
  refine s_one ?_
  obtain ⟨r', st', h1, rfl, h3, h4⟩ := hp (d + 1) st k v hk hB
  rw [WOp_callp, hs]
  exact ⟨_, _, h1, h st' h3 h4⟩
theorem s_callX1 {f : Nat} {args : List Opd} {vs : List AV} {B B' : BC} {F : Own → AV} {k : Key} {v : Nat} (hs : evs σ args = .p k v 0 :: vs) (hp : PuX prog f B vs (fun r => ∃ o, r = F o) B') (hk : k.1 < d + 1) (hB : B st.bx st.ow k v)
    (h : ∀ (o : Own) (st' : St), B' st'.bx st'.ow k v → Fr (d + 1) k st.bx st.ow st'.bx st'.ow → WO prog d id base (i + 1) r (upO σ t (F o)) st' K) : WO prog d id base i (⟨t, .call true f args, none⟩ :: r) σ st K := by
  refine s_one ?_
  obtain ⟨r', st', h1, ⟨o, rfl⟩, h3, h4⟩ := hp (d + 1) st k v hk hB
  rw [WOp_callp, hs]
  exact ⟨_, _, h1, h o st' h3 h4⟩
end
/-- A result that lives in a box. -/
theorem ares_cell {σ : Sl} {st : St} {t n v : Nat} {agg : Bool} {k : Key} {cs : List AV} {r : AV} (h : σ t = .p k v 0) (hb : lk st.bx k = some (v, cs)) (hn : cs.length = n) (hr : ofCells agg cs = some r) : ares1 σ st (.cell t n agg) = some r := by
  subst hn
  simp only [ares1, h, aload, hb]
  rw [if_pos ⟨trivial, by omega⟩, List.drop_zero, List.take_length, hr]

theorem ares_cellA {σ : Sl} {st : St} {t n v : Nat} {k : Key} {cs : List AV} (h : σ t = .p k v 0) (hb : lk st.bx k = some (v, cs)) (hn : cs.length = n) : ares1 σ st (.cell t n true) = some (.ag cs) := ares_cell h hb hn rfl

theorem ares_tmp {σ : Sl} {st : St} {t : Nat} : ares1 σ st (.tmp t) = some (σ t) := rfl

def gsW (prog : Prog) (d l : Nat) (b : AC) (Q : AE → Sl → St → Prop) : AE → Sl → St → Prop
  | .normal, σ, st => WG prog d l b σ st Q
  | _, _, _ => False
theorem W.gscope' {prog : Prog} {d : Nat} {σ : Sl} {st : St} {Q : AE → Sl → St → Prop} {l : Nat} {a b : AC} (h : W prog d a σ st (gsW prog d l b Q)) : W prog d (.gscope l a b) σ st Q :=
  W.gscope (h.mono fun e σ st he => by cases e <;> exact he)

end Go.AM
