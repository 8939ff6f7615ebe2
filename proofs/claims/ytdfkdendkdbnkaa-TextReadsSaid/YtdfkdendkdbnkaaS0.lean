/- Steps of the abstract machine, one law an operation: what the printer's proofs are made of. -/
import Derived.Test.YtdfkdendkdbnkaaAw1
set_option linter.all false
namespace Go.AM
open Go

/-- upd, so that it is looked up by reduction. -/
def up (σ : Sl) (d : Nat) (v : AV) : Sl := fun t => cond (Nat.beq t d) v (σ t)
theorem up_eq (σ : Sl) (d : Nat) (v : AV) : upd σ d v = up σ d v := by
  funext t
  unfold upd up
  by_cases h : t = d
  · rw [if_pos h, h, Nat.beq_refl]; rfl
  · rw [if_neg h]
    have : Nat.beq t d = false := by
      cases hb : Nat.beq t d with
      | false => rfl
      | true => exact absurd (Nat.eq_of_beq_eq_true hb) h
    rw [this]; rfl
def upO (σ : Sl) (d : Option Nat) (v : AV) : Sl := match d with | some d => up σ d v | none => σ
theorem upO_eq (σ : Sl) (d : Option Nat) (v : AV) : updO σ d v = upO σ d v := by cases d <;> simp [updO, upO, up_eq]

/-- The result of a call that shares no memory, as the caller sees it. -/
def Pus (prog : Prog) (f : Nat) (args : List AV) (r : AV) : Prop := ∃ r', Pu prog f args r' ∧ r'.strip = some r

theorem Pus.det {prog : Prog} {f : Nat} {args : List AV} {r r' : AV} (h : Pus prog f args r) (k : Pus prog f args r') : r = r' := by
  obtain ⟨a, h1, h2⟩ := h
  obtain ⟨b, h3, h4⟩ := k
  rw [h1.det h3, h4] at h2
  injection h2 with h2
  exact h2.symm

/-- The same element again and again. -/
def rep {α : Type} (n : Nat) (a : α) : List α := List.replicate n a
theorem rep_eq {α : Type} (n : Nat) (a : α) : rep n a = List.replicate n a := rfl
theorem rep_len {α : Type} (n : Nat) (a : α) : (rep n a).length = n := List.length_replicate
attribute [irreducible] rep

def Fit (n bytes : Nat) : Prop := n * bytes ≤ maxBytes ∧ n ≤ maxBytes

/-- A call that appends to its first argument. -/
def PuA (prog : Prog) (f : Nat) (rows : List (List AV)) (args : List AV) (rows' : List (List AV)) : Prop :=
  ∀ d st o, App st.ow o rows.length → ∃ o' st', Fn prog d f (.sl o rows :: args) st (.sl o' rows') st' ∧ App st'.ow o' rows'.length

section
variable {prog : Prog} {d id base i : Nat} {σ : Sl} {st : St} {K : Sl → St → Prop} {r : List AI} {t : Option Nat} {x y : Opd}

theorem s_nil (h : K σ st) : WO prog d id base i [] σ st K := h

theorem s_one {op : AOp} (h : WOp prog d (id * 4096 + i) (base + i) σ st (fun v st' => WO prog d id base (i + 1) r (upO σ t v) st' K) op) : WO prog d id base i (⟨t, op, none⟩ :: r) σ st K := by
  show WOp prog d (id * 4096 + i) (base + i) σ st (fun v st' => WO prog d id base (i + 1) r (updO σ t v) st' K) op
  simp only [upO_eq]
  exact h

/-- An operation that looks at nothing but its operands. -/
theorem s_pure {op : AOp} {v : AV} (hv : ∀ K : AV → St → Prop, WOp prog d (id * 4096 + i) (base + i) σ st K op = K v st) (h : WO prog d id base (i + 1) r (upO σ t v) st K) : WO prog d id base i (⟨t, op, none⟩ :: r) σ st K := by
  refine s_one ?_
  rw [hv]
  exact h

theorem s_mv {v : AV} (hx : x.ev σ = v) (h : WO prog d id base (i + 1) r (upO σ t v) st K) : WO prog d id base i (⟨t, .mv x, none⟩ :: r) σ st K :=
  s_pure (fun K => by rw [WOp_mv, hx]) h
theorem s_bin {op : BinOp} {a b v : AV} (hx : x.ev σ = a) (hy : y.ev σ = b) (hv : abin op a b = some v) (h : WO prog d id base (i + 1) r (upO σ t v) st K) : WO prog d id base i (⟨t, .bin op x y, none⟩ :: r) σ st K :=
  s_pure (fun K => by rw [WOp_bin, hx, hy, hv, onO_some]) h
theorem s_beq {a b : Bool} (hx : x.ev σ = .b a) (hy : y.ev σ = .b b) (h : WO prog d id base (i + 1) r (upO σ t (.b (decide (a = b)))) st K) : WO prog d id base i (⟨t, .beq false x y, none⟩ :: r) σ st K :=
  s_pure (fun K => by
    simp only [WOp, aexec, apure, hx, hy, Option.map_some, onO_some]
    cases a <;> cases b <;> rfl) h
theorem s_bne {a b : Bool} (hx : x.ev σ = .b a) (hy : y.ev σ = .b b) (h : WO prog d id base (i + 1) r (upO σ t (.b (decide (a ≠ b)))) st K) : WO prog d id base i (⟨t, .beq true x y, none⟩ :: r) σ st K :=
  s_pure (fun K => by
    simp only [WOp, aexec, apure, hx, hy, Option.map_some, onO_some]
    cases a <;> cases b <;> rfl) h
theorem s_not {a : Bool} (hx : x.ev σ = .b a) (h : WO prog d id base (i + 1) r (upO σ t (.b (!a))) st K) : WO prog d id base i (⟨t, .un .not x, none⟩ :: r) σ st K :=
  s_pure (fun K => by simp only [WOp, aexec, apure, hx, Option.map_some, onO_some]) h
theorem s_notp {p : Prop} [Decidable p] (hx : x.ev σ = .b (decide p)) (h : WO prog d id base (i + 1) r (upO σ t (.b (decide (¬p)))) st K) : WO prog d id base i (⟨t, .un .not x, none⟩ :: r) σ st K :=
  s_not hx (by rw [← decide_not]; exact h)
theorem s_neg {k : IntKind} {n : Int} (hx : x.ev σ = .i k n) (h : WO prog d id base (i + 1) r (upO σ t (.i k (k.wrap (0 - n)))) st K) : WO prog d id base i (⟨t, .un .neg x, none⟩ :: r) σ st K :=
  s_pure (fun K => by simp only [WOp, aexec, apure, hx, Option.map_some, onO_some]) h
theorem s_lenS {l : List UInt8} (hx : x.ev σ = .s l) (h : WO prog d id base (i + 1) r (upO σ t (.i .i64 (l.length : Int))) st K) : WO prog d id base i (⟨t, .len true x, none⟩ :: r) σ st K :=
  s_pure (fun K => by rw [WOp_lenS, hx, onS_s]) h
theorem s_lenL {α : Type} {f : α → List AV} {l : List α} {o : Own} (hx : x.ev σ = .sl o (l.map f)) (h : WO prog d id base (i + 1) r (upO σ t (.i .i64 (l.length : Int))) st K) : WO prog d id base i (⟨t, .len false x, none⟩ :: r) σ st K :=
  s_pure (fun K => by rw [WOp_lenL, hx, onL_sl, List.length_map]) h
theorem s_ixS {l : List UInt8} {k : IntKind} {n : Int} {c : UInt8} (hx : x.ev σ = .s l) (hy : y.ev σ = .i k n) (h0 : 0 ≤ n) (hc : l[n.toNat]? = some c) (h : WO prog d id base (i + 1) r (upO σ t (.i .u8 (c.toNat : Int))) st K) : WO prog d id base i (⟨t, .ixS x y, none⟩ :: r) σ st K :=
  s_pure (fun K => by rw [WOp_ixS, hx, onS_s, hy, onN_pos _ _ _ h0, hc, onO_some]) h
theorem s_cvi {k k' : IntKind} {n : Int} (hx : x.ev σ = .i k' n) (h : WO prog d id base (i + 1) r (upO σ t (.i k (k.wrap n))) st K) : WO prog d id base i (⟨t, .cvi k x, none⟩ :: r) σ st K :=
  s_pure (fun K => by rw [WOp_cvi, hx, onI_i]) h
theorem s_b2s {l : List UInt8} {o : Own} (hx : x.ev σ = .sl o (l.map row8)) (h : WO prog d id base (i + 1) r (upO σ t (.s l)) st K) : WO prog d id base i (⟨t, .b2s x, none⟩ :: r) σ st K :=
  s_pure (fun K => by
    have := bytesOf_bs l
    unfold bs at this
    rw [WOp_b2s, hx, onL_sl, this, onO_some]) h
theorem s_ext {k : Nat} {vs : List AV} {v : AV} (hx : x.ev σ = .tup vs) (hv : vs[k]? = some v) (h : WO prog d id base (i + 1) r (upO σ t v) st K) : WO prog d id base i (⟨t, .ext k x, none⟩ :: r) σ st K :=
  s_pure (fun K => by rw [WOp_ext, hx, onT_tup, hv, onO_some]) h
theorem s_max {k : IntKind} {a b : Int} (hx : x.ev σ = .i k a) (hy : y.ev σ = .i k b) (h : WO prog d id base (i + 1) r (upO σ t (.i k (if a < b then b else a))) st K) : WO prog d id base i (⟨t, .max x y, none⟩ :: r) σ st K :=
  s_pure (fun K => by simp only [WOp, aexec, apure, hx, hy, if_true, Option.map_some, onO_some]) h

/-! strings and slices cut -/
theorem s_slS_lo {z : Opd} {l : List UInt8} {k : IntKind} {n : Int} (hx : x.ev σ = .s l) (hz : z.ev σ = .i k n) (h0 : 0 ≤ n) (h1 : n.toNat ≤ l.length) (h : WO prog d id base (i + 1) r (upO σ t (.s (l.drop n.toNat))) st K) : WO prog d id base i (⟨t, .slS x (some z) none, none⟩ :: r) σ st K :=
  s_pure (fun K => by
    rw [WOp_slS, hx, onS_s]
    have hb : bnds σ l.length l.length (some z) none = some (n.toNat, l.length) := by
      simp only [bnds, hz, AV.nat, h0, if_true]
      rw [if_pos ⟨h1, Nat.le_refl _⟩]
    rw [hb, onO_some]
    simp only
    rw [List.take_of_length_le (by simp)]) h
theorem s_slS_hi {z : Opd} {l : List UInt8} {k : IntKind} {n : Int} (hx : x.ev σ = .s l) (hz : z.ev σ = .i k n) (h0 : 0 ≤ n) (h1 : n.toNat ≤ l.length) (h : WO prog d id base (i + 1) r (upO σ t (.s (l.take n.toNat))) st K) : WO prog d id base i (⟨t, .slS x none (some z), none⟩ :: r) σ st K :=
  s_pure (fun K => by
    rw [WOp_slS, hx, onS_s]
    have hb : bnds σ l.length l.length none (some z) = some (0, n.toNat) := by
      simp only [bnds, hz, AV.nat, h0, if_true]
      rw [if_pos ⟨Nat.zero_le _, h1⟩]
    rw [hb, onO_some]
    simp only [List.drop_zero, Nat.sub_zero]) h
theorem s_slS {z z' : Opd} {l : List UInt8} {k k' : IntKind} {n m : Int} (hx : x.ev σ = .s l) (hz : z.ev σ = .i k n) (hz' : z'.ev σ = .i k' m) (h0 : 0 ≤ n) (h1 : n ≤ m) (h2 : m.toNat ≤ l.length) (h : WO prog d id base (i + 1) r (upO σ t (.s ((l.drop n.toNat).take (m.toNat - n.toNat)))) st K) : WO prog d id base i (⟨t, .slS x (some z) (some z'), none⟩ :: r) σ st K :=
  s_pure (fun K => by
    rw [WOp_slS, hx, onS_s]
    have hb : bnds σ l.length l.length (some z) (some z') = some (n.toNat, m.toNat) := by
      simp only [bnds, hz, hz', AV.nat, h0, show (0 : Int) ≤ m by omega, if_true]
      rw [if_pos ⟨by omega, h2⟩]
    rw [hb, onO_some]) h
theorem s_slL_lo {α : Type} {f : α → List AV} {l : List α} {o : Own} {size : Nat} {z : Opd} {k : IntKind} {n : Int} (hf : ∀ a, (f a).length = size) (hx : x.ev σ = .sl o (l.map f)) (hz : z.ev σ = .i k n) (h0 : 0 ≤ n) (h1 : n.toNat ≤ l.length) (h : WO prog d id base (i + 1) r (upO σ t (.sl .ext ((l.drop n.toNat).map f))) st K) : WO prog d id base i (⟨t, .slL size x (some z) none, none⟩ :: r) σ st K :=
  s_pure (fun K => by
    rw [WOp_slL, hx, onL_sl]
    have hb : bnds σ (l.map f).length (l.map f).length (some z) none = some (n.toNat, (l.map f).length) := by
      simp only [bnds, hz, AV.nat, h0, if_true]
      rw [if_pos ⟨by simpa using h1, Nat.le_refl _⟩]
    have hall : ((l.map f).all fun c => c.length == size) = true := by simp [hf]
    rw [hb, onO_some]
    simp only [hall, true_and]
    rw [List.take_of_length_le (by simp), List.map_drop]) h
theorem s_slL_hi {α : Type} {f : α → List AV} {l : List α} {o : Own} {size : Nat} {z : Opd} {k : IntKind} {n : Int} (hf : ∀ a, (f a).length = size) (hx : x.ev σ = .sl o (l.map f)) (hz : z.ev σ = .i k n) (h0 : 0 ≤ n) (h1 : n.toNat ≤ l.length) (h : WO prog d id base (i + 1) r (upO σ t (.sl .ext ((l.take n.toNat).map f))) st K) : WO prog d id base i (⟨t, .slL size x none (some z), none⟩ :: r) σ st K :=
  s_pure (fun K => by
    rw [WOp_slL, hx, onL_sl]
    have hb : bnds σ (l.map f).length (l.map f).length none (some z) = some (0, n.toNat) := by
      simp only [bnds, hz, AV.nat, h0, if_true]
      rw [if_pos ⟨Nat.zero_le _, by simpa using h1⟩]
    have hall : ((l.map f).all fun c => c.length == size) = true := by simp [hf]
    rw [hb, onO_some]
    simp only [hall, true_and, List.drop_zero, Nat.sub_zero, List.map_take]) h
theorem s_slL {α : Type} {f : α → List AV} {l : List α} {o : Own} {size : Nat} {z z' : Opd} {k k' : IntKind} {n m : Int} (hf : ∀ a, (f a).length = size) (hx : x.ev σ = .sl o (l.map f)) (hz : z.ev σ = .i k n) (hz' : z'.ev σ = .i k' m) (h0 : 0 ≤ n) (h1 : n ≤ m) (h2 : m.toNat ≤ l.length) (h : WO prog d id base (i + 1) r (upO σ t (.sl .ext (((l.drop n.toNat).take (m.toNat - n.toNat)).map f))) st K) : WO prog d id base i (⟨t, .slL size x (some z) (some z'), none⟩ :: r) σ st K :=
  s_pure (fun K => by
    rw [WOp_slL, hx, onL_sl]
    have hb : bnds σ (l.map f).length (l.map f).length (some z) (some z') = some (n.toNat, m.toNat) := by
      simp only [bnds, hz, hz', AV.nat, h0, show (0 : Int) ≤ m by omega, if_true]
      rw [if_pos ⟨by omega, by simpa using h2⟩]
    have hall : ((l.map f).all fun c => c.length == size) = true := by simp [hf]
    rw [hb, onO_some]
    simp only [hall, true_and, List.map_take, List.map_drop]) h

/-! aggregates -/
theorem s_fld {off n : Nat} {agg : Bool} {cs : List AV} {v : AV} (hx : x.ev σ = .ag cs) (hn : Nat.ble (off + n) cs.length = true) (hv : ofCells agg ((cs.drop off).take n) = some v) (h : WO prog d id base (i + 1) r (upO σ t v) st K) : WO prog d id base i (⟨t, .fld off n agg x, none⟩ :: r) σ st K :=
  s_pure (fun K => by simp only [WOp, aexec, apure, hx, Nat.le_of_ble_eq_true hn, if_true, hv, Option.map_some, onO_some]) h
theorem s_build {zero : List AV} {parts : List (Nat × Nat × Opd)} {cs : List AV} (hp : fillCells σ zero parts = some cs) (h : WO prog d id base (i + 1) r (upO σ t (.ag cs)) st K) : WO prog d id base i (⟨t, .build zero parts, none⟩ :: r) σ st K :=
  s_pure (fun K => by simp only [WOp, aexec, apure, hp, Option.map_some, onO_some]) h
theorem f_nil {cs : List AV} : fillCells σ cs [] = some cs := rfl
theorem f_cons {cells cs : List AV} {off n : Nat} {v : AV} {ps : List (Nat × Nat × Opd)} (hx : x.ev σ = v) (hc : (Nat.beq v.cells.length n && Nat.ble (off + n) cells.length && v.cells.all AV.one) = true) (h : fillCells σ (setAt cells off v.cells) ps = some cs) : fillCells σ cells ((off, n, x) :: ps) = some cs := by
  simp only [Bool.and_eq_true] at hc
  simp only [fillCells, hx]
  rw [if_pos ⟨Nat.eq_of_beq_eq_true hc.1.1, Nat.le_of_ble_eq_true hc.1.2, hc.2⟩]
  exact h
theorem s_ixA {α : Type} {f : α → AV} {l : List α} {n : Nat} {k : IntKind} {m : Int} {c : α} (hn : l.length = n) (hx : x.ev σ = .ag (l.map f)) (hy : y.ev σ = .i k m) (h0 : 0 ≤ m) (hc : l[m.toNat]? = some c) (h : WO prog d id base (i + 1) r (upO σ t (f c)) st K) : WO prog d id base i (⟨t, .ixA n 1 false x y, none⟩ :: r) σ st K :=
  s_pure (fun K => by
    have hl : m.toNat < l.length := by
      rcases Nat.lt_or_ge m.toNat l.length with h | h
      · exact h
      · rw [List.getElem?_eq_none h] at hc; cases hc
    have hd : ((l.map f).drop m.toNat).take 1 = [f c] := by
      rw [List.drop_eq_getElem_cons (by simpa using hl)]
      simp only [List.getElem_map, List.take_succ_cons, List.take_zero]
      rw [List.getElem?_eq_getElem hl] at hc
      injection hc with hc
      rw [hc]
    simp only [WOp, aexec, apure, hx, hy, AV.nat, h0, if_true, Nat.mul_one]
    rw [if_pos ⟨by omega, by simp; omega⟩, hd]
    simp only [ofCells, Bool.false_eq_true, if_false, Option.map_some, onO_some]) h

/-! slices -/
theorem s_bslice {zero z : List AV} {n : Nat} {parts : List (Nat × Opd)} {rows : List (List AV)} (hz : softs zero = some z) (hn : (Nat.blt 0 z.length && Nat.ble (n * z.length) 65536) = true) (hp : fillRows z σ (List.replicate n z) parts = some rows) (h : WO prog d id base (i + 1) r (upO σ t (.sl .full rows)) st K) : WO prog d id base i (⟨t, .bslice zero n parts, none⟩ :: r) σ st K :=
  s_pure (fun K => by
    simp only [Bool.and_eq_true] at hn
    have h1 : 0 < z.length := Nat.le_of_ble_eq_true hn.1
    rw [WOp_bslice, hz, onO_some, hp, onO_some]
    simp only [h1, Nat.le_of_ble_eq_true hn.2, and_self, true_and]) h
theorem g_nil {z : List AV} {rows : List (List AV)} : fillRows z σ rows [] = some rows := rfl
theorem g_cons {z : List AV} {rows rows' : List (List AV)} {j : Nat} {v : AV} {cs : List AV} {ps : List (Nat × Opd)} (hx : x.ev σ = v) (hc : softs v.cells = some cs) (hn : (Nat.blt j rows.length && Nat.beq cs.length z.length) = true) (h : fillRows z σ (rows.set j cs) ps = some rows') : fillRows z σ rows ((j, x) :: ps) = some rows' := by
  simp only [Bool.and_eq_true] at hn
  have h1 : j < rows.length := Nat.le_of_ble_eq_true hn.1
  simp only [fillRows, hx, hc]
  rw [if_pos ⟨h1, Nat.eq_of_beq_eq_true hn.2⟩]
  exact h
theorem s_iaL {α : Type} {f : α → List AV} {l : List α} {o : Own} {size : Nat} {k : IntKind} {n : Int} {c : α} {cs : List AV} (hx : x.ev σ = .sl o (l.map f)) (hy : y.ev σ = .i k n) (h0 : 0 ≤ n) (hc : l[n.toNat]? = some c) (hf : f c = cs) (hs : (Nat.beq cs.length size && Nat.blt 0 size) = true) (h : WO prog d id base (i + 1) r (upO σ t (.fp cs)) st K) : WO prog d id base i (⟨t, .iaL size x y, none⟩ :: r) σ st K :=
  s_pure (fun K => by
    simp only [Bool.and_eq_true] at hs
    have h1 : 0 < size := Nat.le_of_ble_eq_true hs.2
    have h2 : (l.map f)[n.toNat]? = some cs := by rw [List.getElem?_map, hc, Option.map_some, hf]
    simp only [WOp, aexec, apure, hx, hy, AV.nat, h0, if_true, h2]
    rw [if_pos ⟨Nat.eq_of_beq_eq_true hs.1, h1⟩, Option.map_some, onO_some]) h
theorem s_loadF {n : Nat} {agg : Bool} {cs : List AV} {v : AV} (hx : x.ev σ = .fp cs) (hn : Nat.ble n cs.length = true) (hv : ofCells agg (cs.take n) = some v) (h : WO prog d id base (i + 1) r (upO σ t v) st K) : WO prog d id base i (⟨t, .load n agg x, none⟩ :: r) σ st K :=
  s_pure (fun K => by simp only [WOp, aexec, aload, hx, Nat.le_of_ble_eq_true hn, if_true, hv, Option.map_some, onO_some]) h
theorem s_fadF {off : Nat} {cs : List AV} (hx : x.ev σ = .fp cs) (h : WO prog d id base (i + 1) r (upO σ t (.fp (cs.drop off))) st K) : WO prog d id base i (⟨t, .fad off x, none⟩ :: r) σ st K :=
  s_pure (fun K => by simp only [WOp, aexec, apure, hx, Option.map_some, onO_some]) h
theorem s_nilF {cs : List AV} (hx : x.ev σ = .fp cs) (h : WO prog d id base (i + 1) r (upO σ t (.fp cs)) st K) : WO prog d id base i (⟨t, .nilc x, none⟩ :: r) σ st K :=
  s_pure (fun K => by simp only [WOp, aexec, apure, hx, Option.map_some, onO_some]) h
theorem s_mks {α : Type} {f : α → List AV} {a : α} {zero z : List AV} {bytes : Nat} {k k' : IntKind} {n m : Int} (hz : softs zero = some z) (hf : f a = z) (hz0 : Nat.blt 0 z.length = true) (hx : x.ev σ = .i k n) (hy : y.ev σ = .i k' m) (h0 : 0 ≤ n) (hm : n = m) (hs : Fit n.toNat bytes) (h : WO prog d id base (i + 1) r (upO σ t (.sl .full ((rep n.toNat a).map f))) st K) : WO prog d id base i (⟨t, .mks zero bytes x y, none⟩ :: r) σ st K :=
  s_pure (fun K => by
    subst hm
    have h1 : 0 < z.length := Nat.le_of_ble_eq_true hz0
    simp only [WOp, aexec, hx, hy, AV.nat, h0, if_true, hz]
    rw [if_pos ⟨trivial, hs.1, hs.2, h1⟩, onO_some, rep_eq, List.map_replicate, hf]) h

/-! pointers -/
theorem s_alloc {zero : List AV} (h : WO prog d id base (i + 1) r (upO σ t (.p (d, id * 4096 + i) (base + i) 0)) st K) : WO prog d id base i (⟨t, .alloc zero, none⟩ :: r) σ st K :=
  s_pure (fun _ => rfl) h
theorem s_fadP {off o v : Nat} {k : Key} (hx : x.ev σ = .p k v o) (h : WO prog d id base (i + 1) r (upO σ t (.p k v (o + off))) st K) : WO prog d id base i (⟨t, .fad off x, none⟩ :: r) σ st K :=
  s_pure (fun K => by simp only [WOp, aexec, apure, hx, Option.map_some, onO_some]) h
theorem s_nilP {o v : Nat} {k : Key} (hx : x.ev σ = .p k v o) (h : WO prog d id base (i + 1) r (upO σ t (.p k v o)) st K) : WO prog d id base i (⟨t, .nilc x, none⟩ :: r) σ st K :=
  s_pure (fun K => by simp only [WOp, aexec, apure, hx, Option.map_some, onO_some]) h
theorem s_loadP {n o v : Nat} {agg : Bool} {k : Key} {cs : List AV} {w : AV} (hx : x.ev σ = .p k v o) (hb : lk st.bx k = some (v, cs)) (hn : Nat.ble (o + n) cs.length = true) (hv : ofCells agg ((cs.drop o).take n) = some w) (h : WO prog d id base (i + 1) r (upO σ t w) st K) : WO prog d id base i (⟨t, .load n agg x, none⟩ :: r) σ st K :=
  s_pure (fun K => by simp only [WOp, aexec, aload, hx, hb, Nat.le_of_ble_eq_true hn, and_self, if_true, hv, Option.map_some, onO_some]) h
theorem s_storeP {n o v : Nat} {k : Key} {cs cs' : List AV} {w : AV} (hx : x.ev σ = .p k v o) (hb : lk st.bx k = some (v, cs)) (hy : y.ev σ = w) (hn : (Nat.ble (o + n) cs.length && Nat.beq w.cells.length n && w.cells.all AV.one) = true) (hs : setAt cs o w.cells = cs') (h : WO prog d id base (i + 1) r (upO σ t (.tup [])) { st with bx := st_ st.bx k (v, cs') } K) : WO prog d id base i (⟨t, .store n x y, none⟩ :: r) σ st K := by
  refine s_one ?_
  simp only [Bool.and_eq_true] at hn
  simp only [WOp, aexec, astore, hx, hb, hy]
  rw [if_pos ⟨trivial, Nat.le_of_ble_eq_true hn.1.1, Nat.eq_of_beq_eq_true hn.1.2, hn.2⟩, hs]
  simp only [Option.map_some, onO_some]
  exact h
theorem s_box {n : Nat} {v : AV} (hx : x.ev σ = v) (hn : (Nat.beq v.cells.length n && v.cells.all AV.one) = true) (h : WO prog d id base (i + 1) r (upO σ t (.p (d, id * 4096 + i) (base + i) 0)) { st with bx := st_ st.bx (d, id * 4096 + i) (base + i, v.cells) } K) : WO prog d id base i (⟨t, .box n x, none⟩ :: r) σ st K := by
  refine s_one ?_
  simp only [Bool.and_eq_true] at hn
  simp only [WOp, aexec, hx]
  rw [if_pos ⟨Nat.eq_of_beq_eq_true hn.1, hn.2⟩, onO_some]
  exact h
/-- An array in a box: one cell's address, by an index. -/
theorem s_iaP {n size o v : Nat} {k : Key} {k' : IntKind} {m : Int} (hx : x.ev σ = .p k v o) (hy : y.ev σ = .i k' m) (h0 : 0 ≤ m) (h1 : m.toNat < n) (h : WO prog d id base (i + 1) r (upO σ t (.p k v (o + m.toNat * size))) st K) : WO prog d id base i (⟨t, .iaA n size x y, none⟩ :: r) σ st K :=
  s_pure (fun K => by
    simp only [WOp, aexec, apure, hx, hy, AV.nat, h0, if_true, h1, Option.map_some, onO_some]) h

/-! appends -/
theorem s_app {α : Type} {f : α → List AV} {size bytes : Nat} {l m : List α} {o o2 : Own} (hf : ∀ a, (f a).length = size) (hsz : Nat.blt 0 size = true) (hx : x.ev σ = .sl o (l.map f)) (hy : y.ev σ = .sl o2 (m.map f)) (ha : App st.ow o l.length) (hs : Fit (l.length + m.length) bytes)
    (h : ∀ o' ow', App ow' o' (l ++ m).length → (∀ k, some k ≠ ownKey o → k ≠ (d, id * 4096 + i) → lk ow' k = lk st.ow k) → (ownKey o' = ownKey o ∨ ownKey o' = some (d, id * 4096 + i)) → WO prog d id base (i + 1) r (upO σ t (.sl o' ((l ++ m).map f))) ⟨st.nx, st.bx, ow'⟩ K) : WO prog d id base i (⟨t, .app size bytes x y, none⟩ :: r) σ st K := by
  refine s_one ?_
  have h1 : 0 < size := Nat.le_of_ble_eq_true hsz
  refine WOp_app_ok hx hy (by simpa using ha) (by simpa using hs.1) (by simpa using hs.2) h1 (by simp [hf]) (by simp [hf]) fun o' ow' h2 h3 h4 => ?_
  rw [← List.map_append] at h2 ⊢
  exact h o' ow' (by simpa using h2) h3 h4
theorem s_appS {l m : List UInt8} {o : Own} (hx : x.ev σ = .sl o (l.map row8)) (hy : y.ev σ = .s m) (ha : App st.ow o l.length) (hs : Fit (l.length + m.length) 1)
    (h : ∀ o' ow', App ow' o' (l ++ m).length → (∀ k, some k ≠ ownKey o → k ≠ (d, id * 4096 + i) → lk ow' k = lk st.ow k) → (ownKey o' = ownKey o ∨ ownKey o' = some (d, id * 4096 + i)) → WO prog d id base (i + 1) r (upO σ t (.sl o' ((l ++ m).map row8))) ⟨st.nx, st.bx, ow'⟩ K) : WO prog d id base i (⟨t, .appS x y, none⟩ :: r) σ st K := by
  refine s_one ?_
  refine WOp_appS_ok hx hy (by simpa using ha) (by simpa using hs.2) (by simp [row8]) fun o' ow' h2 h3 h4 => ?_
  rw [← List.map_append] at h2 ⊢
  exact h o' ow' (by simpa using h2) h3 h4

/-! calls -/
theorem sn : AV.strips (evs σ []) = some [] := rfl
theorem sc {v w : AV} {xs : List Opd} {ws : List AV} (hx : x.ev σ = v) (hw : v.strip = some w) (h : AV.strips (evs σ xs) = some ws) : AV.strips (evs σ (x :: xs)) = some (w :: ws) := by
  simp only [evs, AV.strips, hx, hw, h]
theorem s_call {f : Nat} {args : List Opd} {vs : List AV} {v : AV} (hs : AV.strips (evs σ args) = some vs) (hp : Pus prog f vs v) (h : WO prog d id base (i + 1) r (upO σ t v) st K) : WO prog d id base i (⟨t, .call false f args, none⟩ :: r) σ st K := by
  refine s_one ?_
  obtain ⟨r', h1, h2⟩ := hp
  rw [WOp_call, hs, onO_some, WC_eq h1, h2, onO_some]
  exact h
theorem sen : evs σ [] = [] := rfl
theorem sec {v : AV} {xs : List Opd} {vs : List AV} (hx : x.ev σ = v) (h : evs σ xs = vs) : evs σ (x :: xs) = v :: vs := by simp only [evs, hx, h]
theorem s_callA {f : Nat} {args : List Opd} {vs : List AV} {o : Own} {rows rows' : List (List AV)} (hs : evs σ args = .sl o rows :: vs) (hp : PuA prog f rows vs rows') (ha : App st.ow o rows.length)
    (h : ∀ o' st', App st'.ow o' rows'.length → WO prog d id base (i + 1) r (upO σ t (.sl o' rows')) st' K) : WO prog d id base i (⟨t, .call true f args, none⟩ :: r) σ st K := by
  refine s_one ?_
  obtain ⟨o', st', h1, h2⟩ := hp (d + 1) st o ha
  rw [WOp_callp, hs]
  exact ⟨_, _, h1, h o' st' h2⟩

/-! guards, picks -/
section
variable {dst : Option Nat} {op : AOp} {g : Nat} {w : Bool}
theorem s_gy (hg : σ g = .b w) (h : WO prog d id base i (⟨dst, op, none⟩ :: r) σ st K) : WO prog d id base i (⟨dst, op, some (g, w)⟩ :: r) σ st K := by
  show W1 prog d _ _ ⟨dst, op, some (g, w)⟩ σ st _
  rw [W1_some, hg]
  cases w <;> exact h
theorem s_gn {b : Bool} (hg : σ g = .b b) (hb : (b != w) = true) (h : WO prog d id base (i + 1) r (upO σ dst (.tup [])) st K) : WO prog d id base i (⟨dst, op, some (g, w)⟩ :: r) σ st K := by
  show W1 prog d _ _ ⟨dst, op, some (g, w)⟩ σ st _
  rw [← upO_eq] at h
  rw [W1_some, hg]
  cases w <;> cases b <;> first | exact absurd hb (by decide) | exact h
theorem s_gt (hg : σ g = .tup []) (h : WO prog d id base (i + 1) r (upO σ dst (.tup [])) st K) : WO prog d id base i (⟨dst, op, some (g, w)⟩ :: r) σ st K := by
  show W1 prog d _ _ ⟨dst, op, some (g, w)⟩ σ st _
  rw [← upO_eq] at h
  rw [W1_some, hg]
  exact h
end
/-- Where a slot's bit is not known: both ways. -/
theorem s_em {ops : List AI} {g : Nat} {p : Prop} [Decidable p] (hg : σ g = .b (decide p)) (h1 : p → WO prog d id base i ops (up σ g (.b true)) st K) (h2 : ¬p → WO prog d id base i ops (up σ g (.b false)) st K) : WO prog d id base i ops σ st K := by
  by_cases h : p
  · have := h1 h
    rwa [← up_eq, upd_self (by rw [hg, decide_eq_true h])] at this
  · have := h2 h
    rwa [← up_eq, upd_self (by rw [hg, decide_eq_false h])] at this
theorem s_emb {ops : List AI} {g : Nat} {b : Bool} (hg : σ g = .b b) (h1 : b = true → WO prog d id base i ops (up σ g (.b true)) st K) (h2 : b = false → WO prog d id base i ops (up σ g (.b false)) st K) : WO prog d id base i ops σ st K := by
  cases b with
  | true => have := h1 rfl; rwa [← up_eq, upd_self hg] at this
  | false => have := h2 rfl; rwa [← up_eq, upd_self hg] at this
theorem s_pickT {a b : Opd} {v : AV} (hx : x.ev σ = .b true) (ha : a.ev σ = v) (h : WO prog d id base (i + 1) r (upO σ t v) st K) : WO prog d id base i (⟨t, .pick x a b, none⟩ :: r) σ st K :=
  s_pure (fun K => by rw [WOp_pick, hx, onB_true, ha]; rfl) h
theorem s_pickF {a b : Opd} {v : AV} (hx : x.ev σ = .b false) (hb : b.ev σ = v) (h : WO prog d id base (i + 1) r (upO σ t v) st K) : WO prog d id base i (⟨t, .pick x a b, none⟩ :: r) σ st K :=
  s_pure (fun K => by rw [WOp_pick, hx, onB_false, hb]; rfl) h
end

/-! control -/
section
variable {prog : Prog} {d : Nat} {σ : Sl} {st : St} {Q : AE → Sl → St → Prop}
theorem c_split {c : Opd} {a b : AC} {p : Prop} [Decidable p] (hc : c.ev σ = .b (decide p)) (h1 : p → W prog d a σ st Q) (h2 : ¬p → W prog d b σ st Q) : W prog d (.cond c a b) σ st Q := W.split hc h1 h2
theorem c_bool {c : Opd} {a b : AC} {t : Bool} (hc : c.ev σ = .b t) (h1 : t = true → W prog d a σ st Q) (h2 : t = false → W prog d b σ st Q) : W prog d (.cond c a b) σ st Q := W.cnd hc h1 h2
theorem c_tt {c : Opd} {a b : AC} (hc : c.ev σ = .b true) (h1 : W prog d a σ st Q) : W prog d (.cond c a b) σ st Q := W.tt hc h1
theorem c_ff {c : Opd} {a b : AC} (hc : c.ev σ = .b false) (h1 : W prog d b σ st Q) : W prog d (.cond c a b) σ st Q := W.ff hc h1

/-- A function's end, whatever it returns. -/
def endW (d : Nat) (res : List ARes) (K : AV → St → Prop) : AE → Sl → St → Prop
  | .normal, σ, st | .ret, σ, st => ∃ r, ares σ st res = some r ∧ K r { st with bx := st.bx.filter fun x => x.1.1 < d }
  | _, _, _ => False

theorem Fn.of' {f : Nat} {F : AF} {args : List AV} {K : AV → St → Prop} (hf : prog.fn f = some F) (hn : args.length ≤ F.nt) (h : W prog d F.body (sl0 args) st (endW d F.res K)) : ∃ r st', Fn prog d f args st r st' ∧ K r st' := by
  obtain ⟨n, e, σ1, st1, h1, h2⟩ := h
  cases e with
  | normal =>
    obtain ⟨r, h3, h4⟩ := h2
    exact ⟨r, _, ⟨n + 1, by simp only [acall, hf, if_pos hn, h1, h3, Option.map_some]⟩, h4⟩
  | ret =>
    obtain ⟨r, h3, h4⟩ := h2
    exact ⟨r, _, ⟨n + 1, by simp only [acall, hf, if_pos hn, h1, h3, Option.map_some]⟩, h4⟩
  | exit id => exact h2.elim
  | goto l => exact h2.elim

theorem Pus.of {f : Nat} {F : AF} {args : List AV} {K : AV → Prop} (hf : prog.fn f = some F) (hn : Nat.ble args.length F.nt = true) (h : W prog 0 F.body (sl0 args) st0 (endW 0 F.res fun r _ => ∃ v, r.strip = some v ∧ K v)) : ∃ v, Pus prog f args v ∧ K v := by
  obtain ⟨r, st', h1, v, h2, h3⟩ := Fn.of' hf (Nat.le_of_ble_eq_true hn) h
  exact ⟨v, ⟨r, ⟨st', h1⟩, h2⟩, h3⟩

theorem Pus.orac {f : Nat} {args : List AV} {r v : AV} (hf : prog.fn f = none) (hr : prog.orac f args = some r) (hv : r.strip = some v) : Pus prog f args v :=
  ⟨r, ⟨st0, 1, by simp only [acall, hf, hr, Option.map_some]⟩, hv⟩
end

theorem abin_quo' {k : IntKind} {a b : Int} (h : b ≠ 0) : abin .quo (.i k a) (.i k b) = some (.i k (k.wrap (a.tdiv b))) := by rw [abin_quo, if_neg h]
theorem abin_rem' {k : IntKind} {a b : Int} (h : b ≠ 0) : abin .rem (.i k a) (.i k b) = some (.i k (a.tmod b)) := by simp [abin, aint, h]
theorem abin_shr' {k k' : IntKind} {a b : Int} (h : 0 ≤ b) : abin .shr (.i k a) (.i k' b) = some (.i k (a.fdiv (2 ^ (min b.toNat k.bits)))) := by rw [abin_shr, if_neg (by omega)]
theorem abin_shl' {k k' : IntKind} {a b : Int} (h : 0 ≤ b) : abin .shl (.i k a) (.i k' b) = some (.i k (k.wrap (a * 2 ^ (min b.toNat k.bits)))) := by rw [abin_shl, if_neg (by omega)]
theorem abin_or (k : IntKind) (a b : Int) : abin .or (.i k a) (.i k b) = some (.i k (k.wrap (BitVec.ofInt k.bits a ||| BitVec.ofInt k.bits b).toNat)) := by simp [abin, aint]
theorem abin_andNot (k : IntKind) (a b : Int) : abin .andNot (.i k a) (.i k b) = some (.i k (k.wrap (BitVec.ofInt k.bits a &&& ~~~(BitVec.ofInt k.bits b)).toNat)) := by simp [abin, aint]
theorem abin_cat' {x y : List UInt8} (h : x.length + y.length ≤ maxStr) : abin .add (.s x) (.s y) = some (.s (x ++ y)) := by rw [abin_cat, if_pos h]

/-! rows and cells of plain things -/
def rowS (x : List UInt8) : List AV := [.s x]
def rowI (k : IntKind) (x : Int) : List AV := [.i k x]
def rowB (x : Bool) : List AV := [.b x]
def c8 (x : UInt8) : AV := .i .u8 (x.toNat : Int)
theorem row8_len (x : UInt8) : (row8 x).length = 1 := rfl
theorem rowS_len (x : List UInt8) : (rowS x).length = 1 := rfl
theorem rowI_len (k : IntKind) (x : Int) : (rowI k x).length = 1 := rfl
theorem rowB_len (x : Bool) : (rowB x).length = 1 := rfl
/-- A byte's number is a byte's. -/
theorem u8_of {n : Int} (h0 : 0 ≤ n) (h1 : n < 256) : ∃ c : UInt8, n = (c.toNat : Int) := ⟨UInt8.ofNat n.toNat, by simp; omega⟩

theorem App.full {ow : List (Key × Nat × Nat)} {n : Nat} : App ow .full n := trivial
/-- Boxes. -/
theorem lk_here {α : Type} {l : List (Key × α)} {k : Key} {a : α} : lk (st_ l k a) k = some a := by rw [lk_st', if_pos rfl]
theorem lk_other {α : Type} {l : List (Key × α)} {d s s' : Nat} {a : α} {b : Option α} (h : Nat.beq s s' = false) (hb : lk l (d, s') = b) : lk (st_ l (d, s) a) (d, s') = b := by
  rw [lk_st', if_neg ?_, hb]
  intro e
  injection e with _ e
  rw [e, Nat.beq_refl] at h
  cases h
theorem map_one {α : Type} (f : α → List AV) (a : α) : [a].map f = [f a] := rfl
/-- Storing one cell of an array. -/
theorem setAt_map {α : Type} (f : α → AV) (l : List α) (n : Nat) (a : α) : setAt (l.map f) n [f a] = (l.set n a).map f := by
  simp only [setAt, List.map_set]
/-- An array's cells as bytes. -/
theorem softs_c8 : ∀ l : List UInt8, softs (l.map c8) = some (l.map c8)
  | [] => rfl
  | c :: l => by simp only [List.map_cons, softs, softs_c8 l, c8, AV.soft]
theorem chunk_c8 (l : List UInt8) : chunk 1 l.length (l.map c8) = l.map row8 := by
  unfold chunk
  apply List.ext_getElem
  · simp
  · intro j h1 h2
    simp at h1
    simp only [List.getElem_map, List.getElem_range, Nat.mul_one]
    rw [List.drop_eq_getElem_cons (by simpa using h1)]
    simp [c8, row8]
section
variable {prog : Prog} {d id base i : Nat} {σ : Sl} {st : St} {K : Sl → St → Prop} {r : List AI} {t : Option Nat} {x y : Opd}
/-- An array of bytes, cut from an index on. -/
theorem s_slA_lo {z : Opd} {l : List UInt8} {k : Key} {k' : IntKind} {n v : Nat} {m : Int} (hx : x.ev σ = .p k v 0) (hb : lk st.bx k = some (v, l.map c8)) (hn : l.length = n) (hn0 : Nat.blt 0 n = true) (hz : z.ev σ = .i k' m) (h0 : 0 ≤ m) (h1 : m.toNat ≤ n) (h : WO prog d id base (i + 1) r (upO σ t (.sl .ext ((l.drop m.toNat).map row8))) { st with bx := del st.bx k } K) : WO prog d id base i (⟨t, .slA n 1 x (some z) none, none⟩ :: r) σ st K := by
  refine s_one ?_
  have hbd : bnds σ n n (some z) none = some (m.toNat, n) := by
    simp only [bnds, hz, AV.nat, h0, if_true]
    rw [if_pos ⟨h1, Nat.le_refl _⟩]
  simp only [WOp, aexec, hx, hb]
  rw [if_pos ⟨trivial, trivial, by simp [hn], Nat.one_pos⟩]
  subst hn
  simp only [softs_c8, hbd, Option.map_some, onO_some, chunk_c8]
  rw [List.take_of_length_le (by simp), ← List.map_drop]
  exact h
/-- One cell of an array in a box is stored. -/
theorem s_storeA {α : Type} {f : α → AV} {l : List α} {a : α} {v o : Nat} {k : Key} (hf : ∀ a, (f a).cells = [f a] ∧ (f a).one = true) (hx : x.ev σ = .p k v o) (hb : lk st.bx k = some (v, l.map f)) (hy : y.ev σ = f a) (hn : o < l.length) (h : WO prog d id base (i + 1) r (upO σ t (.tup [])) { st with bx := st_ st.bx k (v, (l.set o a).map f) } K) : WO prog d id base i (⟨t, .store 1 x y, none⟩ :: r) σ st K := by
  refine s_one ?_
  simp only [WOp, aexec, astore, hx, hb, hy, (hf a).1]
  rw [if_pos ⟨trivial, by simp; omega, rfl, by simp [(hf a).2]⟩, setAt_map]
  simp only [Option.map_some, onO_some]
  exact h
end
theorem c8_one (a : UInt8) : (c8 a).cells = [c8 a] ∧ (c8 a).one = true := ⟨rfl, rfl⟩

/-! moves, by the kind of value -/
section
variable {prog : Prog} {d id base i : Nat} {σ : Sl} {st : St} {K : Sl → St → Prop} {r : List AI} {t : Option Nat} {x y : Opd}
theorem s_mvI {k : IntKind} {n : Int} (hx : x.ev σ = .i k n) (h : WO prog d id base (i + 1) r (upO σ t (.i k n)) st K) : WO prog d id base i (⟨t, .mv x, none⟩ :: r) σ st K := s_mv hx h
theorem s_mvB {b : Bool} (hx : x.ev σ = .b b) (h : WO prog d id base (i + 1) r (upO σ t (.b b)) st K) : WO prog d id base i (⟨t, .mv x, none⟩ :: r) σ st K := s_mv hx h
theorem s_mvS {l : List UInt8} (hx : x.ev σ = .s l) (h : WO prog d id base (i + 1) r (upO σ t (.s l)) st K) : WO prog d id base i (⟨t, .mv x, none⟩ :: r) σ st K := s_mv hx h
theorem s_mvL {α : Type} {f : α → List AV} {l : List α} {o : Own} (hx : x.ev σ = .sl o (l.map f)) (h : WO prog d id base (i + 1) r (upO σ t (.sl o (l.map f))) st K) : WO prog d id base i (⟨t, .mv x, none⟩ :: r) σ st K := s_mv hx h
theorem s_mvA {cs : List AV} (hx : x.ev σ = .ag cs) (h : WO prog d id base (i + 1) r (upO σ t (.ag cs)) st K) : WO prog d id base i (⟨t, .mv x, none⟩ :: r) σ st K := s_mv hx h
theorem s_mvT {cs : List AV} (hx : x.ev σ = .tup cs) (h : WO prog d id base (i + 1) r (upO σ t (.tup cs)) st K) : WO prog d id base i (⟨t, .mv x, none⟩ :: r) σ st K := s_mv hx h
theorem s_mvF {cs : List AV} (hx : x.ev σ = .fp cs) (h : WO prog d id base (i + 1) r (upO σ t (.fp cs)) st K) : WO prog d id base i (⟨t, .mv x, none⟩ :: r) σ st K := s_mv hx h
section
variable {a b : Opd}
theorem s_pickTB {v : Bool} (hx : x.ev σ = .b true) (ha : a.ev σ = .b v) (h : WO prog d id base (i + 1) r (upO σ t (.b v)) st K) : WO prog d id base i (⟨t, .pick x a b, none⟩ :: r) σ st K := s_pickT hx ha h
theorem s_pickFB {v : Bool} (hx : x.ev σ = .b false) (hb : b.ev σ = .b v) (h : WO prog d id base (i + 1) r (upO σ t (.b v)) st K) : WO prog d id base i (⟨t, .pick x a b, none⟩ :: r) σ st K := s_pickF hx hb h
end
theorem wr_byte (k : IntKind) (hk : (k != .i8) = true) (c : UInt8) : k.wrap (c.toNat : Int) = (c.toNat : Int) := by
  have := c.toNat_lt
  cases k with
  | i8 => exact absurd hk (by decide)
  | i16 => simp [IntKind.wrap, IntKind.bits, IntKind.signed]; omega
  | i32 => rw [IntKind.wrap_i32]; omega
  | i64 => rw [IntKind.wrap_i64]; omega
  | u8 => rw [IntKind.wrap_u8]; omega
  | u16 => rw [IntKind.wrap_u16]; omega
  | u32 => rw [IntKind.wrap_u32]; omega
  | u64 => rw [IntKind.wrap_u64]; omega
theorem s_cvB {k k' : IntKind} {c : UInt8} (hx : x.ev σ = .i k' (c.toNat : Int)) (hk : (k != .i8) = true) (h : WO prog d id base (i + 1) r (upO σ t (.i k (c.toNat : Int))) st K) : WO prog d id base i (⟨t, .cvi k x, none⟩ :: r) σ st K :=
  s_cvi hx (by rw [wr_byte k hk c]; exact h)
theorem g_u8 {n : Int} {c : UInt8} (hx : x.ev σ = .i .u8 n) (hc : n = (c.toNat : Int)) : x.ev σ = .i .u8 (c.toNat : Int) := by rw [hx, hc]
theorem s_bslM {α : Type} {f : α → List AV} {l : List α} {zero z : List AV} {n : Nat} {parts : List (Nat × Opd)} {rows : List (List AV)} (hz : softs zero = some z) (hn : (Nat.blt 0 z.length && Nat.ble (n * z.length) 65536) = true) (hp : fillRows z σ (List.replicate n z) parts = some rows) (hr : rows = l.map f) (h : WO prog d id base (i + 1) r (upO σ t (.sl .full (l.map f))) st K) : WO prog d id base i (⟨t, .bslice zero n parts, none⟩ :: r) σ st K :=
  s_bslice hz hn hp (by rw [hr]; exact h)
theorem s_buildM {α : Type} {f : α → AV} {l : List α} {zero : List AV} {parts : List (Nat × Nat × Opd)} {cs : List AV} (hp : fillCells σ zero parts = some cs) (hr : cs = l.map f) (h : WO prog d id base (i + 1) r (upO σ t (.ag (l.map f))) st K) : WO prog d id base i (⟨t, .build zero parts, none⟩ :: r) σ st K :=
  s_build hp (by rw [hr]; exact h)
end
def bAnd (k : IntKind) (a b : Int) : Int := k.wrap (BitVec.ofInt k.bits a &&& BitVec.ofInt k.bits b).toNat
def bOr (k : IntKind) (a b : Int) : Int := k.wrap (BitVec.ofInt k.bits a ||| BitVec.ofInt k.bits b).toNat
def bAndNot (k : IntKind) (a b : Int) : Int := k.wrap (BitVec.ofInt k.bits a &&& ~~~(BitVec.ofInt k.bits b)).toNat
def bShr (k : IntKind) (a : Int) (n : Nat) : Int := a.fdiv (2 ^ (min n k.bits))
def bShl (k : IntKind) (a : Int) (n : Nat) : Int := k.wrap (a * 2 ^ (min n k.bits))

/-- A function that appends to its first argument: what its walk gives. -/
def PuAK (prog : Prog) (f : Nat) (rows : List (List AV)) (args : List AV) (KK : List (List AV) → Prop) : Prop :=
  ∀ d st o, App st.ow o rows.length → ∃ o' st' rows', KK rows' ∧ Fn prog d f (.sl o rows :: args) st (.sl o' rows') st' ∧ App st'.ow o' rows'.length
def appK (KK : List (List AV) → Prop) (r : AV) (st' : St) : Prop := ∃ o' rows', r = .sl o' rows' ∧ App st'.ow o' rows'.length ∧ KK rows'
theorem PuAK.of {prog : Prog} {f : Nat} {F : AF} {rows : List (List AV)} {args : List AV} {KK : List (List AV) → Prop} (hf : prog.fn f = some F) (hn : Nat.ble (args.length + 1) F.nt = true) (h : ∀ d st o, App st.ow o rows.length → W prog d F.body (sl0 (.sl o rows :: args)) st (endW d F.res (appK KK))) : PuAK prog f rows args KK := by
  intro d st o ha
  obtain ⟨r, st', h1, o', rows', rfl, h2, h3⟩ := Fn.of' (args := .sl o rows :: args) hf (by simpa using Nat.le_of_ble_eq_true hn) (h d st o ha)
  exact ⟨o', st', rows', h3, h1, h2⟩
theorem PuAK.to {prog : Prog} {f : Nat} {rows rows' : List (List AV)} {args : List AV} (h : PuAK prog f rows args fun x => x = rows') : PuA prog f rows args rows' := by
  intro d st o ha
  obtain ⟨o', st', x, rfl, h1, h2⟩ := h d st o ha
  exact ⟨o', st', h1, h2⟩
section
variable {prog : Prog} {d id base i : Nat} {σ : Sl} {st : St} {K : Sl → St → Prop} {r : List AI} {t : Option Nat} {x y : Opd}
theorem s_iaP1 {n v : Nat} {k : Key} {k' : IntKind} {m : Int} (hx : x.ev σ = .p k v 0) (hy : y.ev σ = .i k' m) (h0 : 0 ≤ m) (h1 : m.toNat < n) (h : WO prog d id base (i + 1) r (upO σ t (.p k v m.toNat)) st K) : WO prog d id base i (⟨t, .iaA n 1 x y, none⟩ :: r) σ st K :=
  s_iaP hx hy h0 h1 (by rw [Nat.zero_add, Nat.mul_one]; exact h)
theorem s_loadAt {α : Type} {f : α → AV} {l : List α} {c : α} {o v : Nat} {k : Key} (hx : x.ev σ = .p k v o) (hb : lk st.bx k = some (v, l.map f)) (hc : l[o]? = some c) (h : WO prog d id base (i + 1) r (upO σ t (f c)) st K) : WO prog d id base i (⟨t, .load 1 false x, none⟩ :: r) σ st K :=
  s_pure (fun K => by
    have hl : o < l.length := by
      rcases Nat.lt_or_ge o l.length with h | h
      · exact h
      · rw [List.getElem?_eq_none h] at hc; cases hc
    have hd : ((l.map f).drop o).take 1 = [f c] := by
      rw [List.drop_eq_getElem_cons (by simpa using hl)]
      simp only [List.getElem_map, List.take_succ_cons, List.take_zero]
      rw [List.getElem?_eq_getElem hl] at hc
      injection hc with hc
      rw [hc]
    simp only [WOp, aexec, aload, hx, hb]
    rw [if_pos ⟨trivial, by simp; omega⟩, hd]
    simp only [ofCells, Bool.false_eq_true, if_false, Option.map_some, onO_some]) h
theorem lk_del_other {α : Type} {l : List (Key × α)} {d s s' : Nat} {b : Option α} (h : Nat.beq s s' = false) (hb : lk l (d, s') = b) : lk (del l (d, s)) (d, s') = b := by
  rw [lk_del', if_neg ?_, hb]
  intro e
  injection e with _ e
  rw [e, Nat.beq_refl] at h
  cases h
end
end Go.AM
