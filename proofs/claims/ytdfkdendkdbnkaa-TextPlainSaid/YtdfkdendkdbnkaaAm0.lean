/- The abstract machine: values without memory, its operations, its code. Nothing of a program is named here. -/
import Derived.WalkKit
import Derived.RegionTactic
set_option linter.all false
namespace Go.AM
open Go Go.RowKit

abbrev Key := Nat × Nat

inductive Own where
  | ext
  | full
  | id (k : Key) (ver : Nat)

inductive AV where
  | i (k : IntKind) (n : Int)
  | b (x : Bool)
  | s (l : List UInt8)
  | sl (o : Own) (rows : List (List AV))
  | p (k : Key) (ver off : Nat)
  | fp (cells : List AV)
  | np
  | ag (cs : List AV)
  | tup (cs : List AV)
  | fn (f : Nat) (cap : List AV)
  | nf
  | ni
  | u

instance : Inhabited AV := ⟨.u⟩

inductive Opd where
  | t (n : Nat)
  | c (v : AV)

inductive AOp where
  | mv (x : Opd)
  | pick (c a b : Opd)
  | alloc (zero : List AV)
  | box (n : Nat) (x : Opd)
  | build (zero : List AV) (parts : List (Nat × Nat × Opd))
  | bslice (zero : List AV) (n : Nat) (parts : List (Nat × Opd))
  | load (n : Nat) (agg : Bool) (a : Opd)
  | store (n : Nat) (a x : Opd)
  | nilc (x : Opd)
  | bin (op : BinOp) (x y : Opd)
  | beq (neg : Bool) (x y : Opd)
  | un (op : UnOp) (x : Opd)
  | cvi (k : IntKind) (x : Opd)
  | b2s (x : Opd)
  | mkfn (f : Nat) (cap : List Opd)
  | mks (zero : List AV) (bytes : Nat) (l c : Opd)
  | slS (x : Opd) (lo hi : Option Opd)
  | slL (size : Nat) (x : Opd) (lo hi : Option Opd)
  | slA (n size : Nat) (x : Opd) (lo hi : Option Opd)
  | fad (off : Nat) (x : Opd)
  | fld (off n : Nat) (agg : Bool) (x : Opd)
  | iaL (size : Nat) (x i : Opd)
  | iaA (n size : Nat) (x i : Opd)
  | ixA (n size : Nat) (agg : Bool) (x i : Opd)
  | ixS (x i : Opd)
  | ext (k : Nat) (x : Opd)
  | call (ptr : Bool) (f : Nat) (args : List Opd)
  | callv (f : Opd) (args : List Opd)
  | len (str : Bool) (x : Opd)
  | app (size bytes : Nat) (s x : Opd)
  | appS (s x : Opd)
  | max (x y : Opd)

structure AI where
  dst : Option Nat
  op : AOp
  guard : Option (Nat × Bool)

inductive AC where
  | skip
  | reg (id : Nat) (ops : List AI)
  | seq (a b : AC)
  | cond (c : Opd) (a b : AC)
  | block (id : Nat) (c : AC)
  | loop (c : AC)
  | exit (id : Nat)
  | ret
  | goto (l : Nat)
  | gscope (l : Nat) (first rest : AC)

structure St where
  nx : Nat
  bx : List (Key × Nat × List AV)
  ow : List (Key × Nat × Nat)

abbrev Sl := Nat → AV

def upd (σ : Sl) (d : Nat) (v : AV) : Sl := fun t => if t = d then v else σ t
def updO (σ : Sl) (d : Option Nat) (v : AV) : Sl := match d with | some d => upd σ d v | none => σ

theorem upd_same (σ : Sl) (d : Nat) (v : AV) : upd σ d v d = v := by simp [upd]
theorem upd_ne (σ : Sl) (d t : Nat) (v : AV) (h : t ≠ d) : upd σ d v t = σ t := by simp [upd, h]

def Opd.ev (σ : Sl) : Opd → AV
  | .t n => σ n
  | .c v => v

def lk {α : Type} (l : List (Key × α)) (k : Key) : Option α :=
  match l with
  | [] => none
  | (k', a) :: r => if k' = k then some a else lk r k

def st_ {α : Type} (l : List (Key × α)) (k : Key) (a : α) : List (Key × α) :=
  match l with
  | [] => [(k, a)]
  | (k', b) :: r => if k' = k then (k, a) :: r else (k', b) :: st_ r k a

def rm {α : Type} (l : List (Key × α)) (d : Nat) : List (Key × α) := l.filter fun x => x.1.1 ≤ d

def AV.one : AV → Bool
  | .ag _ | .tup _ | .u => false
  | _ => true

def AV.cells : AV → List AV
  | .ag cs => cs
  | v => [v]

/-- What n cells are as a value. -/
def ofCells (agg : Bool) (cs : List AV) : Option AV :=
  if agg then some (.ag cs) else match cs with | [v] => some v | _ => none

def setAt (cs : List AV) (off : Nat) : List AV → List AV
  | [] => cs
  | v :: r => setAt (cs.set off v) (off + 1) r

def isCmp : BinOp → Bool
  | .eql | .neq | .lss | .leq | .gtr | .geq => true
  | _ => false

def aint (op : BinOp) (k : IntKind) (x y : Int) : Option AV :=
  match op with
  | .add => some (.i k (k.wrap (x + y)))
  | .sub => some (.i k (k.wrap (x - y)))
  | .mul => some (.i k (k.wrap (x * y)))
  | .quo => if y = 0 then none else some (.i k (k.wrap (x.tdiv y)))
  | .rem => if y = 0 then none else some (.i k (x.tmod y))
  | .and => some (.i k (k.wrap (BitVec.ofInt k.bits x &&& BitVec.ofInt k.bits y).toNat))
  | .or => some (.i k (k.wrap (BitVec.ofInt k.bits x ||| BitVec.ofInt k.bits y).toNat))
  | .xor => some (.i k (k.wrap (BitVec.ofInt k.bits x ^^^ BitVec.ofInt k.bits y).toNat))
  | .andNot => some (.i k (k.wrap (BitVec.ofInt k.bits x &&& ~~~(BitVec.ofInt k.bits y)).toNat))
  | .eql => some (.b (x == y))
  | .neq => some (.b (x != y))
  | .lss => some (.b (decide (x < y)))
  | .leq => some (.b (decide (x ≤ y)))
  | .gtr => some (.b (decide (x > y)))
  | .geq => some (.b (decide (x ≥ y)))
  | .shl | .shr => none

def ashift (op : BinOp) (k : IntKind) (x y : Int) : Option AV :=
  if y < 0 then none else
  match op with
  | .shl => some (.i k (k.wrap (x * 2 ^ (min y.toNat k.bits))))
  | .shr => some (.i k (x.fdiv (2 ^ (min y.toNat k.bits))))
  | _ => none

def maxStr : Nat := 2 ^ 40

def abin (op : BinOp) (x y : AV) : Option AV :=
  match x, y with
  | .i k a, .i k' b =>
    match op with
    | .shl | .shr => ashift op k a b
    | _ => if k = k' then aint op k a b else none
  | .s a, .s b =>
    match op with
    | .add => if a.length + b.length ≤ maxStr then some (.s (a ++ b)) else none
    | .eql => some (.b (a == b))
    | .neq => some (.b (!(a == b)))
    | _ => none
  | _, _ => none

def AV.nat : AV → Option Nat
  | .i _ n => if 0 ≤ n then some n.toNat else none
  | _ => none

/-- The bounds of a slice expression, given the length and the greatest upper bound. -/
def bnds (σ : Sl) (len cap : Nat) (lo hi : Option Opd) : Option (Nat × Nat) :=
  match (match hi with | none => some len | some h => (h.ev σ).nat) with
  | none => none
  | some h =>
    match (match lo with | none => some 0 | some l => (l.ev σ).nat) with
    | none => none
    | some l => if l ≤ h ∧ h ≤ cap then some (l, h) else none

def AV.soft : AV → Option AV
  | .sl _ rows => some (.sl .ext rows)
  | .i k n => some (.i k n)
  | .b x => some (.b x)
  | .s l => some (.s l)
  | .np => some .np
  | .nf => some .nf
  | .ni => some .ni
  | _ => none

def softs : List AV → Option (List AV)
  | [] => some []
  | v :: r => match v.soft, softs r with | some w, some l => some (w :: l) | _, _ => none

def fillRows (zero : List AV) (σ : Sl) (rows : List (List AV)) : List (Nat × Opd) → Option (List (List AV))
  | [] => some rows
  | (i, x) :: r =>
    match softs (x.ev σ).cells with
    | some cs => if i < rows.length ∧ cs.length = zero.length then fillRows zero σ (rows.set i cs) r else none
    | none => none

def fillCells (σ : Sl) (cells : List AV) : List (Nat × Nat × Opd) → Option (List AV)
  | [] => some cells
  | (off, n, x) :: r =>
    let cs := (x.ev σ).cells
    if cs.length = n ∧ off + n ≤ cells.length ∧ cs.all AV.one then fillCells σ (setAt cells off cs) r else none

def byteOf : List AV → Option UInt8
  | [.i .u8 n] => if 0 ≤ n ∧ n < 256 then some n.toNat.toUInt8 else none
  | _ => none

def bytesOf : List (List AV) → Option (List UInt8)
  | [] => some []
  | r :: rs => match byteOf r, bytesOf rs with | some c, some l => some (c :: l) | _, _ => none

def row8 (c : UInt8) : List AV := [.i .u8 c.toNat]

/-- Operations that look at nothing but their operands. -/
def apure (key : Key) (ver : Nat) (σ : Sl) : AOp → Option AV
  | .mv x => some (x.ev σ)
  | .pick c a b => match c.ev σ with | .b t => some (if t then a.ev σ else b.ev σ) | _ => none
  | .alloc _ => some (.p key ver 0)
  | .build zero parts => (fillCells σ zero parts).map .ag
  | .bslice zero n parts => match softs zero with
    | some z => if 0 < z.length ∧ n * z.length ≤ 65536 then (fillRows z σ (List.replicate n z) parts).map (.sl .full) else none
    | none => none
  | .nilc x => match x.ev σ with | .p k v o => some (.p k v o) | .fp cs => some (.fp cs) | _ => none
  | .bin op x y => abin op (x.ev σ) (y.ev σ)
  | .beq neg x y => match x.ev σ, y.ev σ with | .b x, .b y => some (.b (if neg then !(x == y) else x == y)) | _, _ => none
  | .un op x => match op, x.ev σ with | .not, .b t => some (.b (!t)) | .neg, .i k n => some (.i k (k.wrap (0 - n))) | _, _ => none
  | .cvi k x => match x.ev σ with | .i _ n => some (.i k (k.wrap n)) | _ => none
  | .b2s x => match x.ev σ with | .sl _ rows => (bytesOf rows).map .s | _ => none
  | .mkfn f cap => some (.fn f (cap.map (·.ev σ)))
  | .slS x lo hi => match x.ev σ with | .s l => (bnds σ l.length l.length lo hi).map fun (a, b) => .s ((l.drop a).take (b - a)) | _ => none
  | .slL size x lo hi => match x.ev σ with | .sl _ rows => if rows.all (·.length == size) then (bnds σ rows.length rows.length lo hi).map fun (a, b) => .sl .ext ((rows.drop a).take (b - a)) else none | _ => none
  | .fad off x => match x.ev σ with | .p k v o => some (.p k v (o + off)) | .fp cs => some (.fp (cs.drop off)) | _ => none
  | .fld off n agg x => match x.ev σ with | .ag cs => if off + n ≤ cs.length then ofCells agg ((cs.drop off).take n) else none | _ => none
  | .iaL size x i => match x.ev σ, (i.ev σ).nat with | .sl _ rows, some k => (match rows[k]? with | some row => if row.length = size ∧ 0 < size then some (.fp row) else none | none => none) | _, _ => none
  | .iaA n size x i => match x.ev σ, (i.ev σ).nat with | .p k v o, some j => if j < n then some (.p k v (o + j * size)) else none | _, _ => none
  | .ixA n size agg x i => match x.ev σ, (i.ev σ).nat with | .ag cs, some j => if j < n ∧ j * size + size ≤ cs.length then ofCells agg ((cs.drop (j * size)).take size) else none | _, _ => none
  | .ixS x i => match x.ev σ, (i.ev σ).nat with | .s l, some j => (l[j]?).map fun c => .i .u8 c.toNat | _, _ => none
  | .ext k x => match x.ev σ with | .tup vs => vs[k]? | _ => none
  | .len true x => match x.ev σ with | .s l => some (.i .i64 l.length) | _ => none
  | .len false x => match x.ev σ with | .sl _ rows => some (.i .i64 rows.length) | _ => none
  | .max x y => match x.ev σ, y.ev σ with | .i k a, .i k' b => if k = k' then some (.i k (if a < b then b else a)) else none | _, _ => none
  | _ => none

end Go.AM
