/- The abstract machine: operations with state, regions, code, calls. -/
import Derived.Test.YtdfkdendkdbnkaaAm0
set_option linter.all false
namespace Go.AM
open Go Go.RowKit

abbrev CallF := Nat → Nat → List AV → St → Option (AV × St)

mutual
def AV.strip : AV → Option AV
  | .sl _ rows => some (.sl .ext rows)
  | .ag cs => match AV.strips cs with | some l => some (.ag l) | none => none
  | .tup cs => match AV.strips cs with | some l => some (.tup l) | none => none
  | .p _ _ _ => none
  | .fn _ _ => none
  | v => some v
def AV.strips : List AV → Option (List AV)
  | [] => some []
  | v :: r => match AV.strip v, AV.strips r with | some w, some l => some (w :: l) | _, _ => none
end

def aload (st : St) (n : Nat) (agg : Bool) : AV → Option AV
  | .fp cs => if n ≤ cs.length then ofCells agg (cs.take n) else none
  | .p k v o => match lk st.bx k with
    | some (v', cs) => if v' = v ∧ o + n ≤ cs.length then ofCells agg ((cs.drop o).take n) else none
    | none => none
  | _ => none

def astore (st : St) (n : Nat) (a x : AV) : Option St :=
  match a with
  | .p k v o => match lk st.bx k with
    | some (v', cs) => if v' = v ∧ o + n ≤ cs.length ∧ x.cells.length = n ∧ x.cells.all AV.one then some { st with bx := st_ st.bx k (v, setAt cs o x.cells) } else none
    | none => none
  | _ => none

def del {α : Type} (l : List (Key × α)) (k : Key) : List (Key × α) := l.filter fun x => x.1 ≠ k

def maxBytes : Nat := 2 ^ 46

def aapp (key : Key) (ver size bytes : Nat) (s : AV) (news : List (List AV)) (st : St) : Option (AV × St) :=
  match s with
  | .sl o rows =>
    if (rows.length + news.length) * bytes ≤ maxBytes ∧ rows.length + news.length ≤ maxBytes ∧ 0 < size ∧ (rows.all (·.length == size)) = true ∧ (news.all (·.length == size)) = true then
      if news.isEmpty then some (.sl o rows, st)
      else match o with
        | .ext => none
        | .full => some (.sl (.id key ver) (rows ++ news), { st with ow := st_ st.ow key (ver, rows.length + news.length) })
        | .id k v => match lk st.ow k with
          | some (v', n) => if v' = v ∧ n = rows.length ∧ 0 < n then some (.sl (.id key ver) (rows ++ news), { st with ow := st_ (del st.ow k) key (ver, rows.length + news.length) }) else none
          | none => none
    else none
  | _ => none

/-- Cells as n rows. -/
def chunk (size n : Nat) (cs : List AV) : List (List AV) := (List.range n).map fun i => (cs.drop (i * size)).take size

def st0 : St := ⟨0, [], []⟩

def aexec (C : CallF) (d site ver : Nat) (σ : Sl) (st : St) : AOp → Option (AV × St)
  | .load n agg a => (aload st n agg (a.ev σ)).map (·, st)
  | .store n a x => (astore st n (a.ev σ) (x.ev σ)).map (.tup [], ·)
  | .box n x => if (x.ev σ).cells.length = n ∧ (x.ev σ).cells.all AV.one then some (.p (d, site) ver 0, { st with bx := st_ st.bx (d, site) (ver, (x.ev σ).cells) }) else none
  | .mks zero bytes l c => match (l.ev σ).nat, (c.ev σ).nat with
    | some n, some n' => match softs zero with
      | some z => if n = n' ∧ n * bytes ≤ maxBytes ∧ n ≤ maxBytes ∧ 0 < z.length then some (.sl .full (List.replicate n z), st) else none
      | none => none
    | _, _ => none
  | .slA n size x lo hi => match x.ev σ with
    | .p k v o => match lk st.bx k with
      | some (v', cs) => if v' = v ∧ o = 0 ∧ n * size = cs.length ∧ 0 < size then
          match softs cs with
          | some cs' => (bnds σ n n lo hi).map fun (x, y) => (.sl .ext (((chunk size n cs').drop x).take (y - x)), { st with bx := del st.bx k })
          | none => none
        else none
      | none => none
    | _ => none
  | .app size bytes s x => match x.ev σ with
    | .sl _ news => aapp (d, site) ver size bytes (s.ev σ) news st
    | _ => none
  | .appS s x => match x.ev σ with
    | .s l => aapp (d, site) ver 1 1 (s.ev σ) (l.map row8) st
    | _ => none
  | .call false f args => match AV.strips (args.map (·.ev σ)) with
    | some vs => match C 0 f vs st0 with
      | some (r, _) => (r.strip).map (·, st)
      | none => none
    | none => none
  | .call true f args => C (d + 1) f (args.map (·.ev σ)) st
  | .callv f args => match f.ev σ with
    | .fn g cap => C (d + 1) g (args.map (·.ev σ) ++ cap) st
    | _ => none
  | op => (apure (d, site) ver σ op).map (·, st)

/-- One operation, with its guard. -/
def aai (C : CallF) (d site ver : Nat) (o : AI) (σ : Sl) (st : St) : Option (Sl × St) :=
  match o.guard with
  | none => (aexec C d site ver σ st o.op).map fun (v, st') => (updO σ o.dst v, st')
  | some (t, w) => match σ t with
    | .b x => if x = w then (aexec C d site ver σ st o.op).map fun (v, st') => (updO σ o.dst v, st') else some (updO σ o.dst (.tup []), st)
    | .tup [] => some (updO σ o.dst (.tup []), st)
    | _ => none

def aregO (C : CallF) (d id base : Nat) (ops : List AI) : List Nat → Sl → St → Option (Sl × St)
  | [], σ, st => some (σ, st)
  | i :: r, σ, st => match ops[i]? with
    | none => aregO C d id base ops r σ st
    | some o => match aai C d (id * 4096 + i) (base + i) o σ st with
      | some (σ', st') => aregO C d id base ops r σ' st'
      | none => none

def aregL (C : CallF) (d id base : Nat) : Nat → List AI → Sl → St → Option (Sl × St)
  | _, [], σ, st => some (σ, st)
  | i, o :: r, σ, st => match aai C d (id * 4096 + i) (base + i) o σ st with
      | some (σ', st') => aregL C d id base (i + 1) r σ' st'
      | none => none

/-- The boxes that a region's operations make, laid ahead of it. -/
def pre (d id base : Nat) : Nat → List AI → List (Key × Nat × List AV) → List (Key × Nat × List AV)
  | _, [], bx => bx
  | i, o :: r, bx => match o.op with
    | .alloc zero => pre d id base (i + 1) r (st_ bx (d, id * 4096 + i) (base + i, zero))
    | _ => pre d id base (i + 1) r bx

def areg (C : CallF) (d id : Nat) (ops : List AI) (σ : Sl) (st : St) : Option (Sl × St) :=
  aregL C d id st.nx 0 ops σ { st with nx := st.nx + ops.length, bx := pre d id st.nx 0 ops st.bx }

inductive AE where
  | normal
  | exit (id : Nat)
  | ret
  | goto (l : Nat)

def iter (f : Sl → St → Option (AE × Sl × St)) : Nat → Sl → St → Option (AE × Sl × St)
  | 0, _, _ => none
  | n + 1, σ, st => match f σ st with
    | some (.normal, σ', st') => iter f n σ' st'
    | r => r

/-- From a label on, as often as the run jumps back to it. -/
def iterG (l : Nat) (f : Sl → St → Option (AE × Sl × St)) : Nat → Sl → St → Option (AE × Sl × St)
  | 0, _, _ => none
  | n + 1, σ, st => match f σ st with
    | some (.goto l', σ', st') => if l' = l then iterG l f n σ' st' else none
    | r => r

def acode (C : CallF) (n d : Nat) : AC → Sl → St → Option (AE × Sl × St)
  | .skip, σ, st => some (.normal, σ, st)
  | .reg id ops, σ, st => (areg C d id ops σ st).map fun (σ', st') => (.normal, σ', st')
  | .seq a b, σ, st => match acode C n d a σ st with
    | some (.normal, σ', st') => acode C n d b σ' st'
    | r => r
  | .cond c a b, σ, st => match c.ev σ with
    | .b true => acode C n d a σ st
    | .b false => acode C n d b σ st
    | _ => none
  | .block id c, σ, st => match acode C n d c σ st with
    | some (.exit id', σ', st') => if id' = id then some (.normal, σ', st') else some (.exit id', σ', st')
    | r => r
  | .loop c, σ, st => iter (acode C n d c) n σ st
  | .exit id, σ, st => some (.exit id, σ, st)
  | .ret, σ, st => some (.ret, σ, st)
  | .goto l, σ, st => some (.goto l, σ, st)
  | .gscope l a b, σ, st => match acode C n d a σ st with
    | some (.normal, σ', st') => iterG l (acode C n d b) n σ' st'
    | _ => none

inductive ARes where
  | tmp (t : Nat)
  | cell (t n : Nat) (agg : Bool)

structure AF where
  nt : Nat
  res : List ARes
  body : AC

def ares1 (σ : Sl) (st : St) : ARes → Option AV
  | .tmp t => some (σ t)
  | .cell t n agg => aload st n agg (σ t)

def aresL (σ : Sl) (st : St) : List ARes → Option (List AV)
  | [] => some []
  | r :: rs => match ares1 σ st r, aresL σ st rs with | some v, some l => some (v :: l) | _, _ => none

def ares (σ : Sl) (st : St) : List ARes → Option AV
  | [r] => ares1 σ st r
  | rs => (aresL σ st rs).map .tup

def sl0 (args : List AV) : Sl := fun t => args.getD t (.tup [])

structure Prog where
  fn : Nat → Option AF
  orac : Nat → List AV → Option AV

def acall (prog : Prog) : Nat → CallF
  | 0, _, _, _, _ => none
  | n + 1, d, f, args, st => match prog.fn f with
    | none => (prog.orac f args).map (·, st)
    | some F =>
      if args.length ≤ F.nt then
        match acode (acall prog n) n d F.body (sl0 args) st with
        | some (.normal, σ, st') | some (.ret, σ, st') => (ares σ st' F.res).map fun r => (r, { st' with bx := st'.bx.filter fun x => x.1.1 < d })
        | _ => none
      else none

end Go.AM
