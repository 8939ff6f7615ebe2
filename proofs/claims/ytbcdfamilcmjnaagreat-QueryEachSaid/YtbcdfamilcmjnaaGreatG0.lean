/- Parts of the proof: Am0, Am1, Am2, Am3, Am4, Am5, Am6, Am7, Am8, Am9, Am10, Am11, Am12. -/
import Derived.WalkKit
import Derived.RegionTactic
import Derived.Great.BuildSlice
import Derived.Laws.StructEq
import Derived.LaidEqlPtr
import Derived.Lib.Builder
set_option linter.all false
/- Parts of the proof. -/
namespace Go.AM
open Go Go.RowKit
abbrev Key:=Nat × Nat
inductive Own where
 | ext
 | full
 | id (k:Key) (ver:Nat)
inductive AV where
 | i (k:IntKind) (n:Int)
 | b (x:Bool)
 | s (l:List UInt8)
 | sl (o:Own) (rows:List (List AV))
 | p (k:Key) (ver off:Nat)
 | fp (cells:List AV)
 | np
 | ag (cs:List AV)
 | tup (cs:List AV)
 | fn (f:Nat) (cap:List AV)
 | nf
 | ni
 | u
 | mp (l:List (List UInt8 × Int))
 | bf (f:Nat) (cs:List AV)
instance:Inhabited AV:=⟨.u⟩
inductive Opd where
 | t (n:Nat)
 | c (v:AV)
inductive AOp where
 | mv (x:Opd)
 | pick (c a b:Opd)
 | alloc (zero:List AV)
 | box (n:Nat) (x:Opd)
 | boxf (n:Nat) (x:Opd)
 | build (zero:List AV) (parts:List (Nat × Nat × Opd))
 | bslice (zero:List AV) (n:Nat) (parts:List (Nat × Opd))
 | load (n:Nat) (agg:Bool) (a:Opd)
 | ldf (n:Nat) (agg:Bool) (a:Opd)
 | store (n:Nat) (a x:Opd)
 | nilc (x:Opd)
 | bin (op:BinOp) (x y:Opd)
 | beq (neg:Bool) (x y:Opd)
 | un (op:UnOp) (x:Opd)
 | cvi (k:IntKind) (x:Opd)
 | b2s (x:Opd)
 | mkfn (f:Nat) (cap:List Opd)
 | mkbf (f:Nat) (cs:List Opd)
 | mkfz (f:Nat) (pre:List Opd) (x:Opd) (post:List Opd)
 | mks (zero:List AV) (bytes:Nat) (l c:Opd)
 | slS (x:Opd) (lo hi:Option Opd)
 | slL (size:Nat) (x:Opd) (lo hi:Option Opd)
 | slA (n size:Nat) (x:Opd) (lo hi:Option Opd)
 | fad (off:Nat) (x:Opd)
 | fld (off n:Nat) (agg:Bool) (x:Opd)
 | iaL (size:Nat) (x i:Opd)
 | iaA (n size:Nat) (x i:Opd)
 | ixA (n size:Nat) (agg:Bool) (x i:Opd)
 | ixS (x i:Opd)
 | ext (k:Nat) (x:Opd)
 | call (ptr:Bool) (f:Nat) (args:List Opd)
 | callv (f:Opd) (args:List Opd)
 | len (str:Bool) (x:Opd)
 | app (size bytes:Nat) (s x:Opd)
 | appS (s x:Opd)
 | max (x y:Opd)
 | peq (neg:Bool) (x y:Opd)
 | cvp (n:Nat) (x:Opd)
 | aeq (neg:Bool) (ks:List Nat) (x y:Opd)
 | lkp (x i:Opd)
 | bad
structure AI where
 dst:Option Nat
 op:AOp
 guard:Option (Nat × Bool)
structure St where
 nx:Nat
 bx:List (Key × Nat × List AV)
 ow:List (Key × Nat × Nat)
abbrev Sl:=Nat→AV
inductive AE where
 | normal
 | exit (id:Nat)
 | ret
 | goto (l:Nat)
inductive AC where
 | hand (f:Sl→St→Option (AE × Sl × St))
 | skip
 | reg (id:Nat) (ops:List AI)
 | seq (a b:AC)
 | cond (c:Opd) (a b:AC)
 | block (id:Nat) (c:AC)
 | loop (c:AC)
 | exit (id:Nat)
 | ret
 | goto (l:Nat)
 | gscope (l:Nat) (first rest:AC)
def upd (σ:Sl) (d:Nat) (v:AV):Sl:=fun t=>if t=d then v else σ t
def updO (σ:Sl) (d:Option Nat) (v:AV):Sl:=match d with | some d=>upd σ d v | none=>σ
def Opd.ev (σ:Sl):Opd→AV
 | .t n=>σ n
 | .c v=>v
def lk {α:Type} (l:List (Key × α)) (k:Key):Option α:=
 match l with
 | []=>none
 | (k',a)::r=>if k'=k then some a else lk r k
def st_ {α:Type} (l:List (Key × α)) (k:Key) (a:α):List (Key × α):=
 match l with
 | []=>[(k,a)]
 | (k',b)::r=>if k'=k then (k,a)::r else (k',b)::st_ r k a
def AV.one:AV→Bool
 | .ag _ | .tup _ | .u=>false
 | _=>true
def AV.cells:AV→List AV
 | .ag cs=>cs
 | v=>[v]
def ofCells (agg:Bool) (cs:List AV):Option AV:=
 if agg then some (.ag cs) else match cs with | [v]=>some v | _=>none
def setAt (cs:List AV) (off:Nat):List AV→List AV
 | []=>cs
 | v::r=>setAt (cs.set off v) (off+1) r
def aint (op:BinOp) (k:IntKind) (x y:Int):Option AV:=
 match op with
 | .add=>some (.i k (k.wrap (x+y)))
 | .sub=>some (.i k (k.wrap (x-y)))
 | .mul=>some (.i k (k.wrap (x*y)))
 | .quo=>if y=0 then none else some (.i k (k.wrap (x.tdiv y)))
 | .rem=>if y=0 then none else some (.i k (x.tmod y))
 | .and=>some (.i k (k.wrap (BitVec.ofInt k.bits x &&& BitVec.ofInt k.bits y).toNat))
 | .or=>some (.i k (k.wrap (BitVec.ofInt k.bits x ||| BitVec.ofInt k.bits y).toNat))
 | .xor=>some (.i k (k.wrap (BitVec.ofInt k.bits x ^^^ BitVec.ofInt k.bits y).toNat))
 | .andNot=>some (.i k (k.wrap (BitVec.ofInt k.bits x &&& ~~~(BitVec.ofInt k.bits y)).toNat))
 | .eql=>some (.b (x==y))
 | .neq=>some (.b (x != y))
 | .lss=>some (.b (decide (x<y)))
 | .leq=>some (.b (decide (x≤y)))
 | .gtr=>some (.b (decide (x>y)))
 | .geq=>some (.b (decide (x≥y)))
 | .shl | .shr=>none
def ashift (op:BinOp) (k:IntKind) (x y:Int):Option AV:=
 if y<0 then none else
 match op with
 | .shl=>some (.i k (k.wrap (x*2 ^ (min y.toNat k.bits))))
 | .shr=>some (.i k (x.fdiv (2 ^ (min y.toNat k.bits))))
 | _=>none
def maxStr:Nat:=2 ^ 40
def abin (op:BinOp) (x y:AV):Option AV:=
 match x,y with
 | .i k a,.i k' b=>
  match op with
  | .shl | .shr=>ashift op k a b
  | _=>if k=k' then aint op k a b else none
 | .s a,.s b=>
  match op with
  | .add=>if a.length+b.length≤maxStr then some (.s (a++b)) else none
  | .eql=>some (.b (a==b))
  | .neq=>some (.b (!(a==b)))
  | _=>none
 | _,_=>none
def AV.nat:AV→Option Nat
 | .i _ n=>if 0≤n then some n.toNat else none
 | _=>none
def bnds (σ:Sl) (len cap:Nat) (lo hi:Option Opd):Option (Nat × Nat):=
 match (match hi with | none=>some len | some h=>(h.ev σ).nat) with
 | none=>none
 | some h=>
  match (match lo with | none=>some 0 | some l=>(l.ev σ).nat) with
  | none=>none
  | some l=>if l≤h∧h≤cap then some (l,h) else none
def AV.soft:AV→Option AV
 | .sl _ rows=>some (.sl .ext rows)
 | .i k n=>some (.i k n)
 | .b x=>some (.b x)
 | .s l=>some (.s l)
 | .np=>some .np
 | .nf=>some .nf
 | .ni=>some .ni
 | _=>none
def softs:List AV→Option (List AV)
 | []=>some []
 | v::r=>match v.soft,softs r with | some w,some l=>some (w::l) | _,_=>none
def fillRows (zero:List AV) (σ:Sl) (rows:List (List AV)):List (Nat × Opd)→Option (List (List AV))
 | []=>some rows
 | (i,x)::r=>
  match softs (x.ev σ).cells with
  | some cs=>if i<rows.length∧cs.length=zero.length then fillRows zero σ (rows.set i cs) r else none
  | none=>none
def fillCells (σ:Sl) (cells:List AV):List (Nat × Nat × Opd)→Option (List AV)
 | []=>some cells
 | (off,n,x)::r=>
  let cs:=(x.ev σ).cells
  if cs.length=n∧off+n≤cells.length∧cs.all AV.one then fillCells σ (setAt cells off cs) r else none
def byteOf:List AV→Option UInt8
 | [.i .u8 n]=>if 0≤n∧n<256 then some n.toNat.toUInt8 else none
 | _=>none
def bytesOf:List (List AV)→Option (List UInt8)
 | []=>some []
 | r::rs=>match byteOf r,bytesOf rs with | some c,some l=>some (c::l) | _,_=>none
def row8 (c:UInt8):List AV:=[.i .u8 c.toNat]
def bigSite:Nat:=4096000000
def midSite:Nat:=2048000000
def apeq (neg:Bool) (x y:AV):Option AV:=
 match x,y with
 | .np,.np=>some (.b (!neg))
 | .p _ _ _,.np=>some (.b neg)
 | .p k v o,.p k' v' o'=>if k=k'∧v=v'∧o=o' then some (.b (!neg)) else none
 | _,_=>none
def cellEq:Nat→AV→AV→Option Bool
 | 0,.i k a,.i k' b=>if k=k' then some (a==b) else none
 | 1,.b a,.b b=>some (a==b)
 | 2,.s a,.s b=>some (a==b)
 | _,_,_=>none
def cellsEq:List Nat→List AV→List AV→Option Bool
 | [],[],[]=>some true
 | c::q,a::r,b::t=>match cellEq c a b,cellsEq q r t with | some x,some y=>some (x&&y) | _,_=>none
 | _,_,_=>none
def mpAt (l:List (List UInt8 × Int)) (s:List UInt8):Int:=match l.find? (fun x=>x.1==s) with | some x=>x.2 | none=>0
def apure (key:Key) (ver:Nat) (σ:Sl):AOp→Option AV
 | .mv x=>some (x.ev σ)
 | .pick c a b=>match c.ev σ with | .b t=>some (if t then a.ev σ else b.ev σ) | _=>none
 | .alloc _=>some (.p key ver 0)
 | .build zero parts=>(fillCells σ zero parts).map .ag
 | .bslice zero n parts=>match softs zero with
  | some z=>if 0<z.length∧n*z.length≤65536 then (fillRows z σ (List.replicate n z) parts).map (.sl .full) else none
  | none=>none
 | .boxf n x=>if (x.ev σ).cells.length=n then (softs (x.ev σ).cells).map .fp else none
 | .nilc x=>match x.ev σ with | .p k v o=>some (.p k v o) | .fp cs=>some (.fp cs) | _=>none
 | .bin op x y=>abin op (x.ev σ) (y.ev σ)
 | .beq neg x y=>match x.ev σ,y.ev σ with | .b x,.b y=>some (.b (if neg then !(x==y) else x==y)) | _,_=>none
 | .un op x=>match op,x.ev σ with | .not,.b t=>some (.b (!t)) | .neg,.i k n=>some (.i k (k.wrap (0-n))) | _,_=>none
 | .cvi k x=>match x.ev σ with | .i _ n=>some (.i k (k.wrap n)) | _=>none
 | .b2s x=>match x.ev σ with | .sl _ rows=>(bytesOf rows).map .s | _=>none
 | .mkfn f cap=>some (.fn f (cap.map (·.ev σ)))
 | .mkbf f cs=>some (.bf f (cs.map (·.ev σ)))
 | .slS x lo hi=>match x.ev σ with | .s l=>(bnds σ l.length l.length lo hi).map fun (a,b)=>.s ((l.drop a).take (b-a)) | _=>none
 | .slL size x lo hi=>match x.ev σ with | .sl _ rows=>if rows.all (·.length==size) then (bnds σ rows.length rows.length lo hi).map fun (a,b)=>.sl .ext ((rows.drop a).take (b-a)) else none | _=>none
 | .fad off x=>match x.ev σ with | .p k v o=>some (.p k v (o+off)) | .fp cs=>some (.fp (cs.drop off)) | _=>none
 | .fld off n agg x=>match x.ev σ with | .ag cs=>if off+n≤cs.length then ofCells agg ((cs.drop off).take n) else none | _=>none
 | .iaL size x i=>match x.ev σ,(i.ev σ).nat with | .sl _ rows,some k=>(match rows[k]? with | some row=>if row.length=size∧0<size then some (.fp row) else none | none=>none) | _,_=>none
 | .iaA n size x i=>match x.ev σ,(i.ev σ).nat with | .p k v o,some j=>if j<n then some (.p k v (o+j*size)) else none | _,_=>none
 | .ixA n size agg x i=>match x.ev σ,(i.ev σ).nat with | .ag cs,some j=>if j<n∧j*size+size≤cs.length then ofCells agg ((cs.drop (j*size)).take size) else none | _,_=>none
 | .ixS x i=>match x.ev σ,(i.ev σ).nat with | .s l,some j=>(l[j]?).map fun c=>.i .u8 c.toNat | _,_=>none
 | .ext k x=>match x.ev σ with | .tup vs=>vs[k]? | _=>none
 | .len true x=>match x.ev σ with | .s l=>some (.i .i64 l.length) | _=>none
 | .len false x=>match x.ev σ with | .sl _ rows=>some (.i .i64 rows.length) | _=>none
 | .max x y=>match x.ev σ,y.ev σ with | .i k a,.i k' b=>if k=k' then some (.i k (if a<b then b else a)) else none | _,_=>none
 | .peq neg x y=>apeq neg (x.ev σ) (y.ev σ)
 | .aeq neg ks x y=>match x.ev σ,y.ev σ with | .ag cs,.ag ds=>(cellsEq ks cs ds).map fun b=>.b (if neg then !b else b) | _,_=>none
 | .lkp x i=>match x.ev σ,i.ev σ with | .mp l,.s s=>some (.i .u8 (mpAt l s)) | _,_=>none
 | .bad=>none
 | .ldf n agg x=>match x.ev σ with | .fp cs=>if n≤cs.length then ofCells agg (cs.take n) else none | _=>none
 | _=>none
abbrev BS:=List UInt8
abbrev LB:=List BS
end Go.AM

/- Parts of the proof. -/
namespace Go.AM
open Go Go.RowKit
abbrev CallF:=Nat→Nat→List AV→St→Option (AV × St)
mutual
def AV.strip:AV→Option AV
 | .sl _ rows=>some (.sl .ext rows)
 | .ag cs=>match AV.strips cs with | some l=>some (.ag l) | none=>none
 | .tup cs=>match AV.strips cs with | some l=>some (.tup l) | none=>none
 | .p _ _ _=>none
 | .fn _ _=>none
 | .bf _ _=>none
 | v=>some v
def AV.strips:List AV→Option (List AV)
 | []=>some []
 | v::r=>match AV.strip v,AV.strips r with | some w,some l=>some (w::l) | _,_=>none
end
def aload (st:St) (n:Nat) (agg:Bool):AV→Option AV
 | .fp cs=>if n≤cs.length then ofCells agg (cs.take n) else none
 | .p k v o=>match lk st.bx k with
  | some (v',cs)=>if v'=v∧o+n≤cs.length then ofCells agg ((cs.drop o).take n) else none
  | none=>none
 | _=>none
def AV.isF0:AV→Bool
 | .sl .full []=>true
 | _=>false
def okSt (k:Key) (x:AV):Bool:=Nat.blt k.2 bigSite||!(x.cells.any AV.isF0)
theorem okSt_r {k:Key} {x:AV} (h:x.cells.any AV.isF0=false):okSt k x=true:=by unfold okSt;rw [h];simp
def astore (st:St) (n:Nat) (a x:AV):Option St:=
 match a with
 | .p k v o=>match lk st.bx k with
  | some (v',cs)=>if v'=v∧o+n≤cs.length∧x.cells.length=n∧x.cells.all AV.one∧okSt k x then some { st with bx:=st_ st.bx k (v,setAt cs o x.cells) } else none
  | none=>none
 | _=>none
def del {α:Type} (l:List (Key × α)) (k:Key):List (Key × α):=l.filter fun x=>x.1≠k
def maxBytes:Nat:=2 ^ 46
def aapp (key:Key) (ver size bytes:Nat) (s:AV) (news:List (List AV)) (st:St):Option (AV × St):=
 match s with
 | .sl o rows=>
  if (rows.length+news.length)*bytes≤maxBytes∧rows.length+news.length≤maxBytes∧0<size∧(rows.all (·.length==size))=true∧(news.all (·.length==size))=true then
   if news.isEmpty then some (.sl o rows,st)
   else match o with
    | .ext=>none
    | .full=>some (.sl (.id key ver) (rows++news),{ st with ow:=st_ st.ow key (ver,rows.length+news.length) })
    | .id k v=>match lk st.ow k with
     | some (v',n)=>if v'=v∧n=rows.length∧0<n∧(key.2<bigSite∨bigSite≤k.2) then some (.sl (.id key ver) (rows++news),{ st with ow:=st_ (del st.ow k) key (ver,rows.length+news.length) }) else none
     | none=>none
  else none
 | _=>none
def acvp (st:St) (n:Nat):AV→Option AV
 | .p k v 0=>match lk st.bx k with
  | some (v',cs)=>if v'=v∧bigSite≤k.2∧cs.length=n then some (.p k v 0) else none
  | none=>none
 | _=>none
def chunk (size n:Nat) (cs:List AV):List (List AV):=(List.range n).map fun i=>(cs.drop (i*size)).take size
def st0:St:=⟨0,[],[]⟩
def aexec (C:CallF) (d site ver:Nat) (σ:Sl) (st:St):AOp→Option (AV × St)
 | .load n agg a=>(aload st n agg (a.ev σ)).map (·,st)
 | .store n a x=>(astore st n (a.ev σ) (x.ev σ)).map (.tup [],·)
 | .box n x=>if (x.ev σ).cells.length=n∧(x.ev σ).cells.all AV.one then some (.p (d,site) ver 0,{ st with bx:=st_ st.bx (d,site) (ver,(x.ev σ).cells) }) else none
 | .mks zero bytes l c=>match (l.ev σ).nat,(c.ev σ).nat with
  | some n,some n'=>match softs zero with
   | some z=>if n=n'∧n*bytes≤maxBytes∧n≤maxBytes∧0<z.length then some (.sl .full (List.replicate n z),st) else none
   | none=>none
  | _,_=>none
 | .mkfz f pre x post=>match x.ev σ with
  | .p k v 0=>match lk st.bx k with
   | some (v',cs)=>if v'=v then (match softs cs with
    | some cs'=>some (.fn f (pre.map (·.ev σ)++.fp cs'::post.map (·.ev σ)),{ st with bx:=del st.bx k })
    | none=>none) else none
   | none=>none
  | _=>none
 | .slA n size x lo hi=>match x.ev σ with
  | .p k v o=>match lk st.bx k with
   | some (v',cs)=>if v'=v∧o=0∧n*size=cs.length∧0<size then
     match softs cs with
     | some cs'=>(bnds σ n n lo hi).map fun (x,y)=>(.sl .ext (((chunk size n cs').drop x).take (y-x)),{ st with bx:=del st.bx k })
     | none=>none
    else none
   | none=>none
  | _=>none
 | .app size bytes s x=>match x.ev σ with
  | .sl _ news=>aapp (d,site) ver size bytes (s.ev σ) news st
  | _=>none
 | .appS s x=>match x.ev σ with
  | .s l=>aapp (d,site) ver 1 1 (s.ev σ) (l.map row8) st
  | _=>none
 | .call false f args=>match AV.strips (args.map (·.ev σ)) with
  | some vs=>match C 0 f vs st0 with
   | some (r,_)=>(r.strip).map (·,st)
   | none=>none
  | none=>none
 | .call true f args=>C (d+1) f (args.map (·.ev σ)) st
 | .callv f args=>match f.ev σ with
  | .fn g cap=>C (d+1) g (args.map (·.ev σ)++cap) st
  | .bf g cs=>C (d+1) g (cs++args.map (·.ev σ)) st
  | _=>none
 | .cvp n x=>(acvp st n (x.ev σ)).map (·,st)
 | op=>(apure (d,site) ver σ op).map (·,st)
def aai (C:CallF) (d site ver:Nat) (o:AI) (σ:Sl) (st:St):Option (Sl × St):=
 match o.guard with
 | none=>(aexec C d site ver σ st o.op).map fun (v,st')=>(updO σ o.dst v,st')
 | some (t,w)=>match σ t with
  | .b x=>if x=w then (aexec C d site ver σ st o.op).map fun (v,st')=>(updO σ o.dst v,st') else some (updO σ o.dst (.tup []),st)
  | .tup []=>some (updO σ o.dst (.tup []),st)
  | _=>none
def aregO (C:CallF) (d id base:Nat) (ops:List AI):List Nat→Sl→St→Option (Sl × St)
 | [],σ,st=>some (σ,st)
 | i::r,σ,st=>match ops[i]? with
  | none=>aregO C d id base ops r σ st
  | some o=>match aai C d (id*4096+i) (base+i) o σ st with
   | some (σ',st')=>aregO C d id base ops r σ' st'
   | none=>none
def aregL (C:CallF) (d id base:Nat):Nat→List AI→Sl→St→Option (Sl × St)
 | _,[],σ,st=>some (σ,st)
 | i,o::r,σ,st=>match aai C d (id*4096+i) (base+i) o σ st with
   | some (σ',st')=>aregL C d id base (i+1) r σ' st'
   | none=>none
def pre (d id base:Nat):Nat→List AI→List (Key × Nat × List AV)→List (Key × Nat × List AV)
 | _,[],bx=>bx
 | i,o::r,bx=>match o.op with
  | .alloc zero=>pre d id base (i+1) r (st_ bx (d,id*4096+i) (base+i,zero))
  | _=>pre d id base (i+1) r bx
def areg (C:CallF) (d id:Nat) (ops:List AI) (σ:Sl) (st:St):Option (Sl × St):=
 aregL C d id st.nx 0 ops σ { st with nx:=st.nx+ops.length,bx:=pre d id st.nx 0 ops st.bx }
def iter (f:Sl→St→Option (AE × Sl × St)):Nat→Sl→St→Option (AE × Sl × St)
 | 0,_,_=>none
 | n+1,σ,st=>match f σ st with
  | some (.normal,σ',st')=>iter f n σ' st'
  | r=>r
def iterG (l:Nat) (f:Sl→St→Option (AE × Sl × St)):Nat→Sl→St→Option (AE × Sl × St)
 | 0,_,_=>none
 | n+1,σ,st=>match f σ st with
  | some (.goto l',σ',st')=>if l'=l then iterG l f n σ' st' else none
  | r=>r
def acode (C:CallF) (n d:Nat):AC→Sl→St→Option (AE × Sl × St)
 | .hand f,σ,st=>f σ st
 | .skip,σ,st=>some (.normal,σ,st)
 | .reg id ops,σ,st=>(areg C d id ops σ st).map fun (σ',st')=>(.normal,σ',st')
 | .seq a b,σ,st=>match acode C n d a σ st with
  | some (.normal,σ',st')=>acode C n d b σ' st'
  | r=>r
 | .cond c a b,σ,st=>match c.ev σ with
  | .b true=>acode C n d a σ st
  | .b false=>acode C n d b σ st
  | _=>none
 | .block id c,σ,st=>match acode C n d c σ st with
  | some (.exit id',σ',st')=>if id'=id then some (.normal,σ',st') else some (.exit id',σ',st')
  | r=>r
 | .loop c,σ,st=>iter (acode C n d c) n σ st
 | .exit id,σ,st=>some (.exit id,σ,st)
 | .ret,σ,st=>some (.ret,σ,st)
 | .goto l,σ,st=>some (.goto l,σ,st)
 | .gscope l a b,σ,st=>match acode C n d a σ st with
  | some (.normal,σ',st')=>iterG l (acode C n d b) n σ' st'
  | _=>none
inductive ARes where
 | tmp (t:Nat)
 | cell (t n:Nat) (agg:Bool)
structure AF where
 nt:Nat
 res:List ARes
 body:AC
 /-- the slots of boxes that are never stored to: they are told for good -/
 fz:List Nat:=[]
def ares1 (σ:Sl) (st:St):ARes→Option AV
 | .tmp t=>some (σ t)
 | .cell t n agg=>aload st n agg (σ t)
def aresL (σ:Sl) (st:St):List ARes→Option (List AV)
 | []=>some []
 | r::rs=>match ares1 σ st r,aresL σ st rs with | some v,some l=>some (v::l) | _,_=>none
def ares (σ:Sl) (st:St):List ARes→Option AV
 | [r]=>ares1 σ st r
 | rs=>(aresL σ st rs).map .tup
def sl0 (args:List AV):Sl:=fun t=>args.getD t (.tup [])
structure Prog where
 fn:Nat→Option AF
 orac:Nat→List AV→Option AV
 oracS:Nat→List AV→St→Option (AV × St):=fun _ _ _=>none
def acall (prog:Prog):Nat→CallF
 | 0,_,_,_,_=>none
 | n+1,d,f,args,st=>match prog.fn f with
  | none=>match prog.orac f args with | some r=>some (r,st) | none=>prog.oracS f args st
  | some F=>
   if args.length≤F.nt then
    match acode (acall prog n) n d F.body (sl0 args) st with
    | some (.normal,σ,st') | some (.ret,σ,st')=>(ares σ st' F.res).map fun r=>(r,{ st' with bx:=st'.bx.filter fun x=>x.1.1<d })
    | _=>none
   else none
end Go.AM

/- Parts of the proof. -/
namespace Go.AM
open Go Go.RowKit
abbrev Hp:=Nat→Nat→Option Value
inductive Fz (H:Hp):AV→Value→Prop
 | i (k:IntKind) (n:Int):Fz H (.i k n) (.int k n)
 | b (x:Bool):Fz H (.b x) (.bool x)
 | s (l:List UInt8):Fz H (.s l) (.string ⟨l.toArray⟩)
 | sl (rows:List (List AV)) (A:Option Addr) (cap size g off:Nat) (us:Nat→Nat→Value)
   (hA:rows≠[]→A=some ⟨g,off,none⟩) (hcap:rows.length≤cap)
   (hs :∀(i:Nat) row,rows[i]?=some row→row.length=size)
   (hH :∀(i:Nat) row (j:Nat) a,rows[i]?=some row→row[j]?=some a→H g (off+i*size+j)=some (us i j))
   (hF :∀(i:Nat) row (j:Nat) a,rows[i]?=some row→row[j]?=some a→Fz H a (us i j)) :
   Fz H (.sl .ext rows) (.slice A rows.length cap)
 | np:Fz H .np (.pointer none)
 | nf:Fz H .nf .nilFunc
 | ni:Fz H .ni .nilIface
 | u (v:Value):Fz H .u v
structure Gh where
 H:Hp
 ρ:Key→Nat→Option Nat
 ω:Key→Nat→Option (Nat × Nat × Nat)
 fm:Nat→Option Nat
 M:Nat→Option (List (List UInt8 × Int))
def OwnOk (G:Gh) (o:Own) (A:Option Addr) (n cap:Nat) (rows:List (List AV)):Prop:=
 match o with
 | .ext=>True
 | .full=>cap=n∧(A=none∨∃g,A=some ⟨g,0,none⟩)
 | .id k ver=>∃g size,G.ω k ver=some (g,cap,size)∧A=some ⟨g,0,none⟩∧∀(i:Nat) row,rows[i]?=some row→row.length=size∧(∀(j:Nat) a,row[j]?=some a→∃v,G.H g (i*size+j)=some v)
inductive R (G:Gh):AV→Value→Prop
 | fz (a:AV) (v:Value) (h:Fz G.H a v):R G a v
 | sl (o:Own) (rows:List (List AV)) (A:Option Addr) (n cap:Nat) (h:Fz G.H (.sl .ext rows) (.slice A n cap)) (ho:OwnOk G o A n cap rows):R G (.sl o rows) (.slice A n cap)
 | p (k:Key) (ver off g:Nat) (h:G.ρ k ver=some g):R G (.p k ver off) (.pointer (some ⟨g,off,none⟩))
 | fp (cs:List AV) (us:Nat→Value) (g off:Nat) (hH :∀(j:Nat) a,cs[j]?=some a→G.H g (off+j)=some (us j)) (hF :∀(j:Nat) a,cs[j]?=some a→Fz G.H a (us j)):R G (.fp cs) (.pointer (some ⟨g,off,none⟩))
 | ag (cs:List AV) (us:List Value) (hl:cs.length=us.length) (hR :∀(j:Nat) a u,cs[j]?=some a→us[j]?=some u→R G a u):R G (.ag cs) (.agg us.toArray)
 | tup (cs:List AV) (us:List Value) (hl:cs.length=us.length) (hR :∀(j:Nat) a u,cs[j]?=some a→us[j]?=some u→R G a u):R G (.tup cs) (.tuple us.toArray)
 | mp (l:List (List UInt8 × Int)) (b:Nat) (h:G.M b=some l):R G (.mp l) (.map (some b))
 | fn (c f:Nat) (hf:G.fm f=some c) (cs:List AV) (us:List Value) (hl:cs.length=us.length) (hR :∀(j:Nat) a u,cs[j]?=some a→us[j]?=some u→R G a u):R G (.fn c cs) (.func (.func f) #[] us.toArray)
 | bf (c f:Nat) (hf:G.fm f=some c) (cs:List AV) (us:List Value) (hl:cs.length=us.length) (hR :∀(j:Nat) a u,cs[j]?=some a→us[j]?=some u→R G a u):R G (.bf c cs) (.func (.func f) us.toArray #[])
def Rs (G:Gh) (cs:List AV) (us:List Value):Prop:=cs.length=us.length∧∀(j:Nat) a u,cs[j]?=some a→us[j]?=some u→R G a u
def HLe (H H':Hp):Prop:=∀g o v,H g o=some v→H' g o=some v
structure Gh.Le (G G':Gh):Prop where
 H:HLe G.H G'.H
 ρ :∀k v g,G.ρ k v=some g→G'.ρ k v=some g
 ω :∀k v g,G.ω k v=some g→G'.ω k v=some g
 fm:G'.fm=G.fm
 M :∀b l,G.M b=some l→G'.M b=some l
theorem Gh.Le.refl (G:Gh):G.Le G:=⟨fun _ _ _ h=>h,fun _ _ _ h=>h,fun _ _ _ h=>h,rfl,fun _ _ h=>h⟩
theorem Gh.Le.trans {A B C:Gh} (h:A.Le B) (k:B.Le C):A.Le C:=
 ⟨fun _ _ _ x=>k.H _ _ _ (h.H _ _ _ x),fun _ _ _ x=>k.ρ _ _ _ (h.ρ _ _ _ x),fun _ _ _ x=>k.ω _ _ _ (h.ω _ _ _ x),k.fm.trans h.fm,fun _ _ x=>k.M _ _ (h.M _ _ x)⟩
theorem Fz.mono {H H':Hp} (hh:HLe H H') {a:AV} {v:Value} (h:Fz H a v):Fz H' a v:=by
 induction h with
 | i k n=>exact .i k n
 | b x=>exact .b x
 | s l=>exact .s l
 | sl rows A cap size g off us hA hcap hs hH _ ih=>exact .sl rows A cap size g off us hA hcap hs (fun i row j a h1 h2=>hh _ _ _ (hH i row j a h1 h2)) ih
 | np=>exact .np
 | nf=>exact .nf
 | ni=>exact .ni
 | u v=>exact .u v
theorem OwnOk.mono {G G':Gh} (hg:G.Le G') {o:Own} {A:Option Addr} {n cap:Nat} {rows:List (List AV)} (h:OwnOk G o A n cap rows):OwnOk G' o A n cap rows:=by
 cases o with
 | ext=>trivial
 | full=>exact h
 | id k ver=>
  obtain ⟨g,size,h1,h2,h3⟩:=h
  refine ⟨g,size,hg.ω _ _ _ h1,h2,fun i row hr=>⟨(h3 i row hr).1,fun j a ha=>?_⟩⟩
  obtain ⟨v,hv⟩:=(h3 i row hr).2 j a ha
  exact ⟨v,hg.H _ _ _ hv⟩
theorem R.mono {G G':Gh} (hg:G.Le G') {a:AV} {v:Value} (h:R G a v):R G' a v:=by
 induction h with
 | fz a v h=>exact .fz a v (h.mono hg.H)
 | sl o rows A n cap h ho=>exact .sl o rows A n cap (h.mono hg.H) (ho.mono hg)
 | p k ver off g h=>exact .p k ver off g (hg.ρ _ _ _ h)
 | fp cs us g off hH hF=>exact .fp cs us g off (fun j a h=>hg.H _ _ _ (hH j a h)) (fun j a h=>(hF j a h).mono hg.H)
 | ag cs us hl _ ih=>exact .ag cs us hl ih
 | tup cs us hl _ ih=>exact .tup cs us hl ih
 | mp l b h=>exact .mp l b (hg.M _ _ h)
 | fn c f hf cs us hl _ ih=>exact .fn c f (by rw [hg.fm];exact hf) cs us hl ih
 | bf c f hf cs us hl _ ih=>exact .bf c f (by rw [hg.fm];exact hf) cs us hl ih
theorem Rs.mono {G G':Gh} (hg:G.Le G') {a:List AV} {v:List Value} (h:Rs G a v):Rs G' a v:=⟨h.1,fun j a u h1 h2=>(h.2 j a u h1 h2).mono hg⟩
section
variable {G:Gh} {v:Value}
theorem R.int_inv {k:IntKind} {n:Int} (h:R G (.i k n) v):v=.int k n:=by cases h with | fz _ _ h=>cases h;rfl
theorem R.bool_inv {x:Bool} (h:R G (.b x) v):v=.bool x:=by cases h with | fz _ _ h=>cases h;rfl
theorem R.str_inv {l:List UInt8} (h:R G (.s l) v):v=.string ⟨l.toArray⟩:=by cases h with | fz _ _ h=>cases h;rfl
theorem R.np_inv (h:R G .np v):v=.pointer none:=by cases h with | fz _ _ h=>cases h;rfl
theorem R.nf_inv (h:R G .nf v):v=.nilFunc:=by cases h with | fz _ _ h=>cases h;rfl
theorem R.ni_inv (h:R G .ni v):v=.nilIface:=by cases h with | fz _ _ h=>cases h;rfl
theorem R.sl_inv {o:Own} {rows:List (List AV)} (h:R G (.sl o rows) v) :∃A cap,v=.slice A rows.length cap∧Fz G.H (.sl .ext rows) (.slice A rows.length cap)∧OwnOk G o A rows.length cap rows:=by
 cases h with
 | fz _ _ h=>cases h with | sl _ A cap size g off us hA hcap hs hH hF=>exact ⟨A,cap,rfl,.sl rows A cap size g off us hA hcap hs hH hF,trivial⟩
 | sl _ _ A n cap h ho=>
  have hn:n=rows.length:=by cases h;rfl
  subst hn
  exact ⟨A,cap,rfl,h,ho⟩
theorem R.p_inv {k:Key} {ver off:Nat} (h:R G (.p k ver off) v) :∃g,v=.pointer (some ⟨g,off,none⟩)∧G.ρ k ver=some g:=by
 cases h with
 | fz _ _ h=>cases h
 | p _ _ _ g h=>exact ⟨g,rfl,h⟩
theorem R.fp_inv {cs:List AV} (h:R G (.fp cs) v) :∃g off,∃us:Nat→Value,v=.pointer (some ⟨g,off,none⟩)∧(∀(j:Nat) a,cs[j]?=some a→G.H g (off+j)=some (us j))∧(∀(j:Nat) a,cs[j]?=some a→Fz G.H a (us j)):=by
 cases h with
 | fz _ _ h=>cases h
 | fp _ us g off hH hF=>exact ⟨g,off,us,rfl,hH,hF⟩
theorem R.ag_inv {cs:List AV} (h:R G (.ag cs) v) :∃us,v=.agg us.toArray∧Rs G cs us:=by
 cases h with
 | fz _ _ h=>cases h
 | ag _ us hl hR=>exact ⟨us,rfl,hl,hR⟩
theorem R.tup_inv {cs:List AV} (h:R G (.tup cs) v) :∃us,v=.tuple us.toArray∧Rs G cs us:=by
 cases h with
 | fz _ _ h=>cases h
 | tup _ us hl hR=>exact ⟨us,rfl,hl,hR⟩
theorem R.fn_inv {c:Nat} {cs:List AV} (h:R G (.fn c cs) v) :∃f us,G.fm f=some c∧v=.func (.func f) #[] us.toArray∧Rs G cs us:=by
 cases h with
 | fz _ _ h=>cases h
 | fn _ f hf _ us hl hR=>exact ⟨f,us,hf,rfl,hl,hR⟩
theorem R.bf_inv {c:Nat} {cs:List AV} (h:R G (.bf c cs) v) :∃f us,G.fm f=some c∧v=.func (.func f) us.toArray #[]∧Rs G cs us:=by
 cases h with
 | fz _ _ h=>cases h
 | bf _ f hf _ us hl hR=>exact ⟨f,us,hf,rfl,hl,hR⟩
theorem R.mp_inv {l:List (List UInt8 × Int)} (h:R G (.mp l) v) :∃b,v=.map (some b)∧G.M b=some l:=by
 cases h with
 | fz _ _ h=>cases h
 | mp _ b h=>exact ⟨b,rfl,h⟩
theorem R.one {a:AV} (h:R G a v) (h1:a.one=true):v.oneCell'=true:=by
 cases h with
 | fz _ _ h=>cases h<;>first | rfl | simp [AV.one] at h1
 | sl=>rfl
 | p=>rfl
 | fp=>rfl
 | ag=>simp [AV.one] at h1
 | tup=>simp [AV.one] at h1
 | mp=>rfl
 | fn=>rfl
 | bf=>rfl
theorem R.und:R G (.tup []) Go.undef:=.tup [] [] rfl (by simp)
theorem R.tup0_inv (h:R G (.tup []) v):v=Go.undef:=by
 obtain ⟨us,rfl,hl,_⟩:=h.tup_inv
 cases us with
 | nil=>rfl
 | cons=>simp at hl
end
theorem R.cells {G:Gh} {a:AV} {v:Value} (h:R G a v) (hu:a.cells.all AV.one=true) :∃us:List Value,v.cells=us.toArray∧Rs G a.cells us∧us.length=a.cells.length∧(∀x∈us,x.oneCell'=true):=by
 have single :∀{a:AV},a.cells=[a]→R G a v→a.one=true→v.cells=#[v]→∃us:List Value,v.cells=us.toArray∧Rs G a.cells us∧us.length=a.cells.length∧(∀x∈us,x.oneCell'=true):=by
  intro a hc h h1 hv
  refine ⟨[v],hv,?_,by rw [hc];rfl,?_⟩
  ·rw [hc]
   refine ⟨rfl,fun j a' u h1 h2=>?_⟩
   cases j with
   | zero=>simp at h1 h2;subst h1;subst h2;exact h
   | succ j=>simp at h1
  ·intro x hx
   simp at hx
   subst hx
   exact h.one h1
 cases a with
 | ag cs=>
  obtain ⟨us,rfl,hr⟩:=h.ag_inv
  refine ⟨us,rfl,hr,hr.1.symm,fun x hx=>?_⟩
  obtain ⟨j,hj,rfl⟩:=List.getElem_of_mem hx
  have hj':j<cs.length:=by rw [hr.1];exact hj
  have h2:=hr.2 j cs[j] us[j] (List.getElem?_eq_getElem hj') (List.getElem?_eq_getElem hj)
  exact h2.one (by simp only [AV.cells,List.all_eq_true] at hu;exact hu _ (List.getElem_mem hj'))
 | tup cs=>simp [AV.cells,AV.one] at hu
 | u=>simp [AV.cells,AV.one] at hu
 | i k n=>exact single rfl h rfl (by rw [h.int_inv];rfl)
 | b x=>exact single rfl h rfl (by rw [h.bool_inv];rfl)
 | s l=>exact single rfl h rfl (by rw [h.str_inv];rfl)
 | sl o rows=>exact single rfl h rfl (by obtain ⟨A,cap,rfl,_⟩:=h.sl_inv;rfl)
 | p k ver off=>exact single rfl h rfl (by obtain ⟨g,rfl,_⟩:=h.p_inv;rfl)
 | fp cs=>exact single rfl h rfl (by obtain ⟨g,off,us,rfl,_⟩:=h.fp_inv;rfl)
 | np=>exact single rfl h rfl (by rw [h.np_inv];rfl)
 | mp l=>exact single rfl h rfl (by obtain ⟨b,rfl,_⟩:=h.mp_inv;rfl)
 | fn f cap=>exact single rfl h rfl (by obtain ⟨f,us,_,rfl,_⟩:=h.fn_inv;rfl)
 | bf f cs=>exact single rfl h rfl (by obtain ⟨f,us,_,rfl,_⟩:=h.bf_inv;rfl)
 | nf=>exact single rfl h rfl (by rw [h.nf_inv];rfl)
 | ni=>exact single rfl h rfl (by rw [h.ni_inv];rfl)
def BoxAt (G:Gh) (w0 w:World) (cs:List AV) (g:Nat):Prop:=
 ∃(us:List Value) (e:TypeId),w0.heap.size≤g∧w.heap[g]?=some (.cells us.toArray e (0,0))∧Rs G cs us∧(∀x∈us,x.oneCell'=true)∧∀o,G.H g o=none
def OwnAt (G:Gh) (w0 w:World) (n g cap size:Nat):Prop:=
 ∃(cur:Array Value) (e:TypeId),w0.heap.size≤g∧w.heap[g]?=some (.cells cur e (0,0))∧cur.size=cap*size∧n≤cap∧0<size∧∀o,n*size≤o→G.H g o=none
def btOf (fm:Nat→Option Nat):TypeId:=(fm 1000000000000).getD 0-1000000000
def etOf (fm:Nat→Option Nat):TypeId:=(fm 1000000000001).getD 0-1000000000
attribute [irreducible] btOf etOf
def MapAt (w:World) (b:Nat) (l:List (List UInt8 × Int)):Prop:=∃es clock,w.heap[b]?=some (.map es clock)∧es.toList.map (fun e=>(e.key,e.val))=l.map fun x=>(Value.string ⟨x.1.toArray⟩,Value.int .u8 x.2)
theorem MapAt.keep {w w':World} {b:Nat} {l:List (List UInt8 × Int)} (h:MapAt w b l) (hk :∀es clock,w.heap[b]?=some (.map es clock)→w'.heap[b]?=w.heap[b]?):MapAt w' b l:=by
 obtain ⟨es,clock,h1,h2⟩:=h
 exact ⟨es,clock,(hk es clock h1).trans h1,h2⟩
structure Rel (G:Gh) (w0:World) (st:St) (w:World):Prop where
 bel:Below w0.heap.size w0 w
 ext :∀g o v,G.H g o=some v→w.cell? ⟨g,o,none⟩=some v∧v.oneCell'=true
 bx :∀k ver cs g,lk st.bx k=some (ver,cs)→G.ρ k ver=some g→BoxAt G w0 w cs g
 inj :∀k k' ver ver' cs cs' g,lk st.bx k=some (ver,cs)→lk st.bx k'=some (ver',cs')→G.ρ k ver=some g→G.ρ k' ver'=some g→k=k'
 ow :∀k ver n,lk st.ow k=some (ver,n)→∃g cap size,G.ω k ver=some (g,cap,size)∧OwnAt G w0 w n g cap size∧∀k' ver' cs',lk st.bx k'=some (ver',cs')→G.ρ k' ver'≠some g
 owinj :∀k k' ver ver' n n' g cap size cap' size',lk st.ow k=some (ver,n)→lk st.ow k'=some (ver',n')→G.ω k ver=some (g,cap,size)→G.ω k' ver'=some (g,cap',size')→k=k'
 fresh :∀k ver,st.nx≤ver→G.ρ k ver=none∧G.ω k ver=none
 bxT :∀k ver cs g,bigSite≤k.2→lk st.bx k=some (ver,cs)→G.ρ k ver=some g→∃us,w.heap[g]?=some (.cells us (btOf G.fm) (0,0))∧(cs[1]?=some (.sl .full [])→us[1]?=some (.slice none 0 0))
 owT :∀k ver n,bigSite≤k.2→lk st.ow k=some (ver,n)→∀g cap size,G.ω k ver=some (g,cap,size)→∃us,w.heap[g]?=some (.cells us (etOf G.fm) (0,0))
 mp :∀b l,G.M b=some l→MapAt w b l
def RelA (G:Gh) (nt:Nat) (σ:Sl) (a:Act):Prop:=a.defers=[]∧a.tmps.size=nt∧∀t,R G (σ t) (a.tmps.getD t undef)
theorem RelA.mono {G G':Gh} (hg:G.Le G') {nt:Nat} {σ:Sl} {a:Act} (h:RelA G nt σ a):RelA G' nt σ a:=⟨h.1,h.2.1,fun t=>(h.2.2 t).mono hg⟩
theorem RelA.put {G:Gh} {nt:Nat} {σ:Sl} {a:Act} (h:RelA G nt σ a) {d:Option Nat} {v:AV} {x:Value} (hd :∀t,d=some t→t<nt) (hv:R G v x):RelA G nt (updO σ d v) (a.put d x):=by
 cases d with
 | none=>exact h
 | some d=>
  have hdn:=hd d rfl
  refine ⟨h.1,by simp [Act.put,h.2.1],fun t=>?_⟩
  by_cases htd:t=d
  ·subst htd
   have hlt:t<a.tmps.size:=by rw [h.2.1];exact hdn
   simpa [updO,upd,Act.put,hlt] using hv
  ·have:=h.2.2 t
   simp only [updO,upd,if_neg htd,Act.put]
   rw [Array.getD_eq_getD_getElem?,Array.getElem?_setIfInBounds_ne (by omega),← Array.getD_eq_getD_getElem?]
   exact this
end Go.AM

/- Parts of the proof. -/
namespace Go.AM
open Go Go.RowKit
inductive TK where
 | int (k:IntKind)
 | bool
 | str
 | sl (e:Nat)
 | arr (n e:Nat)
 | st (fs:List (Nat × Nat))
 | ptr (e:Nat)
 | uptr
 | mp
 | other
structure TI where
 kind:TK
 size:Nat
 bytes:Nat
 zero:List AV
abbrev TTab:=Nat→Option TI
def cVal:Value→Option AV
 | .int k n=>some (.i k n)
 | .bool x=>some (.b x)
 | .string s=>some (.s s.data.toList)
 | .slice none 0 0=>some (.sl .full [])
 | .pointer none=>some .np
 | .nilFunc=>some .nf
 | .nilIface=>some .ni
 | .map none=>some .u
 | _=>none
def cVals:List Value→Option (List AV)
 | []=>some []
 | v::r=>match cVal v,cVals r with | some w,some l=>some (w::l) | _,_=>none
def cConst:Value→Option AV
 | .agg cs=>match cVals cs.toList with | some l=>some (.ag l) | none=>none
 | v=>cVal v
def EqT (P:Program) (t:TypeId) (fields:Array Field):Prop:=P.stoodInHeld t=false∧P.eqGuardType P.depth t=false∧∀f∈fields.toList,(f.name== "_")=false
def TK.ok (P:Program) (t:TypeId):TK→Prop
 | .int k=>P.underlying t=some (.int k)
 | .bool=>P.underlying t=some .bool
 | .str=>P.underlying t=some .string
 | .sl e=>P.underlying t=some (.slice e)
 | .arr n e=>P.underlying t=some (.array n e)
 | .st fs=>∃fields,P.underlying t=some (.struct fields)∧fields.toList.map (fun f=>(f.type,f.offset))=fs∧EqT P t fields
 | .ptr e=>P.underlying t=some (.pointer e)∧(P.info? e).isSome=true
 | .uptr=>P.underlying t=some .unsafePointer
 | .mp=>∃k e,P.underlying t=some (.map k e)∧P.underlying k=some .string∧∀w,(zeroValue e).run P w=.ok (.int .u8 0) w
 | .other=>∃d,P.underlying t=some d∧(match d with | .struct _ | .array _ _=>False | _=>True)
def TK.agg:TK→Bool
 | .arr _ _ | .st _=>true
 | _=>false
structure TOk (P:Program) (t:TypeId) (i:TI):Prop where
 info :∃ti z,P.info? t=some ti∧ti.size=i.size∧ti.bytes=i.bytes∧ti.zero=some z∧cVals z.cells.toList=some i.zero∧z.cells.size=i.size
 kind:i.kind.ok P t
def TTok (P:Program) (T:TTab):Prop:=∀t i,T t=some i→TOk P t i
abbrev FM:=Nat→Option Nat
def cOpd (fm:FM):Operand→Option Opd
 | .tmp t=>some (.t t)
 | .const v=>match cConst v with | some x=>some (.c x) | none=>none
 | .func f=>match fm f with | some c=>some (.c (.fn c [])) | none=>none
 | .global _=>some (.c .u)
def cOpds (fm:FM):List Operand→Option (List Opd)
 | []=>some []
 | x::r=>match cOpd fm x,cOpds fm r with | some y,some l=>some (y::l) | _,_=>none
def cOpt (fm:FM):Option Operand→Option (Option Opd)
 | none=>some none
 | some x=>match cOpd fm x with | some y=>some (some y) | none=>none
def Same (G:Gh) (σ:Sl) (a:Act) (x:Operand) (y:Opd):Prop:=R G (y.ev σ) (a.eval x)
theorem cVal_ok {G:Gh} {v:Value} {x:AV} (h:cVal v=some x):R G x v:=by
 unfold cVal at h
 split at h<;>(try cases h)
 ·exact .fz _ _ (.i _ _)
 ·exact .fz _ _ (.b _)
 ·exact .fz _ _ (.s _)
 ·exact .sl .full [] none 0 0 (.sl [] none 0 0 0 0 (fun _ _=>.nilFunc) (fun h=>absurd rfl h) (Nat.le_refl _) (by simp) (by simp) (by simp)) ⟨rfl,.inl rfl⟩
 ·exact .fz _ _ .np
 ·exact .fz _ _ .nf
 ·exact .fz _ _ .ni
 ·exact .fz _ _ (.u _)
theorem cVals_ok {G:Gh} :∀{vs:List Value} {xs:List AV},cVals vs=some xs→Rs G xs vs
 | [],xs,h=>by cases h;exact ⟨rfl,by simp⟩
 | v::r,xs,h=>by
  unfold cVals at h
  split at h
  ·rename_i w l hw hl
   cases h
   have ih:=cVals_ok (G:=G) hl
   refine ⟨by simp [ih.1],fun j a u h1 h2=>?_⟩
   cases j with
   | zero=>simp at h1 h2;subst h1;subst h2;exact cVal_ok hw
   | succ j=>simp at h1 h2;exact ih.2 j a u h1 h2
  ·cases h
theorem cConst_ok {G:Gh} {v:Value} {x:AV} (h:cConst v=some x):R G x v:=by
 unfold cConst at h
 split at h
 ·rename_i cs
  split at h
  ·rename_i l hl
   cases h
   have:=cVals_ok (G:=G) hl
   have h2:R G (.ag l) (.agg cs.toList.toArray):=.ag l cs.toList this.1 this.2
   simpa using h2
  ·cases h
 ·exact cVal_ok h
theorem cOpd_ok {G:Gh} {nt:Nat} {σ:Sl} {a:Act} (hA:RelA G nt σ a) {x:Operand} {y:Opd} (h:cOpd G.fm x=some y):Same G σ a x y:=by
 unfold cOpd at h
 split at h
 ·cases h;exact hA.2.2 _
 ·split at h
  ·rename_i hc;cases h;exact cConst_ok hc
  ·cases h
 ·split at h
  ·rename_i c hc;cases h;exact .fn _ _ hc [] [] rfl (by simp)
  ·cases h
 ·cases h;exact .fz _ _ (.u _)
theorem cOpds_ok {G:Gh} {nt:Nat} {σ:Sl} {a:Act} (hA:RelA G nt σ a) :∀{xs:List Operand} {ys:List Opd},cOpds G.fm xs=some ys→Rs G (ys.map (·.ev σ)) (xs.map a.eval)
 | [],ys,h=>by cases h;exact ⟨rfl,by simp⟩
 | x::r,ys,h=>by
  unfold cOpds at h
  split at h
  ·rename_i y l hy hl
   cases h
   have ih:=cOpds_ok hA hl
   refine ⟨by simpa using ih.1,fun j b u h1 h2=>?_⟩
   cases j with
   | zero=>simp at h1 h2;subst h1;subst h2;exact cOpd_ok hA hy
   | succ j=>simp only [List.map_cons,List.getElem?_cons_succ] at h1 h2;exact ih.2 j b u h1 h2
  ·cases h
section
variable {P:Program} {G:Gh} {w:World}
theorem aint_ok {op:BinOp} {t:TypeId} {k:IntKind} {a b:Int} {r:AV} (h:aint op k a b=some r) :
  ∃v,(binOp op t (.int k a) (.int k b)).run P w=.ok v w∧R G r v:=by
 have hi :∀n:Int,R G (.i k n) (.int k n):=fun n=>.fz _ _ (.i _ _)
 have hb :∀x:Bool,R G (.b x) (.bool x):=fun n=>.fz _ _ (.b _)
 cases op with
 | add=>cases h;exact ⟨_,by simp [binOp,Op.intArith],hi _⟩
 | sub=>cases h;exact ⟨_,by simp [binOp,Op.intArith],hi _⟩
 | mul=>cases h;exact ⟨_,by simp [binOp,Op.intArith],hi _⟩
 | quo=>
  simp only [aint] at h
  split at h
  ·cases h
  ·rename_i h0;cases h;exact ⟨_,by simp [binOp,Op.intDiv,h0],hi _⟩
 | rem=>
  simp only [aint] at h
  split at h
  ·cases h
  ·rename_i h0;cases h;exact ⟨_,by simp [binOp,Op.intDiv,h0],hi _⟩
 | and=>cases h;exact ⟨_,by simp [binOp,Op.intBits],hi _⟩
 | or=>cases h;exact ⟨_,by simp [binOp,Op.intBits],hi _⟩
 | xor=>cases h;exact ⟨_,by simp [binOp,Op.intBits],hi _⟩
 | andNot=>cases h;exact ⟨_,by simp [binOp,Op.intBits],hi _⟩
 | eql=>cases h;exact ⟨_,by simp [binOp,Op.intCmp],hb _⟩
 | neq=>cases h;exact ⟨_,by simp [binOp,Op.intCmp],hb _⟩
 | lss=>cases h;exact ⟨_,by simp [binOp,Op.intCmp],hb _⟩
 | leq=>cases h;exact ⟨_,by simp [binOp,Op.intCmp],hb _⟩
 | gtr=>cases h;exact ⟨_,by simp [binOp,Op.intCmp],hb _⟩
 | geq=>cases h;exact ⟨_,by simp [binOp,Op.intCmp],hb _⟩
 | shl=>cases h
 | shr=>cases h
theorem ashift_ok {op:BinOp} {t:TypeId} {k k':IntKind} {a b:Int} {r:AV} (h:ashift op k a b=some r) :
  ∃v,(binOp op t (.int k a) (.int k' b)).run P w=.ok v w∧R G r v:=by
 have hi :∀n:Int,R G (.i k n) (.int k n):=fun n=>.fz _ _ (.i _ _)
 unfold ashift at h
 split at h
 ·cases h
 ·rename_i h0
  split at h
  ·cases h;exact ⟨_,by simp [binOp,Op.shift,h0],hi _⟩
  ·cases h;exact ⟨_,by simp [binOp,Op.shift,h0],hi _⟩
  ·cases h
theorem bin_ok {op:BinOp} {t:TypeId} {x y r:AV} {vx vy:Value} (hx:R G x vx) (hy:R G y vy) (h:abin op x y=some r) :
  ∃v,(binOp op t vx vy).run P w=.ok v w∧R G r v:=by
 unfold abin at h
 split at h
 ·rename_i k a k' b
  cases hx.int_inv
  cases hy.int_inv
  split at h
  ·exact ashift_ok h
  ·exact ashift_ok h
  ·split at h
   ·rename_i hk;subst hk;exact aint_ok h
   ·cases h
 ·rename_i a b
  cases hx.str_inv
  cases hy.str_inv
  split at h
  ·split at h
   ·rename_i hle
    cases h
    refine ⟨.string ⟨(a++b).toArray⟩,?_,.fz _ _ (.s _)⟩
    have h1:(ByteArray.mk a.toArray).size=a.length:=by simp [ByteArray.size]
    have h2:(ByteArray.mk b.toArray).size=b.length:=by simp [ByteArray.size]
    have h3:¬ (((ByteArray.mk a.toArray).size+(ByteArray.mk b.toArray).size:Nat):Int)>IntKind.i64.max:=by
     rw [h1,h2];unfold maxStr at hle;simp [IntKind.max,IntKind.bits];omega
    have h4:(ByteArray.mk a.toArray)++(ByteArray.mk b.toArray)=ByteArray.mk (a++b).toArray:=by
     apply ByteArray.ext;simp
    rw [h1,h2] at h3
    simp only [binOp,Op.stringOp,h1,h2,if_neg h3,h4,Sem.run_pure]
   ·cases h
  ·cases h;exact ⟨_,by simp [binOp,Op.stringOp],.fz _ _ (.b _)⟩
  ·cases h;exact ⟨_,by simp [binOp,Op.stringOp],.fz _ _ (.b _)⟩
  ·cases h
 ·cases h
end
end Go.AM

/- Parts of the proof. -/
namespace Go.AM
open Go Go.RowKit
section
variable {P:Program} {G:Gh} {w:World} {σ:Sl} {a:Act}
theorem nat_inv {x:AV} {n:Nat} {v:Value} (h:x.nat=some n) (hx:R G x v) :∃k,v=.int k (n:Int):=by
 unfold AV.nat at h
 split at h
 ·rename_i k m
  split at h
  ·rename_i h0
   cases h
   exact ⟨k,by rw [hx.int_inv,Int.toNat_of_nonneg h0]⟩
  ·cases h
 ·cases h
def SameO (G:Gh) (σ:Sl) (a:Act):Option Operand→Option Opd→Prop
 | none,none=>True
 | some x,some y=>Same G σ a x y
 | _,_=>False
theorem cOpt_ok {nt:Nat} (hA:RelA G nt σ a) {x:Option Operand} {y:Option Opd} (h:cOpt G.fm x=some y):SameO G σ a x y:=by
 cases x with
 | none=>cases h;trivial
 | some x=>
  unfold cOpt at h
  simp only at h
  split at h
  ·rename_i y' hy
   cases h
   exact cOpd_ok hA hy
  ·cases h
theorem sliceBound_ok {k:IntKind} {i y:Nat} {code:BoundsCode} (h:i≤y):(Instr.sliceBound (.int k (i:Int)) y code).run P w=.ok i w:=by
 have:=run_sliceBound (P:=P) (w:=w) k (i:Int) y code (by omega) (by omega)
 simpa using this
theorem bnds_ok {lo hi:Option Opd} {lo' hi':Option Operand} (hlo:SameO G σ a lo' lo) (hhi:SameO G σ a hi' hi) {len cap C l h:Nat} (hb:bnds σ len cap lo hi=some (l,h)) (hC:cap≤C) (isS:Bool) :
  (Instr.sliceBounds isS len C (lo'.map a.eval) (hi'.map a.eval) none).run P w=.ok (l,h,C) w∧l≤h∧h≤cap:=by
 unfold bnds at hb
 split at hb
 ·cases hb
 ·rename_i h1 hh
  split at hb
  ·cases hb
  ·rename_i l1 hl
   split at hb
   ·rename_i hle
    cases hb
    refine ⟨?_,hle.1,hle.2⟩
    cases hi with
    | none=>
     cases hi' with
     | none=>
      cases hh
      cases lo with
      | none=>
       cases lo' with
       | none=>cases hl;simp [Instr.sliceBounds]
       | some x=>exact hlo.elim
      | some y=>
       cases lo' with
       | none=>exact hlo.elim
       | some x=>
        obtain ⟨k,hv⟩:=nat_inv hl hlo
        simp [Instr.sliceBounds,hv,sliceBound_ok hle.1]
     | some x=>exact hhi.elim
    | some y=>
     cases hi' with
     | none=>exact hhi.elim
     | some x=>
      obtain ⟨k,hv⟩:=nat_inv hh hhi
      have hle2:h≤C:=Nat.le_trans hle.2 hC
      cases lo with
      | none=>
       cases lo' with
       | none=>cases hl;simp [Instr.sliceBounds,hv,sliceBound_ok hle2]
       | some x=>exact hlo.elim
      | some y=>
       cases lo' with
       | none=>exact hlo.elim
       | some x=>
        obtain ⟨k',hv'⟩:=nat_inv hl hlo
        simp [Instr.sliceBounds,hv,hv',sliceBound_ok hle2,sliceBound_ok hle.1]
   ·cases hb
theorem slS_ok {t:TypeId} (ht:P.underlying t=some .string) {x:Opd} {x':Operand} (hx:Same G σ a x' x) {lo hi:Option Opd} {lo' hi':Option Operand} (hlo:SameO G σ a lo' lo) (hhi:SameO G σ a hi' hi) {r:AV}
  (h:(match x.ev σ with | .s l=>(bnds σ l.length l.length lo hi).map fun (a,b)=>AV.s ((l.drop a).take (b-a)) | _=>none)=some r) :∃v,(Instr.sliceAt t (a.eval x') (lo'.map a.eval) (hi'.map a.eval) none).run P w=.ok v w∧R G r v:=by
 split at h
 ·rename_i l hl
  unfold Same at hx
  rw [hl] at hx
  simp only [Option.map_eq_some_iff,Prod.exists] at h
  obtain ⟨b,c,hb,rfl⟩:=h
  have hs:(ByteArray.mk l.toArray).size=l.length:=by simp [ByteArray.size]
  obtain ⟨hr,h1,h2⟩:=bnds_ok (P:=P) (w:=w) hlo hhi hb (Nat.le_refl _) false
  refine ⟨_,?_,.fz _ _ (.s _)⟩
  rw [hx.str_inv]
  simp [Instr.sliceAt,Instr.slice,run_underlying ht,hs,hr,ByteArray.extract_mk]
 ·cases h
theorem fad_ok {s:TypeId} {fs:List (Nat × Nat)} (ht:(TK.st fs).ok P s) {f ft off:Nat} (hf:fs[f]?=some (ft,off)) {ti:TypeInfo} (hi:P.info? ft=some ti) (hz:ti.size≠0) {x:AV} {vx:Value} {r:AV}
  (h:(match x with | .p k v o=>some (.p k v (o+off)) | .fp cs=>some (.fp (cs.drop off)) | _=>none)=some r) (hx:R G x vx) :∃v,(Instr.fieldAt s vx f).run P w=.ok v w∧R G r v:=by
 obtain ⟨fields,hu,hmap,_⟩:=ht
 have hfl :∃fl,fields[f]?=some fl∧fl.type=ft∧fl.offset=off:=by
  rw [← hmap] at hf
  simp only [List.getElem?_map,Option.map_eq_some_iff,Array.getElem?_toList] at hf
  obtain ⟨fl,h1,h2⟩:=hf
  exact ⟨fl,h1,by injection h2,by injection h2⟩
 obtain ⟨fl,hfl,rfl,rfl⟩:=hfl
 have key :∀g o:Nat,(Instr.fieldAt s (.pointer (some ⟨g,o,none⟩)) f).run P w=.ok (.pointer (some ⟨g,o+fl.offset,none⟩)) w:=by
  intro g o
  simp [Instr.fieldAt,run_underlying hu,hfl,Instr.sureAddr,fieldPlace,sizeOf,typeInfo,hi,hz,Addr.add_lit]
 revert hx
 split at h
 ·intro hx
  cases h
  obtain ⟨g,rfl,hg⟩:=hx.p_inv
  exact ⟨_,key _ _,.p _ _ _ _ hg⟩
 ·intro hx
  cases h
  obtain ⟨g,o,us,rfl,h1,h2⟩:=hx.fp_inv
  refine ⟨_,key _ _,.fp _ (fun j=>us (fl.offset+j)) _ _ (fun j b hb=>?_) (fun j b hb=>?_)⟩
  ·rw [List.getElem?_drop] at hb
   rw [Nat.add_assoc]
   exact h1 _ _ hb
  ·rw [List.getElem?_drop] at hb
   exact h2 _ _ hb
 ·cases h
theorem run_isAgg {t:TypeId} {k:TK} (ht:k.ok P t):(isAgg t).run P w=.ok k.agg w:=by
 cases k with
 | int k=>simp [isAgg,run_underlying ht,TK.agg]
 | bool=>simp [isAgg,run_underlying ht,TK.agg]
 | str=>simp [isAgg,run_underlying ht,TK.agg]
 | sl e=>simp [isAgg,run_underlying ht,TK.agg]
 | ptr e=>simp [isAgg,run_underlying ht.1,TK.agg]
 | uptr=>simp [isAgg,run_underlying ht,TK.agg]
 | arr n e=>simp [isAgg,run_underlying ht,TK.agg]
 | st fs=>obtain ⟨fields,hu,_⟩:=ht;simp [isAgg,run_underlying hu,TK.agg]
 | mp=>obtain ⟨k,e,hu,_⟩:=ht;simp [isAgg,run_underlying hu,TK.agg]
 | other=>
  obtain ⟨d,hu,hd⟩:=ht
  simp only [isAgg,Sem.run_bind,run_underlying hu,Result.andThen_ok,TK.agg]
  cases d<;>first | rfl | exact hd.elim
theorem ofCells_ok {cs:List AV} {us:List Value} (hr:Rs G cs us) {agg:Bool} {r:AV} (h:ofCells agg cs=some r):(agg=true∧R G r (.agg us.toArray))∨(agg=false∧∃v,us=[v]∧R G r v):=by
 unfold ofCells at h
 cases agg with
 | true=>simp at h;subst h;exact .inl ⟨rfl,.ag _ _ hr.1 hr.2⟩
 | false=>
  simp at h
  split at h
  ·rename_i v
   cases h
   match us,hr with
   | [u],hr=>exact .inr ⟨rfl,u,rfl,hr.2 0 _ _ rfl rfl⟩
   | [],hr=>have:=hr.1;simp at this
   | _::_::_,hr=>have:=hr.1;simp at this
  ·cases h
theorem Rs.sub {cs:List AV} {us:List Value} (hr:Rs G cs us) (o n:Nat):Rs G ((cs.drop o).take n) ((us.drop o).take n):=by
 refine ⟨by simp [hr.1],fun j b u h1 h2=>?_⟩
 rw [List.getElem?_take] at h1 h2
 split at h1
 ·rename_i hj
  rw [if_pos hj] at h2
  rw [List.getElem?_drop] at h1 h2
  exact hr.2 _ _ _ h1 h2
 ·cases h1
theorem part_ok {t:TypeId} {i:TI} (hT:TOk P t i) {cs:List AV} {us:List Value} (hr:Rs G cs us) {off:Nat} {r:AV} (h:ofCells i.kind.agg ((cs.drop off).take i.size)=some r) (_hle:off+i.size≤cs.length) (h1:i.kind.agg=false→i.size=1) :
  ∃v,(part t us.toArray off).run P w=.ok v w∧R G r v:=by
 obtain ⟨ti,z,hi,hsz,_⟩:=hT.info
 rcases ofCells_ok (hr.sub off i.size) h with ⟨ha,hv⟩ | ⟨ha,v,hu,hv⟩
 ·refine ⟨_,?_,hv⟩
  simp only [part,Sem.run_bind,run_isAgg hT.kind,Result.andThen_ok,ha,if_true,sizeOf,typeInfo,run_program,hi,Sem.run_pure,hsz]
  congr 2
  simp [List.extract_toArray,List.extract_eq_take_drop]
 ·refine ⟨v,?_,hv⟩
  have hg:us[off]?=some v:=by
   have:((us.drop off).take i.size)[0]?=some v:=by rw [hu];rfl
   rw [List.getElem?_take,if_pos (by rw [h1 ha];omega),List.getElem?_drop] at this
   simpa using this
  simp only [part,Sem.run_bind,run_isAgg hT.kind,Result.andThen_ok,ha,Bool.false_eq_true,if_false,List.getElem?_toArray,hg,Sem.run_pure]
theorem fld_ok {s:TypeId} {fs:List (Nat × Nat)} (ht:(TK.st fs).ok P s) {f ft off:Nat} (hf:fs[f]?=some (ft,off)) {i:TI} (hT:TOk P ft i) (h1:i.kind.agg=false→i.size=1) {x:AV} {vx:Value} {r:AV}
  (h:(match x with | .ag cs=>if off+i.size≤cs.length then ofCells i.kind.agg ((cs.drop off).take i.size) else none | _=>none)=some r) (hx:R G x vx) :∃v,(Instr.field s vx f).run P w=.ok v w∧R G r v:=by
 obtain ⟨fields,hu,hmap,_⟩:=ht
 have hfl :∃fl,fields[f]?=some fl∧fl.type=ft∧fl.offset=off:=by
  rw [← hmap] at hf
  simp only [List.getElem?_map,Option.map_eq_some_iff,Array.getElem?_toList] at hf
  obtain ⟨fl,h1,h2⟩:=hf
  exact ⟨fl,h1,by injection h2,by injection h2⟩
 obtain ⟨fl,hfl,rfl,rfl⟩:=hfl
 revert hx
 split at h
 ·rename_i cs
  intro hx
  split at h
  ·rename_i hle
   obtain ⟨us,rfl,hr⟩:=hx.ag_inv
   obtain ⟨v,hv,hR⟩:=part_ok (P:=P) (w:=w) hT hr h hle h1
   refine ⟨v,?_,hR⟩
   simp [Instr.field,run_underlying hu,hfl,asAgg,hv]
  ·cases h
 ·cases h
theorem iaA_ok {t:TypeId} {n e:Nat} (ht:P.underlying t=some (.array n e)) {ti:TypeInfo} (hi:P.info? e=some ti) {x ix:AV} {vx vi:Value} {r:AV}
  (h:(match x,ix.nat with | .p k v o,some j=>if j<n then some (.p k v (o+j*ti.size)) else none | _,_=>none)=some r) (hx:R G x vx) (hix:R G ix vi) :∃v,(Instr.indexAt t vx vi).run P w=.ok v w∧R G r v:=by
 revert hx hix
 split at h
 ·rename_i k v o j hj
  intro hx hix
  split at h
  ·rename_i hlt
   cases h
   obtain ⟨g,rfl,hg⟩:=hx.p_inv
   obtain ⟨k',rfl⟩:=nat_inv hj hix
   refine ⟨_,?_,.p _ _ _ _ hg⟩
   have h0:(0:Int)≤(j:Int)∧(j:Int)<(n:Int):=⟨by omega,by omega⟩
   simp [Instr.indexAt,run_underlying ht,asIntOf,Instr.sureAddr,sizeOf,typeInfo,hi,Addr.add_lit,hlt]
  ·cases h
 ·cases h
theorem iaL_ok {t:TypeId} {e:Nat} (ht:P.underlying t=some (.slice e)) {ti:TypeInfo} (hi:P.info? e=some ti) {x ix:AV} {vx vi:Value} {r:AV}
  (h:(match x,ix.nat with | .sl _ rows,some k=>(match rows[k]? with | some row=>if row.length=ti.size∧0<ti.size then some (.fp row) else none | none=>none) | _,_=>none)=some r) (hx:R G x vx) (hix:R G ix vi) :∃v,(Instr.indexAt t vx vi).run P w=.ok v w∧R G r v:=by
 revert hx hix
 split at h
 ·rename_i o rows k hk
  intro hx hix
  split at h
  ·rename_i row hrow
   split at h
   ·rename_i hlen
    obtain ⟨hlen,hpos⟩:=hlen
    cases h
    obtain ⟨A,cap,rfl,hF,_⟩:=hx.sl_inv
    obtain ⟨k',rfl⟩:=nat_inv hk hix
    have hlt:k<rows.length:=by
     rcases Nat.lt_or_ge k rows.length with h | h
     ·exact h
     ·rw [List.getElem?_eq_none h] at hrow;cases hrow
    cases hF with
    | sl _ A cap size g off us hA hcap hs hH hFz=>
    have hAe:=hA (by intro h;rw [h] at hlt;simp at hlt)
    subst hAe
    have hsz:size=ti.size:=by rw [← hs k row hrow,hlen]
    subst hsz
    refine ⟨.pointer (some ⟨g,off+k*ti.size,none⟩),?_,.fp _ (us k) _ _ (fun j b hb=>hH k row j b hrow hb) (fun j b hb=>hFz k row j b hrow hb)⟩
    simp [Instr.indexAt,run_underlying ht,asIntOf,sizeOf,typeInfo,hi,Addr.add_lit,hlt]
   ·cases h
  ·cases h
 ·cases h
theorem ixS_ok {t:TypeId} (ht:P.underlying t=some .string) {x ix:AV} {vx vi:Value} {r:AV}
  (h:(match x,ix.nat with | .s l,some j=>(l[j]?).map fun c=>AV.i .u8 c.toNat | _,_=>none)=some r) (hx:R G x vx) (hix:R G ix vi) :∃v,(Instr.index t vx vi).run P w=.ok v w∧R G r v:=by
 revert hx hix
 split at h
 ·rename_i l j hj
  intro hx hix
  simp only [Option.map_eq_some_iff] at h
  obtain ⟨c,hc,rfl⟩:=h
  obtain ⟨k',rfl⟩:=nat_inv hj hix
  rw [hx.str_inv]
  have hlt:j<l.length:=by
   rcases Nat.lt_or_ge j l.length with h | h
   ·exact h
   ·rw [List.getElem?_eq_none h] at hc;cases hc
  refine ⟨_,?_,.fz _ _ (.i _ _)⟩
  have hs:(ByteArray.mk l.toArray).size=l.length:=by simp [ByteArray.size]
  have hg:(ByteArray.mk l.toArray)[j]?=some c:=by
   rw [ByteArray.getElem?_lt' _ _ (by rw [hs];exact hlt)]
   rw [List.getElem?_eq_getElem hlt] at hc
   injection hc with hc
   rw [← hc]
   rfl
  simp [Instr.index,run_underlying ht,asIntOf,hg]
 ·cases h
theorem ixA_ok {t:TypeId} {n e:Nat} (ht:P.underlying t=some (.array n e)) {i:TI} (hT:TOk P e i) (h1:i.kind.agg=false→i.size=1) {x ix:AV} {vx vi:Value} {r:AV}
  (h:(match x,ix.nat with | .ag cs,some j=>if j<n∧j*i.size+i.size≤cs.length then ofCells i.kind.agg ((cs.drop (j*i.size)).take i.size) else none | _,_=>none)=some r) (hx:R G x vx) (hix:R G ix vi) :∃v,(Instr.index t vx vi).run P w=.ok v w∧R G r v:=by
 revert hx hix
 split at h
 ·rename_i cs j hj
  intro hx hix
  split at h
  ·rename_i hle
   obtain ⟨us,rfl,hr⟩:=hx.ag_inv
   obtain ⟨k',rfl⟩:=nat_inv hj hix
   obtain ⟨v,hv,hR⟩:=part_ok (P:=P) (w:=w) hT hr h hle.2 h1
   obtain ⟨ti,z,hi,hsz,_⟩:=hT.info
   refine ⟨v,?_,hR⟩
   simp [Instr.index,run_underlying ht,asIntOf,sizeOf,typeInfo,hi,hsz,hle.1,hv]
  ·cases h
 ·cases h
theorem slL_ok {t:TypeId} {e:Nat} (ht:P.underlying t=some (.slice e)) {ti:TypeInfo} (hi:P.info? e=some ti) {x:Opd} {x':Operand} (hx:Same G σ a x' x) {lo hi':Option Opd} {lo' hi'':Option Operand} (hlo:SameO G σ a lo' lo) (hhi:SameO G σ a hi'' hi') {r:AV}
  (h:(match x.ev σ with | .sl _ rows=>if rows.all (·.length==ti.size) then (bnds σ rows.length rows.length lo hi').map fun (a,b)=>AV.sl .ext ((rows.drop a).take (b-a)) else none | _=>none)=some r) :∃v,(Instr.sliceAt t (a.eval x') (lo'.map a.eval) (hi''.map a.eval) none).run P w=.ok v w∧R G r v:=by
 split at h
 ·rename_i o rows hl
  split at h
  ·rename_i hall
   unfold Same at hx
   rw [hl] at hx
   simp only [Option.map_eq_some_iff,Prod.exists] at h
   obtain ⟨l,u,hb,rfl⟩:=h
   obtain ⟨A,cap,hv,hF,_⟩:=hx.sl_inv
   have hF':=hF
   cases hF with
   | sl _ A cap size g off us hA hcap hs hH hFz=>
   obtain ⟨hr,h1,h2⟩:=bnds_ok (P:=P) (w:=w) hlo hhi hb hcap true
   refine ⟨.slice (if cap=l then A else A.map (·.add (l*ti.size))) (u-l) (cap-l),?_,?_⟩
   ·rw [hv]
    simp [Instr.sliceAt,Instr.slice,run_underlying ht,hr,sizeOf,typeInfo,hi]
   ·have hlen:((rows.drop l).take (u-l)).length=u-l:=by simp;omega
    have hsz:rows≠[]→size=ti.size:=by
     intro hne
     cases rows with
     | nil=>exact absurd rfl hne
     | cons row rest=>
      rw [← hs 0 row rfl]
      simp at hall
      exact hall.1
    have hgo:R G (.sl .ext ((rows.drop l).take (u-l))) (.slice (if cap=l then A else A.map (·.add (l*ti.size))) ((rows.drop l).take (u-l)).length (cap-l)):=by
     refine .fz _ _ (.sl _ _ _ ti.size g (off+l*ti.size) (fun i j=>us (l+i) j) ?_ (by omega) ?_ ?_ ?_)
     ·intro hne
      have hrows:rows≠[]:=by rintro rfl;simp at hne
      have hlu:l<u:=by
       rcases Nat.lt_or_ge l u with h | h
       ·exact h
       ·exfalso;apply hne;apply List.eq_nil_of_length_eq_zero;rw [hlen];omega
      rw [if_neg (by omega),hA hrows]
      simp [Addr.add_lit]
     ·intro i row hrow
      rw [List.getElem?_take] at hrow
      split at hrow
      ·rw [List.getElem?_drop] at hrow
       rw [hs _ _ hrow]
       exact hsz (by rintro rfl;simp at hrow)
      ·cases hrow
     ·intro i row j b hrow hb
      rw [List.getElem?_take] at hrow
      split at hrow
      ·rw [List.getElem?_drop] at hrow
       have:=hH _ row j b hrow hb
       rw [hsz (by rintro rfl;simp at hrow)] at this
       rw [← this]
       congr 1
       rw [Nat.add_mul];omega
      ·cases hrow
     ·intro i row j b hrow hb
      rw [List.getElem?_take] at hrow
      split at hrow
      ·rw [List.getElem?_drop] at hrow
       exact hFz _ row j b hrow hb
      ·cases hrow
    rw [hlen] at hgo
    exact hgo
  ·cases h
 ·cases h
theorem lenS_ok {t:TypeId} (ht:P.underlying t=some .string) {x:AV} {vx:Value} {ty:TypeId} {r:AV}
  (h:(match x with | .s l=>some (AV.i .i64 l.length) | _=>none)=some r) (hx:R G x vx) :∃v,(Builtin.len_ #[t] ty #[vx]).run P w=.ok v w∧R G r v:=by
 revert hx
 split at h
 ·rename_i l
  intro hx
  cases h
  rw [hx.str_inv]
  refine ⟨.int .i64 l.length,?_,.fz _ _ (.i _ _)⟩
  have hs:(ByteArray.mk l.toArray).size=l.length:=by simp [ByteArray.size]
  simp [Builtin.len_,run_underlying ht,goInt,hs]
 ·cases h
theorem lenL_ok {t e:TypeId} (ht:P.underlying t=some (.slice e)) {x:AV} {vx:Value} {ty:TypeId} {r:AV}
  (h:(match x with | .sl _ rows=>some (AV.i .i64 rows.length) | _=>none)=some r) (hx:R G x vx) :∃v,(Builtin.len_ #[t] ty #[vx]).run P w=.ok v w∧R G r v:=by
 revert hx
 split at h
 ·rename_i o rows
  intro hx
  cases h
  obtain ⟨A,cap,rfl,_⟩:=hx.sl_inv
  refine ⟨.int .i64 rows.length,?_,.fz _ _ (.i _ _)⟩
  simp [Builtin.len_,run_underlying ht,goInt]
 ·cases h
theorem ext_ok {k:Nat} {x:AV} {vx:Value} {r:AV} (h:(match x with | .tup vs=>vs[k]? | _=>none)=some r) (hx:R G x vx) :∃v,(Instr.extract vx k).run P w=.ok v w∧R G r v:=by
 revert hx
 split at h
 ·rename_i vs
  intro hx
  obtain ⟨us,rfl,hr⟩:=hx.tup_inv
  have hk:k<us.length:=by
   rw [← hr.1]
   rcases Nat.lt_or_ge k vs.length with h' | h'
   ·exact h'
   ·rw [List.getElem?_eq_none h'] at h;cases h
  refine ⟨us[k],?_,hr.2 k _ _ h (List.getElem?_eq_getElem hk)⟩
  simp [Instr.extract,List.getElem?_eq_getElem hk]
 ·cases h
theorem un_ok {op:UnOp} {x:AV} {vx:Value} {r:AV} (h:(match op,x with | .not,.b t=>some (AV.b (!t)) | .neg,.i k n=>some (.i k (k.wrap (0-n))) | _,_=>none)=some r) (hx:R G x vx) :∃v,(Op.unary op vx).run P w=.ok v w∧R G r v:=by
 revert hx
 split at h
 ·intro hx;cases h;rw [hx.bool_inv];exact ⟨_,by simp [Op.unary],.fz _ _ (.b _)⟩
 ·intro hx;cases h;rw [hx.int_inv];exact ⟨_,by simp [Op.unary,Op.intArith],.fz _ _ (.i _ _)⟩
 ·cases h
theorem cvi_ok {src dst:TypeId} {d:TypeDesc} {k:IntKind} (hs:P.underlying src=some d) (hd:P.underlying dst=some (.int k)) {x:AV} {vx:Value} {r:AV} (h:(match x with | .i _ n=>some (AV.i k (k.wrap n)) | _=>none)=some r) (hx:R G x vx) :∃v,(convert src dst vx).run P w=.ok v w∧R G r v:=by
 revert hx
 split at h
 ·intro hx;cases h;rw [hx.int_inv];exact ⟨_,by simp [convert,run_underlying hs,run_underlying hd,Conv.intToInt],.fz _ _ (.i _ _)⟩
 ·cases h
theorem beq_ok {t:TypeId} (ht:P.underlying t=some .bool) {neg:Bool} {x y:AV} {vx vy:Value} {r:AV} (h:(match x,y with | .b x,.b y=>some (AV.b (if neg then !(x==y) else x==y)) | _,_=>none)=some r) (hx:R G x vx) (hy:R G y vy) :
  ∃v,(binOp (if neg then .neq else .eql) t vx vy).run P w=.ok v w∧R G r v:=by
 revert hx hy
 split at h
 ·intro hx hy
  cases h
  rw [hx.bool_inv,hy.bool_inv]
  have key :∀(d:Nat) (p q:Bool),(Op.equalIn (d+1) t (.bool p) (.bool q)).run P w=.ok (p==q) w:=fun d p q=>by simp [Op.equalIn,run_underlying ht]
  cases neg
  ·refine ⟨_,?_,.fz _ _ (.b _)⟩
   simp only [binOp,Bool.false_eq_true,if_false]
   simp [Op.equal,Op.maxDepth,key 9999]
  ·refine ⟨_,?_,.fz _ _ (.b _)⟩
   simp only [binOp,if_true]
   simp [Op.equal,Op.maxDepth,key 9999]
 ·cases h
theorem byteOf_inv {row:List AV} {c:UInt8} (h:byteOf row=some c):row=row8 c:=by
 unfold byteOf at h
 split at h
 ·rename_i n
  split at h
  ·rename_i hn
   cases h
   simp only [row8]
   congr 2
   have:n.toNat<256:=by omega
   have h2:(n.toNat.toUInt8).toNat=n.toNat:=by simp [Nat.toUInt8];omega
   rw [h2];omega
  ·cases h
 ·cases h
theorem bytesOf_inv :∀{rows:List (List AV)} {l:List UInt8},bytesOf rows=some l→rows=l.map row8
 | [],l,h=>by cases h;rfl
 | row::rest,l,h=>by
  unfold bytesOf at h
  split at h
  ·rename_i c l' h1 h2
   cases h
   rw [byteOf_inv h1,bytesOf_inv h2]
   rfl
  ·cases h
theorem bytesOf_row8 (l:List UInt8):bytesOf (l.map row8)=some l:=by
 induction l with
 | nil=>rfl
 | cons c l ih=>
  have:byteOf (row8 c)=some c:=by
   have hc:c.toNat<256:=c.toNat_lt
   simp only [row8,byteOf]
   rw [if_pos ⟨by omega,by omega⟩]
   simp
  simp only [List.map_cons,bytesOf,this,ih]
theorem foldl_push (l:List UInt8) :∀s:ByteArray,(l.map (fun c=>(c.toNat:Int))).foldl (fun (r:ByteArray) n=>r.push (UInt8.ofNat n.toNat)) s=ByteArray.mk (s.data.toList++l).toArray:=by
 induction l with
 | nil=>intro s;simp
 | cons c l ih=>
  intro s
  simp only [List.map_cons,List.foldl_cons]
  rw [ih]
  simp [ByteArray.push]
theorem b2s_ok {src dst e:TypeId} (hs:P.underlying src=some (.slice e)) (he:P.underlying e=some (.int .u8)) (hd:P.underlying dst=some .string) {x:AV} {vx:Value} (hext :∀g o v,G.H g o=some v→w.cell? ⟨g,o,none⟩=some v) {r:AV}
  (h:(match x with | .sl _ rows=>(bytesOf rows).map AV.s | _=>none)=some r) (hx:R G x vx) :∃v,(convert src dst vx).run P w=.ok v w∧R G r v:=by
 revert hx
 split at h
 ·rename_i o rows
  intro hx
  simp only [Option.map_eq_some_iff] at h
  obtain ⟨l,hl,rfl⟩:=h
  have hrows:=bytesOf_inv hl
  subst hrows
  obtain ⟨A,cap,rfl,hF,_⟩:=hx.sl_inv
  refine ⟨.string ⟨l.toArray⟩,?_,.fz _ _ (.s _)⟩
  rw [run_convert_bytes_string w src dst e _ _ _ hs he hd]
  cases l with
  | nil=>
   cases A with
   | none=>simp [Conv.bytesToString];rfl
   | some ad=>
    have hc:(loadCells ad 0).run P w=.ok ((([]:List Int).map (Value.int .u8)).toArray) w:=by simp [loadCells,loadCellsFrom]
    have:=run_bytesToString w ad 0 cap [] hc
    have h2:(Conv.bytesToString (.slice (some ad) 0 cap)).run P w=.ok (.string ByteArray.empty) w:=by simpa using this
    exact h2
  | cons c l=>
   cases hF with
   | sl _ A cap size g off us hA hcap hsz hH hFz=>
   have hAe:=hA (by simp)
   subst hAe
   have hsize:size=1:=by rw [← hsz 0 (row8 c) rfl];rfl
   subst hsize
   have hcells:(loadCells ⟨g,off,none⟩ (c::l).length).run P w=.ok ((((c::l).map (fun c=>(c.toNat:Int))).map (Value.int .u8)).toArray) w:=by
    have:=run_loadCells_list (P:=P) w ⟨g,off,none⟩ (((c::l).map (fun c=>(c.toNat:Int))).map (Value.int .u8)) ?_
    ·simpa using this
    ·intro j v hv
     rw [Addr.add_lit]
     simp only [List.map_map,List.getElem?_map,Option.map_eq_some_iff] at hv
     obtain ⟨d,hd,rfl⟩:=hv
     have hrow:((c::l).map row8)[j]?=some (row8 d):=by simp only [List.getElem?_map,hd,Option.map_some]
     have h1:=hH j (row8 d) 0 _ hrow rfl
     have h2:=hFz j (row8 d) 0 _ hrow rfl
     have h3:=hext _ _ _ h1
     generalize us j 0=v0 at h2 h3
     cases h2
     simpa using h3
   simp only [List.length_map]
   rw [run_bytesToString w ⟨g,off,none⟩ (c::l).length cap _ hcells]
   rw [foldl_push]
   rfl
 ·cases h
end
end Go.AM

/- Parts of the proof. -/
namespace Go.AM
open Go Go.RowKit
section lists
variable {α:Type}
theorem lk_st (l:List (Key × α)) (k:Key) (a:α) (k':Key):lk (st_ l k a) k'=if k=k' then some a else lk l k':=by
 induction l with
 | nil=>simp [st_,lk]
 | cons x r ih=>
  obtain ⟨k1,b⟩:=x
  simp only [st_]
  split
  ·rename_i h;subst h;simp only [lk];split<;>rfl
  ·rename_i h
   simp only [lk]
   split
   ·rename_i h2;subst h2;rw [if_neg (fun e=>h e.symm)]
   ·rw [ih]
theorem lk_st_same (l:List (Key × α)) (k:Key) (a:α):lk (st_ l k a) k=some a:=by rw [lk_st,if_pos rfl]
theorem lk_st_ne (l:List (Key × α)) {k k':Key} (a:α) (h:k≠k'):lk (st_ l k a) k'=lk l k':=by rw [lk_st,if_neg h]
theorem lk_filter (l:List (Key × α)) (p:Key→Bool) (k:Key):lk (l.filter fun x=>p x.1) k=if p k then lk l k else none:=by
 induction l with
 | nil=>simp [lk]
 | cons x r ih=>
  obtain ⟨k1,b⟩:=x
  simp only [List.filter_cons]
  by_cases h:k1=k
  ·subst h
   cases hp:p k1 with
   | true=>simp [lk]
   | false=>simp [ih,hp]
  ·split
   ·simp only [lk,if_neg h,ih]
   ·simp only [ih,lk,if_neg h]
theorem lk_del (l:List (Key × α)) (k k':Key):lk (del l k) k'=if k'=k then none else lk l k':=by
 unfold del
 have:=lk_filter l (fun x=>decide (x≠k)) k'
 rw [this]
 by_cases h:k'=k<;>simp [h]
end lists
structure Step (G G':Gh) (w0:World) (st st':St) (w':World) (d site ver:Nat):Prop where
 le:G.Le G'
 rel:Rel G' w0 st' w'
 nx:st.nx≤st'.nx
 old :∀k v,v<st.nx→(k,v)≠((d,site),ver)→G'.ρ k v=G.ρ k v∧G'.ω k v=G.ω k v
 pend :∀k v cs,k.1≤d→v<st.nx→k≠(d,site)→G.ρ k v=none→lk st.bx k=some (v,cs)→lk st'.bx k=some (v,cs)
 newH :∀g o v,G'.H g o=some v→G.H g o=some v∨w0.heap.size≤g
section
variable {P:Program} {G:Gh} {w0 w:World} {st:St}
theorem Step.same {w':World} {d site ver:Nat} (hR:Rel G w0 st w'):Step G G w0 st st w' d site ver:=
 ⟨.refl G,hR,Nat.le_refl _,fun _ _ _ _=>⟨rfl,rfl⟩,fun _ _ _ _ _ _ _ h=>h,fun _ _ _ h=>.inl h⟩
theorem block_lt {w:World} {g:Nat} {o:Obj} (h:w.heap[g]?=some o):g<w.heap.size:=by
 rcases Nat.lt_or_ge g w.heap.size with h' | h'
 ·exact h'
 ·rw [Array.getElem?_eq_none h'] at h;cases h
theorem Rel.cell (hR:Rel G w0 st w) :∀g o v,G.H g o=some v→w.cell? ⟨g,o,none⟩=some v:=fun g o v h=>(hR.ext g o v h).1
theorem Rel.Hlt (hR:Rel G w0 st w) {g o:Nat} {v:Value} (h:G.H g o=some v):g<w.heap.size:=block_lt_of_cell (hR.ext g o v h).1
theorem Rel.grow (hR:Rel G w0 st w) {w':World} (hb:Below w.heap.size w w') {H':Hp} (hle:HLe G.H H')
  (hH :∀g o v,H' g o=some v→G.H g o=some v∨(w.heap.size≤g∧w'.cell? ⟨g,o,none⟩=some v∧v.oneCell'=true)):Rel ⟨H',G.ρ,G.ω,G.fm,G.M⟩ w0 st w':=by
 have hbox :∀g cs,BoxAt G w0 w cs g→BoxAt ⟨H',G.ρ,G.ω,G.fm,G.M⟩ w0 w' cs g:=by
  rintro g cs ⟨us,e,h1,h2,h3,h4,h5⟩
  refine ⟨us,e,h1,by rw [hb.block g (block_lt h2)];exact h2,Rs.mono (G':=⟨H',G.ρ,G.ω,G.fm,G.M⟩) ⟨hle,fun _ _ _ h=>h,fun _ _ _ h=>h,rfl,fun _ _ h=>h⟩ h3,h4,fun o=>?_⟩
  cases h:H' g o with
  | none=>exact h
  | some v=>
   rcases hH g o v h with h' | ⟨h',_⟩
   ·rw [h5 o] at h';cases h'
   ·have:=block_lt h2;omega
 refine ⟨?_,?_,fun k ver cs g h1 h2=>hbox g cs (hR.bx k ver cs g h1 h2),hR.inj,?_,hR.owinj,hR.fresh,fun k ver cs g hb' h1 h2=>?_,fun k ver n hb' h1 g cap size h2=>?_,fun b l hb'=>(hR.mp b l hb').keep fun es clock h=>hb.block b (block_lt h)⟩
 rotate_left 3
 ·obtain ⟨us,h3,h3n⟩:=hR.bxT k ver cs g hb' h1 h2
  exact ⟨us,by rw [hb.block g (block_lt h3)];exact h3,h3n⟩
 ·obtain ⟨us,h3⟩:=hR.owT k ver n hb' h1 g cap size h2
  exact ⟨us,by rw [hb.block g (block_lt h3)];exact h3⟩
 ·have hsz:=hR.bel.size
  exact hR.bel.trans (hb.mono hsz)
 ·intro g o v h
  rcases hH g o v h with h' | ⟨_,h1,h2⟩
  ·have hlt:=hR.Hlt h'
   obtain ⟨h1,h2⟩:=hR.ext g o v h'
   exact ⟨by rw [hb.cell (p:=⟨g,o,none⟩) hlt];exact h1,h2⟩
  ·exact ⟨h1,h2⟩
 ·intro k ver n h
  obtain ⟨g,cap,size,h1,⟨cur,e,h2,h3,h4,h5,h6,h7⟩,h8⟩:=hR.ow k ver n h
  refine ⟨g,cap,size,h1,⟨cur,e,h2,by rw [hb.block g (block_lt h3)];exact h3,h4,h5,h6,fun o ho=>?_⟩,h8⟩
  cases h':H' g o with
  | none=>exact h'
  | some v=>
   rcases hH g o v h' with h'' | ⟨h'',_⟩
   ·rw [h7 o ho] at h'';cases h''
   ·have:=block_lt h3;omega
theorem Rel.below (hR:Rel G w0 st w) {w':World} (hb:Below w.heap.size w w'):Rel G w0 st w':=
 hR.grow hb (H':=G.H) (fun _ _ _ h=>h) (fun _ _ _ h=>.inl h)
theorem Step.grow (hR:Rel G w0 st w) {w':World} (hb:Below w.heap.size w w') {H':Hp} (hle:HLe G.H H')
  (hH :∀g o v,H' g o=some v→G.H g o=some v∨(w.heap.size≤g∧w'.cell? ⟨g,o,none⟩=some v∧v.oneCell'=true)) {d site ver:Nat}:Step G ⟨H',G.ρ,G.ω,G.fm,G.M⟩ w0 st st w' d site ver:=
 ⟨⟨hle,fun _ _ _ h=>h,fun _ _ _ h=>h,rfl,fun _ _ h=>h⟩,hR.grow hb hle hH,Nat.le_refl _,fun _ _ _ _=>⟨rfl,rfl⟩,fun _ _ _ _ _ _ _ h=>h,fun g o v h=>by
  rcases hH g o v h with h' | ⟨h',_⟩
  ·exact .inl h'
  ·exact .inr (Nat.le_trans hR.bel.size h')⟩
theorem Rel.setM (hR:Rel G w0 st w) {M':Nat→Option (List (List UInt8 × Int))} (hle :∀b l,G.M b=some l→M' b=some l) (hM :∀b l,M' b=some l→MapAt w b l):Rel ⟨G.H,G.ρ,G.ω,G.fm,M'⟩ w0 st w:=
 ⟨hR.bel,hR.ext,fun k ver cs g h1 h2=>by
  obtain ⟨us,e,a1,a2,a3,a4,a5⟩:=hR.bx k ver cs g h1 h2
  exact ⟨us,e,a1,a2,Rs.mono (G:=G) (G':=⟨G.H,G.ρ,G.ω,G.fm,M'⟩) ⟨fun _ _ _ h=>h,fun _ _ _ h=>h,fun _ _ _ h=>h,rfl,hle⟩ a3,a4,a5⟩,hR.inj,hR.ow,hR.owinj,hR.fresh,hR.bxT,hR.owT,hM⟩
theorem Step.setM {G':Gh} {st':St} {w':World} {d site ver:Nat} (h:Step G G' w0 st st' w' d site ver) {M':Nat→Option (List (List UInt8 × Int))} (hle :∀b l,G'.M b=some l→M' b=some l) (hM :∀b l,M' b=some l→MapAt w' b l):Step G ⟨G'.H,G'.ρ,G'.ω,G'.fm,M'⟩ w0 st st' w' d site ver:=
 ⟨h.le.trans (B:=G') ⟨fun _ _ _ h=>h,fun _ _ _ h=>h,fun _ _ _ h=>h,rfl,hle⟩,h.rel.setM hle hM,h.nx,h.old,h.pend,h.newH⟩
theorem aload_ok (hR:Rel G w0 st w) {t:TypeId} {i:TI} (hT:TOk P t i) (_h1:i.kind.agg=false→i.size=1) {x r:AV} {vx:Value} (h:aload st i.size i.kind.agg x=some r) (hx:R G x vx) :
  ∃v,(Instr.loadAt t vx).run P w=.ok v w∧R G r v:=by
 obtain ⟨ti,z,hi,hsz,_⟩:=hT.info
 have key :∀(g o:Nat) (us:List Value),us.length=i.size→(∀(j:Nat) v,us[j]?=some v→w.cell? ⟨g,o+j,none⟩=some v)→∀{cs:List AV},Rs G cs us→ofCells i.kind.agg cs=some r→
   ∃v,(Instr.loadAt t (.pointer (some ⟨g,o,none⟩))).run P w=.ok v w∧R G r v:=by
  intro g o us hl hc cs hr ho
  rcases ofCells_ok hr ho with ⟨ha,hv⟩ | ⟨ha,v,rfl,hv⟩
  ·refine ⟨_,?_,hv⟩
   have hlc:=run_loadCells_list (P:=P) w ⟨g,o,none⟩ us (fun j v h=>by rw [Addr.add_lit];exact hc j v h)
   rw [hl] at hlc
   simp only [Instr.loadAt,Instr.sureAddr,Sem.run_bind,Sem.run_pure,Result.andThen_ok,loadVar,run_isAgg hT.kind,ha,if_true,sizeOf,typeInfo,run_program,hi,hsz,hlc]
  ·refine ⟨v,?_,hv⟩
   have:=hc 0 v rfl
   simp only [Nat.add_zero] at this
   simp only [Instr.loadAt,Instr.sureAddr,Sem.run_bind,Sem.run_pure,Result.andThen_ok,loadVar,run_isAgg hT.kind,ha,Bool.false_eq_true,if_false,run_load,this]
 unfold aload at h
 revert hx
 split at h
 ·rename_i cs
  intro hx
  split at h
  ·rename_i hle
   obtain ⟨g,o,us,rfl,hH,hF⟩:=hx.fp_inv
   have hlen:(cs.take i.size).length=i.size:=by simp;omega
   refine key g o ((List.range i.size).map us) (by simp) ?_ (cs:=cs.take i.size) ⟨by simp [hlen],?_⟩ h
   ·intro j v hv
    simp only [List.getElem?_map,Option.map_eq_some_iff] at hv
    obtain ⟨j',hj,rfl⟩:=hv
    have hj2:j'=j∧j<i.size:=by
     rcases Nat.lt_or_ge j i.size with h' | h'
     ·rw [List.getElem?_range h'] at hj;injection hj with hj;exact ⟨hj.symm,h'⟩
     ·rw [List.getElem?_eq_none (by simpa using h')] at hj;cases hj
    obtain ⟨rfl,hlt⟩:=hj2
    exact (hR.ext _ _ _ (hH j' cs[j'] (List.getElem?_eq_getElem (by omega)))).1
   ·intro j b u hb hu
    rw [List.getElem?_take] at hb
    split at hb
    ·rename_i hj
     simp only [List.getElem?_map,List.getElem?_range hj,Option.map_some] at hu
     injection hu with hu
     rw [← hu]
     exact .fz _ _ (hF j b hb)
    ·cases hb
  ·cases h
 ·rename_i k v o
  intro hx
  split at h
  ·rename_i v' cs hlk
   split at h
   ·rename_i hle
    obtain ⟨rfl,hle⟩:=hle
    obtain ⟨g,rfl,hρ⟩:=hx.p_inv
    obtain ⟨us,e,_,hheap,hr,_,_⟩:=hR.bx k v' cs g hlk hρ
    have hl:us.length=cs.length:=hr.1.symm
    refine key g o ((us.drop o).take i.size) (by simp;omega) ?_ (hr.sub o i.size) h
    intro j u hu
    rw [List.getElem?_take] at hu
    split at hu
    ·rw [List.getElem?_drop] at hu
     simp [World.cell?,hheap,hu]
    ·cases hu
   ·cases h
  ·cases h
 ·cases h
theorem Rel.setBox (hR:Rel G w0 st w) {k:Key} {ver g:Nat} {cs:List AV} (hk:lk st.bx k=some (ver,cs)) (hρ:G.ρ k ver=some g) {us:List Value} {cs':List AV} (hr:Rs G cs' us) (h1 :∀x∈us,x.oneCell'=true) (hN:bigSite≤k.2→cs'[1]?=some (.sl .full [])→us[1]?=some (.slice none 0 0)) :
  Rel G w0 { st with bx:=st_ st.bx k (ver,cs') } (w.setRow g us.toArray):=by
 obtain ⟨us0,e,hge,hheap,_,_,hnone⟩:=hR.bx k ver cs g hk hρ
 have hget :∀k' ver' cs1,lk (st_ st.bx k (ver,cs')) k'=some (ver',cs1)→(k'=k∧ver'=ver∧cs1=cs')∨(k'≠k∧lk st.bx k'=some (ver',cs1)):=by
  intro k' ver' cs1 h
  rw [lk_st] at h
  split at h
  ·rename_i he;cases h;exact .inl ⟨he.symm,rfl,rfl⟩
  ·rename_i he;exact .inr ⟨fun e=>he e.symm,h⟩
 refine ⟨?_,?_,?_,?_,?_,hR.owinj,hR.fresh,?_,?_,fun b l hb=>(hR.mp b l hb).keep fun es clock hm=>setRow_other w g b us.toArray (fun e=>by rw [e,hheap] at hm;cases hm)⟩
 rotate_left 5
 ·intro k' ver' cs1 g' hb h hg'
  rcases hget _ _ _ h with ⟨rfl,rfl,rfl⟩ | ⟨hne,h⟩
  ·obtain ⟨us',h3,_⟩:=hR.bxT _ _ _ g' hb hk hg'
   rw [hρ] at hg'
   cases hg'
   rw [hheap] at h3
   injection h3 with h3
   injection h3 with _ h3
   exact ⟨_,by rw [← h3];exact setRow_heap w g _ _ e (0,0) hheap,fun h=>by simpa using hN hb h⟩
  ·obtain ⟨us',h3,h3n⟩:=hR.bxT k' ver' cs1 g' hb h hg'
   refine ⟨us',?_,h3n⟩
   rw [setRow_other w g g' us.toArray (fun e=>hne (hR.inj k' k ver' ver cs1 cs g' h hk hg' (e ▸ hρ)))]
   exact h3
 ·intro k' ver' n hb h g' cap size hω
  obtain ⟨us',h3⟩:=hR.owT k' ver' n hb h g' cap size hω
  obtain ⟨g1,cap1,size1,h1',_,h8⟩:=hR.ow k' ver' n h
  rw [hω] at h1'
  cases h1'
  refine ⟨us',?_⟩
  rw [setRow_other w g g' us.toArray (fun e=>h8 k ver cs hk (e ▸ hρ))]
  exact h3
 ·exact hR.bel.trans ⟨rfl,rfl,rfl,by simp,fun i hi=>setRow_other w g i us.toArray (by omega)⟩
 ·intro g' o v h
  obtain ⟨h2,h3⟩:=hR.ext g' o v h
  refine ⟨?_,h3⟩
  rw [cell_setRow_other w g us.toArray ⟨g',o,none⟩ (by rintro rfl;rw [hnone o] at h;cases h)]
  exact h2
 ·intro k' ver' cs1 g' h hg'
  rcases hget _ _ _ h with ⟨rfl,rfl,rfl⟩ | ⟨hne,h⟩
  ·rw [hρ] at hg'
   cases hg'
   exact ⟨us,e,hge,setRow_heap w g _ _ e (0,0) hheap,hr,h1,hnone⟩
  ·obtain ⟨us1,e1,a1,a2,a3,a4,a5⟩:=hR.bx k' ver' cs1 g' h hg'
   refine ⟨us1,e1,a1,?_,a3,a4,a5⟩
   rw [setRow_other w g g' us.toArray (fun e=>hne (hR.inj k' k ver' ver cs1 cs g' h hk hg' (e ▸ hρ)))]
   exact a2
 ·intro k1 k2 v1 v2 c1 c2 g' h1 h2 r1 r2
  have conv :∀k' v' c',lk (st_ st.bx k (ver,cs')) k'=some (v',c')→∃c'',lk st.bx k'=some (v',c''):=by
   intro k' v' c' h
   rcases hget _ _ _ h with ⟨rfl,rfl,rfl⟩ | ⟨_,h⟩
   ·exact ⟨_,hk⟩
   ·exact ⟨_,h⟩
  obtain ⟨c1',h1'⟩:=conv _ _ _ h1
  obtain ⟨c2',h2'⟩:=conv _ _ _ h2
  exact hR.inj k1 k2 v1 v2 c1' c2' g' h1' h2' r1 r2
 ·intro k' ver' n h
  obtain ⟨g',cap,size,h1',⟨cur,e',a1,a2,a3,a4,a5,a6⟩,h8⟩:=hR.ow k' ver' n h
  refine ⟨g',cap,size,h1',⟨cur,e',a1,?_,a3,a4,a5,a6⟩,?_⟩
  ·rw [setRow_other w g g' us.toArray (fun e=>h8 k ver cs hk (e ▸ hρ))]
   exact a2
  ·intro k2 v2 c2 h2 r2
   rcases hget _ _ _ h2 with ⟨rfl,rfl,rfl⟩ | ⟨_,h2⟩
   ·exact h8 _ _ _ hk r2
   ·exact h8 _ _ _ h2 r2
theorem setAt_length :∀(vs:List AV) (cs:List AV) (o:Nat),(setAt cs o vs).length=cs.length
 | [],cs,o=>rfl
 | v::r,cs,o=>by simp [setAt,setAt_length r]
theorem setAt_get :∀(vs:List AV) (cs:List AV) (o:Nat),o+vs.length≤cs.length→∀j,(setAt cs o vs)[j]?=if o≤j∧j<o+vs.length then vs[j-o]? else cs[j]?
 | [],cs,o,_,j=>by simp [setAt];omega
 | v::r,cs,o,h,j=>by
  simp only [List.length_cons] at h
  rw [setAt,setAt_get r (cs.set o v) (o+1) (by simp;omega) j]
  by_cases hj:o=j
  ·subst hj
   rw [if_neg (by omega),if_pos (by simp),List.getElem?_set_self (by omega)]
   simp
  ·by_cases h2:o+1≤j∧j<o+1+r.length
   ·rw [if_pos h2,if_pos (by simp;omega)]
    have:j-o=(j-(o+1))+1:=by omega
    rw [this,List.getElem?_cons_succ]
   ·rw [if_neg h2,if_neg (by simp;omega),List.getElem?_set_ne hj]
theorem Rs.setAt_ {cs vs:List AV} {us xs:List Value} (hr:Rs G cs us) (hv:Rs G vs xs) {o:Nat} (hle:o+vs.length≤cs.length):Rs G (setAt cs o vs) (us.take o++xs++us.drop (o+xs.length)):=by
 have hl:=hr.1
 have hlx:=hv.1
 refine ⟨by rw [setAt_length];simp;omega,fun j a u h1 h2=>?_⟩
 rw [setAt_get vs cs o hle j] at h1
 rw [List.append_assoc,List.getElem?_append] at h2
 simp only [List.length_take] at h2
 by_cases hj:j<o
 ·rw [if_neg (by omega)] at h1
  rw [if_pos (by omega),List.getElem?_take,if_pos hj] at h2
  exact hr.2 j a u h1 h2
 ·rw [if_neg (by omega),List.getElem?_append,show min o us.length=o from by omega] at h2
  by_cases hj2:j<o+vs.length
  ·rw [if_pos ⟨by omega,hj2⟩] at h1
   rw [if_pos (by omega)] at h2
   exact hv.2 _ a u h1 h2
  ·rw [if_neg (by omega)] at h1
   rw [if_neg (by omega),List.getElem?_drop] at h2
   refine hr.2 j a u h1 ?_
   rw [← h2]
   congr 1
   omega
theorem split_get {us xs:List Value} {o j:Nat} (hle:o+xs.length≤us.length) (hj:¬(o≤j∧j<o+xs.length)):(us.take o++xs++us.drop (o+xs.length))[j]?=us[j]?:=by
 rw [List.append_assoc,List.getElem?_append]
 simp only [List.length_take]
 by_cases h:j<o
 ·rw [if_pos (by omega),List.getElem?_take,if_pos h]
 ·rw [if_neg (by omega),List.getElem?_append,if_neg (by omega),List.getElem?_drop]
  congr 1
  omega
theorem astore_ok (hR:Rel G w0 st w) {t:TypeId} {i:TI} (hT:TOk P t i) {x y:AV} {vx vy:Value} {st':St} (h:astore st i.size x y=some st') (hx:R G x vx) (hy:R G y vy) {d site ver:Nat} :
  ∃w',(Instr.storeAt t vx vy).run P w=.ok () w'∧Step G G w0 st st' w' d site ver:=by
 obtain ⟨ti,z,hi,hsz,_⟩:=hT.info
 unfold astore at h
 revert hx
 split at h
 ·rename_i k v o
  intro hx
  split at h
  ·rename_i v' cs hlk
   split at h
   ·rename_i hle
    obtain ⟨rfl,hle,hlen,hone,hok⟩:=hle
    cases h
    obtain ⟨g,rfl,hρ⟩:=hx.p_inv
    obtain ⟨us,e,hge,hheap,hr,hu1,hnone⟩:=hR.bx k v' cs g hlk hρ
    obtain ⟨xs,hxs,hrx,hlx,hx1⟩:=hy.cells hone
    have hl:us.length=cs.length:=hr.1.symm
    have hst:=run_storeCells_at (P:=P) g o e xs 0 us.toArray w hheap (by simp;omega) hx1
    simp only [Nat.add_zero] at hst
    refine ⟨_,?_,⟨.refl G,hR.setBox hlk hρ (hr.setAt_ hrx (by omega)) ?_ ?_,Nat.le_refl _,fun _ _ _ _=>⟨rfl,rfl⟩,?_,fun _ _ _ h=>.inl h⟩⟩
    ·have hsize:¬ (xs.toArray.size≠ti.size):=by rw [hsz];simp;omega
     simp only [Instr.storeAt,Instr.sureAddr,Sem.run_bind,Sem.run_pure,Result.andThen_ok,storeVar,sizeOf,typeInfo,run_program,hi,hxs]
     rw [if_neg hsize,hst]
    ·intro u hu
     simp only [List.mem_append] at hu
     rcases hu with (hu | hu) | hu
     ·exact hu1 u (List.mem_of_mem_take hu)
     ·exact hx1 u hu
     ·exact hu1 u (List.mem_of_mem_drop hu)
    ·intro hb hcs
     obtain ⟨us',h3,h3n⟩:=hR.bxT k v' cs g hb hlk hρ
     rw [hheap] at h3
     injection h3 with h3
     injection h3 with h3
     subst h3
     rw [setAt_get y.cells cs o (by omega) 1] at hcs
     split at hcs
     ·exfalso
      have:y.cells.any AV.isF0=true:=List.any_eq_true.2 ⟨_,List.mem_of_getElem? hcs,rfl⟩
      unfold okSt at hok
      rw [this] at hok
      have h9:Nat.blt k.2 bigSite=true:=by simpa using hok
      rw [Nat.blt_eq] at h9
      omega
     ·rename_i hnr
      have h8:=h3n hcs
      rw [split_get (by omega) (by omega)]
      simpa using h8
    ·intro k' v2 cs2 _ _ _ hn h2
     have hne:k≠k':=by
      rintro rfl
      rw [hlk] at h2
      cases h2
      rw [hρ] at hn
      cases hn
     simpa [lk_st_ne st.bx _ hne] using h2
   ·cases h
  ·cases h
 ·cases h
end
end Go.AM

/- Parts of the proof. -/
namespace Go.AM
open Go Go.RowKit
def Gh.setρ (G:Gh) (k:Key) (v g:Nat):Gh:=⟨G.H,fun k' v'=>if k'=k∧v'=v then some g else G.ρ k' v',G.ω,G.fm,G.M⟩
section
variable {P:Program} {G:Gh} {w0 w:World} {st:St}
theorem Gh.le_setρ {k:Key} {v:Nat} (h:G.ρ k v=none) (g:Nat):G.Le (G.setρ k v g):=
 ⟨fun _ _ _ h=>h,fun k' v' g' h'=>by
  show (if k'=k∧v'=v then some g else G.ρ k' v')=some g'
  rw [if_neg (by rintro ⟨rfl,rfl⟩;rw [h] at h';cases h')]
  exact h',fun _ _ _ h=>h,rfl,fun _ _ h=>h⟩
theorem Rel.newBox (hR:Rel G w0 st w) {key:Key} {ver:Nat} {cs:List AV} {us:List Value} {e:TypeId} (hT:bigSite≤key.2→e=btOf G.fm) (hN:bigSite≤key.2→cs[1]?=some (.sl .full [])→us[1]?=some (.slice none 0 0)) (hr:Rs G cs us) (h1 :∀x∈us,x.oneCell'=true) (hρ:G.ρ key ver=none) (hv:ver<st.nx)
  {bx':List (Key × Nat × List AV)} (hk:lk bx' key=some (ver,cs)) (hne :∀k,k≠key→lk bx' k=lk st.bx k) :
  Rel (G.setρ key ver w.heap.size) w0 { st with bx:=bx' } (w.alloc (.cells us.toArray e)):=by
 have hle:=G.le_setρ hρ w.heap.size
 have hbel:Below w.heap.size w (w.alloc (.cells us.toArray e)):=(Below.refl _ _).alloc (Nat.le_refl _) _
 have hsz:=hR.bel.size
 have hold :∀k v g,(G.setρ key ver w.heap.size).ρ k v=some g→(k=key∧v=ver∧g=w.heap.size)∨G.ρ k v=some g:=by
  intro k v g h
  have h':(if k=key∧v=ver then some w.heap.size else G.ρ k v)=some g:=h
  split at h'
  ·rename_i hh;cases h';exact .inl ⟨hh.1,hh.2,rfl⟩
  ·exact .inr h'
 have hbox :∀g cs,BoxAt G w0 w cs g→BoxAt (G.setρ key ver w.heap.size) w0 (w.alloc (.cells us.toArray e)) cs g∧g<w.heap.size:=by
  rintro g cs ⟨us1,e1,a1,a2,a3,a4,a5⟩
  exact ⟨⟨us1,e1,a1,by rw [hbel.block g (block_lt a2)];exact a2,a3.mono hle,a4,a5⟩,block_lt a2⟩
 -- an entry other than the new one is an old one
 have hent :∀k v c g,lk bx' k=some (v,c)→(G.setρ key ver w.heap.size).ρ k v=some g→(k=key∧v=ver∧c=cs∧g=w.heap.size)∨(k≠key∧lk st.bx k=some (v,c)∧G.ρ k v=some g∧g<w.heap.size):=by
  intro k v c g hl hg
  by_cases hkk:k=key
  ·subst hkk
   rw [hk] at hl
   cases hl
   rcases hold _ _ _ hg with ⟨_,_,rfl⟩ | h
   ·exact .inl ⟨rfl,rfl,rfl,rfl⟩
   ·rw [hρ] at h;cases h
  ·rw [hne k hkk] at hl
   rcases hold _ _ _ hg with ⟨rfl,_⟩ | h
   ·exact absurd rfl hkk
   ·exact .inr ⟨hkk,hl,h,(hbox g c (hR.bx k v c g hl h)).2⟩
 refine ⟨hR.bel.trans (hbel.mono hsz),?_,?_,?_,?_,hR.owinj,?_,?_,?_,fun b l hb=>(hR.mp b l hb).keep fun es clock h=>hbel.block b (block_lt h)⟩
 rotate_left 5
 ·intro k v c g hb hl hg
  rcases hent k v c g hl hg with ⟨rfl,rfl,rfl,rfl⟩ | ⟨_,h1',h2',_⟩
  ·exact ⟨_,by rw [show btOf (G.setρ _ _ _).fm=btOf G.fm from rfl,← hT hb];exact heap_alloc_new w _,fun h=>by simpa using hN hb h⟩
  ·obtain ⟨us',h3,h3n⟩:=hR.bxT k v c g hb h1' h2'
   exact ⟨us',by rw [hbel.block g (block_lt h3)];exact h3,h3n⟩
 ·intro k v n hb h g cap size hω
  obtain ⟨us',h3⟩:=hR.owT k v n hb h g cap size hω
  exact ⟨us',by rw [hbel.block g (block_lt h3)];exact h3⟩
 ·intro g o v h
  have hlt:=hR.Hlt (G:=G) h
  obtain ⟨a,b⟩:=hR.ext g o v h
  exact ⟨by rw [hbel.cell (p:=⟨g,o,none⟩) hlt];exact a,b⟩
 ·intro k v c g hl hg
  rcases hent k v c g hl hg with ⟨rfl,rfl,rfl,rfl⟩ | ⟨_,h1',h2',_⟩
  ·refine ⟨us,e,hsz,heap_alloc_new w _,hr.mono hle,h1,fun o=>?_⟩
   cases h:G.H w.heap.size o with
   | none=>exact h
   | some v=>have:=hR.Hlt h;omega
  ·exact (hbox g c (hR.bx k v c g h1' h2')).1
 ·intro k k' v v' c c' g a1 a2 a3 a4
  rcases hent k v c g a1 a3 with ⟨rfl,rfl,rfl,rfl⟩ | ⟨_,b1,b2,b3⟩
  ·rcases hent k' v' c' _ a2 a4 with ⟨rfl,_⟩ | ⟨_,_,_,b3⟩
   ·rfl
   ·omega
  ·rcases hent k' v' c' g a2 a4 with ⟨rfl,rfl,rfl,rfl⟩ | ⟨_,d1,d2,_⟩
   ·omega
   ·exact hR.inj k k' v v' c c' g b1 d1 b2 d2
 ·intro k v n h
  obtain ⟨g,cap,size,h1',⟨cur,e',a1,a2,a3,a4,a5,a6⟩,h8⟩:=hR.ow k v n h
  refine ⟨g,cap,size,h1',⟨cur,e',a1,by rw [hbel.block g (block_lt a2)];exact a2,a3,a4,a5,a6⟩,?_⟩
  intro k2 v2 c2 hl hg
  rcases hent k2 v2 c2 g hl hg with ⟨_,_,_,rfl⟩ | ⟨_,b1,b2,_⟩
  ·have:=block_lt a2;omega
  ·exact h8 k2 v2 c2 b1 b2
 ·intro k v hkv
  have:=hR.fresh k v hkv
  refine ⟨?_,this.2⟩
  show (if k=key∧v=ver then some w.heap.size else G.ρ k v)=none
  rw [if_neg (by rintro ⟨_,rfl⟩;have:st.nx≤v:=hkv;omega)]
  exact this.1
theorem Step.newBox (hR:Rel G w0 st w) {d site ver:Nat} {cs:List AV} {us:List Value} {e:TypeId} (hT:bigSite≤site→e=btOf G.fm) (hN:bigSite≤site→cs[1]?=some (.sl .full [])→us[1]?=some (.slice none 0 0)) (hr:Rs G cs us) (h1 :∀x∈us,x.oneCell'=true) (hρ:G.ρ (d,site) ver=none) (hv:ver<st.nx)
  {bx':List (Key × Nat × List AV)} (hk:lk bx' (d,site)=some (ver,cs)) (hne :∀k,k≠(d,site)→lk bx' k=lk st.bx k) :
  Step G (G.setρ (d,site) ver w.heap.size) w0 st { st with bx:=bx' } (w.alloc (.cells us.toArray e)) d site ver:=
 ⟨G.le_setρ hρ _,hR.newBox hT hN hr h1 hρ hv hk hne,Nat.le_refl _,fun k v _ hn=>⟨by
  show (if k=(d,site)∧v=ver then some w.heap.size else G.ρ k v)=_
  rw [if_neg (by rintro ⟨rfl,rfl⟩;exact hn rfl)],rfl⟩,fun k v cs _ _ hn _ hl=>by show lk bx' k=_;rw [hne k hn];exact hl,fun _ _ _ h=>.inl h⟩
theorem cVal_one {v:Value} {x:AV} (h:cVal v=some x):v.oneCell'=true:=by
 unfold cVal at h
 split at h<;>first | rfl | cases h
theorem cVals_one :∀{vs:List Value} {xs:List AV},cVals vs=some xs→∀v∈vs,v.oneCell'=true
 | [],_,_,v,hv=>by cases hv
 | a::r,xs,h,v,hv=>by
  unfold cVals at h
  split at h
  ·rename_i w l hw hl
   rcases List.mem_cons.1 hv with rfl | hv
   ·exact cVal_one hw
   ·exact cVals_one hl v hv
  ·cases h
theorem cVals_nil :∀{vs:List Value} {xs:List AV},cVals vs=some xs→∀{j:Nat},xs[j]?=some (.sl .full [])→vs[j]?=some (.slice none 0 0)
 | [],xs,h,j,hj=>by cases h;simp at hj
 | a::r,xs,h,j,hj=>by
  unfold cVals at h
  split at h
  ·rename_i w l hw hl
   cases h
   cases j with
   | zero=>
    simp only [List.getElem?_cons_zero,Option.some.injEq] at hj ⊢
    subst hj
    unfold cVal at hw
    split at hw<;>first | rfl | cases hw
   | succ j=>
    rw [List.getElem?_cons_succ] at hj ⊢
    exact cVals_nil hl hj
  ·cases h
theorem aalloc_ok (hR:Rel G w0 st w) {t:TypeId} {i:TI} (hT:TOk P t i) {d site ver:Nat} (hB:bigSite≤site→t=btOf G.fm) (hk:lk st.bx (d,site)=some (ver,i.zero)) (hρ:G.ρ (d,site) ver=none) (hv:ver<st.nx) :
  ∃v w' G',(Instr.alloc t true (.tuple #[])).run P w=.ok v w'∧R G' (.p (d,site) ver 0) v∧Step G G' w0 st st w' d site ver:=by
 obtain ⟨ti,z,hi,_,_,hz,hc,_⟩:=hT.info
 have hst:=Step.newBox (e:=t) hR hB (fun _ h=>cVals_nil hc h) (cVals_ok (G:=G) hc) (cVals_one hc) hρ hv (bx':=st.bx) hk (fun _ _=>rfl)
 refine ⟨_,_,_,?_,.p _ _ _ w.heap.size ?_,hst⟩
 ·simp only [Instr.alloc,zeroValue,typeInfo,Sem.run_bind,run_program,Result.andThen_ok,hi,hz,Sem.run_pure,newVar,newRow,run_newObj]
  rfl
 ·show (if _=_∧_=_ then some w.heap.size else _)=some w.heap.size
  rw [if_pos ⟨rfl,rfl⟩]
theorem abox_ok (hR:Rel G w0 st w) {t:TypeId} {x:AV} {vx:Value} (hx:R G x vx) (hone:x.cells.all AV.one=true) {d site ver:Nat} (hB:bigSite≤site→False) (hρ:G.ρ (d,site) ver=none) (hv:ver<st.nx) :
  ∃v w' G',(Instr.box t vx).run P w=.ok v w'∧R G' (.p (d,site) ver 0) v∧Step G G' w0 st { st with bx:=st_ st.bx (d,site) (ver,x.cells) } w' d site ver:=by
 obtain ⟨us,hus,hr,_,h1⟩:=hx.cells hone
 have hst:=Step.newBox (e:=t) hR (fun h=>(hB h).elim) (fun h=>(hB h).elim) hr h1 hρ hv (bx':=st_ st.bx (d,site) (ver,x.cells)) (lk_st_same _ _ _) (fun k hk=>lk_st_ne _ _ (Ne.symm hk))
 refine ⟨_,_,_,?_,.p _ _ _ w.heap.size ?_,hst⟩
 ·simp only [Instr.box,newVar,newRow,Sem.run_bind,run_newObj,Result.andThen_ok,Sem.run_pure,hus]
  rfl
 ·show (if _=_∧_=_ then some w.heap.size else _)=some w.heap.size
  rw [if_pos ⟨rfl,rfl⟩]
theorem soft_ok {x y:AV} {v:Value} (h:x.soft=some y) (hx:R G x v):Fz G.H y v:=by
 cases x with
 | sl o rows=>cases h;obtain ⟨A,cap,rfl,hF,_⟩:=hx.sl_inv;exact hF
 | i k n=>cases h;rw [hx.int_inv];exact .i _ _
 | b t=>cases h;rw [hx.bool_inv];exact .b _
 | s l=>cases h;rw [hx.str_inv];exact .s _
 | np=>cases h;rw [hx.np_inv];exact .np
 | nf=>cases h;rw [hx.nf_inv];exact .nf
 | ni=>cases h;rw [hx.ni_inv];exact .ni
 | mp=>cases h
 | p=>cases h
 | fp=>cases h
 | ag=>cases h
 | tup=>cases h
 | fn=>cases h
 | bf=>cases h
 | u=>cases h
theorem softs_len :∀{xs ys:List AV},softs xs=some ys→ys.length=xs.length
 | [],ys,h=>by cases h;rfl
 | v::r,ys,h=>by
  unfold softs at h
  split at h
  ·rename_i w l hw hl;cases h;simp [softs_len hl]
  ·cases h
theorem softs_ok :∀{xs ys:List AV},softs xs=some ys→∀{us:List Value},Rs G xs us→∀(j:Nat) y u,ys[j]?=some y→us[j]?=some u→Fz G.H y u
 | [],ys,h,us,_,j,y,u,hy,_=>by cases h;simp at hy
 | v::r,ys,h,us,hr,j,y,u,hy,hu=>by
  unfold softs at h
  split at h
  ·rename_i w l hw hl
   cases h
   cases us with
   | nil=>have:=hr.1;simp at this
   | cons u0 us=>
    have hr':Rs G r us:=⟨by have:=hr.1;simpa using this,fun j a u h1 h2=>hr.2 (j+1) a u (by simpa using h1) (by simpa using h2)⟩
    cases j with
    | zero=>simp at hy hu;subst hy;subst hu;exact soft_ok hw (hr.2 0 v u0 rfl rfl)
    | succ j=>simp at hy hu;exact softs_ok hl hr' j y u hy hu
  ·cases h
theorem Rel.freezeBox (hR:Rel G w0 st w) {k:Key} {ver g:Nat} {cs:List AV} (hk:lk st.bx k=some (ver,cs)) (hρ:G.ρ k ver=some g) {us:List Value} {e:TypeId} (hheap:w.heap[g]?=some (.cells us.toArray e (0,0))) (h1 :∀x∈us,x.oneCell'=true) :
  Rel ⟨fun g' o=>if g'=g then us[o]? else G.H g' o,G.ρ,G.ω,G.fm,G.M⟩ w0 { st with bx:=del st.bx k } w:=by
 obtain ⟨_,_,_,_,_,_,hnone⟩:=hR.bx k ver cs g hk hρ
 have hle:G.Le ⟨fun g' o=>if g'=g then us[o]? else G.H g' o,G.ρ,G.ω,G.fm,G.M⟩:=⟨fun g' o v h=>by
  show (if g'=g then us[o]? else G.H g' o)=some v
  rw [if_neg (by rintro rfl;rw [hnone o] at h;cases h)]
  exact h,fun _ _ _ h=>h,fun _ _ _ h=>h,rfl,fun _ _ h=>h⟩
 have hget :∀k' v' c',lk (del st.bx k) k'=some (v',c')→k'≠k∧lk st.bx k'=some (v',c'):=by
  intro k' v' c' h
  rw [lk_del] at h
  split at h
  ·cases h
  ·rename_i hn;exact ⟨hn,h⟩
 refine ⟨hR.bel,?_,?_,?_,?_,hR.owinj,hR.fresh,fun k' v' c' g' hb h hg'=>hR.bxT k' v' c' g' hb (hget _ _ _ h).2 hg',hR.owT,hR.mp⟩
 ·intro g' o v h
  have h':(if g'=g then us[o]? else G.H g' o)=some v:=h
  split at h'
  ·rename_i hg
   subst hg
   exact ⟨by simp [World.cell?,hheap,h'],h1 v (List.mem_of_getElem? h')⟩
  ·exact hR.ext g' o v h'
 ·intro k' v' c' g' h hg'
  obtain ⟨hn,h⟩:=hget _ _ _ h
  obtain ⟨us1,e1,a1,a2,a3,a4,a5⟩:=hR.bx k' v' c' g' h hg'
  refine ⟨us1,e1,a1,a2,a3.mono hle,a4,fun o=>?_⟩
  show (if g'=g then us[o]? else G.H g' o)=none
  rw [if_neg (by rintro rfl;exact hn (hR.inj k' k v' ver c' cs g' h hk hg' hρ))]
  exact a5 o
 ·intro k1 k2 v1 v2 c1 c2 g' a1 a2 a3 a4
  exact hR.inj k1 k2 v1 v2 c1 c2 g' (hget _ _ _ a1).2 (hget _ _ _ a2).2 a3 a4
 ·intro k' v' n h
  obtain ⟨g',cap,size,h1',⟨cur,e',a1,a2,a3,a4,a5,a6⟩,h8⟩:=hR.ow k' v' n h
  refine ⟨g',cap,size,h1',⟨cur,e',a1,a2,a3,a4,a5,fun o ho=>?_⟩,fun k2 v2 c2 h2=>h8 k2 v2 c2 (hget _ _ _ h2).2⟩
  show (if g'=g then us[o]? else G.H g' o)=none
  rw [if_neg (by rintro rfl;exact h8 k ver cs hk hρ)]
  exact a6 o ho
theorem chunk_get (size n:Nat) (cs:List AV) (i:Nat):(chunk size n cs)[i]?=if i<n then some ((cs.drop (i*size)).take size) else none:=by
 unfold chunk
 rw [List.getElem?_map]
 by_cases h:i<n
 ·rw [List.getElem?_range h,if_pos h];rfl
 ·rw [List.getElem?_eq_none (by simpa using h),if_neg h];rfl
theorem slA_ok (hR:Rel G w0 st w) {t:TypeId} {n e:Nat} (ht:P.underlying t=some (.array n e)) {ti:TypeInfo} (hi:P.info? e=some ti) {σ:Sl} {a:Act} {x:Opd} {x':Operand} (hx:Same G σ a x' x) {lo hi':Option Opd} {lo' hi'':Option Operand} (hlo:SameO G σ a lo' lo) (hhi:SameO G σ a hi'' hi')
  {C:CallF} {d site ver:Nat} {r:AV} {st':St} (h:aexec C d site ver σ st (.slA n ti.size x lo hi')=some (r,st')) :
  ∃v G',(Instr.sliceAt t (a.eval x') (lo'.map a.eval) (hi''.map a.eval) none).run P w=.ok v w∧R G' r v∧Step G G' w0 st st' w d site ver:=by
 simp only [aexec] at h
 split at h
 ·rename_i k v o hxe
  split at h
  ·rename_i v' cs hlk
   split at h
   ·rename_i hc
    obtain ⟨rfl,rfl,hlen,hpos⟩:=hc
    split at h
    ·rename_i cs' hsoft
     simp only [Option.map_eq_some_iff,Prod.exists,Prod.mk.injEq] at h
     obtain ⟨l,u,hb,rfl,rfl⟩:=h
     unfold Same at hx
     rw [hxe] at hx
     obtain ⟨g,hv,hρ⟩:=hx.p_inv
     obtain ⟨us,eb,hge,hheap,hr,hu1,hnone⟩:=hR.bx k v' cs g hlk hρ
     obtain ⟨hrun,h1,h2⟩:=bnds_ok (P:=P) (w:=w) hlo hhi hb (Nat.le_refl n) false
     have hl':=softs_len hsoft
     have hul:us.length=cs.length:=hr.1.symm
     refine ⟨.slice (some (if n=l then ⟨g,0,none⟩ else ⟨g,l*ti.size,none⟩)) (u-l) (n-l),_,?_,?_,⟨?_,hR.freezeBox hlk hρ hheap hu1,Nat.le_refl _,fun _ _ _ _=>⟨rfl,rfl⟩,?_,?_⟩⟩
     ·rw [hv]
      simp only [Instr.sliceAt,Sem.run_bind,run_underlying ht,Result.andThen_ok,Instr.sureAddr,Sem.run_pure,hrun,sizeOf,typeInfo,run_program,hi,Addr.add_lit,Nat.zero_add]
     ·have hlen2:(((chunk ti.size n cs').drop l).take (u-l)).length=u-l:=by simp [chunk];omega
      have hrow :∀(i:Nat) row,(((chunk ti.size n cs').drop l).take (u-l))[i]?=some row→i<u-l∧row=(cs'.drop ((l+i)*ti.size)).take ti.size:=by
       intro i row hrow
       rw [List.getElem?_take] at hrow
       split at hrow
       ·rename_i hi2
        rw [List.getElem?_drop,chunk_get,if_pos (by omega)] at hrow
        exact ⟨hi2,by injection hrow with hrow;exact hrow.symm⟩
       ·cases hrow
      have hcell :∀(i:Nat) row (j:Nat) b,(((chunk ti.size n cs').drop l).take (u-l))[i]?=some row→row[j]?=some b→j<ti.size∧cs'[(l+i)*ti.size+j]?=some b:=by
       intro i row j b h3 h4
       obtain ⟨h5,rfl⟩:=hrow i row h3
       rw [List.getElem?_take] at h4
       split at h4
       ·rename_i hj;rw [List.getElem?_drop] at h4;exact ⟨hj,h4⟩
       ·cases h4
      have hgo:R ⟨fun g' o=>if g'=g then us[o]? else G.H g' o,G.ρ,G.ω,G.fm,G.M⟩ (.sl .ext (((chunk ti.size n cs').drop l).take (u-l))) (.slice (some (if n=l then ⟨g,0,none⟩ else ⟨g,l*ti.size,none⟩)) (((chunk ti.size n cs').drop l).take (u-l)).length (n-l)):=by
       refine .fz _ _ (.sl _ _ _ ti.size g (l*ti.size) (fun i j=>us.getD ((l+i)*ti.size+j) undef) ?_ (by omega) ?_ ?_ ?_)
       ·intro hne
        rw [if_neg]
        rintro rfl
        apply hne
        apply List.eq_nil_of_length_eq_zero
        rw [hlen2];omega
       ·intro i row h3
        obtain ⟨h5,rfl⟩:=hrow i row h3
        have:(l+i)*ti.size+ti.size≤n*ti.size:=by
         rw [← Nat.succ_mul];exact Nat.mul_le_mul_right _ (by omega)
        simp;omega
       ·intro i row j b h3 h4
        obtain ⟨hj,h5⟩:=hcell i row j b h3 h4
        have hlt:(l+i)*ti.size+j<us.length:=by
         rw [hul,← hl']
         rcases Nat.lt_or_ge ((l+i)*ti.size+j) cs'.length with h | h
         ·exact h
         ·rw [List.getElem?_eq_none h] at h5;cases h5
        show (if g=g then us[l*ti.size+i*ti.size+j]? else _)=_
        rw [if_pos rfl,← Nat.add_mul,List.getElem?_eq_getElem hlt]
        simp [List.getD,List.getElem?_eq_getElem hlt]
       ·intro i row j b h3 h4
        obtain ⟨hj,h5⟩:=hcell i row j b h3 h4
        have hlt:(l+i)*ti.size+j<us.length:=by
         rw [hul,← hl']
         rcases Nat.lt_or_ge ((l+i)*ti.size+j) cs'.length with h | h
         ·exact h
         ·rw [List.getElem?_eq_none h] at h5;cases h5
        have h6:=softs_ok hsoft hr _ b us[(l+i)*ti.size+j] h5 (List.getElem?_eq_getElem hlt)
        have h7:us.getD ((l+i)*ti.size+j) undef=us[(l+i)*ti.size+j]:=by simp [List.getD,List.getElem?_eq_getElem hlt]
        show Fz _ b (us.getD ((l+i)*ti.size+j) undef)
        rw [h7]
        refine h6.mono (fun g' o v h=>?_)
        show (if g'=g then us[o]? else G.H g' o)=some v
        rw [if_neg (by rintro rfl;rw [hnone o] at h;cases h)]
        exact h
      rw [hlen2] at hgo
      exact hgo
     ·exact ⟨fun g' o v h=>by
       show (if g'=g then us[o]? else G.H g' o)=some v
       rw [if_neg (by rintro rfl;rw [hnone o] at h;cases h)]
       exact h,fun _ _ _ h=>h,fun _ _ _ h=>h,rfl,fun _ _ h=>h⟩
     ·intro k' v2 cs2 _ _ _ hn h3
      rw [show ({ st with bx:=del st.bx k }:St).bx=del st.bx k from rfl,lk_del]
      rw [if_neg]
      ·exact h3
      ·rintro rfl
       rw [hlk] at h3
       cases h3
       rw [hρ] at hn
       cases hn
     ·intro g' o v h
      have h':(if g'=g then us[o]? else G.H g' o)=some v:=h
      split at h'
      ·rename_i hg;subst hg;exact .inr hge
      ·exact .inl h'
    ·cases h
   ·cases h
  ·cases h
 ·cases h
end
end Go.AM

/- Parts of the proof. -/
namespace Go.AM
open Go Go.RowKit
def flat (us:Nat→Nat→Value) (n size:Nat):List Value:=(List.range (n*size)).map fun q=>us (q / size) (q % size)
theorem flat_len (us:Nat→Nat→Value) (n size:Nat):(flat us n size).length=n*size:=by simp [flat]
theorem flat_get (us:Nat→Nat→Value) (n size q:Nat):(flat us n size)[q]?=if q<n*size then some (us (q / size) (q % size)) else none:=by
 unfold flat
 rw [List.getElem?_map]
 by_cases h:q<n*size
 ·rw [List.getElem?_range h,if_pos h];rfl
 ·rw [List.getElem?_eq_none (by simpa using h),if_neg h];rfl
theorem divmod_of {i j size:Nat} (hj:j<size):(i*size+j) / size=i∧(i*size+j) % size=j:=by
 have hs:0<size:=by omega
 constructor
 ·rw [Nat.mul_comm,Nat.mul_add_div hs,Nat.div_eq_of_lt hj];omega
 ·rw [Nat.mul_comm,Nat.mul_add_mod,Nat.mod_eq_of_lt hj]
theorem flat_at (us:Nat→Nat→Value) {n size i j:Nat} (hi:i<n) (hj:j<size):(flat us n size)[i*size+j]?=some (us i j):=by
 rw [flat_get,if_pos]
 ·obtain ⟨h1,h2⟩:=divmod_of (i:=i) hj;rw [h1,h2]
 ·have:(i+1)*size≤n*size:=Nat.mul_le_mul_right _ (by omega)
  rw [Nat.succ_mul] at this;omega
theorem Fz.cells_of {H:Hp} {rows:List (List AV)} {A:Option Addr} {n cap:Nat} (h:Fz H (.sl .ext rows) (.slice A n cap)) {size:Nat} (hsz :∀row∈rows,row.length=size) :
  n=rows.length∧n≤cap∧∃(us:Nat→Nat→Value) (g off:Nat),(rows≠[]→A=some ⟨g,off,none⟩)∧(∀(q:Nat) v,(flat us rows.length size)[q]?=some v→H g (off+q)=some v)∧
   (∀(i:Nat) row (j:Nat) a,rows[i]?=some row→row[j]?=some a→Fz H a (us i j)):=by
 cases h with
 | sl _ A cap size' g off us hA hcap hs hH hF=>
 refine ⟨rfl,hcap,us,g,off,hA,?_,hF⟩
 intro q v hq
 rw [flat_get] at hq
 split at hq
 ·rename_i hlt
  cases hq
  have hpos:0<size:=by
   rcases Nat.eq_zero_or_pos size with h | h
   ·subst h;simp at hlt
   ·exact h
  have hi:q / size<rows.length:=Nat.div_lt_of_lt_mul (by rw [Nat.mul_comm];exact hlt)
  have hrow:rows[q / size]?=some rows[q / size]:=List.getElem?_eq_getElem hi
  have hl1:=hs _ _ hrow
  have hl2:=hsz _ (List.getElem_mem hi)
  have hss:size'=size:=by omega
  subst hss
  have hm:q % size'<rows[q / size'].length:=by rw [hl1];exact Nat.mod_lt _ hpos
  have:=hH _ _ (q % size') _ hrow (List.getElem?_eq_getElem hm)
  rw [← this]
  congr 1
  have:=Nat.div_add_mod q size'
  rw [Nat.mul_comm] at this
  omega
 ·cases hq
section
variable {P:Program} {G:Gh} {w0 w:World} {st:St}
theorem newRows (hR:Rel G w0 st w) {rows:List (List AV)} {size:Nat} (hsz :∀row∈rows,row.length=size) {us:Nat→Nat→Value} (hF :∀(i:Nat) row (j:Nat) a,rows[i]?=some row→row[j]?=some a→Fz G.H a (us i j))
  (h1 :∀(i:Nat) row (j:Nat) a,rows[i]?=some row→row[j]?=some a→(us i j).oneCell'=true) {cs:Array Value} {e:TypeId} (hcs :∀(q:Nat) v,(flat us rows.length size)[q]?=some v→cs[q]?=some v) {w1:World} (hw1:w1.heap=w.heap) (hw1b:Below w.heap.size w w1) (cap:Nat) (hcap:rows.length≤cap) {d site ver:Nat} :
  Step G ⟨fun g o=>if g=w.heap.size then (flat us rows.length size)[o]? else G.H g o,G.ρ,G.ω,G.fm,G.M⟩ w0 st st (w1.alloc (.cells cs e)) d site ver∧
   Fz (fun g o=>if g=w.heap.size then (flat us rows.length size)[o]? else G.H g o) (.sl .ext rows) (.slice (some ⟨w.heap.size,0,none⟩) rows.length cap):=by
 have hsz1:w1.heap.size=w.heap.size:=by rw [hw1]
 have hle:HLe G.H (fun g o=>if g=w.heap.size then (flat us rows.length size)[o]? else G.H g o):=fun g o v h=>by
  show (if g=w.heap.size then _ else G.H g o)=some v
  rw [if_neg (by have:=hR.Hlt h;omega)]
  exact h
 have hone :∀(q:Nat) v,(flat us rows.length size)[q]?=some v→v.oneCell'=true:=by
  intro q v hq
  rw [flat_get] at hq
  split at hq
  ·rename_i hlt
   cases hq
   have hpos:0<size:=by
    rcases Nat.eq_zero_or_pos size with h | h
    ·subst h;simp at hlt
    ·exact h
   have hi:q / size<rows.length:=Nat.div_lt_of_lt_mul (by rw [Nat.mul_comm];exact hlt)
   have hm:q % size<rows[q / size].length:=by rw [hsz _ (List.getElem_mem hi)];exact Nat.mod_lt _ hpos
   exact h1 _ _ _ _ (List.getElem?_eq_getElem hi) (List.getElem?_eq_getElem hm)
  ·cases hq
 refine ⟨Step.grow hR (hw1b.alloc (by rw [hsz1];exact Nat.le_refl _) _) hle ?_,?_⟩
 ·intro g o v h
  have h':(if g=w.heap.size then (flat us rows.length size)[o]? else G.H g o)=some v:=h
  split at h'
  ·rename_i hg
   subst hg
   refine .inr ⟨Nat.le_refl _,?_,hone _ _ h'⟩
   have:=heap_alloc_new w1 (.cells cs e)
   rw [hsz1] at this
   simp [World.cell?,this,hcs _ _ h']
  ·exact .inl h'
 ·refine .sl rows _ cap size w.heap.size 0 us (fun _=>rfl) hcap (fun i row h=>hsz _ (List.mem_of_getElem? h)) ?_ (fun i row j a h2 h3=>(hF i row j a h2 h3).mono hle)
  intro i row j a h2 h3
  show (if w.heap.size=w.heap.size then (flat us rows.length size)[0+i*size+j]? else _)=_
  rw [if_pos rfl,Nat.zero_add]
  refine flat_at us ?_ ?_
  ·rcases Nat.lt_or_ge i rows.length with h | h
   ·exact h
   ·rw [List.getElem?_eq_none h] at h2;cases h2
  ·rw [← hsz _ (List.mem_of_getElem? h2)]
   rcases Nat.lt_or_ge j row.length with h | h
   ·exact h
   ·rw [List.getElem?_eq_none h] at h3;cases h3
def Gh.setω (G:Gh) (H:Hp) (k:Key) (v:Nat) (x:Nat × Nat × Nat):Gh:=⟨H,G.ρ,fun k' v'=>if k'=k∧v'=v then some x else G.ω k' v',G.fm,G.M⟩
theorem Gh.le_setω {H:Hp} (hH:HLe G.H H) {k:Key} {v:Nat} (h:G.ω k v=none) (x:Nat × Nat × Nat):G.Le (G.setω H k v x):=
 ⟨hH,fun _ _ _ h=>h,fun k' v' g' h'=>by
  show (if k'=k∧v'=v then some x else G.ω k' v')=some g'
  rw [if_neg (by rintro ⟨rfl,rfl⟩;rw [h] at h';cases h')]
  exact h',rfl,fun _ _ h=>h⟩
theorem Rel.newOwn (hR:Rel G w0 st w) {w':World} {H':Hp} {g cap size n:Nat} {key:Key} {ver:Nat} (hge:w0.heap.size≤g)
  (hos:w'.os=w.os) (htape:w'.tape=w.tape) (hout:w'.output=w.output) (hsize:w.heap.size≤w'.heap.size) (hblk :∀i,i<w.heap.size→i≠g→w'.heap[i]?=w.heap[i]?)
  (hbox :∀k v cs,lk st.bx k=some (v,cs)→G.ρ k v≠some g) (hle:HLe G.H H')
  (hH :∀g' o v,H' g' o=some v→(g'≠g∧G.H g' o=some v)∨(g'=g∧w'.cell? ⟨g,o,none⟩=some v∧v.oneCell'=true∧o<n*size))
  {cur:Array Value} {e:TypeId} (hT:bigSite≤key.2→e=etOf G.fm) (hheap:w'.heap[g]?=some (.cells cur e (0,0))) (hcur:cur.size=cap*size) (hn:n≤cap) (hpos:0<size) (hω:G.ω key ver=none) (hv:ver<st.nx)
  {ow':List (Key × Nat × Nat)} (hk:lk ow' key=some (ver,n)) (hne :∀k x,k≠key→lk ow' k=some x→lk st.ow k=some x)
  (hown :∀k v m g' c s,k≠key→lk ow' k=some (v,m)→G.ω k v=some (g',c,s)→g'≠g) (hmap :∀b es clock,w.heap[b]?=some (.map es clock)→b≠g):Rel (G.setω H' key ver (g,cap,size)) w0 { st with ow:=ow' } w':=by
 have hleG:G.Le (G.setω H' key ver (g,cap,size)):=Gh.le_setω hle hω _
 have hother :∀g' o,g'≠g→G.H g' o=none→H' g' o=none:=by
  intro g' o hg h
  cases h':H' g' o with
  | none=>rfl
  | some v=>
   rcases hH g' o v h' with ⟨_,h2⟩ | ⟨h2,_⟩
   ·rw [h] at h2;cases h2
   ·exact absurd h2 hg
 have hωe :∀k v x,(G.setω H' key ver (g,cap,size)).ω k v=some x→(k=key∧v=ver∧x=(g,cap,size))∨((k≠key∨v≠ver)∧G.ω k v=some x):=by
  intro k v x h
  have h':(if k=key∧v=ver then some (g,cap,size) else G.ω k v)=some x:=h
  split at h'
  ·rename_i hh;cases h';exact .inl ⟨hh.1,hh.2,rfl⟩
  ·rename_i hh
   refine .inr ⟨?_,h'⟩
   by_cases hk':k=key
   ·exact .inr fun hv'=>hh ⟨hk',hv'⟩
   ·exact .inl hk'
 refine ⟨?_,?_,?_,hR.inj,?_,?_,?_,?_,?_,fun b l hb=>(hR.mp b l hb).keep fun es clock h=>hblk b (block_lt h) (hmap b es clock h)⟩
 rotate_left 6
 ·intro k v cs g' hb h hg'
  obtain ⟨us',h3,h3n⟩:=hR.bxT k v cs g' hb h hg'
  have hgg:g'≠g:=by rintro rfl;exact hbox k v cs h hg'
  exact ⟨us',(hblk g' (block_lt h3) hgg).trans h3,h3n⟩
 ·intro k v m hb h g' c s hω'
  rcases hωe _ _ _ hω' with ⟨rfl,rfl,hx⟩ | ⟨hx,hω'⟩
  ·cases hx
   exact ⟨_,by rw [show etOf (G.setω _ _ _ _).fm=etOf G.fm from rfl,← hT hb];exact hheap⟩
  ·have hkk:k≠key:=by
    rintro rfl
    rw [hk] at h
    cases h
    rcases hx with hx | hx<;>exact hx rfl
   obtain ⟨us',h3⟩:=hR.owT k v m hb (hne k _ hkk h) g' c s hω'
   exact ⟨us',(hblk g' (block_lt h3) (hown k v m g' c s hkk h hω')).trans h3⟩
 ·have hb:=hR.bel
  exact ⟨hos.trans hb.os,htape.trans hb.tape,hout.trans hb.output,Nat.le_trans hb.size hsize,fun i hi=>(hblk i (Nat.lt_of_lt_of_le hi hb.size) (by omega)).trans (hb.block i hi)⟩
 ·intro g' o v h
  rcases hH g' o v h with ⟨h1,h2⟩ | ⟨rfl,h2,h3,_⟩
  ·have hlt:=hR.Hlt h2
   obtain ⟨h3,h4⟩:=hR.ext g' o v h2
   exact ⟨(World.cell?_of_block (w:=w) (hblk g' hlt h1)).trans h3,h4⟩
  ·exact ⟨h2,h3⟩
 ·intro k v cs g' h hg'
  obtain ⟨us1,e1,a1,a2,a3,a4,a5⟩:=hR.bx k v cs g' h hg'
  have hgg:g'≠g:=by rintro rfl;exact hbox k v cs h hg'
  exact ⟨us1,e1,a1,(hblk g' (block_lt a2) hgg).trans a2,a3.mono hleG,a4,fun o=>hother g' o hgg (a5 o)⟩
 ·intro k v m h
  by_cases hkk:k=key
  ·subst hkk
   rw [hk] at h
   cases h
   refine ⟨g,cap,size,by show (if _=_∧_=_ then some (g,cap,size) else _)=_;rw [if_pos ⟨rfl,rfl⟩],⟨cur,e,hge,hheap,hcur,hn,hpos,fun o ho=>?_⟩,hbox⟩
   cases h':H' g o with
   | none=>exact h'
   | some v'=>
    rcases hH g o v' h' with ⟨h2,_⟩ | ⟨_,_,_,h2⟩
    ·exact absurd rfl h2
    ·omega
  ·have hold:=hne k _ hkk h
   obtain ⟨g',cap',size',h1',⟨cur',e',a1,a2,a3,a4,a5,a6⟩,h8⟩:=hR.ow k v m hold
   have hgg:g'≠g:=hown k v m g' cap' size' hkk h h1'
   refine ⟨g',cap',size',hleG.ω _ _ _ h1',⟨cur',e',a1,(hblk g' (block_lt a2) hgg).trans a2,a3,a4,a5,fun o ho=>hother g' o hgg (a6 o ho)⟩,h8⟩
 ·intro k k' v v' m m' g' c s c' s' h1 h2 h3 h4
  by_cases hkk:k=key
  ·by_cases hkk':k'=key
   ·rw [hkk,hkk']
   ·subst hkk
    rw [hk] at h1
    cases h1
    rcases hωe _ _ _ h3 with ⟨_,_,hx⟩ | ⟨hx,_⟩
    ·cases hx
     rcases hωe _ _ _ h4 with ⟨rfl,_⟩ | ⟨_,h4⟩
     ·rfl
     ·exact absurd rfl (hown k' v' m' _ _ _ hkk' h2 h4)
    ·rcases hx with hx | hx<;>exact absurd rfl hx
  ·by_cases hkk':k'=key
   ·subst hkk'
    rw [hk] at h2
    cases h2
    rcases hωe _ _ _ h4 with ⟨_,_,hx⟩ | ⟨hx,_⟩
    ·cases hx
     rcases hωe _ _ _ h3 with ⟨rfl,_⟩ | ⟨_,h3⟩
     ·rfl
     ·exact absurd rfl (hown k v m _ _ _ hkk h1 h3)
    ·rcases hx with hx | hx<;>exact absurd rfl hx
   ·have o1:=hne k _ hkk h1
    have o2:=hne k' _ hkk' h2
    rcases hωe _ _ _ h3 with ⟨rfl,_⟩ | ⟨_,h3⟩
    ·exact absurd rfl hkk
    ·rcases hωe _ _ _ h4 with ⟨rfl,_⟩ | ⟨_,h4⟩
     ·exact absurd rfl hkk'
     ·exact hR.owinj k k' v v' m m' g' c s c' s' o1 o2 h3 h4
 ·intro k v hkv
  have:=hR.fresh k v hkv
  refine ⟨this.1,?_⟩
  show (if k=key∧v=ver then some (g,cap,size) else G.ω k v)=none
  rw [if_neg (by rintro ⟨_,rfl⟩;have:st.nx≤v:=hkv;omega)]
  exact this.2
end
end Go.AM

/- Parts of the proof. -/
namespace Go.AM
open Go Go.RowKit
section
variable {P:Program} {G:Gh} {w0 w:World} {st:St}
theorem run_app_room {t t2 ty e:TypeId} {d2:TypeDesc} {ti:TypeInfo} (ht:P.underlying t=some (.slice e)) (ht2:P.underlying t2=some d2) (hd2:d2=.string∨∃e2,d2=.slice e2) (hi:P.info? e=some ti)
  {base:Option Addr} {n cap m:Nat} {vx:Value} (hlen:(Builtin.lenOf vx).run P w=.ok m w) {news:Array Value} (hf:(Builtin.firstCells ti.size m vx).run P w=.ok news w) (hroom:n+m≤cap) :
  (Builtin.append_ #[t,t2] ty #[.slice base n cap,vx]).run P w=(match base with | some a=>(storeCells (a.add (n*ti.size)) news.toList).run P w | none=>.ok () w).andThen fun _ w'=>.ok (.slice base (n+m) cap) w':=by
 rcases hd2 with rfl | ⟨e2,rfl⟩
 ·cases base<;>simp [Builtin.append_,run_underlying ht,run_underlying ht2,sizeOf,typeInfo,hi,hlen,hroom,hf]
 ·cases base<;>simp [Builtin.append_,run_underlying ht,run_underlying ht2,sizeOf,typeInfo,hi,hlen,hroom,hf]
theorem run_app_grow {t t2 ty e:TypeId} {d2:TypeDesc} {ti:TypeInfo} {z:Value} (ht:P.underlying t=some (.slice e)) (ht2:P.underlying t2=some d2) (hd2:d2=.string∨∃e2,d2=.slice e2) (hi:P.info? e=some ti) (hz:ti.zero=some z)
  {base:Option Addr} {n cap m:Nat} {vx:Value} (hlen:(Builtin.lenOf vx).run P w=.ok m w) {news olds:Array Value} (hf:(Builtin.firstCells ti.size m vx).run P w.drew=.ok news w.drew) (ho:(Builtin.firstCells ti.size n (.slice base n cap)).run P w.drew=.ok olds w.drew)
  (hg:cap<n+m) (h63:n+m≤9223372036854775807) (hfit:(n+m)*ti.bytes≤2 ^ 47) :
  (Builtin.append_ #[t,t2] ty #[.slice base n cap,vx]).run P w=.ok (.slice (some ⟨w.heap.size,0,none⟩) (n+m) (grownCap w (n+m) cap e))
    (w.drew.alloc (.cells (olds++news++Builtin.zeroCells z.cells (grownCap w (n+m) cap e-(n+m))) e)):=by
 have hn:¬ (n+m≤cap):=by omega
 have h63':¬ (9223372036854775807<((n:Int)+(m:Int))):=by omega
 have hcap:=nextslicecap_le hg
 have hmul:Builtin.nextslicecap (n+m) cap*ti.bytes≤2*(n+m)*ti.bytes:=Nat.mul_le_mul_right _ hcap
 have h48':¬ (281474976710656<Builtin.nextslicecap (n+m) cap*ti.bytes):=by
  rw [Nat.mul_assoc] at hmul
  omega
 rcases hd2 with rfl | ⟨e2,rfl⟩
 ·simp [Builtin.append_,run_underlying ht,run_underlying ht2,sizeOf,typeInfo,zeroValue,hi,hz,hlen,hn,h63',h48',Question.forced,hf,ho,newRow,grownCap]
 ·simp [Builtin.append_,run_underlying ht,run_underlying ht2,sizeOf,typeInfo,zeroValue,hi,hz,hlen,hn,h63',h48',Question.forced,hf,ho,newRow,grownCap]
structure Src (P:Program) (H:Hp) (w:World) (vx:Value) (size:Nat) (news:List (List AV)) (us:Nat→Nat→Value):Prop where
 len :∀w1:World,(Builtin.lenOf vx).run P w1=.ok news.length w1
 first :∀w1:World,w1.heap=w.heap→(Builtin.firstCells size news.length vx).run P w1=.ok (flat us news.length size).toArray w1
 fz :∀(i:Nat) row (j:Nat) a,news[i]?=some row→row[j]?=some a→Fz H a (us i j)
 one :∀(i:Nat) row (j:Nat) a,news[i]?=some row→row[j]?=some a→(us i j).oneCell'=true
theorem cell_of_heap {w w1:World} (h:w1.heap=w.heap) (a:Addr):w1.cell? a=w.cell? a:=by unfold World.cell?;rw [h]
theorem Src.slice (hR:Rel G w0 st w) {news:List (List AV)} {A:Option Addr} {cap size:Nat} (h:Fz G.H (.sl .ext news) (.slice A news.length cap)) (hsz :∀row∈news,row.length=size) :
  ∃us,Src P G.H w (.slice A news.length cap) size news us:=by
 obtain ⟨_,_,us,g,off,hA,hc,hF⟩:=h.cells_of hsz
 have hone :∀(i:Nat) row (j:Nat) a,news[i]?=some row→row[j]?=some a→(us i j).oneCell'=true:=by
  intro i row j a h1 h2
  have hi:i<news.length:=by
   rcases Nat.lt_or_ge i news.length with h | h
   ·exact h
   ·rw [List.getElem?_eq_none h] at h1;cases h1
  have hj:j<size:=by
   rw [← hsz _ (List.mem_of_getElem? h1)]
   rcases Nat.lt_or_ge j row.length with h | h
   ·exact h
   ·rw [List.getElem?_eq_none h] at h2;cases h2
  exact (hR.ext _ _ _ (hc _ _ (flat_at us hi hj))).2
 refine ⟨us,fun w1=>by simp [Builtin.lenOf],fun w1 hw1=>?_,hF,hone⟩
 cases news with
 | nil=>
  cases A with
  | none=>simp [Builtin.firstCells,flat]
  | some a=>simp [Builtin.firstCells,flat,loadCells,loadCellsFrom]
 | cons r rs=>
  rw [hA (by simp)]
  have:=run_firstCells_some (P:=P) w1 size (r::rs).length ⟨g,off,none⟩ (r::rs).length cap (flat us (r::rs).length size) (flat_len _ _ _) ?_
  ·exact this
  ·intro q v hq
   rw [Addr.add_lit,cell_of_heap hw1]
   exact (hR.ext _ _ _ (hc q v hq)).1
theorem Src.str {l:List UInt8}:Src P G.H w (.string ⟨l.toArray⟩) 1 (l.map row8) (fun i _=>.int .u8 ((l.getD i 0).toNat:Int)):=by
 refine ⟨fun w1=>by simp [Builtin.lenOf,ByteArray.size],fun w1 _=>?_,?_,fun _ _ _ _ _ _=>rfl⟩
 ·simp only [Builtin.firstCells,Sem.run_pure]
  congr 1
  apply Array.ext'
  apply List.ext_getElem?
  intro q
  have hs:(ByteArray.mk l.toArray).extract 0 (l.map row8).length=ByteArray.mk l.toArray:=by
   rw [ByteArray.extract_mk];simp
  rw [hs]
  simp only []
  rw [flat_get]
  simp only [List.length_map,Nat.mul_one,Nat.div_one]
  simp only [Array.toList_map,List.getElem?_map]
  split
  ·rename_i h;rw [List.getElem?_eq_getElem h];simp [List.getD,List.getElem?_eq_getElem h]
  ·rename_i h;rw [List.getElem?_eq_none (by omega)];rfl
 ·intro i row j a h1 h2
  simp only [List.getElem?_map,Option.map_eq_some_iff] at h1
  obtain ⟨c,hc,rfl⟩:=h1
  cases j with
  | zero=>
   simp only [row8,List.getElem?_cons_zero,Option.some.injEq] at h2
   subst h2
   have:l.getD i 0=c:=by simp [List.getD,hc]
   show Fz G.H _ (.int .u8 ((l.getD i 0).toNat:Int))
   rw [this]
   exact .i _ _
  | succ j=>simp [row8] at h2
theorem flat_append (us1 us2:Nat→Nat→Value) (n m size:Nat) (hs:0<size):flat (fun i j=>if i<n then us1 i j else us2 (i-n) j) (n+m) size=flat us1 n size++flat us2 m size:=by
 apply List.ext_getElem?
 intro q
 rw [flat_get,List.getElem?_append,flat_len,flat_get,flat_get]
 have hmul:(n+m)*size=n*size+m*size:=Nat.add_mul _ _ _
 by_cases h1:q<n*size
 ·rw [if_pos (by omega),if_pos h1,if_pos h1,if_pos (Nat.div_lt_of_lt_mul (by rw [Nat.mul_comm];exact h1))]
 ·rw [if_neg h1]
  by_cases h2:q<n*size+m*size
  ·have hq:q=(q-n*size)+size*n:=by rw [Nat.mul_comm size n];omega
   have hd:q / size=(q-n*size) / size+n:=by
    have h4:q / size=((q-n*size)+size*n) / size:=congrArg (· / size) hq
    rw [h4,Nat.add_mul_div_left _ _ hs]
   have hm:q % size=(q-n*size) % size:=by
    have h4:q % size=((q-n*size)+size*n) % size:=congrArg (· % size) hq
    rw [h4,Nat.add_mul_mod_self_left]
   have e1:(if q / size<n then us1 (q / size) (q % size) else us2 (q / size-n) (q % size))=us2 ((q-n*size) / size) ((q-n*size) % size):=by
    rw [if_neg (by rw [hd];exact Nat.not_lt.2 (Nat.le_add_left _ _)),hd,hm,Nat.add_sub_cancel]
   rw [if_pos (by omega),e1,if_pos (by omega)]
  ·rw [if_neg (by omega),if_neg (by omega)]
theorem rows_append {H:Hp} {rows news:List (List AV)} {us1 us2:Nat→Nat→Value} {p:AV→Value→Prop} (h1 :∀(i:Nat) row (j:Nat) a,rows[i]?=some row→row[j]?=some a→p a (us1 i j)) (h2 :∀(i:Nat) row (j:Nat) a,news[i]?=some row→row[j]?=some a→p a (us2 i j)) (_:H=H) :
  ∀(i:Nat) row (j:Nat) a,(rows++news)[i]?=some row→row[j]?=some a→p a ((fun i j=>if i<rows.length then us1 i j else us2 (i-rows.length) j) i j):=by
 intro i row j a hi hj
 rw [List.getElem?_append] at hi
 by_cases h:i<rows.length
 ·rw [if_pos h] at hi;simp only [if_pos h];exact h1 i row j a hi hj
 ·rw [if_neg h] at hi;simp only [if_neg h];exact h2 _ row j a hi hj
end
end Go.AM

/- Parts of the proof. -/
namespace Go.AM
open Go Go.RowKit
section
variable {P:Program} {G:Gh} {w0 w:World} {st:St}
theorem getElem?_app_left {l r:List Value} {q:Nat} {v:Value} (h:l[q]?=some v):(l++r)[q]?=some v:=by
 rw [List.getElem?_append]
 have:q<l.length:=by
  rcases Nat.lt_or_ge q l.length with h' | h'
  ·exact h'
  ·rw [List.getElem?_eq_none h'] at h;cases h
 rw [if_pos this]
 exact h
theorem ownAt_lt {n g cap size:Nat} (h:OwnAt G w0 w n g cap size):g<w.heap.size:=by
 obtain ⟨cur,e,_,h2,_⟩:=h
 exact block_lt h2
theorem grow_ok (hR:Rel G w0 st w) {t t2 ty e:TypeId} {d2:TypeDesc} {ti:TypeInfo} {z:Value} (ht:P.underlying t=some (.slice e)) (ht2:P.underlying t2=some d2) (hd2:d2=.string∨∃e2,d2=.slice e2) (hi:P.info? e=some ti) (hz:ti.zero=some z) (hzs:z.cells.size=ti.size)
  {A:Option Addr} {cap:Nat} {rows news:List (List AV)} (hF:Fz G.H (.sl .ext rows) (.slice A rows.length cap)) (hrs :∀row∈rows,row.length=ti.size) (hns :∀row∈news,row.length=ti.size) {vx:Value} {us:Nat→Nat→Value} (hsrc:Src P G.H w vx ti.size news us)
  (hpos:0<ti.size) (hlt:cap<rows.length+news.length) (h63:rows.length+news.length≤9223372036854775807) (hfit:(rows.length+news.length)*ti.bytes≤2 ^ 47)
  {d site ver:Nat} (hT:bigSite≤site→e=etOf G.fm) (hω:G.ω (d,site) ver=none) (hv:ver<st.nx) {ow':List (Key × Nat × Nat)} (hk:lk ow' (d,site)=some (ver,rows.length+news.length)) (hne :∀k x,k≠(d,site)→lk ow' k=some x→lk st.ow k=some x) :
  ∃v w' G',(Builtin.append_ #[t,t2] ty #[.slice A rows.length cap,vx]).run P w=.ok v w'∧R G' (.sl (.id (d,site) ver) (rows++news)) v∧Step G G' w0 st { st with ow:=ow' } w' d site ver:=by
 obtain ⟨us1,h1⟩:=Src.slice (P:=P) hR hF hrs
 have hdrew:w.drew.heap=w.heap:=rfl
 have hrun:=run_app_grow (ty:=ty) ht ht2 hd2 hi hz (base:=A) (cap:=cap) (hsrc.len w) (hsrc.first w.drew hdrew) (h1.first w.drew hdrew) hlt h63 hfit
 have hall:=flat_append us1 us rows.length news.length ti.size hpos
 have hrows :∀row∈rows++news,row.length=ti.size:=by
  intro row h
  rcases List.mem_append.1 h with h | h
  ·exact hrs row h
  ·exact hns row h
 have hfz:=rows_append (H:=G.H) (p:=fun a v=>Fz G.H a v) h1.fz hsrc.fz rfl
 have hone:=rows_append (H:=G.H) (p:=fun _ v=>v.oneCell'=true) h1.one hsrc.one rfl
 generalize hcap':grownCap w (rows.length+news.length) cap e=cap' at hrun
 have hcapge:rows.length+news.length≤cap':=by
  rw [← hcap'];unfold grownCap Question.cut;exact Nat.le_add_right _ _
 have hcs :∀(q:Nat) v,(flat (fun i j=>if i<rows.length then us1 i j else us (i-rows.length) j) (rows++news).length ti.size)[q]?=some v→
   ((flat us1 rows.length ti.size).toArray++(flat us news.length ti.size).toArray++Builtin.zeroCells z.cells (cap'-(rows.length+news.length)))[q]?=some v:=by
  intro q v h
  rw [List.length_append,hall] at h
  rw [← Array.getElem?_toList]
  simp only [Array.toList_append]
  exact getElem?_app_left h
 obtain ⟨hstep,hF'⟩:=newRows (w1:=w.drew) hR hrows hfz hone hcs (e:=e) hdrew ((Below.refl _ _).drew) cap' (by rw [List.length_append];exact hcapge) (d:=d) (site:=site) (ver:=ver)
 simp only [List.length_append] at hstep hF'
 have hnew:=heap_alloc_new w.drew (.cells ((flat us1 rows.length ti.size).toArray++(flat us news.length ti.size).toArray++Builtin.zeroCells z.cells (cap'-(rows.length+news.length))) e)
 rw [show w.drew.heap.size=w.heap.size from rfl] at hnew
 have hrel:=hR.newOwn (g:=w.heap.size) (cap:=cap') (size:=ti.size) (n:=rows.length+news.length) (key:=(d,site)) (ver:=ver)
  (w':=w.drew.alloc (.cells ((flat us1 rows.length ti.size).toArray++(flat us news.length ti.size).toArray++Builtin.zeroCells z.cells (cap'-(rows.length+news.length))) e))
  (H':=fun g o=>if g=w.heap.size then (flat (fun i j=>if i<rows.length then us1 i j else us (i-rows.length) j) (rows.length+news.length) ti.size)[o]? else G.H g o)
  hR.bel.size rfl rfl rfl (by simp) (fun i hi2 _=>Below.heap_alloc _ _ _ hi2) (fun k v cs h1 h2=>by
   obtain ⟨_,_,_,hb,_⟩:=hR.bx k v cs _ h1 h2
   have:=block_lt hb
   omega) hstep.le.H (fun g o v h=>by
   have h':(if g=w.heap.size then (flat (fun i j=>if i<rows.length then us1 i j else us (i-rows.length) j) (rows.length+news.length) ti.size)[o]? else G.H g o)=some v:=h
   split at h'
   ·rename_i hg
    subst hg
    refine .inr ⟨rfl,(hstep.rel.ext _ o v (by show (if w.heap.size=w.heap.size then _ else _)=_;rw [if_pos rfl];exact h')).1,(hstep.rel.ext _ o v (by show (if w.heap.size=w.heap.size then _ else _)=_;rw [if_pos rfl];exact h')).2,?_⟩
    rw [flat_get] at h'
    split at h'
    ·rename_i hq;exact hq
    ·cases h'
   ·rename_i hg;exact .inl ⟨hg,h'⟩) hT hnew (by
   simp only [Array.size_append,List.size_toArray,flat_len,size_zeroCells,hzs]
   rw [← Nat.add_mul,← Nat.add_mul]
   congr 1
   omega) hcapge hpos hω hv hk hne (fun k v m g' c s hk1 hk2 hk3=>by
   obtain ⟨g1,c1,s1,e1,e2,_⟩:=hR.ow k v m (hne k _ hk1 hk2)
   rw [hk3] at e1
   cases e1
   have:=ownAt_lt e2
   omega) (fun b es clock h e=>by have:=block_lt h;omega)
 refine ⟨_,_,_,hrun,?_,⟨?_,hrel,Nat.le_refl _,?_,fun _ _ _ _ _ _ _ h=>h,hstep.newH⟩⟩
 ·refine .sl _ _ _ _ _ hF' ⟨w.heap.size,ti.size,?_,rfl,fun i row hrow=>⟨hrows row (List.mem_of_getElem? hrow),fun j a ha=>?_⟩⟩
  ·show (if _=_∧_=_ then some (w.heap.size,cap',ti.size) else _)=_
   rw [if_pos ⟨rfl,rfl⟩]
  ·refine ⟨(fun i j=>if i<rows.length then us1 i j else us (i-rows.length) j) i j,?_⟩
   show (if w.heap.size=w.heap.size then _ else _)=_
   rw [if_pos rfl]
   refine flat_at (fun i j=>if i<rows.length then us1 i j else us (i-rows.length) j) ?_ ?_
   ·rcases Nat.lt_or_ge i (rows++news).length with h | h
    ·rw [List.length_append] at h;exact h
    ·rw [List.getElem?_eq_none h] at hrow;cases hrow
   ·rw [← hrows row (List.mem_of_getElem? hrow)]
    rcases Nat.lt_or_ge j row.length with h | h
    ·exact h
    ·rw [List.getElem?_eq_none h] at ha;cases ha
 ·exact Gh.le_setω hstep.le.H hω _
 ·intro k v _ hkv
  refine ⟨rfl,?_⟩
  show (if k=(d,site)∧v=ver then _ else G.ω k v)=_
  rw [if_neg (by rintro ⟨rfl,rfl⟩;exact hkv rfl)]
theorem room_ok (hR:Rel G w0 st w) {t t2 ty e:TypeId} {d2:TypeDesc} {ti:TypeInfo} (ht:P.underlying t=some (.slice e)) (ht2:P.underlying t2=some d2) (hd2:d2=.string∨∃e2,d2=.slice e2) (hi:P.info? e=some ti)
  {k:Key} {v g cap:Nat} {rows news:List (List AV)} (hF:Fz G.H (.sl .ext rows) (.slice (some ⟨g,0,none⟩) rows.length cap)) (hrs :∀row∈rows,row.length=ti.size) (hns :∀row∈news,row.length=ti.size) {vx:Value} {us:Nat→Nat→Value} (hsrc:Src P G.H w vx ti.size news us)
  (hlk:lk st.ow k=some (v,rows.length)) (hωk:G.ω k v=some (g,cap,ti.size)) (hle:rows.length+news.length≤cap)
  {d site ver:Nat} (hB:bigSite≤site→bigSite≤k.2) (hω:G.ω (d,site) ver=none) (hv:ver<st.nx) (hrows0:0<rows.length) :
  ∃x w' G',(Builtin.append_ #[t,t2] ty #[.slice (some ⟨g,0,none⟩) rows.length cap,vx]).run P w=.ok x w'∧R G' (.sl (.id (d,site) ver) (rows++news)) x∧Step G G' w0 st { st with ow:=st_ (del st.ow k) (d,site) (ver,rows.length+news.length) } w' d site ver:=by
 obtain ⟨g1,cap1,size1,e1,⟨cur,eb,hge,hheap,hcur,hncap,hpos,hnone⟩,hbox⟩:=hR.ow k v _ hlk
 rw [hωk] at e1
 cases e1
 obtain ⟨us1,h1⟩:=Src.slice (P:=P) hR hF hrs
 have hmul:(rows.length+news.length)*ti.size≤cap*ti.size:=Nat.mul_le_mul_right _ hle
 rw [Nat.add_mul] at hmul
 have hst:=run_storeCells_at (P:=P) g (rows.length*ti.size) eb (flat us news.length ti.size) 0 cur w hheap (by rw [flat_len];omega) (by
  intro x hx
  obtain ⟨q,hq,rfl⟩:=List.getElem_of_mem hx
  have hq2:(flat us news.length ti.size)[q]?=some (flat us news.length ti.size)[q]:=List.getElem?_eq_getElem hq
  generalize (flat us news.length ti.size)[q]=x0 at hq2 ⊢
  rw [flat_get] at hq2
  split at hq2
  ·rename_i hlt
   cases hq2
   have hi2:q / ti.size<news.length:=Nat.div_lt_of_lt_mul (by rw [Nat.mul_comm];exact hlt)
   have hm:q % ti.size<news[q / ti.size].length:=by rw [hns _ (List.getElem_mem hi2)];exact Nat.mod_lt _ hpos
   exact hsrc.one _ _ _ _ (List.getElem?_eq_getElem hi2) (List.getElem?_eq_getElem hm)
  ·cases hq2)
 simp only [Nat.add_zero] at hst
 have hrun:=run_app_room (ty:=ty) ht ht2 hd2 hi (base:=some ⟨g,0,none⟩) (hsrc.len w) (hsrc.first w rfl) hle
 simp only [Addr.add_lit,Nat.zero_add] at hrun
 rw [hst] at hrun
 have hrows :∀row∈rows++news,row.length=ti.size:=by
  intro row h
  rcases List.mem_append.1 h with h | h
  ·exact hrs row h
  ·exact hns row h
 -- the block behind the store
 have hw':=setRow_heap w g cur (cur.toList.take (rows.length*ti.size)++flat us news.length ti.size++cur.toList.drop (rows.length*ti.size+(flat us news.length ti.size).length)).toArray eb (0,0) hheap
 generalize hW:w.setRow g (cur.toList.take (rows.length*ti.size)++flat us news.length ti.size++cur.toList.drop (rows.length*ti.size+(flat us news.length ti.size).length)).toArray=w' at hw' hrun
 have hcurl:cur.toList.length=cap*ti.size:=by simp [hcur]
 have hleH:HLe G.H (fun g' o=>if g'=g∧rows.length*ti.size≤o then (flat us news.length ti.size)[o-rows.length*ti.size]? else G.H g' o):=fun g' o x h=>by
  show (if g'=g∧rows.length*ti.size≤o then _ else G.H g' o)=some x
  rw [if_neg (by rintro ⟨rfl,h2⟩;rw [hnone o h2] at h;cases h)]
  exact h
 -- the cells of rows,told by H
 have hold :∀o,o<rows.length*ti.size→∀x,cur[o]?=some x→w'.cell? ⟨g,o,none⟩=some x:=by
  intro o ho x hx
  simp only [World.cell?,hw',Option.isSome_none,Bool.false_eq_true,if_false]
  rw [← Array.getElem?_toList]
  rw [List.append_assoc]
  refine getElem?_app_left ?_
  rw [List.getElem?_take,if_pos ho,Array.getElem?_toList]
  exact hx
 have hnewc :∀(q:Nat) x,(flat us news.length ti.size)[q]?=some x→w'.cell? ⟨g,rows.length*ti.size+q,none⟩=some x:=by
  intro q x hx
  simp only [World.cell?,hw',Option.isSome_none,Bool.false_eq_true,if_false]
  rw [← Array.getElem?_toList]
  simp only []
  refine getElem?_app_left ?_
  rw [List.getElem?_append]
  have hl:(cur.toList.take (rows.length*ti.size)).length=rows.length*ti.size:=by rw [List.length_take,hcurl];omega
  rw [if_neg (by omega),hl,Nat.add_sub_cancel_left]
  exact hx
 have hnlen :∀(q:Nat) x,(flat us news.length ti.size)[q]?=some x→q<news.length*ti.size∧x.oneCell'=true:=by
  intro q x hq
  rw [flat_get] at hq
  split at hq
  ·rename_i hlt
   cases hq
   have hi2:q / ti.size<news.length:=Nat.div_lt_of_lt_mul (by rw [Nat.mul_comm];exact hlt)
   have hm:q % ti.size<news[q / ti.size].length:=by rw [hns _ (List.getElem_mem hi2)];exact Nat.mod_lt _ hpos
   exact ⟨hlt,hsrc.one _ _ _ _ (List.getElem?_eq_getElem hi2) (List.getElem?_eq_getElem hm)⟩
  ·cases hq
 have hrel:=hR.newOwn (w':=w') (g:=g) (cap:=cap) (size:=ti.size) (n:=rows.length+news.length) (key:=(d,site)) (ver:=ver)
  (H':=fun g' o=>if g'=g∧rows.length*ti.size≤o then (flat us news.length ti.size)[o-rows.length*ti.size]? else G.H g' o)
  (ow':=st_ (del st.ow k) (d,site) (ver,rows.length+news.length)) hge (by rw [← hW];rfl) (by rw [← hW];rfl) (by rw [← hW];rfl) (by rw [← hW];simp) (fun i hi2 hne=>by rw [← hW];exact setRow_other w g i _ hne) hbox hleH
  (fun g' o x h=>by
   have h':(if g'=g∧rows.length*ti.size≤o then (flat us news.length ti.size)[o-rows.length*ti.size]? else G.H g' o)=some x:=h
   split at h'
   ·rename_i hg
    obtain ⟨rfl,hg2⟩:=hg
    obtain ⟨h3,h4⟩:=hnlen _ _ h'
    have h5:=hnewc _ _ h'
    rw [show rows.length*ti.size+(o-rows.length*ti.size)=o from by omega] at h5
    exact .inr ⟨rfl,h5,h4,by rw [Nat.add_mul];omega⟩
   ·rename_i hg
    by_cases hgg:g'=g
    ·subst hgg
     have ho:o<rows.length*ti.size:=by
      rcases Nat.lt_or_ge o (rows.length*ti.size) with h3 | h3
      ·exact h3
      ·exact absurd ⟨rfl,h3⟩ hg
     obtain ⟨h3,h4⟩:=hR.ext _ o x h'
     simp only [World.cell?,hheap,Option.isSome_none,Bool.false_eq_true,if_false] at h3
     exact .inr ⟨rfl,hold o ho x h3,h4,by rw [Nat.add_mul];omega⟩
    ·exact .inl ⟨hgg,h'⟩) (fun hb=>by
   obtain ⟨us',h3⟩:=hR.owT k v _ (hB hb) hlk g cap ti.size hωk
   rw [hheap] at h3
   injection h3 with h3
   injection h3 with _ h3) hw' (by simp only [List.size_toArray,List.length_append,List.length_take,List.length_drop,hcurl,flat_len];omega) hle hpos hω hv (lk_st_same _ _ _)
  (fun k2 x hk2 h=>by
   rw [lk_st_ne _ _ (Ne.symm hk2),lk_del] at h
   split at h
   ·cases h
   ·exact h)
  (fun k2 v2 m g2 c s hk2 h3 h4=>by
   rw [lk_st_ne _ _ (Ne.symm hk2),lk_del] at h3
   split at h3
   ·cases h3
   ·rename_i hn
    rintro rfl
    exact hn (hR.owinj k2 k v2 v m _ _ _ _ _ _ h3 hlk h4 hωk)) (fun b es clock h e=>by rw [e,hheap] at h;cases h)
 obtain ⟨_,_,us0,g0,off0,hA0,hc0,hf0⟩:=hF.cells_of hrs
 have hgo:=hA0 (by intro h;rw [h] at hrows0;simp at hrows0)
 injection hgo with hgo
 injection hgo with hg0 hoff0
 subst hg0
 subst hoff0
 have hfz:=rows_append (H:=G.H) (p:=fun a v=>Fz G.H a v) hf0 hsrc.fz rfl
 have hall:=flat_append us0 us rows.length news.length ti.size hpos
 have hcell :∀(q:Nat) x,(flat (fun i j=>if i<rows.length then us0 i j else us (i-rows.length) j) (rows.length+news.length) ti.size)[q]?=some x→
   (if g=g∧rows.length*ti.size≤q then (flat us news.length ti.size)[q-rows.length*ti.size]? else G.H g q)=some x:=by
  intro q x hq
  rw [hall,List.getElem?_append,flat_len] at hq
  by_cases h:q<rows.length*ti.size
  ·rw [if_pos h] at hq
   rw [if_neg (by omega)]
   have:=hc0 q x hq
   simpa using this
  ·rw [if_neg h] at hq
   rw [if_pos ⟨rfl,by omega⟩]
   exact hq
 have hat :∀(i:Nat) row (j:Nat) a,(rows++news)[i]?=some row→row[j]?=some a→i<rows.length+news.length∧j<ti.size:=by
  intro i row j a h2 h3
  constructor
  ·rcases Nat.lt_or_ge i (rows++news).length with h | h
   ·rw [List.length_append] at h;exact h
   ·rw [List.getElem?_eq_none h] at h2;cases h2
  ·rw [← hrows row (List.mem_of_getElem? h2)]
   rcases Nat.lt_or_ge j row.length with h | h
   ·exact h
   ·rw [List.getElem?_eq_none h] at h3;cases h3
 refine ⟨_,_,_,hrun,?_,⟨Gh.le_setω hleH hω _,hrel,Nat.le_refl _,?_,fun _ _ _ _ _ _ _ h=>h,?_⟩⟩
 ·have hF2:Fz (fun g' o=>if g'=g∧rows.length*ti.size≤o then (flat us news.length ti.size)[o-rows.length*ti.size]? else G.H g' o) (.sl .ext (rows++news)) (.slice (some ⟨g,0,none⟩) (rows++news).length cap):=by
   refine .sl _ _ _ ti.size g 0 (fun i j=>if i<rows.length then us0 i j else us (i-rows.length) j) (fun _=>rfl) (by rw [List.length_append];exact hle) (fun i row h=>hrows row (List.mem_of_getElem? h)) ?_ (fun i row j a h2 h3=>(hfz i row j a h2 h3).mono hleH)
   intro i row j a h2 h3
   obtain ⟨hi2,hj⟩:=hat i row j a h2 h3
   have:=hcell _ _ (flat_at (fun i j=>if i<rows.length then us0 i j else us (i-rows.length) j) hi2 hj)
   rw [Nat.zero_add]
   exact this
  rw [List.length_append] at hF2
  refine .sl _ _ _ _ _ hF2 ⟨g,ti.size,?_,rfl,fun i row hrow=>⟨hrows row (List.mem_of_getElem? hrow),fun j a ha=>?_⟩⟩
  ·show (if _=_∧_=_ then some (g,cap,ti.size) else _)=_
   rw [if_pos ⟨rfl,rfl⟩]
  ·obtain ⟨hi2,hj⟩:=hat i row j a hrow ha
   exact ⟨_,hcell _ _ (flat_at (fun i j=>if i<rows.length then us0 i j else us (i-rows.length) j) hi2 hj)⟩
 ·intro k2 v2 _ hkv
  refine ⟨rfl,?_⟩
  show (if k2=(d,site)∧v2=ver then _ else G.ω k2 v2)=_
  rw [if_neg (by rintro ⟨rfl,rfl⟩;exact hkv rfl)]
 ·intro g' o x h
  have h':(if g'=g∧rows.length*ti.size≤o then (flat us news.length ti.size)[o-rows.length*ti.size]? else G.H g' o)=some x:=h
  split at h'
  ·rename_i hg;obtain ⟨rfl,_⟩:=hg;exact .inr hge
  ·exact .inl h'
end
end Go.AM

/- Parts of the proof. -/
namespace Go.AM
open Go Go.RowKit
section
variable {P:Program} {G:Gh} {w0 w:World} {st:St}
theorem all_len {rows:List (List AV)} {size:Nat} (h:rows.all (·.length==size)=true) :∀row∈rows,row.length=size:=by
 intro row hr
 have:=List.all_eq_true.1 h row hr
 simpa using this
theorem aapp_ok (hR:Rel G w0 st w) {t t2 ty e:TypeId} {d2:TypeDesc} {ti:TypeInfo} {z:Value} (ht:P.underlying t=some (.slice e)) (ht2:P.underlying t2=some d2) (hd2:d2=.string∨∃e2,d2=.slice e2) (hi:P.info? e=some ti) (hz:ti.zero=some z) (hzs:z.cells.size=ti.size)
  {s:AV} {vs vx:Value} {news:List (List AV)} {us:Nat→Nat→Value} (hsrc:(∀row∈news,row.length=ti.size)→Src P G.H w vx ti.size news us)
  {d site ver:Nat} (hT:bigSite≤site→e=etOf G.fm) (hω:G.ω (d,site) ver=none) (hv:ver<st.nx) {r:AV} {st':St} (h:aapp (d,site) ver ti.size ti.bytes s news st=some (r,st')) (hs:R G s vs) :
  ∃v w' G',(Builtin.append_ #[t,t2] ty #[vs,vx]).run P w=.ok v w'∧R G' r v∧Step G G' w0 st st' w' d site ver:=by
 unfold aapp at h
 revert hs
 split at h
 ·rename_i o rows
  intro hs
  split at h
  ·rename_i hc
   obtain ⟨hb,hl,hpos,hrs,hns⟩:=hc
   have hrs:=all_len hrs
   have hns:=all_len hns
   have hsrc:=hsrc hns
   obtain ⟨A,cap,rfl,hF,ho⟩:=hs.sl_inv
   have hcap:=(hF.cells_of hrs).2.1
   have h63:rows.length+news.length≤9223372036854775807:=by unfold maxBytes at hl;omega
   have hfit:(rows.length+news.length)*ti.bytes≤2 ^ 47:=by unfold maxBytes at hb;omega
   split at h
   ·rename_i hem
    cases h
    have hn:news=[]:=by simpa using hem
    subst hn
    have hrun:=run_app_room (ty:=ty) ht ht2 hd2 hi (base:=A) (n:=rows.length) (cap:=cap) (hsrc.len w) (hsrc.first w rfl) (by simpa using hcap)
    refine ⟨.slice A rows.length cap,w,G,?_,.sl o rows A _ cap hF ho,Step.same hR⟩
    rw [hrun]
    cases A<;>simp [flat,storeCells]
   ·rename_i hem
    have hm:0<news.length:=by
     rcases Nat.eq_zero_or_pos news.length with h0 | h0
     ·exact absurd (by simpa using h0) hem
     ·exact h0
    split at h
    ·cases h
    ·cases h
     obtain ⟨hcap2,_⟩:=ho
     exact grow_ok hR ht ht2 hd2 hi hz hzs hF hrs hns hsrc hpos (by omega) h63 hfit hT hω hv (lk_st_same _ _ _) (fun k x hk hl=>by rw [lk_st_ne _ _ (Ne.symm hk)] at hl;exact hl)
    ·rename_i k v
     split at h
     ·rename_i v' n hlk
      split at h
      ·rename_i hc
       obtain ⟨rfl,rfl,hn0,hbig⟩:=hc
       have hB:bigSite≤site→bigSite≤k.2:=fun h1=>by
        rcases hbig with h2 | h2
        ·exact absurd h1 (Nat.not_le.2 h2)
        ·exact h2
       cases h
       obtain ⟨g,size,hωk,rfl,hrow⟩:=ho
       have hsize:size=ti.size:=by
        have h0:rows[0]?=some rows[0]:=List.getElem?_eq_getElem hn0
        rw [← (hrow 0 _ h0).1,hrs _ (List.getElem_mem hn0)]
       subst hsize
       by_cases hroom:rows.length+news.length≤cap
       ·exact room_ok hR ht ht2 hd2 hi hF hrs hns hsrc hlk hωk hroom hB hω hv hn0
       ·refine grow_ok hR ht ht2 hd2 hi hz hzs hF hrs hns hsrc hpos (by omega) h63 hfit hT hω hv (lk_st_same _ _ _) (fun k x hk hl=>?_)
        rw [lk_st_ne _ _ (Ne.symm hk),lk_del] at hl
        split at hl
        ·cases hl
        ·exact hl
      ·cases h
     ·cases h
  ·cases h
 ·cases h
theorem fold_set (off:Nat) :∀(vs:List Value) (k:Nat) (cells:Array Value),((vs.zipIdx k).foldl (fun cs x=>cs.setIfInBounds (off+x.2) x.1) cells).size=cells.size∧
  ∀q:Nat,q<cells.size→((vs.zipIdx k).foldl (fun cs x=>cs.setIfInBounds (off+x.2) x.1) cells)[q]?=if off+k≤q∧q<off+k+vs.length then vs[q-(off+k)]? else cells[q]?
 | [],k,cells=>by simp;omega
 | v::r,k,cells=>by
  obtain ⟨h1,h2⟩:=fold_set off r (k+1) (cells.setIfInBounds (off+k) v)
  simp only [List.zipIdx_cons,List.foldl_cons]
  refine ⟨by rw [h1];simp,fun q hq=>?_⟩
  rw [h2 q (by simpa using hq)]
  by_cases hqk:q=off+k
  ·subst hqk
   rw [if_neg (by omega),if_pos (by simp)]
   simp [hq]
  ·by_cases h3:off+(k+1)≤q∧q<off+(k+1)+r.length
   ·rw [if_pos h3,if_pos (by simp;omega)]
    have:q-(off+k)=(q-(off+(k+1)))+1:=by omega
    rw [this,List.getElem?_cons_succ]
   ·rw [if_neg h3,if_neg (by simp;omega),Array.getElem?_setIfInBounds_ne (Ne.symm hqk)]
theorem fill_step (off:Nat) (us:List Value) (cells:Array Value):(us.toArray.zipIdx.foldl (fun cs x=>cs.setIfInBounds (off+x.2) x.1) cells)=(us.zipIdx 0).foldl (fun cs x=>cs.setIfInBounds (off+x.2) x.1) cells:=by
 simp
def Parts (G:Gh) (σ:Sl) (place:Nat→Option (Nat × Nat)):List (Nat × Value)→List (Nat × Nat × Opd)→Prop
 | [],[]=>True
 | (i,v)::r,(off,n,x)::s=>place i=some (off,n)∧R G (x.ev σ) v∧Parts G σ place r s
 | _,_=>False
theorem fillCells_ok {σ:Sl} {place:Nat→Option (Nat × Nat)} :∀{vs:List (Nat × Value)} {xs:List (Nat × Nat × Opd)},Parts G σ place vs xs→∀{cs cs':List AV} {us:List Value},Rs G cs us→fillCells σ cs xs=some cs'→
  ∃us':List Value,Instr.fill place us.toArray vs=some us'.toArray∧Rs G cs' us'
 | [],[],_,cs,cs',us,hr,h=>by cases h;exact ⟨us,rfl,hr⟩
 | (i,v)::r,(off,n,x)::s,hp,cs,cs',us,hr,h=>by
  obtain ⟨hpl,hx,hrest⟩:=hp
  unfold fillCells at h
  dsimp only at h
  split at h
  ·rename_i hc
   obtain ⟨hn,hle,hone⟩:=hc
   obtain ⟨xs,hxs,hrx,hlx,_⟩:=hx.cells hone
   have hset:=hr.setAt_ hrx (o:=off) (by omega)
   have hul:=hr.1
   have e1:(v.cells.zipIdx.foldl (fun cs x=>cs.setIfInBounds (off+x.2) x.1) us.toArray)=(us.take off++xs++us.drop (off+xs.length)).toArray:=by
    rw [hxs,fill_step]
    obtain ⟨a1,a2⟩:=fold_set off xs 0 us.toArray
    apply Array.ext'
    apply List.ext_getElem?
    intro q
    rw [Array.getElem?_toList]
    by_cases hq:q<us.length
    ·rw [a2 q (by simpa using hq)]
     simp only [Nat.add_zero]
     rw [List.append_assoc,List.getElem?_append]
     simp only [List.length_take]
     have hmin:min off us.length=off:=by omega
     rw [hmin]
     by_cases h1:q<off
     ·rw [if_neg (by omega),if_pos h1,List.getElem?_take,if_pos h1];simp
     ·by_cases h2:q<off+xs.length
      ·rw [if_pos ⟨by omega,h2⟩,if_neg h1,List.getElem?_append,if_pos (by omega)]
      ·rw [if_neg (by omega),if_neg h1,List.getElem?_append,if_neg (by omega),List.getElem?_drop]
       simp only [List.getElem?_toArray]
       congr 1
       omega
    ·rw [Array.getElem?_eq_none (by rw [a1];simpa using hq),List.getElem?_eq_none (by simp;omega)]
   obtain ⟨us',h1,h2⟩:=fillCells_ok hrest hset h
   refine ⟨us',?_,h2⟩
   simp only [Instr.fill,hpl]
   rw [if_neg]
   ·rw [e1];exact h1
   ·simp only [hxs,List.size_toArray,ne_eq,gt_iff_lt,Bool.or_eq_true,decide_eq_true_eq,not_or,Decidable.not_not,Nat.not_lt,decide_not,Bool.not_eq_eq_eq_not,Bool.not_true,decide_eq_false_iff_not]
    omega
  ·cases h
theorem build_ok {t:TypeId} {i:TI} (hT:TOk P t i) {σ:Sl} {vs:List (Nat × Value)} {xs:List (Nat × Nat × Opd)} {place:Nat→Option (Nat × Nat)} (hp:Parts G σ place vs xs) {r:AV} (h:(fillCells σ i.zero xs).map AV.ag=some r)
  (hb :∀z ti,P.info? t=some ti→ti.zero=some z→P.built t vs=Instr.fill place z.cells vs) :∃v,(Instr.build t vs.toArray).run P w=.ok v w∧R G r v:=by
 obtain ⟨ti,z,hi,_,_,hz,hc,_⟩:=hT.info
 simp only [Option.map_eq_some_iff] at h
 obtain ⟨cs',hcs,rfl⟩:=h
 obtain ⟨us',h1,h2⟩:=fillCells_ok hp (cVals_ok hc) hcs
 rw [Array.toArray_toList] at h1
 exact ⟨_,run_build w t vs.toArray us'.toArray (by rw [hb z ti hi hz];exact h1),.ag _ _ h2.1 h2.2⟩
theorem zeroOf {t:TypeId} {i:TI} (hT:TOk P t i) {zs:List AV} (hs:softs i.zero=some zs) :∃ti z,P.info? t=some ti∧ti.size=i.size∧ti.bytes=i.bytes∧ti.zero=some z∧z.cells.size=i.size∧zs.length=i.size∧(∀(j:Nat) y u,zs[j]?=some y→z.cells[j]?=some u→Fz G.H y u∧u.oneCell'=true):=by
 obtain ⟨ti,z,hi,h1,h2,hz,hc,hsz⟩:=hT.info
 have hl:=(cVals_ok (G:=G) hc).1
 refine ⟨ti,z,hi,h1,h2,hz,hsz,by rw [softs_len hs,hl];simpa using hsz,fun j y u hy hu=>?_⟩
 rw [← Array.getElem?_toList] at hu
 exact ⟨softs_ok hs (cVals_ok hc) j y u hy hu,cVals_one hc u (List.mem_of_getElem? hu)⟩
structure RowsAt (H:Hp) (rows:List (List AV)) (size:Nat) (cs:Array Value):Prop where
 sz:cs.size=rows.length*size
 len :∀row∈rows,row.length=size
 at_ :∀(i:Nat) row (j:Nat) a,rows[i]?=some row→row[j]?=some a→∃v,cs[i*size+j]?=some v∧Fz H a v∧v.oneCell'=true
theorem made_get (z:Array Value) (n q:Nat) (h:q<n) (hz:0<z.size):(madeCells z n)[q]?=z[q % z.size]?:=by
 unfold madeCells
 simp only [Array.getElem?_map]
 rw [Array.getElem?_range,if_pos h]
 have:=Nat.mod_lt q hz
 simp [getElem!_pos,this]
theorem RowsAt.made {zs:List AV} {z:Array Value} {n:Nat} (hzl:zs.length=z.size) (hz:0<z.size) (hat :∀(j:Nat) y u,zs[j]?=some y→z[j]?=some u→Fz G.H y u∧u.oneCell'=true):RowsAt G.H (List.replicate n zs) z.size (madeCells z (n*z.size)):=by
 refine ⟨by rw [size_madeCells];simp,fun row hr=>by rw [(List.mem_replicate.1 hr).2,hzl],fun i row j a h1 h2=>?_⟩
 rw [List.getElem?_replicate] at h1
 split at h1
 ·rename_i hi
  cases h1
  have hj:j<z.size:=by
   rw [← hzl]
   rcases Nat.lt_or_ge j zs.length with h | h
   ·exact h
   ·rw [List.getElem?_eq_none h] at h2;cases h2
  have hlt:i*z.size+j<n*z.size:=by
   have:(i+1)*z.size≤n*z.size:=Nat.mul_le_mul_right _ (by omega)
   rw [Nat.succ_mul] at this;omega
  refine ⟨z[j],?_,hat j a z[j] h2 (Array.getElem?_eq_getElem hj)⟩
  rw [made_get _ _ _ hlt hz,(divmod_of (i:=i) hj).2,Array.getElem?_eq_getElem hj]
 ·cases h1
theorem RowsAt.step (hR:Rel G w0 st w) {rows:List (List AV)} {size:Nat} {cs:Array Value} (h:RowsAt G.H rows size cs) {e:TypeId} {d site ver:Nat} :
  ∃G',R G' (.sl .full rows) (.slice (some ⟨w.heap.size,0,none⟩) rows.length rows.length)∧Step G G' w0 st st (w.alloc (.cells cs e)) d site ver:=by
 have hat :∀(i:Nat) row (j:Nat) a,rows[i]?=some row→row[j]?=some a→cs[i*size+j]?=some ((fun i j=>cs.getD (i*size+j) undef) i j)∧Fz G.H a ((fun i j=>cs.getD (i*size+j) undef) i j)∧((fun i j=>cs.getD (i*size+j) undef) i j).oneCell'=true:=by
  intro i row j a h1 h2
  obtain ⟨v,h3,h4⟩:=h.at_ i row j a h1 h2
  have:cs.getD (i*size+j) undef=v:=by simp [Array.getD_eq_getD_getElem?,h3]
  simp only [this]
  exact ⟨h3,h4⟩
 obtain ⟨h1,h2⟩:=newRows (w1:=w) hR h.len (us:=fun i j=>cs.getD (i*size+j) undef) (fun i row j a x y=>(hat i row j a x y).2.1) (fun i row j a x y=>(hat i row j a x y).2.2) (cs:=cs) (e:=e)
  (fun q v hq=>by
   rw [flat_get] at hq
   split at hq
   ·rename_i hlt
    cases hq
    have hpos:0<size:=by
     rcases Nat.eq_zero_or_pos size with h | h
     ·subst h;simp at hlt
     ·exact h
    have:q / size*size+q % size=q:=by have:=Nat.div_add_mod q size;rw [Nat.mul_comm];exact this
    simp only [this]
    have hq2:q<cs.size:=by rw [h.sz];exact hlt
    rw [Array.getElem?_eq_getElem hq2]
    simp [Array.getD_eq_getD_getElem?,Array.getElem?_eq_getElem hq2]
   ·cases hq) rfl (Below.refl _ _) rows.length (Nat.le_refl _) (d:=d) (site:=site) (ver:=ver)
 exact ⟨_,.sl .full rows _ _ _ h2 ⟨rfl,.inr ⟨_,rfl⟩⟩,h1⟩
def PartsR (G:Gh) (σ:Sl):List (Nat × Value)→List (Nat × Opd)→Prop
 | [],[]=>True
 | (i,v)::r,(i',x)::s=>i=i'∧R G (x.ev σ) v∧PartsR G σ r s
 | _,_=>False
theorem soft_one {x y:AV} (h:x.soft=some y):x.one=true:=by
 cases x<;>first | rfl | cases h
theorem softs_one :∀{xs ys:List AV},softs xs=some ys→xs.all AV.one=true
 | [],_,_=>rfl
 | v::r,ys,h=>by
  unfold softs at h
  split at h
  ·rename_i w l hw hl
   simp only [List.all_cons,soft_one hw,softs_one hl,Bool.and_self]
  ·cases h
theorem fillRows_ok {σ:Sl} {z:List AV} :∀{vs:List (Nat × Value)} {xs:List (Nat × Opd)},PartsR G σ vs xs→∀{rows rows':List (List AV)} {cs:Array Value},RowsAt G.H rows z.length cs→fillRows z σ rows xs=some rows'→
  ∃cs':Array Value,Instr.fill (fun i=>some (i*z.length,z.length)) cs vs=some cs'∧RowsAt G.H rows' z.length cs'∧rows'.length=rows.length
 | [],[],_,rows,rows',cs,hr,h=>by cases h;exact ⟨cs,rfl,hr,rfl⟩
 | (i,v)::r,(i',x)::s,hp,rows,rows',cs,hr,h=>by
  obtain ⟨rfl,hx,hrest⟩:=hp
  unfold fillRows at h
  split at h
  ·rename_i ys hys
   split at h
   ·rename_i hc
    obtain ⟨hi,hl⟩:=hc
    obtain ⟨us,hus,hru,hlu,h1⟩:=hx.cells (softs_one hys)
    have hul:us.length=z.length:=by rw [hlu,← softs_len hys,hl]
    have hi2:(i+1)*z.length≤rows.length*z.length:=Nat.mul_le_mul_right _ (by omega)
    rw [Nat.succ_mul] at hi2
    obtain ⟨a1,a2⟩:=fold_set (i*z.length) us 0 cs
    have hnew:RowsAt G.H (rows.set i ys) z.length (us.toArray.zipIdx.foldl (fun cs x=>cs.setIfInBounds (i*z.length+x.2) x.1) cs):=by
     rw [fill_step]
     refine ⟨by rw [a1,hr.sz];simp,fun row hrow=>?_,fun i2 row j a h2 h3=>?_⟩
     ·rcases List.mem_or_eq_of_mem_set hrow with h | rfl
      ·exact hr.len row h
      ·exact hl
     ·rw [List.getElem?_set] at h2
      split at h2
      ·rename_i hii
       subst hii
       cases h2
       have hj:j<z.length:=by
        rw [← hl]
        rcases Nat.lt_or_ge j ys.length with h | h
        ·exact h
        ·rw [List.getElem?_eq_none h] at h3;cases h3
       have hju:j<us.length:=by omega
       refine ⟨us[j],?_,softs_ok hys hru j a us[j] h3 (List.getElem?_eq_getElem hju),h1 _ (List.getElem_mem hju)⟩
       rw [a2 _ (by rw [hr.sz];omega),if_pos (by omega)]
       rw [show i*z.length+j-(i*z.length+0)=j from by omega]
       exact List.getElem?_eq_getElem hju
      ·rename_i hii
       obtain ⟨u,h4,h5⟩:=hr.at_ i2 row j a h2 h3
       refine ⟨u,?_,h5⟩
       have hlt:i2*z.length+j<cs.size:=by
        rcases Nat.lt_or_ge (i2*z.length+j) cs.size with h | h
        ·exact h
        ·rw [Array.getElem?_eq_none h] at h4;cases h4
       have hj:j<z.length:=by
        rw [← hr.len row (List.mem_of_getElem? h2)]
        rcases Nat.lt_or_ge j row.length with h | h
        ·exact h
        ·rw [List.getElem?_eq_none h] at h3;cases h3
       rw [a2 _ hlt,if_neg]
       ·exact h4
       ·rintro ⟨h6,h7⟩
        rw [hul] at h7
        apply hii
        rcases Nat.lt_trichotomy i i2 with h8 | h8 | h8
        ·have:(i+1)*z.length≤i2*z.length:=Nat.mul_le_mul_right _ h8
         rw [Nat.succ_mul] at this;omega
        ·exact h8
        ·have:(i2+1)*z.length≤i*z.length:=Nat.mul_le_mul_right _ h8
         rw [Nat.succ_mul] at this;omega
    obtain ⟨cs',h6,h7,h8⟩:=fillRows_ok hrest hnew h
    refine ⟨cs',?_,h7,by rw [h8];simp⟩
    simp only [Instr.fill]
    rw [if_neg]
    ·rw [hus];exact h6
    ·simp only [hus,List.size_toArray,ne_eq,gt_iff_lt,Bool.or_eq_true,decide_eq_true_eq,not_or,Decidable.not_not,Nat.not_lt,decide_not,Bool.not_eq_eq_eq_not,Bool.not_true,decide_eq_false_iff_not]
     have:=hr.sz
     omega
   ·cases h
  ·cases h
theorem bslice_ok (hR:Rel G w0 st w) {t e:TypeId} (ht:P.underlying t=some (.slice e)) {i:TI} (hT:TOk P e i) {n:Nat} {σ:Sl} {vs:List (Nat × Value)} {xs:List (Nat × Opd)} (hp:PartsR G σ vs xs) {key:Key} {ver:Nat} {r:AV} (h:apure key ver σ (.bslice i.zero n xs)=some r) {d site ver':Nat} :
  ∃v w' G',(Instr.buildSlice t n vs.toArray).run P w=.ok v w'∧R G' r v∧Step G G' w0 st st w' d site ver':=by
 simp only [apure] at h
 split at h
 ·rename_i z hz
  split at h
  ·rename_i hc
   obtain ⟨hpos,hsm⟩:=hc
   simp only [Option.map_eq_some_iff] at h
   obtain ⟨rows,hrows,rfl⟩:=h
   obtain ⟨ti,zv,hi,hsz,_,hzv,hzs,hzl,hat⟩:=zeroOf (G:=G) hT hz
   have hinit:RowsAt G.H (List.replicate n z) z.length (madeCells zv.cells (n*zv.cells.size)):=by
    have:=RowsAt.made (G:=G) (zs:=z) (z:=zv.cells) (n:=n) (by rw [hzl,hzs]) (by rw [hzs,← hzl];exact hpos) hat
    rw [show zv.cells.size=z.length from by rw [hzl,hzs]] at this ⊢
    exact this
   obtain ⟨cs',h1,h2,h3⟩:=fillRows_ok hp hinit hrows
   rw [List.length_replicate] at h3
   obtain ⟨G',h4,h5⟩:=h2.step hR (e:=e) (d:=d) (site:=site) (ver:=ver')
   rw [h3] at h4
   refine ⟨_,_,G',?_,h4,h5⟩
   have hzz:z.length=ti.size:=by rw [hzl,hsz]
   rw [hzz] at h1 hpos hsm
   by_cases hn:n=0
   ·subst hn
    simp only [Nat.zero_mul] at h1
    have hm:madeCells zv.cells 0=#[]:=by simp [madeCells,Array.range_zero']
    rw [hm] at h1
    have hzr:(Array.range 0).map (zv.cells[· % zv.cells.size]!)=#[]:=by simp [Array.range_zero']
    simp only [Instr.buildSlice,Sem.run_bind,run_underlying ht,Result.andThen_ok,sizeOf,typeInfo,run_program,hi,Sem.run_pure,Nat.zero_mul]
    have hzr2 :∀zz:Array Value,(Array.range 0).map (zz[· % zz.size]!)=#[]:=fun zz=>by simp [Array.range_zero']
    simp [h1,newRow,hzr2]
   ·refine run_buildSlice w t e n vs.toArray cs' ti zv ht hi hzv (by omega) ?_ ?_
    ·intro h0
     rcases Nat.mul_eq_zero.1 h0 with h0 | h0<;>omega
    ·have hzz2:zv.cells.size=ti.size:=by rw [hzs,hsz]
     unfold madeCells at h1
     rw [hzz2] at h1 ⊢
     exact h1
  ·cases h
 ·cases h
theorem mks_ok (hR:Rel G w0 st w) {t e:TypeId} (ht:P.underlying t=some (.slice e)) {i:TI} (hT:TOk P e i) {C:CallF} {d site ver:Nat} {σ:Sl} {l c:Opd} {vl vc:Value} (hl:R G (l.ev σ) vl) (hc:R G (c.ev σ) vc) {r:AV} {st':St} (h:aexec C d site ver σ st (.mks i.zero i.bytes l c)=some (r,st')) :
  ∃v w' G',(Instr.makeSlice t vl vc).run P w=.ok v w'∧R G' r v∧Step G G' w0 st st' w' d site ver:=by
 simp only [aexec] at h
 split at h
 ·rename_i n n' hn hn'
  split at h
  ·rename_i z hz
   split at h
   ·rename_i hcond
    obtain ⟨rfl,hb,hm,hpos⟩:=hcond
    cases h
    obtain ⟨ti,zv,hi,hsz,hby,hzv,hzs,hzl,hat⟩:=zeroOf (G:=G) hT hz
    obtain ⟨k1,rfl⟩:=nat_inv hn hl
    obtain ⟨k2,rfl⟩:=nat_inv hn' hc
    have hinit:=RowsAt.made (G:=G) (zs:=z) (z:=zv.cells) (n:=n) (by rw [hzl,hzs]) (by rw [hzs,← hzl];exact hpos) hat
    obtain ⟨G',h4,h5⟩:=hinit.step hR (e:=e) (d:=d) (site:=site) (ver:=ver)
    rw [List.length_replicate] at h4
    refine ⟨_,_,G',?_,h4,h5⟩
    unfold maxBytes at hb hm
    have hbb:((ti.bytes:Nat):Int)*(n:Int)≤281474976710656:=by
     rw [hby,← Int.natCast_mul,Nat.mul_comm];omega
    have hrun:=run_make (P:=P) w t e ti zv ht hi hzv k1 k2 (n:Int) (n:Int) (by omega) (Int.le_refl _) hbb (by omega)
    simp only [Int.toNat_natCast] at hrun
    rw [hrun,show ti.size=zv.cells.size from by rw [hzs,hsz]]
   ·cases h
  ·cases h
 ·cases h
end
end Go.AM

/- Parts of the proof. -/
namespace Go.AM
open Go Go.RowKit
structure Cx where
 T:TTab
 fm:FM
 ptr:Nat→Bool
 fz:List Nat:=[]
def Cx.kind (X:Cx) (t:TypeId):Option TK:=(X.T t).map (·.kind)
def cParts (X:Cx) (fs:List (Nat × Nat)):List (Nat × Operand)→Option (List (Nat × Nat × Opd))
 | []=>some []
 | (i,x)::r=>match fs[i]?,cOpd X.fm x,cParts X fs r with
  | some (ft,off),some y,some l=>(match X.T ft with | some ti=>some ((off,ti.size,y)::l) | none=>none)
  | _,_,_=>none
def cPartsA (X:Cx) (size n:Nat):List (Nat × Operand)→Option (List (Nat × Nat × Opd))
 | []=>some []
 | (i,x)::r=>match cOpd X.fm x,cPartsA X size n r with
  | some y,some l=>some ((i*size,size,y)::l)
  | _,_=>none
def cPartsR (X:Cx):List (Nat × Operand)→Option (List (Nat × Opd))
 | []=>some []
 | (i,x)::r=>match cOpd X.fm x,cPartsR X r with
  | some y,some l=>some ((i,y)::l)
  | _,_=>none
def okSize (i:TI):Bool:=i.kind.agg||i.size==1
def cBuiltin (X:Cx) (b:Builtin) (args:List Operand) (tys:List TypeId):Option AOp:=
 match b,args,tys with
 | .len,[x],[t]=>match X.kind t,cOpd X.fm x with
  | some .str,some y=>some (.len true y)
  | some (.sl _),some y=>some (.len false y)
  | _,_=>none
 | .append,[s,x],[t,t2]=>match X.kind t,X.kind t2,cOpd X.fm s,cOpd X.fm x with
  | some (.sl e),some (.sl _),some s,some x=>match X.T e with | some i=>some (.app i.size i.bytes s x) | none=>none
  | some (.sl e),some .str,some s,some x=>match X.T e with | some i=>if i.size=1∧i.bytes=1 then some (.appS s x) else none | none=>none
  | _,_,_,_=>none
 | .max,[x,y],_=>match cOpd X.fm x,cOpd X.fm y with | some x,some y=>some (.max x y) | _,_=>none
 | _,_,_=>none
def cCall (X:Cx) (callee:Callee) (args:List Operand) (tys:List TypeId):Option AOp:=
 match callee with
 | .builtin b=>cBuiltin X b args tys
 | .value f=>match cOpd X.fm f,cOpds X.fm args with
  | some (.c (.fn c [])),some l=>some (.call (X.ptr c) c l)
  | some (.t n),some l=>some (.callv (.t n) l)
  | _,_=>none
 | .invoke _ _=>none
def flagOp (X:Cx):Op→Bool
 | .alloc t=>t==btOf X.fm
 | .box _ _=>false
 | .call c=>match c.callee with
  | .builtin .append=>match c.argTypes.toList with
   | t::_=>match X.kind t with | some (.sl e)=>e==etOf X.fm | _=>false
   | []=>false
  | _=>true
 | _=>true
def fkOf (X:Cx) (t:Nat):Option Nat:=match X.kind t with | some (.int _)=>some 0 | some .bool=>some 1 | some .str=>some 2 | _=>none
def flatFs (X:Cx):Nat→List (Nat × Nat)→Option (List Nat)
 | _,[]=>some []
 | i,(t,o)::r=>if o=i then (match fkOf X t,flatFs X (i+1) r with | some c,some l=>some (c::l) | _,_=>none) else none
def cOp (X:Cx):Op→Option AOp
 | .move x | .assign x=>match cOpd X.fm x with | some y=>some (.mv y) | none=>none
 | .pick c a b=>match cOpd X.fm c,cOpd X.fm a,cOpd X.fm b with | some c,some a,some b=>some (.pick c a b) | _,_,_=>none
 | .alloc t=>match X.T t with | some i=>some (.alloc i.zero) | none=>none
 | .box t x=>match X.T t,cOpd X.fm x with | some i,some y=>some (.box i.size y) | _,_=>none
 | .build t parts=>match X.T t with
  | some i=>match i.kind with
   | .st fs=>match (fs.all fun f=>(X.T f.1).isSome),cParts X fs parts.toList with | true,some ps=>some (.build i.zero ps) | _,_=>none
   | .arr n e=>match X.T e with | some ie=>(match cPartsA X ie.size n parts.toList with | some ps=>some (.build i.zero ps) | none=>none) | none=>none
   | _=>none
  | none=>none
 | .buildSlice t n parts=>match X.kind t with
  | some (.sl e)=>match X.T e,cPartsR X parts.toList with | some i,some ps=>some (.bslice i.zero n ps) | _,_=>none
  | _=>none
 | .load t a=>match X.T t,cOpd X.fm a with | some i,some y=>if okSize i then some (.load i.size i.kind.agg y) else none | _,_=>none
 | .store t a x=>match X.T t,cOpd X.fm a,cOpd X.fm x with | some i,some y,some z=>some (.store i.size y z) | _,_,_=>none
 | .nilCheck x=>match cOpd X.fm x with | some y=>some (.nilc y) | none=>none
 | .binOp op t x y _=>match X.kind t,cOpd X.fm x,cOpd X.fm y with
  | some (.int _),some x,some y=>some (.bin op x y)
  | some .str,some x,some y=>some (.bin op x y)
  | some .bool,some x,some y=>match op with | .eql=>some (.beq false x y) | .neq=>some (.beq true x y) | _=>none
  | some (.ptr _),some x,some y=>match op with | .eql=>some (.peq false x y) | .neq=>some (.peq true x y) | _=>none
  | some (.st fs),some x,some y=>(match flatFs X 0 fs with | some ks=>(match op with | .eql=>some (.aeq false ks x y) | .neq=>some (.aeq true ks x y) | _=>none) | none=>none)
  | _,_,_=>none
 | .unOp op _ x=>match cOpd X.fm x with | some y=>some (.un op y) | none=>none
 | .convert s d x=>match X.kind s,X.kind d,cOpd X.fm x with
  | some (.int _),some (.int k),some y=>some (.cvi k y)
  | some (.sl e),some .str,some y=>match X.kind e with | some (.int .u8)=>some (.b2s y) | _=>none
  | some (.ptr e),some .uptr,some y=>match X.T e with | some i=>if e=btOf X.fm∧0<i.size then some (.cvp i.size y) else none | none=>none
  | some .uptr,some (.ptr e),some y=>match X.T e with | some i=>if e=btOf X.fm∧0<i.size then some (.cvp i.size y) else none | none=>none
  | _,_,_=>none
 | .makeFunc (.func f) first cap=>match X.fm f,first.toList,cOpds X.fm cap.toList with | some c,[],some l=>some (.mkfn c l) | some c,x::y,some []=>(match cOpds X.fm (x::y) with | some l=>some (.mkbf c l) | none=>none) | _,_,_=>none
 | .makeSlice t l c=>match X.kind t,cOpd X.fm l,cOpd X.fm c with
  | some (.sl e),some l,some c=>match X.T e with | some i=>some (.mks i.zero i.bytes l c) | none=>none
  | _,_,_=>none
 | .slice t x lo hi none=>match X.kind t,cOpd X.fm x,cOpt X.fm lo,cOpt X.fm hi with
  | some .str,some x,some lo,some hi=>some (.slS x lo hi)
  | some (.sl e),some x,some lo,some hi=>match X.T e with | some i=>some (.slL i.size x lo hi) | none=>none
  | some (.arr n e),some x,some lo,some hi=>match X.T e with | some i=>some (.slA n i.size x lo hi) | none=>none
  | _,_,_,_=>none
 | .fieldAddr s x f=>match X.kind s,cOpd X.fm x with
  | some (.st fs),some y=>match fs[f]? with
   | some (ft,off)=>match X.T ft with | some i=>if i.size=0 then none else some (.fad off y) | none=>none
   | none=>none
  | _,_=>none
 | .field s x f=>match X.kind s,cOpd X.fm x with
  | some (.st fs),some y=>match fs[f]? with
   | some (ft,off)=>match X.T ft with | some i=>if okSize i then some (.fld off i.size i.kind.agg y) else none | none=>none
   | none=>none
  | _,_=>none
 | .indexAddr t x i=>match X.kind t,cOpd X.fm x,cOpd X.fm i with
  | some (.sl e),some x,some y=>match X.T e with | some i=>some (.iaL i.size x y) | none=>none
  | some (.arr n e),some x,some y=>match X.T e with | some i=>some (.iaA n i.size x y) | none=>none
  | _,_,_=>none
 | .index t x i=>match X.kind t,cOpd X.fm x,cOpd X.fm i with
  | some .str,some x,some y=>some (.ixS x y)
  | some (.arr n e),some x,some y=>match X.T e with | some i=>if okSize i then some (.ixA n i.size i.kind.agg x y) else none | none=>none
  | _,_,_=>none
 | .extract x k=>match cOpd X.fm x with | some y=>some (.ext k y) | none=>none
 | .lookup t x i c=>match c,X.kind t,cOpd X.fm x,cOpd X.fm i with | false,some .mp,some x,some i=>some (.lkp x i) | _,_,_,_=>none
 | .call c=>cCall X c.callee c.args.toList c.argTypes.toList
 | _=>none
section
variable {P:Program} {G:Gh} {w0 w:World} {st:St} {X:Cx}
theorem kind_inv (hT:TTok P X.T) {t:TypeId} {k:TK} (h:X.kind t=some k) :∃i,X.T t=some i∧i.kind=k∧TOk P t i∧k.ok P t:=by
 unfold Cx.kind at h
 simp only [Option.map_eq_some_iff] at h
 obtain ⟨i,hi,rfl⟩:=h
 exact ⟨i,hi,rfl,hT t i hi,(hT t i hi).kind⟩
theorem TOk.ti {t:TypeId} {i:TI} (h:TOk P t i) :∃ti,P.info? t=some ti∧ti.size=i.size∧ti.bytes=i.bytes:=by
 obtain ⟨ti,z,h1,h2,h3,_⟩:=h.info
 exact ⟨ti,h1,h2,h3⟩
theorem okSize_inv {i:TI} (h:okSize i=true):i.kind.agg=false→i.size=1:=by
 intro ha
 unfold okSize at h
 rw [ha] at h
 simpa using h
theorem fk_cell (hT:TTok P X.T) {t c:Nat} (hk:fkOf X t=some c) {a b:AV} {u v:Value} {x:Bool} (h:cellEq c a b=some x) (ha:R G a u) (hb:R G b v) (d:Nat) :
  (Op.equalIn (d+1) t u v).run P w=.ok x w∧(isAgg t).run P w=.ok false w:=by
 unfold fkOf at hk
 split at hk
 ·rename_i k hkk
  cases hk
  obtain ⟨_,_,_,_,hu⟩:=kind_inv hT hkk
  refine ⟨?_,run_isAgg (k:=.int k) hu⟩
  unfold cellEq at h
  split at h
  ·split at h
   ·rename_i hkk'
    subst hkk'
    cases h
    rw [ha.int_inv,hb.int_inv]
    exact run_equalIn_int w d t _ k _ _ hu
   ·cases h
  ·rename_i e;cases e
  ·rename_i e;cases e
  ·cases h
 ·rename_i hkk
  cases hk
  obtain ⟨_,_,_,_,hu⟩:=kind_inv hT hkk
  refine ⟨?_,run_isAgg (k:=.bool) hu⟩
  unfold cellEq at h
  split at h
  ·rename_i e;cases e
  ·cases h
   rw [ha.bool_inv,hb.bool_inv]
   exact run_equalIn_bool' w d t _ _ hu
  ·rename_i e;cases e
  ·cases h
 ·rename_i hkk
  cases hk
  obtain ⟨_,_,_,_,hu⟩:=kind_inv hT hkk
  refine ⟨?_,run_isAgg (k:=.str) hu⟩
  unfold cellEq at h
  split at h
  ·rename_i e;cases e
  ·rename_i e;cases e
  ·cases h
   rw [ha.str_inv,hb.str_inv,run_equalIn_string w d t _ _ hu]
   rw [ByteArray.toList_eq,ByteArray.toList_eq]
  ·cases h
 ·cases hk
theorem eqFields_ok (hT:TTok P X.T) {us vs:List Value} {cs ds:List AV} (h1:Rs G cs us) (h2:Rs G ds vs) (d:Nat) :∀(fields:List Field) (i:Nat) (ks:List Nat) (b:Bool),(∀f∈fields,(f.name== "_")=false)→flatFs X i (fields.map fun f=>(f.type,f.offset))=some ks→cellsEq ks (cs.drop i) (ds.drop i)=some b→
  (Op.eqFields (d+1) us.toArray vs.toArray fields).run P w=.ok b w
 | [],i,ks,b,_,hf,hc=>by
  cases hf
  unfold cellsEq at hc
  split at hc
  ·cases hc;simp [Op.eqFields]
  ·rename_i e _ _;cases e
  ·cases hc
 | f::r,i,ks,b,hn,hf,hc=>by
  simp only [List.map_cons,flatFs] at hf
  split at hf
  case isFalse=>cases hf
  rename_i hoff
  split at hf
  case h_2=>cases hf
  rename_i c l hfk hl
  cases hf
  unfold cellsEq at hc
  split at hc
  ·rename_i e _ _;cases e
  ·rename_i c' q a r1 b1 t1 e ea eb
   cases e
   split at hc
   case h_2=>cases hc
   rename_i x y hx hy
   cases hc
   have ga:cs[i]?=some a:=by have:=congrArg List.head? ea;simpa [List.head?_drop] using this
   have gb:ds[i]?=some b1:=by have:=congrArg List.head? eb;simpa [List.head?_drop] using this
   have la:i<us.length:=by rw [← h1.1];exact (List.getElem?_eq_some_iff.1 ga).1
   have lb:i<vs.length:=by rw [← h2.1];exact (List.getElem?_eq_some_iff.1 gb).1
   have gu:us[i]?=some us[i]:=List.getElem?_eq_getElem la
   have gv:vs[i]?=some vs[i]:=List.getElem?_eq_getElem lb
   obtain ⟨q1,q2⟩:=fk_cell (P:=P) (w:=w) hT hfk hx (h1.2 i a _ ga gu) (h2.2 i b1 _ gb gv) d
   have ra:cs.drop (i+1)=r1:=by have:=congrArg List.tail ea;simpa [List.tail_drop] using this
   have rb:ds.drop (i+1)=t1:=by have:=congrArg List.tail eb;simpa [List.tail_drop] using this
   have ih:=eqFields_ok hT h1 h2 d r (i+1) l y (fun f hf=>hn f (List.mem_cons_of_mem _ hf)) hl (by rw [ra,rb];exact hy)
   have hnm:f.name≠ "_":=fun e=>by have:=hn f List.mem_cons_self;rw [e] at this;cases this
   have p1:(part f.type us.toArray f.offset).run P w=.ok us[i] w:=by
    rw [hoff];simp only [part,Sem.run_bind,q2,Result.andThen_ok,Bool.false_eq_true,if_false,List.getElem?_toArray,gu,Sem.run_pure]
   have p2:(part f.type vs.toArray f.offset).run P w=.ok vs[i] w:=by
    rw [hoff];simp only [part,Sem.run_bind,q2,Result.andThen_ok,Bool.false_eq_true,if_false,List.getElem?_toArray,gv,Sem.run_pure]
   rw [Op.eqFields,if_pos hnm]
   simp only [Sem.run_bind,p1,p2,q1,Result.andThen_ok]
   cases x
   ·simp
   ·simpa using ih
  ·cases hc
theorem aeq_ok (hT:TTok P X.T) {t:TypeId} {fs:List (Nat × Nat)} {ks:List Nat} (hk:X.kind t=some (.st fs)) (hf:flatFs X 0 fs=some ks) {cs ds:List AV} {b:Bool} (h:cellsEq ks cs ds=some b) {u v:Value} (hu:R G (.ag cs) u) (hv:R G (.ag ds) v) (neg:Bool) (x y:Operand) :
  ((do eqGuard (if neg then .neq else .eql) t x y u v;binOp (if neg then .neq else .eql) t u v):Sem Value).run P w=.ok (.bool (if neg then !b else b)) w:=by
 obtain ⟨_,_,_,_,fields,hun,hmap,hs,hg,hn⟩:=kind_inv hT hk
 obtain ⟨us,rfl,h1⟩:=hu.ag_inv
 obtain ⟨vs,rfl,h2⟩:=hv.ag_inv
 have hfo:P.fieldsOf t=fields:=by unfold Program.fieldsOf;rw [hun]
 have e:(Op.equalIn 10000 t (.agg us.toArray) (.agg vs.toArray)).run P w=.ok b w:=by
  rw [run_equalIn_struct w 9999 t _ _ (by rw [hfo];exact hun) hs,hfo]
  exact eqFields_ok hT h1 h2 9998 fields.toList 0 ks b hn (by rw [hmap];exact hf) h
 cases neg
 ·simp only [Bool.false_eq_true,if_false,Sem.run_bind,run_eqGuard_agg w _ t x y _ _ hg,Result.andThen_ok,run_eql_struct,e]
 ·simp only [if_true,Sem.run_bind,run_eqGuard_agg w _ t x y _ _ hg,Result.andThen_ok,run_neq_struct,e]
theorem beq_bytes (a b:List UInt8):((⟨a.toArray⟩:ByteArray)==⟨b.toArray⟩)=(a==b):=by
 rw [beq_toListBytes,ByteArray.toList_eq,ByteArray.toList_eq]
theorem findNow_ok (s:List UInt8) :∀(es:List MapEntry) (l:List (List UInt8 × Int)) (i:Nat),es.map (fun e=>(e.key,e.val))=l.map (fun x=>(Value.string ⟨x.1.toArray⟩,Value.int .u8 x.2))→
  (Instr.findNow .string (.string ⟨s.toArray⟩) es i=some none∧l.find? (fun x=>x.1==s)=none)∨∃j x,Instr.findNow .string (.string ⟨s.toArray⟩) es i=some (some (j,.int .u8 x.2))∧l.find? (fun x=>x.1==s)=some x
 | [],[],i,_=>.inl ⟨rfl,rfl⟩
 | [],_::_,i,h=>by cases h
 | _::_,[],i,h=>by cases h
 | e::es,x::l,i,h=>by
  simp only [List.map_cons,List.cons.injEq,Prod.mk.injEq] at h
  obtain ⟨⟨h1,h2⟩,h3⟩:=h
  have ih:=findNow_ok s es l (i+1) h3
  rw [Instr.findNow,h1,h2]
  simp only [Instr.sameNow,beq_bytes,List.find?_cons]
  cases hx:(s==x.1) with
  | true=>
   have:(x.1==s)=true:=by have:=eq_of_beq hx;rw [this];exact beq_self_eq_true _
   rw [this]
   exact .inr ⟨i,x,rfl,rfl⟩
  | false=>
   have:(x.1==s)=false:=by
    cases h:(x.1==s) with
    | false=>rfl
    | true=>have:=eq_of_beq h;rw [this,beq_self_eq_true] at hx;cases hx
   rw [this]
   exact ih
theorem lkp_ok (hT:TTok P X.T) (hR:Rel G w0 st w) {t:TypeId} (hk:X.kind t=some .mp) {l:List (List UInt8 × Int)} {s:List UInt8} {u v:Value} (hu:R G (.mp l) u) (hv:R G (.s s) v) :
  (Instr.lookup t u v false).run P w=.ok (.int .u8 (mpAt l s)) w:=by
 obtain ⟨_,_,_,_,k,e,hun,hks,hz⟩:=kind_inv hT hk
 obtain ⟨b,rfl,hb⟩:=hu.mp_inv
 rw [hv.str_inv]
 obtain ⟨es,clock,h1,h2⟩:=hR.mp b l hb
 have hget:(getObj b).run P w=.ok (.map es clock) w:=by simp [getObj,Sem.run,h1]
 have hck:(Instr.checkKey es.isEmpty 10000 k (.string ⟨s.toArray⟩)).run P w=.ok () w:=by
  rw [Instr.checkKey]
  simp [run_underlying hks]
 unfold mpAt
 rcases findNow_ok s es.toList l 0 h2 with ⟨h3,h4⟩ | ⟨j,x,h3,h4⟩
 ·have hfk:(Instr.findKey k (.string ⟨s.toArray⟩) es.toList).run P w=.ok none w:=by
   simp [Instr.findKey,run_underlying hks,h3]
  simp only [Instr.lookup,Sem.run_bind,run_underlying hun,Result.andThen_ok,hget,Sem.run_pure,hck,hfk,hz,h4]
  rfl
 ·have hfk:(Instr.findKey k (.string ⟨s.toArray⟩) es.toList).run P w=.ok (some (j,.int .u8 x.2)) w:=by
   simp [Instr.findKey,run_underlying hks,h3]
  simp only [Instr.lookup,Sem.run_bind,run_underlying hun,Result.andThen_ok,hget,Sem.run_pure,hck,hfk,h4]
  rfl
def Did (P:Program) (G:Gh) (w0:World) (st:St) (w:World) (o:Oper) (a:Act) (r:AV) (st':St) (d site ver:Nat):Prop:=
 ∃nx v w' G',(execOp a.eval o).run P w=.ok nx w'∧(nx=.value v∨(nx=.skip∧v=undef))∧R G' r v∧Step G G' w0 st st' w' d site ver
theorem Did.val {o:Oper} {a:Act} {r:AV} {st':St} {d site ver:Nat} {v:Value} {w':World} {G':Gh} (h1:(execOp a.eval o).run P w=.ok (.value v) w') (h2:R G' r v) (h3:Step G G' w0 st st' w' d site ver):Did P G w0 st w o a r st' d site ver:=
 ⟨_,v,w',G',h1,.inl rfl,h2,h3⟩
theorem Did.pure {o:Oper} {a:Act} {r:AV} {d site ver:Nat} (hR:Rel G w0 st w) (h :∃v,(execOp a.eval o).run P w=.ok (.value v) w∧R G r v):Did P G w0 st w o a r st d site ver:=by
 obtain ⟨v,h1,h2⟩:=h
 exact .val h1 h2 (Step.same hR)
theorem apure_state {d site ver:Nat} {σ:Sl} {r:AV} {st':St} {op:AOp} (h:(apure (d,site) ver σ op).map (·,st)=some (r,st')):apure (d,site) ver σ op=some r∧st'=st:=by
 simp only [Option.map_eq_some_iff,Prod.mk.injEq] at h
 obtain ⟨x,h1,rfl,rfl⟩:=h
 exact ⟨h1,rfl⟩
theorem run_val {P:Program} {w w':World} {s:Sem Value} {v:Value} (h:s.run P w=.ok v w'):(do pure (Next.value (← s)):Sem Next).run P w=.ok (.value v) w':=by
 simp only [Sem.run_bind,h,Result.andThen_ok,Sem.run_pure]
theorem run_unit {P:Program} {w w':World} {s:Sem Unit} (h:s.run P w=.ok () w'):(do s;pure Next.skip:Sem Next).run P w=.ok .skip w':=by
 simp only [Sem.run_bind,h,Result.andThen_ok,Sem.run_pure]
theorem eqGuard_ptr {op:BinOp} {t:TypeId} {x y:Operand} {m n:Option Addr}:(eqGuard op t x y (.pointer m) (.pointer n)).run P w=.ok () w:=by
 unfold eqGuard;cases op<;>simp
theorem peq_ok {neg:Bool} {t e:TypeId} (ht:P.underlying t=some (.pointer e)) (he:(P.info? e).isSome=true) {x y r:AV} {vx vy:Value} (h:apeq neg x y=some r) (hx:R G x vx) (hy:R G y vy) :
  (∃m n,vx=.pointer m∧vy=.pointer n)∧∃v,(binOp (if neg then .neq else .eql) t vx vy).run P w=.ok v w∧R G r v:=by
 obtain ⟨j,hj⟩:=Option.isSome_iff_exists.1 he
 have hb :∀x:Bool,R G (.b x) (.bool x):=fun n=>.fz _ _ (.b _)
 unfold apeq at h
 revert hx hy
 split at h
 ·intro hx hy
  cases h
  rw [hx.np_inv,hy.np_inv]
  refine ⟨⟨_,_,rfl,rfl⟩,_,?_,hb _⟩
  have h1 :∀d:Nat,(Op.equalIn (d+1) t (.pointer none) (.pointer none)).run P w=.ok true w:=fun d=>by
   simp [Op.equalIn,run_underlying ht]
  cases neg<;>simp [binOp,Op.equal,Op.maxDepth,h1 9999]
 ·intro hx hy
  cases h
  obtain ⟨g,rfl,_⟩:=hx.p_inv
  rw [hy.np_inv]
  refine ⟨⟨_,_,rfl,rfl⟩,_,?_,hb _⟩
  have h1 :∀(d:Nat) (a:Addr),(Op.equalIn (d+1) t (.pointer (some a)) (.pointer none)).run P w=.ok false w:=fun d a=>by
   simp [Op.equalIn,run_underlying ht]
  cases neg<;>simp [binOp,Op.equal,Op.maxDepth,h1 9999]
 ·split at h
  ·rename_i hc
   obtain ⟨rfl,rfl,rfl⟩:=hc
   intro hx hy
   cases h
   obtain ⟨g,rfl,h1⟩:=hx.p_inv
   obtain ⟨g',rfl,h2⟩:=hy.p_inv
   rw [h1] at h2
   cases h2
   refine ⟨⟨_,_,rfl,rfl⟩,_,?_,hb _⟩
   cases neg
   ·exact run_eql_ptr_same w _ ht hj
   ·exact Lib.run_neq_ptr_same w _ ht hj
  ·cases h
 ·cases h
theorem liesAt_self {e:TypeId} (hc:P.cellsOf e≠0) {count:Nat} (hn:1≤count):liesAt P P.depth e count 0 e 1=true:=by
 have hd:P.depth=(2*(P.types.size+Made.depth)+1)+1:=rfl
 rw [hd]
 simp only [liesAt,Bool.or_eq_true]
 left
 rw [hd]
 simp [rowAt,hc,hn,sameLayout]
theorem cvp_ok (hR:Rel G w0 st w) {x r:AV} {vx:Value} {n:Nat} (h:acvp st n x=some r) (hx:R G x vx) {s d t:TypeId} {j:TypeInfo} (hj:P.info? t=some j) (hjs:j.size=n) (hn:0<n) (hc:P.cellsOf t=n) (ht:t=btOf G.fm)
  (hsd:(P.underlying s=some (.pointer t)∧P.underlying d=some .unsafePointer)∨(P.underlying s=some .unsafePointer∧P.underlying d=some (.pointer t))):(convert s d vx).run P w=.ok vx w∧R G r vx:=by
 unfold acvp at h
 revert hx
 split at h
 ·rename_i k v
  split at h
  ·rename_i v' cs hlk
   split at h
   ·rename_i hcond
    obtain ⟨rfl,hbig,hlen⟩:=hcond
    cases h
    intro hx
    refine ⟨?_,hx⟩
    obtain ⟨g,rfl,hρ⟩:=hx.p_inv
    obtain ⟨us,e,_,hheap,hr,_⟩:=hR.bx k v' cs g hlk hρ
    obtain ⟨us',h3,_⟩:=hR.bxT k v' cs g hbig hlk hρ
    rw [hheap] at h3
    injection h3 with h3
    injection h3 with _ h3
    subst h3
    have hsz:us.length=n:=by rw [← hlen];exact hr.1.symm
    have hsh:w.shape? g=some (btOf G.fm,n):=by simp [World.shape?,hheap,hsz]
    subst ht
    rcases hsd with ⟨h1,h2⟩ | ⟨h1,h2⟩
    ·exact Lib.run_to_unsafe w ⟨g,0,none⟩ h1 h2 hj (by omega) hsh hn
    ·exact Lib.run_from_unsafe w ⟨g,0,none⟩ h1 h2 hj hsh (liesAt_self (by omega) (by rw [hc,Nat.div_self hn];exact Nat.le_refl _))
   ·cases h
  ·cases h
 ·cases h
theorem eqGuard_int {op:BinOp} {t:TypeId} {x y:Operand} {k k':IntKind} {m n:Int}:(eqGuard op t x y (.int k m) (.int k' n)).run P w=.ok () w:=by
 unfold eqGuard;cases op<;>simp
theorem eqGuard_str {op:BinOp} {t:TypeId} {x y:Operand} {m n:ByteArray}:(eqGuard op t x y (.string m) (.string n)).run P w=.ok () w:=by
 unfold eqGuard;cases op<;>simp
theorem eqGuard_bool {op:BinOp} {t:TypeId} {x y:Operand} {m n:Bool}:(eqGuard op t x y (.bool m) (.bool n)).run P w=.ok () w:=by
 unfold eqGuard;cases op<;>simp
theorem abin_shape {op:BinOp} {x y r:AV} {vx vy:Value} (h:abin op x y=some r) (hx:R G x vx) (hy:R G y vy):(∃k m k' n,vx=.int k m∧vy=.int k' n)∨(∃m n,vx=.string m∧vy=.string n):=by
 unfold abin at h
 revert hx hy
 split at h
 ·intro hx hy;exact .inl ⟨_,_,_,_,hx.int_inv,hy.int_inv⟩
 ·intro hx hy;exact .inr ⟨_,_,hx.str_inv,hy.str_inv⟩
 ·cases h
theorem cParts_ok {nt:Nat} {σ:Sl} {a:Act} (hA:RelA G nt σ a) (hfm:X.fm=G.fm) (hT:TTok P X.T) {fs:List (Nat × Nat)} :∀{ps:List (Nat × Operand)} {xs:List (Nat × Nat × Opd)},cParts X fs ps=some xs→∀{place:Nat→Option (Nat × Nat)},(∀(i ft off:Nat) ti,fs[i]?=some (ft,off)→X.T ft=some ti→place i=some (off,ti.size))→
  Parts G σ place (ps.map fun p=>(p.1,a.eval p.2)) xs
 | [],xs,h,_,_=>by cases h;trivial
 | (i,x)::r,xs,h,place,hp=>by
  unfold cParts at h
  split at h
  ·rename_i ft off y l hf hy hl
   split at h
   ·rename_i ti hti
    cases h
    rw [hfm] at hy
    exact ⟨hp i ft off ti hf hti,cOpd_ok hA hy,cParts_ok hA hfm hT hl hp⟩
   ·cases h
  ·cases h
theorem cPartsA_ok {nt:Nat} {σ:Sl} {a:Act} (hA:RelA G nt σ a) (hfm:X.fm=G.fm) {size n:Nat} :∀{ps:List (Nat × Operand)} {xs:List (Nat × Nat × Opd)},cPartsA X size n ps=some xs→Parts G σ (fun i=>some (i*size,size)) (ps.map fun p=>(p.1,a.eval p.2)) xs
 | [],xs,h=>by cases h;trivial
 | (i,x)::r,xs,h=>by
  unfold cPartsA at h
  split at h
  ·rename_i y l hy hl
   cases h
   rw [hfm] at hy
   exact ⟨rfl,cOpd_ok hA hy,cPartsA_ok hA hfm hl⟩
  ·cases h
theorem cPartsR_ok {nt:Nat} {σ:Sl} {a:Act} (hA:RelA G nt σ a) (hfm:X.fm=G.fm) :∀{ps:List (Nat × Operand)} {xs:List (Nat × Opd)},cPartsR X ps=some xs→PartsR G σ (ps.map fun p=>(p.1,a.eval p.2)) xs
 | [],xs,h=>by cases h;trivial
 | (i,x)::r,xs,h=>by
  unfold cPartsR at h
  split at h
  ·rename_i y l hy hl
   cases h
   rw [hfm] at hy
   exact ⟨rfl,cOpd_ok hA hy,cPartsR_ok hA hfm hl⟩
  ·cases h
theorem mapM_all (hT:TTok P X.T) :∀(fields:List Field),(fields.map fun f=>(f.type,f.offset)).all (fun f=>(X.T f.1).isSome)=true→
  ∃places,fields.mapM (fun f=>(P.info? f.type).map fun i=>(f.offset,i.size))=some places∧∀(i:Nat) ft off ti,(fields.map fun f=>(f.type,f.offset))[i]?=some (ft,off)→X.T ft=some ti→places[i]?=some (off,ti.size)
 | [],_=>⟨[],by simp,by simp⟩
 | f::r,h=>by
  simp only [List.map_cons,List.all_cons,Bool.and_eq_true] at h
  obtain ⟨h1,h2⟩:=h
  obtain ⟨places,h3,h4⟩:=mapM_all hT r h2
  obtain ⟨ti,hti⟩:=Option.isSome_iff_exists.1 h1
  obtain ⟨i',hi',hs,_⟩:=(hT _ _ hti).ti
  refine ⟨(f.offset,i'.size)::places,by simp [List.mapM_cons,hi',h3],fun i ft off ti' hf ht=>?_⟩
  cases i with
  | zero=>
   simp only [List.map_cons,List.getElem?_cons_zero,Option.some.injEq,Prod.mk.injEq] at hf
   obtain ⟨rfl,rfl⟩:=hf
   rw [hti] at ht
   cases ht
   simp [hs]
  | succ i=>
   simp only [List.map_cons,List.getElem?_cons_succ] at hf ⊢
   exact h4 i ft off ti' hf ht
end
end Go.AM

/- Parts of the proof. -/
namespace Go.AM
open Go Go.RowKit Go.BigFrame
def AOp.isCall:AOp→Bool
 | .call _ _ _ | .callv _ _=>true
 | _=>false
section
variable {P:Program} {G:Gh} {w0 w:World} {st:St} {X:Cx}
set_option maxHeartbeats 1000000 in
theorem exec_ok (hT:TTok P X.T) (hfm:X.fm=G.fm) {nt:Nat} {σ:Sl} {a:Act} (hA:RelA G nt σ a) (hR:Rel G w0 st w) {o:Oper} {aop:AOp} (hc:cOp X o.op=some aop) (hn:aop.isCall=false) {C:CallF} {d site ver:Nat} {r:AV} {st':St} (h:aexec C d site ver σ st aop=some (r,st'))
  (hρ:G.ρ (d,site) ver=none) (hω:G.ω (d,site) ver=none) (hv:ver<st.nx) (hpre :∀zero,aop=.alloc zero→lk st.bx (d,site)=some (ver,zero)) (hB:bigSite≤site→flagOp X o.op=true):Did P G w0 st w o a r st' d site ver:=by
 have hS :∀{x:Operand} {y:Opd},cOpd X.fm x=some y→R G (y.ev σ) (a.eval x):=fun hx=>cOpd_ok hA (by rw [← hfm];exact hx)
 have hO :∀{x:Option Operand} {y:Option Opd},cOpt X.fm x=some y→SameO G σ a x y:=fun hx=>cOpt_ok hA (by rw [← hfm];exact hx)
 generalize hop:o.op=op at hc
 cases op with
 | move x=>
  simp only [cOp] at hc
  split at hc
  ·rename_i y hy
   cases hc
   simp only [aexec] at h
   have hq:=apure_state h
   clear h
   obtain ⟨h,rfl⟩:=hq
   cases h
   exact .pure hR ⟨_,by simp only [execOp,hop];rfl,hS hy⟩
  ·cases hc
 | assign x=>
  simp only [cOp] at hc
  split at hc
  ·rename_i y hy
   cases hc
   simp only [aexec] at h
   have hq:=apure_state h
   clear h
   obtain ⟨h,rfl⟩:=hq
   cases h
   exact .pure hR ⟨_,by simp only [execOp,hop];rfl,hS hy⟩
  ·cases hc
 | pick c x y=>
  simp only [cOp] at hc
  split at hc
  ·rename_i c' x' y' h1 h2 h3
   cases hc
   simp only [aexec] at h
   have hq:=apure_state h
   clear h
   obtain ⟨h,rfl⟩:=hq
   simp only [apure] at h
   have hc':=hS h1
   generalize c'.ev σ=cv at h hc'
   revert hc'
   split at h
   ·rename_i t
    intro hc'
    cases h
    refine .pure hR ⟨_,by simp only [execOp,hop,hc'.bool_inv,asBool,Sem.run_bind,Sem.run_pure,Result.andThen_ok];rfl,?_⟩
    cases t
    ·exact hS h3
    ·exact hS h2
   ·cases h
  ·cases hc
 | alloc t=>
  simp only [cOp] at hc
  split at hc
  ·rename_i i hi
   cases hc
   simp only [aexec] at h
   have hq:=apure_state h
   clear h
   obtain ⟨h,rfl⟩:=hq
   cases h
   obtain ⟨v,w',G',h1,h2,h3⟩:=aalloc_ok (P:=P) hR (hT t i hi) (fun hb=>by
    have:=hB hb
    rw [hop] at this
    rw [← hfm]
    simpa [flagOp] using this) (hpre _ rfl) hρ hv
   exact .val (by simp only [execOp,hop];exact run_val h1) h2 h3
  ·cases hc
 | box t x=>
  simp only [cOp] at hc
  split at hc
  ·rename_i i y hi hy
   cases hc
   simp only [aexec] at h
   split at h
   ·rename_i hcond
    cases h
    obtain ⟨v,w',G',h1,h2,h3⟩:=abox_ok (P:=P) (t:=t) hR (hS hy) hcond.2 (fun hb=>by
     have:=hB hb
     rw [hop] at this
     cases this) hρ hv
    exact .val (by simp only [execOp,hop];exact run_val h1) h2 h3
   ·cases h
  ·cases hc
 | build t parts=>
  simp only [cOp] at hc
  split at hc
  ·rename_i i hi
   split at hc
   ·rename_i fs hk
    split at hc
    ·rename_i ps hall hps
     cases hc
     simp only [aexec] at h
     have hq:=apure_state h
     clear h
     obtain ⟨h,rfl⟩:=hq
     simp only [apure] at h
     have hk':=(hT t i hi).kind
     rw [hk] at hk'
     obtain ⟨fields,hu,hmap,_⟩:=hk'
     rw [← hmap] at hall
     obtain ⟨places,hpl,hget⟩:=mapM_all hT fields.toList hall
     have hp:=cParts_ok hA hfm hT hps (place:=(places.toArray[·]?)) (fun j ft off ti hf ht=>by
      have:=hget j ft off ti (by rw [hmap];exact hf) ht
      simpa using this)
     obtain ⟨v,h1,h2⟩:=build_ok (P:=P) (w:=w) (hT t i hi) hp h (fun z ti h1 h2=>by unfold Program.built;simp only [h1,hu,h2,hpl])
     refine .pure hR ⟨v,?_,h2⟩
     simp only [execOp,hop]
     refine run_val ?_
     rw [show (parts.map fun p=>(p.1,a.eval p.2))=(parts.toList.map fun p=>(p.1,a.eval p.2)).toArray from by apply Array.ext';simp]
     exact h1
    ·cases hc
   ·rename_i n e hk
    split at hc
    ·rename_i ie hie
     split at hc
     ·rename_i ps hps
      cases hc
      simp only [aexec] at h
      have hq:=apure_state h
      clear h
      obtain ⟨h,rfl⟩:=hq
      simp only [apure] at h
      have hu:=(hT t i hi).kind
      rw [hk] at hu
      obtain ⟨ti,hti,hsz,_⟩:=(hT e ie hie).ti
      have hp:=cPartsA_ok hA hfm hps
      obtain ⟨v,h1,h2⟩:=build_ok (P:=P) (w:=w) (hT t i hi) hp h (fun z ti' h1 h2=>by unfold Program.built;simp only [h1,show P.underlying t=some (.array n e) from hu,h2,hti,hsz])
      refine .pure hR ⟨v,?_,h2⟩
      simp only [execOp,hop]
      refine run_val ?_
      rw [show (parts.map fun p=>(p.1,a.eval p.2))=(parts.toList.map fun p=>(p.1,a.eval p.2)).toArray from by apply Array.ext';simp]
      exact h1
     ·cases hc
    ·cases hc
   ·cases hc
  ·cases hc
 | buildSlice t n parts=>
  simp only [cOp] at hc
  split at hc
  ·rename_i e hk
   obtain ⟨_,_,_,_,hu⟩:=kind_inv hT hk
   split at hc
   ·rename_i i ps hi hps
    cases hc
    simp only [aexec] at h
    have hq:=apure_state h
    clear h
    obtain ⟨h,rfl⟩:=hq
    have hp:=cPartsR_ok hA hfm hps
    obtain ⟨v,w',G',h1,h2,h3⟩:=bslice_ok (P:=P) hR hu (hT e i hi) hp h (d:=d) (site:=site) (ver':=ver)
    refine .val ?_ h2 h3
    simp only [execOp,hop]
    refine run_val ?_
    rw [show (parts.map fun p=>(p.1,a.eval p.2))=(parts.toList.map fun p=>(p.1,a.eval p.2)).toArray from by apply Array.ext';simp]
    exact h1
   ·cases hc
  ·cases hc
 | load t x=>
  simp only [cOp] at hc
  split at hc
  ·rename_i i y hi hy
   split at hc
   ·rename_i hs
    cases hc
    simp only [aexec,Option.map_eq_some_iff,Prod.mk.injEq] at h
    obtain ⟨r',h,rfl,rfl⟩:=h
    obtain ⟨v,h1,h2⟩:=aload_ok (P:=P) hR (hT t i hi) (okSize_inv hs) h (hS hy)
    exact .pure hR ⟨v,by simp only [execOp,hop];exact run_val h1,h2⟩
   ·cases hc
  ·cases hc
 | store t x y=>
  simp only [cOp] at hc
  split at hc
  ·rename_i i x' y' hi hx hy
   cases hc
   simp only [aexec,Option.map_eq_some_iff,Prod.mk.injEq] at h
   obtain ⟨st'',h,rfl,rfl⟩:=h
   obtain ⟨w',h1,h2⟩:=astore_ok (P:=P) hR (hT t i hi) h (hS hx) (hS hy) (d:=d) (site:=site) (ver:=ver)
   exact ⟨.skip,undef,w',G,by simp only [execOp,hop];exact run_unit h1,.inr ⟨rfl,rfl⟩,.und,h2⟩
  ·cases hc
 | nilCheck x=>
  simp only [cOp] at hc
  split at hc
  ·rename_i y hy
   cases hc
   simp only [aexec] at h
   have hq:=apure_state h
   clear h
   obtain ⟨h,rfl⟩:=hq
   simp only [apure] at h
   have hx:=hS hy
   generalize y.ev σ=yv at h hx
   split at h
   ·cases h
    obtain ⟨g,hg,_⟩:=hx.p_inv
    exact .pure hR ⟨a.eval x,by simp only [execOp,hop,hg];rfl,hx⟩
   ·cases h
    obtain ⟨g,off,us,hg,_⟩:=hx.fp_inv
    exact .pure hR ⟨a.eval x,by simp only [execOp,hop,hg];rfl,hx⟩
   ·cases h
  ·cases hc
 | binOp op t x y yt=>
  simp only [cOp] at hc
  have bin :∀{x' y':Opd},cOpd X.fm x=some x'→cOpd X.fm y=some y'→aexec C d site ver σ st (.bin op x' y')=some (r,st')→Did P G w0 st w o a r st' d site ver:=by
   clear h
   intro x' y' hx hy h
   simp only [aexec] at h
   have hq:=apure_state h
   clear h
   obtain ⟨h,rfl⟩:=hq
   simp only [apure] at h
   obtain ⟨v,h1,h2⟩:=bin_ok (P:=P) (w:=w) (t:=t) (hS hx) (hS hy) h
   refine .pure hR ⟨v,?_,h2⟩
   simp only [execOp,hop]
   refine run_val ?_
   rcases abin_shape h (hS hx) (hS hy) with ⟨k,m,k',n,e1,e2⟩ | ⟨m,n,e1,e2⟩
   ·rw [e1,e2] at h1 ⊢
    simp only [Sem.run_bind,eqGuard_int,Result.andThen_ok,h1]
   ·rw [e1,e2] at h1 ⊢
    simp only [Sem.run_bind,eqGuard_str,Result.andThen_ok,h1]
  have beq :∀{x' y':Opd} (neg:Bool),op=(if neg then .neq else .eql)→P.underlying t=some .bool→cOpd X.fm x=some x'→cOpd X.fm y=some y'→aexec C d site ver σ st (.beq neg x' y')=some (r,st')→Did P G w0 st w o a r st' d site ver:=by
   clear h
   intro x' y' neg hopn hu hx hy h
   simp only [aexec] at h
   have hq:=apure_state h
   clear h
   obtain ⟨h,rfl⟩:=hq
   simp only [apure] at h
   obtain ⟨v,h1,h2⟩:=beq_ok (P:=P) (w:=w) hu h (hS hx) (hS hy)
   refine .pure hR ⟨v,?_,h2⟩
   simp only [execOp,hop]
   refine run_val ?_
   have e :∃m n,a.eval x=.bool m∧a.eval y=.bool n:=by
    have h3:=hS hx
    have h4:=hS hy
    generalize x'.ev σ=xv at h h3
    generalize y'.ev σ=yv at h h4
    split at h
    ·exact ⟨_,_,h3.bool_inv,h4.bool_inv⟩
    ·cases h
   obtain ⟨m,n,e1,e2⟩:=e
   rw [e1,e2] at h1 ⊢
   simp only [Sem.run_bind,eqGuard_bool,Result.andThen_ok]
   rw [hopn]
   exact h1
  have peq :∀{e:TypeId} {x' y':Opd} (neg:Bool),op=(if neg then .neq else .eql)→(P.underlying t=some (.pointer e)∧(P.info? e).isSome=true)→cOpd X.fm x=some x'→cOpd X.fm y=some y'→aexec C d site ver σ st (.peq neg x' y')=some (r,st')→Did P G w0 st w o a r st' d site ver:=by
   clear h
   intro e x' y' neg hopn hu hx hy h
   simp only [aexec] at h
   have hq:=apure_state h
   clear h
   obtain ⟨h,rfl⟩:=hq
   simp only [apure] at h
   obtain ⟨⟨m,n,e1,e2⟩,v,h1,h2⟩:=peq_ok (P:=P) (w:=w) hu.1 hu.2 h (hS hx) (hS hy)
   refine .pure hR ⟨v,?_,h2⟩
   simp only [execOp,hop]
   refine run_val ?_
   rw [e1,e2] at h1 ⊢
   simp only [Sem.run_bind,eqGuard_ptr,Result.andThen_ok]
   rw [hopn]
   exact h1
  split at hc
  ·rename_i k x' y' hk hx hy;cases hc;exact bin hx hy h
  ·rename_i x' y' hk hx hy;cases hc;exact bin hx hy h
  ·rename_i x' y' hk hx hy
   obtain ⟨_,_,_,_,hu⟩:=kind_inv hT hk
   split at hc
   ·cases hc;exact beq false rfl hu hx hy h
   ·cases hc;exact beq true rfl hu hx hy h
   ·cases hc
  ·rename_i e x' y' hk hx hy
   obtain ⟨_,_,_,_,hu⟩:=kind_inv hT hk
   split at hc
   ·cases hc;exact peq false rfl hu hx hy h
   ·cases hc;exact peq true rfl hu hx hy h
   ·cases hc
  ·rename_i fs x' y' hk hx hy
   have aeq :∀{ks:List Nat} (neg:Bool),op=(if neg then .neq else .eql)→flatFs X 0 fs=some ks→aexec C d site ver σ st (.aeq neg ks x' y')=some (r,st')→Did P G w0 st w o a r st' d site ver:=by
    clear h
    intro ks neg hopn hf h
    simp only [aexec] at h
    have hq:=apure_state h
    clear h
    obtain ⟨h,rfl⟩:=hq
    simp only [apure] at h
    have h3:=hS hx
    have h4:=hS hy
    revert h3 h4
    split at h
    ·rename_i cs ds e1 e2
     rw [e1,e2]
     intro h3 h4
     rw [Option.map_eq_some_iff] at h
     obtain ⟨b,hb,rfl⟩:=h
     refine .pure hR ⟨_,?_,.fz _ _ (.b _)⟩
     simp only [execOp,hop]
     refine run_val ?_
     rw [hopn]
     exact aeq_ok hT hk hf hb h3 h4 neg _ _
    ·cases h
   split at hc
   ·rename_i ks hf
    split at hc
    ·cases hc;exact aeq false rfl hf h
    ·cases hc;exact aeq true rfl hf h
    ·cases hc
   ·cases hc
  ·cases hc
 | unOp op t x=>
  simp only [cOp] at hc
  split at hc
  ·rename_i y hy
   cases hc
   simp only [aexec] at h
   have hq:=apure_state h
   clear h
   obtain ⟨h,rfl⟩:=hq
   simp only [apure] at h
   obtain ⟨v,h1,h2⟩:=un_ok (P:=P) (w:=w) h (hS hy)
   exact .pure hR ⟨v,by simp only [execOp,hop];exact run_val h1,h2⟩
  ·cases hc
 | convert s t x=>
  have cvp :∀{e:TypeId} {i:TI} {y:Opd},X.T e=some i→e=btOf X.fm→0<i.size→((P.underlying s=some (.pointer e)∧P.underlying t=some .unsafePointer)∨(P.underlying s=some .unsafePointer∧P.underlying t=some (.pointer e)))→cOpd X.fm x=some y→aexec C d site ver σ st (.cvp i.size y)=some (r,st')→Did P G w0 st w o a r st' d site ver:=by
   clear h
   intro e i y hi he hpos hu hy h
   simp only [aexec,Option.map_eq_some_iff,Prod.mk.injEq] at h
   obtain ⟨r',h1,rfl,rfl⟩:=h
   obtain ⟨ti,hti,hsz,_⟩:=(hT e i hi).ti
   obtain ⟨h2,h3⟩:=cvp_ok (P:=P) hR h1 (hS hy) hti hsz hpos (by simp [Program.cellsOf,hti,hsz]) (by rw [← hfm];exact he) hu
   exact .pure hR ⟨_,by simp only [execOp,hop];exact run_val h2,h3⟩
  simp only [cOp] at hc
  split at hc
  ·rename_i k1 k2 y hk1 hk2 hy
   cases hc
   obtain ⟨_,_,_,_,hu1⟩:=kind_inv hT hk1
   obtain ⟨_,_,_,_,hu2⟩:=kind_inv hT hk2
   simp only [aexec] at h
   have hq:=apure_state h
   clear h
   obtain ⟨h,rfl⟩:=hq
   simp only [apure] at h
   obtain ⟨v,h1,h2⟩:=cvi_ok (P:=P) (w:=w) hu1 hu2 h (hS hy)
   exact .pure hR ⟨v,by simp only [execOp,hop];exact run_val h1,h2⟩
  ·rename_i e y hk1 hk2 hy
   split at hc
   ·rename_i hke
    cases hc
    obtain ⟨_,_,_,_,hu1⟩:=kind_inv hT hk1
    obtain ⟨_,_,_,_,hu2⟩:=kind_inv hT hk2
    obtain ⟨_,_,_,_,hue⟩:=kind_inv hT hke
    simp only [aexec] at h
    have hq:=apure_state h
    clear h
    obtain ⟨h,rfl⟩:=hq
    simp only [apure] at h
    obtain ⟨v,h1,h2⟩:=b2s_ok (P:=P) (w:=w) hu1 hue hu2 hR.cell h (hS hy)
    exact .pure hR ⟨v,by simp only [execOp,hop];exact run_val h1,h2⟩
   ·cases hc
  ·rename_i e y hk1 hk2 hy
   split at hc
   ·rename_i i hi
    split at hc
    ·rename_i hcond
     cases hc
     obtain ⟨_,_,_,_,hu1⟩:=kind_inv hT hk1
     obtain ⟨_,_,_,_,hu2⟩:=kind_inv hT hk2
     exact cvp hi hcond.1 hcond.2 (.inl ⟨hu1.1,hu2⟩) hy h
    ·cases hc
   ·cases hc
  ·rename_i e y hk1 hk2 hy
   split at hc
   ·rename_i i hi
    split at hc
    ·rename_i hcond
     cases hc
     obtain ⟨_,_,_,_,hu1⟩:=kind_inv hT hk1
     obtain ⟨_,_,_,_,hu2⟩:=kind_inv hT hk2
     exact cvp hi hcond.1 hcond.2 (.inr ⟨hu1,hu2.1⟩) hy h
    ·cases hc
   ·cases hc
  ·cases hc
 | makeFunc fn first cap=>
  cases fn with
  | func f=>
   simp only [cOp] at hc
   split at hc
   ·rename_i c l hf hfi hl
    cases hc
    simp only [aexec] at h
    have hq:=apure_state h
    clear h
    obtain ⟨h,rfl⟩:=hq
    simp only [apure] at h
    cases h
    rw [hfm] at hf hl
    have hr:=cOpds_ok hA hl
    have hfe:first=#[]:=by apply Array.ext';simpa using hfi
    refine .pure hR ⟨_,?_,.fn _ f hf _ _ hr.1 hr.2⟩
    simp only [execOp,hop]
    refine run_val ?_
    have he:cap.map a.eval=(cap.toList.map a.eval).toArray:=by apply Array.ext';simp
    simp [Instr.makeFunc,hfe,he]
   ·rename_i c x y hf hfi hl
    split at hc
    ·rename_i l hl2
     cases hc
     simp only [aexec] at h
     have hq:=apure_state h
     clear h
     obtain ⟨h,rfl⟩:=hq
     simp only [apure] at h
     cases h
     rw [hfm] at hf hl hl2
     rw [← hfi] at hl2
     have hr:=cOpds_ok hA hl2
     have hce:cap=#[]:=by
      have:=(cOpds_ok hA hl).1
      apply Array.ext'
      cases hq:cap.toList with
      | nil=>rfl
      | cons=>rw [hq] at this;simp at this
     refine .pure hR ⟨_,?_,.bf _ f hf _ _ hr.1 hr.2⟩
     simp only [execOp,hop]
     refine run_val ?_
     have he:first.map a.eval=(first.toList.map a.eval).toArray:=by apply Array.ext';simp
     simp [Instr.makeFunc,hce,he]
    ·cases hc
   ·cases hc
  | _=>simp only [cOp] at hc;cases hc
 | makeSlice t l c=>
  simp only [cOp] at hc
  split at hc
  ·rename_i e l' c' hk hl hcc
   obtain ⟨_,_,_,_,hu⟩:=kind_inv hT hk
   split at hc
   ·rename_i i hi
    cases hc
    obtain ⟨v,w',G',h1,h2,h3⟩:=mks_ok (P:=P) hR hu (hT e i hi) (hS hl) (hS hcc) h
    exact .val (by simp only [execOp,hop];exact run_val h1) h2 h3
   ·cases hc
  ·cases hc
 | slice t x lo hi mx=>
  cases mx with
  | some m=>simp only [cOp] at hc;cases hc
  | none=>
   simp only [cOp] at hc
   split at hc
   ·rename_i x' lo' hi' hk hx hlo hhi
    cases hc
    obtain ⟨_,_,_,_,hu⟩:=kind_inv hT hk
    simp only [aexec] at h
    have hq:=apure_state h
    clear h
    obtain ⟨h,rfl⟩:=hq
    simp only [apure] at h
    obtain ⟨v,h1,h2⟩:=slS_ok (P:=P) (w:=w) hu (hS hx) (hO hlo) (hO hhi) h
    exact .pure hR ⟨v,by simp only [execOp,hop];exact run_val h1,h2⟩
   ·rename_i e x' lo' hi' hk hx hlo hhi
    split at hc
    ·rename_i i hi2
     cases hc
     obtain ⟨_,_,_,_,hu⟩:=kind_inv hT hk
     obtain ⟨ti,hti,hsz,_⟩:=(hT e i hi2).ti
     simp only [aexec] at h
     have hq:=apure_state h
     clear h
     obtain ⟨h,rfl⟩:=hq
     simp only [apure] at h
     rw [← hsz] at h
     obtain ⟨v,h1,h2⟩:=slL_ok (P:=P) (w:=w) hu hti (hS hx) (hO hlo) (hO hhi) h
     exact .pure hR ⟨v,by simp only [execOp,hop];exact run_val h1,h2⟩
    ·cases hc
   ·rename_i n e x' lo' hi' hk hx hlo hhi
    split at hc
    ·rename_i i hi2
     cases hc
     obtain ⟨_,_,_,_,hu⟩:=kind_inv hT hk
     obtain ⟨ti,hti,hsz,_⟩:=(hT e i hi2).ti
     rw [← hsz] at h
     obtain ⟨v,G',h1,h2,h3⟩:=slA_ok (P:=P) hR hu hti (hS hx) (hO hlo) (hO hhi) h
     exact .val (by simp only [execOp,hop];exact run_val h1) h2 h3
    ·cases hc
   ·cases hc
 | fieldAddr s x f=>
  simp only [cOp] at hc
  split at hc
  ·rename_i fs y hk hy
   split at hc
   ·rename_i ft off hf
    split at hc
    ·rename_i i hi
     split at hc
     ·cases hc
     ·rename_i hz
      cases hc
      obtain ⟨_,_,_,_,hu⟩:=kind_inv hT hk
      obtain ⟨ti,hti,hsz,_⟩:=(hT ft i hi).ti
      simp only [aexec] at h
      have hq:=apure_state h
      clear h
      obtain ⟨h,rfl⟩:=hq
      simp only [apure] at h
      obtain ⟨v,h1,h2⟩:=fad_ok (P:=P) (w:=w) hu hf hti (by omega) h (hS hy)
      exact .pure hR ⟨v,by simp only [execOp,hop];exact run_val h1,h2⟩
    ·cases hc
   ·cases hc
  ·cases hc
 | field s x f=>
  simp only [cOp] at hc
  split at hc
  ·rename_i fs y hk hy
   split at hc
   ·rename_i ft off hf
    split at hc
    ·rename_i i hi
     split at hc
     ·rename_i hs
      cases hc
      obtain ⟨_,_,_,_,hu⟩:=kind_inv hT hk
      simp only [aexec] at h
      have hq:=apure_state h
      clear h
      obtain ⟨h,rfl⟩:=hq
      simp only [apure] at h
      obtain ⟨v,h1,h2⟩:=fld_ok (P:=P) (w:=w) hu hf (hT ft i hi) (okSize_inv hs) h (hS hy)
      exact .pure hR ⟨v,by simp only [execOp,hop];exact run_val h1,h2⟩
     ·cases hc
    ·cases hc
   ·cases hc
  ·cases hc
 | indexAddr t x i=>
  simp only [cOp] at hc
  split at hc
  ·rename_i e x' i' hk hx hi
   split at hc
   ·rename_i ti' hti'
    cases hc
    obtain ⟨_,_,_,_,hu⟩:=kind_inv hT hk
    obtain ⟨ti,hti,hsz,_⟩:=(hT e ti' hti').ti
    simp only [aexec] at h
    have hq:=apure_state h
    clear h
    obtain ⟨h,rfl⟩:=hq
    simp only [apure] at h
    rw [← hsz] at h
    obtain ⟨v,h1,h2⟩:=iaL_ok (P:=P) (w:=w) hu hti h (hS hx) (hS hi)
    exact .pure hR ⟨v,by simp only [execOp,hop];exact run_val h1,h2⟩
   ·cases hc
  ·rename_i n e x' i' hk hx hi
   split at hc
   ·rename_i ti' hti'
    cases hc
    obtain ⟨_,_,_,_,hu⟩:=kind_inv hT hk
    obtain ⟨ti,hti,hsz,_⟩:=(hT e ti' hti').ti
    simp only [aexec] at h
    have hq:=apure_state h
    clear h
    obtain ⟨h,rfl⟩:=hq
    simp only [apure] at h
    rw [← hsz] at h
    obtain ⟨v,h1,h2⟩:=iaA_ok (P:=P) (w:=w) hu hti h (hS hx) (hS hi)
    exact .pure hR ⟨v,by simp only [execOp,hop];exact run_val h1,h2⟩
   ·cases hc
  ·cases hc
 | index t x i=>
  simp only [cOp] at hc
  split at hc
  ·rename_i x' i' hk hx hi
   cases hc
   obtain ⟨_,_,_,_,hu⟩:=kind_inv hT hk
   simp only [aexec] at h
   have hq:=apure_state h
   clear h
   obtain ⟨h,rfl⟩:=hq
   simp only [apure] at h
   obtain ⟨v,h1,h2⟩:=ixS_ok (P:=P) (w:=w) hu h (hS hx) (hS hi)
   exact .pure hR ⟨v,by simp only [execOp,hop];exact run_val h1,h2⟩
  ·rename_i n e x' i' hk hx hi
   split at hc
   ·rename_i ti' hti'
    split at hc
    ·rename_i hs
     cases hc
     obtain ⟨_,_,_,_,hu⟩:=kind_inv hT hk
     simp only [aexec] at h
     have hq:=apure_state h
     clear h
     obtain ⟨h,rfl⟩:=hq
     simp only [apure] at h
     obtain ⟨v,h1,h2⟩:=ixA_ok (P:=P) (w:=w) hu (hT e ti' hti') (okSize_inv hs) h (hS hx) (hS hi)
     exact .pure hR ⟨v,by simp only [execOp,hop];exact run_val h1,h2⟩
    ·cases hc
   ·cases hc
  ·cases hc
 | extract x k=>
  simp only [cOp] at hc
  split at hc
  ·rename_i y hy
   cases hc
   simp only [aexec] at h
   have hq:=apure_state h
   clear h
   obtain ⟨h,rfl⟩:=hq
   simp only [apure] at h
   obtain ⟨v,h1,h2⟩:=ext_ok (P:=P) (w:=w) h (hS hy)
   exact .pure hR ⟨v,by simp only [execOp,hop];exact run_val h1,h2⟩
  ·cases hc
 | lookup t x i c=>
  simp only [cOp] at hc
  split at hc
  ·rename_i x' i' hk hx hi
   cases hc
   simp only [aexec] at h
   have hq:=apure_state h
   clear h
   obtain ⟨h,rfl⟩:=hq
   simp only [apure] at h
   have h3:=hS hx
   have h4:=hS hi
   revert h3 h4
   split at h
   ·rename_i l s e1 e2
    rw [e1,e2]
    intro h3 h4
    cases h
    refine .pure hR ⟨_,?_,.fz _ _ (.i _ _)⟩
    simp only [execOp,hop]
    exact run_val (lkp_ok hT hR hk h3 h4)
   ·cases h
  ·cases hc
 | call c=>
  obtain ⟨dst,op',ty,pos,after,guard⟩:=o
  simp only at hop
  subst hop
  obtain ⟨callee,args,tys⟩:=c
  simp only [cOp] at hc
  cases callee with
  | invoke x n=>simp only [cCall] at hc;cases hc
  | value f=>
   simp only [cCall] at hc
   split at hc
   ·cases hc;cases hn
   ·cases hc;cases hn
   ·cases hc
  | builtin b=>
   simp only [cCall] at hc
   unfold cBuiltin at hc
   split at hc
   ·rename_i x t ha ht
    have ha':args=#[x]:=by apply Array.ext';simpa using ha
    have ht':tys=#[t]:=by apply Array.ext';simpa using ht
    subst ha'
    subst ht'
    split at hc
    ·rename_i y hk hy
     cases hc
     obtain ⟨_,_,_,_,hu⟩:=kind_inv hT hk
     simp only [aexec] at h
     have hq:=apure_state h
     clear h
     obtain ⟨h,rfl⟩:=hq
     simp only [apure] at h
     obtain ⟨v,h1,h2⟩:=lenS_ok (P:=P) (w:=w) (ty:=ty) hu h (hS hy)
     exact .pure hR ⟨v,by rw [execOp_builtin];simp only [builtin_len];rw [show (#[x]:Array Operand).map a.eval=#[a.eval x] from by simp];exact run_val h1,h2⟩
    ·rename_i e y hk hy
     cases hc
     obtain ⟨_,_,_,_,hu⟩:=kind_inv hT hk
     simp only [aexec] at h
     have hq:=apure_state h
     clear h
     obtain ⟨h,rfl⟩:=hq
     simp only [apure] at h
     obtain ⟨v,h1,h2⟩:=lenL_ok (P:=P) (w:=w) (ty:=ty) hu h (hS hy)
     exact .pure hR ⟨v,by rw [execOp_builtin];simp only [builtin_len];rw [show (#[x]:Array Operand).map a.eval=#[a.eval x] from by simp];exact run_val h1,h2⟩
    ·cases hc
   ·rename_i s x t t2 ha ht
    have ha':args=#[s,x]:=by apply Array.ext';simpa using ha
    have ht':tys=#[t,t2]:=by apply Array.ext';simpa using ht
    subst ha'
    subst ht'
    split at hc
    ·rename_i e e2 s' x' hk hk2 hs hx
     split at hc
     ·rename_i i hi
      cases hc
      obtain ⟨_,_,_,_,hu⟩:=kind_inv hT hk
      obtain ⟨_,_,_,_,hu2⟩:=kind_inv hT hk2
      obtain ⟨ti,z,hti,hsz,hby,hz,_,hzs⟩:=(hT e i hi).info
      simp only [aexec] at h
      have hx':=hS hx
      generalize x'.ev σ=xv at h hx'
      revert hx'
      split at h
      ·rename_i o news
       intro hx'
       obtain ⟨A,cap,hxe,hF,_⟩:=hx'.sl_inv
       rw [← hsz,← hby] at h
       obtain ⟨us,hus⟩ :∃us,(∀row∈news,row.length=ti.size)→Src P G.H w (.slice A news.length cap) ti.size news us:=by
        by_cases hns :∀row∈news,row.length=ti.size
        ·obtain ⟨us,h1⟩:=Src.slice (P:=P) hR hF hns
         exact ⟨us,fun _=>h1⟩
        ·exact ⟨fun _ _=>undef,fun h=>absurd h hns⟩
       obtain ⟨v,w',G',h1,h2,h3⟩:=aapp_ok (P:=P) (ty:=ty) hR hu hu2 (.inr ⟨_,rfl⟩) hti hz (by rw [hzs,hsz]) hus (fun hb=>by
        have:=hB hb
        simp only [flagOp,hk] at this
        rw [← hfm]
        simpa using this) hω hv h (hS hs)
       refine .val ?_ h2 h3
       rw [execOp_builtin]
       simp only [builtin_append]
       refine run_val ?_
       rw [show (#[s,x]:Array Operand).map a.eval=#[a.eval s,.slice A news.length cap] from by simp [hxe]]
       exact h1
      ·cases h
     ·cases hc
    ·rename_i e s' x' hk hk2 hs hx
     split at hc
     ·rename_i i hi
      split at hc
      ·rename_i h11
       cases hc
       obtain ⟨_,_,_,_,hu⟩:=kind_inv hT hk
       obtain ⟨_,_,_,_,hu2⟩:=kind_inv hT hk2
       obtain ⟨ti,z,hti,hsz,hby,hz,_,hzs⟩:=(hT e i hi).info
       simp only [aexec] at h
       have hx':=hS hx
       generalize x'.ev σ=xv at h hx'
       revert hx'
       split at h
       ·rename_i l
        intro hx'
        have hxe:=hx'.str_inv
        have e1:ti.size=1:=by rw [hsz,h11.1]
        have e2:ti.bytes=1:=by rw [hby,h11.2]
        rw [show aapp (d,site) ver 1 1 (s'.ev σ) (l.map row8) st=aapp (d,site) ver ti.size ti.bytes (s'.ev σ) (l.map row8) st from by rw [e1,e2]] at h
        obtain ⟨v,w',G',h1,h2,h3⟩:=aapp_ok (P:=P) (ty:=ty) hR hu hu2 (.inl rfl) hti hz (by rw [hzs,hsz]) (vx:=.string ⟨l.toArray⟩) (fun _=>by rw [e1];exact Src.str) (fun hb=>by
         have:=hB hb
         simp only [flagOp,hk] at this
         rw [← hfm]
         simpa using this) hω hv h (hS hs)
        refine .val ?_ h2 h3
        rw [execOp_builtin]
        simp only [builtin_append]
        refine run_val ?_
        rw [show (#[s,x]:Array Operand).map a.eval=#[a.eval s,.string ⟨l.toArray⟩] from by simp [hxe]]
        exact h1
       ·cases h
      ·cases hc
     ·cases hc
    ·cases hc
   ·rename_i x y ha
    have ha':args=#[x,y]:=by apply Array.ext';simpa using ha
    subst ha'
    split at hc
    ·rename_i x' y' hx hy
     cases hc
     simp only [aexec] at h
     have hq:=apure_state h
     clear h
     obtain ⟨h,rfl⟩:=hq
     simp only [apure] at h
     have hx':=hS hx
     have hy':=hS hy
     generalize x'.ev σ=xv at h hx'
     generalize y'.ev σ=yv at h hy'
     revert hx' hy'
     split at h
     ·rename_i k m k' n
      intro hx' hy'
      split at h
      ·rename_i hk
       subst hk
       cases h
       refine .pure hR ⟨_,?_,.fz _ _ (.i _ _)⟩
       rw [execOp_builtin]
       simp only [builtin_max]
       refine run_val ?_
       rw [show (#[x,y]:Array Operand).map a.eval=#[.int k m,.int k n] from by simp [hx'.int_inv,hy'.int_inv]]
       simp [Builtin.max_,Builtin.max2]
      ·cases h
     ·cases h
    ·cases hc
   ·cases hc
 | _=>simp only [cOp] at hc;cases hc
end
end Go.AM
