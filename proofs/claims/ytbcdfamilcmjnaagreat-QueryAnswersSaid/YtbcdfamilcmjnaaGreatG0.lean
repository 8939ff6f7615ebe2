/- Parts of the proof: Am0, Am1, Aw0, Aw1, S0, S1, S2, Am2, Am3, Am4, Am5, Am6, Am7, Am8. -/
import Derived.WalkKit
import Derived.RegionTactic
set_option linter.all false
namespace Go.AM
open Go Go.RowKit
abbrev Key:=Nat × Nat
inductive Own where
 | ext
 | full
 | id (k:Key) (ver:Nat)
inductive AV where
 | i (k:IntKind) (n:Int)
 | b (x:Bool)
 | s (l:List UInt8)
 | sl (o:Own) (rows:List (List AV))
 | p (k:Key) (ver off:Nat)
 | fp (cells:List AV)
 | np
 | ag (cs:List AV)
 | tup (cs:List AV)
 | fn (f:Nat) (cap:List AV)
 | nf
 | ni
 | u
 | mp (l:List (List UInt8 × Int))
 | bf (f:Nat) (cs:List AV)
instance:Inhabited AV:=⟨.u⟩
inductive Opd where
 | t (n:Nat)
 | c (v:AV)
inductive AOp where
 | mv (x:Opd)
 | pick (c a b:Opd)
 | alloc (zero:List AV)
 | box (n:Nat) (x:Opd)
 | boxf (n:Nat) (x:Opd)
 | build (zero:List AV) (parts:List (Nat × Nat × Opd))
 | bslice (zero:List AV) (n:Nat) (parts:List (Nat × Opd))
 | load (n:Nat) (agg:Bool) (a:Opd)
 | ldf (n:Nat) (agg:Bool) (a:Opd)
 | store (n:Nat) (a x:Opd)
 | nilc (x:Opd)
 | bin (op:BinOp) (x y:Opd)
 | beq (neg:Bool) (x y:Opd)
 | un (op:UnOp) (x:Opd)
 | cvi (k:IntKind) (x:Opd)
 | b2s (x:Opd)
 | mkfn (f:Nat) (cap:List Opd)
 | mkbf (f:Nat) (cs:List Opd)
 | mkfz (f:Nat) (pre:List Opd) (x:Opd) (post:List Opd)
 | mks (zero:List AV) (bytes:Nat) (l c:Opd)
 | slS (x:Opd) (lo hi:Option Opd)
 | slL (size:Nat) (x:Opd) (lo hi:Option Opd)
 | slA (n size:Nat) (x:Opd) (lo hi:Option Opd)
 | fad (off:Nat) (x:Opd)
 | fld (off n:Nat) (agg:Bool) (x:Opd)
 | iaL (size:Nat) (x i:Opd)
 | iaA (n size:Nat) (x i:Opd)
 | ixA (n size:Nat) (agg:Bool) (x i:Opd)
 | ixS (x i:Opd)
 | ext (k:Nat) (x:Opd)
 | call (ptr:Bool) (f:Nat) (args:List Opd)
 | callv (f:Opd) (args:List Opd)
 | len (str:Bool) (x:Opd)
 | app (size bytes:Nat) (s x:Opd)
 | appS (s x:Opd)
 | max (x y:Opd)
 | peq (neg:Bool) (x y:Opd)
 | cvp (n:Nat) (x:Opd)
 | aeq (neg:Bool) (ks:List Nat) (x y:Opd)
 | lkp (x i:Opd)
 | bad
structure AI where
 dst:Option Nat
 op:AOp
 guard:Option (Nat × Bool)
structure St where
 nx:Nat
 bx:List (Key × Nat × List AV)
 ow:List (Key × Nat × Nat)
abbrev Sl:=Nat→AV
inductive AE where
 | normal
 | exit (id:Nat)
 | ret
 | goto (l:Nat)
inductive AC where
 | hand (f:Sl→St→Option (AE × Sl × St))
 | skip
 | reg (id:Nat) (ops:List AI)
 | seq (a b:AC)
 | cond (c:Opd) (a b:AC)
 | block (id:Nat) (c:AC)
 | loop (c:AC)
 | exit (id:Nat)
 | ret
 | goto (l:Nat)
 | gscope (l:Nat) (first rest:AC)
def upd (σ:Sl) (d:Nat) (v:AV):Sl:=fun t=>if t=d then v else σ t
def updO (σ:Sl) (d:Option Nat) (v:AV):Sl:=match d with | some d=>upd σ d v | none=>σ
def Opd.ev (σ:Sl):Opd→AV
 | .t n=>σ n
 | .c v=>v
def lk {α:Type} (l:List (Key × α)) (k:Key):Option α:=
 match l with
 | []=>none
 | (k',a)::r=>if k'=k then some a else lk r k
def st_ {α:Type} (l:List (Key × α)) (k:Key) (a:α):List (Key × α):=
 match l with
 | []=>[(k,a)]
 | (k',b)::r=>if k'=k then (k,a)::r else (k',b)::st_ r k a
def AV.one:AV→Bool
 | .ag _ | .tup _ | .u=>false
 | _=>true
def AV.cells:AV→List AV
 | .ag cs=>cs
 | v=>[v]
def ofCells (agg:Bool) (cs:List AV):Option AV:=
 if agg then some (.ag cs) else match cs with | [v]=>some v | _=>none
def setAt (cs:List AV) (off:Nat):List AV→List AV
 | []=>cs
 | v::r=>setAt (cs.set off v) (off+1) r
def aint (op:BinOp) (k:IntKind) (x y:Int):Option AV:=
 match op with
 | .add=>some (.i k (k.wrap (x+y)))
 | .sub=>some (.i k (k.wrap (x-y)))
 | .mul=>some (.i k (k.wrap (x*y)))
 | .quo=>if y=0 then none else some (.i k (k.wrap (x.tdiv y)))
 | .rem=>if y=0 then none else some (.i k (x.tmod y))
 | .and=>some (.i k (k.wrap (BitVec.ofInt k.bits x &&& BitVec.ofInt k.bits y).toNat))
 | .or=>some (.i k (k.wrap (BitVec.ofInt k.bits x ||| BitVec.ofInt k.bits y).toNat))
 | .xor=>some (.i k (k.wrap (BitVec.ofInt k.bits x ^^^ BitVec.ofInt k.bits y).toNat))
 | .andNot=>some (.i k (k.wrap (BitVec.ofInt k.bits x &&& ~~~(BitVec.ofInt k.bits y)).toNat))
 | .eql=>some (.b (x==y))
 | .neq=>some (.b (x != y))
 | .lss=>some (.b (decide (x<y)))
 | .leq=>some (.b (decide (x≤y)))
 | .gtr=>some (.b (decide (x>y)))
 | .geq=>some (.b (decide (x≥y)))
 | .shl | .shr=>none
def ashift (op:BinOp) (k:IntKind) (x y:Int):Option AV:=
 if y<0 then none else
 match op with
 | .shl=>some (.i k (k.wrap (x*2 ^ (min y.toNat k.bits))))
 | .shr=>some (.i k (x.fdiv (2 ^ (min y.toNat k.bits))))
 | _=>none
def maxStr:Nat:=2 ^ 40
def abin (op:BinOp) (x y:AV):Option AV:=
 match x,y with
 | .i k a,.i k' b=>
  match op with
  | .shl | .shr=>ashift op k a b
  | _=>if k=k' then aint op k a b else none
 | .s a,.s b=>
  match op with
  | .add=>if a.length+b.length≤maxStr then some (.s (a++b)) else none
  | .eql=>some (.b (a==b))
  | .neq=>some (.b (!(a==b)))
  | _=>none
 | _,_=>none
def AV.nat:AV→Option Nat
 | .i _ n=>if 0≤n then some n.toNat else none
 | _=>none
def bnds (σ:Sl) (len cap:Nat) (lo hi:Option Opd):Option (Nat × Nat):=
 match (match hi with | none=>some len | some h=>(h.ev σ).nat) with
 | none=>none
 | some h=>
  match (match lo with | none=>some 0 | some l=>(l.ev σ).nat) with
  | none=>none
  | some l=>if l≤h∧h≤cap then some (l,h) else none
def AV.soft:AV→Option AV
 | .sl _ rows=>some (.sl .ext rows)
 | .i k n=>some (.i k n)
 | .b x=>some (.b x)
 | .s l=>some (.s l)
 | .np=>some .np
 | .nf=>some .nf
 | .ni=>some .ni
 | _=>none
def softs:List AV→Option (List AV)
 | []=>some []
 | v::r=>match v.soft,softs r with | some w,some l=>some (w::l) | _,_=>none
def fillRows (zero:List AV) (σ:Sl) (rows:List (List AV)):List (Nat × Opd)→Option (List (List AV))
 | []=>some rows
 | (i,x)::r=>
  match softs (x.ev σ).cells with
  | some cs=>if i<rows.length∧cs.length=zero.length then fillRows zero σ (rows.set i cs) r else none
  | none=>none
def fillCells (σ:Sl) (cells:List AV):List (Nat × Nat × Opd)→Option (List AV)
 | []=>some cells
 | (off,n,x)::r=>
  let cs:=(x.ev σ).cells
  if cs.length=n∧off+n≤cells.length∧cs.all AV.one then fillCells σ (setAt cells off cs) r else none
def byteOf:List AV→Option UInt8
 | [.i .u8 n]=>if 0≤n∧n<256 then some n.toNat.toUInt8 else none
 | _=>none
def bytesOf:List (List AV)→Option (List UInt8)
 | []=>some []
 | r::rs=>match byteOf r,bytesOf rs with | some c,some l=>some (c::l) | _,_=>none
def row8 (c:UInt8):List AV:=[.i .u8 c.toNat]
def bigSite:Nat:=4096000000
def midSite:Nat:=2048000000
def apeq (neg:Bool) (x y:AV):Option AV:=
 match x,y with
 | .np,.np=>some (.b (!neg))
 | .p _ _ _,.np=>some (.b neg)
 | .p k v o,.p k' v' o'=>if k=k'∧v=v'∧o=o' then some (.b (!neg)) else none
 | _,_=>none
def cellEq:Nat→AV→AV→Option Bool
 | 0,.i k a,.i k' b=>if k=k' then some (a==b) else none
 | 1,.b a,.b b=>some (a==b)
 | 2,.s a,.s b=>some (a==b)
 | _,_,_=>none
def cellsEq:List Nat→List AV→List AV→Option Bool
 | [],[],[]=>some true
 | c::q,a::r,b::t=>match cellEq c a b,cellsEq q r t with | some x,some y=>some (x&&y) | _,_=>none
 | _,_,_=>none
def mpAt (l:List (List UInt8 × Int)) (s:List UInt8):Int:=match l.find? (fun x=>x.1==s) with | some x=>x.2 | none=>0
def apure (key:Key) (ver:Nat) (σ:Sl):AOp→Option AV
 | .mv x=>some (x.ev σ)
 | .pick c a b=>match c.ev σ with | .b t=>some (if t then a.ev σ else b.ev σ) | _=>none
 | .alloc _=>some (.p key ver 0)
 | .build zero parts=>(fillCells σ zero parts).map .ag
 | .bslice zero n parts=>match softs zero with
  | some z=>if 0<z.length∧n*z.length≤65536 then (fillRows z σ (List.replicate n z) parts).map (.sl .full) else none
  | none=>none
 | .boxf n x=>if (x.ev σ).cells.length=n then (softs (x.ev σ).cells).map .fp else none
 | .nilc x=>match x.ev σ with | .p k v o=>some (.p k v o) | .fp cs=>some (.fp cs) | _=>none
 | .bin op x y=>abin op (x.ev σ) (y.ev σ)
 | .beq neg x y=>match x.ev σ,y.ev σ with | .b x,.b y=>some (.b (if neg then !(x==y) else x==y)) | _,_=>none
 | .un op x=>match op,x.ev σ with | .not,.b t=>some (.b (!t)) | .neg,.i k n=>some (.i k (k.wrap (0-n))) | _,_=>none
 | .cvi k x=>match x.ev σ with | .i _ n=>some (.i k (k.wrap n)) | _=>none
 | .b2s x=>match x.ev σ with | .sl _ rows=>(bytesOf rows).map .s | _=>none
 | .mkfn f cap=>some (.fn f (cap.map (·.ev σ)))
 | .mkbf f cs=>some (.bf f (cs.map (·.ev σ)))
 | .slS x lo hi=>match x.ev σ with | .s l=>(bnds σ l.length l.length lo hi).map fun (a,b)=>.s ((l.drop a).take (b-a)) | _=>none
 | .slL size x lo hi=>match x.ev σ with | .sl _ rows=>if rows.all (·.length==size) then (bnds σ rows.length rows.length lo hi).map fun (a,b)=>.sl .ext ((rows.drop a).take (b-a)) else none | _=>none
 | .fad off x=>match x.ev σ with | .p k v o=>some (.p k v (o+off)) | .fp cs=>some (.fp (cs.drop off)) | _=>none
 | .fld off n agg x=>match x.ev σ with | .ag cs=>if off+n≤cs.length then ofCells agg ((cs.drop off).take n) else none | _=>none
 | .iaL size x i=>match x.ev σ,(i.ev σ).nat with | .sl _ rows,some k=>(match rows[k]? with | some row=>if row.length=size∧0<size then some (.fp row) else none | none=>none) | _,_=>none
 | .iaA n size x i=>match x.ev σ,(i.ev σ).nat with | .p k v o,some j=>if j<n then some (.p k v (o+j*size)) else none | _,_=>none
 | .ixA n size agg x i=>match x.ev σ,(i.ev σ).nat with | .ag cs,some j=>if j<n∧j*size+size≤cs.length then ofCells agg ((cs.drop (j*size)).take size) else none | _,_=>none
 | .ixS x i=>match x.ev σ,(i.ev σ).nat with | .s l,some j=>(l[j]?).map fun c=>.i .u8 c.toNat | _,_=>none
 | .ext k x=>match x.ev σ with | .tup vs=>vs[k]? | _=>none
 | .len true x=>match x.ev σ with | .s l=>some (.i .i64 l.length) | _=>none
 | .len false x=>match x.ev σ with | .sl _ rows=>some (.i .i64 rows.length) | _=>none
 | .max x y=>match x.ev σ,y.ev σ with | .i k a,.i k' b=>if k=k' then some (.i k (if a<b then b else a)) else none | _,_=>none
 | .peq neg x y=>apeq neg (x.ev σ) (y.ev σ)
 | .aeq neg ks x y=>match x.ev σ,y.ev σ with | .ag cs,.ag ds=>(cellsEq ks cs ds).map fun b=>.b (if neg then !b else b) | _,_=>none
 | .lkp x i=>match x.ev σ,i.ev σ with | .mp l,.s s=>some (.i .u8 (mpAt l s)) | _,_=>none
 | .bad=>none
 | .ldf n agg x=>match x.ev σ with | .fp cs=>if n≤cs.length then ofCells agg (cs.take n) else none | _=>none
 | _=>none
abbrev BS:=List UInt8
abbrev LB:=List BS
end Go.AM

namespace Go.AM
open Go Go.RowKit
abbrev CallF:=Nat→Nat→List AV→St→Option (AV × St)
mutual
def AV.strip:AV→Option AV
 | .sl _ rows=>some (.sl .ext rows)
 | .ag cs=>match AV.strips cs with | some l=>some (.ag l) | none=>none
 | .tup cs=>match AV.strips cs with | some l=>some (.tup l) | none=>none
 | .p _ _ _=>none
 | .fn _ _=>none
 | .bf _ _=>none
 | v=>some v
def AV.strips:List AV→Option (List AV)
 | []=>some []
 | v::r=>match AV.strip v,AV.strips r with | some w,some l=>some (w::l) | _,_=>none
end
def aload (st:St) (n:Nat) (agg:Bool):AV→Option AV
 | .fp cs=>if n≤cs.length then ofCells agg (cs.take n) else none
 | .p k v o=>match lk st.bx k with
  | some (v',cs)=>if v'=v∧o+n≤cs.length then ofCells agg ((cs.drop o).take n) else none
  | none=>none
 | _=>none
def AV.isF0:AV→Bool
 | .sl .full []=>true
 | _=>false
def okSt (k:Key) (x:AV):Bool:=Nat.blt k.2 bigSite||!(x.cells.any AV.isF0)
theorem okSt_r {k:Key} {x:AV} (h:x.cells.any AV.isF0=false):okSt k x=true:=by unfold okSt;rw [h];simp
def astore (st:St) (n:Nat) (a x:AV):Option St:=
 match a with
 | .p k v o=>match lk st.bx k with
  | some (v',cs)=>if v'=v∧o+n≤cs.length∧x.cells.length=n∧x.cells.all AV.one∧okSt k x then some { st with bx:=st_ st.bx k (v,setAt cs o x.cells) } else none
  | none=>none
 | _=>none
def del {α:Type} (l:List (Key × α)) (k:Key):List (Key × α):=l.filter fun x=>x.1≠k
def maxBytes:Nat:=2 ^ 46
def aapp (key:Key) (ver size bytes:Nat) (s:AV) (news:List (List AV)) (st:St):Option (AV × St):=
 match s with
 | .sl o rows=>
  if (rows.length+news.length)*bytes≤maxBytes∧rows.length+news.length≤maxBytes∧0<size∧(rows.all (·.length==size))=true∧(news.all (·.length==size))=true then
   if news.isEmpty then some (.sl o rows,st)
   else match o with
    | .ext=>none
    | .full=>some (.sl (.id key ver) (rows++news),{ st with ow:=st_ st.ow key (ver,rows.length+news.length) })
    | .id k v=>match lk st.ow k with
     | some (v',n)=>if v'=v∧n=rows.length∧0<n∧(key.2<bigSite∨bigSite≤k.2) then some (.sl (.id key ver) (rows++news),{ st with ow:=st_ (del st.ow k) key (ver,rows.length+news.length) }) else none
     | none=>none
  else none
 | _=>none
def acvp (st:St) (n:Nat):AV→Option AV
 | .p k v 0=>match lk st.bx k with
  | some (v',cs)=>if v'=v∧bigSite≤k.2∧cs.length=n then some (.p k v 0) else none
  | none=>none
 | _=>none
def chunk (size n:Nat) (cs:List AV):List (List AV):=(List.range n).map fun i=>(cs.drop (i*size)).take size
def st0:St:=⟨0,[],[]⟩
def aexec (C:CallF) (d site ver:Nat) (σ:Sl) (st:St):AOp→Option (AV × St)
 | .load n agg a=>(aload st n agg (a.ev σ)).map (·,st)
 | .store n a x=>(astore st n (a.ev σ) (x.ev σ)).map (.tup [],·)
 | .box n x=>if (x.ev σ).cells.length=n∧(x.ev σ).cells.all AV.one then some (.p (d,site) ver 0,{ st with bx:=st_ st.bx (d,site) (ver,(x.ev σ).cells) }) else none
 | .mks zero bytes l c=>match (l.ev σ).nat,(c.ev σ).nat with
  | some n,some n'=>match softs zero with
   | some z=>if n=n'∧n*bytes≤maxBytes∧n≤maxBytes∧0<z.length then some (.sl .full (List.replicate n z),st) else none
   | none=>none
  | _,_=>none
 | .mkfz f pre x post=>match x.ev σ with
  | .p k v 0=>match lk st.bx k with
   | some (v',cs)=>if v'=v then (match softs cs with
    | some cs'=>some (.fn f (pre.map (·.ev σ)++.fp cs'::post.map (·.ev σ)),{ st with bx:=del st.bx k })
    | none=>none) else none
   | none=>none
  | _=>none
 | .slA n size x lo hi=>match x.ev σ with
  | .p k v o=>match lk st.bx k with
   | some (v',cs)=>if v'=v∧o=0∧n*size=cs.length∧0<size then
     match softs cs with
     | some cs'=>(bnds σ n n lo hi).map fun (x,y)=>(.sl .ext (((chunk size n cs').drop x).take (y-x)),{ st with bx:=del st.bx k })
     | none=>none
    else none
   | none=>none
  | _=>none
 | .app size bytes s x=>match x.ev σ with
  | .sl _ news=>aapp (d,site) ver size bytes (s.ev σ) news st
  | _=>none
 | .appS s x=>match x.ev σ with
  | .s l=>aapp (d,site) ver 1 1 (s.ev σ) (l.map row8) st
  | _=>none
 | .call false f args=>match AV.strips (args.map (·.ev σ)) with
  | some vs=>match C 0 f vs st0 with
   | some (r,_)=>(r.strip).map (·,st)
   | none=>none
  | none=>none
 | .call true f args=>C (d+1) f (args.map (·.ev σ)) st
 | .callv f args=>match f.ev σ with
  | .fn g cap=>C (d+1) g (args.map (·.ev σ)++cap) st
  | .bf g cs=>C (d+1) g (cs++args.map (·.ev σ)) st
  | _=>none
 | .cvp n x=>(acvp st n (x.ev σ)).map (·,st)
 | op=>(apure (d,site) ver σ op).map (·,st)
def aai (C:CallF) (d site ver:Nat) (o:AI) (σ:Sl) (st:St):Option (Sl × St):=
 match o.guard with
 | none=>(aexec C d site ver σ st o.op).map fun (v,st')=>(updO σ o.dst v,st')
 | some (t,w)=>match σ t with
  | .b x=>if x=w then (aexec C d site ver σ st o.op).map fun (v,st')=>(updO σ o.dst v,st') else some (updO σ o.dst (.tup []),st)
  | .tup []=>some (updO σ o.dst (.tup []),st)
  | _=>none
def aregO (C:CallF) (d id base:Nat) (ops:List AI):List Nat→Sl→St→Option (Sl × St)
 | [],σ,st=>some (σ,st)
 | i::r,σ,st=>match ops[i]? with
  | none=>aregO C d id base ops r σ st
  | some o=>match aai C d (id*4096+i) (base+i) o σ st with
   | some (σ',st')=>aregO C d id base ops r σ' st'
   | none=>none
def aregL (C:CallF) (d id base:Nat):Nat→List AI→Sl→St→Option (Sl × St)
 | _,[],σ,st=>some (σ,st)
 | i,o::r,σ,st=>match aai C d (id*4096+i) (base+i) o σ st with
   | some (σ',st')=>aregL C d id base (i+1) r σ' st'
   | none=>none
def pre (d id base:Nat):Nat→List AI→List (Key × Nat × List AV)→List (Key × Nat × List AV)
 | _,[],bx=>bx
 | i,o::r,bx=>match o.op with
  | .alloc zero=>pre d id base (i+1) r (st_ bx (d,id*4096+i) (base+i,zero))
  | _=>pre d id base (i+1) r bx
def areg (C:CallF) (d id:Nat) (ops:List AI) (σ:Sl) (st:St):Option (Sl × St):=
 aregL C d id st.nx 0 ops σ { st with nx:=st.nx+ops.length,bx:=pre d id st.nx 0 ops st.bx }
def iter (f:Sl→St→Option (AE × Sl × St)):Nat→Sl→St→Option (AE × Sl × St)
 | 0,_,_=>none
 | n+1,σ,st=>match f σ st with
  | some (.normal,σ',st')=>iter f n σ' st'
  | r=>r
def iterG (l:Nat) (f:Sl→St→Option (AE × Sl × St)):Nat→Sl→St→Option (AE × Sl × St)
 | 0,_,_=>none
 | n+1,σ,st=>match f σ st with
  | some (.goto l',σ',st')=>if l'=l then iterG l f n σ' st' else none
  | r=>r
def acode (C:CallF) (n d:Nat):AC→Sl→St→Option (AE × Sl × St)
 | .hand f,σ,st=>f σ st
 | .skip,σ,st=>some (.normal,σ,st)
 | .reg id ops,σ,st=>(areg C d id ops σ st).map fun (σ',st')=>(.normal,σ',st')
 | .seq a b,σ,st=>match acode C n d a σ st with
  | some (.normal,σ',st')=>acode C n d b σ' st'
  | r=>r
 | .cond c a b,σ,st=>match c.ev σ with
  | .b true=>acode C n d a σ st
  | .b false=>acode C n d b σ st
  | _=>none
 | .block id c,σ,st=>match acode C n d c σ st with
  | some (.exit id',σ',st')=>if id'=id then some (.normal,σ',st') else some (.exit id',σ',st')
  | r=>r
 | .loop c,σ,st=>iter (acode C n d c) n σ st
 | .exit id,σ,st=>some (.exit id,σ,st)
 | .ret,σ,st=>some (.ret,σ,st)
 | .goto l,σ,st=>some (.goto l,σ,st)
 | .gscope l a b,σ,st=>match acode C n d a σ st with
  | some (.normal,σ',st')=>iterG l (acode C n d b) n σ' st'
  | _=>none
inductive ARes where
 | tmp (t:Nat)
 | cell (t n:Nat) (agg:Bool)
structure AF where
 nt:Nat
 res:List ARes
 body:AC
 /-- the slots of boxes that are never stored to: they are told for good -/
 fz:List Nat:=[]
def ares1 (σ:Sl) (st:St):ARes→Option AV
 | .tmp t=>some (σ t)
 | .cell t n agg=>aload st n agg (σ t)
def aresL (σ:Sl) (st:St):List ARes→Option (List AV)
 | []=>some []
 | r::rs=>match ares1 σ st r,aresL σ st rs with | some v,some l=>some (v::l) | _,_=>none
def ares (σ:Sl) (st:St):List ARes→Option AV
 | [r]=>ares1 σ st r
 | rs=>(aresL σ st rs).map .tup
def sl0 (args:List AV):Sl:=fun t=>args.getD t (.tup [])
structure Prog where
 fn:Nat→Option AF
 orac:Nat→List AV→Option AV
 oracS:Nat→List AV→St→Option (AV × St):=fun _ _ _=>none
def acall (prog:Prog):Nat→CallF
 | 0,_,_,_,_=>none
 | n+1,d,f,args,st=>match prog.fn f with
  | none=>match prog.orac f args with | some r=>some (r,st) | none=>prog.oracS f args st
  | some F=>
   if args.length≤F.nt then
    match acode (acall prog n) n d F.body (sl0 args) st with
    | some (.normal,σ,st') | some (.ret,σ,st')=>(ares σ st' F.res).map fun r=>(r,{ st' with bx:=st'.bx.filter fun x=>x.1.1<d })
    | _=>none
   else none
end Go.AM

namespace Go.AM
open Go
def CLe (C C':CallF):Prop:=∀d f a st r,C d f a st=some r→C' d f a st=some r
theorem aexec_mono {C C':CallF} (h:CLe C C') {d site ver:Nat} {σ:Sl} {st:St} {op:AOp} {r:AV × St} (he:aexec C d site ver σ st op=some r):aexec C' d site ver σ st op=some r:=by
 cases op with
 | call p f args=>
  cases p with
  | false=>
   simp only [aexec] at he ⊢
   split at he
   ·rename_i vs hvs
    split at he
    ·rename_i r' st' hr
     rw [h _ _ _ _ _ hr]
     exact he
    ·cases he
   ·cases he
  | true=>simp only [aexec] at he ⊢;exact h _ _ _ _ _ he
 | callv f args=>
  simp only [aexec] at he ⊢
  split at he
  ·exact h _ _ _ _ _ he
  ·exact h _ _ _ _ _ he
  ·cases he
 | _=>exact he
theorem aai_mono {C C':CallF} (h:CLe C C') {d site ver:Nat} {o:AI} {σ:Sl} {st:St} {r:Sl × St} (he:aai C d site ver o σ st=some r):aai C' d site ver o σ st=some r:=by
 unfold aai at he ⊢
 have key:(aexec C d site ver σ st o.op).map (fun (v,st')=>(updO σ o.dst v,st'))=some r→(aexec C' d site ver σ st o.op).map (fun (v,st')=>(updO σ o.dst v,st'))=some r:=by
  intro h1
  rw [Option.map_eq_some_iff] at h1 ⊢
  obtain ⟨x,h2,h3⟩:=h1
  exact ⟨x,aexec_mono h h2,h3⟩
 split at he
 ·exact key he
 ·split at he
  ·split at he
   ·rename_i h1 h2
    simp only [h2,if_true] at he ⊢
    exact key he
   ·rename_i h1 h2
    simp only [h2,if_false] at he ⊢
    exact he
  ·exact he
  ·cases he
theorem aregL_mono {C C':CallF} (h:CLe C C') {d id base:Nat} :∀{ops:List AI} {i:Nat} {σ:Sl} {st:St} {r:Sl × St},aregL C d id base i ops σ st=some r→aregL C' d id base i ops σ st=some r
 | [],_,_,_,_,he=>he
 | o::l,i,σ,st,r,he=>by
  unfold aregL at he ⊢
  split at he
  ·rename_i σ' st' h1
   rw [aai_mono h h1]
   exact aregL_mono h he
  ·cases he
theorem iter_mono {f f':Sl→St→Option (AE × Sl × St)} (h :∀σ st r,f σ st=some r→f' σ st=some r) :∀{n n':Nat} (_:n≤n') {σ:Sl} {st:St} {r:AE × Sl × St},iter f n σ st=some r→iter f' n' σ st=some r
 | 0,_,_,_,_,_,he=>by cases he
 | n+1,0,hn,_,_,_,_=>absurd hn (Nat.not_succ_le_zero _)
 | n+1,n'+1,hn,σ,st,r,he=>by
  unfold iter at he ⊢
  split at he
  ·rename_i σ' st' h1
   rw [h _ _ _ h1]
   exact iter_mono h (Nat.le_of_succ_le_succ hn) he
  ·rename_i hne
   rw [h _ _ _ he]
   split
   ·rename_i σ' st' heq
    injection heq with heq
    subst heq
    exact absurd he (hne _ _)
   ·rfl
theorem iterG_mono {l:Nat} {f f':Sl→St→Option (AE × Sl × St)} (h :∀σ st r,f σ st=some r→f' σ st=some r) :∀{n n':Nat} (_:n≤n') {σ:Sl} {st:St} {r:AE × Sl × St},iterG l f n σ st=some r→iterG l f' n' σ st=some r
 | 0,_,_,_,_,_,he=>by cases he
 | n+1,0,hn,_,_,_,_=>absurd hn (Nat.not_succ_le_zero _)
 | n+1,n'+1,hn,σ,st,r,he=>by
  unfold iterG at he ⊢
  split at he
  ·rename_i l' σ' st' h1
   rw [h _ _ _ h1]
   split at he
   ·rename_i hl
    simp only [hl,if_true]
    exact iterG_mono h (Nat.le_of_succ_le_succ hn) he
   ·cases he
  ·rename_i hne
   rw [h _ _ _ he]
   split
   ·rename_i l' σ' st' heq
    injection heq with heq
    subst heq
    exact absurd he (hne _ _ _)
   ·rfl
theorem acode_mono {C C':CallF} (h:CLe C C') {n n':Nat} (hn:n≤n') {d:Nat} :∀{c:AC} {σ:Sl} {st:St} {r:AE × Sl × St},acode C n d c σ st=some r→acode C' n' d c σ st=some r
 | .hand _,_,_,_,he=>he
 | .skip,_,_,_,he=>he
 | .exit _,_,_,_,he=>he
 | .ret,_,_,_,he=>he
 | .goto _,_,_,_,he=>he
 | .reg id ops,σ,st,r,he=>by
  simp only [acode,areg] at he ⊢
  rw [Option.map_eq_some_iff] at he ⊢
  obtain ⟨x,h1,h2⟩:=he
  exact ⟨x,aregL_mono h h1,h2⟩
 | .seq a b,σ,st,r,he=>by
  simp only [acode] at he ⊢
  split at he
  ·rename_i σ' st' h1
   rw [acode_mono h hn h1]
   exact acode_mono h hn he
  ·rename_i hne
   rw [acode_mono h hn he]
   split
   ·rename_i σ' st' heq
    injection heq with heq
    subst heq
    exact absurd he (hne _ _)
   ·rfl
 | .cond c a b,σ,st,r,he=>by
  simp only [acode] at he ⊢
  split at he
  ·exact acode_mono h hn he
  ·exact acode_mono h hn he
  ·cases he
 | .block id c,σ,st,r,he=>by
  simp only [acode] at he ⊢
  split at he
  ·rename_i id' σ' st' h1
   rw [acode_mono h hn h1]
   exact he
  ·rename_i hne
   rw [acode_mono h hn he]
   split
   ·rename_i id' σ' st' heq
    injection heq with heq
    subst heq
    exact absurd he (hne _ _ _)
   ·rfl
 | .loop c,σ,st,r,he=>by
  simp only [acode] at he ⊢
  exact iter_mono (fun _ _ _ h1=>acode_mono h hn h1) hn he
 | .gscope l a b,σ,st,r,he=>by
  simp only [acode] at he ⊢
  split at he
  ·rename_i σ' st' h1
   rw [acode_mono h hn h1]
   exact iterG_mono (fun _ _ _ h2=>acode_mono h hn h2) hn he
  ·cases he
theorem acall_mono {prog:Prog} :∀{n m:Nat},n≤m→CLe (acall prog n) (acall prog m)
 | 0,_,_,_,_,_,_,_,he=>by cases he
 | n+1,0,hn,_,_,_,_,_,_=>absurd hn (Nat.not_succ_le_zero _)
 | n+1,m+1,hn,d,f,a,st,r,he=>by
  have ih:=acall_mono (prog:=prog) (Nat.le_of_succ_le_succ hn)
  unfold acall at he ⊢
  cases hf:prog.fn f with
  | none=>rw [hf] at he;exact he
  | some F=>
   rw [hf] at he
   simp only at he ⊢
   split at he
   ·rename_i hl
    rw [if_pos hl]
    split at he
    ·rename_i σ st' h1
     rw [acode_mono ih (Nat.le_of_succ_le_succ hn) h1]
     exact he
    ·rename_i σ st' h1
     rw [acode_mono ih (Nat.le_of_succ_le_succ hn) h1]
     exact he
    ·cases he
   ·cases he
def Fn (prog:Prog) (d f:Nat) (args:List AV) (st:St) (r:AV) (st':St):Prop:=∃n,acall prog n d f args st=some (r,st')
def Pu (prog:Prog) (f:Nat) (args:List AV) (r:AV):Prop:=∃st',Fn prog 0 f args st0 r st'
theorem Fn.det {prog:Prog} {d f:Nat} {args:List AV} {st:St} {r r':AV} {st1 st2:St} (h:Fn prog d f args st r st1) (k:Fn prog d f args st r' st2):r=r'∧st1=st2:=by
 obtain ⟨n,h⟩:=h
 obtain ⟨m,k⟩:=k
 have h1:=acall_mono (prog:=prog) (Nat.le_max_left n m) _ _ _ _ _ h
 have h2:=acall_mono (prog:=prog) (Nat.le_max_right n m) _ _ _ _ _ k
 rw [h1] at h2
 injection h2 with h2
 injection h2 with h2 h3
 exact ⟨h2,h3⟩
theorem Pu.det {prog:Prog} {f:Nat} {args:List AV} {r r':AV} (h:Pu prog f args r) (k:Pu prog f args r'):r=r':=by
 obtain ⟨_,h⟩:=h
 obtain ⟨_,k⟩:=k
 exact (h.det k).1
def noC:CallF:=fun _ _ _ _=>none
def onO {α:Type} (x:Option α) (K:α→Prop):Prop:=
 match x with
 | some v=>K v
 | none=>False
def WC (prog:Prog) (f:Nat) (vs:List AV) (K:AV→Prop):Prop:=∃r,Pu prog f vs r∧K r
def WF (prog:Prog) (d f:Nat) (vs:List AV) (st:St) (K:AV→St→Prop):Prop:=∃r st',Fn prog d f vs st r st'∧K r st'
def onCv (v:AV) (vs:List AV) (K:Nat→List AV→Prop):Prop:=
 match v with
 | .fn g cap=>K g (vs++cap)
 | .bf g cs=>K g (cs++vs)
 | _=>False
def evs (σ:Sl):List Opd→List AV
 | []=>[]
 | x::r=>x.ev σ::evs σ r
theorem evs_map {σ:Sl} :∀{l:List Opd},evs σ l=l.map (·.ev σ)
 | []=>rfl
 | x::r=>by simp [evs,evs_map]
def WOp (prog:Prog) (d site ver:Nat) (σ:Sl) (st:St) (K:AV→St→Prop):AOp→Prop
 | .call false f args=>onO (AV.strips (evs σ args)) fun vs=>WC prog f vs fun r=>onO r.strip fun r'=>K r' st
 | .call true f args=>WF prog (d+1) f (evs σ args) st K
 | .callv f args=>onCv (f.ev σ) (evs σ args) fun g l=>WF prog (d+1) g l st K
 | op=>onO (aexec noC d site ver σ st op) fun r=>K r.1 r.2
theorem onO_iff {α:Type} {x:Option α} {K:α→Prop}:onO x K ↔∃v,x=some v∧K v:=by
 unfold onO
 split
 ·exact ⟨fun h=>⟨_,rfl,h⟩,fun ⟨v,h,hk⟩=>by cases h;exact hk⟩
 ·exact ⟨fun h=>h.elim,fun ⟨v,h,_⟩=>by cases h⟩
theorem WOp.run {prog:Prog} {d site ver:Nat} {σ:Sl} {st:St} {K:AV→St→Prop} {op:AOp} (h:WOp prog d site ver σ st K op) :∃n v st',aexec (acall prog n) d site ver σ st op=some (v,st')∧K v st':=by
 cases op with
 | call p f args=>
  cases p with
  | false=>
   obtain ⟨vs,h1,r,⟨st',n,h2⟩,h3⟩:=onO_iff.1 h
   obtain ⟨r',h3,h4⟩:=onO_iff.1 h3
   rw [evs_map] at h1
   exact ⟨n,r',st,by simp only [aexec,h1,h2,h3,Option.map_some],h4⟩
  | true=>
   obtain ⟨r,st',⟨n,h1⟩,h2⟩:=h
   rw [evs_map] at h1
   exact ⟨n,r,st',h1,h2⟩
 | callv f args=>
  have h':onCv (f.ev σ) (evs σ args) fun g l=>WF prog (d+1) g l st K:=h
  unfold onCv at h'
  split at h'
  ·rename_i g cap h0
   obtain ⟨r,st',⟨n,h1⟩,h2⟩:=h'
   rw [evs_map] at h1
   exact ⟨n,r,st',by simp only [aexec,h0];exact h1,h2⟩
  ·rename_i g cap h0
   obtain ⟨r,st',⟨n,h1⟩,h2⟩:=h'
   rw [evs_map] at h1
   exact ⟨n,r,st',by simp only [aexec,h0];exact h1,h2⟩
  ·exact h'.elim
 | _=>
  simp only [WOp] at h
  obtain ⟨⟨v,st'⟩,h1,h2⟩:=onO_iff.1 h
  exact ⟨0,v,st',aexec_mono (C:=noC) (fun _ _ _ _ _ h=>by cases h) h1,h2⟩
theorem WC_eq {prog:Prog} {f:Nat} {vs:List AV} {r:AV} (h:Pu prog f vs r) (K:AV→Prop):WC prog f vs K=K r:=
 propext ⟨fun ⟨_,h1,h2⟩=>by rw [h.det h1];exact h2,fun hk=>⟨r,h,hk⟩⟩
def W1 (prog:Prog) (d site ver:Nat) (o:AI) (σ:Sl) (st:St) (K:Sl→St→Prop):Prop:=
 match o.guard with
 | none=>WOp prog d site ver σ st (fun v st'=>K (updO σ o.dst v) st') o.op
 | some (t,w)=>match σ t with
  | .b x=>if x=w then WOp prog d site ver σ st (fun v st'=>K (updO σ o.dst v) st') o.op else K (updO σ o.dst (.tup [])) st
  | .tup []=>K (updO σ o.dst (.tup [])) st
  | _=>False
theorem W1.run {prog:Prog} {d site ver:Nat} {o:AI} {σ:Sl} {st:St} {K:Sl→St→Prop} (h:W1 prog d site ver o σ st K) :∃n σ' st',aai (acall prog n) d site ver o σ st=some (σ',st')∧K σ' st':=by
 unfold W1 at h
 unfold aai
 cases hg:o.guard with
 | none=>
  rw [hg] at h
  obtain ⟨n,v,st',h1,h2⟩:=WOp.run h
  exact ⟨n,_,st',by simp only [h1,Option.map_some],h2⟩
 | some tw=>
  obtain ⟨t,w⟩:=tw
  rw [hg] at h
  simp only at h ⊢
  revert h
  generalize σ t=z
  intro h
  split at h
  ·split at h
   ·rename_i hx
    obtain ⟨n,v,st',h1,h2⟩:=WOp.run h
    exact ⟨n,_,st',by simp only [if_pos hx,h1,Option.map_some],h2⟩
   ·rename_i hx
    exact ⟨0,_,st,by simp only [if_neg hx],h⟩
  ·exact ⟨0,_,st,rfl,h⟩
  ·exact h.elim
def WO (prog:Prog) (d id base:Nat):Nat→List AI→Sl→St→(Sl→St→Prop)→Prop
 | _,[],σ,st,K=>K σ st
 | i,o::r,σ,st,K=>W1 prog d (id*4096+i) (base+i) o σ st fun σ' st'=>WO prog d id base (i+1) r σ' st' K
theorem WO.run {prog:Prog} {d id base:Nat} :∀{ops:List AI} {i:Nat} {σ:Sl} {st:St} {K:Sl→St→Prop},WO prog d id base i ops σ st K→∃n σ' st',aregL (acall prog n) d id base i ops σ st=some (σ',st')∧K σ' st'
 | [],i,σ,st,K,h=>⟨0,σ,st,rfl,h⟩
 | o::r,i,σ,st,K,h=>by
  obtain ⟨n,σ1,st1,h1,h2⟩:=W1.run (show W1 prog d (id*4096+i) (base+i) o σ st _ from h)
  obtain ⟨m,σ2,st2,h3,h4⟩:=WO.run h2
  refine ⟨max n m,σ2,st2,?_,h4⟩
  simp only [aregL,aai_mono (acall_mono (Nat.le_max_left n m)) h1,aregL_mono (acall_mono (Nat.le_max_right n m)) h3]
def W (prog:Prog) (d:Nat) (c:AC) (σ:Sl) (st:St) (Q:AE→Sl→St→Prop):Prop:=
 ∃n e σ' st',acode (acall prog n) n d c σ st=some (e,σ',st')∧Q e σ' st'
section
variable {prog:Prog} {d:Nat} {σ:Sl} {st:St} {Q:AE→Sl→St→Prop}
theorem acode_max {n m:Nat} {c:AC} {r:AE × Sl × St} (h:acode (acall prog n) n d c σ st=some r) (hm:n≤m):acode (acall prog m) m d c σ st=some r:=
 acode_mono (acall_mono hm) hm h
theorem W.skip (h:Q .normal σ st):W prog d .skip σ st Q:=⟨0,_,_,_,rfl,h⟩
theorem W.hand {f:Sl→St→Option (AE × Sl × St)} {e:AE} {σ':Sl} {st':St} (h:f σ st=some (e,σ',st')) (hq:Q e σ' st'):W prog d (.hand f) σ st Q:=⟨0,_,_,_,h,hq⟩
theorem W.exit {id:Nat} (h:Q (.exit id) σ st):W prog d (.exit id) σ st Q:=⟨0,_,_,_,rfl,h⟩
theorem W.ret (h:Q .ret σ st):W prog d .ret σ st Q:=⟨0,_,_,_,rfl,h⟩
theorem W.goto {l:Nat} (h:Q (.goto l) σ st):W prog d (.goto l) σ st Q:=⟨0,_,_,_,rfl,h⟩
theorem W.reg {id:Nat} {ops:List AI} (h:WO prog d id st.nx 0 ops σ { st with nx:=st.nx+ops.length,bx:=pre d id st.nx 0 ops st.bx } fun σ' st'=>Q .normal σ' st'):W prog d (.reg id ops) σ st Q:=by
 obtain ⟨n,σ',st',h1,h2⟩:=h.run
 exact ⟨n,_,σ',st',by simp only [acode,areg,h1,Option.map_some],h2⟩
def noAlloc:List AI→Bool
 | []=>true
 | o::r=>(match o.op with | .alloc _=>false | _=>true)&&noAlloc r
theorem pre_noAlloc {d id base:Nat} :∀{ops:List AI} {i:Nat} {bx:List (Key × Nat × List AV)},noAlloc ops=true→pre d id base i ops bx=bx
 | [],_,_,_=>rfl
 | o::r,i,bx,h=>by
  simp only [noAlloc,Bool.and_eq_true] at h
  unfold pre
  split
  ·rename_i z hz
   rw [hz] at h
   exact absurd h.1 (by simp)
  ·exact pre_noAlloc h.2
theorem W.reg0 {id:Nat} {ops:List AI} (hn:noAlloc ops=true) (h :∀nx,st.nx≤nx→WO prog d id st.nx 0 ops σ ⟨nx,st.bx,st.ow⟩ fun σ' st'=>Q .normal σ' st'):W prog d (.reg id ops) σ st Q:=by
 refine W.reg ?_
 rw [pre_noAlloc hn]
 exact h _ (Nat.le_add_right _ _)
def thenW (prog:Prog) (d:Nat) (c:AC) (Q:AE→Sl→St→Prop):AE→Sl→St→Prop
 | .normal,σ,st=>W prog d c σ st Q
 | e,σ,st=>Q e σ st
theorem W.seq {a b:AC} (h:W prog d a σ st (thenW prog d b Q)):W prog d (.seq a b) σ st Q:=by
 obtain ⟨n,e,σ1,st1,h1,h2⟩:=h
 cases e with
 | normal=>
  obtain ⟨m,e2,σ2,st2,h3,h4⟩:=h2
  exact ⟨max n m,e2,σ2,st2,by simp only [acode,acode_max h1 (Nat.le_max_left n m),acode_max h3 (Nat.le_max_right n m)],h4⟩
 | exit id=>exact ⟨n,_,σ1,st1,by simp only [acode,h1],h2⟩
 | ret=>exact ⟨n,_,σ1,st1,by simp only [acode,h1],h2⟩
 | goto l=>exact ⟨n,_,σ1,st1,by simp only [acode,h1],h2⟩
def onB (v:AV) (K:Bool→Prop):Prop:=
 match v with
 | .b t=>K t
 | _=>False
theorem W.cond {c:Opd} {a b:AC} (h:onB (c.ev σ) fun t=>(t=true→W prog d a σ st Q)∧(t=false→W prog d b σ st Q)):W prog d (.cond c a b) σ st Q:=by
 unfold onB at h
 split at h
 ·rename_i t hc
  cases t with
  | true=>
   obtain ⟨n,e,σ1,st1,h1,h2⟩:=h.1 rfl
   exact ⟨n,e,σ1,st1,by simp only [acode,hc,h1],h2⟩
  | false=>
   obtain ⟨n,e,σ1,st1,h1,h2⟩:=h.2 rfl
   exact ⟨n,e,σ1,st1,by simp only [acode,hc,h1],h2⟩
 ·exact h.elim
theorem W.split {c:Opd} {a b:AC} {p:Prop} [hd:Decidable p] (hc:c.ev σ=.b (decide p)) (h1:p→W prog d a σ st Q) (h2:¬ p→W prog d b σ st Q):W prog d (.cond c a b) σ st Q:=by
 refine W.cond ?_
 rw [hc]
 exact ⟨fun h=>h1 (of_decide_eq_true h),fun h=>h2 (of_decide_eq_false h)⟩
theorem W.yes {c:Opd} {a b:AC} {p:Prop} [hd:Decidable p] (hc:c.ev σ=.b (decide p)) (hp:p) (h1:W prog d a σ st Q):W prog d (.cond c a b) σ st Q:=
 W.split hc (fun _=>h1) fun h=>absurd hp h
theorem W.no {c:Opd} {a b:AC} {p:Prop} [hd:Decidable p] (hc:c.ev σ=.b (decide p)) (hp:¬ p) (h1:W prog d b σ st Q):W prog d (.cond c a b) σ st Q:=
 W.split hc (fun h=>absurd h hp) fun _=>h1
theorem W.tt {c:Opd} {a b:AC} (hc:c.ev σ=.b true) (h1:W prog d a σ st Q):W prog d (.cond c a b) σ st Q:=
 W.yes (p:=True) hc trivial h1
theorem W.ff {c:Opd} {a b:AC} (hc:c.ev σ=.b false) (h1:W prog d b σ st Q):W prog d (.cond c a b) σ st Q:=
 W.no (p:=False) hc id h1
theorem W.cnd {c:Opd} {a b:AC} {t:Bool} (hc:c.ev σ=.b t) (h1:t=true→W prog d a σ st Q) (h2:t=false→W prog d b σ st Q):W prog d (.cond c a b) σ st Q:=by
 refine W.cond ?_
 rw [hc]
 exact ⟨h1,h2⟩
def blockW (id:Nat) (Q:AE→Sl→St→Prop):AE→Sl→St→Prop
 | .exit id',σ,st=>if id'=id then Q .normal σ st else Q (.exit id') σ st
 | e,σ,st=>Q e σ st
theorem W.block {id:Nat} {c:AC} (h:W prog d c σ st (blockW id Q)):W prog d (.block id c) σ st Q:=by
 obtain ⟨n,e,σ1,st1,h1,h2⟩:=h
 cases e with
 | exit id'=>
  simp only [blockW] at h2
  split at h2
  ·rename_i hid
   exact ⟨n,_,σ1,st1,by simp only [acode,h1,hid,if_true],h2⟩
  ·rename_i hid
   exact ⟨n,_,σ1,st1,by simp only [acode,h1,hid,if_false],h2⟩
 | normal=>exact ⟨n,_,σ1,st1,by simp only [acode,h1],h2⟩
 | ret=>exact ⟨n,_,σ1,st1,by simp only [acode,h1],h2⟩
 | goto l=>exact ⟨n,_,σ1,st1,by simp only [acode,h1],h2⟩
theorem W.loop {c:AC} (h:W prog d c σ st (thenW prog d (.loop c) Q)):W prog d (.loop c) σ st Q:=by
 obtain ⟨n,e,σ1,st1,h1,h2⟩:=h
 cases e with
 | normal=>
  obtain ⟨m,e2,σ2,st2,h3,h4⟩:=h2
  refine ⟨max n m+1,e2,σ2,st2,?_,h4⟩
  have hm:m≤max n m+1:=Nat.le_trans (Nat.le_max_right n m) (Nat.le_succ _)
  simp only [acode] at h3 ⊢
  rw [iter,acode_max h1 (Nat.le_trans (Nat.le_max_left n m) (Nat.le_succ _))]
  exact iter_mono (fun σ st r h=>acode_max h hm) (Nat.le_max_right n m) h3
 | exit id=>exact ⟨n+1,_,σ1,st1,by simp only [acode];rw [iter,acode_max h1 (Nat.le_succ _)],h2⟩
 | ret=>exact ⟨n+1,_,σ1,st1,by simp only [acode];rw [iter,acode_max h1 (Nat.le_succ _)],h2⟩
 | goto l=>exact ⟨n+1,_,σ1,st1,by simp only [acode];rw [iter,acode_max h1 (Nat.le_succ _)],h2⟩
theorem W.mono {c:AC} {Q':AE→Sl→St→Prop} (h:W prog d c σ st Q) (hq :∀e σ st,Q e σ st→Q' e σ st):W prog d c σ st Q':=by
 obtain ⟨n,e,σ1,st1,h1,h2⟩:=h
 exact ⟨n,e,σ1,st1,h1,hq _ _ _ h2⟩
def retW (d:Nat) (res:List ARes) (r:AV) (K:St→Prop):AE→Sl→St→Prop
 | .normal,σ,st | .ret,σ,st=>ares σ st res=some r∧K { st with bx:=st.bx.filter fun x=>x.1.1<d }
 | _,_,_=>False
theorem Fn.of {f:Nat} {F:AF} {args:List AV} {r:AV} {K:St→Prop} (hf:prog.fn f=some F) (hn:args.length≤F.nt) (h:W prog d F.body (sl0 args) st (retW d F.res r K)) :∃st',Fn prog d f args st r st'∧K st':=by
 obtain ⟨n,e,σ1,st1,h1,h2⟩:=h
 cases e with
 | normal=>exact ⟨_,⟨n+1,by simp only [acall,hf,if_pos hn,h1,h2.1,Option.map_some]⟩,h2.2⟩
 | ret=>exact ⟨_,⟨n+1,by simp only [acall,hf,if_pos hn,h1,h2.1,Option.map_some]⟩,h2.2⟩
 | exit id=>exact h2.elim
 | goto l=>exact h2.elim
theorem Pu.of {f:Nat} {F:AF} {args:List AV} {r:AV} (hf:prog.fn f=some F) (hn:args.length≤F.nt) (h:W prog 0 F.body (sl0 args) st0 (retW 0 F.res r fun _=>True)):Pu prog f args r:=by
 obtain ⟨st',h1,_⟩:=Fn.of hf hn h
 exact ⟨st',h1⟩
end
end Go.AM

namespace Go.AM
open Go
section
variable {α β:Type}
theorem onO_some (v:α) (K:α→Prop):onO (some v) K=K v:=rfl
theorem onO_none (K:α→Prop):onO none K=False:=rfl
theorem onO_map (x:Option α) (f:α→β) (K:β→Prop):onO (x.map f) K=onO x fun v=>K (f v):=by cases x<;>rfl
theorem onO_ite (c:Prop) [Decidable c] (x:Option α) (K:α→Prop):onO (if c then x else none) K=(c∧onO x K):=by
  by_cases h:c<;>simp [h,onO_none]
end
section
variable {prog:Prog} {d id base i site ver:Nat} {σ:Sl} {st:St}
def onG (prog:Prog) (d site ver:Nat) (dst:Option Nat) (op:AOp) (t:Nat) (w:Bool) (σ:Sl) (st:St) (K:Sl→St→Prop) (v:AV):Prop:=
  match v with
  | .b x=>if x=w then WOp prog d site ver σ st (fun v st'=>K (updO σ dst v) st') op else K (updO σ dst (.tup [])) st
  | .tup []=>K (updO σ dst (.tup [])) st
  | _=>False
section
variable {dst:Option Nat} {op:AOp} {t:Nat} {K:Sl→St→Prop}
theorem W1_some {w:Bool}:W1 prog d site ver ⟨dst,op,some (t,w)⟩ σ st K=onG prog d site ver dst op t w σ st K (σ t):=by
  unfold W1 onG
  all_goals try dsimp only
  all_goals first
    | rfl
    | (generalize σ t=z
       cases z with
       | tup cs=>cases cs<;>rfl
       | _=>rfl)
theorem upd_self {v:AV} (h:σ t=v):upd σ t v=σ:=by
  funext x
  unfold upd
  split
  · rename_i hx;rw [hx,h]
  · rfl
end
theorem onB_true (K:Bool→Prop):onB (.b true) K=K true:=rfl
theorem onB_false (K:Bool→Prop):onB (.b false) K=K false:=rfl
section
variable (K:AV→St→Prop)
theorem WOp_mv (x:Opd):WOp prog d site ver σ st K (.mv x)=K (x.ev σ) st:=rfl
theorem WOp_pick (c a b:Opd):WOp prog d site ver σ st K (.pick c a b)=onB (c.ev σ) fun t=>K (if t then a.ev σ else b.ev σ) st:=by
  simp only [WOp,aexec,apure]
  cases c.ev σ<;>rfl
theorem WOp_bin (op:BinOp) (x y:Opd):WOp prog d site ver σ st K (.bin op x y)=onO (abin op (x.ev σ) (y.ev σ)) fun v=>K v st:=by
  simp only [WOp,aexec,apure,onO_map]
def onS (v:AV) (K:List UInt8→Prop):Prop:=
  match v with
  | .s l=>K l
  | _=>False
theorem onS_s (l:List UInt8) (K:List UInt8→Prop):onS (.s l) K=K l:=rfl
def onL (v:AV) (K:Own→List (List AV)→Prop):Prop:=
  match v with
  | .sl o rows=>K o rows
  | _=>False
theorem onL_sl (o:Own) (rows:List (List AV)) (K:Own→List (List AV)→Prop):onL (.sl o rows) K=K o rows:=rfl
def onN (v:AV) (K:Nat→Prop):Prop:=
  match v with
  | .i _ n=>0≤n∧K n.toNat
  | _=>False
theorem onN_i (k:IntKind) (n:Int) (K:Nat→Prop):onN (.i k n) K=(0≤n∧K n.toNat):=rfl
def onI (v:AV) (K:IntKind→Int→Prop):Prop:=
  match v with
  | .i k n=>K k n
  | _=>False
theorem onI_i (k:IntKind) (n:Int) (K:IntKind→Int→Prop):onI (.i k n) K=K k n:=rfl
def onT (v:AV) (K:List AV→Prop):Prop:=
  match v with
  | .tup cs=>K cs
  | _=>False
theorem onT_tup (cs:List AV) (K:List AV→Prop):onT (.tup cs) K=K cs:=rfl
theorem onN_pos (k:IntKind) (n:Int) (K:Nat→Prop) (h:0≤n):onN (.i k n) K=K n.toNat:=by simp [onN,h]
theorem WOp_lenS (x:Opd):WOp prog d site ver σ st K (.len true x)=onS (x.ev σ) fun l=>K (.i .i64 l.length) st:=by
  simp only [WOp,aexec,apure]
  cases x.ev σ<;>rfl
theorem WOp_lenL (x:Opd):WOp prog d site ver σ st K (.len false x)=onL (x.ev σ) fun _ rows=>K (.i .i64 rows.length) st:=by
  simp only [WOp,aexec,apure]
  cases x.ev σ<;>rfl
theorem WOp_ixS (x i:Opd):WOp prog d site ver σ st K (.ixS x i)=onS (x.ev σ) fun l=>onN (i.ev σ) fun j=>onO l[j]? fun c=>K (.i .u8 c.toNat) st:=by
  simp only [WOp,aexec,apure]
  cases x.ev σ<;>try rfl
  cases i.ev σ<;>try rfl
  rename_i l k n
  simp only [AV.nat,onS_s,onN_i]
  by_cases h:0≤n
  · simp [onO_map,h]
  · simp [onO_none,h]
theorem WOp_bslice (zero:List AV) (n:Nat) (parts:List (Nat × Opd)):WOp prog d site ver σ st K (.bslice zero n parts)=onO (softs zero) fun z=>(0<z.length∧n*z.length≤65536)∧onO (fillRows z σ (List.replicate n z) parts) fun rows=>K (.sl .full rows) st:=by
  simp only [WOp,aexec,apure]
  cases softs zero with
  | none=>rfl
  | some z=>simp only [onO_map,onO_ite,onO_some]
theorem WOp_ext (k:Nat) (x:Opd):WOp prog d site ver σ st K (.ext k x)=onT (x.ev σ) fun vs=>onO vs[k]? fun v=>K v st:=by
  simp only [WOp,aexec,apure]
  cases x.ev σ<;>simp [onO_map,onO_none,onT]
theorem WOp_cvi (k:IntKind) (x:Opd):WOp prog d site ver σ st K (.cvi k x)=onI (x.ev σ) fun _ n=>K (.i k (k.wrap n)) st:=by
  simp only [WOp,aexec,apure]
  cases x.ev σ<;>rfl
theorem WOp_b2s (x:Opd):WOp prog d site ver σ st K (.b2s x)=onL (x.ev σ) fun _ rows=>onO (bytesOf rows) fun l=>K (.s l) st:=by
  simp only [WOp,aexec,apure]
  cases x.ev σ<;>try rfl
  simp only [onO_map,onL_sl]
theorem WOp_slS (x:Opd) (lo hi:Option Opd):WOp prog d site ver σ st K (.slS x lo hi)=onS (x.ev σ) fun l=>onO (bnds σ l.length l.length lo hi) fun p=>K (.s ((l.drop p.1).take (p.2-p.1))) st:=by
  simp only [WOp,aexec,apure]
  cases x.ev σ<;>try rfl
  simp only [onO_map,onS_s]
theorem WOp_slL (size:Nat) (x:Opd) (lo hi:Option Opd):WOp prog d site ver σ st K (.slL size x lo hi)=onL (x.ev σ) fun _ rows=>(rows.all (·.length==size)=true)∧onO (bnds σ rows.length rows.length lo hi) fun p=>K (.sl .ext ((rows.drop p.1).take (p.2-p.1))) st:=by
  simp only [WOp,aexec,apure]
  cases x.ev σ<;>try rfl
  simp only [onO_map,onL_sl,onO_ite]
theorem WOp_call (f:Nat) (args:List Opd):WOp prog d site ver σ st K (.call false f args)=onO (AV.strips (evs σ args)) fun vs=>WC prog f vs fun r=>onO r.strip fun r'=>K r' st:=rfl
theorem WOp_callp (f:Nat) (args:List Opd):WOp prog d site ver σ st K (.call true f args)=WF prog (d+1) f (evs σ args) st K:=rfl
theorem WOp_app (size bytes:Nat) (s x:Opd):WOp prog d site ver σ st K (.app size bytes s x)=onL (x.ev σ) fun _ news=>onO (aapp (d,site) ver size bytes (s.ev σ) news st) fun r=>K r.1 r.2:=by
  simp only [WOp,aexec]
  cases x.ev σ<;>rfl
theorem WOp_appS (s x:Opd):WOp prog d site ver σ st K (.appS s x)=onS (x.ev σ) fun l=>onO (aapp (d,site) ver 1 1 (s.ev σ) (l.map row8) st) fun r=>K r.1 r.2:=by
  simp only [WOp,aexec]
  cases x.ev σ<;>rfl
end
end
section
variable (k:IntKind) (a b:Int)
theorem abin_add:abin .add (.i k a) (.i k b)=some (.i k (k.wrap (a+b))):=by simp [abin,aint]
theorem abin_sub:abin .sub (.i k a) (.i k b)=some (.i k (k.wrap (a-b))):=by simp [abin,aint]
theorem abin_mul:abin .mul (.i k a) (.i k b)=some (.i k (k.wrap (a*b))):=by simp [abin,aint]
theorem abin_quo:abin .quo (.i k a) (.i k b)=if b=0 then none else some (.i k (k.wrap (a.tdiv b))):=by simp [abin,aint]
theorem abin_and:abin .and (.i k a) (.i k b)=some (.i k (k.wrap (BitVec.ofInt k.bits a &&& BitVec.ofInt k.bits b).toNat)):=by simp [abin,aint]
theorem abin_eql:abin .eql (.i k a) (.i k b)=some (.b (decide (a=b))):=by simp [abin,aint,BEq.beq]
theorem abin_neq:abin .neq (.i k a) (.i k b)=some (.b (decide (a≠b))):=by simp [abin,aint,bne,BEq.beq]
theorem abin_lss:abin .lss (.i k a) (.i k b)=some (.b (decide (a<b))):=by simp [abin,aint]
theorem abin_leq:abin .leq (.i k a) (.i k b)=some (.b (decide (a≤b))):=by simp [abin,aint]
theorem abin_gtr:abin .gtr (.i k a) (.i k b)=some (.b (decide (a>b))):=by simp [abin,aint]
theorem abin_geq:abin .geq (.i k a) (.i k b)=some (.b (decide (a≥b))):=by simp [abin,aint]
theorem abin_shr (k':IntKind):abin .shr (.i k a) (.i k' b)=if b<0 then none else some (.i k (a.fdiv (2 ^ (min b.toNat k.bits)))):=by simp [abin,ashift]
theorem abin_cat (x y:List UInt8):abin .add (.s x) (.s y)=if x.length+y.length≤maxStr then some (.s (x++y)) else none:=by simp [abin]
theorem abin_seq (x y:List UInt8):abin .eql (.s x) (.s y)=some (.b (decide (x=y))):=by
  simp only [abin]
  congr 2
  rw [Bool.eq_iff_iff]
  simp
theorem abin_sne (x y:List UInt8):abin .neq (.s x) (.s y)=some (.b (decide (x≠y))):=by
  simp only [abin]
  congr 2
  rw [Bool.eq_iff_iff]
  simp
end
theorem wr_i64 {z:Int} (h:-9223372036854775808≤z) (h':z<9223372036854775808):IntKind.i64.wrap z=z:=by
  rw [IntKind.wrap_i64]
  omega
theorem wr_u64 {z:Int} (h:0≤z) (h':z<18446744073709551616):IntKind.u64.wrap z=z:=by
  rw [IntKind.wrap_u64]
  omega
theorem wr_u8 {z:Int} (h:0≤z) (h':z<256):IntKind.u8.wrap z=z:=by
  rw [IntKind.wrap_u8]
  omega
def App (ow:List (Key × Nat × Nat)) (o:Own) (n:Nat):Prop:=
  match o with
  | .ext=>False
  | .full=>True
  | .id k v=>lk ow k=some (v,n)∧0<n
def ownKey:Own→Option Key
  | .id k _=>some k
  | _=>none
theorem lk_st' {α:Type} (l:List (Key × α)) (k:Key) (a:α) (k':Key):lk (st_ l k a) k'=if k=k' then some a else lk l k':=by
  induction l with
  | nil=>simp [st_,lk]
  | cons x r ih=>
    obtain ⟨k1,b⟩:=x
    simp only [st_]
    split
    · rename_i h;subst h;simp only [lk];split<;>rfl
    · rename_i h
      simp only [lk]
      split
      · rename_i h2;subst h2;rw [if_neg (fun e=>h e.symm)]
      · rw [ih]
theorem lk_del' {α:Type} (l:List (Key × α)) (k k':Key):lk (del l k) k'=if k'=k then none else lk l k':=by
  induction l with
  | nil=>simp [del,lk]
  | cons x r ih=>
    obtain ⟨k1,b⟩:=x
    unfold del at ih ⊢
    simp only [List.filter_cons]
    by_cases h:k1=k
    · subst h
      simp only [ne_eq,not_true_eq_false,decide_false,Bool.false_eq_true,if_false,ih,lk]
      split
      · rfl
      · rename_i h;rw [if_neg (fun e=>h e.symm)]
    · simp only [ne_eq,h,not_false_eq_true,decide_true,if_true,lk]
      split
      · rename_i h2;subst h2;rw [if_neg h]
      · exact ih
theorem aapp_app {key:Key} {ver size bytes:Nat} {o:Own} {rows news:List (List AV)} {st:St} (hs:key.2<bigSite∨∀k v,o=.id k v→bigSite≤k.2) (ha:App st.ow o rows.length) (h1:(rows.length+news.length)*bytes≤maxBytes) (h2:rows.length+news.length≤maxBytes) (h3:0<size) (h4:(rows.all (·.length==size))=true) (h5:(news.all (·.length==size))=true)
    {K:AV→St→Prop} (hK :∀o' ow',App ow' o' (rows++news).length→(∀k,some k≠ownKey o→k≠key→lk ow' k=lk st.ow k)→(ownKey o'=ownKey o∨ownKey o'=some key)→K (.sl o' (rows++news)) ⟨st.nx,st.bx,ow'⟩):onO (aapp key ver size bytes (.sl o rows) news st) fun r=>K r.1 r.2:=by
  simp only [aapp]
  rw [if_pos ⟨h1,h2,h3,h4,h5⟩]
  by_cases hn:news.isEmpty=true
  · rw [if_pos hn,onO_some]
    have:news=[]:=by simpa using hn
    subst this
    have:=hK o st.ow (by rw [List.append_nil];cases o<;>exact ha) (fun _ _ _=>rfl) (.inl rfl)
    rwa [List.append_nil] at this
  · rw [if_neg hn]
    have hpos:0<(rows++news).length:=by
      cases news with
      | nil=>simp at hn
      | cons=>simp;omega
    cases o with
    | ext=>exact ha.elim
    | full=>
      simp only [onO_some]
      refine hK (.id key ver) _ ⟨by rw [lk_st',if_pos rfl,List.length_append],hpos⟩ (fun k _ hk=>by rw [lk_st',if_neg (fun e=>hk e.symm)]) (.inr rfl)
    | id k v=>
      obtain ⟨ha1,ha2⟩:=ha
      have hs':key.2<bigSite∨bigSite≤k.2:=hs.imp_right fun h=>h k v rfl
      simp only [ha1,true_and,ha2,hs',and_self,if_true,onO_some]
      refine hK (.id key ver) _ ⟨by rw [lk_st',if_pos rfl,List.length_append],hpos⟩ (fun k' hk1 hk2=>?_) (.inr rfl)
      rw [lk_st',if_neg (fun e=>hk2 e.symm),lk_del',if_neg (fun e=>hk1 (by rw [e];rfl))]
theorem WOp_app_ok {prog:Prog} {d site ver size bytes:Nat} {σ:Sl} {st:St} {s x:Opd} {o o2:Own} {rows news:List (List AV)} (hb:site<bigSite) (hs:s.ev σ=.sl o rows) (hx:x.ev σ=.sl o2 news) (ha:App st.ow o rows.length) (h1:(rows.length+news.length)*bytes≤maxBytes) (h2:rows.length+news.length≤maxBytes) (h3:0<size) (h4:(rows.all (·.length==size))=true) (h5:(news.all (·.length==size))=true)
    {K:AV→St→Prop} (hK :∀o' ow',App ow' o' (rows++news).length→(∀k,some k≠ownKey o→k≠(d,site)→lk ow' k=lk st.ow k)→(ownKey o'=ownKey o∨ownKey o'=some (d,site))→K (.sl o' (rows++news)) ⟨st.nx,st.bx,ow'⟩):WOp prog d site ver σ st K (.app size bytes s x):=by
  rw [WOp_app,hx,onL_sl,hs]
  exact aapp_app (.inl hb) ha h1 h2 h3 h4 h5 hK
def bs (l:List UInt8):List (List AV):=l.map row8
theorem bytesOf_bs :∀(l:List UInt8),bytesOf (bs l)=some l
  | []=>rfl
  | c::l=>by
    have ih:=bytesOf_bs l
    unfold bs at ih ⊢
    have hc:(c.toNat:Int)<256:=by have:=c.toNat_lt;omega
    have hc':(0:Int)≤c.toNat:=by omega
    simp only [List.map_cons,bytesOf,byteOf,row8,ih,hc,hc',and_self,if_true]
    simp
section
variable {prog:Prog} {d id base i site ver:Nat} {st:St}
end
end Go.AM

namespace Go.AM
open Go
def up (σ:Sl) (d:Nat) (v:AV):Sl:=fun t=>cond (Nat.beq t d) v (σ t)
theorem up_eq (σ:Sl) (d:Nat) (v:AV):upd σ d v=up σ d v:=by
 funext t
 unfold upd up
 by_cases h:t=d
 ·rw [if_pos h,h,Nat.beq_refl];rfl
 ·rw [if_neg h]
  have:Nat.beq t d=false:=by
   cases hb:Nat.beq t d with
   | false=>rfl
   | true=>exact absurd (Nat.eq_of_beq_eq_true hb) h
  rw [this];rfl
def upO (σ:Sl) (d:Option Nat) (v:AV):Sl:=match d with | some d=>up σ d v | none=>σ
theorem upO_eq (σ:Sl) (d:Option Nat) (v:AV):updO σ d v=upO σ d v:=by cases d<;>simp [updO,upO,up_eq]
def Pus (prog:Prog) (f:Nat) (args:List AV) (r:AV):Prop:=∃r',Pu prog f args r'∧r'.strip=some r
theorem Pus.det {prog:Prog} {f:Nat} {args:List AV} {r r':AV} (h:Pus prog f args r) (k:Pus prog f args r'):r=r':=by
 obtain ⟨a,h1,h2⟩:=h
 obtain ⟨b,h3,h4⟩:=k
 rw [h1.det h3,h4] at h2
 injection h2 with h2
 exact h2.symm
def rep {α:Type} (n:Nat) (a:α):List α:=List.replicate n a
attribute [irreducible] rep
def Fit (n bytes:Nat):Prop:=n*bytes≤maxBytes∧n≤maxBytes
def PuA (prog:Prog) (f:Nat) (rows:List (List AV)) (args:List AV) (rows':List (List AV)):Prop:=
 ∀d st o,App st.ow o rows.length→∃o' st',Fn prog d f (.sl o rows::args) st (.sl o' rows') st'∧App st'.ow o' rows'.length
section
variable {prog:Prog} {d id base i:Nat} {σ:Sl} {st:St} {K:Sl→St→Prop} {r:List AI} {t:Option Nat} {x y:Opd}
theorem s_nil (h:K σ st):WO prog d id base i [] σ st K:=h
theorem s_one {op:AOp} (h:WOp prog d (id*4096+i) (base+i) σ st (fun v st'=>WO prog d id base (i+1) r (upO σ t v) st' K) op):WO prog d id base i (⟨t,op,none⟩::r) σ st K:=by
 show WOp prog d (id*4096+i) (base+i) σ st (fun v st'=>WO prog d id base (i+1) r (updO σ t v) st' K) op
 simp only [upO_eq]
 exact h
theorem s_pure {op:AOp} {v:AV} (hv :∀K:AV→St→Prop,WOp prog d (id*4096+i) (base+i) σ st K op=K v st) (h:WO prog d id base (i+1) r (upO σ t v) st K):WO prog d id base i (⟨t,op,none⟩::r) σ st K:=by
 refine s_one ?_
 rw [hv]
 exact h
theorem s_mv {v:AV} (hx:x.ev σ=v) (h:WO prog d id base (i+1) r (upO σ t v) st K):WO prog d id base i (⟨t,.mv x,none⟩::r) σ st K:=
 s_pure (fun K=>by rw [WOp_mv,hx]) h
theorem s_bin {op:BinOp} {a b v:AV} (hx:x.ev σ=a) (hy:y.ev σ=b) (hv:abin op a b=some v) (h:WO prog d id base (i+1) r (upO σ t v) st K):WO prog d id base i (⟨t,.bin op x y,none⟩::r) σ st K:=
 s_pure (fun K=>by rw [WOp_bin,hx,hy,hv,onO_some]) h
theorem s_bne {a b:Bool} (hx:x.ev σ=.b a) (hy:y.ev σ=.b b) (h:WO prog d id base (i+1) r (upO σ t (.b (decide (a≠b)))) st K):WO prog d id base i (⟨t,.beq true x y,none⟩::r) σ st K:=
 s_pure (fun K=>by
  simp only [WOp,aexec,apure,hx,hy,Option.map_some,onO_some]
  cases a<;>cases b<;>rfl) h
theorem s_not {a:Bool} (hx:x.ev σ=.b a) (h:WO prog d id base (i+1) r (upO σ t (.b (!a))) st K):WO prog d id base i (⟨t,.un .not x,none⟩::r) σ st K:=
 s_pure (fun K=>by simp only [WOp,aexec,apure,hx,Option.map_some,onO_some]) h
theorem s_notp {p:Prop} [Decidable p] (hx:x.ev σ=.b (decide p)) (h:WO prog d id base (i+1) r (upO σ t (.b (decide (¬p)))) st K):WO prog d id base i (⟨t,.un .not x,none⟩::r) σ st K:=
 s_not hx (by rw [← decide_not];exact h)
theorem s_neg {k:IntKind} {n:Int} (hx:x.ev σ=.i k n) (h:WO prog d id base (i+1) r (upO σ t (.i k (k.wrap (0-n)))) st K):WO prog d id base i (⟨t,.un .neg x,none⟩::r) σ st K:=
 s_pure (fun K=>by simp only [WOp,aexec,apure,hx,Option.map_some,onO_some]) h
theorem s_lenS {l:List UInt8} (hx:x.ev σ=.s l) (h:WO prog d id base (i+1) r (upO σ t (.i .i64 (l.length:Int))) st K):WO prog d id base i (⟨t,.len true x,none⟩::r) σ st K:=
 s_pure (fun K=>by rw [WOp_lenS,hx,onS_s]) h
theorem s_lenL {α:Type} {f:α→List AV} {l:List α} {o:Own} (hx:x.ev σ=.sl o (l.map f)) (h:WO prog d id base (i+1) r (upO σ t (.i .i64 (l.length:Int))) st K):WO prog d id base i (⟨t,.len false x,none⟩::r) σ st K:=
 s_pure (fun K=>by rw [WOp_lenL,hx,onL_sl,List.length_map]) h
theorem s_ixS {l:List UInt8} {k:IntKind} {n:Int} {c:UInt8} (hx:x.ev σ=.s l) (hy:y.ev σ=.i k n) (h0:0≤n) (hc:l[n.toNat]?=some c) (h:WO prog d id base (i+1) r (upO σ t (.i .u8 (c.toNat:Int))) st K):WO prog d id base i (⟨t,.ixS x y,none⟩::r) σ st K:=
 s_pure (fun K=>by rw [WOp_ixS,hx,onS_s,hy,onN_pos _ _ _ h0,hc,onO_some]) h
theorem s_cvi {k k':IntKind} {n:Int} (hx:x.ev σ=.i k' n) (h:WO prog d id base (i+1) r (upO σ t (.i k (k.wrap n))) st K):WO prog d id base i (⟨t,.cvi k x,none⟩::r) σ st K:=
 s_pure (fun K=>by rw [WOp_cvi,hx,onI_i]) h
theorem s_b2s {l:List UInt8} {o:Own} (hx:x.ev σ=.sl o (l.map row8)) (h:WO prog d id base (i+1) r (upO σ t (.s l)) st K):WO prog d id base i (⟨t,.b2s x,none⟩::r) σ st K:=
 s_pure (fun K=>by
  have:=bytesOf_bs l
  unfold bs at this
  rw [WOp_b2s,hx,onL_sl,this,onO_some]) h
theorem s_ext {k:Nat} {vs:List AV} {v:AV} (hx:x.ev σ=.tup vs) (hv:vs[k]?=some v) (h:WO prog d id base (i+1) r (upO σ t v) st K):WO prog d id base i (⟨t,.ext k x,none⟩::r) σ st K:=
 s_pure (fun K=>by rw [WOp_ext,hx,onT_tup,hv,onO_some]) h
theorem s_slS_lo {z:Opd} {l:List UInt8} {k:IntKind} {n:Int} (hx:x.ev σ=.s l) (hz:z.ev σ=.i k n) (h0:0≤n) (h1:n.toNat≤l.length) (h:WO prog d id base (i+1) r (upO σ t (.s (l.drop n.toNat))) st K):WO prog d id base i (⟨t,.slS x (some z) none,none⟩::r) σ st K:=
 s_pure (fun K=>by
  rw [WOp_slS,hx,onS_s]
  have hb:bnds σ l.length l.length (some z) none=some (n.toNat,l.length):=by
   simp only [bnds,hz,AV.nat,h0,if_true]
   rw [if_pos ⟨h1,Nat.le_refl _⟩]
  rw [hb,onO_some]
  simp only
  rw [List.take_of_length_le (by simp)]) h
theorem s_slS_hi {z:Opd} {l:List UInt8} {k:IntKind} {n:Int} (hx:x.ev σ=.s l) (hz:z.ev σ=.i k n) (h0:0≤n) (h1:n.toNat≤l.length) (h:WO prog d id base (i+1) r (upO σ t (.s (l.take n.toNat))) st K):WO prog d id base i (⟨t,.slS x none (some z),none⟩::r) σ st K:=
 s_pure (fun K=>by
  rw [WOp_slS,hx,onS_s]
  have hb:bnds σ l.length l.length none (some z)=some (0,n.toNat):=by
   simp only [bnds,hz,AV.nat,h0,if_true]
   rw [if_pos ⟨Nat.zero_le _,h1⟩]
  rw [hb,onO_some]
  simp only [List.drop_zero,Nat.sub_zero]) h
theorem s_slS {z z':Opd} {l:List UInt8} {k k':IntKind} {n m:Int} (hx:x.ev σ=.s l) (hz:z.ev σ=.i k n) (hz':z'.ev σ=.i k' m) (h0:0≤n) (h1:n≤m) (h2:m.toNat≤l.length) (h:WO prog d id base (i+1) r (upO σ t (.s ((l.drop n.toNat).take (m.toNat-n.toNat)))) st K):WO prog d id base i (⟨t,.slS x (some z) (some z'),none⟩::r) σ st K:=
 s_pure (fun K=>by
  rw [WOp_slS,hx,onS_s]
  have hb:bnds σ l.length l.length (some z) (some z')=some (n.toNat,m.toNat):=by
   simp only [bnds,hz,hz',AV.nat,h0,show (0:Int)≤m by omega,if_true]
   rw [if_pos ⟨by omega,h2⟩]
  rw [hb,onO_some]) h
theorem s_slL_lo {α:Type} {f:α→List AV} {l:List α} {o:Own} {size:Nat} {z:Opd} {k:IntKind} {n:Int} (hf :∀a,(f a).length=size) (hx:x.ev σ=.sl o (l.map f)) (hz:z.ev σ=.i k n) (h0:0≤n) (h1:n.toNat≤l.length) (h:WO prog d id base (i+1) r (upO σ t (.sl .ext ((l.drop n.toNat).map f))) st K):WO prog d id base i (⟨t,.slL size x (some z) none,none⟩::r) σ st K:=
 s_pure (fun K=>by
  rw [WOp_slL,hx,onL_sl]
  have hb:bnds σ (l.map f).length (l.map f).length (some z) none=some (n.toNat,(l.map f).length):=by
   simp only [bnds,hz,AV.nat,h0,if_true]
   rw [if_pos ⟨by simpa using h1,Nat.le_refl _⟩]
  have hall:((l.map f).all fun c=>c.length==size)=true:=by simp [hf]
  rw [hb,onO_some]
  simp only [hall,true_and]
  rw [List.take_of_length_le (by simp),List.map_drop]) h
theorem s_slL_hi {α:Type} {f:α→List AV} {l:List α} {o:Own} {size:Nat} {z:Opd} {k:IntKind} {n:Int} (hf :∀a,(f a).length=size) (hx:x.ev σ=.sl o (l.map f)) (hz:z.ev σ=.i k n) (h0:0≤n) (h1:n.toNat≤l.length) (h:WO prog d id base (i+1) r (upO σ t (.sl .ext ((l.take n.toNat).map f))) st K):WO prog d id base i (⟨t,.slL size x none (some z),none⟩::r) σ st K:=
 s_pure (fun K=>by
  rw [WOp_slL,hx,onL_sl]
  have hb:bnds σ (l.map f).length (l.map f).length none (some z)=some (0,n.toNat):=by
   simp only [bnds,hz,AV.nat,h0,if_true]
   rw [if_pos ⟨Nat.zero_le _,by simpa using h1⟩]
  have hall:((l.map f).all fun c=>c.length==size)=true:=by simp [hf]
  rw [hb,onO_some]
  simp only [hall,true_and,List.drop_zero,Nat.sub_zero,List.map_take]) h
theorem s_slL {α:Type} {f:α→List AV} {l:List α} {o:Own} {size:Nat} {z z':Opd} {k k':IntKind} {n m:Int} (hf :∀a,(f a).length=size) (hx:x.ev σ=.sl o (l.map f)) (hz:z.ev σ=.i k n) (hz':z'.ev σ=.i k' m) (h0:0≤n) (h1:n≤m) (h2:m.toNat≤l.length) (h:WO prog d id base (i+1) r (upO σ t (.sl .ext (((l.drop n.toNat).take (m.toNat-n.toNat)).map f))) st K):WO prog d id base i (⟨t,.slL size x (some z) (some z'),none⟩::r) σ st K:=
 s_pure (fun K=>by
  rw [WOp_slL,hx,onL_sl]
  have hb:bnds σ (l.map f).length (l.map f).length (some z) (some z')=some (n.toNat,m.toNat):=by
   simp only [bnds,hz,hz',AV.nat,h0,show (0:Int)≤m by omega,if_true]
   rw [if_pos ⟨by omega,by simpa using h2⟩]
  have hall:((l.map f).all fun c=>c.length==size)=true:=by simp [hf]
  rw [hb,onO_some]
  simp only [hall,true_and,List.map_take,List.map_drop]) h
theorem s_fld {off n:Nat} {agg:Bool} {cs:List AV} {v:AV} (hx:x.ev σ=.ag cs) (hn:Nat.ble (off+n) cs.length=true) (hv:ofCells agg ((cs.drop off).take n)=some v) (h:WO prog d id base (i+1) r (upO σ t v) st K):WO prog d id base i (⟨t,.fld off n agg x,none⟩::r) σ st K:=
 s_pure (fun K=>by simp only [WOp,aexec,apure,hx,Nat.le_of_ble_eq_true hn,if_true,hv,Option.map_some,onO_some]) h
theorem s_build {zero:List AV} {parts:List (Nat × Nat × Opd)} {cs:List AV} (hp:fillCells σ zero parts=some cs) (h:WO prog d id base (i+1) r (upO σ t (.ag cs)) st K):WO prog d id base i (⟨t,.build zero parts,none⟩::r) σ st K:=
 s_pure (fun K=>by simp only [WOp,aexec,apure,hp,Option.map_some,onO_some]) h
theorem f_nil {cs:List AV}:fillCells σ cs []=some cs:=rfl
theorem f_cons {cells cs:List AV} {off n:Nat} {v:AV} {ps:List (Nat × Nat × Opd)} (hx:x.ev σ=v) (hc:(Nat.beq v.cells.length n&&Nat.ble (off+n) cells.length&&v.cells.all AV.one)=true) (h:fillCells σ (setAt cells off v.cells) ps=some cs):fillCells σ cells ((off,n,x)::ps)=some cs:=by
 simp only [Bool.and_eq_true] at hc
 simp only [fillCells,hx]
 rw [if_pos ⟨Nat.eq_of_beq_eq_true hc.1.1,Nat.le_of_ble_eq_true hc.1.2,hc.2⟩]
 exact h
theorem s_ixA {α:Type} {f:α→AV} {l:List α} {n:Nat} {k:IntKind} {m:Int} {c:α} (hn:l.length=n) (hx:x.ev σ=.ag (l.map f)) (hy:y.ev σ=.i k m) (h0:0≤m) (hc:l[m.toNat]?=some c) (h:WO prog d id base (i+1) r (upO σ t (f c)) st K):WO prog d id base i (⟨t,.ixA n 1 false x y,none⟩::r) σ st K:=
 s_pure (fun K=>by
  have hl:m.toNat<l.length:=by
   rcases Nat.lt_or_ge m.toNat l.length with h | h
   ·exact h
   ·rw [List.getElem?_eq_none h] at hc;cases hc
  have hd:((l.map f).drop m.toNat).take 1=[f c]:=by
   rw [List.drop_eq_getElem_cons (by simpa using hl)]
   simp only [List.getElem_map,List.take_succ_cons,List.take_zero]
   rw [List.getElem?_eq_getElem hl] at hc
   injection hc with hc
   rw [hc]
  simp only [WOp,aexec,apure,hx,hy,AV.nat,h0,if_true,Nat.mul_one]
  rw [if_pos ⟨by omega,by simp;omega⟩,hd]
  simp only [ofCells,Bool.false_eq_true,if_false,Option.map_some,onO_some]) h
theorem s_bslice {zero z:List AV} {n:Nat} {parts:List (Nat × Opd)} {rows:List (List AV)} (hz:softs zero=some z) (hn:(Nat.blt 0 z.length&&Nat.ble (n*z.length) 65536)=true) (hp:fillRows z σ (List.replicate n z) parts=some rows) (h:WO prog d id base (i+1) r (upO σ t (.sl .full rows)) st K):WO prog d id base i (⟨t,.bslice zero n parts,none⟩::r) σ st K:=
 s_pure (fun K=>by
  simp only [Bool.and_eq_true] at hn
  have h1:0<z.length:=Nat.le_of_ble_eq_true hn.1
  rw [WOp_bslice,hz,onO_some,hp,onO_some]
  simp only [h1,Nat.le_of_ble_eq_true hn.2,and_self,true_and]) h
theorem g_nil {z:List AV} {rows:List (List AV)}:fillRows z σ rows []=some rows:=rfl
theorem g_cons {z:List AV} {rows rows':List (List AV)} {j:Nat} {v:AV} {cs:List AV} {ps:List (Nat × Opd)} (hx:x.ev σ=v) (hc:softs v.cells=some cs) (hn:(Nat.blt j rows.length&&Nat.beq cs.length z.length)=true) (h:fillRows z σ (rows.set j cs) ps=some rows'):fillRows z σ rows ((j,x)::ps)=some rows':=by
 simp only [Bool.and_eq_true] at hn
 have h1:j<rows.length:=Nat.le_of_ble_eq_true hn.1
 simp only [fillRows,hx,hc]
 rw [if_pos ⟨h1,Nat.eq_of_beq_eq_true hn.2⟩]
 exact h
theorem s_iaL {α:Type} {f:α→List AV} {l:List α} {o:Own} {size:Nat} {k:IntKind} {n:Int} {c:α} {cs:List AV} (hx:x.ev σ=.sl o (l.map f)) (hy:y.ev σ=.i k n) (h0:0≤n) (hc:l[n.toNat]?=some c) (hf:f c=cs) (hs:(Nat.beq cs.length size&&Nat.blt 0 size)=true) (h:WO prog d id base (i+1) r (upO σ t (.fp cs)) st K):WO prog d id base i (⟨t,.iaL size x y,none⟩::r) σ st K:=
 s_pure (fun K=>by
  simp only [Bool.and_eq_true] at hs
  have h1:0<size:=Nat.le_of_ble_eq_true hs.2
  have h2:(l.map f)[n.toNat]?=some cs:=by rw [List.getElem?_map,hc,Option.map_some,hf]
  simp only [WOp,aexec,apure,hx,hy,AV.nat,h0,if_true,h2]
  rw [if_pos ⟨Nat.eq_of_beq_eq_true hs.1,h1⟩,Option.map_some,onO_some]) h
theorem s_loadF {n:Nat} {agg:Bool} {cs:List AV} {v:AV} (hx:x.ev σ=.fp cs) (hn:Nat.ble n cs.length=true) (hv:ofCells agg (cs.take n)=some v) (h:WO prog d id base (i+1) r (upO σ t v) st K):WO prog d id base i (⟨t,.load n agg x,none⟩::r) σ st K:=
 s_pure (fun K=>by simp only [WOp,aexec,aload,hx,Nat.le_of_ble_eq_true hn,if_true,hv,Option.map_some,onO_some]) h
theorem s_ldf {n:Nat} {agg:Bool} {cs:List AV} {v:AV} (hx:x.ev σ=.fp cs) (hn:Nat.ble n cs.length=true) (hv:ofCells agg (cs.take n)=some v) (h:WO prog d id base (i+1) r (upO σ t v) st K):WO prog d id base i (⟨t,.ldf n agg x,none⟩::r) σ st K:=
 s_pure (fun K=>by simp only [WOp,aexec,apure,hx,Nat.le_of_ble_eq_true hn,if_true,hv,Option.map_some,onO_some]) h
theorem s_fadF {off:Nat} {cs:List AV} (hx:x.ev σ=.fp cs) (h:WO prog d id base (i+1) r (upO σ t (.fp (cs.drop off))) st K):WO prog d id base i (⟨t,.fad off x,none⟩::r) σ st K:=
 s_pure (fun K=>by simp only [WOp,aexec,apure,hx,Option.map_some,onO_some]) h
theorem s_nilF {cs:List AV} (hx:x.ev σ=.fp cs) (h:WO prog d id base (i+1) r (upO σ t (.fp cs)) st K):WO prog d id base i (⟨t,.nilc x,none⟩::r) σ st K:=
 s_pure (fun K=>by simp only [WOp,aexec,apure,hx,Option.map_some,onO_some]) h
theorem s_alloc {zero:List AV} (h:WO prog d id base (i+1) r (upO σ t (.p (d,id*4096+i) (base+i) 0)) st K):WO prog d id base i (⟨t,.alloc zero,none⟩::r) σ st K:=
 s_pure (fun _=>rfl) h
theorem s_fadP {off o v:Nat} {k:Key} (hx:x.ev σ=.p k v o) (h:WO prog d id base (i+1) r (upO σ t (.p k v (o+off))) st K):WO prog d id base i (⟨t,.fad off x,none⟩::r) σ st K:=
 s_pure (fun K=>by simp only [WOp,aexec,apure,hx,Option.map_some,onO_some]) h
theorem s_nilP {o v:Nat} {k:Key} (hx:x.ev σ=.p k v o) (h:WO prog d id base (i+1) r (upO σ t (.p k v o)) st K):WO prog d id base i (⟨t,.nilc x,none⟩::r) σ st K:=
 s_pure (fun K=>by simp only [WOp,aexec,apure,hx,Option.map_some,onO_some]) h
theorem s_loadP {n o v:Nat} {agg:Bool} {k:Key} {cs:List AV} {w:AV} (hx:x.ev σ=.p k v o) (hb:lk st.bx k=some (v,cs)) (hn:Nat.ble (o+n) cs.length=true) (hv:ofCells agg ((cs.drop o).take n)=some w) (h:WO prog d id base (i+1) r (upO σ t w) st K):WO prog d id base i (⟨t,.load n agg x,none⟩::r) σ st K:=
 s_pure (fun K=>by simp only [WOp,aexec,aload,hx,hb,Nat.le_of_ble_eq_true hn,and_self,if_true,hv,Option.map_some,onO_some]) h
theorem s_storeP {n o v:Nat} {k:Key} {cs cs':List AV} {w:AV} (hx:x.ev σ=.p k v o) (hb:lk st.bx k=some (v,cs)) (hy:y.ev σ=w) (hn:(Nat.ble (o+n) cs.length&&Nat.beq w.cells.length n&&w.cells.all AV.one)=true) (hs:setAt cs o w.cells=cs') (h:WO prog d id base (i+1) r (upO σ t (.tup [])) { st with bx:=st_ st.bx k (v,cs') } K) (hok:okSt k w=true:=by first | rfl | exact okSt_r rfl):WO prog d id base i (⟨t,.store n x y,none⟩::r) σ st K:=by
 refine s_one ?_
 simp only [Bool.and_eq_true] at hn
 simp only [WOp,aexec,astore,hx,hb,hy]
 rw [if_pos ⟨trivial,Nat.le_of_ble_eq_true hn.1.1,Nat.eq_of_beq_eq_true hn.1.2,hn.2,hok⟩,hs]
 simp only [Option.map_some,onO_some]
 exact h
theorem s_mkfz {f v:Nat} {k:Key} {cs cs' A B:List AV} {a b:List Opd} (ha:a.map (·.ev σ)=A) (hx:x.ev σ=.p k v 0) (hb:b.map (·.ev σ)=B) (hk:lk st.bx k=some (v,cs)) (hs:softs cs=some cs') (h:WO prog d id base (i+1) r (upO σ t (.fn f (A++.fp cs'::B))) { st with bx:=del st.bx k } K):WO prog d id base i (⟨t,.mkfz f a x b,none⟩::r) σ st K:=by
 refine s_one ?_
 simp only [WOp,aexec,hx,hk,hs,ha,hb,if_true,onO_some]
 exact h
theorem s_aeqN {ks:List Nat} {cs ds:List AV} {b:Bool} {y:Opd} (hx:x.ev σ=.ag cs) (hy:y.ev σ=.ag ds) (hb:cellsEq ks cs ds=some b) (h:WO prog d id base (i+1) r (upO σ t (.b (!b))) st K):WO prog d id base i (⟨t,.aeq true ks x y,none⟩::r) σ st K:=
 s_pure (fun K=>by simp only [WOp,aexec,apure,hx,hy,hb,Option.map_some,onO_some,if_true]) h
theorem s_lkp {l:List (List UInt8 × Int)} {s:List UInt8} {y:Opd} (hx:x.ev σ=.mp l) (hy:y.ev σ=.s s) (h:WO prog d id base (i+1) r (upO σ t (.i .u8 (mpAt l s))) st K):WO prog d id base i (⟨t,.lkp x y,none⟩::r) σ st K:=
 s_pure (fun K=>by simp only [WOp,aexec,apure,hx,hy,Option.map_some,onO_some]) h
theorem s_boxf {n:Nat} {v:AV} {cs:List AV} (hx:x.ev σ=v) (hn:Nat.beq v.cells.length n=true) (hs:softs v.cells=some cs) (h:WO prog d id base (i+1) r (upO σ t (.fp cs)) st K):WO prog d id base i (⟨t,.boxf n x,none⟩::r) σ st K:=
 s_pure (fun K=>by simp only [WOp,aexec,apure,hx,Nat.eq_of_beq_eq_true hn,if_true,hs,Option.map_some,onO_some]) h
theorem s_box {n:Nat} {v:AV} (hx:x.ev σ=v) (hn:(Nat.beq v.cells.length n&&v.cells.all AV.one)=true) (h:WO prog d id base (i+1) r (upO σ t (.p (d,id*4096+i) (base+i) 0)) { st with bx:=st_ st.bx (d,id*4096+i) (base+i,v.cells) } K):WO prog d id base i (⟨t,.box n x,none⟩::r) σ st K:=by
 refine s_one ?_
 simp only [Bool.and_eq_true] at hn
 simp only [WOp,aexec,hx]
 rw [if_pos ⟨Nat.eq_of_beq_eq_true hn.1,hn.2⟩,onO_some]
 exact h
theorem s_iaP {n size o v:Nat} {k:Key} {k':IntKind} {m:Int} (hx:x.ev σ=.p k v o) (hy:y.ev σ=.i k' m) (h0:0≤m) (h1:m.toNat<n) (h:WO prog d id base (i+1) r (upO σ t (.p k v (o+m.toNat*size))) st K):WO prog d id base i (⟨t,.iaA n size x y,none⟩::r) σ st K:=
 s_pure (fun K=>by
  simp only [WOp,aexec,apure,hx,hy,AV.nat,h0,if_true,h1,Option.map_some,onO_some]) h
theorem s_app {α:Type} {f:α→List AV} {size bytes:Nat} {l m:List α} {o o2:Own} (hf :∀a,(f a).length=size) (hsz:Nat.blt 0 size=true) (hx:x.ev σ=.sl o (l.map f)) (hy:y.ev σ=.sl o2 (m.map f)) (ha:App st.ow o l.length) (hs:Fit (l.length+m.length) bytes) (hb:Nat.blt (id*4096+i) bigSite=true)
  (h :∀o' ow',App ow' o' (l++m).length→(∀k,some k≠ownKey o→k≠(d,id*4096+i)→lk ow' k=lk st.ow k)→(ownKey o'=ownKey o∨ownKey o'=some (d,id*4096+i))→WO prog d id base (i+1) r (upO σ t (.sl o' ((l++m).map f))) ⟨st.nx,st.bx,ow'⟩ K):WO prog d id base i (⟨t,.app size bytes x y,none⟩::r) σ st K:=by
 refine s_one ?_
 have h1:0<size:=Nat.le_of_ble_eq_true hsz
 refine WOp_app_ok (Nat.le_of_ble_eq_true hb) hx hy (by simpa using ha) (by simpa using hs.1) (by simpa using hs.2) h1 (by simp [hf]) (by simp [hf]) fun o' ow' h2 h3 h4=>?_
 rw [← List.map_append] at h2 ⊢
 exact h o' ow' (by simpa using h2) h3 h4
theorem sn:AV.strips (evs σ [])=some []:=rfl
theorem sc {v w:AV} {xs:List Opd} {ws:List AV} (hx:x.ev σ=v) (hw:v.strip=some w) (h:AV.strips (evs σ xs)=some ws):AV.strips (evs σ (x::xs))=some (w::ws):=by
 simp only [evs,AV.strips,hx,hw,h]
theorem s_call {f:Nat} {args:List Opd} {vs:List AV} {v:AV} (hs:AV.strips (evs σ args)=some vs) (hp:Pus prog f vs v) (h:WO prog d id base (i+1) r (upO σ t v) st K):WO prog d id base i (⟨t,.call false f args,none⟩::r) σ st K:=by
 refine s_one ?_
 obtain ⟨r',h1,h2⟩:=hp
 rw [WOp_call,hs,onO_some,WC_eq h1,h2,onO_some]
 exact h
theorem sen:evs σ []=[]:=rfl
theorem sec {v:AV} {xs:List Opd} {vs:List AV} (hx:x.ev σ=v) (h:evs σ xs=vs):evs σ (x::xs)=v::vs:=by simp only [evs,hx,h]
theorem s_callA {f:Nat} {args:List Opd} {vs:List AV} {o:Own} {rows rows':List (List AV)} (hs:evs σ args=.sl o rows::vs) (hp:PuA prog f rows vs rows') (ha:App st.ow o rows.length)
  (h :∀o' st',App st'.ow o' rows'.length→WO prog d id base (i+1) r (upO σ t (.sl o' rows')) st' K):WO prog d id base i (⟨t,.call true f args,none⟩::r) σ st K:=by
 refine s_one ?_
 obtain ⟨o',st',h1,h2⟩:=hp (d+1) st o ha
 rw [WOp_callp,hs]
 exact ⟨_,_,h1,h o' st' h2⟩
section
variable {dst:Option Nat} {op:AOp} {g:Nat} {w:Bool}
theorem s_gy (hg:σ g=.b w) (h:WO prog d id base i (⟨dst,op,none⟩::r) σ st K):WO prog d id base i (⟨dst,op,some (g,w)⟩::r) σ st K:=by
 show W1 prog d _ _ ⟨dst,op,some (g,w)⟩ σ st _
 rw [W1_some,hg]
 cases w<;>exact h
theorem s_gn {b:Bool} (hg:σ g=.b b) (hb:(b != w)=true) (h:WO prog d id base (i+1) r (upO σ dst (.tup [])) st K):WO prog d id base i (⟨dst,op,some (g,w)⟩::r) σ st K:=by
 show W1 prog d _ _ ⟨dst,op,some (g,w)⟩ σ st _
 rw [← upO_eq] at h
 rw [W1_some,hg]
 cases w<;>cases b<;>first | exact absurd hb (by decide) | exact h
theorem s_gt (hg:σ g=.tup []) (h:WO prog d id base (i+1) r (upO σ dst (.tup [])) st K):WO prog d id base i (⟨dst,op,some (g,w)⟩::r) σ st K:=by
 show W1 prog d _ _ ⟨dst,op,some (g,w)⟩ σ st _
 rw [← upO_eq] at h
 rw [W1_some,hg]
 exact h
end
theorem s_em {ops:List AI} {g:Nat} {p:Prop} [Decidable p] (hg:σ g=.b (decide p)) (h1:p→WO prog d id base i ops (up σ g (.b true)) st K) (h2:¬p→WO prog d id base i ops (up σ g (.b false)) st K):WO prog d id base i ops σ st K:=by
 by_cases h:p
 ·have:=h1 h
  rwa [← up_eq,upd_self (by rw [hg,decide_eq_true h])] at this
 ·have:=h2 h
  rwa [← up_eq,upd_self (by rw [hg,decide_eq_false h])] at this
theorem s_emb {ops:List AI} {g:Nat} {b:Bool} (hg:σ g=.b b) (h1:b=true→WO prog d id base i ops (up σ g (.b true)) st K) (h2:b=false→WO prog d id base i ops (up σ g (.b false)) st K):WO prog d id base i ops σ st K:=by
 cases b with
 | true=>have:=h1 rfl;rwa [← up_eq,upd_self hg] at this
 | false=>have:=h2 rfl;rwa [← up_eq,upd_self hg] at this
theorem s_pickT {a b:Opd} {v:AV} (hx:x.ev σ=.b true) (ha:a.ev σ=v) (h:WO prog d id base (i+1) r (upO σ t v) st K):WO prog d id base i (⟨t,.pick x a b,none⟩::r) σ st K:=
 s_pure (fun K=>by rw [WOp_pick,hx,onB_true,ha];rfl) h
theorem s_pickF {a b:Opd} {v:AV} (hx:x.ev σ=.b false) (hb:b.ev σ=v) (h:WO prog d id base (i+1) r (upO σ t v) st K):WO prog d id base i (⟨t,.pick x a b,none⟩::r) σ st K:=
 s_pure (fun K=>by rw [WOp_pick,hx,onB_false,hb];rfl) h
end
section
variable {prog:Prog} {d:Nat} {σ:Sl} {st:St} {Q:AE→Sl→St→Prop}
theorem c_split {c:Opd} {a b:AC} {p:Prop} [Decidable p] (hc:c.ev σ=.b (decide p)) (h1:p→W prog d a σ st Q) (h2:¬p→W prog d b σ st Q):W prog d (.cond c a b) σ st Q:=W.split hc h1 h2
theorem c_bool {c:Opd} {a b:AC} {t:Bool} (hc:c.ev σ=.b t) (h1:t=true→W prog d a σ st Q) (h2:t=false→W prog d b σ st Q):W prog d (.cond c a b) σ st Q:=W.cnd hc h1 h2
theorem c_tt {c:Opd} {a b:AC} (hc:c.ev σ=.b true) (h1:W prog d a σ st Q):W prog d (.cond c a b) σ st Q:=W.tt hc h1
theorem c_ff {c:Opd} {a b:AC} (hc:c.ev σ=.b false) (h1:W prog d b σ st Q):W prog d (.cond c a b) σ st Q:=W.ff hc h1
def endW (d:Nat) (res:List ARes) (K:AV→St→Prop):AE→Sl→St→Prop
 | .normal,σ,st | .ret,σ,st=>∃r,ares σ st res=some r∧K r { st with bx:=st.bx.filter fun x=>x.1.1<d }
 | _,_,_=>False
theorem Fn.of' {f:Nat} {F:AF} {args:List AV} {K:AV→St→Prop} (hf:prog.fn f=some F) (hn:args.length≤F.nt) (h:W prog d F.body (sl0 args) st (endW d F.res K)) :∃r st',Fn prog d f args st r st'∧K r st':=by
 obtain ⟨n,e,σ1,st1,h1,h2⟩:=h
 cases e with
 | normal=>
  obtain ⟨r,h3,h4⟩:=h2
  exact ⟨r,_,⟨n+1,by simp only [acall,hf,if_pos hn,h1,h3,Option.map_some]⟩,h4⟩
 | ret=>
  obtain ⟨r,h3,h4⟩:=h2
  exact ⟨r,_,⟨n+1,by simp only [acall,hf,if_pos hn,h1,h3,Option.map_some]⟩,h4⟩
 | exit id=>exact h2.elim
 | goto l=>exact h2.elim
theorem Pus.of {f:Nat} {F:AF} {args:List AV} {K:AV→Prop} (hf:prog.fn f=some F) (hn:Nat.ble args.length F.nt=true) (h:W prog 0 F.body (sl0 args) st0 (endW 0 F.res fun r _=>∃v,r.strip=some v∧K v)) :∃v,Pus prog f args v∧K v:=by
 obtain ⟨r,st',h1,v,h2,h3⟩:=Fn.of' hf (Nat.le_of_ble_eq_true hn) h
 exact ⟨v,⟨r,⟨st',h1⟩,h2⟩,h3⟩
theorem Pus.orac {f:Nat} {args:List AV} {r v:AV} (hf:prog.fn f=none) (hr:prog.orac f args=some r) (hv:r.strip=some v):Pus prog f args v:=
 ⟨r,⟨st0,1,by simp only [acall,hf,hr,Option.map_some]⟩,hv⟩
end
theorem abin_quo' {k:IntKind} {a b:Int} (h:b≠0):abin .quo (.i k a) (.i k b)=some (.i k (k.wrap (a.tdiv b))):=by rw [abin_quo,if_neg h]
theorem abin_rem' {k:IntKind} {a b:Int} (h:b≠0):abin .rem (.i k a) (.i k b)=some (.i k (a.tmod b)):=by simp [abin,aint,h]
theorem abin_shr' {k k':IntKind} {a b:Int} (h:0≤b):abin .shr (.i k a) (.i k' b)=some (.i k (a.fdiv (2 ^ (min b.toNat k.bits)))):=by rw [abin_shr,if_neg (by omega)]
theorem abin_andNot (k:IntKind) (a b:Int):abin .andNot (.i k a) (.i k b)=some (.i k (k.wrap (BitVec.ofInt k.bits a &&& ~~~(BitVec.ofInt k.bits b)).toNat)):=by simp [abin,aint]
theorem abin_cat' {x y:List UInt8} (h:x.length+y.length≤maxStr):abin .add (.s x) (.s y)=some (.s (x++y)):=by rw [abin_cat,if_pos h]
def rowS (x:List UInt8):List AV:=[.s x]
def c8 (x:UInt8):AV:=.i .u8 (x.toNat:Int)
theorem row8_len (x:UInt8):(row8 x).length=1:=rfl
theorem rowS_len (x:List UInt8):(rowS x).length=1:=rfl
theorem App.full {ow:List (Key × Nat × Nat)} {n:Nat}:App ow .full n:=trivial
theorem lk_here {α:Type} {l:List (Key × α)} {k:Key} {a:α}:lk (st_ l k a) k=some a:=by rw [lk_st',if_pos rfl]
theorem lk_other {α:Type} {l:List (Key × α)} {d s s':Nat} {a:α} {b:Option α} (h:Nat.beq s s'=false) (hb:lk l (d,s')=b):lk (st_ l (d,s) a) (d,s')=b:=by
 rw [lk_st',if_neg ?_,hb]
 intro e
 injection e with _ e
 rw [e,Nat.beq_refl] at h
 cases h
theorem setAt_map {α:Type} (f:α→AV) (l:List α) (n:Nat) (a:α):setAt (l.map f) n [f a]=(l.set n a).map f:=by
 simp only [setAt,List.map_set]
theorem softs_c8 :∀l:List UInt8,softs (l.map c8)=some (l.map c8)
 | []=>rfl
 | c::l=>by simp only [List.map_cons,softs,softs_c8 l,c8,AV.soft]
theorem chunk_c8 (l:List UInt8):chunk 1 l.length (l.map c8)=l.map row8:=by
 unfold chunk
 apply List.ext_getElem
 ·simp
 ·intro j h1 h2
  simp at h1
  simp only [List.getElem_map,List.getElem_range,Nat.mul_one]
  rw [List.drop_eq_getElem_cons (by simpa using h1)]
  simp [c8,row8]
section
variable {prog:Prog} {d id base i:Nat} {σ:Sl} {st:St} {K:Sl→St→Prop} {r:List AI} {t:Option Nat} {x y:Opd}
theorem s_slA_lo {z:Opd} {l:List UInt8} {k:Key} {k':IntKind} {n v:Nat} {m:Int} (hx:x.ev σ=.p k v 0) (hb:lk st.bx k=some (v,l.map c8)) (hn:l.length=n) (hn0:Nat.blt 0 n=true) (hz:z.ev σ=.i k' m) (h0:0≤m) (h1:m.toNat≤n) (h:WO prog d id base (i+1) r (upO σ t (.sl .ext ((l.drop m.toNat).map row8))) { st with bx:=del st.bx k } K):WO prog d id base i (⟨t,.slA n 1 x (some z) none,none⟩::r) σ st K:=by
 refine s_one ?_
 have hbd:bnds σ n n (some z) none=some (m.toNat,n):=by
  simp only [bnds,hz,AV.nat,h0,if_true]
  rw [if_pos ⟨h1,Nat.le_refl _⟩]
 simp only [WOp,aexec,hx,hb]
 rw [if_pos ⟨trivial,trivial,by simp [hn],Nat.one_pos⟩]
 subst hn
 simp only [softs_c8,hbd,Option.map_some,onO_some,chunk_c8]
 rw [List.take_of_length_le (by simp),← List.map_drop]
 exact h
theorem s_storeA {α:Type} {f:α→AV} {l:List α} {a:α} {v o:Nat} {k:Key} (hf :∀a,(f a).cells=[f a]∧(f a).one=true) (hx:x.ev σ=.p k v o) (hb:lk st.bx k=some (v,l.map f)) (hy:y.ev σ=f a) (hn:o<l.length) (h:WO prog d id base (i+1) r (upO σ t (.tup [])) { st with bx:=st_ st.bx k (v,(l.set o a).map f) } K) (hok:okSt k (f a)=true:=by first | rfl | exact okSt_r rfl):WO prog d id base i (⟨t,.store 1 x y,none⟩::r) σ st K:=by
 refine s_one ?_
 simp only [WOp,aexec,astore,hx,hb,hy,(hf a).1]
 rw [if_pos ⟨trivial,by simp;omega,rfl,by simp [(hf a).2],hok⟩,setAt_map]
 simp only [Option.map_some,onO_some]
 exact h
end
theorem c8_one (a:UInt8):(c8 a).cells=[c8 a]∧(c8 a).one=true:=⟨rfl,rfl⟩
section
variable {prog:Prog} {d id base i:Nat} {σ:Sl} {st:St} {K:Sl→St→Prop} {r:List AI} {t:Option Nat} {x y:Opd}
theorem s_mvI {k:IntKind} {n:Int} (hx:x.ev σ=.i k n) (h:WO prog d id base (i+1) r (upO σ t (.i k n)) st K):WO prog d id base i (⟨t,.mv x,none⟩::r) σ st K:=s_mv hx h
theorem s_mvB {b:Bool} (hx:x.ev σ=.b b) (h:WO prog d id base (i+1) r (upO σ t (.b b)) st K):WO prog d id base i (⟨t,.mv x,none⟩::r) σ st K:=s_mv hx h
theorem s_mvS {l:List UInt8} (hx:x.ev σ=.s l) (h:WO prog d id base (i+1) r (upO σ t (.s l)) st K):WO prog d id base i (⟨t,.mv x,none⟩::r) σ st K:=s_mv hx h
theorem s_mvL {α:Type} {f:α→List AV} {l:List α} {o:Own} (hx:x.ev σ=.sl o (l.map f)) (h:WO prog d id base (i+1) r (upO σ t (.sl o (l.map f))) st K):WO prog d id base i (⟨t,.mv x,none⟩::r) σ st K:=s_mv hx h
section
variable {a b:Opd}
theorem s_pickTB {v:Bool} (hx:x.ev σ=.b true) (ha:a.ev σ=.b v) (h:WO prog d id base (i+1) r (upO σ t (.b v)) st K):WO prog d id base i (⟨t,.pick x a b,none⟩::r) σ st K:=s_pickT hx ha h
theorem s_pickFB {v:Bool} (hx:x.ev σ=.b false) (hb:b.ev σ=.b v) (h:WO prog d id base (i+1) r (upO σ t (.b v)) st K):WO prog d id base i (⟨t,.pick x a b,none⟩::r) σ st K:=s_pickF hx hb h
end
theorem wr_byte (k:IntKind) (hk:(k != .i8)=true) (c:UInt8):k.wrap (c.toNat:Int)=(c.toNat:Int):=by
 have:=c.toNat_lt
 cases k with
 | i8=>exact absurd hk (by decide)
 | i16=>simp [IntKind.wrap,IntKind.bits,IntKind.signed];omega
 | i32=>rw [IntKind.wrap_i32];omega
 | i64=>rw [IntKind.wrap_i64];omega
 | u8=>rw [IntKind.wrap_u8];omega
 | u16=>rw [IntKind.wrap_u16];omega
 | u32=>rw [IntKind.wrap_u32];omega
 | u64=>rw [IntKind.wrap_u64];omega
theorem s_cvB {k k':IntKind} {c:UInt8} (hx:x.ev σ=.i k' (c.toNat:Int)) (hk:(k != .i8)=true) (h:WO prog d id base (i+1) r (upO σ t (.i k (c.toNat:Int))) st K):WO prog d id base i (⟨t,.cvi k x,none⟩::r) σ st K:=
 s_cvi hx (by rw [wr_byte k hk c];exact h)
theorem g_u8 {n:Int} {c:UInt8} (hx:x.ev σ=.i .u8 n) (hc:n=(c.toNat:Int)):x.ev σ=.i .u8 (c.toNat:Int):=by rw [hx,hc]
theorem s_bslM {α:Type} {f:α→List AV} {l:List α} {zero z:List AV} {n:Nat} {parts:List (Nat × Opd)} {rows:List (List AV)} (hz:softs zero=some z) (hn:(Nat.blt 0 z.length&&Nat.ble (n*z.length) 65536)=true) (hp:fillRows z σ (List.replicate n z) parts=some rows) (hr:rows=l.map f) (h:WO prog d id base (i+1) r (upO σ t (.sl .full (l.map f))) st K):WO prog d id base i (⟨t,.bslice zero n parts,none⟩::r) σ st K:=
 s_bslice hz hn hp (by rw [hr];exact h)
theorem s_buildM {α:Type} {f:α→AV} {l:List α} {zero:List AV} {parts:List (Nat × Nat × Opd)} {cs:List AV} (hp:fillCells σ zero parts=some cs) (hr:cs=l.map f) (h:WO prog d id base (i+1) r (upO σ t (.ag (l.map f))) st K):WO prog d id base i (⟨t,.build zero parts,none⟩::r) σ st K:=
 s_build hp (by rw [hr];exact h)
end
def bAnd (k:IntKind) (a b:Int):Int:=k.wrap (BitVec.ofInt k.bits a &&& BitVec.ofInt k.bits b).toNat
def bAndNot (k:IntKind) (a b:Int):Int:=k.wrap (BitVec.ofInt k.bits a &&& ~~~(BitVec.ofInt k.bits b)).toNat
def bShr (k:IntKind) (a:Int) (n:Nat):Int:=a.fdiv (2 ^ (min n k.bits))
def PuAK (prog:Prog) (f:Nat) (rows:List (List AV)) (args:List AV) (KK:List (List AV)→Prop):Prop:=
 ∀d st o,App st.ow o rows.length→∃o' st' rows',KK rows'∧Fn prog d f (.sl o rows::args) st (.sl o' rows') st'∧App st'.ow o' rows'.length
def appK (KK:List (List AV)→Prop) (r:AV) (st':St):Prop:=∃o' rows',r=.sl o' rows'∧App st'.ow o' rows'.length∧KK rows'
theorem PuAK.of {prog:Prog} {f:Nat} {F:AF} {rows:List (List AV)} {args:List AV} {KK:List (List AV)→Prop} (hf:prog.fn f=some F) (hn:Nat.ble (args.length+1) F.nt=true) (h :∀d st o,App st.ow o rows.length→W prog d F.body (sl0 (.sl o rows::args)) st (endW d F.res (appK KK))):PuAK prog f rows args KK:=by
 intro d st o ha
 obtain ⟨r,st',h1,o',rows',rfl,h2,h3⟩:=Fn.of' (args:=.sl o rows::args) hf (by simpa using Nat.le_of_ble_eq_true hn) (h d st o ha)
 exact ⟨o',st',rows',h3,h1,h2⟩
theorem PuAK.to {prog:Prog} {f:Nat} {rows rows':List (List AV)} {args:List AV} (h:PuAK prog f rows args fun x=>x=rows'):PuA prog f rows args rows':=by
 intro d st o ha
 obtain ⟨o',st',x,rfl,h1,h2⟩:=h d st o ha
 exact ⟨o',st',h1,h2⟩
section
variable {prog:Prog} {d id base i:Nat} {σ:Sl} {st:St} {K:Sl→St→Prop} {r:List AI} {t:Option Nat} {x y:Opd}
theorem s_iaP1 {n v:Nat} {k:Key} {k':IntKind} {m:Int} (hx:x.ev σ=.p k v 0) (hy:y.ev σ=.i k' m) (h0:0≤m) (h1:m.toNat<n) (h:WO prog d id base (i+1) r (upO σ t (.p k v m.toNat)) st K):WO prog d id base i (⟨t,.iaA n 1 x y,none⟩::r) σ st K:=
 s_iaP hx hy h0 h1 (by rw [Nat.zero_add,Nat.mul_one];exact h)
end
end Go.AM

namespace Go.AM
open Go
abbrev Bxs:=List (Key × Nat × List AV)
abbrev Ows:=List (Key × Nat × Nat)
def Fr (d:Nat) (k:Key) (bx:Bxs) (ow:Ows) (bx':Bxs) (ow':Ows):Prop:=
 (∀k':Key,k'.1<d→k'≠k→lk bx' k'=lk bx k')∧(∀k':Key,k'.1<d→k'.2<midSite→lk ow' k'=lk ow k')
theorem lk_filter' {α:Type} (l:List (Key × α)) (p:Key→Bool) (k:Key):lk (l.filter fun x=>p x.1) k=if p k then lk l k else none:=by
 induction l with
 | nil=>simp [lk]
 | cons x r ih=>
  obtain ⟨k1,b⟩:=x
  simp only [List.filter_cons]
  by_cases h:k1=k
  ·subst h
   cases hp:p k1 with
   | true=>simp [lk]
   | false=>simp [ih,hp]
  ·split
   ·simp only [lk,if_neg h,ih]
   ·simp only [ih,lk,if_neg h]
section
variable {d:Nat} {k:Key} {bx bx' bx2:Bxs} {ow ow' ow2:Ows}
theorem Fr.refl:Fr d k bx ow bx ow:=⟨fun _ _ _=>rfl,fun _ _ _=>rfl⟩
theorem lk_ne {α:Type} {l:List (Key × α)} {k k':Key} {a:α} (h:k≠k'):lk (st_ l k a) k'=lk l k':=by rw [lk_st',if_neg h]
theorem Fr.box {s:Nat} {a:Nat × List AV} (h:Fr d k bx ow bx' ow'):Fr d k bx ow (st_ bx' (d,s) a) ow':=
 ⟨fun k' h1 h2=>by rw [lk_ne (by rintro rfl;exact Nat.lt_irrefl _ h1)];exact h.1 k' h1 h2,h.2⟩
theorem Fr.own {a:Nat × List AV} (h:Fr d k bx ow bx' ow'):Fr d k bx ow (st_ bx' k a) ow':=
 ⟨fun k' h1 h2=>by rw [lk_ne (fun e=>h2 e.symm)];exact h.1 k' h1 h2,h.2⟩
theorem Fr.del {s:Nat} (h:Fr d k bx ow bx' ow'):Fr d k bx ow (Go.AM.del bx' (d,s)) ow':=
 ⟨fun k' h1 h2=>by rw [lk_del',if_neg (by rintro rfl;exact Nat.lt_irrefl _ h1)];exact h.1 k' h1 h2,h.2⟩
theorem Fr.pass (h:Fr d k bx ow bx' ow') (c:Fr (d+1) k bx' ow' bx2 ow2):Fr d k bx ow bx2 ow2:=
 ⟨fun k' h1 h2=>(c.1 k' (Nat.lt_succ_of_lt h1) h2).trans (h.1 k' h1 h2),fun k' h1 h2=>(c.2 k' (Nat.lt_succ_of_lt h1) h2).trans (h.2 k' h1 h2)⟩
theorem Fr.trans (h:Fr d k bx ow bx' ow') (c:Fr d k bx' ow' bx2 ow2):Fr d k bx ow bx2 ow2:=
 ⟨fun k' h1 h2=>(c.1 k' h1 h2).trans (h.1 k' h1 h2),fun k' h1 h2=>(c.2 k' h1 h2).trans (h.2 k' h1 h2)⟩
theorem Fr.out (h:Fr d k bx ow bx' ow'):Fr d k bx ow (bx'.filter fun x=>x.1.1<d) ow':=
 ⟨fun k' h1 h2=>by
  have:=lk_filter' bx' (fun k=>decide (k.1<d)) k'
  rw [this,if_pos (by simpa using h1)]
  exact h.1 k' h1 h2,h.2⟩
def Mine (d:Nat):Own→Prop
 | .id k _=>k.1=d∧k.2<midSite
 | _=>True
def ApM (d:Nat) (ow:Ows) (o:Own) (n:Nat):Prop:=App ow o n∧Mine d o
theorem ApM.mk {o:Own} {n:Nat} (h:App ow o n) (m:Mine d o):ApM d ow o n:=⟨h,m⟩
theorem ApM.full {n:Nat}:ApM d ow .full n:=⟨trivial,trivial⟩
theorem Mine.app {o o':Own} {site:Nat} (h:Mine d o) (hs:Nat.blt site midSite=true) (he:ownKey o'=ownKey o∨ownKey o'=some (d,site)):Mine d o':=by
 have hs:site<midSite:=Nat.le_of_ble_eq_true hs
 cases o' with
 | ext=>trivial
 | full=>trivial
 | id k v=>
  rcases he with he | he
  ·cases o with
   | ext=>cases he
   | full=>cases he
   | id k' v'=>injection he with he;subst he;exact h
  ·injection he with he;subst he;exact ⟨rfl,hs⟩
theorem Fr.app {o:Own} {site:Nat} (h:Fr d k bx ow bx' ow') (hm:Mine d o) (hw :∀k',some k'≠ownKey o→k'≠(d,site)→lk ow2 k'=lk ow' k'):Fr d k bx ow bx' ow2:=by
 refine ⟨h.1,fun k' h1 h2=>(hw k' ?_ ?_).trans (h.2 k' h1 h2)⟩
 ·intro e
  cases o with
  | ext=>cases e
  | full=>cases e
  | id q v=>injection e with e;subst e;exact absurd hm.1 (Nat.ne_of_lt h1)
 ·rintro rfl;exact Nat.lt_irrefl _ h1
end
abbrev BC:=Bxs→Ows→Key→Nat→Prop
def Bx (cs:List AV):BC:=fun bx _ k v=>lk bx k=some (v,cs)
def AppB (ow:Ows) (o:Own) (n:Nat):Prop:=
 match o with
 | .ext=>False
 | .full=>n=0
 | .id k v=>lk ow k=some (v,n)∧0<n∧bigSite≤k.2
def Bl (b:List UInt8):BC:=fun bx ow k v=>∃c0 o,lk bx k=some (v,[c0,.sl o (b.map row8)])∧(c0=.np∨c0=.p k v 0)∧AppB ow o b.length∧bigSite≤k.2
section
variable {d s s':Nat} {k q:Key} {bx:Bxs} {ow ow':Ows} {v:Nat} {b:List UInt8}
theorem key_LL (h:Nat.beq s s'=false):((d,s):Key)≠(d,s'):=by
 intro e
 injection e with _ e
 rw [e,Nat.beq_refl] at h
 cases h
theorem key_PL (h:k.1<d):k≠(d,s):=by rintro rfl;exact Nat.lt_irrefl _ h
theorem key_LP (h:k.1<d):((d,s):Key)≠k:=fun e=>key_PL h e.symm
theorem Bl.other {a:Nat × List AV} (hn:q≠k) (h:Bl b bx ow k v):Bl b (st_ bx q a) ow k v:=by
 obtain ⟨c0,o,h1,h2⟩:=h
 exact ⟨c0,o,by rw [lk_ne hn];exact h1,h2⟩
theorem Bl.app {o:Own} {site:Nat} (h:Bl b bx ow k v) (hm:Mine d o) (hs:Nat.blt site midSite=true) (hw :∀k',some k'≠ownKey o→k'≠(d,site)→lk ow' k'=lk ow k'):Bl b bx ow' k v:=by
 obtain ⟨c0,o2,h1,h2,h3,h4⟩:=h
 have hs:site<midSite:=Nat.le_of_ble_eq_true hs
 refine ⟨c0,o2,h1,h2,?_,h4⟩
 cases o2 with
 | ext=>exact h3
 | full=>exact h3
 | id q w=>
  refine ⟨(hw q ?_ ?_).trans h3.1,h3.2⟩
  ·intro e
   cases o with
   | ext=>cases e
   | full=>cases e
   | id q' w'=>injection e with e;subst e;exact absurd hm.2 (Nat.not_lt.2 (Nat.le_trans (by decide) h3.2.2))
  ·rintro rfl;exact absurd hs (Nat.not_lt.2 (Nat.le_trans (by decide) h3.2.2))
end
def PuX (prog:Prog) (f:Nat) (B:BC) (args:List AV) (RR:AV→Prop) (B':BC):Prop:=
 ∀d (st:St) (k:Key) (v:Nat),k.1<d→B st.bx st.ow k v→∃r st',Fn prog d f (.p k v 0::args) st r st'∧RR r∧B' st'.bx st'.ow k v∧Fr d k st.bx st.ow st'.bx st'.ow
def PuXK {β:Type} (prog:Prog) (f:Nat) (B:BC) (args:List AV) (KK:AV→β→Prop) (B':β→BC):Prop:=
 ∀d (st:St) (k:Key) (v:Nat),k.1<d→B st.bx st.ow k v→∃r st' b,Fn prog d f (.p k v 0::args) st r st'∧KK r b∧B' b st'.bx st'.ow k v∧Fr d k st.bx st.ow st'.bx st'.ow
theorem PuXK.to {β:Type} {prog:Prog} {f:Nat} {B:BC} {args:List AV} {KK:AV→β→Prop} {B':β→BC} {RR:AV→Prop} {b:β} (h:PuXK prog f B args KK B') (hk :∀r b',KK r b'→RR r∧b'=b):PuX prog f B args RR (B' b):=by
 intro d st k v h1 h2
 obtain ⟨r,st',b',h3,h4,h5,h6⟩:=h d st k v h1 h2
 obtain ⟨h7,rfl⟩:=hk r b' h4
 exact ⟨r,st',h3,h7,h5,h6⟩
section
variable {prog:Prog} {d id base i:Nat} {σ:Sl} {st:St} {K:Sl→St→Prop} {r:List AI} {t:Option Nat} {x y:Opd}
theorem s_callX {f:Nat} {args:List Opd} {vs:List AV} {B B':BC} {F:AV} {k:Key} {v:Nat} (hs:evs σ args=.p k v 0::vs) (hp:PuX prog f B vs (fun r=>r=F) B') (hk:k.1<d+1) (hB:B st.bx st.ow k v)
  (h :∀st':St,B' st'.bx st'.ow k v→Fr (d+1) k st.bx st.ow st'.bx st'.ow→WO prog d id base (i+1) r (upO σ t F) st' K):WO prog d id base i (⟨t,.call true f args,none⟩::r) σ st K:=by
 refine s_one ?_
 obtain ⟨r',st',h1,rfl,h3,h4⟩:=hp (d+1) st k v hk hB
 rw [WOp_callp,hs]
 exact ⟨_,_,h1,h st' h3 h4⟩
end
theorem ares_cell {σ:Sl} {st:St} {t n v:Nat} {agg:Bool} {k:Key} {cs:List AV} {r:AV} (h:σ t=.p k v 0) (hb:lk st.bx k=some (v,cs)) (hn:cs.length=n) (hr:ofCells agg cs=some r):ares1 σ st (.cell t n agg)=some r:=by
 subst hn
 simp only [ares1,h,aload,hb]
 rw [if_pos ⟨trivial,by omega⟩,List.drop_zero,List.take_length,hr]
theorem ares_cellA {σ:Sl} {st:St} {t n v:Nat} {k:Key} {cs:List AV} (h:σ t=.p k v 0) (hb:lk st.bx k=some (v,cs)) (hn:cs.length=n):ares1 σ st (.cell t n true)=some (.ag cs):=ares_cell h hb hn rfl
theorem ares_tmp {σ:Sl} {st:St} {t:Nat}:ares1 σ st (.tmp t)=some (σ t):=rfl
end Go.AM

namespace Go.AM
open Go
abbrev oM (d s:Nat):AI:=⟨some d,.mv (.t s),none⟩
abbrev oC (d:Nat) (v:AV):AI:=⟨some d,.mv (.c v),none⟩
abbrev oL (d s:Nat):AI:=⟨some d,.load 1 false (.t s),none⟩
abbrev oF (d o s:Nat):AI:=⟨some d,.fad o (.t s),none⟩
abbrev oN (d s:Nat):AI:=⟨some d,.nilc (.t s),none⟩
abbrev oS (n a b:Nat):AI:=⟨none,.store n (.t a) (.t b),none⟩
abbrev oE (d k s:Nat):AI:=⟨some d,.ext k (.t s),none⟩
abbrev oB (d:Nat) (op:BinOp) (x y:Opd):AI:=⟨some d,.bin op x y,none⟩
abbrev oO (d:Nat) (op:AOp):AI:=⟨some d,op,none⟩
abbrev oG (d:Nat) (op:AOp) (g:Nat) (w:Bool):AI:=⟨some d,op,some (g,w)⟩
section
variable {prog:Prog} {d id base i:Nat} {σ:Sl} {st:St} {K:Sl→St→Prop} {r:List AI} {t:Option Nat} {x y:Opd} {Q:AE→Sl→St→Prop}
theorem m_ (h:WO prog d id base (i+1) r (upO σ t (x.ev σ)) st K):WO prog d id base i (⟨t,.mv x,none⟩::r) σ st K:=s_mv rfl h
theorem q_ {ops:List AI} {b:AC} (hn:noAlloc ops=true) (h :∀{nx:Nat} {_:st.nx≤nx},WO prog d id st.nx 0 ops σ ⟨nx,st.bx,st.ow⟩ (fun σ st=>W prog d b σ st Q)):W prog d (.seq (.reg id ops) b) σ st Q:=W.seq (W.reg0 hn fun _ hx=>@h _ hx)
end
end Go.AM
namespace Go.AM
open Go
abbrev e_:=@s_nil
abbrev b_:=@s_bin
abbrev x_:=@s_ext
abbrev l_:=@s_loadP
abbrev f_:=@s_fadP
abbrev gn_:=@s_gn
abbrev gy_:=@s_gy
abbrev gt_:=@s_gt
abbrev pt_:=@s_pickTB
abbrev pf_:=@s_pickFB
abbrev cs_:=@c_split
abbrev cb_:=@c_bool
abbrev ct_:=@c_tt
abbrev cf_:=@c_ff
abbrev sk_:=@W.skip
abbrev rt_:=@W.ret
abbrev bk_:=@W.block
abbrev ex_:=@W.exit
abbrev sq_:=@W.seq
abbrev ca_:=@s_call
abbrev so_:=@s_storeP
abbrev ia_:=@s_iaL
abbrev lf_:=@s_loadF
abbrev ff_:=@s_fadF
abbrev eb_:=@s_emb
abbrev em_:=@s_em
abbrev nt_:=@s_not
abbrev np_:=@s_notp
abbrev ll_:=@s_lenL
abbrev ln_:=@s_lenS
abbrev cX_:=@s_callX
theorem lss_ {k:IntKind} {a b:Int}:abin .lss (.i k a) (.i k b)=some (.b (decide (a<b))):=abin_lss _ _ _
theorem leq_ {k:IntKind} {a b:Int}:abin .leq (.i k a) (.i k b)=some (.b (decide (a≤b))):=abin_leq _ _ _
theorem gtr_ {k:IntKind} {a b:Int}:abin .gtr (.i k a) (.i k b)=some (.b (decide (a>b))):=abin_gtr _ _ _
theorem geq_ {k:IntKind} {a b:Int}:abin .geq (.i k a) (.i k b)=some (.b (decide (a≥b))):=abin_geq _ _ _
theorem eql_ {k:IntKind} {a b:Int}:abin .eql (.i k a) (.i k b)=some (.b (decide (a=b))):=abin_eql _ _ _
theorem neq_ {k:IntKind} {a b:Int}:abin .neq (.i k a) (.i k b)=some (.b (decide (a≠b))):=abin_neq _ _ _
theorem add_ {k:IntKind} {a b:Int}:abin .add (.i k a) (.i k b)=some (.i k (k.wrap (a+b))):=abin_add _ _ _
theorem sub_ {k:IntKind} {a b:Int}:abin .sub (.i k a) (.i k b)=some (.i k (k.wrap (a-b))):=abin_sub _ _ _
theorem seq_ {a b:List UInt8}:abin .eql (.s a) (.s b)=some (.b (decide (a=b))):=abin_seq _ _
theorem sne_ {a b:List UInt8}:abin .neq (.s a) (.s b)=some (.b (decide (a≠b))):=abin_sne _ _
end Go.AM
namespace Go.AM
open Go
def PuN (prog:Prog) (f:Nat) (args:List AV) (RR:AV→Prop):Prop:=
 ∀d (st:St),∃r st',Fn prog d f args st r st'∧RR r∧Fr d (d,0) st.bx st.ow st'.bx st'.ow
theorem PuN.to {prog:Prog} {f:Nat} {args:List AV} {R1 R2:AV→Prop} (h:PuN prog f args R1) (hk :∀r,R1 r→R2 r):PuN prog f args R2:=by
 intro d st
 obtain ⟨r,st',h1,h2,h3⟩:=h d st
 exact ⟨r,st',h1,hk r h2,h3⟩
theorem key_dn {d s:Nat}:((d,s):Key)≠(d+1,0):=by
 intro e
 injection e with e _
 omega
theorem key_dP {d:Nat} {k:Key} (h:k.1<d):k≠(d+1,0):=by
 rintro rfl
 simp at h
 omega
theorem Fr.raw {d:Nat} {k:Key} {bx bx' bx2:Bxs} {ow ow' ow2:Ows} (h:Fr d k bx ow bx' ow') (c:Fr (d+1) (d+1,0) bx' ow' bx2 ow2):Fr d k bx ow bx2 ow2:=
 ⟨fun k' h1 h2=>(c.1 k' (Nat.lt_succ_of_lt h1) (key_dP h1)).trans (h.1 k' h1 h2),fun k' h1 h2=>(c.2 k' (Nat.lt_succ_of_lt h1) h2).trans (h.2 k' h1 h2)⟩
theorem PuN.of {prog:Prog} {f:Nat} {F:AF} {args:List AV} {RR:AV→Prop} (hf:prog.fn f=some F) (hn:Nat.ble args.length F.nt=true)
  (h :∀(d:Nat) (st:St),W prog d F.body (sl0 args) st fun e σ st'=>(e=.normal∨e=.ret)∧∃r,ares σ st' F.res=some r∧RR r∧Fr d (d,0) st.bx st.ow st'.bx st'.ow):PuN prog f args RR:=by
 intro d st
 obtain ⟨r,st',h1,h2⟩:=Fn.of' (prog:=prog) (K:=fun r st'=>RR r∧Fr d (d,0) st.bx st.ow st'.bx st'.ow) hf (Nat.le_of_ble_eq_true hn) ((h d st).mono fun e σ st' hq=>by
  obtain ⟨he,r,h1,h2,h3⟩:=hq
  rcases he with rfl | rfl
  ·exact ⟨r,h1,h2,h3.out⟩
  ·exact ⟨r,h1,h2,h3.out⟩)
 exact ⟨r,st',h1,h2⟩
section
variable {prog:Prog} {d id base i:Nat} {σ:Sl} {st:St} {K:Sl→St→Prop} {r:List AI} {t:Option Nat} {x y:Opd}
theorem s_callN {f:Nat} {args:List Opd} {vs:List AV} {F:AV} (hs:evs σ args=vs) (hp:PuN prog f vs (fun r=>r=F))
  (h :∀st':St,Fr (d+1) (d+1,0) st.bx st.ow st'.bx st'.ow→WO prog d id base (i+1) r (upO σ t F) st' K):WO prog d id base i (⟨t,.call true f args,none⟩::r) σ st K:=by
 refine s_one ?_
 obtain ⟨r',st',h1,rfl,h3⟩:=hp (d+1) st
 rw [WOp_callp,hs]
 exact ⟨_,_,h1,h st' h3⟩
theorem s_callV {f:Nat} {c:List AV} {args:List Opd} {vs:List AV} {F:AV} (hx:x.ev σ=.fn f c) (hs:evs σ args=vs) (hp:PuN prog f (vs++c) (fun r=>r=F))
  (h :∀st':St,Fr (d+1) (d+1,0) st.bx st.ow st'.bx st'.ow→WO prog d id base (i+1) r (upO σ t F) st' K):WO prog d id base i (⟨t,.callv x args,none⟩::r) σ st K:=by
 refine s_one ?_
 obtain ⟨r',st',h1,rfl,h3⟩:=hp (d+1) st
 show onCv (x.ev σ) (evs σ args) (fun g l=>WF prog (d+1) g l st _)
 rw [hx,hs]
 exact ⟨_,_,h1,h st' h3⟩
theorem s_mkbf {f:Nat} {args:List Opd} {vs:List AV} (hs:evs σ args=vs) (h:WO prog d id base (i+1) r (upO σ t (.bf f vs)) st K):WO prog d id base i (⟨t,.mkbf f args,none⟩::r) σ st K:=
 s_pure (fun K=>by
  have e:args.map (·.ev σ)=vs:=by rw [← hs];exact evs_map.symm
  simp only [WOp,aexec,apure,e,Option.map_some,onO_some]) h
theorem s_mkfn {f:Nat} {args:List Opd} {vs:List AV} (hs:evs σ args=vs) (h:WO prog d id base (i+1) r (upO σ t (.fn f vs)) st K):WO prog d id base i (⟨t,.mkfn f args,none⟩::r) σ st K:=
 s_pure (fun K=>by
  have e:args.map (·.ev σ)=vs:=by rw [← hs];exact evs_map.symm
  simp only [WOp,aexec,apure,e,Option.map_some,onO_some]) h
end
end Go.AM
namespace Go.AM
open Go
theorem strips_map {α:Type} (f:α→AV) (hf :∀a,(f a).strip=some (f a)) :∀l:List α,AV.strips (l.map f)=some (l.map f)
 | []=>rfl
 | a::l=>by simp only [List.map_cons,AV.strips,hf a,strips_map f hf l]
theorem strip_ag {α:Type} (f:α→AV) (hf :∀a,(f a).strip=some (f a)) (l:List α):(AV.ag (l.map f)).strip=some (.ag (l.map f)):=by
 simp only [AV.strip,strips_map f hf l]
end Go.AM
namespace Go.AM
open Go
theorem setAt_eq :∀(new cs:List AV) (off:Nat),off+new.length≤cs.length→setAt cs off new=cs.take off++(new++cs.drop (off+new.length))
 | [],cs,off,h=>by simp [setAt]
 | v::r,cs,off,h=>by
  simp only [List.length_cons] at h
  rw [setAt,setAt_eq r (cs.set off v) (off+1) (by simp;omega)]
  have h1:(cs.set off v).take (off+1)=cs.take off++[v]:=by
   rw [List.take_set,List.take_succ_eq_append_getElem (by omega),List.set_append_right _ _ (by simp;omega)]
   congr 1
   simp [List.length_take,Nat.min_eq_left (show off≤cs.length by omega)]
  have h2:(cs.set off v).drop (off+1+r.length)=cs.drop (off+(r.length+1)):=by
   rw [List.drop_set_of_lt (by omega)]
   congr 1
   omega
  rw [h1,h2]
  simp
section
variable {prog:Prog} {d id base i:Nat} {σ:Sl} {st:St} {K:Sl→St→Prop} {r:List AI} {t:Option Nat} {x y:Opd}
theorem s_storeArr {α:Type} {f:α→AV} {l l':List α} {n v:Nat} {k:Key} (hf :∀a,(f a).one=true) (hx:x.ev σ=.p k v 0) (hb:lk st.bx k=some (v,l.map f)) (hl:l.length=n) (hy:y.ev σ=.ag (l'.map f)) (hl':l'.length=n)
  (h:WO prog d id base (i+1) r (upO σ t (.tup [])) { st with bx:=st_ st.bx k (v,l'.map f) } K) (hok:okSt k (.ag (l'.map f))=true:=by first | rfl | exact okSt_r rfl):WO prog d id base i (⟨t,.store n x y,none⟩::r) σ st K:=by
 have e:setAt (l.map f) 0 (l'.map f)=l'.map f:=by
  rw [setAt_eq _ _ _ (by simp;omega)]
  simp [hl,hl']
 refine s_storeP hx hb hy ?_ e h hok
 simp [AV.cells,hl,hl',hf]
end
end Go.AM

namespace Go.AM
open Go Go.RowKit
abbrev Hp:=Nat→Nat→Option Value
inductive Fz (H:Hp):AV→Value→Prop
 | i (k:IntKind) (n:Int):Fz H (.i k n) (.int k n)
 | b (x:Bool):Fz H (.b x) (.bool x)
 | s (l:List UInt8):Fz H (.s l) (.string ⟨l.toArray⟩)
 | sl (rows:List (List AV)) (A:Option Addr) (cap size g off:Nat) (us:Nat→Nat→Value)
   (hA:rows≠[]→A=some ⟨g,off,none⟩) (hcap:rows.length≤cap)
   (hs :∀(i:Nat) row,rows[i]?=some row→row.length=size)
   (hH :∀(i:Nat) row (j:Nat) a,rows[i]?=some row→row[j]?=some a→H g (off+i*size+j)=some (us i j))
   (hF :∀(i:Nat) row (j:Nat) a,rows[i]?=some row→row[j]?=some a→Fz H a (us i j)) :
   Fz H (.sl .ext rows) (.slice A rows.length cap)
 | np:Fz H .np (.pointer none)
 | nf:Fz H .nf .nilFunc
 | ni:Fz H .ni .nilIface
 | u (v:Value):Fz H .u v
structure Gh where
 H:Hp
 ρ:Key→Nat→Option Nat
 ω:Key→Nat→Option (Nat × Nat × Nat)
 fm:Nat→Option Nat
 M:Nat→Option (List (List UInt8 × Int))
def OwnOk (G:Gh) (o:Own) (A:Option Addr) (n cap:Nat) (rows:List (List AV)):Prop:=
 match o with
 | .ext=>True
 | .full=>cap=n∧(A=none∨∃g,A=some ⟨g,0,none⟩)
 | .id k ver=>∃g size,G.ω k ver=some (g,cap,size)∧A=some ⟨g,0,none⟩∧∀(i:Nat) row,rows[i]?=some row→row.length=size∧(∀(j:Nat) a,row[j]?=some a→∃v,G.H g (i*size+j)=some v)
inductive R (G:Gh):AV→Value→Prop
 | fz (a:AV) (v:Value) (h:Fz G.H a v):R G a v
 | sl (o:Own) (rows:List (List AV)) (A:Option Addr) (n cap:Nat) (h:Fz G.H (.sl .ext rows) (.slice A n cap)) (ho:OwnOk G o A n cap rows):R G (.sl o rows) (.slice A n cap)
 | p (k:Key) (ver off g:Nat) (h:G.ρ k ver=some g):R G (.p k ver off) (.pointer (some ⟨g,off,none⟩))
 | fp (cs:List AV) (us:Nat→Value) (g off:Nat) (hH :∀(j:Nat) a,cs[j]?=some a→G.H g (off+j)=some (us j)) (hF :∀(j:Nat) a,cs[j]?=some a→Fz G.H a (us j)):R G (.fp cs) (.pointer (some ⟨g,off,none⟩))
 | ag (cs:List AV) (us:List Value) (hl:cs.length=us.length) (hR :∀(j:Nat) a u,cs[j]?=some a→us[j]?=some u→R G a u):R G (.ag cs) (.agg us.toArray)
 | tup (cs:List AV) (us:List Value) (hl:cs.length=us.length) (hR :∀(j:Nat) a u,cs[j]?=some a→us[j]?=some u→R G a u):R G (.tup cs) (.tuple us.toArray)
 | mp (l:List (List UInt8 × Int)) (b:Nat) (h:G.M b=some l):R G (.mp l) (.map (some b))
 | fn (c f:Nat) (hf:G.fm f=some c) (cs:List AV) (us:List Value) (hl:cs.length=us.length) (hR :∀(j:Nat) a u,cs[j]?=some a→us[j]?=some u→R G a u):R G (.fn c cs) (.func (.func f) #[] us.toArray)
 | bf (c f:Nat) (hf:G.fm f=some c) (cs:List AV) (us:List Value) (hl:cs.length=us.length) (hR :∀(j:Nat) a u,cs[j]?=some a→us[j]?=some u→R G a u):R G (.bf c cs) (.func (.func f) us.toArray #[])
def Rs (G:Gh) (cs:List AV) (us:List Value):Prop:=cs.length=us.length∧∀(j:Nat) a u,cs[j]?=some a→us[j]?=some u→R G a u
def HLe (H H':Hp):Prop:=∀g o v,H g o=some v→H' g o=some v
structure Gh.Le (G G':Gh):Prop where
 H:HLe G.H G'.H
 ρ :∀k v g,G.ρ k v=some g→G'.ρ k v=some g
 ω :∀k v g,G.ω k v=some g→G'.ω k v=some g
 fm:G'.fm=G.fm
 M :∀b l,G.M b=some l→G'.M b=some l
theorem Gh.Le.refl (G:Gh):G.Le G:=⟨fun _ _ _ h=>h,fun _ _ _ h=>h,fun _ _ _ h=>h,rfl,fun _ _ h=>h⟩
theorem Gh.Le.trans {A B C:Gh} (h:A.Le B) (k:B.Le C):A.Le C:=
 ⟨fun _ _ _ x=>k.H _ _ _ (h.H _ _ _ x),fun _ _ _ x=>k.ρ _ _ _ (h.ρ _ _ _ x),fun _ _ _ x=>k.ω _ _ _ (h.ω _ _ _ x),k.fm.trans h.fm,fun _ _ x=>k.M _ _ (h.M _ _ x)⟩
theorem Fz.mono {H H':Hp} (hh:HLe H H') {a:AV} {v:Value} (h:Fz H a v):Fz H' a v:=by
 induction h with
 | i k n=>exact .i k n
 | b x=>exact .b x
 | s l=>exact .s l
 | sl rows A cap size g off us hA hcap hs hH _ ih=>exact .sl rows A cap size g off us hA hcap hs (fun i row j a h1 h2=>hh _ _ _ (hH i row j a h1 h2)) ih
 | np=>exact .np
 | nf=>exact .nf
 | ni=>exact .ni
 | u v=>exact .u v
theorem OwnOk.mono {G G':Gh} (hg:G.Le G') {o:Own} {A:Option Addr} {n cap:Nat} {rows:List (List AV)} (h:OwnOk G o A n cap rows):OwnOk G' o A n cap rows:=by
 cases o with
 | ext=>trivial
 | full=>exact h
 | id k ver=>
  obtain ⟨g,size,h1,h2,h3⟩:=h
  refine ⟨g,size,hg.ω _ _ _ h1,h2,fun i row hr=>⟨(h3 i row hr).1,fun j a ha=>?_⟩⟩
  obtain ⟨v,hv⟩:=(h3 i row hr).2 j a ha
  exact ⟨v,hg.H _ _ _ hv⟩
theorem R.mono {G G':Gh} (hg:G.Le G') {a:AV} {v:Value} (h:R G a v):R G' a v:=by
 induction h with
 | fz a v h=>exact .fz a v (h.mono hg.H)
 | sl o rows A n cap h ho=>exact .sl o rows A n cap (h.mono hg.H) (ho.mono hg)
 | p k ver off g h=>exact .p k ver off g (hg.ρ _ _ _ h)
 | fp cs us g off hH hF=>exact .fp cs us g off (fun j a h=>hg.H _ _ _ (hH j a h)) (fun j a h=>(hF j a h).mono hg.H)
 | ag cs us hl _ ih=>exact .ag cs us hl ih
 | tup cs us hl _ ih=>exact .tup cs us hl ih
 | mp l b h=>exact .mp l b (hg.M _ _ h)
 | fn c f hf cs us hl _ ih=>exact .fn c f (by rw [hg.fm];exact hf) cs us hl ih
 | bf c f hf cs us hl _ ih=>exact .bf c f (by rw [hg.fm];exact hf) cs us hl ih
theorem Rs.mono {G G':Gh} (hg:G.Le G') {a:List AV} {v:List Value} (h:Rs G a v):Rs G' a v:=⟨h.1,fun j a u h1 h2=>(h.2 j a u h1 h2).mono hg⟩
section
variable {G:Gh} {v:Value}
theorem R.int_inv {k:IntKind} {n:Int} (h:R G (.i k n) v):v=.int k n:=by cases h with | fz _ _ h=>cases h;rfl
theorem R.bool_inv {x:Bool} (h:R G (.b x) v):v=.bool x:=by cases h with | fz _ _ h=>cases h;rfl
theorem R.str_inv {l:List UInt8} (h:R G (.s l) v):v=.string ⟨l.toArray⟩:=by cases h with | fz _ _ h=>cases h;rfl
theorem R.np_inv (h:R G .np v):v=.pointer none:=by cases h with | fz _ _ h=>cases h;rfl
theorem R.nf_inv (h:R G .nf v):v=.nilFunc:=by cases h with | fz _ _ h=>cases h;rfl
theorem R.ni_inv (h:R G .ni v):v=.nilIface:=by cases h with | fz _ _ h=>cases h;rfl
theorem R.sl_inv {o:Own} {rows:List (List AV)} (h:R G (.sl o rows) v) :∃A cap,v=.slice A rows.length cap∧Fz G.H (.sl .ext rows) (.slice A rows.length cap)∧OwnOk G o A rows.length cap rows:=by
 cases h with
 | fz _ _ h=>cases h with | sl _ A cap size g off us hA hcap hs hH hF=>exact ⟨A,cap,rfl,.sl rows A cap size g off us hA hcap hs hH hF,trivial⟩
 | sl _ _ A n cap h ho=>
  have hn:n=rows.length:=by cases h;rfl
  subst hn
  exact ⟨A,cap,rfl,h,ho⟩
theorem R.p_inv {k:Key} {ver off:Nat} (h:R G (.p k ver off) v) :∃g,v=.pointer (some ⟨g,off,none⟩)∧G.ρ k ver=some g:=by
 cases h with
 | fz _ _ h=>cases h
 | p _ _ _ g h=>exact ⟨g,rfl,h⟩
theorem R.fp_inv {cs:List AV} (h:R G (.fp cs) v) :∃g off,∃us:Nat→Value,v=.pointer (some ⟨g,off,none⟩)∧(∀(j:Nat) a,cs[j]?=some a→G.H g (off+j)=some (us j))∧(∀(j:Nat) a,cs[j]?=some a→Fz G.H a (us j)):=by
 cases h with
 | fz _ _ h=>cases h
 | fp _ us g off hH hF=>exact ⟨g,off,us,rfl,hH,hF⟩
theorem R.ag_inv {cs:List AV} (h:R G (.ag cs) v) :∃us,v=.agg us.toArray∧Rs G cs us:=by
 cases h with
 | fz _ _ h=>cases h
 | ag _ us hl hR=>exact ⟨us,rfl,hl,hR⟩
theorem R.tup_inv {cs:List AV} (h:R G (.tup cs) v) :∃us,v=.tuple us.toArray∧Rs G cs us:=by
 cases h with
 | fz _ _ h=>cases h
 | tup _ us hl hR=>exact ⟨us,rfl,hl,hR⟩
theorem R.fn_inv {c:Nat} {cs:List AV} (h:R G (.fn c cs) v) :∃f us,G.fm f=some c∧v=.func (.func f) #[] us.toArray∧Rs G cs us:=by
 cases h with
 | fz _ _ h=>cases h
 | fn _ f hf _ us hl hR=>exact ⟨f,us,hf,rfl,hl,hR⟩
theorem R.bf_inv {c:Nat} {cs:List AV} (h:R G (.bf c cs) v) :∃f us,G.fm f=some c∧v=.func (.func f) us.toArray #[]∧Rs G cs us:=by
 cases h with
 | fz _ _ h=>cases h
 | bf _ f hf _ us hl hR=>exact ⟨f,us,hf,rfl,hl,hR⟩
theorem R.mp_inv {l:List (List UInt8 × Int)} (h:R G (.mp l) v) :∃b,v=.map (some b)∧G.M b=some l:=by
 cases h with
 | fz _ _ h=>cases h
 | mp _ b h=>exact ⟨b,rfl,h⟩
theorem R.one {a:AV} (h:R G a v) (h1:a.one=true):v.oneCell'=true:=by
 cases h with
 | fz _ _ h=>cases h<;>first | rfl | simp [AV.one] at h1
 | sl=>rfl
 | p=>rfl
 | fp=>rfl
 | ag=>simp [AV.one] at h1
 | tup=>simp [AV.one] at h1
 | mp=>rfl
 | fn=>rfl
 | bf=>rfl
theorem R.und:R G (.tup []) Go.undef:=.tup [] [] rfl (by simp)
theorem R.tup0_inv (h:R G (.tup []) v):v=Go.undef:=by
 obtain ⟨us,rfl,hl,_⟩:=h.tup_inv
 cases us with
 | nil=>rfl
 | cons=>simp at hl
end
theorem R.cells {G:Gh} {a:AV} {v:Value} (h:R G a v) (hu:a.cells.all AV.one=true) :∃us:List Value,v.cells=us.toArray∧Rs G a.cells us∧us.length=a.cells.length∧(∀x∈us,x.oneCell'=true):=by
 have single :∀{a:AV},a.cells=[a]→R G a v→a.one=true→v.cells=#[v]→∃us:List Value,v.cells=us.toArray∧Rs G a.cells us∧us.length=a.cells.length∧(∀x∈us,x.oneCell'=true):=by
  intro a hc h h1 hv
  refine ⟨[v],hv,?_,by rw [hc];rfl,?_⟩
  ·rw [hc]
   refine ⟨rfl,fun j a' u h1 h2=>?_⟩
   cases j with
   | zero=>simp at h1 h2;subst h1;subst h2;exact h
   | succ j=>simp at h1
  ·intro x hx
   simp at hx
   subst hx
   exact h.one h1
 cases a with
 | ag cs=>
  obtain ⟨us,rfl,hr⟩:=h.ag_inv
  refine ⟨us,rfl,hr,hr.1.symm,fun x hx=>?_⟩
  obtain ⟨j,hj,rfl⟩:=List.getElem_of_mem hx
  have hj':j<cs.length:=by rw [hr.1];exact hj
  have h2:=hr.2 j cs[j] us[j] (List.getElem?_eq_getElem hj') (List.getElem?_eq_getElem hj)
  exact h2.one (by simp only [AV.cells,List.all_eq_true] at hu;exact hu _ (List.getElem_mem hj'))
 | tup cs=>simp [AV.cells,AV.one] at hu
 | u=>simp [AV.cells,AV.one] at hu
 | i k n=>exact single rfl h rfl (by rw [h.int_inv];rfl)
 | b x=>exact single rfl h rfl (by rw [h.bool_inv];rfl)
 | s l=>exact single rfl h rfl (by rw [h.str_inv];rfl)
 | sl o rows=>exact single rfl h rfl (by obtain ⟨A,cap,rfl,_⟩:=h.sl_inv;rfl)
 | p k ver off=>exact single rfl h rfl (by obtain ⟨g,rfl,_⟩:=h.p_inv;rfl)
 | fp cs=>exact single rfl h rfl (by obtain ⟨g,off,us,rfl,_⟩:=h.fp_inv;rfl)
 | np=>exact single rfl h rfl (by rw [h.np_inv];rfl)
 | mp l=>exact single rfl h rfl (by obtain ⟨b,rfl,_⟩:=h.mp_inv;rfl)
 | fn f cap=>exact single rfl h rfl (by obtain ⟨f,us,_,rfl,_⟩:=h.fn_inv;rfl)
 | bf f cs=>exact single rfl h rfl (by obtain ⟨f,us,_,rfl,_⟩:=h.bf_inv;rfl)
 | nf=>exact single rfl h rfl (by rw [h.nf_inv];rfl)
 | ni=>exact single rfl h rfl (by rw [h.ni_inv];rfl)
def BoxAt (G:Gh) (w0 w:World) (cs:List AV) (g:Nat):Prop:=
 ∃(us:List Value) (e:TypeId),w0.heap.size≤g∧w.heap[g]?=some (.cells us.toArray e (0,0))∧Rs G cs us∧(∀x∈us,x.oneCell'=true)∧∀o,G.H g o=none
def OwnAt (G:Gh) (w0 w:World) (n g cap size:Nat):Prop:=
 ∃(cur:Array Value) (e:TypeId),w0.heap.size≤g∧w.heap[g]?=some (.cells cur e (0,0))∧cur.size=cap*size∧n≤cap∧0<size∧∀o,n*size≤o→G.H g o=none
def btOf (fm:Nat→Option Nat):TypeId:=(fm 1000000000000).getD 0-1000000000
def etOf (fm:Nat→Option Nat):TypeId:=(fm 1000000000001).getD 0-1000000000
attribute [irreducible] btOf etOf
def MapAt (w:World) (b:Nat) (l:List (List UInt8 × Int)):Prop:=∃es clock,w.heap[b]?=some (.map es clock)∧es.toList.map (fun e=>(e.key,e.val))=l.map fun x=>(Value.string ⟨x.1.toArray⟩,Value.int .u8 x.2)
theorem MapAt.keep {w w':World} {b:Nat} {l:List (List UInt8 × Int)} (h:MapAt w b l) (hk :∀es clock,w.heap[b]?=some (.map es clock)→w'.heap[b]?=w.heap[b]?):MapAt w' b l:=by
 obtain ⟨es,clock,h1,h2⟩:=h
 exact ⟨es,clock,(hk es clock h1).trans h1,h2⟩
structure Rel (G:Gh) (w0:World) (st:St) (w:World):Prop where
 bel:Below w0.heap.size w0 w
 ext :∀g o v,G.H g o=some v→w.cell? ⟨g,o,none⟩=some v∧v.oneCell'=true
 bx :∀k ver cs g,lk st.bx k=some (ver,cs)→G.ρ k ver=some g→BoxAt G w0 w cs g
 inj :∀k k' ver ver' cs cs' g,lk st.bx k=some (ver,cs)→lk st.bx k'=some (ver',cs')→G.ρ k ver=some g→G.ρ k' ver'=some g→k=k'
 ow :∀k ver n,lk st.ow k=some (ver,n)→∃g cap size,G.ω k ver=some (g,cap,size)∧OwnAt G w0 w n g cap size∧∀k' ver' cs',lk st.bx k'=some (ver',cs')→G.ρ k' ver'≠some g
 owinj :∀k k' ver ver' n n' g cap size cap' size',lk st.ow k=some (ver,n)→lk st.ow k'=some (ver',n')→G.ω k ver=some (g,cap,size)→G.ω k' ver'=some (g,cap',size')→k=k'
 fresh :∀k ver,st.nx≤ver→G.ρ k ver=none∧G.ω k ver=none
 bxT :∀k ver cs g,bigSite≤k.2→lk st.bx k=some (ver,cs)→G.ρ k ver=some g→∃us,w.heap[g]?=some (.cells us (btOf G.fm) (0,0))∧(cs[1]?=some (.sl .full [])→us[1]?=some (.slice none 0 0))
 owT :∀k ver n,bigSite≤k.2→lk st.ow k=some (ver,n)→∀g cap size,G.ω k ver=some (g,cap,size)→∃us,w.heap[g]?=some (.cells us (etOf G.fm) (0,0))
 mp :∀b l,G.M b=some l→MapAt w b l
def RelA (G:Gh) (nt:Nat) (σ:Sl) (a:Act):Prop:=a.defers=[]∧a.tmps.size=nt∧∀t,R G (σ t) (a.tmps.getD t undef)
theorem RelA.mono {G G':Gh} (hg:G.Le G') {nt:Nat} {σ:Sl} {a:Act} (h:RelA G nt σ a):RelA G' nt σ a:=⟨h.1,h.2.1,fun t=>(h.2.2 t).mono hg⟩
theorem RelA.put {G:Gh} {nt:Nat} {σ:Sl} {a:Act} (h:RelA G nt σ a) {d:Option Nat} {v:AV} {x:Value} (hd :∀t,d=some t→t<nt) (hv:R G v x):RelA G nt (updO σ d v) (a.put d x):=by
 cases d with
 | none=>exact h
 | some d=>
  have hdn:=hd d rfl
  refine ⟨h.1,by simp [Act.put,h.2.1],fun t=>?_⟩
  by_cases htd:t=d
  ·subst htd
   have hlt:t<a.tmps.size:=by rw [h.2.1];exact hdn
   simpa [updO,upd,Act.put,hlt] using hv
  ·have:=h.2.2 t
   simp only [updO,upd,if_neg htd,Act.put]
   rw [Array.getD_eq_getD_getElem?,Array.getElem?_setIfInBounds_ne (by omega),← Array.getD_eq_getD_getElem?]
   exact this
end Go.AM

namespace Go.AM
open Go Go.RowKit
inductive TK where
 | int (k:IntKind)
 | bool
 | str
 | sl (e:Nat)
 | arr (n e:Nat)
 | st (fs:List (Nat × Nat))
 | ptr (e:Nat)
 | uptr
 | mp
 | other
structure TI where
 kind:TK
 size:Nat
 bytes:Nat
 zero:List AV
abbrev TTab:=Nat→Option TI
def cVal:Value→Option AV
 | .int k n=>some (.i k n)
 | .bool x=>some (.b x)
 | .string s=>some (.s s.data.toList)
 | .slice none 0 0=>some (.sl .full [])
 | .pointer none=>some .np
 | .nilFunc=>some .nf
 | .nilIface=>some .ni
 | .map none=>some .u
 | _=>none
def cVals:List Value→Option (List AV)
 | []=>some []
 | v::r=>match cVal v,cVals r with | some w,some l=>some (w::l) | _,_=>none
def cConst:Value→Option AV
 | .agg cs=>match cVals cs.toList with | some l=>some (.ag l) | none=>none
 | v=>cVal v
def EqT (P:Program) (t:TypeId) (fields:Array Field):Prop:=P.stoodInHeld t=false∧P.eqGuardType P.depth t=false∧∀f∈fields.toList,(f.name== "_")=false
def TK.ok (P:Program) (t:TypeId):TK→Prop
 | .int k=>P.underlying t=some (.int k)
 | .bool=>P.underlying t=some .bool
 | .str=>P.underlying t=some .string
 | .sl e=>P.underlying t=some (.slice e)
 | .arr n e=>P.underlying t=some (.array n e)
 | .st fs=>∃fields,P.underlying t=some (.struct fields)∧fields.toList.map (fun f=>(f.type,f.offset))=fs∧EqT P t fields
 | .ptr e=>P.underlying t=some (.pointer e)∧(P.info? e).isSome=true
 | .uptr=>P.underlying t=some .unsafePointer
 | .mp=>∃k e,P.underlying t=some (.map k e)∧P.underlying k=some .string∧∀w,(zeroValue e).run P w=.ok (.int .u8 0) w
 | .other=>∃d,P.underlying t=some d∧(match d with | .struct _ | .array _ _=>False | _=>True)
def TK.agg:TK→Bool
 | .arr _ _ | .st _=>true
 | _=>false
structure TOk (P:Program) (t:TypeId) (i:TI):Prop where
 info :∃ti z,P.info? t=some ti∧ti.size=i.size∧ti.bytes=i.bytes∧ti.zero=some z∧cVals z.cells.toList=some i.zero∧z.cells.size=i.size
 kind:i.kind.ok P t
def TTok (P:Program) (T:TTab):Prop:=∀t i,T t=some i→TOk P t i
abbrev FM:=Nat→Option Nat
def cOpd (fm:FM):Operand→Option Opd
 | .tmp t=>some (.t t)
 | .const v=>match cConst v with | some x=>some (.c x) | none=>none
 | .func f=>match fm f with | some c=>some (.c (.fn c [])) | none=>none
 | .global _=>some (.c .u)
def cOpds (fm:FM):List Operand→Option (List Opd)
 | []=>some []
 | x::r=>match cOpd fm x,cOpds fm r with | some y,some l=>some (y::l) | _,_=>none
def cOpt (fm:FM):Option Operand→Option (Option Opd)
 | none=>some none
 | some x=>match cOpd fm x with | some y=>some (some y) | none=>none
def Same (G:Gh) (σ:Sl) (a:Act) (x:Operand) (y:Opd):Prop:=R G (y.ev σ) (a.eval x)
theorem cVal_ok {G:Gh} {v:Value} {x:AV} (h:cVal v=some x):R G x v:=by
 unfold cVal at h
 split at h<;>(try cases h)
 ·exact .fz _ _ (.i _ _)
 ·exact .fz _ _ (.b _)
 ·exact .fz _ _ (.s _)
 ·exact .sl .full [] none 0 0 (.sl [] none 0 0 0 0 (fun _ _=>.nilFunc) (fun h=>absurd rfl h) (Nat.le_refl _) (by simp) (by simp) (by simp)) ⟨rfl,.inl rfl⟩
 ·exact .fz _ _ .np
 ·exact .fz _ _ .nf
 ·exact .fz _ _ .ni
 ·exact .fz _ _ (.u _)
theorem cVals_ok {G:Gh} :∀{vs:List Value} {xs:List AV},cVals vs=some xs→Rs G xs vs
 | [],xs,h=>by cases h;exact ⟨rfl,by simp⟩
 | v::r,xs,h=>by
  unfold cVals at h
  split at h
  ·rename_i w l hw hl
   cases h
   have ih:=cVals_ok (G:=G) hl
   refine ⟨by simp [ih.1],fun j a u h1 h2=>?_⟩
   cases j with
   | zero=>simp at h1 h2;subst h1;subst h2;exact cVal_ok hw
   | succ j=>simp at h1 h2;exact ih.2 j a u h1 h2
  ·cases h
theorem cConst_ok {G:Gh} {v:Value} {x:AV} (h:cConst v=some x):R G x v:=by
 unfold cConst at h
 split at h
 ·rename_i cs
  split at h
  ·rename_i l hl
   cases h
   have:=cVals_ok (G:=G) hl
   have h2:R G (.ag l) (.agg cs.toList.toArray):=.ag l cs.toList this.1 this.2
   simpa using h2
  ·cases h
 ·exact cVal_ok h
theorem cOpd_ok {G:Gh} {nt:Nat} {σ:Sl} {a:Act} (hA:RelA G nt σ a) {x:Operand} {y:Opd} (h:cOpd G.fm x=some y):Same G σ a x y:=by
 unfold cOpd at h
 split at h
 ·cases h;exact hA.2.2 _
 ·split at h
  ·rename_i hc;cases h;exact cConst_ok hc
  ·cases h
 ·split at h
  ·rename_i c hc;cases h;exact .fn _ _ hc [] [] rfl (by simp)
  ·cases h
 ·cases h;exact .fz _ _ (.u _)
theorem cOpds_ok {G:Gh} {nt:Nat} {σ:Sl} {a:Act} (hA:RelA G nt σ a) :∀{xs:List Operand} {ys:List Opd},cOpds G.fm xs=some ys→Rs G (ys.map (·.ev σ)) (xs.map a.eval)
 | [],ys,h=>by cases h;exact ⟨rfl,by simp⟩
 | x::r,ys,h=>by
  unfold cOpds at h
  split at h
  ·rename_i y l hy hl
   cases h
   have ih:=cOpds_ok hA hl
   refine ⟨by simpa using ih.1,fun j b u h1 h2=>?_⟩
   cases j with
   | zero=>simp at h1 h2;subst h1;subst h2;exact cOpd_ok hA hy
   | succ j=>simp only [List.map_cons,List.getElem?_cons_succ] at h1 h2;exact ih.2 j b u h1 h2
  ·cases h
section
variable {P:Program} {G:Gh} {w:World}
theorem aint_ok {op:BinOp} {t:TypeId} {k:IntKind} {a b:Int} {r:AV} (h:aint op k a b=some r) :
  ∃v,(binOp op t (.int k a) (.int k b)).run P w=.ok v w∧R G r v:=by
 have hi :∀n:Int,R G (.i k n) (.int k n):=fun n=>.fz _ _ (.i _ _)
 have hb :∀x:Bool,R G (.b x) (.bool x):=fun n=>.fz _ _ (.b _)
 cases op with
 | add=>cases h;exact ⟨_,by simp [binOp,Op.intArith],hi _⟩
 | sub=>cases h;exact ⟨_,by simp [binOp,Op.intArith],hi _⟩
 | mul=>cases h;exact ⟨_,by simp [binOp,Op.intArith],hi _⟩
 | quo=>
  simp only [aint] at h
  split at h
  ·cases h
  ·rename_i h0;cases h;exact ⟨_,by simp [binOp,Op.intDiv,h0],hi _⟩
 | rem=>
  simp only [aint] at h
  split at h
  ·cases h
  ·rename_i h0;cases h;exact ⟨_,by simp [binOp,Op.intDiv,h0],hi _⟩
 | and=>cases h;exact ⟨_,by simp [binOp,Op.intBits],hi _⟩
 | or=>cases h;exact ⟨_,by simp [binOp,Op.intBits],hi _⟩
 | xor=>cases h;exact ⟨_,by simp [binOp,Op.intBits],hi _⟩
 | andNot=>cases h;exact ⟨_,by simp [binOp,Op.intBits],hi _⟩
 | eql=>cases h;exact ⟨_,by simp [binOp,Op.intCmp],hb _⟩
 | neq=>cases h;exact ⟨_,by simp [binOp,Op.intCmp],hb _⟩
 | lss=>cases h;exact ⟨_,by simp [binOp,Op.intCmp],hb _⟩
 | leq=>cases h;exact ⟨_,by simp [binOp,Op.intCmp],hb _⟩
 | gtr=>cases h;exact ⟨_,by simp [binOp,Op.intCmp],hb _⟩
 | geq=>cases h;exact ⟨_,by simp [binOp,Op.intCmp],hb _⟩
 | shl=>cases h
 | shr=>cases h
theorem ashift_ok {op:BinOp} {t:TypeId} {k k':IntKind} {a b:Int} {r:AV} (h:ashift op k a b=some r) :
  ∃v,(binOp op t (.int k a) (.int k' b)).run P w=.ok v w∧R G r v:=by
 have hi :∀n:Int,R G (.i k n) (.int k n):=fun n=>.fz _ _ (.i _ _)
 unfold ashift at h
 split at h
 ·cases h
 ·rename_i h0
  split at h
  ·cases h;exact ⟨_,by simp [binOp,Op.shift,h0],hi _⟩
  ·cases h;exact ⟨_,by simp [binOp,Op.shift,h0],hi _⟩
  ·cases h
theorem bin_ok {op:BinOp} {t:TypeId} {x y r:AV} {vx vy:Value} (hx:R G x vx) (hy:R G y vy) (h:abin op x y=some r) :
  ∃v,(binOp op t vx vy).run P w=.ok v w∧R G r v:=by
 unfold abin at h
 split at h
 ·rename_i k a k' b
  cases hx.int_inv
  cases hy.int_inv
  split at h
  ·exact ashift_ok h
  ·exact ashift_ok h
  ·split at h
   ·rename_i hk;subst hk;exact aint_ok h
   ·cases h
 ·rename_i a b
  cases hx.str_inv
  cases hy.str_inv
  split at h
  ·split at h
   ·rename_i hle
    cases h
    refine ⟨.string ⟨(a++b).toArray⟩,?_,.fz _ _ (.s _)⟩
    have h1:(ByteArray.mk a.toArray).size=a.length:=by simp [ByteArray.size]
    have h2:(ByteArray.mk b.toArray).size=b.length:=by simp [ByteArray.size]
    have h3:¬ (((ByteArray.mk a.toArray).size+(ByteArray.mk b.toArray).size:Nat):Int)>IntKind.i64.max:=by
     rw [h1,h2];unfold maxStr at hle;simp [IntKind.max,IntKind.bits];omega
    have h4:(ByteArray.mk a.toArray)++(ByteArray.mk b.toArray)=ByteArray.mk (a++b).toArray:=by
     apply ByteArray.ext;simp
    rw [h1,h2] at h3
    simp only [binOp,Op.stringOp,h1,h2,if_neg h3,h4,Sem.run_pure]
   ·cases h
  ·cases h;exact ⟨_,by simp [binOp,Op.stringOp],.fz _ _ (.b _)⟩
  ·cases h;exact ⟨_,by simp [binOp,Op.stringOp],.fz _ _ (.b _)⟩
  ·cases h
 ·cases h
end
end Go.AM

namespace Go.AM
open Go Go.RowKit
section
variable {P:Program} {G:Gh} {w:World} {σ:Sl} {a:Act}
theorem nat_inv {x:AV} {n:Nat} {v:Value} (h:x.nat=some n) (hx:R G x v) :∃k,v=.int k (n:Int):=by
 unfold AV.nat at h
 split at h
 ·rename_i k m
  split at h
  ·rename_i h0
   cases h
   exact ⟨k,by rw [hx.int_inv,Int.toNat_of_nonneg h0]⟩
  ·cases h
 ·cases h
def SameO (G:Gh) (σ:Sl) (a:Act):Option Operand→Option Opd→Prop
 | none,none=>True
 | some x,some y=>Same G σ a x y
 | _,_=>False
theorem cOpt_ok {nt:Nat} (hA:RelA G nt σ a) {x:Option Operand} {y:Option Opd} (h:cOpt G.fm x=some y):SameO G σ a x y:=by
 cases x with
 | none=>cases h;trivial
 | some x=>
  unfold cOpt at h
  simp only at h
  split at h
  ·rename_i y' hy
   cases h
   exact cOpd_ok hA hy
  ·cases h
theorem sliceBound_ok {k:IntKind} {i y:Nat} {code:BoundsCode} (h:i≤y):(Instr.sliceBound (.int k (i:Int)) y code).run P w=.ok i w:=by
 have:=run_sliceBound (P:=P) (w:=w) k (i:Int) y code (by omega) (by omega)
 simpa using this
theorem bnds_ok {lo hi:Option Opd} {lo' hi':Option Operand} (hlo:SameO G σ a lo' lo) (hhi:SameO G σ a hi' hi) {len cap C l h:Nat} (hb:bnds σ len cap lo hi=some (l,h)) (hC:cap≤C) (isS:Bool) :
  (Instr.sliceBounds isS len C (lo'.map a.eval) (hi'.map a.eval) none).run P w=.ok (l,h,C) w∧l≤h∧h≤cap:=by
 unfold bnds at hb
 split at hb
 ·cases hb
 ·rename_i h1 hh
  split at hb
  ·cases hb
  ·rename_i l1 hl
   split at hb
   ·rename_i hle
    cases hb
    refine ⟨?_,hle.1,hle.2⟩
    cases hi with
    | none=>
     cases hi' with
     | none=>
      cases hh
      cases lo with
      | none=>
       cases lo' with
       | none=>cases hl;simp [Instr.sliceBounds]
       | some x=>exact hlo.elim
      | some y=>
       cases lo' with
       | none=>exact hlo.elim
       | some x=>
        obtain ⟨k,hv⟩:=nat_inv hl hlo
        simp [Instr.sliceBounds,hv,sliceBound_ok hle.1]
     | some x=>exact hhi.elim
    | some y=>
     cases hi' with
     | none=>exact hhi.elim
     | some x=>
      obtain ⟨k,hv⟩:=nat_inv hh hhi
      have hle2:h≤C:=Nat.le_trans hle.2 hC
      cases lo with
      | none=>
       cases lo' with
       | none=>cases hl;simp [Instr.sliceBounds,hv,sliceBound_ok hle2]
       | some x=>exact hlo.elim
      | some y=>
       cases lo' with
       | none=>exact hlo.elim
       | some x=>
        obtain ⟨k',hv'⟩:=nat_inv hl hlo
        simp [Instr.sliceBounds,hv,hv',sliceBound_ok hle2,sliceBound_ok hle.1]
   ·cases hb
theorem slS_ok {t:TypeId} (ht:P.underlying t=some .string) {x:Opd} {x':Operand} (hx:Same G σ a x' x) {lo hi:Option Opd} {lo' hi':Option Operand} (hlo:SameO G σ a lo' lo) (hhi:SameO G σ a hi' hi) {r:AV}
  (h:(match x.ev σ with | .s l=>(bnds σ l.length l.length lo hi).map fun (a,b)=>AV.s ((l.drop a).take (b-a)) | _=>none)=some r) :∃v,(Instr.sliceAt t (a.eval x') (lo'.map a.eval) (hi'.map a.eval) none).run P w=.ok v w∧R G r v:=by
 split at h
 ·rename_i l hl
  unfold Same at hx
  rw [hl] at hx
  simp only [Option.map_eq_some_iff,Prod.exists] at h
  obtain ⟨b,c,hb,rfl⟩:=h
  have hs:(ByteArray.mk l.toArray).size=l.length:=by simp [ByteArray.size]
  obtain ⟨hr,h1,h2⟩:=bnds_ok (P:=P) (w:=w) hlo hhi hb (Nat.le_refl _) false
  refine ⟨_,?_,.fz _ _ (.s _)⟩
  rw [hx.str_inv]
  simp [Instr.sliceAt,Instr.slice,run_underlying ht,hs,hr,ByteArray.extract_mk]
 ·cases h
theorem fad_ok {s:TypeId} {fs:List (Nat × Nat)} (ht:(TK.st fs).ok P s) {f ft off:Nat} (hf:fs[f]?=some (ft,off)) {ti:TypeInfo} (hi:P.info? ft=some ti) (hz:ti.size≠0) {x:AV} {vx:Value} {r:AV}
  (h:(match x with | .p k v o=>some (.p k v (o+off)) | .fp cs=>some (.fp (cs.drop off)) | _=>none)=some r) (hx:R G x vx) :∃v,(Instr.fieldAt s vx f).run P w=.ok v w∧R G r v:=by
 obtain ⟨fields,hu,hmap,_⟩:=ht
 have hfl :∃fl,fields[f]?=some fl∧fl.type=ft∧fl.offset=off:=by
  rw [← hmap] at hf
  simp only [List.getElem?_map,Option.map_eq_some_iff,Array.getElem?_toList] at hf
  obtain ⟨fl,h1,h2⟩:=hf
  exact ⟨fl,h1,by injection h2,by injection h2⟩
 obtain ⟨fl,hfl,rfl,rfl⟩:=hfl
 have key :∀g o:Nat,(Instr.fieldAt s (.pointer (some ⟨g,o,none⟩)) f).run P w=.ok (.pointer (some ⟨g,o+fl.offset,none⟩)) w:=by
  intro g o
  simp [Instr.fieldAt,run_underlying hu,hfl,Instr.sureAddr,fieldPlace,sizeOf,typeInfo,hi,hz,Addr.add_lit]
 revert hx
 split at h
 ·intro hx
  cases h
  obtain ⟨g,rfl,hg⟩:=hx.p_inv
  exact ⟨_,key _ _,.p _ _ _ _ hg⟩
 ·intro hx
  cases h
  obtain ⟨g,o,us,rfl,h1,h2⟩:=hx.fp_inv
  refine ⟨_,key _ _,.fp _ (fun j=>us (fl.offset+j)) _ _ (fun j b hb=>?_) (fun j b hb=>?_)⟩
  ·rw [List.getElem?_drop] at hb
   rw [Nat.add_assoc]
   exact h1 _ _ hb
  ·rw [List.getElem?_drop] at hb
   exact h2 _ _ hb
 ·cases h
theorem run_isAgg {t:TypeId} {k:TK} (ht:k.ok P t):(isAgg t).run P w=.ok k.agg w:=by
 cases k with
 | int k=>simp [isAgg,run_underlying ht,TK.agg]
 | bool=>simp [isAgg,run_underlying ht,TK.agg]
 | str=>simp [isAgg,run_underlying ht,TK.agg]
 | sl e=>simp [isAgg,run_underlying ht,TK.agg]
 | ptr e=>simp [isAgg,run_underlying ht.1,TK.agg]
 | uptr=>simp [isAgg,run_underlying ht,TK.agg]
 | arr n e=>simp [isAgg,run_underlying ht,TK.agg]
 | st fs=>obtain ⟨fields,hu,_⟩:=ht;simp [isAgg,run_underlying hu,TK.agg]
 | mp=>obtain ⟨k,e,hu,_⟩:=ht;simp [isAgg,run_underlying hu,TK.agg]
 | other=>
  obtain ⟨d,hu,hd⟩:=ht
  simp only [isAgg,Sem.run_bind,run_underlying hu,Result.andThen_ok,TK.agg]
  cases d<;>first | rfl | exact hd.elim
theorem ofCells_ok {cs:List AV} {us:List Value} (hr:Rs G cs us) {agg:Bool} {r:AV} (h:ofCells agg cs=some r):(agg=true∧R G r (.agg us.toArray))∨(agg=false∧∃v,us=[v]∧R G r v):=by
 unfold ofCells at h
 cases agg with
 | true=>simp at h;subst h;exact .inl ⟨rfl,.ag _ _ hr.1 hr.2⟩
 | false=>
  simp at h
  split at h
  ·rename_i v
   cases h
   match us,hr with
   | [u],hr=>exact .inr ⟨rfl,u,rfl,hr.2 0 _ _ rfl rfl⟩
   | [],hr=>have:=hr.1;simp at this
   | _::_::_,hr=>have:=hr.1;simp at this
  ·cases h
theorem Rs.sub {cs:List AV} {us:List Value} (hr:Rs G cs us) (o n:Nat):Rs G ((cs.drop o).take n) ((us.drop o).take n):=by
 refine ⟨by simp [hr.1],fun j b u h1 h2=>?_⟩
 rw [List.getElem?_take] at h1 h2
 split at h1
 ·rename_i hj
  rw [if_pos hj] at h2
  rw [List.getElem?_drop] at h1 h2
  exact hr.2 _ _ _ h1 h2
 ·cases h1
theorem part_ok {t:TypeId} {i:TI} (hT:TOk P t i) {cs:List AV} {us:List Value} (hr:Rs G cs us) {off:Nat} {r:AV} (h:ofCells i.kind.agg ((cs.drop off).take i.size)=some r) (_hle:off+i.size≤cs.length) (h1:i.kind.agg=false→i.size=1) :
  ∃v,(part t us.toArray off).run P w=.ok v w∧R G r v:=by
 obtain ⟨ti,z,hi,hsz,_⟩:=hT.info
 rcases ofCells_ok (hr.sub off i.size) h with ⟨ha,hv⟩ | ⟨ha,v,hu,hv⟩
 ·refine ⟨_,?_,hv⟩
  simp only [part,Sem.run_bind,run_isAgg hT.kind,Result.andThen_ok,ha,if_true,sizeOf,typeInfo,run_program,hi,Sem.run_pure,hsz]
  congr 2
  simp [List.extract_toArray,List.extract_eq_take_drop]
 ·refine ⟨v,?_,hv⟩
  have hg:us[off]?=some v:=by
   have:((us.drop off).take i.size)[0]?=some v:=by rw [hu];rfl
   rw [List.getElem?_take,if_pos (by rw [h1 ha];omega),List.getElem?_drop] at this
   simpa using this
  simp only [part,Sem.run_bind,run_isAgg hT.kind,Result.andThen_ok,ha,Bool.false_eq_true,if_false,List.getElem?_toArray,hg,Sem.run_pure]
theorem fld_ok {s:TypeId} {fs:List (Nat × Nat)} (ht:(TK.st fs).ok P s) {f ft off:Nat} (hf:fs[f]?=some (ft,off)) {i:TI} (hT:TOk P ft i) (h1:i.kind.agg=false→i.size=1) {x:AV} {vx:Value} {r:AV}
  (h:(match x with | .ag cs=>if off+i.size≤cs.length then ofCells i.kind.agg ((cs.drop off).take i.size) else none | _=>none)=some r) (hx:R G x vx) :∃v,(Instr.field s vx f).run P w=.ok v w∧R G r v:=by
 obtain ⟨fields,hu,hmap,_⟩:=ht
 have hfl :∃fl,fields[f]?=some fl∧fl.type=ft∧fl.offset=off:=by
  rw [← hmap] at hf
  simp only [List.getElem?_map,Option.map_eq_some_iff,Array.getElem?_toList] at hf
  obtain ⟨fl,h1,h2⟩:=hf
  exact ⟨fl,h1,by injection h2,by injection h2⟩
 obtain ⟨fl,hfl,rfl,rfl⟩:=hfl
 revert hx
 split at h
 ·rename_i cs
  intro hx
  split at h
  ·rename_i hle
   obtain ⟨us,rfl,hr⟩:=hx.ag_inv
   obtain ⟨v,hv,hR⟩:=part_ok (P:=P) (w:=w) hT hr h hle h1
   refine ⟨v,?_,hR⟩
   simp [Instr.field,run_underlying hu,hfl,asAgg,hv]
  ·cases h
 ·cases h
theorem iaA_ok {t:TypeId} {n e:Nat} (ht:P.underlying t=some (.array n e)) {ti:TypeInfo} (hi:P.info? e=some ti) {x ix:AV} {vx vi:Value} {r:AV}
  (h:(match x,ix.nat with | .p k v o,some j=>if j<n then some (.p k v (o+j*ti.size)) else none | _,_=>none)=some r) (hx:R G x vx) (hix:R G ix vi) :∃v,(Instr.indexAt t vx vi).run P w=.ok v w∧R G r v:=by
 revert hx hix
 split at h
 ·rename_i k v o j hj
  intro hx hix
  split at h
  ·rename_i hlt
   cases h
   obtain ⟨g,rfl,hg⟩:=hx.p_inv
   obtain ⟨k',rfl⟩:=nat_inv hj hix
   refine ⟨_,?_,.p _ _ _ _ hg⟩
   have h0:(0:Int)≤(j:Int)∧(j:Int)<(n:Int):=⟨by omega,by omega⟩
   simp [Instr.indexAt,run_underlying ht,asIntOf,Instr.sureAddr,sizeOf,typeInfo,hi,Addr.add_lit,hlt]
  ·cases h
 ·cases h
theorem iaL_ok {t:TypeId} {e:Nat} (ht:P.underlying t=some (.slice e)) {ti:TypeInfo} (hi:P.info? e=some ti) {x ix:AV} {vx vi:Value} {r:AV}
  (h:(match x,ix.nat with | .sl _ rows,some k=>(match rows[k]? with | some row=>if row.length=ti.size∧0<ti.size then some (.fp row) else none | none=>none) | _,_=>none)=some r) (hx:R G x vx) (hix:R G ix vi) :∃v,(Instr.indexAt t vx vi).run P w=.ok v w∧R G r v:=by
 revert hx hix
 split at h
 ·rename_i o rows k hk
  intro hx hix
  split at h
  ·rename_i row hrow
   split at h
   ·rename_i hlen
    obtain ⟨hlen,hpos⟩:=hlen
    cases h
    obtain ⟨A,cap,rfl,hF,_⟩:=hx.sl_inv
    obtain ⟨k',rfl⟩:=nat_inv hk hix
    have hlt:k<rows.length:=by
     rcases Nat.lt_or_ge k rows.length with h | h
     ·exact h
     ·rw [List.getElem?_eq_none h] at hrow;cases hrow
    cases hF with
    | sl _ A cap size g off us hA hcap hs hH hFz=>
    have hAe:=hA (by intro h;rw [h] at hlt;simp at hlt)
    subst hAe
    have hsz:size=ti.size:=by rw [← hs k row hrow,hlen]
    subst hsz
    refine ⟨.pointer (some ⟨g,off+k*ti.size,none⟩),?_,.fp _ (us k) _ _ (fun j b hb=>hH k row j b hrow hb) (fun j b hb=>hFz k row j b hrow hb)⟩
    simp [Instr.indexAt,run_underlying ht,asIntOf,sizeOf,typeInfo,hi,Addr.add_lit,hlt]
   ·cases h
  ·cases h
 ·cases h
theorem ixS_ok {t:TypeId} (ht:P.underlying t=some .string) {x ix:AV} {vx vi:Value} {r:AV}
  (h:(match x,ix.nat with | .s l,some j=>(l[j]?).map fun c=>AV.i .u8 c.toNat | _,_=>none)=some r) (hx:R G x vx) (hix:R G ix vi) :∃v,(Instr.index t vx vi).run P w=.ok v w∧R G r v:=by
 revert hx hix
 split at h
 ·rename_i l j hj
  intro hx hix
  simp only [Option.map_eq_some_iff] at h
  obtain ⟨c,hc,rfl⟩:=h
  obtain ⟨k',rfl⟩:=nat_inv hj hix
  rw [hx.str_inv]
  have hlt:j<l.length:=by
   rcases Nat.lt_or_ge j l.length with h | h
   ·exact h
   ·rw [List.getElem?_eq_none h] at hc;cases hc
  refine ⟨_,?_,.fz _ _ (.i _ _)⟩
  have hs:(ByteArray.mk l.toArray).size=l.length:=by simp [ByteArray.size]
  have hg:(ByteArray.mk l.toArray)[j]?=some c:=by
   rw [ByteArray.getElem?_lt' _ _ (by rw [hs];exact hlt)]
   rw [List.getElem?_eq_getElem hlt] at hc
   injection hc with hc
   rw [← hc]
   rfl
  simp [Instr.index,run_underlying ht,asIntOf,hg]
 ·cases h
theorem ixA_ok {t:TypeId} {n e:Nat} (ht:P.underlying t=some (.array n e)) {i:TI} (hT:TOk P e i) (h1:i.kind.agg=false→i.size=1) {x ix:AV} {vx vi:Value} {r:AV}
  (h:(match x,ix.nat with | .ag cs,some j=>if j<n∧j*i.size+i.size≤cs.length then ofCells i.kind.agg ((cs.drop (j*i.size)).take i.size) else none | _,_=>none)=some r) (hx:R G x vx) (hix:R G ix vi) :∃v,(Instr.index t vx vi).run P w=.ok v w∧R G r v:=by
 revert hx hix
 split at h
 ·rename_i cs j hj
  intro hx hix
  split at h
  ·rename_i hle
   obtain ⟨us,rfl,hr⟩:=hx.ag_inv
   obtain ⟨k',rfl⟩:=nat_inv hj hix
   obtain ⟨v,hv,hR⟩:=part_ok (P:=P) (w:=w) hT hr h hle.2 h1
   obtain ⟨ti,z,hi,hsz,_⟩:=hT.info
   refine ⟨v,?_,hR⟩
   simp [Instr.index,run_underlying ht,asIntOf,sizeOf,typeInfo,hi,hsz,hle.1,hv]
  ·cases h
 ·cases h
theorem slL_ok {t:TypeId} {e:Nat} (ht:P.underlying t=some (.slice e)) {ti:TypeInfo} (hi:P.info? e=some ti) {x:Opd} {x':Operand} (hx:Same G σ a x' x) {lo hi':Option Opd} {lo' hi'':Option Operand} (hlo:SameO G σ a lo' lo) (hhi:SameO G σ a hi'' hi') {r:AV}
  (h:(match x.ev σ with | .sl _ rows=>if rows.all (·.length==ti.size) then (bnds σ rows.length rows.length lo hi').map fun (a,b)=>AV.sl .ext ((rows.drop a).take (b-a)) else none | _=>none)=some r) :∃v,(Instr.sliceAt t (a.eval x') (lo'.map a.eval) (hi''.map a.eval) none).run P w=.ok v w∧R G r v:=by
 split at h
 ·rename_i o rows hl
  split at h
  ·rename_i hall
   unfold Same at hx
   rw [hl] at hx
   simp only [Option.map_eq_some_iff,Prod.exists] at h
   obtain ⟨l,u,hb,rfl⟩:=h
   obtain ⟨A,cap,hv,hF,_⟩:=hx.sl_inv
   have hF':=hF
   cases hF with
   | sl _ A cap size g off us hA hcap hs hH hFz=>
   obtain ⟨hr,h1,h2⟩:=bnds_ok (P:=P) (w:=w) hlo hhi hb hcap true
   refine ⟨.slice (if cap=l then A else A.map (·.add (l*ti.size))) (u-l) (cap-l),?_,?_⟩
   ·rw [hv]
    simp [Instr.sliceAt,Instr.slice,run_underlying ht,hr,sizeOf,typeInfo,hi]
   ·have hlen:((rows.drop l).take (u-l)).length=u-l:=by simp;omega
    have hsz:rows≠[]→size=ti.size:=by
     intro hne
     cases rows with
     | nil=>exact absurd rfl hne
     | cons row rest=>
      rw [← hs 0 row rfl]
      simp at hall
      exact hall.1
    have hgo:R G (.sl .ext ((rows.drop l).take (u-l))) (.slice (if cap=l then A else A.map (·.add (l*ti.size))) ((rows.drop l).take (u-l)).length (cap-l)):=by
     refine .fz _ _ (.sl _ _ _ ti.size g (off+l*ti.size) (fun i j=>us (l+i) j) ?_ (by omega) ?_ ?_ ?_)
     ·intro hne
      have hrows:rows≠[]:=by rintro rfl;simp at hne
      have hlu:l<u:=by
       rcases Nat.lt_or_ge l u with h | h
       ·exact h
       ·exfalso;apply hne;apply List.eq_nil_of_length_eq_zero;rw [hlen];omega
      rw [if_neg (by omega),hA hrows]
      simp [Addr.add_lit]
     ·intro i row hrow
      rw [List.getElem?_take] at hrow
      split at hrow
      ·rw [List.getElem?_drop] at hrow
       rw [hs _ _ hrow]
       exact hsz (by rintro rfl;simp at hrow)
      ·cases hrow
     ·intro i row j b hrow hb
      rw [List.getElem?_take] at hrow
      split at hrow
      ·rw [List.getElem?_drop] at hrow
       have:=hH _ row j b hrow hb
       rw [hsz (by rintro rfl;simp at hrow)] at this
       rw [← this]
       congr 1
       rw [Nat.add_mul];omega
      ·cases hrow
     ·intro i row j b hrow hb
      rw [List.getElem?_take] at hrow
      split at hrow
      ·rw [List.getElem?_drop] at hrow
       exact hFz _ row j b hrow hb
      ·cases hrow
    rw [hlen] at hgo
    exact hgo
  ·cases h
 ·cases h
theorem lenS_ok {t:TypeId} (ht:P.underlying t=some .string) {x:AV} {vx:Value} {ty:TypeId} {r:AV}
  (h:(match x with | .s l=>some (AV.i .i64 l.length) | _=>none)=some r) (hx:R G x vx) :∃v,(Builtin.len_ #[t] ty #[vx]).run P w=.ok v w∧R G r v:=by
 revert hx
 split at h
 ·rename_i l
  intro hx
  cases h
  rw [hx.str_inv]
  refine ⟨.int .i64 l.length,?_,.fz _ _ (.i _ _)⟩
  have hs:(ByteArray.mk l.toArray).size=l.length:=by simp [ByteArray.size]
  simp [Builtin.len_,run_underlying ht,goInt,hs]
 ·cases h
theorem lenL_ok {t e:TypeId} (ht:P.underlying t=some (.slice e)) {x:AV} {vx:Value} {ty:TypeId} {r:AV}
  (h:(match x with | .sl _ rows=>some (AV.i .i64 rows.length) | _=>none)=some r) (hx:R G x vx) :∃v,(Builtin.len_ #[t] ty #[vx]).run P w=.ok v w∧R G r v:=by
 revert hx
 split at h
 ·rename_i o rows
  intro hx
  cases h
  obtain ⟨A,cap,rfl,_⟩:=hx.sl_inv
  refine ⟨.int .i64 rows.length,?_,.fz _ _ (.i _ _)⟩
  simp [Builtin.len_,run_underlying ht,goInt]
 ·cases h
theorem ext_ok {k:Nat} {x:AV} {vx:Value} {r:AV} (h:(match x with | .tup vs=>vs[k]? | _=>none)=some r) (hx:R G x vx) :∃v,(Instr.extract vx k).run P w=.ok v w∧R G r v:=by
 revert hx
 split at h
 ·rename_i vs
  intro hx
  obtain ⟨us,rfl,hr⟩:=hx.tup_inv
  have hk:k<us.length:=by
   rw [← hr.1]
   rcases Nat.lt_or_ge k vs.length with h' | h'
   ·exact h'
   ·rw [List.getElem?_eq_none h'] at h;cases h
  refine ⟨us[k],?_,hr.2 k _ _ h (List.getElem?_eq_getElem hk)⟩
  simp [Instr.extract,List.getElem?_eq_getElem hk]
 ·cases h
theorem un_ok {op:UnOp} {x:AV} {vx:Value} {r:AV} (h:(match op,x with | .not,.b t=>some (AV.b (!t)) | .neg,.i k n=>some (.i k (k.wrap (0-n))) | _,_=>none)=some r) (hx:R G x vx) :∃v,(Op.unary op vx).run P w=.ok v w∧R G r v:=by
 revert hx
 split at h
 ·intro hx;cases h;rw [hx.bool_inv];exact ⟨_,by simp [Op.unary],.fz _ _ (.b _)⟩
 ·intro hx;cases h;rw [hx.int_inv];exact ⟨_,by simp [Op.unary,Op.intArith],.fz _ _ (.i _ _)⟩
 ·cases h
theorem cvi_ok {src dst:TypeId} {d:TypeDesc} {k:IntKind} (hs:P.underlying src=some d) (hd:P.underlying dst=some (.int k)) {x:AV} {vx:Value} {r:AV} (h:(match x with | .i _ n=>some (AV.i k (k.wrap n)) | _=>none)=some r) (hx:R G x vx) :∃v,(convert src dst vx).run P w=.ok v w∧R G r v:=by
 revert hx
 split at h
 ·intro hx;cases h;rw [hx.int_inv];exact ⟨_,by simp [convert,run_underlying hs,run_underlying hd,Conv.intToInt],.fz _ _ (.i _ _)⟩
 ·cases h
theorem beq_ok {t:TypeId} (ht:P.underlying t=some .bool) {neg:Bool} {x y:AV} {vx vy:Value} {r:AV} (h:(match x,y with | .b x,.b y=>some (AV.b (if neg then !(x==y) else x==y)) | _,_=>none)=some r) (hx:R G x vx) (hy:R G y vy) :
  ∃v,(binOp (if neg then .neq else .eql) t vx vy).run P w=.ok v w∧R G r v:=by
 revert hx hy
 split at h
 ·intro hx hy
  cases h
  rw [hx.bool_inv,hy.bool_inv]
  have key :∀(d:Nat) (p q:Bool),(Op.equalIn (d+1) t (.bool p) (.bool q)).run P w=.ok (p==q) w:=fun d p q=>by simp [Op.equalIn,run_underlying ht]
  cases neg
  ·refine ⟨_,?_,.fz _ _ (.b _)⟩
   simp only [binOp,Bool.false_eq_true,if_false]
   simp [Op.equal,Op.maxDepth,key 9999]
  ·refine ⟨_,?_,.fz _ _ (.b _)⟩
   simp only [binOp,if_true]
   simp [Op.equal,Op.maxDepth,key 9999]
 ·cases h
theorem byteOf_inv {row:List AV} {c:UInt8} (h:byteOf row=some c):row=row8 c:=by
 unfold byteOf at h
 split at h
 ·rename_i n
  split at h
  ·rename_i hn
   cases h
   simp only [row8]
   congr 2
   have:n.toNat<256:=by omega
   have h2:(n.toNat.toUInt8).toNat=n.toNat:=by simp [Nat.toUInt8];omega
   rw [h2];omega
  ·cases h
 ·cases h
theorem bytesOf_inv :∀{rows:List (List AV)} {l:List UInt8},bytesOf rows=some l→rows=l.map row8
 | [],l,h=>by cases h;rfl
 | row::rest,l,h=>by
  unfold bytesOf at h
  split at h
  ·rename_i c l' h1 h2
   cases h
   rw [byteOf_inv h1,bytesOf_inv h2]
   rfl
  ·cases h
theorem bytesOf_row8 (l:List UInt8):bytesOf (l.map row8)=some l:=by
 induction l with
 | nil=>rfl
 | cons c l ih=>
  have:byteOf (row8 c)=some c:=by
   have hc:c.toNat<256:=c.toNat_lt
   simp only [row8,byteOf]
   rw [if_pos ⟨by omega,by omega⟩]
   simp
  simp only [List.map_cons,bytesOf,this,ih]
theorem foldl_push (l:List UInt8) :∀s:ByteArray,(l.map (fun c=>(c.toNat:Int))).foldl (fun (r:ByteArray) n=>r.push (UInt8.ofNat n.toNat)) s=ByteArray.mk (s.data.toList++l).toArray:=by
 induction l with
 | nil=>intro s;simp
 | cons c l ih=>
  intro s
  simp only [List.map_cons,List.foldl_cons]
  rw [ih]
  simp [ByteArray.push]
theorem b2s_ok {src dst e:TypeId} (hs:P.underlying src=some (.slice e)) (he:P.underlying e=some (.int .u8)) (hd:P.underlying dst=some .string) {x:AV} {vx:Value} (hext :∀g o v,G.H g o=some v→w.cell? ⟨g,o,none⟩=some v) {r:AV}
  (h:(match x with | .sl _ rows=>(bytesOf rows).map AV.s | _=>none)=some r) (hx:R G x vx) :∃v,(convert src dst vx).run P w=.ok v w∧R G r v:=by
 revert hx
 split at h
 ·rename_i o rows
  intro hx
  simp only [Option.map_eq_some_iff] at h
  obtain ⟨l,hl,rfl⟩:=h
  have hrows:=bytesOf_inv hl
  subst hrows
  obtain ⟨A,cap,rfl,hF,_⟩:=hx.sl_inv
  refine ⟨.string ⟨l.toArray⟩,?_,.fz _ _ (.s _)⟩
  rw [run_convert_bytes_string w src dst e _ _ _ hs he hd]
  cases l with
  | nil=>
   cases A with
   | none=>simp [Conv.bytesToString];rfl
   | some ad=>
    have hc:(loadCells ad 0).run P w=.ok ((([]:List Int).map (Value.int .u8)).toArray) w:=by simp [loadCells,loadCellsFrom]
    have:=run_bytesToString w ad 0 cap [] hc
    have h2:(Conv.bytesToString (.slice (some ad) 0 cap)).run P w=.ok (.string ByteArray.empty) w:=by simpa using this
    exact h2
  | cons c l=>
   cases hF with
   | sl _ A cap size g off us hA hcap hsz hH hFz=>
   have hAe:=hA (by simp)
   subst hAe
   have hsize:size=1:=by rw [← hsz 0 (row8 c) rfl];rfl
   subst hsize
   have hcells:(loadCells ⟨g,off,none⟩ (c::l).length).run P w=.ok ((((c::l).map (fun c=>(c.toNat:Int))).map (Value.int .u8)).toArray) w:=by
    have:=run_loadCells_list (P:=P) w ⟨g,off,none⟩ (((c::l).map (fun c=>(c.toNat:Int))).map (Value.int .u8)) ?_
    ·simpa using this
    ·intro j v hv
     rw [Addr.add_lit]
     simp only [List.map_map,List.getElem?_map,Option.map_eq_some_iff] at hv
     obtain ⟨d,hd,rfl⟩:=hv
     have hrow:((c::l).map row8)[j]?=some (row8 d):=by simp only [List.getElem?_map,hd,Option.map_some]
     have h1:=hH j (row8 d) 0 _ hrow rfl
     have h2:=hFz j (row8 d) 0 _ hrow rfl
     have h3:=hext _ _ _ h1
     generalize us j 0=v0 at h2 h3
     cases h2
     simpa using h3
   simp only [List.length_map]
   rw [run_bytesToString w ⟨g,off,none⟩ (c::l).length cap _ hcells]
   rw [foldl_push]
   rfl
 ·cases h
end
end Go.AM

namespace Go.AM
open Go Go.RowKit
section lists
variable {α:Type}
theorem lk_st (l:List (Key × α)) (k:Key) (a:α) (k':Key):lk (st_ l k a) k'=if k=k' then some a else lk l k':=by
 induction l with
 | nil=>simp [st_,lk]
 | cons x r ih=>
  obtain ⟨k1,b⟩:=x
  simp only [st_]
  split
  ·rename_i h;subst h;simp only [lk];split<;>rfl
  ·rename_i h
   simp only [lk]
   split
   ·rename_i h2;subst h2;rw [if_neg (fun e=>h e.symm)]
   ·rw [ih]
theorem lk_st_same (l:List (Key × α)) (k:Key) (a:α):lk (st_ l k a) k=some a:=by rw [lk_st,if_pos rfl]
theorem lk_st_ne (l:List (Key × α)) {k k':Key} (a:α) (h:k≠k'):lk (st_ l k a) k'=lk l k':=by rw [lk_st,if_neg h]
theorem lk_filter (l:List (Key × α)) (p:Key→Bool) (k:Key):lk (l.filter fun x=>p x.1) k=if p k then lk l k else none:=by
 induction l with
 | nil=>simp [lk]
 | cons x r ih=>
  obtain ⟨k1,b⟩:=x
  simp only [List.filter_cons]
  by_cases h:k1=k
  ·subst h
   cases hp:p k1 with
   | true=>simp [lk]
   | false=>simp [ih,hp]
  ·split
   ·simp only [lk,if_neg h,ih]
   ·simp only [ih,lk,if_neg h]
theorem lk_del (l:List (Key × α)) (k k':Key):lk (del l k) k'=if k'=k then none else lk l k':=by
 unfold del
 have:=lk_filter l (fun x=>decide (x≠k)) k'
 rw [this]
 by_cases h:k'=k<;>simp [h]
end lists
structure Step (G G':Gh) (w0:World) (st st':St) (w':World) (d site ver:Nat):Prop where
 le:G.Le G'
 rel:Rel G' w0 st' w'
 nx:st.nx≤st'.nx
 old :∀k v,v<st.nx→(k,v)≠((d,site),ver)→G'.ρ k v=G.ρ k v∧G'.ω k v=G.ω k v
 pend :∀k v cs,k.1≤d→v<st.nx→k≠(d,site)→G.ρ k v=none→lk st.bx k=some (v,cs)→lk st'.bx k=some (v,cs)
 newH :∀g o v,G'.H g o=some v→G.H g o=some v∨w0.heap.size≤g
section
variable {P:Program} {G:Gh} {w0 w:World} {st:St}
theorem Step.same {w':World} {d site ver:Nat} (hR:Rel G w0 st w'):Step G G w0 st st w' d site ver:=
 ⟨.refl G,hR,Nat.le_refl _,fun _ _ _ _=>⟨rfl,rfl⟩,fun _ _ _ _ _ _ _ h=>h,fun _ _ _ h=>.inl h⟩
theorem block_lt {w:World} {g:Nat} {o:Obj} (h:w.heap[g]?=some o):g<w.heap.size:=by
 rcases Nat.lt_or_ge g w.heap.size with h' | h'
 ·exact h'
 ·rw [Array.getElem?_eq_none h'] at h;cases h
theorem Rel.cell (hR:Rel G w0 st w) :∀g o v,G.H g o=some v→w.cell? ⟨g,o,none⟩=some v:=fun g o v h=>(hR.ext g o v h).1
theorem Rel.Hlt (hR:Rel G w0 st w) {g o:Nat} {v:Value} (h:G.H g o=some v):g<w.heap.size:=block_lt_of_cell (hR.ext g o v h).1
theorem Rel.grow (hR:Rel G w0 st w) {w':World} (hb:Below w.heap.size w w') {H':Hp} (hle:HLe G.H H')
  (hH :∀g o v,H' g o=some v→G.H g o=some v∨(w.heap.size≤g∧w'.cell? ⟨g,o,none⟩=some v∧v.oneCell'=true)):Rel ⟨H',G.ρ,G.ω,G.fm,G.M⟩ w0 st w':=by
 have hbox :∀g cs,BoxAt G w0 w cs g→BoxAt ⟨H',G.ρ,G.ω,G.fm,G.M⟩ w0 w' cs g:=by
  rintro g cs ⟨us,e,h1,h2,h3,h4,h5⟩
  refine ⟨us,e,h1,by rw [hb.block g (block_lt h2)];exact h2,Rs.mono (G':=⟨H',G.ρ,G.ω,G.fm,G.M⟩) ⟨hle,fun _ _ _ h=>h,fun _ _ _ h=>h,rfl,fun _ _ h=>h⟩ h3,h4,fun o=>?_⟩
  cases h:H' g o with
  | none=>exact h
  | some v=>
   rcases hH g o v h with h' | ⟨h',_⟩
   ·rw [h5 o] at h';cases h'
   ·have:=block_lt h2;omega
 refine ⟨?_,?_,fun k ver cs g h1 h2=>hbox g cs (hR.bx k ver cs g h1 h2),hR.inj,?_,hR.owinj,hR.fresh,fun k ver cs g hb' h1 h2=>?_,fun k ver n hb' h1 g cap size h2=>?_,fun b l hb'=>(hR.mp b l hb').keep fun es clock h=>hb.block b (block_lt h)⟩
 rotate_left 3
 ·obtain ⟨us,h3,h3n⟩:=hR.bxT k ver cs g hb' h1 h2
  exact ⟨us,by rw [hb.block g (block_lt h3)];exact h3,h3n⟩
 ·obtain ⟨us,h3⟩:=hR.owT k ver n hb' h1 g cap size h2
  exact ⟨us,by rw [hb.block g (block_lt h3)];exact h3⟩
 ·have hsz:=hR.bel.size
  exact hR.bel.trans (hb.mono hsz)
 ·intro g o v h
  rcases hH g o v h with h' | ⟨_,h1,h2⟩
  ·have hlt:=hR.Hlt h'
   obtain ⟨h1,h2⟩:=hR.ext g o v h'
   exact ⟨by rw [hb.cell (p:=⟨g,o,none⟩) hlt];exact h1,h2⟩
  ·exact ⟨h1,h2⟩
 ·intro k ver n h
  obtain ⟨g,cap,size,h1,⟨cur,e,h2,h3,h4,h5,h6,h7⟩,h8⟩:=hR.ow k ver n h
  refine ⟨g,cap,size,h1,⟨cur,e,h2,by rw [hb.block g (block_lt h3)];exact h3,h4,h5,h6,fun o ho=>?_⟩,h8⟩
  cases h':H' g o with
  | none=>exact h'
  | some v=>
   rcases hH g o v h' with h'' | ⟨h'',_⟩
   ·rw [h7 o ho] at h'';cases h''
   ·have:=block_lt h3;omega
theorem Rel.below (hR:Rel G w0 st w) {w':World} (hb:Below w.heap.size w w'):Rel G w0 st w':=
 hR.grow hb (H':=G.H) (fun _ _ _ h=>h) (fun _ _ _ h=>.inl h)
theorem Step.grow (hR:Rel G w0 st w) {w':World} (hb:Below w.heap.size w w') {H':Hp} (hle:HLe G.H H')
  (hH :∀g o v,H' g o=some v→G.H g o=some v∨(w.heap.size≤g∧w'.cell? ⟨g,o,none⟩=some v∧v.oneCell'=true)) {d site ver:Nat}:Step G ⟨H',G.ρ,G.ω,G.fm,G.M⟩ w0 st st w' d site ver:=
 ⟨⟨hle,fun _ _ _ h=>h,fun _ _ _ h=>h,rfl,fun _ _ h=>h⟩,hR.grow hb hle hH,Nat.le_refl _,fun _ _ _ _=>⟨rfl,rfl⟩,fun _ _ _ _ _ _ _ h=>h,fun g o v h=>by
  rcases hH g o v h with h' | ⟨h',_⟩
  ·exact .inl h'
  ·exact .inr (Nat.le_trans hR.bel.size h')⟩
theorem Rel.setM (hR:Rel G w0 st w) {M':Nat→Option (List (List UInt8 × Int))} (hle :∀b l,G.M b=some l→M' b=some l) (hM :∀b l,M' b=some l→MapAt w b l):Rel ⟨G.H,G.ρ,G.ω,G.fm,M'⟩ w0 st w:=
 ⟨hR.bel,hR.ext,fun k ver cs g h1 h2=>by
  obtain ⟨us,e,a1,a2,a3,a4,a5⟩:=hR.bx k ver cs g h1 h2
  exact ⟨us,e,a1,a2,Rs.mono (G:=G) (G':=⟨G.H,G.ρ,G.ω,G.fm,M'⟩) ⟨fun _ _ _ h=>h,fun _ _ _ h=>h,fun _ _ _ h=>h,rfl,hle⟩ a3,a4,a5⟩,hR.inj,hR.ow,hR.owinj,hR.fresh,hR.bxT,hR.owT,hM⟩
theorem Step.setM {G':Gh} {st':St} {w':World} {d site ver:Nat} (h:Step G G' w0 st st' w' d site ver) {M':Nat→Option (List (List UInt8 × Int))} (hle :∀b l,G'.M b=some l→M' b=some l) (hM :∀b l,M' b=some l→MapAt w' b l):Step G ⟨G'.H,G'.ρ,G'.ω,G'.fm,M'⟩ w0 st st' w' d site ver:=
 ⟨h.le.trans (B:=G') ⟨fun _ _ _ h=>h,fun _ _ _ h=>h,fun _ _ _ h=>h,rfl,hle⟩,h.rel.setM hle hM,h.nx,h.old,h.pend,h.newH⟩
theorem aload_ok (hR:Rel G w0 st w) {t:TypeId} {i:TI} (hT:TOk P t i) (_h1:i.kind.agg=false→i.size=1) {x r:AV} {vx:Value} (h:aload st i.size i.kind.agg x=some r) (hx:R G x vx) :
  ∃v,(Instr.loadAt t vx).run P w=.ok v w∧R G r v:=by
 obtain ⟨ti,z,hi,hsz,_⟩:=hT.info
 have key :∀(g o:Nat) (us:List Value),us.length=i.size→(∀(j:Nat) v,us[j]?=some v→w.cell? ⟨g,o+j,none⟩=some v)→∀{cs:List AV},Rs G cs us→ofCells i.kind.agg cs=some r→
   ∃v,(Instr.loadAt t (.pointer (some ⟨g,o,none⟩))).run P w=.ok v w∧R G r v:=by
  intro g o us hl hc cs hr ho
  rcases ofCells_ok hr ho with ⟨ha,hv⟩ | ⟨ha,v,rfl,hv⟩
  ·refine ⟨_,?_,hv⟩
   have hlc:=run_loadCells_list (P:=P) w ⟨g,o,none⟩ us (fun j v h=>by rw [Addr.add_lit];exact hc j v h)
   rw [hl] at hlc
   simp only [Instr.loadAt,Instr.sureAddr,Sem.run_bind,Sem.run_pure,Result.andThen_ok,loadVar,run_isAgg hT.kind,ha,if_true,sizeOf,typeInfo,run_program,hi,hsz,hlc]
  ·refine ⟨v,?_,hv⟩
   have:=hc 0 v rfl
   simp only [Nat.add_zero] at this
   simp only [Instr.loadAt,Instr.sureAddr,Sem.run_bind,Sem.run_pure,Result.andThen_ok,loadVar,run_isAgg hT.kind,ha,Bool.false_eq_true,if_false,run_load,this]
 unfold aload at h
 revert hx
 split at h
 ·rename_i cs
  intro hx
  split at h
  ·rename_i hle
   obtain ⟨g,o,us,rfl,hH,hF⟩:=hx.fp_inv
   have hlen:(cs.take i.size).length=i.size:=by simp;omega
   refine key g o ((List.range i.size).map us) (by simp) ?_ (cs:=cs.take i.size) ⟨by simp [hlen],?_⟩ h
   ·intro j v hv
    simp only [List.getElem?_map,Option.map_eq_some_iff] at hv
    obtain ⟨j',hj,rfl⟩:=hv
    have hj2:j'=j∧j<i.size:=by
     rcases Nat.lt_or_ge j i.size with h' | h'
     ·rw [List.getElem?_range h'] at hj;injection hj with hj;exact ⟨hj.symm,h'⟩
     ·rw [List.getElem?_eq_none (by simpa using h')] at hj;cases hj
    obtain ⟨rfl,hlt⟩:=hj2
    exact (hR.ext _ _ _ (hH j' cs[j'] (List.getElem?_eq_getElem (by omega)))).1
   ·intro j b u hb hu
    rw [List.getElem?_take] at hb
    split at hb
    ·rename_i hj
     simp only [List.getElem?_map,List.getElem?_range hj,Option.map_some] at hu
     injection hu with hu
     rw [← hu]
     exact .fz _ _ (hF j b hb)
    ·cases hb
  ·cases h
 ·rename_i k v o
  intro hx
  split at h
  ·rename_i v' cs hlk
   split at h
   ·rename_i hle
    obtain ⟨rfl,hle⟩:=hle
    obtain ⟨g,rfl,hρ⟩:=hx.p_inv
    obtain ⟨us,e,_,hheap,hr,_,_⟩:=hR.bx k v' cs g hlk hρ
    have hl:us.length=cs.length:=hr.1.symm
    refine key g o ((us.drop o).take i.size) (by simp;omega) ?_ (hr.sub o i.size) h
    intro j u hu
    rw [List.getElem?_take] at hu
    split at hu
    ·rw [List.getElem?_drop] at hu
     simp [World.cell?,hheap,hu]
    ·cases hu
   ·cases h
  ·cases h
 ·cases h
theorem Rel.setBox (hR:Rel G w0 st w) {k:Key} {ver g:Nat} {cs:List AV} (hk:lk st.bx k=some (ver,cs)) (hρ:G.ρ k ver=some g) {us:List Value} {cs':List AV} (hr:Rs G cs' us) (h1 :∀x∈us,x.oneCell'=true) (hN:bigSite≤k.2→cs'[1]?=some (.sl .full [])→us[1]?=some (.slice none 0 0)) :
  Rel G w0 { st with bx:=st_ st.bx k (ver,cs') } (w.setRow g us.toArray):=by
 obtain ⟨us0,e,hge,hheap,_,_,hnone⟩:=hR.bx k ver cs g hk hρ
 have hget :∀k' ver' cs1,lk (st_ st.bx k (ver,cs')) k'=some (ver',cs1)→(k'=k∧ver'=ver∧cs1=cs')∨(k'≠k∧lk st.bx k'=some (ver',cs1)):=by
  intro k' ver' cs1 h
  rw [lk_st] at h
  split at h
  ·rename_i he;cases h;exact .inl ⟨he.symm,rfl,rfl⟩
  ·rename_i he;exact .inr ⟨fun e=>he e.symm,h⟩
 refine ⟨?_,?_,?_,?_,?_,hR.owinj,hR.fresh,?_,?_,fun b l hb=>(hR.mp b l hb).keep fun es clock hm=>setRow_other w g b us.toArray (fun e=>by rw [e,hheap] at hm;cases hm)⟩
 rotate_left 5
 ·intro k' ver' cs1 g' hb h hg'
  rcases hget _ _ _ h with ⟨rfl,rfl,rfl⟩ | ⟨hne,h⟩
  ·obtain ⟨us',h3,_⟩:=hR.bxT _ _ _ g' hb hk hg'
   rw [hρ] at hg'
   cases hg'
   rw [hheap] at h3
   injection h3 with h3
   injection h3 with _ h3
   exact ⟨_,by rw [← h3];exact setRow_heap w g _ _ e (0,0) hheap,fun h=>by simpa using hN hb h⟩
  ·obtain ⟨us',h3,h3n⟩:=hR.bxT k' ver' cs1 g' hb h hg'
   refine ⟨us',?_,h3n⟩
   rw [setRow_other w g g' us.toArray (fun e=>hne (hR.inj k' k ver' ver cs1 cs g' h hk hg' (e ▸ hρ)))]
   exact h3
 ·intro k' ver' n hb h g' cap size hω
  obtain ⟨us',h3⟩:=hR.owT k' ver' n hb h g' cap size hω
  obtain ⟨g1,cap1,size1,h1',_,h8⟩:=hR.ow k' ver' n h
  rw [hω] at h1'
  cases h1'
  refine ⟨us',?_⟩
  rw [setRow_other w g g' us.toArray (fun e=>h8 k ver cs hk (e ▸ hρ))]
  exact h3
 ·exact hR.bel.trans ⟨rfl,rfl,rfl,by simp,fun i hi=>setRow_other w g i us.toArray (by omega)⟩
 ·intro g' o v h
  obtain ⟨h2,h3⟩:=hR.ext g' o v h
  refine ⟨?_,h3⟩
  rw [cell_setRow_other w g us.toArray ⟨g',o,none⟩ (by rintro rfl;rw [hnone o] at h;cases h)]
  exact h2
 ·intro k' ver' cs1 g' h hg'
  rcases hget _ _ _ h with ⟨rfl,rfl,rfl⟩ | ⟨hne,h⟩
  ·rw [hρ] at hg'
   cases hg'
   exact ⟨us,e,hge,setRow_heap w g _ _ e (0,0) hheap,hr,h1,hnone⟩
  ·obtain ⟨us1,e1,a1,a2,a3,a4,a5⟩:=hR.bx k' ver' cs1 g' h hg'
   refine ⟨us1,e1,a1,?_,a3,a4,a5⟩
   rw [setRow_other w g g' us.toArray (fun e=>hne (hR.inj k' k ver' ver cs1 cs g' h hk hg' (e ▸ hρ)))]
   exact a2
 ·intro k1 k2 v1 v2 c1 c2 g' h1 h2 r1 r2
  have conv :∀k' v' c',lk (st_ st.bx k (ver,cs')) k'=some (v',c')→∃c'',lk st.bx k'=some (v',c''):=by
   intro k' v' c' h
   rcases hget _ _ _ h with ⟨rfl,rfl,rfl⟩ | ⟨_,h⟩
   ·exact ⟨_,hk⟩
   ·exact ⟨_,h⟩
  obtain ⟨c1',h1'⟩:=conv _ _ _ h1
  obtain ⟨c2',h2'⟩:=conv _ _ _ h2
  exact hR.inj k1 k2 v1 v2 c1' c2' g' h1' h2' r1 r2
 ·intro k' ver' n h
  obtain ⟨g',cap,size,h1',⟨cur,e',a1,a2,a3,a4,a5,a6⟩,h8⟩:=hR.ow k' ver' n h
  refine ⟨g',cap,size,h1',⟨cur,e',a1,?_,a3,a4,a5,a6⟩,?_⟩
  ·rw [setRow_other w g g' us.toArray (fun e=>h8 k ver cs hk (e ▸ hρ))]
   exact a2
  ·intro k2 v2 c2 h2 r2
   rcases hget _ _ _ h2 with ⟨rfl,rfl,rfl⟩ | ⟨_,h2⟩
   ·exact h8 _ _ _ hk r2
   ·exact h8 _ _ _ h2 r2
theorem setAt_length :∀(vs:List AV) (cs:List AV) (o:Nat),(setAt cs o vs).length=cs.length
 | [],cs,o=>rfl
 | v::r,cs,o=>by simp [setAt,setAt_length r]
theorem setAt_get :∀(vs:List AV) (cs:List AV) (o:Nat),o+vs.length≤cs.length→∀j,(setAt cs o vs)[j]?=if o≤j∧j<o+vs.length then vs[j-o]? else cs[j]?
 | [],cs,o,_,j=>by simp [setAt];omega
 | v::r,cs,o,h,j=>by
  simp only [List.length_cons] at h
  rw [setAt,setAt_get r (cs.set o v) (o+1) (by simp;omega) j]
  by_cases hj:o=j
  ·subst hj
   rw [if_neg (by omega),if_pos (by simp),List.getElem?_set_self (by omega)]
   simp
  ·by_cases h2:o+1≤j∧j<o+1+r.length
   ·rw [if_pos h2,if_pos (by simp;omega)]
    have:j-o=(j-(o+1))+1:=by omega
    rw [this,List.getElem?_cons_succ]
   ·rw [if_neg h2,if_neg (by simp;omega),List.getElem?_set_ne hj]
theorem Rs.setAt_ {cs vs:List AV} {us xs:List Value} (hr:Rs G cs us) (hv:Rs G vs xs) {o:Nat} (hle:o+vs.length≤cs.length):Rs G (setAt cs o vs) (us.take o++xs++us.drop (o+xs.length)):=by
 have hl:=hr.1
 have hlx:=hv.1
 refine ⟨by rw [setAt_length];simp;omega,fun j a u h1 h2=>?_⟩
 rw [setAt_get vs cs o hle j] at h1
 rw [List.append_assoc,List.getElem?_append] at h2
 simp only [List.length_take] at h2
 by_cases hj:j<o
 ·rw [if_neg (by omega)] at h1
  rw [if_pos (by omega),List.getElem?_take,if_pos hj] at h2
  exact hr.2 j a u h1 h2
 ·rw [if_neg (by omega),List.getElem?_append,show min o us.length=o from by omega] at h2
  by_cases hj2:j<o+vs.length
  ·rw [if_pos ⟨by omega,hj2⟩] at h1
   rw [if_pos (by omega)] at h2
   exact hv.2 _ a u h1 h2
  ·rw [if_neg (by omega)] at h1
   rw [if_neg (by omega),List.getElem?_drop] at h2
   refine hr.2 j a u h1 ?_
   rw [← h2]
   congr 1
   omega
theorem split_get {us xs:List Value} {o j:Nat} (hle:o+xs.length≤us.length) (hj:¬(o≤j∧j<o+xs.length)):(us.take o++xs++us.drop (o+xs.length))[j]?=us[j]?:=by
 rw [List.append_assoc,List.getElem?_append]
 simp only [List.length_take]
 by_cases h:j<o
 ·rw [if_pos (by omega),List.getElem?_take,if_pos h]
 ·rw [if_neg (by omega),List.getElem?_append,if_neg (by omega),List.getElem?_drop]
  congr 1
  omega
theorem astore_ok (hR:Rel G w0 st w) {t:TypeId} {i:TI} (hT:TOk P t i) {x y:AV} {vx vy:Value} {st':St} (h:astore st i.size x y=some st') (hx:R G x vx) (hy:R G y vy) {d site ver:Nat} :
  ∃w',(Instr.storeAt t vx vy).run P w=.ok () w'∧Step G G w0 st st' w' d site ver:=by
 obtain ⟨ti,z,hi,hsz,_⟩:=hT.info
 unfold astore at h
 revert hx
 split at h
 ·rename_i k v o
  intro hx
  split at h
  ·rename_i v' cs hlk
   split at h
   ·rename_i hle
    obtain ⟨rfl,hle,hlen,hone,hok⟩:=hle
    cases h
    obtain ⟨g,rfl,hρ⟩:=hx.p_inv
    obtain ⟨us,e,hge,hheap,hr,hu1,hnone⟩:=hR.bx k v' cs g hlk hρ
    obtain ⟨xs,hxs,hrx,hlx,hx1⟩:=hy.cells hone
    have hl:us.length=cs.length:=hr.1.symm
    have hst:=run_storeCells_at (P:=P) g o e xs 0 us.toArray w hheap (by simp;omega) hx1
    simp only [Nat.add_zero] at hst
    refine ⟨_,?_,⟨.refl G,hR.setBox hlk hρ (hr.setAt_ hrx (by omega)) ?_ ?_,Nat.le_refl _,fun _ _ _ _=>⟨rfl,rfl⟩,?_,fun _ _ _ h=>.inl h⟩⟩
    ·have hsize:¬ (xs.toArray.size≠ti.size):=by rw [hsz];simp;omega
     simp only [Instr.storeAt,Instr.sureAddr,Sem.run_bind,Sem.run_pure,Result.andThen_ok,storeVar,sizeOf,typeInfo,run_program,hi,hxs]
     rw [if_neg hsize,hst]
    ·intro u hu
     simp only [List.mem_append] at hu
     rcases hu with (hu | hu) | hu
     ·exact hu1 u (List.mem_of_mem_take hu)
     ·exact hx1 u hu
     ·exact hu1 u (List.mem_of_mem_drop hu)
    ·intro hb hcs
     obtain ⟨us',h3,h3n⟩:=hR.bxT k v' cs g hb hlk hρ
     rw [hheap] at h3
     injection h3 with h3
     injection h3 with h3
     subst h3
     rw [setAt_get y.cells cs o (by omega) 1] at hcs
     split at hcs
     ·exfalso
      have:y.cells.any AV.isF0=true:=List.any_eq_true.2 ⟨_,List.mem_of_getElem? hcs,rfl⟩
      unfold okSt at hok
      rw [this] at hok
      have h9:Nat.blt k.2 bigSite=true:=by simpa using hok
      rw [Nat.blt_eq] at h9
      omega
     ·rename_i hnr
      have h8:=h3n hcs
      rw [split_get (by omega) (by omega)]
      simpa using h8
    ·intro k' v2 cs2 _ _ _ hn h2
     have hne:k≠k':=by
      rintro rfl
      rw [hlk] at h2
      cases h2
      rw [hρ] at hn
      cases hn
     simpa [lk_st_ne st.bx _ hne] using h2
   ·cases h
  ·cases h
 ·cases h
end
end Go.AM

namespace Go.AM
open Go Go.RowKit
def Gh.setρ (G:Gh) (k:Key) (v g:Nat):Gh:=⟨G.H,fun k' v'=>if k'=k∧v'=v then some g else G.ρ k' v',G.ω,G.fm,G.M⟩
section
variable {P:Program} {G:Gh} {w0 w:World} {st:St}
theorem Gh.le_setρ {k:Key} {v:Nat} (h:G.ρ k v=none) (g:Nat):G.Le (G.setρ k v g):=
 ⟨fun _ _ _ h=>h,fun k' v' g' h'=>by
  show (if k'=k∧v'=v then some g else G.ρ k' v')=some g'
  rw [if_neg (by rintro ⟨rfl,rfl⟩;rw [h] at h';cases h')]
  exact h',fun _ _ _ h=>h,rfl,fun _ _ h=>h⟩
theorem Rel.newBox (hR:Rel G w0 st w) {key:Key} {ver:Nat} {cs:List AV} {us:List Value} {e:TypeId} (hT:bigSite≤key.2→e=btOf G.fm) (hN:bigSite≤key.2→cs[1]?=some (.sl .full [])→us[1]?=some (.slice none 0 0)) (hr:Rs G cs us) (h1 :∀x∈us,x.oneCell'=true) (hρ:G.ρ key ver=none) (hv:ver<st.nx)
  {bx':List (Key × Nat × List AV)} (hk:lk bx' key=some (ver,cs)) (hne :∀k,k≠key→lk bx' k=lk st.bx k) :
  Rel (G.setρ key ver w.heap.size) w0 { st with bx:=bx' } (w.alloc (.cells us.toArray e)):=by
 have hle:=G.le_setρ hρ w.heap.size
 have hbel:Below w.heap.size w (w.alloc (.cells us.toArray e)):=(Below.refl _ _).alloc (Nat.le_refl _) _
 have hsz:=hR.bel.size
 have hold :∀k v g,(G.setρ key ver w.heap.size).ρ k v=some g→(k=key∧v=ver∧g=w.heap.size)∨G.ρ k v=some g:=by
  intro k v g h
  have h':(if k=key∧v=ver then some w.heap.size else G.ρ k v)=some g:=h
  split at h'
  ·rename_i hh;cases h';exact .inl ⟨hh.1,hh.2,rfl⟩
  ·exact .inr h'
 have hbox :∀g cs,BoxAt G w0 w cs g→BoxAt (G.setρ key ver w.heap.size) w0 (w.alloc (.cells us.toArray e)) cs g∧g<w.heap.size:=by
  rintro g cs ⟨us1,e1,a1,a2,a3,a4,a5⟩
  exact ⟨⟨us1,e1,a1,by rw [hbel.block g (block_lt a2)];exact a2,a3.mono hle,a4,a5⟩,block_lt a2⟩
 -- an entry other than the new one is an old one
 have hent :∀k v c g,lk bx' k=some (v,c)→(G.setρ key ver w.heap.size).ρ k v=some g→(k=key∧v=ver∧c=cs∧g=w.heap.size)∨(k≠key∧lk st.bx k=some (v,c)∧G.ρ k v=some g∧g<w.heap.size):=by
  intro k v c g hl hg
  by_cases hkk:k=key
  ·subst hkk
   rw [hk] at hl
   cases hl
   rcases hold _ _ _ hg with ⟨_,_,rfl⟩ | h
   ·exact .inl ⟨rfl,rfl,rfl,rfl⟩
   ·rw [hρ] at h;cases h
  ·rw [hne k hkk] at hl
   rcases hold _ _ _ hg with ⟨rfl,_⟩ | h
   ·exact absurd rfl hkk
   ·exact .inr ⟨hkk,hl,h,(hbox g c (hR.bx k v c g hl h)).2⟩
 refine ⟨hR.bel.trans (hbel.mono hsz),?_,?_,?_,?_,hR.owinj,?_,?_,?_,fun b l hb=>(hR.mp b l hb).keep fun es clock h=>hbel.block b (block_lt h)⟩
 rotate_left 5
 ·intro k v c g hb hl hg
  rcases hent k v c g hl hg with ⟨rfl,rfl,rfl,rfl⟩ | ⟨_,h1',h2',_⟩
  ·exact ⟨_,by rw [show btOf (G.setρ _ _ _).fm=btOf G.fm from rfl,← hT hb];exact heap_alloc_new w _,fun h=>by simpa using hN hb h⟩
  ·obtain ⟨us',h3,h3n⟩:=hR.bxT k v c g hb h1' h2'
   exact ⟨us',by rw [hbel.block g (block_lt h3)];exact h3,h3n⟩
 ·intro k v n hb h g cap size hω
  obtain ⟨us',h3⟩:=hR.owT k v n hb h g cap size hω
  exact ⟨us',by rw [hbel.block g (block_lt h3)];exact h3⟩
 ·intro g o v h
  have hlt:=hR.Hlt (G:=G) h
  obtain ⟨a,b⟩:=hR.ext g o v h
  exact ⟨by rw [hbel.cell (p:=⟨g,o,none⟩) hlt];exact a,b⟩
 ·intro k v c g hl hg
  rcases hent k v c g hl hg with ⟨rfl,rfl,rfl,rfl⟩ | ⟨_,h1',h2',_⟩
  ·refine ⟨us,e,hsz,heap_alloc_new w _,hr.mono hle,h1,fun o=>?_⟩
   cases h:G.H w.heap.size o with
   | none=>exact h
   | some v=>have:=hR.Hlt h;omega
  ·exact (hbox g c (hR.bx k v c g h1' h2')).1
 ·intro k k' v v' c c' g a1 a2 a3 a4
  rcases hent k v c g a1 a3 with ⟨rfl,rfl,rfl,rfl⟩ | ⟨_,b1,b2,b3⟩
  ·rcases hent k' v' c' _ a2 a4 with ⟨rfl,_⟩ | ⟨_,_,_,b3⟩
   ·rfl
   ·omega
  ·rcases hent k' v' c' g a2 a4 with ⟨rfl,rfl,rfl,rfl⟩ | ⟨_,d1,d2,_⟩
   ·omega
   ·exact hR.inj k k' v v' c c' g b1 d1 b2 d2
 ·intro k v n h
  obtain ⟨g,cap,size,h1',⟨cur,e',a1,a2,a3,a4,a5,a6⟩,h8⟩:=hR.ow k v n h
  refine ⟨g,cap,size,h1',⟨cur,e',a1,by rw [hbel.block g (block_lt a2)];exact a2,a3,a4,a5,a6⟩,?_⟩
  intro k2 v2 c2 hl hg
  rcases hent k2 v2 c2 g hl hg with ⟨_,_,_,rfl⟩ | ⟨_,b1,b2,_⟩
  ·have:=block_lt a2;omega
  ·exact h8 k2 v2 c2 b1 b2
 ·intro k v hkv
  have:=hR.fresh k v hkv
  refine ⟨?_,this.2⟩
  show (if k=key∧v=ver then some w.heap.size else G.ρ k v)=none
  rw [if_neg (by rintro ⟨_,rfl⟩;have:st.nx≤v:=hkv;omega)]
  exact this.1
theorem Step.newBox (hR:Rel G w0 st w) {d site ver:Nat} {cs:List AV} {us:List Value} {e:TypeId} (hT:bigSite≤site→e=btOf G.fm) (hN:bigSite≤site→cs[1]?=some (.sl .full [])→us[1]?=some (.slice none 0 0)) (hr:Rs G cs us) (h1 :∀x∈us,x.oneCell'=true) (hρ:G.ρ (d,site) ver=none) (hv:ver<st.nx)
  {bx':List (Key × Nat × List AV)} (hk:lk bx' (d,site)=some (ver,cs)) (hne :∀k,k≠(d,site)→lk bx' k=lk st.bx k) :
  Step G (G.setρ (d,site) ver w.heap.size) w0 st { st with bx:=bx' } (w.alloc (.cells us.toArray e)) d site ver:=
 ⟨G.le_setρ hρ _,hR.newBox hT hN hr h1 hρ hv hk hne,Nat.le_refl _,fun k v _ hn=>⟨by
  show (if k=(d,site)∧v=ver then some w.heap.size else G.ρ k v)=_
  rw [if_neg (by rintro ⟨rfl,rfl⟩;exact hn rfl)],rfl⟩,fun k v cs _ _ hn _ hl=>by show lk bx' k=_;rw [hne k hn];exact hl,fun _ _ _ h=>.inl h⟩
theorem cVal_one {v:Value} {x:AV} (h:cVal v=some x):v.oneCell'=true:=by
 unfold cVal at h
 split at h<;>first | rfl | cases h
theorem cVals_one :∀{vs:List Value} {xs:List AV},cVals vs=some xs→∀v∈vs,v.oneCell'=true
 | [],_,_,v,hv=>by cases hv
 | a::r,xs,h,v,hv=>by
  unfold cVals at h
  split at h
  ·rename_i w l hw hl
   rcases List.mem_cons.1 hv with rfl | hv
   ·exact cVal_one hw
   ·exact cVals_one hl v hv
  ·cases h
theorem cVals_nil :∀{vs:List Value} {xs:List AV},cVals vs=some xs→∀{j:Nat},xs[j]?=some (.sl .full [])→vs[j]?=some (.slice none 0 0)
 | [],xs,h,j,hj=>by cases h;simp at hj
 | a::r,xs,h,j,hj=>by
  unfold cVals at h
  split at h
  ·rename_i w l hw hl
   cases h
   cases j with
   | zero=>
    simp only [List.getElem?_cons_zero,Option.some.injEq] at hj ⊢
    subst hj
    unfold cVal at hw
    split at hw<;>first | rfl | cases hw
   | succ j=>
    rw [List.getElem?_cons_succ] at hj ⊢
    exact cVals_nil hl hj
  ·cases h
theorem aalloc_ok (hR:Rel G w0 st w) {t:TypeId} {i:TI} (hT:TOk P t i) {d site ver:Nat} (hB:bigSite≤site→t=btOf G.fm) (hk:lk st.bx (d,site)=some (ver,i.zero)) (hρ:G.ρ (d,site) ver=none) (hv:ver<st.nx) :
  ∃v w' G',(Instr.alloc t true (.tuple #[])).run P w=.ok v w'∧R G' (.p (d,site) ver 0) v∧Step G G' w0 st st w' d site ver:=by
 obtain ⟨ti,z,hi,_,_,hz,hc,_⟩:=hT.info
 have hst:=Step.newBox (e:=t) hR hB (fun _ h=>cVals_nil hc h) (cVals_ok (G:=G) hc) (cVals_one hc) hρ hv (bx':=st.bx) hk (fun _ _=>rfl)
 refine ⟨_,_,_,?_,.p _ _ _ w.heap.size ?_,hst⟩
 ·simp only [Instr.alloc,zeroValue,typeInfo,Sem.run_bind,run_program,Result.andThen_ok,hi,hz,Sem.run_pure,newVar,newRow,run_newObj]
  rfl
 ·show (if _=_∧_=_ then some w.heap.size else _)=some w.heap.size
  rw [if_pos ⟨rfl,rfl⟩]
theorem abox_ok (hR:Rel G w0 st w) {t:TypeId} {x:AV} {vx:Value} (hx:R G x vx) (hone:x.cells.all AV.one=true) {d site ver:Nat} (hB:bigSite≤site→False) (hρ:G.ρ (d,site) ver=none) (hv:ver<st.nx) :
  ∃v w' G',(Instr.box t vx).run P w=.ok v w'∧R G' (.p (d,site) ver 0) v∧Step G G' w0 st { st with bx:=st_ st.bx (d,site) (ver,x.cells) } w' d site ver:=by
 obtain ⟨us,hus,hr,_,h1⟩:=hx.cells hone
 have hst:=Step.newBox (e:=t) hR (fun h=>(hB h).elim) (fun h=>(hB h).elim) hr h1 hρ hv (bx':=st_ st.bx (d,site) (ver,x.cells)) (lk_st_same _ _ _) (fun k hk=>lk_st_ne _ _ (Ne.symm hk))
 refine ⟨_,_,_,?_,.p _ _ _ w.heap.size ?_,hst⟩
 ·simp only [Instr.box,newVar,newRow,Sem.run_bind,run_newObj,Result.andThen_ok,Sem.run_pure,hus]
  rfl
 ·show (if _=_∧_=_ then some w.heap.size else _)=some w.heap.size
  rw [if_pos ⟨rfl,rfl⟩]
theorem soft_ok {x y:AV} {v:Value} (h:x.soft=some y) (hx:R G x v):Fz G.H y v:=by
 cases x with
 | sl o rows=>cases h;obtain ⟨A,cap,rfl,hF,_⟩:=hx.sl_inv;exact hF
 | i k n=>cases h;rw [hx.int_inv];exact .i _ _
 | b t=>cases h;rw [hx.bool_inv];exact .b _
 | s l=>cases h;rw [hx.str_inv];exact .s _
 | np=>cases h;rw [hx.np_inv];exact .np
 | nf=>cases h;rw [hx.nf_inv];exact .nf
 | ni=>cases h;rw [hx.ni_inv];exact .ni
 | mp=>cases h
 | p=>cases h
 | fp=>cases h
 | ag=>cases h
 | tup=>cases h
 | fn=>cases h
 | bf=>cases h
 | u=>cases h
theorem softs_len :∀{xs ys:List AV},softs xs=some ys→ys.length=xs.length
 | [],ys,h=>by cases h;rfl
 | v::r,ys,h=>by
  unfold softs at h
  split at h
  ·rename_i w l hw hl;cases h;simp [softs_len hl]
  ·cases h
theorem softs_ok :∀{xs ys:List AV},softs xs=some ys→∀{us:List Value},Rs G xs us→∀(j:Nat) y u,ys[j]?=some y→us[j]?=some u→Fz G.H y u
 | [],ys,h,us,_,j,y,u,hy,_=>by cases h;simp at hy
 | v::r,ys,h,us,hr,j,y,u,hy,hu=>by
  unfold softs at h
  split at h
  ·rename_i w l hw hl
   cases h
   cases us with
   | nil=>have:=hr.1;simp at this
   | cons u0 us=>
    have hr':Rs G r us:=⟨by have:=hr.1;simpa using this,fun j a u h1 h2=>hr.2 (j+1) a u (by simpa using h1) (by simpa using h2)⟩
    cases j with
    | zero=>simp at hy hu;subst hy;subst hu;exact soft_ok hw (hr.2 0 v u0 rfl rfl)
    | succ j=>simp at hy hu;exact softs_ok hl hr' j y u hy hu
  ·cases h
theorem Rel.freezeBox (hR:Rel G w0 st w) {k:Key} {ver g:Nat} {cs:List AV} (hk:lk st.bx k=some (ver,cs)) (hρ:G.ρ k ver=some g) {us:List Value} {e:TypeId} (hheap:w.heap[g]?=some (.cells us.toArray e (0,0))) (h1 :∀x∈us,x.oneCell'=true) :
  Rel ⟨fun g' o=>if g'=g then us[o]? else G.H g' o,G.ρ,G.ω,G.fm,G.M⟩ w0 { st with bx:=del st.bx k } w:=by
 obtain ⟨_,_,_,_,_,_,hnone⟩:=hR.bx k ver cs g hk hρ
 have hle:G.Le ⟨fun g' o=>if g'=g then us[o]? else G.H g' o,G.ρ,G.ω,G.fm,G.M⟩:=⟨fun g' o v h=>by
  show (if g'=g then us[o]? else G.H g' o)=some v
  rw [if_neg (by rintro rfl;rw [hnone o] at h;cases h)]
  exact h,fun _ _ _ h=>h,fun _ _ _ h=>h,rfl,fun _ _ h=>h⟩
 have hget :∀k' v' c',lk (del st.bx k) k'=some (v',c')→k'≠k∧lk st.bx k'=some (v',c'):=by
  intro k' v' c' h
  rw [lk_del] at h
  split at h
  ·cases h
  ·rename_i hn;exact ⟨hn,h⟩
 refine ⟨hR.bel,?_,?_,?_,?_,hR.owinj,hR.fresh,fun k' v' c' g' hb h hg'=>hR.bxT k' v' c' g' hb (hget _ _ _ h).2 hg',hR.owT,hR.mp⟩
 ·intro g' o v h
  have h':(if g'=g then us[o]? else G.H g' o)=some v:=h
  split at h'
  ·rename_i hg
   subst hg
   exact ⟨by simp [World.cell?,hheap,h'],h1 v (List.mem_of_getElem? h')⟩
  ·exact hR.ext g' o v h'
 ·intro k' v' c' g' h hg'
  obtain ⟨hn,h⟩:=hget _ _ _ h
  obtain ⟨us1,e1,a1,a2,a3,a4,a5⟩:=hR.bx k' v' c' g' h hg'
  refine ⟨us1,e1,a1,a2,a3.mono hle,a4,fun o=>?_⟩
  show (if g'=g then us[o]? else G.H g' o)=none
  rw [if_neg (by rintro rfl;exact hn (hR.inj k' k v' ver c' cs g' h hk hg' hρ))]
  exact a5 o
 ·intro k1 k2 v1 v2 c1 c2 g' a1 a2 a3 a4
  exact hR.inj k1 k2 v1 v2 c1 c2 g' (hget _ _ _ a1).2 (hget _ _ _ a2).2 a3 a4
 ·intro k' v' n h
  obtain ⟨g',cap,size,h1',⟨cur,e',a1,a2,a3,a4,a5,a6⟩,h8⟩:=hR.ow k' v' n h
  refine ⟨g',cap,size,h1',⟨cur,e',a1,a2,a3,a4,a5,fun o ho=>?_⟩,fun k2 v2 c2 h2=>h8 k2 v2 c2 (hget _ _ _ h2).2⟩
  show (if g'=g then us[o]? else G.H g' o)=none
  rw [if_neg (by rintro rfl;exact h8 k ver cs hk hρ)]
  exact a6 o ho
theorem chunk_get (size n:Nat) (cs:List AV) (i:Nat):(chunk size n cs)[i]?=if i<n then some ((cs.drop (i*size)).take size) else none:=by
 unfold chunk
 rw [List.getElem?_map]
 by_cases h:i<n
 ·rw [List.getElem?_range h,if_pos h];rfl
 ·rw [List.getElem?_eq_none (by simpa using h),if_neg h];rfl
theorem slA_ok (hR:Rel G w0 st w) {t:TypeId} {n e:Nat} (ht:P.underlying t=some (.array n e)) {ti:TypeInfo} (hi:P.info? e=some ti) {σ:Sl} {a:Act} {x:Opd} {x':Operand} (hx:Same G σ a x' x) {lo hi':Option Opd} {lo' hi'':Option Operand} (hlo:SameO G σ a lo' lo) (hhi:SameO G σ a hi'' hi')
  {C:CallF} {d site ver:Nat} {r:AV} {st':St} (h:aexec C d site ver σ st (.slA n ti.size x lo hi')=some (r,st')) :
  ∃v G',(Instr.sliceAt t (a.eval x') (lo'.map a.eval) (hi''.map a.eval) none).run P w=.ok v w∧R G' r v∧Step G G' w0 st st' w d site ver:=by
 simp only [aexec] at h
 split at h
 ·rename_i k v o hxe
  split at h
  ·rename_i v' cs hlk
   split at h
   ·rename_i hc
    obtain ⟨rfl,rfl,hlen,hpos⟩:=hc
    split at h
    ·rename_i cs' hsoft
     simp only [Option.map_eq_some_iff,Prod.exists,Prod.mk.injEq] at h
     obtain ⟨l,u,hb,rfl,rfl⟩:=h
     unfold Same at hx
     rw [hxe] at hx
     obtain ⟨g,hv,hρ⟩:=hx.p_inv
     obtain ⟨us,eb,hge,hheap,hr,hu1,hnone⟩:=hR.bx k v' cs g hlk hρ
     obtain ⟨hrun,h1,h2⟩:=bnds_ok (P:=P) (w:=w) hlo hhi hb (Nat.le_refl n) false
     have hl':=softs_len hsoft
     have hul:us.length=cs.length:=hr.1.symm
     refine ⟨.slice (some (if n=l then ⟨g,0,none⟩ else ⟨g,l*ti.size,none⟩)) (u-l) (n-l),_,?_,?_,⟨?_,hR.freezeBox hlk hρ hheap hu1,Nat.le_refl _,fun _ _ _ _=>⟨rfl,rfl⟩,?_,?_⟩⟩
     ·rw [hv]
      simp only [Instr.sliceAt,Sem.run_bind,run_underlying ht,Result.andThen_ok,Instr.sureAddr,Sem.run_pure,hrun,sizeOf,typeInfo,run_program,hi,Addr.add_lit,Nat.zero_add]
     ·have hlen2:(((chunk ti.size n cs').drop l).take (u-l)).length=u-l:=by simp [chunk];omega
      have hrow :∀(i:Nat) row,(((chunk ti.size n cs').drop l).take (u-l))[i]?=some row→i<u-l∧row=(cs'.drop ((l+i)*ti.size)).take ti.size:=by
       intro i row hrow
       rw [List.getElem?_take] at hrow
       split at hrow
       ·rename_i hi2
        rw [List.getElem?_drop,chunk_get,if_pos (by omega)] at hrow
        exact ⟨hi2,by injection hrow with hrow;exact hrow.symm⟩
       ·cases hrow
      have hcell :∀(i:Nat) row (j:Nat) b,(((chunk ti.size n cs').drop l).take (u-l))[i]?=some row→row[j]?=some b→j<ti.size∧cs'[(l+i)*ti.size+j]?=some b:=by
       intro i row j b h3 h4
       obtain ⟨h5,rfl⟩:=hrow i row h3
       rw [List.getElem?_take] at h4
       split at h4
       ·rename_i hj;rw [List.getElem?_drop] at h4;exact ⟨hj,h4⟩
       ·cases h4
      have hgo:R ⟨fun g' o=>if g'=g then us[o]? else G.H g' o,G.ρ,G.ω,G.fm,G.M⟩ (.sl .ext (((chunk ti.size n cs').drop l).take (u-l))) (.slice (some (if n=l then ⟨g,0,none⟩ else ⟨g,l*ti.size,none⟩)) (((chunk ti.size n cs').drop l).take (u-l)).length (n-l)):=by
       refine .fz _ _ (.sl _ _ _ ti.size g (l*ti.size) (fun i j=>us.getD ((l+i)*ti.size+j) undef) ?_ (by omega) ?_ ?_ ?_)
       ·intro hne
        rw [if_neg]
        rintro rfl
        apply hne
        apply List.eq_nil_of_length_eq_zero
        rw [hlen2];omega
       ·intro i row h3
        obtain ⟨h5,rfl⟩:=hrow i row h3
        have:(l+i)*ti.size+ti.size≤n*ti.size:=by
         rw [← Nat.succ_mul];exact Nat.mul_le_mul_right _ (by omega)
        simp;omega
       ·intro i row j b h3 h4
        obtain ⟨hj,h5⟩:=hcell i row j b h3 h4
        have hlt:(l+i)*ti.size+j<us.length:=by
         rw [hul,← hl']
         rcases Nat.lt_or_ge ((l+i)*ti.size+j) cs'.length with h | h
         ·exact h
         ·rw [List.getElem?_eq_none h] at h5;cases h5
        show (if g=g then us[l*ti.size+i*ti.size+j]? else _)=_
        rw [if_pos rfl,← Nat.add_mul,List.getElem?_eq_getElem hlt]
        simp [List.getD,List.getElem?_eq_getElem hlt]
       ·intro i row j b h3 h4
        obtain ⟨hj,h5⟩:=hcell i row j b h3 h4
        have hlt:(l+i)*ti.size+j<us.length:=by
         rw [hul,← hl']
         rcases Nat.lt_or_ge ((l+i)*ti.size+j) cs'.length with h | h
         ·exact h
         ·rw [List.getElem?_eq_none h] at h5;cases h5
        have h6:=softs_ok hsoft hr _ b us[(l+i)*ti.size+j] h5 (List.getElem?_eq_getElem hlt)
        have h7:us.getD ((l+i)*ti.size+j) undef=us[(l+i)*ti.size+j]:=by simp [List.getD,List.getElem?_eq_getElem hlt]
        show Fz _ b (us.getD ((l+i)*ti.size+j) undef)
        rw [h7]
        refine h6.mono (fun g' o v h=>?_)
        show (if g'=g then us[o]? else G.H g' o)=some v
        rw [if_neg (by rintro rfl;rw [hnone o] at h;cases h)]
        exact h
      rw [hlen2] at hgo
      exact hgo
     ·exact ⟨fun g' o v h=>by
       show (if g'=g then us[o]? else G.H g' o)=some v
       rw [if_neg (by rintro rfl;rw [hnone o] at h;cases h)]
       exact h,fun _ _ _ h=>h,fun _ _ _ h=>h,rfl,fun _ _ h=>h⟩
     ·intro k' v2 cs2 _ _ _ hn h3
      rw [show ({ st with bx:=del st.bx k }:St).bx=del st.bx k from rfl,lk_del]
      rw [if_neg]
      ·exact h3
      ·rintro rfl
       rw [hlk] at h3
       cases h3
       rw [hρ] at hn
       cases hn
     ·intro g' o v h
      have h':(if g'=g then us[o]? else G.H g' o)=some v:=h
      split at h'
      ·rename_i hg;subst hg;exact .inr hge
      ·exact .inl h'
    ·cases h
   ·cases h
  ·cases h
 ·cases h
end
end Go.AM

namespace Go.AM
open Go Go.RowKit
def flat (us:Nat→Nat→Value) (n size:Nat):List Value:=(List.range (n*size)).map fun q=>us (q / size) (q % size)
theorem flat_len (us:Nat→Nat→Value) (n size:Nat):(flat us n size).length=n*size:=by simp [flat]
theorem flat_get (us:Nat→Nat→Value) (n size q:Nat):(flat us n size)[q]?=if q<n*size then some (us (q / size) (q % size)) else none:=by
 unfold flat
 rw [List.getElem?_map]
 by_cases h:q<n*size
 ·rw [List.getElem?_range h,if_pos h];rfl
 ·rw [List.getElem?_eq_none (by simpa using h),if_neg h];rfl
theorem divmod_of {i j size:Nat} (hj:j<size):(i*size+j) / size=i∧(i*size+j) % size=j:=by
 have hs:0<size:=by omega
 constructor
 ·rw [Nat.mul_comm,Nat.mul_add_div hs,Nat.div_eq_of_lt hj];omega
 ·rw [Nat.mul_comm,Nat.mul_add_mod,Nat.mod_eq_of_lt hj]
theorem flat_at (us:Nat→Nat→Value) {n size i j:Nat} (hi:i<n) (hj:j<size):(flat us n size)[i*size+j]?=some (us i j):=by
 rw [flat_get,if_pos]
 ·obtain ⟨h1,h2⟩:=divmod_of (i:=i) hj;rw [h1,h2]
 ·have:(i+1)*size≤n*size:=Nat.mul_le_mul_right _ (by omega)
  rw [Nat.succ_mul] at this;omega
theorem Fz.cells_of {H:Hp} {rows:List (List AV)} {A:Option Addr} {n cap:Nat} (h:Fz H (.sl .ext rows) (.slice A n cap)) {size:Nat} (hsz :∀row∈rows,row.length=size) :
  n=rows.length∧n≤cap∧∃(us:Nat→Nat→Value) (g off:Nat),(rows≠[]→A=some ⟨g,off,none⟩)∧(∀(q:Nat) v,(flat us rows.length size)[q]?=some v→H g (off+q)=some v)∧
   (∀(i:Nat) row (j:Nat) a,rows[i]?=some row→row[j]?=some a→Fz H a (us i j)):=by
 cases h with
 | sl _ A cap size' g off us hA hcap hs hH hF=>
 refine ⟨rfl,hcap,us,g,off,hA,?_,hF⟩
 intro q v hq
 rw [flat_get] at hq
 split at hq
 ·rename_i hlt
  cases hq
  have hpos:0<size:=by
   rcases Nat.eq_zero_or_pos size with h | h
   ·subst h;simp at hlt
   ·exact h
  have hi:q / size<rows.length:=Nat.div_lt_of_lt_mul (by rw [Nat.mul_comm];exact hlt)
  have hrow:rows[q / size]?=some rows[q / size]:=List.getElem?_eq_getElem hi
  have hl1:=hs _ _ hrow
  have hl2:=hsz _ (List.getElem_mem hi)
  have hss:size'=size:=by omega
  subst hss
  have hm:q % size'<rows[q / size'].length:=by rw [hl1];exact Nat.mod_lt _ hpos
  have:=hH _ _ (q % size') _ hrow (List.getElem?_eq_getElem hm)
  rw [← this]
  congr 1
  have:=Nat.div_add_mod q size'
  rw [Nat.mul_comm] at this
  omega
 ·cases hq
section
variable {P:Program} {G:Gh} {w0 w:World} {st:St}
theorem newRows (hR:Rel G w0 st w) {rows:List (List AV)} {size:Nat} (hsz :∀row∈rows,row.length=size) {us:Nat→Nat→Value} (hF :∀(i:Nat) row (j:Nat) a,rows[i]?=some row→row[j]?=some a→Fz G.H a (us i j))
  (h1 :∀(i:Nat) row (j:Nat) a,rows[i]?=some row→row[j]?=some a→(us i j).oneCell'=true) {cs:Array Value} {e:TypeId} (hcs :∀(q:Nat) v,(flat us rows.length size)[q]?=some v→cs[q]?=some v) {w1:World} (hw1:w1.heap=w.heap) (hw1b:Below w.heap.size w w1) (cap:Nat) (hcap:rows.length≤cap) {d site ver:Nat} :
  Step G ⟨fun g o=>if g=w.heap.size then (flat us rows.length size)[o]? else G.H g o,G.ρ,G.ω,G.fm,G.M⟩ w0 st st (w1.alloc (.cells cs e)) d site ver∧
   Fz (fun g o=>if g=w.heap.size then (flat us rows.length size)[o]? else G.H g o) (.sl .ext rows) (.slice (some ⟨w.heap.size,0,none⟩) rows.length cap):=by
 have hsz1:w1.heap.size=w.heap.size:=by rw [hw1]
 have hle:HLe G.H (fun g o=>if g=w.heap.size then (flat us rows.length size)[o]? else G.H g o):=fun g o v h=>by
  show (if g=w.heap.size then _ else G.H g o)=some v
  rw [if_neg (by have:=hR.Hlt h;omega)]
  exact h
 have hone :∀(q:Nat) v,(flat us rows.length size)[q]?=some v→v.oneCell'=true:=by
  intro q v hq
  rw [flat_get] at hq
  split at hq
  ·rename_i hlt
   cases hq
   have hpos:0<size:=by
    rcases Nat.eq_zero_or_pos size with h | h
    ·subst h;simp at hlt
    ·exact h
   have hi:q / size<rows.length:=Nat.div_lt_of_lt_mul (by rw [Nat.mul_comm];exact hlt)
   have hm:q % size<rows[q / size].length:=by rw [hsz _ (List.getElem_mem hi)];exact Nat.mod_lt _ hpos
   exact h1 _ _ _ _ (List.getElem?_eq_getElem hi) (List.getElem?_eq_getElem hm)
  ·cases hq
 refine ⟨Step.grow hR (hw1b.alloc (by rw [hsz1];exact Nat.le_refl _) _) hle ?_,?_⟩
 ·intro g o v h
  have h':(if g=w.heap.size then (flat us rows.length size)[o]? else G.H g o)=some v:=h
  split at h'
  ·rename_i hg
   subst hg
   refine .inr ⟨Nat.le_refl _,?_,hone _ _ h'⟩
   have:=heap_alloc_new w1 (.cells cs e)
   rw [hsz1] at this
   simp [World.cell?,this,hcs _ _ h']
  ·exact .inl h'
 ·refine .sl rows _ cap size w.heap.size 0 us (fun _=>rfl) hcap (fun i row h=>hsz _ (List.mem_of_getElem? h)) ?_ (fun i row j a h2 h3=>(hF i row j a h2 h3).mono hle)
  intro i row j a h2 h3
  show (if w.heap.size=w.heap.size then (flat us rows.length size)[0+i*size+j]? else _)=_
  rw [if_pos rfl,Nat.zero_add]
  refine flat_at us ?_ ?_
  ·rcases Nat.lt_or_ge i rows.length with h | h
   ·exact h
   ·rw [List.getElem?_eq_none h] at h2;cases h2
  ·rw [← hsz _ (List.mem_of_getElem? h2)]
   rcases Nat.lt_or_ge j row.length with h | h
   ·exact h
   ·rw [List.getElem?_eq_none h] at h3;cases h3
def Gh.setω (G:Gh) (H:Hp) (k:Key) (v:Nat) (x:Nat × Nat × Nat):Gh:=⟨H,G.ρ,fun k' v'=>if k'=k∧v'=v then some x else G.ω k' v',G.fm,G.M⟩
theorem Gh.le_setω {H:Hp} (hH:HLe G.H H) {k:Key} {v:Nat} (h:G.ω k v=none) (x:Nat × Nat × Nat):G.Le (G.setω H k v x):=
 ⟨hH,fun _ _ _ h=>h,fun k' v' g' h'=>by
  show (if k'=k∧v'=v then some x else G.ω k' v')=some g'
  rw [if_neg (by rintro ⟨rfl,rfl⟩;rw [h] at h';cases h')]
  exact h',rfl,fun _ _ h=>h⟩
theorem Rel.newOwn (hR:Rel G w0 st w) {w':World} {H':Hp} {g cap size n:Nat} {key:Key} {ver:Nat} (hge:w0.heap.size≤g)
  (hos:w'.os=w.os) (htape:w'.tape=w.tape) (hout:w'.output=w.output) (hsize:w.heap.size≤w'.heap.size) (hblk :∀i,i<w.heap.size→i≠g→w'.heap[i]?=w.heap[i]?)
  (hbox :∀k v cs,lk st.bx k=some (v,cs)→G.ρ k v≠some g) (hle:HLe G.H H')
  (hH :∀g' o v,H' g' o=some v→(g'≠g∧G.H g' o=some v)∨(g'=g∧w'.cell? ⟨g,o,none⟩=some v∧v.oneCell'=true∧o<n*size))
  {cur:Array Value} {e:TypeId} (hT:bigSite≤key.2→e=etOf G.fm) (hheap:w'.heap[g]?=some (.cells cur e (0,0))) (hcur:cur.size=cap*size) (hn:n≤cap) (hpos:0<size) (hω:G.ω key ver=none) (hv:ver<st.nx)
  {ow':List (Key × Nat × Nat)} (hk:lk ow' key=some (ver,n)) (hne :∀k x,k≠key→lk ow' k=some x→lk st.ow k=some x)
  (hown :∀k v m g' c s,k≠key→lk ow' k=some (v,m)→G.ω k v=some (g',c,s)→g'≠g) (hmap :∀b es clock,w.heap[b]?=some (.map es clock)→b≠g):Rel (G.setω H' key ver (g,cap,size)) w0 { st with ow:=ow' } w':=by
 have hleG:G.Le (G.setω H' key ver (g,cap,size)):=Gh.le_setω hle hω _
 have hother :∀g' o,g'≠g→G.H g' o=none→H' g' o=none:=by
  intro g' o hg h
  cases h':H' g' o with
  | none=>rfl
  | some v=>
   rcases hH g' o v h' with ⟨_,h2⟩ | ⟨h2,_⟩
   ·rw [h] at h2;cases h2
   ·exact absurd h2 hg
 have hωe :∀k v x,(G.setω H' key ver (g,cap,size)).ω k v=some x→(k=key∧v=ver∧x=(g,cap,size))∨((k≠key∨v≠ver)∧G.ω k v=some x):=by
  intro k v x h
  have h':(if k=key∧v=ver then some (g,cap,size) else G.ω k v)=some x:=h
  split at h'
  ·rename_i hh;cases h';exact .inl ⟨hh.1,hh.2,rfl⟩
  ·rename_i hh
   refine .inr ⟨?_,h'⟩
   by_cases hk':k=key
   ·exact .inr fun hv'=>hh ⟨hk',hv'⟩
   ·exact .inl hk'
 refine ⟨?_,?_,?_,hR.inj,?_,?_,?_,?_,?_,fun b l hb=>(hR.mp b l hb).keep fun es clock h=>hblk b (block_lt h) (hmap b es clock h)⟩
 rotate_left 6
 ·intro k v cs g' hb h hg'
  obtain ⟨us',h3,h3n⟩:=hR.bxT k v cs g' hb h hg'
  have hgg:g'≠g:=by rintro rfl;exact hbox k v cs h hg'
  exact ⟨us',(hblk g' (block_lt h3) hgg).trans h3,h3n⟩
 ·intro k v m hb h g' c s hω'
  rcases hωe _ _ _ hω' with ⟨rfl,rfl,hx⟩ | ⟨hx,hω'⟩
  ·cases hx
   exact ⟨_,by rw [show etOf (G.setω _ _ _ _).fm=etOf G.fm from rfl,← hT hb];exact hheap⟩
  ·have hkk:k≠key:=by
    rintro rfl
    rw [hk] at h
    cases h
    rcases hx with hx | hx<;>exact hx rfl
   obtain ⟨us',h3⟩:=hR.owT k v m hb (hne k _ hkk h) g' c s hω'
   exact ⟨us',(hblk g' (block_lt h3) (hown k v m g' c s hkk h hω')).trans h3⟩
 ·have hb:=hR.bel
  exact ⟨hos.trans hb.os,htape.trans hb.tape,hout.trans hb.output,Nat.le_trans hb.size hsize,fun i hi=>(hblk i (Nat.lt_of_lt_of_le hi hb.size) (by omega)).trans (hb.block i hi)⟩
 ·intro g' o v h
  rcases hH g' o v h with ⟨h1,h2⟩ | ⟨rfl,h2,h3,_⟩
  ·have hlt:=hR.Hlt h2
   obtain ⟨h3,h4⟩:=hR.ext g' o v h2
   exact ⟨(World.cell?_of_block (w:=w) (hblk g' hlt h1)).trans h3,h4⟩
  ·exact ⟨h2,h3⟩
 ·intro k v cs g' h hg'
  obtain ⟨us1,e1,a1,a2,a3,a4,a5⟩:=hR.bx k v cs g' h hg'
  have hgg:g'≠g:=by rintro rfl;exact hbox k v cs h hg'
  exact ⟨us1,e1,a1,(hblk g' (block_lt a2) hgg).trans a2,a3.mono hleG,a4,fun o=>hother g' o hgg (a5 o)⟩
 ·intro k v m h
  by_cases hkk:k=key
  ·subst hkk
   rw [hk] at h
   cases h
   refine ⟨g,cap,size,by show (if _=_∧_=_ then some (g,cap,size) else _)=_;rw [if_pos ⟨rfl,rfl⟩],⟨cur,e,hge,hheap,hcur,hn,hpos,fun o ho=>?_⟩,hbox⟩
   cases h':H' g o with
   | none=>exact h'
   | some v'=>
    rcases hH g o v' h' with ⟨h2,_⟩ | ⟨_,_,_,h2⟩
    ·exact absurd rfl h2
    ·omega
  ·have hold:=hne k _ hkk h
   obtain ⟨g',cap',size',h1',⟨cur',e',a1,a2,a3,a4,a5,a6⟩,h8⟩:=hR.ow k v m hold
   have hgg:g'≠g:=hown k v m g' cap' size' hkk h h1'
   refine ⟨g',cap',size',hleG.ω _ _ _ h1',⟨cur',e',a1,(hblk g' (block_lt a2) hgg).trans a2,a3,a4,a5,fun o ho=>hother g' o hgg (a6 o ho)⟩,h8⟩
 ·intro k k' v v' m m' g' c s c' s' h1 h2 h3 h4
  by_cases hkk:k=key
  ·by_cases hkk':k'=key
   ·rw [hkk,hkk']
   ·subst hkk
    rw [hk] at h1
    cases h1
    rcases hωe _ _ _ h3 with ⟨_,_,hx⟩ | ⟨hx,_⟩
    ·cases hx
     rcases hωe _ _ _ h4 with ⟨rfl,_⟩ | ⟨_,h4⟩
     ·rfl
     ·exact absurd rfl (hown k' v' m' _ _ _ hkk' h2 h4)
    ·rcases hx with hx | hx<;>exact absurd rfl hx
  ·by_cases hkk':k'=key
   ·subst hkk'
    rw [hk] at h2
    cases h2
    rcases hωe _ _ _ h4 with ⟨_,_,hx⟩ | ⟨hx,_⟩
    ·cases hx
     rcases hωe _ _ _ h3 with ⟨rfl,_⟩ | ⟨_,h3⟩
     ·rfl
     ·exact absurd rfl (hown k v m _ _ _ hkk h1 h3)
    ·rcases hx with hx | hx<;>exact absurd rfl hx
   ·have o1:=hne k _ hkk h1
    have o2:=hne k' _ hkk' h2
    rcases hωe _ _ _ h3 with ⟨rfl,_⟩ | ⟨_,h3⟩
    ·exact absurd rfl hkk
    ·rcases hωe _ _ _ h4 with ⟨rfl,_⟩ | ⟨_,h4⟩
     ·exact absurd rfl hkk'
     ·exact hR.owinj k k' v v' m m' g' c s c' s' o1 o2 h3 h4
 ·intro k v hkv
  have:=hR.fresh k v hkv
  refine ⟨this.1,?_⟩
  show (if k=key∧v=ver then some (g,cap,size) else G.ω k v)=none
  rw [if_neg (by rintro ⟨_,rfl⟩;have:st.nx≤v:=hkv;omega)]
  exact this.2
end
end Go.AM

namespace Go.AM
open Go Go.RowKit
section
variable {P:Program} {G:Gh} {w0 w:World} {st:St}
theorem run_app_room {t t2 ty e:TypeId} {d2:TypeDesc} {ti:TypeInfo} (ht:P.underlying t=some (.slice e)) (ht2:P.underlying t2=some d2) (hd2:d2=.string∨∃e2,d2=.slice e2) (hi:P.info? e=some ti)
  {base:Option Addr} {n cap m:Nat} {vx:Value} (hlen:(Builtin.lenOf vx).run P w=.ok m w) {news:Array Value} (hf:(Builtin.firstCells ti.size m vx).run P w=.ok news w) (hroom:n+m≤cap) :
  (Builtin.append_ #[t,t2] ty #[.slice base n cap,vx]).run P w=(match base with | some a=>(storeCells (a.add (n*ti.size)) news.toList).run P w | none=>.ok () w).andThen fun _ w'=>.ok (.slice base (n+m) cap) w':=by
 rcases hd2 with rfl | ⟨e2,rfl⟩
 ·cases base<;>simp [Builtin.append_,run_underlying ht,run_underlying ht2,sizeOf,typeInfo,hi,hlen,hroom,hf]
 ·cases base<;>simp [Builtin.append_,run_underlying ht,run_underlying ht2,sizeOf,typeInfo,hi,hlen,hroom,hf]
theorem run_app_grow {t t2 ty e:TypeId} {d2:TypeDesc} {ti:TypeInfo} {z:Value} (ht:P.underlying t=some (.slice e)) (ht2:P.underlying t2=some d2) (hd2:d2=.string∨∃e2,d2=.slice e2) (hi:P.info? e=some ti) (hz:ti.zero=some z)
  {base:Option Addr} {n cap m:Nat} {vx:Value} (hlen:(Builtin.lenOf vx).run P w=.ok m w) {news olds:Array Value} (hf:(Builtin.firstCells ti.size m vx).run P w.drew=.ok news w.drew) (ho:(Builtin.firstCells ti.size n (.slice base n cap)).run P w.drew=.ok olds w.drew)
  (hg:cap<n+m) (h63:n+m≤9223372036854775807) (hfit:(n+m)*ti.bytes≤2 ^ 47) :
  (Builtin.append_ #[t,t2] ty #[.slice base n cap,vx]).run P w=.ok (.slice (some ⟨w.heap.size,0,none⟩) (n+m) (grownCap w (n+m) cap e))
    (w.drew.alloc (.cells (olds++news++Builtin.zeroCells z.cells (grownCap w (n+m) cap e-(n+m))) e)):=by
 have hn:¬ (n+m≤cap):=by omega
 have h63':¬ (9223372036854775807<((n:Int)+(m:Int))):=by omega
 have hcap:=nextslicecap_le hg
 have hmul:Builtin.nextslicecap (n+m) cap*ti.bytes≤2*(n+m)*ti.bytes:=Nat.mul_le_mul_right _ hcap
 have h48':¬ (281474976710656<Builtin.nextslicecap (n+m) cap*ti.bytes):=by
  rw [Nat.mul_assoc] at hmul
  omega
 rcases hd2 with rfl | ⟨e2,rfl⟩
 ·simp [Builtin.append_,run_underlying ht,run_underlying ht2,sizeOf,typeInfo,zeroValue,hi,hz,hlen,hn,h63',h48',Question.forced,hf,ho,newRow,grownCap]
 ·simp [Builtin.append_,run_underlying ht,run_underlying ht2,sizeOf,typeInfo,zeroValue,hi,hz,hlen,hn,h63',h48',Question.forced,hf,ho,newRow,grownCap]
structure Src (P:Program) (H:Hp) (w:World) (vx:Value) (size:Nat) (news:List (List AV)) (us:Nat→Nat→Value):Prop where
 len :∀w1:World,(Builtin.lenOf vx).run P w1=.ok news.length w1
 first :∀w1:World,w1.heap=w.heap→(Builtin.firstCells size news.length vx).run P w1=.ok (flat us news.length size).toArray w1
 fz :∀(i:Nat) row (j:Nat) a,news[i]?=some row→row[j]?=some a→Fz H a (us i j)
 one :∀(i:Nat) row (j:Nat) a,news[i]?=some row→row[j]?=some a→(us i j).oneCell'=true
theorem cell_of_heap {w w1:World} (h:w1.heap=w.heap) (a:Addr):w1.cell? a=w.cell? a:=by unfold World.cell?;rw [h]
theorem Src.slice (hR:Rel G w0 st w) {news:List (List AV)} {A:Option Addr} {cap size:Nat} (h:Fz G.H (.sl .ext news) (.slice A news.length cap)) (hsz :∀row∈news,row.length=size) :
  ∃us,Src P G.H w (.slice A news.length cap) size news us:=by
 obtain ⟨_,_,us,g,off,hA,hc,hF⟩:=h.cells_of hsz
 have hone :∀(i:Nat) row (j:Nat) a,news[i]?=some row→row[j]?=some a→(us i j).oneCell'=true:=by
  intro i row j a h1 h2
  have hi:i<news.length:=by
   rcases Nat.lt_or_ge i news.length with h | h
   ·exact h
   ·rw [List.getElem?_eq_none h] at h1;cases h1
  have hj:j<size:=by
   rw [← hsz _ (List.mem_of_getElem? h1)]
   rcases Nat.lt_or_ge j row.length with h | h
   ·exact h
   ·rw [List.getElem?_eq_none h] at h2;cases h2
  exact (hR.ext _ _ _ (hc _ _ (flat_at us hi hj))).2
 refine ⟨us,fun w1=>by simp [Builtin.lenOf],fun w1 hw1=>?_,hF,hone⟩
 cases news with
 | nil=>
  cases A with
  | none=>simp [Builtin.firstCells,flat]
  | some a=>simp [Builtin.firstCells,flat,loadCells,loadCellsFrom]
 | cons r rs=>
  rw [hA (by simp)]
  have:=run_firstCells_some (P:=P) w1 size (r::rs).length ⟨g,off,none⟩ (r::rs).length cap (flat us (r::rs).length size) (flat_len _ _ _) ?_
  ·exact this
  ·intro q v hq
   rw [Addr.add_lit,cell_of_heap hw1]
   exact (hR.ext _ _ _ (hc q v hq)).1
theorem Src.str {l:List UInt8}:Src P G.H w (.string ⟨l.toArray⟩) 1 (l.map row8) (fun i _=>.int .u8 ((l.getD i 0).toNat:Int)):=by
 refine ⟨fun w1=>by simp [Builtin.lenOf,ByteArray.size],fun w1 _=>?_,?_,fun _ _ _ _ _ _=>rfl⟩
 ·simp only [Builtin.firstCells,Sem.run_pure]
  congr 1
  apply Array.ext'
  apply List.ext_getElem?
  intro q
  have hs:(ByteArray.mk l.toArray).extract 0 (l.map row8).length=ByteArray.mk l.toArray:=by
   rw [ByteArray.extract_mk];simp
  rw [hs]
  simp only []
  rw [flat_get]
  simp only [List.length_map,Nat.mul_one,Nat.div_one]
  simp only [Array.toList_map,List.getElem?_map]
  split
  ·rename_i h;rw [List.getElem?_eq_getElem h];simp [List.getD,List.getElem?_eq_getElem h]
  ·rename_i h;rw [List.getElem?_eq_none (by omega)];rfl
 ·intro i row j a h1 h2
  simp only [List.getElem?_map,Option.map_eq_some_iff] at h1
  obtain ⟨c,hc,rfl⟩:=h1
  cases j with
  | zero=>
   simp only [row8,List.getElem?_cons_zero,Option.some.injEq] at h2
   subst h2
   have:l.getD i 0=c:=by simp [List.getD,hc]
   show Fz G.H _ (.int .u8 ((l.getD i 0).toNat:Int))
   rw [this]
   exact .i _ _
  | succ j=>simp [row8] at h2
theorem flat_append (us1 us2:Nat→Nat→Value) (n m size:Nat) (hs:0<size):flat (fun i j=>if i<n then us1 i j else us2 (i-n) j) (n+m) size=flat us1 n size++flat us2 m size:=by
 apply List.ext_getElem?
 intro q
 rw [flat_get,List.getElem?_append,flat_len,flat_get,flat_get]
 have hmul:(n+m)*size=n*size+m*size:=Nat.add_mul _ _ _
 by_cases h1:q<n*size
 ·rw [if_pos (by omega),if_pos h1,if_pos h1,if_pos (Nat.div_lt_of_lt_mul (by rw [Nat.mul_comm];exact h1))]
 ·rw [if_neg h1]
  by_cases h2:q<n*size+m*size
  ·have hq:q=(q-n*size)+size*n:=by rw [Nat.mul_comm size n];omega
   have hd:q / size=(q-n*size) / size+n:=by
    have h4:q / size=((q-n*size)+size*n) / size:=congrArg (· / size) hq
    rw [h4,Nat.add_mul_div_left _ _ hs]
   have hm:q % size=(q-n*size) % size:=by
    have h4:q % size=((q-n*size)+size*n) % size:=congrArg (· % size) hq
    rw [h4,Nat.add_mul_mod_self_left]
   have e1:(if q / size<n then us1 (q / size) (q % size) else us2 (q / size-n) (q % size))=us2 ((q-n*size) / size) ((q-n*size) % size):=by
    rw [if_neg (by rw [hd];exact Nat.not_lt.2 (Nat.le_add_left _ _)),hd,hm,Nat.add_sub_cancel]
   rw [if_pos (by omega),e1,if_pos (by omega)]
  ·rw [if_neg (by omega),if_neg (by omega)]
theorem rows_append {H:Hp} {rows news:List (List AV)} {us1 us2:Nat→Nat→Value} {p:AV→Value→Prop} (h1 :∀(i:Nat) row (j:Nat) a,rows[i]?=some row→row[j]?=some a→p a (us1 i j)) (h2 :∀(i:Nat) row (j:Nat) a,news[i]?=some row→row[j]?=some a→p a (us2 i j)) (_:H=H) :
  ∀(i:Nat) row (j:Nat) a,(rows++news)[i]?=some row→row[j]?=some a→p a ((fun i j=>if i<rows.length then us1 i j else us2 (i-rows.length) j) i j):=by
 intro i row j a hi hj
 rw [List.getElem?_append] at hi
 by_cases h:i<rows.length
 ·rw [if_pos h] at hi;simp only [if_pos h];exact h1 i row j a hi hj
 ·rw [if_neg h] at hi;simp only [if_neg h];exact h2 _ row j a hi hj
end
end Go.AM
