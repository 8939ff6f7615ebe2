/- Parts of the proof: Am0, Am1, Aw0, Aw1, S0, S1, S2, Am2, Am3, Am4, Am5, Am6, Am7, Am8. -/
import Derived.WalkKit
import Derived.RegionTactic
set_option linter.all false
/- Yg of the proof. -/
namespace Go.AM
open Go Go.RowKit
abbrev Zq:=Nat × Nat
inductive Zn where
 | ext
 | full
 | id (k:Zq) (ver:Nat)
inductive AV where
 | i (k:IntKind) (n:Int)
 | b (x:Bool)
 | s (l:List UInt8)
 | sl (o:Zn) (rows:List (List AV))
 | p (k:Zq) (ver off:Nat)
 | fp (cells:List AV)
 | np
 | ag (cs:List AV)
 | tup (cs:List AV)
 | fn (f:Nat) (cap:List AV)
 | nf
 | ni
 | u
 | mp (l:List (List UInt8 × Int))
 | bf (f:Nat) (cs:List AV)
 | yl (l:Nat)
instance:Inhabited AV:=⟨.u⟩
inductive Zu where
 | t (n:Nat)
 | c (v:AV)
inductive Vg where
 | mv (x:Zu)
 | pick (c a b:Zu)
 | alloc (zero:List AV)
 | box (n:Nat) (x:Zu)
 | boxf (n:Nat) (x:Zu)
 | build (zero:List AV) (parts:List (Nat × Nat × Zu))
 | bslice (zero:List AV) (n:Nat) (parts:List (Nat × Zu))
 | load (n:Nat) (agg:Bool) (a:Zu)
 | ldf (n:Nat) (agg:Bool) (a:Zu)
 | store (n:Nat) (a x:Zu)
 | nilc (x:Zu)
 | bin (op:BinOp) (x y:Zu)
 | beq (neg:Bool) (x y:Zu)
 | un (op:UnOp) (x:Zu)
 | cvi (k:IntKind) (x:Zu)
 | b2s (x:Zu)
 | mkfn (f:Nat) (cap:List Zu)
 | mkbf (f:Nat) (cs:List Zu)
 | mkfz (f:Nat) (pre:List Zu) (x:Zu) (post:List Zu)
 | mks (zero:List AV) (bytes:Nat) (l c:Zu)
 | slS (x:Zu) (lo hi:Option Zu)
 | slL (size:Nat) (x:Zu) (lo hi:Option Zu)
 | slA (n size:Nat) (x:Zu) (lo hi:Option Zu)
 | fad (off:Nat) (x:Zu)
 | fld (off n:Nat) (agg:Bool) (x:Zu)
 | iaL (size:Nat) (x i:Zu)
 | iaA (n size:Nat) (x i:Zu)
 | ixA (n size:Nat) (agg:Bool) (x i:Zu)
 | ixS (x i:Zu)
 | ext (k:Nat) (x:Zu)
 | call (ptr:Bool) (f:Nat) (args:List Zu)
 | callv (f:Zu) (args:List Zu)
 | len (str:Bool) (x:Zu)
 | app (size bytes:Nat) (s x:Zu)
 | appS (s x:Zu)
 | max (x y:Zu)
 | peq (neg:Bool) (x y:Zu)
 | cvp (n:Nat) (x:Zu)
 | aeq (neg:Bool) (ks:List Nat) (x y:Zu)
 | lkp (x i:Zu)
 | bad
structure AI where
 dst:Option Nat
 op:Vg
 guard:Option (Nat × Bool)
structure St where
 nx:Nat
 bx:List (Zq × Nat × List AV)
 ow:List (Zq × Nat × Nat)
abbrev Sl:=Nat->AV
inductive AE where
 | normal
 | exit (id:Nat)
 | ret
 | goto (l:Nat)
inductive AC where
 | hand (f:Sl->St->Option (AE × Sl × St))
 | skip
 | reg (id:Nat) (ops:List AI)
 | seq (a b:AC)
 | cond (c:Zu) (a b:AC)
 | block (id:Nat) (c:AC)
 | loop (c:AC)
 | exit (id:Nat)
 | ret
 | goto (l:Nat)
 | gscope (l:Nat) (first rest:AC)
 | frz (t:Nat)
def Qi (σ:Sl) (d:Nat) (v:AV):Sl:=fun t=>if t=d then v else σ t
def Wu (σ:Sl) (d:Option Nat) (v:AV):Sl:=match d with | some d=>Qi σ d v | none=>σ
theorem Wjf (σ:Sl) (d:Nat) (v:AV):Qi σ d v d=v:=by simp [Qi]
theorem Wix (σ:Sl) (d t:Nat) (v:AV) (h:t≠d):Qi σ d v t=σ t:=by simp [Qi,h]
def Zu.ev (σ:Sl):Zu->AV
 | .t n=>σ n
 | .c v=>v
def lk {α:Type} (l:List (Zq × α)) (k:Zq):Option α:=
 match l with
 | []=>none
 | (k',a)::r=>if k'=k then some a else lk r k
def Yx {α:Type} (l:List (Zq × α)) (k:Zq) (a:α):List (Zq × α):=
 match l with
 | []=>[(k,a)]
 | (k',b)::r=>if k'=k then (k,a)::r else (k',b)::Yx r k a
def AV.one:AV->Bool
 | .ag _ | .tup _ | .u=>false
 | _=>true
def AV.cells:AV->List AV
 | .ag cs=>cs
 | v=>[v]
def Qf (agg:Bool) (cs:List AV):Option AV:=
 if agg then some (.ag cs) else match cs with | [v]=>some v | _=>none
def Ud (cs:List AV) (off:Nat):List AV->List AV
 | []=>cs
 | v::r=>Ud (cs.set off v) (off+1) r
def Up (op:BinOp) (k:IntKind) (x y:Int):Option AV:=
 match op with
 | .add=>some (.i k (k.wrap (x+y)))
 | .sub=>some (.i k (k.wrap (x-y)))
 | .mul=>some (.i k (k.wrap (x*y)))
 | .quo=>if y=0 then none else some (.i k (k.wrap (x.tdiv y)))
 | .rem=>if y=0 then none else some (.i k (x.tmod y))
 | .and=>some (.i k (k.wrap (BitVec.ofInt k.bits x &&& BitVec.ofInt k.bits y).toNat))
 | .or=>some (.i k (k.wrap (BitVec.ofInt k.bits x ||| BitVec.ofInt k.bits y).toNat))
 | .xor=>some (.i k (k.wrap (BitVec.ofInt k.bits x ^^^ BitVec.ofInt k.bits y).toNat))
 | .andNot=>some (.i k (k.wrap (BitVec.ofInt k.bits x &&& ~~~(BitVec.ofInt k.bits y)).toNat))
 | .eql=>some (.b (x==y))
 | .neq=>some (.b (x != y))
 | .lss=>some (.b (decide (x<y)))
 | .leq=>some (.b (decide (x<=y)))
 | .gtr=>some (.b (decide (x>y)))
 | .geq=>some (.b (decide (x>=y)))
 | .shl | .shr=>none
def Zfn (op:BinOp) (k:IntKind) (x y:Int):Option AV:=
 if y<0 then none else
 match op with
 | .shl=>some (.i k (k.wrap (x*2 ^ (min y.toNat k.bits))))
 | .shr=>some (.i k (x.fdiv (2 ^ (min y.toNat k.bits))))
 | _=>none
def We:Nat:=2 ^ 40
def Xl (op:BinOp) (x y:AV):Option AV:=
 match x,y with
 | .i k a,.i k' b=>
  match op with
  | .shl | .shr=>Zfn op k a b
  | _=>if k=k' then Up op k a b else none
 | .s a,.s b=>
  match op with
  | .add=>if a.length+b.length<=We then some (.s (a++b)) else none
  | .eql=>some (.b (a==b))
  | .neq=>some (.b (!(a==b)))
  | _=>none
 | _,_=>none
def AV.nat:AV->Option Nat
 | .i _ n=>if 0<=n then some n.toNat else none
 | _=>none
def Kb (σ:Sl) (len cap:Nat) (lo hi:Option Zu):Option (Nat × Nat):=
 match (match hi with | none=>some len | some h=>(h.ev σ).nat) with
 | none=>none
 | some h=>
  match (match lo with | none=>some 0 | some l=>(l.ev σ).nat) with
  | none=>none
  | some l=>if l<=h/\h<=cap then some (l,h) else none
def AV.soft:AV->Option AV
 | .sl _ rows=>some (.sl .ext rows)
 | .i k n=>some (.i k n)
 | .b x=>some (.b x)
 | .s l=>some (.s l)
 | .np=>some .np
 | .nf=>some .nf
 | .ni=>some .ni
 | _=>none
def Vs:List AV->Option (List AV)
 | []=>some []
 | v::r=>match v.soft,Vs r with | some w,some l=>some (w::l) | _,_=>none
def Wx (zero:List AV) (σ:Sl) (rows:List (List AV)):List (Nat × Zu)->Option (List (List AV))
 | []=>some rows
 | (i,x)::r=>
  match Vs (x.ev σ).cells with
  | some cs=>if i<rows.length/\cs.length=zero.length then Wx zero σ (rows.set i cs) r else none
  | none=>none
def Ww (σ:Sl) (cells:List AV):List (Nat × Nat × Zu)->Option (List AV)
 | []=>some cells
 | (off,n,x)::r=>
  let cs:=(x.ev σ).cells
  if cs.length=n/\off+n<=cells.length/\cs.all AV.one then Ww σ (Ud cells off cs) r else none
def Pq:List AV->Option UInt8
 | [.i .u8 n]=>if 0<=n/\n<256 then some n.toNat.toUInt8 else none
 | _=>none
def Bm:List (List AV)->Option (List UInt8)
 | []=>some []
 | r::rs=>match Pq r,Bm rs with | some c,some l=>some (c::l) | _,_=>none
def Yu (c:UInt8):List AV:=[.i .u8 c.toNat]
def Wa:Nat:=4096000000
def Rk:Nat:=2048000000
def Zba (neg:Bool) (x y:AV):Option AV:=
 match x,y with
 | .np,.np=>some (.b (!neg))
 | .p _ _ _,.np=>some (.b neg)
 | .p k v o,.p k' v' o'=>if k=k'/\v=v'/\o=o' then some (.b (!neg)) else none
 | _,_=>none
def Ah:Nat->AV->AV->Option Bool
 | 0,.i k a,.i k' b=>if k=k' then some (a==b) else none
 | 1,.b a,.b b=>some (a==b)
 | 2,.s a,.s b=>some (a==b)
 | _,_,_=>none
def Lp:List Nat->List AV->List AV->Option Bool
 | [],[],[]=>some true
 | c::q,a::r,b::t=>match Ah c a b,Lp q r t with | some x,some y=>some (x&&y) | _,_=>none
 | _,_,_=>none
def Zkz (l:List (List UInt8 × Int)) (s:List UInt8):Int:=match l.find? (fun x=>x.1==s) with | some x=>x.2 | none=>0
def Yk (key:Zq) (ver:Nat) (σ:Sl):Vg->Option AV
 | .mv x=>some (x.ev σ)
 | .pick c a b=>match c.ev σ with | .b t=>some (if t then a.ev σ else b.ev σ) | _=>none
 | .alloc _=>some (.p key ver 0)
 | .build zero parts=>(Ww σ zero parts).map .ag
 | .bslice zero n parts=>match Vs zero with
  | some z=>if 0<z.length/\n*z.length<=65536 then (Wx z σ (List.replicate n z) parts).map (.sl .full) else none
  | none=>none
 | .boxf n x=>if (x.ev σ).cells.length=n then (Vs (x.ev σ).cells).map .fp else none
 | .nilc x=>match x.ev σ with | .p k v o=>some (.p k v o) | .fp cs=>some (.fp cs) | _=>none
 | .bin op x y=>Xl op (x.ev σ) (y.ev σ)
 | .beq neg x y=>match x.ev σ,y.ev σ with | .b x,.b y=>some (.b (if neg then !(x==y) else x==y)) | _,_=>none
 | .un op x=>match op,x.ev σ with | .not,.b t=>some (.b (!t)) | .neg,.i k n=>some (.i k (k.wrap (0-n))) | _,_=>none
 | .cvi k x=>match x.ev σ with | .i _ n=>some (.i k (k.wrap n)) | _=>none
 | .b2s x=>match x.ev σ with | .sl _ rows=>(Bm rows).map .s | _=>none
 | .mkfn f cap=>some (.fn f (cap.map (·.ev σ)))
 | .mkbf f cs=>some (.bf f (cs.map (·.ev σ)))
 | .slS x lo hi=>match x.ev σ with | .s l=>(Kb σ l.length l.length lo hi).map fun (a,b)=>.s ((l.drop a).take (b-a)) | _=>none
 | .slL size x lo hi=>match x.ev σ with | .sl _ rows=>if rows.all (·.length==size) then (Kb σ rows.length rows.length lo hi).map fun (a,b)=>.sl .ext ((rows.drop a).take (b-a)) else none | _=>none
 | .fad off x=>match x.ev σ with | .p k v o=>some (.p k v (o+off)) | .fp cs=>some (.fp (cs.drop off)) | _=>none
 | .fld off n agg x=>match x.ev σ with | .ag cs=>if off+n<=cs.length then Qf agg ((cs.drop off).take n) else none | _=>none
 | .iaL size x i=>match x.ev σ,(i.ev σ).nat with | .sl _ rows,some k=>(match rows[k]? with | some row=>if row.length=size/\0<size then some (.fp row) else none | none=>none) | _,_=>none
 | .iaA n size x i=>match x.ev σ,(i.ev σ).nat with | .p k v o,some j=>if j<n then some (.p k v (o+j*size)) else none | _,_=>none
 | .ixA n size agg x i=>match x.ev σ,(i.ev σ).nat with | .ag cs,some j=>if j<n/\j*size+size<=cs.length then Qf agg ((cs.drop (j*size)).take size) else none | _,_=>none
 | .ixS x i=>match x.ev σ,(i.ev σ).nat with | .s l,some j=>(l[j]?).map fun c=>.i .u8 c.toNat | _,_=>none
 | .ext k x=>match x.ev σ with | .tup vs=>vs[k]? | _=>none
 | .len true x=>match x.ev σ with | .s l=>some (.i .i64 l.length) | _=>none
 | .len false x=>match x.ev σ with | .sl _ rows=>some (.i .i64 rows.length) | _=>none
 | .max x y=>match x.ev σ,y.ev σ with | .i k a,.i k' b=>if k=k' then some (.i k (if a<b then b else a)) else none | _,_=>none
 | .peq neg x y=>Zba neg (x.ev σ) (y.ev σ)
 | .aeq neg ks x y=>match x.ev σ,y.ev σ with | .ag cs,.ag ds=>(Lp ks cs ds).map fun b=>.b (if neg then !b else b) | _,_=>none
 | .lkp x i=>match x.ev σ,i.ev σ with | .mp l,.s s=>some (.i .u8 (Zkz l s)) | _,_=>none
 | .bad=>none
 | .ldf n agg x=>match x.ev σ with | .fp cs=>if n<=cs.length then Qf agg (cs.take n) else none | _=>none
 | _=>none
abbrev BS:=List UInt8
abbrev LB:=List BS
end Go.AM

/- Yg of the proof. -/
namespace Go.AM
open Go Go.RowKit
abbrev Vh:=Nat->Nat->List AV->St->Option (AV × St)
mutual
def AV.strip:AV->Option AV
 | .sl _ rows=>some (.sl .ext rows)
 | .ag cs=>match AV.strips cs with | some l=>some (.ag l) | none=>none
 | .tup cs=>match AV.strips cs with | some l=>some (.tup l) | none=>none
 | .p _ _ _=>none
 | .fn _ _=>none
 | .bf _ _=>none
 | .yl _=>none
 | v=>some v
def AV.strips:List AV->Option (List AV)
 | []=>some []
 | v::r=>match AV.strip v,AV.strips r with | some w,some l=>some (w::l) | _,_=>none
end
def Bg (st:St) (n:Nat) (agg:Bool):AV->Option AV
 | .fp cs=>if n<=cs.length then Qf agg (cs.take n) else none
 | .p k v o=>match lk st.bx k with
  | some (v',cs)=>if v'=v/\o+n<=cs.length then Qf agg ((cs.drop o).take n) else none
  | none=>none
 | _=>none
def AV.isF0:AV->Bool
 | .sl .full []=>true
 | _=>false
def Mj (k:Zq) (x:AV):Bool:=Nat.blt k.2 Wa||!(x.cells.any AV.isF0)
theorem Aq {k:Zq} {x:AV} (h:x.cells.any AV.isF0=false):Mj k x=true:=by unfold Mj;rw [h];simp
def Ca (st:St) (n:Nat) (a x:AV):Option St:=
 match a with
 | .p k v o=>match lk st.bx k with
  | some (v',cs)=>if v'=v/\o+n<=cs.length/\x.cells.length=n/\x.cells.all AV.one/\Mj k x then some { st with bx:=Yx st.bx k (v,Ud cs o x.cells) } else none
  | none=>none
 | _=>none
def del {α:Type} (l:List (Zq × α)) (k:Zq):List (Zq × α):=l.filter fun x=>x.1≠k
def Kx:Nat:=2 ^ 46
def Ui (key:Zq) (ver size bytes:Nat) (s:AV) (news:List (List AV)) (st:St):Option (AV × St):=
 match s with
 | .sl o rows=>
  if (rows.length+news.length)*bytes<=Kx/\rows.length+news.length<=Kx/\0<size/\(rows.all (·.length==size))=true/\(news.all (·.length==size))=true then
   if news.isEmpty then some (.sl o rows,st)
   else match o with
    | .ext=>none
    | .full=>some (.sl (.id key ver) (rows++news),{ st with ow:=Yx st.ow key (ver,rows.length+news.length) })
    | .id k v=>match lk st.ow k with
     | some (v',n)=>if v'=v/\n=rows.length/\0<n/\(key.2<Wa\/Wa<=k.2) then some (.sl (.id key ver) (rows++news),{ st with ow:=Yx (del st.ow k) key (ver,rows.length+news.length) }) else none
     | none=>none
  else none
 | _=>none
def Zfv (st:St) (n:Nat):AV->Option AV
 | .p k v 0=>match lk st.bx k with
  | some (v',cs)=>if v'=v/\Wa<=k.2/\cs.length=n then some (.p k v 0) else none
  | none=>none
 | _=>none
def Hz (size n:Nat) (cs:List AV):List (List AV):=(List.range n).map fun i=>(cs.drop (i*size)).take size
def Zm:St:=⟨0,[],[]⟩
def Zy (C:Vh) (d site ver:Nat) (σ:Sl) (st:St):Vg->Option (AV × St)
 | .load n agg a=>(Bg st n agg (a.ev σ)).map (·,st)
 | .store n a x=>(Ca st n (a.ev σ) (x.ev σ)).map (.tup [],·)
 | .box n x=>if (x.ev σ).cells.length=n/\(x.ev σ).cells.all AV.one then some (.p (d,site) ver 0,{ st with bx:=Yx st.bx (d,site) (ver,(x.ev σ).cells) }) else none
 | .mks zero bytes l c=>match (l.ev σ).nat,(c.ev σ).nat with
  | some n,some n'=>match Vs zero with
   | some z=>if n=n'/\n*bytes<=Kx/\n<=Kx/\0<z.length then some (.sl .full (List.replicate n z),st) else none
   | none=>none
  | _,_=>none
 | .mkfz f pre x post=>match x.ev σ with
  | .p k v 0=>match lk st.bx k with
   | some (v',cs)=>if v'=v then (match Vs cs with
    | some cs'=>some (.fn f (pre.map (·.ev σ)++.fp cs'::post.map (·.ev σ)),{ st with bx:=del st.bx k })
    | none=>none) else none
   | none=>none
  | _=>none
 | .slA n size x lo hi=>match x.ev σ with
  | .p k v o=>match lk st.bx k with
   | some (v',cs)=>if v'=v/\o=0/\n*size=cs.length/\0<size then
     match Vs cs with
     | some cs'=>(Kb σ n n lo hi).map fun (x,y)=>(.sl .ext (((Hz size n cs').drop x).take (y-x)),{ st with bx:=del st.bx k })
     | none=>none
    else none
   | none=>none
  | _=>none
 | .app size bytes s x=>match x.ev σ with
  | .sl _ news=>Ui (d,site) ver size bytes (s.ev σ) news st
  | _=>none
 | .appS s x=>match x.ev σ with
  | .s l=>Ui (d,site) ver 1 1 (s.ev σ) (l.map Yu) st
  | _=>none
 | .call false f args=>match AV.strips (args.map (·.ev σ)) with
  | some vs=>match C 0 f vs Zm with
   | some (r,_)=>(r.strip).map (·,st)
   | none=>none
  | none=>none
 | .call true f args=>C (d+1) f (args.map (·.ev σ)) st
 | .callv f args=>match f.ev σ with
  | .fn g cap=>C (d+1) g (args.map (·.ev σ)++cap) st
  | .bf g cs=>C (d+1) g (cs++args.map (·.ev σ)) st
  | _=>none
 | .cvp n x=>(Zfv st n (x.ev σ)).map (·,st)
 | op=>(Yk (d,site) ver σ op).map (·,st)
def Jo (C:Vh) (d site ver:Nat) (o:AI) (σ:Sl) (st:St):Option (Sl × St):=
 match o.guard with
 | none=>(Zy C d site ver σ st o.op).map fun (v,st')=>(Wu σ o.dst v,st')
 | some (t,w)=>match σ t with
  | .b x=>if x=w then (Zy C d site ver σ st o.op).map fun (v,st')=>(Wu σ o.dst v,st') else some (Wu σ o.dst (.tup []),st)
  | .tup []=>some (Wu σ o.dst (.tup []),st)
  | _=>none
def Dd (C:Vh) (d id base:Nat) (ops:List AI):List Nat->Sl->St->Option (Sl × St)
 | [],σ,st=>some (σ,st)
 | i::r,σ,st=>match ops[i]? with
  | none=>Dd C d id base ops r σ st
  | some o=>match Jo C d (id*4096+i) (base+i) o σ st with
   | some (σ',st')=>Dd C d id base ops r σ' st'
   | none=>none
def Mi (C:Vh) (d id base:Nat):Nat->List AI->Sl->St->Option (Sl × St)
 | _,[],σ,st=>some (σ,st)
 | i,o::r,σ,st=>match Jo C d (id*4096+i) (base+i) o σ st with
   | some (σ',st')=>Mi C d id base (i+1) r σ' st'
   | none=>none
def pre (d id base:Nat):Nat->List AI->List (Zq × Nat × List AV)->List (Zq × Nat × List AV)
 | _,[],bx=>bx
 | i,o::r,bx=>match o.op with
  | .alloc zero=>pre d id base (i+1) r (Yx bx (d,id*4096+i) (base+i,zero))
  | _=>pre d id base (i+1) r bx
def Po (C:Vh) (d id:Nat) (ops:List AI) (σ:Sl) (st:St):Option (Sl × St):=
 Mi C d id st.nx 0 ops σ { st with nx:=st.nx+ops.length,bx:=pre d id st.nx 0 ops st.bx }
def Bk (f:Sl->St->Option (AE × Sl × St)):Nat->Sl->St->Option (AE × Sl × St)
 | 0,_,_=>none
 | n+1,σ,st=>match f σ st with
  | some (.normal,σ',st')=>Bk f n σ' st'
  | r=>r
def Dn (l:Nat) (f:Sl->St->Option (AE × Sl × St)):Nat->Sl->St->Option (AE × Sl × St)
 | 0,_,_=>none
 | n+1,σ,st=>match f σ st with
  | some (.goto l',σ',st')=>if l'=l then Dn l f n σ' st' else none
  | r=>r
def Xg (C:Vh) (n d:Nat):AC->Sl->St->Option (AE × Sl × St)
 | .hand f,σ,st=>f σ st
 | .skip,σ,st=>some (.normal,σ,st)
 | .reg id ops,σ,st=>(Po C d id ops σ st).map fun (σ',st')=>(.normal,σ',st')
 | .seq a b,σ,st=>match Xg C n d a σ st with
  | some (.normal,σ',st')=>Xg C n d b σ' st'
  | r=>r
 | .cond c a b,σ,st=>match c.ev σ with
  | .b true=>Xg C n d a σ st
  | .b false=>Xg C n d b σ st
  | _=>none
 | .block id c,σ,st=>match Xg C n d c σ st with
  | some (.exit id',σ',st')=>if id'=id then some (.normal,σ',st') else some (.exit id',σ',st')
  | r=>r
 | .loop c,σ,st=>Bk (Xg C n d c) n σ st
 | .exit id,σ,st=>some (.exit id,σ,st)
 | .ret,σ,st=>some (.ret,σ,st)
 | .goto l,σ,st=>some (.goto l,σ,st)
 | .frz t,σ,st=>match σ t with
  | .p k v 0=>match lk st.bx k with
   | some (v',cs)=>if v'=v then (match Vs cs with
    | some cs'=>some (.normal,Qi σ t (.fp cs'),{ st with bx:=del st.bx k })
    | none=>none) else none
   | none=>none
  | _=>none
 | .gscope l a b,σ,st=>match Xg C n d a σ st with
  | some (.normal,σ',st')=>Dn l (Xg C n d b) n σ' st'
  | _=>none
inductive Dp where
 | tmp (t:Nat)
 | cell (t n:Nat) (agg:Bool)
structure AF where
 nt:Nat
 res:List Dp
 body:AC
 /-- the slots of boxes that are never stored to: they are told for good -/
 fz:List Nat:=[]
def Kp (σ:Sl) (st:St):Dp->Option AV
 | .tmp t=>some (σ t)
 | .cell t n agg=>Bg st n agg (σ t)
def Vk (σ:Sl) (st:St):List Dp->Option (List AV)
 | []=>some []
 | r::rs=>match Kp σ st r,Vk σ st rs with | some v,some l=>some (v::l) | _,_=>none
def Xm (σ:Sl) (st:St):List Dp->Option AV
 | [r]=>Kp σ st r
 | rs=>(Vk σ st rs).map .tup
def Wh (args:List AV):Sl:=fun t=>args.getD t (.tup [])
structure Za where
 fn:Nat->Option AF
 orac:Nat->List AV->Option AV
 oracS:Nat->List AV->St->Option (AV × St):=fun _ _ _=>none
def Kq (PG:Za):Nat->Vh
 | 0,_,_,_,_=>none
 | n+1,d,f,args,st=>match PG.fn f with
  | none=>match PG.orac f args with | some r=>some (r,st) | none=>PG.oracS f args st
  | some F=>
   if args.length<=F.nt then
    match Xg (Kq PG n) n d F.body (Wh args) st with
    | some (.normal,σ,st') | some (.ret,σ,st')=>(Xm σ st' F.res).map fun r=>(r,{ st' with bx:=st'.bx.filter fun x=>x.1.1<d })
    | _=>none
   else none
end Go.AM

/- Yg of the proof. -/
namespace Go.AM
open Go
def Aj (C C':Vh):Prop:=∀d f a st r,C d f a st=some r->C' d f a st=some r
theorem Yk1 {C C':Vh} (h:Aj C C') {d site ver:Nat} {σ:Sl} {st:St} {op:Vg} {r:AV × St} (he:Zy C d site ver σ st op=some r):Zy C' d site ver σ st op=some r:=by
 cases op with
 | call p f args=>
  cases p with
  | false=>
   simp only [Zy] at he ⊢
   split at he
   ·rename_i vs hvs
    split at he
    ·rename_i r' st' hr
     rw [h _ _ _ _ _ hr]
     exact he
    ·cases he
   ·cases he
  | true=>simp only [Zy] at he ⊢;exact h _ _ _ _ _ he
 | callv f args=>
  simp only [Zy] at he ⊢
  split at he
  ·exact h _ _ _ _ _ he
  ·exact h _ _ _ _ _ he
  ·cases he
 | _=>exact he
theorem Ye3 {C C':Vh} (h:Aj C C') {d site ver:Nat} {o:AI} {σ:Sl} {st:St} {r:Sl × St} (he:Jo C d site ver o σ st=some r):Jo C' d site ver o σ st=some r:=by
 unfold Jo at he ⊢
 have key:(Zy C d site ver σ st o.op).map (fun (v,st')=>(Wu σ o.dst v,st'))=some r->(Zy C' d site ver σ st o.op).map (fun (v,st')=>(Wu σ o.dst v,st'))=some r:=by
  intro h1
  rw [Option.map_eq_some_iff] at h1 ⊢
  obtain ⟨x,h2,h3⟩:=h1
  exact ⟨x,Yk1 h h2,h3⟩
 split at he
 ·exact key he
 ·split at he
  ·split at he
   ·rename_i h1 h2
    simp only [h2,if_true] at he ⊢
    exact key he
   ·rename_i h1 h2
    simp only [h2,if_false] at he ⊢
    exact he
  ·exact he
  ·cases he
theorem Zjt {C C':Vh} (h:Aj C C') {d id base:Nat} :∀{ops:List AI} {i:Nat} {σ:Sl} {st:St} {r:Sl × St},Mi C d id base i ops σ st=some r->Mi C' d id base i ops σ st=some r
 | [],_,_,_,_,he=>he
 | o::l,i,σ,st,r,he=>by
  unfold Mi at he ⊢
  split at he
  ·rename_i σ' st' h1
   rw [Ye3 h h1]
   exact Zjt h he
  ·cases he
theorem Zpi {f f':Sl->St->Option (AE × Sl × St)} (h :∀σ st r,f σ st=some r->f' σ st=some r) :∀{n n':Nat} (_:n<=n') {σ:Sl} {st:St} {r:AE × Sl × St},Bk f n σ st=some r->Bk f' n' σ st=some r
 | 0,_,_,_,_,_,he=>by cases he
 | n+1,0,hn,_,_,_,_=>absurd hn (Nat.not_succ_le_zero _)
 | n+1,n'+1,hn,σ,st,r,he=>by
  unfold Bk at he ⊢
  split at he
  ·rename_i σ' st' h1
   rw [h _ _ _ h1]
   exact Zpi h (Nat.le_of_succ_le_succ hn) he
  ·rename_i hne
   rw [h _ _ _ he]
   split
   ·rename_i σ' st' heq
    injection heq with heq
    subst heq
    exact absurd he (hne _ _)
   ·rfl
theorem Zbw {l:Nat} {f f':Sl->St->Option (AE × Sl × St)} (h :∀σ st r,f σ st=some r->f' σ st=some r) :∀{n n':Nat} (_:n<=n') {σ:Sl} {st:St} {r:AE × Sl × St},Dn l f n σ st=some r->Dn l f' n' σ st=some r
 | 0,_,_,_,_,_,he=>by cases he
 | n+1,0,hn,_,_,_,_=>absurd hn (Nat.not_succ_le_zero _)
 | n+1,n'+1,hn,σ,st,r,he=>by
  unfold Dn at he ⊢
  split at he
  ·rename_i l' σ' st' h1
   rw [h _ _ _ h1]
   split at he
   ·rename_i hl
    simp only [hl,if_true]
    exact Zbw h (Nat.le_of_succ_le_succ hn) he
   ·cases he
  ·rename_i hne
   rw [h _ _ _ he]
   split
   ·rename_i l' σ' st' heq
    injection heq with heq
    subst heq
    exact absurd he (hne _ _ _)
   ·rfl
theorem Da {C C':Vh} (h:Aj C C') {n n':Nat} (hn:n<=n') {d:Nat} :∀{c:AC} {σ:Sl} {st:St} {r:AE × Sl × St},Xg C n d c σ st=some r->Xg C' n' d c σ st=some r
 | .hand _,_,_,_,he=>he
 | .skip,_,_,_,he=>he
 | .exit _,_,_,_,he=>he
 | .ret,_,_,_,he=>he
 | .goto _,_,_,_,he=>he
 | .frz _,_,_,_,he=>he
 | .reg id ops,σ,st,r,he=>by
  simp only [Xg,Po] at he ⊢
  rw [Option.map_eq_some_iff] at he ⊢
  obtain ⟨x,h1,h2⟩:=he
  exact ⟨x,Zjt h h1,h2⟩
 | .seq a b,σ,st,r,he=>by
  simp only [Xg] at he ⊢
  split at he
  ·rename_i σ' st' h1
   rw [Da h hn h1]
   exact Da h hn he
  ·rename_i hne
   rw [Da h hn he]
   split
   ·rename_i σ' st' heq
    injection heq with heq
    subst heq
    exact absurd he (hne _ _)
   ·rfl
 | .cond c a b,σ,st,r,he=>by
  simp only [Xg] at he ⊢
  split at he
  ·exact Da h hn he
  ·exact Da h hn he
  ·cases he
 | .block id c,σ,st,r,he=>by
  simp only [Xg] at he ⊢
  split at he
  ·rename_i id' σ' st' h1
   rw [Da h hn h1]
   exact he
  ·rename_i hne
   rw [Da h hn he]
   split
   ·rename_i id' σ' st' heq
    injection heq with heq
    subst heq
    exact absurd he (hne _ _ _)
   ·rfl
 | .loop c,σ,st,r,he=>by
  simp only [Xg] at he ⊢
  exact Zpi (fun _ _ _ h1=>Da h hn h1) hn he
 | .gscope l a b,σ,st,r,he=>by
  simp only [Xg] at he ⊢
  split at he
  ·rename_i σ' st' h1
   rw [Da h hn h1]
   exact Zbw (fun _ _ _ h2=>Da h hn h2) hn he
  ·cases he
theorem Lr {PG:Za} :∀{n m:Nat},n<=m->Aj (Kq PG n) (Kq PG m)
 | 0,_,_,_,_,_,_,_,he=>by cases he
 | n+1,0,hn,_,_,_,_,_,_=>absurd hn (Nat.not_succ_le_zero _)
 | n+1,m+1,hn,d,f,a,st,r,he=>by
  have ih:=Lr (PG:=PG) (Nat.le_of_succ_le_succ hn)
  unfold Kq at he ⊢
  cases hf:PG.fn f with
  | none=>rw [hf] at he;exact he
  | some F=>
   rw [hf] at he
   simp only at he ⊢
   split at he
   ·rename_i hl
    rw [if_pos hl]
    split at he
    ·rename_i σ st' h1
     rw [Da ih (Nat.le_of_succ_le_succ hn) h1]
     exact he
    ·rename_i σ st' h1
     rw [Da ih (Nat.le_of_succ_le_succ hn) h1]
     exact he
    ·cases he
   ·cases he
def Fn (PG:Za) (d f:Nat) (args:List AV) (st:St) (r:AV) (st':St):Prop:=∃n,Kq PG n d f args st=some (r,st')
def Pu (PG:Za) (f:Nat) (args:List AV) (r:AV):Prop:=∃st',Fn PG 0 f args Zm r st'
theorem Fn.det {PG:Za} {d f:Nat} {args:List AV} {st:St} {r r':AV} {st1 st2:St} (h:Fn PG d f args st r st1) (k:Fn PG d f args st r' st2):r=r'/\st1=st2:=by
 obtain ⟨n,h⟩:=h
 obtain ⟨m,k⟩:=k
 have h1:=Lr (PG:=PG) (Nat.le_max_left n m) _ _ _ _ _ h
 have h2:=Lr (PG:=PG) (Nat.le_max_right n m) _ _ _ _ _ k
 rw [h1] at h2
 injection h2 with h2
 injection h2 with h2 h3
 exact ⟨h2,h3⟩
theorem Pu.det {PG:Za} {f:Nat} {args:List AV} {r r':AV} (h:Pu PG f args r) (k:Pu PG f args r'):r=r':=by
 obtain ⟨_,h⟩:=h
 obtain ⟨_,k⟩:=k
 exact (h.det k).1
def noC:Vh:=fun _ _ _ _=>none
def Kf {α:Type} (x:Option α) (K:α->Prop):Prop:=
 match x with
 | some v=>K v
 | none=>False
def WC (PG:Za) (f:Nat) (vs:List AV) (K:AV->Prop):Prop:=∃r,Pu PG f vs r/\K r
def WF (PG:Za) (d f:Nat) (vs:List AV) (st:St) (K:AV->St->Prop):Prop:=∃r st',Fn PG d f vs st r st'/\K r st'
def Zb5 (v:AV) (vs:List AV) (K:Nat->List AV->Prop):Prop:=
 match v with
 | .fn g cap=>K g (vs++cap)
 | .bf g cs=>K g (cs++vs)
 | _=>False
def Vj (σ:Sl):List Zu->List AV
 | []=>[]
 | x::r=>x.ev σ::Vj σ r
theorem Rn {σ:Sl} :∀{l:List Zu},Vj σ l=l.map (·.ev σ)
 | []=>rfl
 | x::r=>by simp [Vj,Rn]
def Yy (PG:Za) (d site ver:Nat) (σ:Sl) (st:St) (K:AV->St->Prop):Vg->Prop
 | .call false f args=>Kf (AV.strips (Vj σ args)) fun vs=>WC PG f vs fun r=>Kf r.strip fun r'=>K r' st
 | .call true f args=>WF PG (d+1) f (Vj σ args) st K
 | .callv f args=>Zb5 (f.ev σ) (Vj σ args) fun g l=>WF PG (d+1) g l st K
 | op=>Kf (Zy noC d site ver σ st op) fun r=>K r.1 r.2
theorem Zm3 {α:Type} {x:Option α} {K:α->Prop}:Kf x K ↔∃v,x=some v/\K v:=by
 unfold Kf
 split
 ·exact ⟨fun h=>⟨_,rfl,h⟩,fun ⟨v,h,hk⟩=>by cases h;exact hk⟩
 ·exact ⟨fun h=>h.elim,fun ⟨v,h,_⟩=>by cases h⟩
theorem Yy.run {PG:Za} {d site ver:Nat} {σ:Sl} {st:St} {K:AV->St->Prop} {op:Vg} (h:Yy PG d site ver σ st K op) :∃n v st',Zy (Kq PG n) d site ver σ st op=some (v,st')/\K v st':=by
 cases op with
 | call p f args=>
  cases p with
  | false=>
   obtain ⟨vs,h1,r,⟨st',n,h2⟩,h3⟩:=Zm3.1 h
   obtain ⟨r',h3,h4⟩:=Zm3.1 h3
   rw [Rn] at h1
   exact ⟨n,r',st,by simp only [Zy,h1,h2,h3,Option.map_some],h4⟩
  | true=>
   obtain ⟨r,st',⟨n,h1⟩,h2⟩:=h
   rw [Rn] at h1
   exact ⟨n,r,st',h1,h2⟩
 | callv f args=>
  have h':Zb5 (f.ev σ) (Vj σ args) fun g l=>WF PG (d+1) g l st K:=h
  unfold Zb5 at h'
  split at h'
  ·rename_i g cap h0
   obtain ⟨r,st',⟨n,h1⟩,h2⟩:=h'
   rw [Rn] at h1
   exact ⟨n,r,st',by simp only [Zy,h0];exact h1,h2⟩
  ·rename_i g cap h0
   obtain ⟨r,st',⟨n,h1⟩,h2⟩:=h'
   rw [Rn] at h1
   exact ⟨n,r,st',by simp only [Zy,h0];exact h1,h2⟩
  ·exact h'.elim
 | _=>
  simp only [Yy] at h
  obtain ⟨⟨v,st'⟩,h1,h2⟩:=Zm3.1 h
  exact ⟨0,v,st',Yk1 (C:=noC) (fun _ _ _ _ _ h=>by cases h) h1,h2⟩
theorem Wgq {PG:Za} {f:Nat} {vs:List AV} {r:AV} (h:Pu PG f vs r) (K:AV->Prop):WC PG f vs K=K r:=
 propext ⟨fun ⟨_,h1,h2⟩=>by rw [h.det h1];exact h2,fun hk=>⟨r,h,hk⟩⟩
def W1 (PG:Za) (d site ver:Nat) (o:AI) (σ:Sl) (st:St) (K:Sl->St->Prop):Prop:=
 match o.guard with
 | none=>Yy PG d site ver σ st (fun v st'=>K (Wu σ o.dst v) st') o.op
 | some (t,w)=>match σ t with
  | .b x=>if x=w then Yy PG d site ver σ st (fun v st'=>K (Wu σ o.dst v) st') o.op else K (Wu σ o.dst (.tup [])) st
  | .tup []=>K (Wu σ o.dst (.tup [])) st
  | _=>False
theorem W1.run {PG:Za} {d site ver:Nat} {o:AI} {σ:Sl} {st:St} {K:Sl->St->Prop} (h:W1 PG d site ver o σ st K) :∃n σ' st',Jo (Kq PG n) d site ver o σ st=some (σ',st')/\K σ' st':=by
 unfold W1 at h
 unfold Jo
 cases hg:o.guard with
 | none=>
  rw [hg] at h
  obtain ⟨n,v,st',h1,h2⟩:=Yy.run h
  exact ⟨n,_,st',by simp only [h1,Option.map_some],h2⟩
 | some tw=>
  obtain ⟨t,w⟩:=tw
  rw [hg] at h
  simp only at h ⊢
  revert h
  generalize σ t=z
  intro h
  split at h
  ·split at h
   ·rename_i hx
    obtain ⟨n,v,st',h1,h2⟩:=Yy.run h
    exact ⟨n,_,st',by simp only [if_pos hx,h1,Option.map_some],h2⟩
   ·rename_i hx
    exact ⟨0,_,st,by simp only [if_neg hx],h⟩
  ·exact ⟨0,_,st,rfl,h⟩
  ·exact h.elim
def WO (PG:Za) (d id base:Nat):Nat->List AI->Sl->St->(Sl->St->Prop)->Prop
 | _,[],σ,st,K=>K σ st
 | i,o::r,σ,st,K=>W1 PG d (id*4096+i) (base+i) o σ st fun σ' st'=>WO PG d id base (i+1) r σ' st' K
theorem WO.run {PG:Za} {d id base:Nat} :∀{ops:List AI} {i:Nat} {σ:Sl} {st:St} {K:Sl->St->Prop},WO PG d id base i ops σ st K->∃n σ' st',Mi (Kq PG n) d id base i ops σ st=some (σ',st')/\K σ' st'
 | [],i,σ,st,K,h=>⟨0,σ,st,rfl,h⟩
 | o::r,i,σ,st,K,h=>by
  obtain ⟨n,σ1,st1,h1,h2⟩:=W1.run (show W1 PG d (id*4096+i) (base+i) o σ st _ from h)
  obtain ⟨m,σ2,st2,h3,h4⟩:=WO.run h2
  refine ⟨max n m,σ2,st2,?_,h4⟩
  simp only [Mi,Ye3 (Lr (Nat.le_max_left n m)) h1,Zjt (Lr (Nat.le_max_right n m)) h3]
def W (PG:Za) (d:Nat) (c:AC) (σ:Sl) (st:St) (Q:AE->Sl->St->Prop):Prop:=
 ∃n e σ' st',Xg (Kq PG n) n d c σ st=some (e,σ',st')/\Q e σ' st'
section
variable {PG:Za} {d:Nat} {σ:Sl} {st:St} {Q:AE->Sl->St->Prop}
theorem Hn {n m:Nat} {c:AC} {r:AE × Sl × St} (h:Xg (Kq PG n) n d c σ st=some r) (hm:n<=m):Xg (Kq PG m) m d c σ st=some r:=
 Da (Lr hm) hm h
theorem W.skip (h:Q .normal σ st):W PG d .skip σ st Q:=⟨0,_,_,_,rfl,h⟩
theorem W.exit {id:Nat} (h:Q (.exit id) σ st):W PG d (.exit id) σ st Q:=⟨0,_,_,_,rfl,h⟩
theorem W.ret (h:Q .ret σ st):W PG d .ret σ st Q:=⟨0,_,_,_,rfl,h⟩
theorem W.goto {l:Nat} (h:Q (.goto l) σ st):W PG d (.goto l) σ st Q:=⟨0,_,_,_,rfl,h⟩
theorem W.frz0 {t v:Nat} {k:Zq} {cs cs':List AV} (ht:σ t=.p k v 0) (hk:lk st.bx k=some (v,cs)) (hs:Vs cs=some cs') (h:Q .normal (Qi σ t (.fp cs')) { st with bx:=del st.bx k }):W PG d (.frz t) σ st Q:=
 ⟨0,_,_,_,by simp only [Xg,ht,hk,hs,if_true],h⟩
theorem W.reg {id:Nat} {ops:List AI} (h:WO PG d id st.nx 0 ops σ { st with nx:=st.nx+ops.length,bx:=pre d id st.nx 0 ops st.bx } fun σ' st'=>Q .normal σ' st'):W PG d (.reg id ops) σ st Q:=by
 obtain ⟨n,σ',st',h1,h2⟩:=h.run
 exact ⟨n,_,σ',st',by simp only [Xg,Po,h1,Option.map_some],h2⟩
def Fs:List AI->Bool
 | []=>true
 | o::r=>(match o.op with | .alloc _=>false | _=>true)&&Fs r
theorem Yc0 {d id base:Nat} :∀{ops:List AI} {i:Nat} {bx:List (Zq × Nat × List AV)},Fs ops=true->pre d id base i ops bx=bx
 | [],_,_,_=>rfl
 | o::r,i,bx,h=>by
  simp only [Fs,Bool.and_eq_true] at h
  unfold pre
  split
  ·rename_i z hz
   rw [hz] at h
   exact absurd h.1 (by simp)
  ·exact Yc0 h.2
theorem W.reg0 {id:Nat} {ops:List AI} (hn:Fs ops=true) (h :∀nx,st.nx<=nx->WO PG d id st.nx 0 ops σ ⟨nx,st.bx,st.ow⟩ fun σ' st'=>Q .normal σ' st'):W PG d (.reg id ops) σ st Q:=by
 refine W.reg ?_
 rw [Yc0 hn]
 exact h _ (Nat.le_add_right _ _)
def Zl (PG:Za) (d:Nat) (c:AC) (Q:AE->Sl->St->Prop):AE->Sl->St->Prop
 | .normal,σ,st=>W PG d c σ st Q
 | e,σ,st=>Q e σ st
theorem W.seq {a b:AC} (h:W PG d a σ st (Zl PG d b Q)):W PG d (.seq a b) σ st Q:=by
 obtain ⟨n,e,σ1,st1,h1,h2⟩:=h
 cases e with
 | normal=>
  obtain ⟨m,e2,σ2,st2,h3,h4⟩:=h2
  exact ⟨max n m,e2,σ2,st2,by simp only [Xg,Hn h1 (Nat.le_max_left n m),Hn h3 (Nat.le_max_right n m)],h4⟩
 | exit id=>exact ⟨n,_,σ1,st1,by simp only [Xg,h1],h2⟩
 | ret=>exact ⟨n,_,σ1,st1,by simp only [Xg,h1],h2⟩
 | goto l=>exact ⟨n,_,σ1,st1,by simp only [Xg,h1],h2⟩
def Ig (v:AV) (K:Bool->Prop):Prop:=
 match v with
 | .b t=>K t
 | _=>False
theorem W.cond {c:Zu} {a b:AC} (h:Ig (c.ev σ) fun t=>(t=true->W PG d a σ st Q)/\(t=false->W PG d b σ st Q)):W PG d (.cond c a b) σ st Q:=by
 unfold Ig at h
 split at h
 ·rename_i t hc
  cases t with
  | true=>
   obtain ⟨n,e,σ1,st1,h1,h2⟩:=h.1 rfl
   exact ⟨n,e,σ1,st1,by simp only [Xg,hc,h1],h2⟩
  | false=>
   obtain ⟨n,e,σ1,st1,h1,h2⟩:=h.2 rfl
   exact ⟨n,e,σ1,st1,by simp only [Xg,hc,h1],h2⟩
 ·exact h.elim
theorem W.split {c:Zu} {a b:AC} {p:Prop} [hd:Decidable p] (hc:c.ev σ=.b (decide p)) (h1:p->W PG d a σ st Q) (h2:¬ p->W PG d b σ st Q):W PG d (.cond c a b) σ st Q:=by
 refine W.cond ?_
 rw [hc]
 exact ⟨fun h=>h1 (of_decide_eq_true h),fun h=>h2 (of_decide_eq_false h)⟩
theorem W.yes {c:Zu} {a b:AC} {p:Prop} [hd:Decidable p] (hc:c.ev σ=.b (decide p)) (hp:p) (h1:W PG d a σ st Q):W PG d (.cond c a b) σ st Q:=
 W.split hc (fun _=>h1) fun h=>absurd hp h
theorem W.no {c:Zu} {a b:AC} {p:Prop} [hd:Decidable p] (hc:c.ev σ=.b (decide p)) (hp:¬ p) (h1:W PG d b σ st Q):W PG d (.cond c a b) σ st Q:=
 W.split hc (fun h=>absurd h hp) fun _=>h1
theorem W.tt {c:Zu} {a b:AC} (hc:c.ev σ=.b true) (h1:W PG d a σ st Q):W PG d (.cond c a b) σ st Q:=
 W.yes (p:=True) hc trivial h1
theorem W.ff {c:Zu} {a b:AC} (hc:c.ev σ=.b false) (h1:W PG d b σ st Q):W PG d (.cond c a b) σ st Q:=
 W.no (p:=False) hc id h1
theorem W.cnd {c:Zu} {a b:AC} {t:Bool} (hc:c.ev σ=.b t) (h1:t=true->W PG d a σ st Q) (h2:t=false->W PG d b σ st Q):W PG d (.cond c a b) σ st Q:=by
 refine W.cond ?_
 rw [hc]
 exact ⟨h1,h2⟩
def Zw (id:Nat) (Q:AE->Sl->St->Prop):AE->Sl->St->Prop
 | .exit id',σ,st=>if id'=id then Q .normal σ st else Q (.exit id') σ st
 | e,σ,st=>Q e σ st
theorem W.block {id:Nat} {c:AC} (h:W PG d c σ st (Zw id Q)):W PG d (.block id c) σ st Q:=by
 obtain ⟨n,e,σ1,st1,h1,h2⟩:=h
 cases e with
 | exit id'=>
  simp only [Zw] at h2
  split at h2
  ·rename_i hid
   exact ⟨n,_,σ1,st1,by simp only [Xg,h1,hid,if_true],h2⟩
  ·rename_i hid
   exact ⟨n,_,σ1,st1,by simp only [Xg,h1,hid,if_false],h2⟩
 | normal=>exact ⟨n,_,σ1,st1,by simp only [Xg,h1],h2⟩
 | ret=>exact ⟨n,_,σ1,st1,by simp only [Xg,h1],h2⟩
 | goto l=>exact ⟨n,_,σ1,st1,by simp only [Xg,h1],h2⟩
theorem W.loop {c:AC} (h:W PG d c σ st (Zl PG d (.loop c) Q)):W PG d (.loop c) σ st Q:=by
 obtain ⟨n,e,σ1,st1,h1,h2⟩:=h
 cases e with
 | normal=>
  obtain ⟨m,e2,σ2,st2,h3,h4⟩:=h2
  refine ⟨max n m+1,e2,σ2,st2,?_,h4⟩
  have hm:m<=max n m+1:=Nat.le_trans (Nat.le_max_right n m) (Nat.le_succ _)
  simp only [Xg] at h3 ⊢
  rw [Bk,Hn h1 (Nat.le_trans (Nat.le_max_left n m) (Nat.le_succ _))]
  exact Zpi (fun σ st r h=>Hn h hm) (Nat.le_max_right n m) h3
 | exit id=>exact ⟨n+1,_,σ1,st1,by simp only [Xg];rw [Bk,Hn h1 (Nat.le_succ _)],h2⟩
 | ret=>exact ⟨n+1,_,σ1,st1,by simp only [Xg];rw [Bk,Hn h1 (Nat.le_succ _)],h2⟩
 | goto l=>exact ⟨n+1,_,σ1,st1,by simp only [Xg];rw [Bk,Hn h1 (Nat.le_succ _)],h2⟩
def WG (PG:Za) (d l:Nat) (b:AC) (σ:Sl) (st:St) (Q:AE->Sl->St->Prop):Prop:=
 ∃n e σ' st',Dn l (Xg (Kq PG n) n d b) n σ st=some (e,σ',st')/\Q e σ' st'
def Zq0 (PG:Za) (d l:Nat) (b:AC) (Q:AE->Sl->St->Prop):AE->Sl->St->Prop
 | .goto l',σ,st=>l'=l/\WG PG d l b σ st Q
 | e,σ,st=>Q e σ st
theorem WG.step {l:Nat} {b:AC} (h:W PG d b σ st (Zq0 PG d l b Q)):WG PG d l b σ st Q:=by
 obtain ⟨n,e,σ1,st1,h1,h2⟩:=h
 cases e with
 | goto l'=>
  obtain ⟨rfl,m,e2,σ2,st2,h3,h4⟩:=h2
  refine ⟨max n m+1,e2,σ2,st2,?_,h4⟩
  have hm:m<=max n m+1:=Nat.le_trans (Nat.le_max_right n m) (Nat.le_succ _)
  rw [Dn,Hn h1 (Nat.le_trans (Nat.le_max_left n m) (Nat.le_succ _))]
  simp only [if_true]
  exact Zbw (fun σ st r h=>Hn h hm) (Nat.le_max_right n m) h3
 | exit id=>exact ⟨n+1,_,σ1,st1,by rw [Dn,Hn h1 (Nat.le_succ _)],h2⟩
 | ret=>exact ⟨n+1,_,σ1,st1,by rw [Dn,Hn h1 (Nat.le_succ _)],h2⟩
 | normal=>exact ⟨n+1,_,σ1,st1,by rw [Dn,Hn h1 (Nat.le_succ _)],h2⟩
theorem W.gscope {l:Nat} {a b:AC} (h:W PG d a σ st fun e σ' st'=>match e with | .normal=>WG PG d l b σ' st' Q | _=>False):W PG d (.gscope l a b) σ st Q:=by
 obtain ⟨n,e,σ1,st1,h1,h2⟩:=h
 cases e with
 | normal=>
  obtain ⟨m,e2,σ2,st2,h3,h4⟩:=h2
  refine ⟨max n m,e2,σ2,st2,?_,h4⟩
  simp only [Xg,Hn h1 (Nat.le_max_left n m)]
  exact Zbw (fun σ st r h=>Hn h (Nat.le_max_right n m)) (Nat.le_max_right n m) h3
 | exit id=>exact h2.elim
 | ret=>exact h2.elim
 | goto l=>exact h2.elim
theorem W.mono {c:AC} {Q':AE->Sl->St->Prop} (h:W PG d c σ st Q) (hq :∀e σ st,Q e σ st->Q' e σ st):W PG d c σ st Q':=by
 obtain ⟨n,e,σ1,st1,h1,h2⟩:=h
 exact ⟨n,e,σ1,st1,h1,hq _ _ _ h2⟩
def Yk7 (d:Nat) (res:List Dp) (r:AV) (K:St->Prop):AE->Sl->St->Prop
 | .normal,σ,st | .ret,σ,st=>Xm σ st res=some r/\K { st with bx:=st.bx.filter fun x=>x.1.1<d }
 | _,_,_=>False
theorem Fn.of {f:Nat} {F:AF} {args:List AV} {r:AV} {K:St->Prop} (hf:PG.fn f=some F) (hn:args.length<=F.nt) (h:W PG d F.body (Wh args) st (Yk7 d F.res r K)) :∃st',Fn PG d f args st r st'/\K st':=by
 obtain ⟨n,e,σ1,st1,h1,h2⟩:=h
 cases e with
 | normal=>exact ⟨_,⟨n+1,by simp only [Kq,hf,if_pos hn,h1,h2.1,Option.map_some]⟩,h2.2⟩
 | ret=>exact ⟨_,⟨n+1,by simp only [Kq,hf,if_pos hn,h1,h2.1,Option.map_some]⟩,h2.2⟩
 | exit id=>exact h2.elim
 | goto l=>exact h2.elim
theorem Pu.of {f:Nat} {F:AF} {args:List AV} {r:AV} (hf:PG.fn f=some F) (hn:args.length<=F.nt) (h:W PG 0 F.body (Wh args) Zm (Yk7 0 F.res r fun _=>True)):Pu PG f args r:=by
 obtain ⟨st',h1,_⟩:=Fn.of hf hn h
 exact ⟨st',h1⟩
end
end Go.AM

/- Yg of the proof. -/
namespace Go.AM
open Go
section
variable {α β:Type}
theorem Wo (v:α) (K:α->Prop):Kf (some v) K=K v:=rfl
theorem Zsl (K:α->Prop):Kf none K=False:=rfl
theorem Tk (x:Option α) (f:α->β) (K:β->Prop):Kf (x.map f) K=Kf x fun v=>K (f v):=by cases x<;>rfl
theorem Zzi (c:Prop) [Decidable c] (x:Option α) (K:α->Prop):Kf (if c then x else none) K=(c/\Kf x K):=by
  by_cases h:c<;>simp [h,Zsl]
end
section
variable {PG:Za} {d id base i site ver:Nat} {σ:Sl} {st:St}
def onG (PG:Za) (d site ver:Nat) (dst:Option Nat) (op:Vg) (t:Nat) (w:Bool) (σ:Sl) (st:St) (K:Sl->St->Prop) (v:AV):Prop:=
  match v with
  | .b x=>if x=w then Yy PG d site ver σ st (fun v st'=>K (Wu σ dst v) st') op else K (Wu σ dst (.tup [])) st
  | .tup []=>K (Wu σ dst (.tup [])) st
  | _=>False
section
variable {dst:Option Nat} {op:Vg} {t:Nat} {K:Sl->St->Prop}
theorem Zm8 {w:Bool}:W1 PG d site ver ⟨dst,op,some (t,w)⟩ σ st K=onG PG d site ver dst op t w σ st K (σ t):=by
  unfold W1 onG
  all_goals try dsimp only
  all_goals first
    | rfl
    | (generalize σ t=z
       cases z with
       | tup cs=>cases cs<;>rfl
       | _=>rfl)
theorem Zfr {v:AV} (h:σ t=v):Qi σ t v=σ:=by
  funext x
  unfold Qi
  split
  . rename_i hx;rw [hx,h]
  . rfl
end
theorem Xj1 (K:Bool->Prop):Ig (.b true) K=K true:=rfl
theorem Whb (K:Bool->Prop):Ig (.b false) K=K false:=rfl
section
variable (K:AV->St->Prop)
theorem Yyk (x:Zu):Yy PG d site ver σ st K (.mv x)=K (x.ev σ) st:=rfl
theorem Yqk (c a b:Zu):Yy PG d site ver σ st K (.pick c a b)=Ig (c.ev σ) fun t=>K (if t then a.ev σ else b.ev σ) st:=by
  simp only [Yy,Zy,Yk]
  cases c.ev σ<;>rfl
theorem Xat (op:BinOp) (x y:Zu):Yy PG d site ver σ st K (.bin op x y)=Kf (Xl op (x.ev σ) (y.ev σ)) fun v=>K v st:=by
  simp only [Yy,Zy,Yk,Tk]
def Oo (v:AV) (K:List UInt8->Prop):Prop:=
  match v with
  | .s l=>K l
  | _=>False
theorem Sg (l:List UInt8) (K:List UInt8->Prop):Oo (.s l) K=K l:=rfl
def Oe (v:AV) (K:Zn->List (List AV)->Prop):Prop:=
  match v with
  | .sl o rows=>K o rows
  | _=>False
theorem Cz (o:Zn) (rows:List (List AV)) (K:Zn->List (List AV)->Prop):Oe (.sl o rows) K=K o rows:=rfl
def onN (v:AV) (K:Nat->Prop):Prop:=
  match v with
  | .i _ n=>0<=n/\K n.toNat
  | _=>False
theorem Xe3 (k:IntKind) (n:Int) (K:Nat->Prop):onN (.i k n) K=(0<=n/\K n.toNat):=rfl
def onI (v:AV) (K:IntKind->Int->Prop):Prop:=
  match v with
  | .i k n=>K k n
  | _=>False
theorem Wa1 (k:IntKind) (n:Int) (K:IntKind->Int->Prop):onI (.i k n) K=K k n:=rfl
def onT (v:AV) (K:List AV->Prop):Prop:=
  match v with
  | .tup cs=>K cs
  | _=>False
theorem Xew (cs:List AV) (K:List AV->Prop):onT (.tup cs) K=K cs:=rfl
theorem Wb9 (k:IntKind) (n:Int) (K:Nat->Prop) (h:0<=n):onN (.i k n) K=K n.toNat:=by simp [onN,h]
theorem Wly (x:Zu):Yy PG d site ver σ st K (.len true x)=Oo (x.ev σ) fun l=>K (.i .i64 l.length) st:=by
  simp only [Yy,Zy,Yk]
  cases x.ev σ<;>rfl
theorem Xf3 (x:Zu):Yy PG d site ver σ st K (.len false x)=Oe (x.ev σ) fun _ rows=>K (.i .i64 rows.length) st:=by
  simp only [Yy,Zy,Yk]
  cases x.ev σ<;>rfl
theorem Yvg (x i:Zu):Yy PG d site ver σ st K (.ixS x i)=Oo (x.ev σ) fun l=>onN (i.ev σ) fun j=>Kf l[j]? fun c=>K (.i .u8 c.toNat) st:=by
  simp only [Yy,Zy,Yk]
  cases x.ev σ<;>try rfl
  cases i.ev σ<;>try rfl
  rename_i l k n
  simp only [AV.nat,Sg,Xe3]
  by_cases h:0<=n
  . simp [Tk,h]
  . simp [Zsl,h]
theorem Xn4 (zero:List AV) (n:Nat) (parts:List (Nat × Zu)):Yy PG d site ver σ st K (.bslice zero n parts)=Kf (Vs zero) fun z=>(0<z.length/\n*z.length<=65536)/\Kf (Wx z σ (List.replicate n z) parts) fun rows=>K (.sl .full rows) st:=by
  simp only [Yy,Zy,Yk]
  cases Vs zero with
  | none=>rfl
  | some z=>simp only [Tk,Zzi,Wo]
theorem Wim (k:Nat) (x:Zu):Yy PG d site ver σ st K (.ext k x)=onT (x.ev σ) fun vs=>Kf vs[k]? fun v=>K v st:=by
  simp only [Yy,Zy,Yk]
  cases x.ev σ<;>simp [Tk,Zsl,onT]
theorem Wqm (k:IntKind) (x:Zu):Yy PG d site ver σ st K (.cvi k x)=onI (x.ev σ) fun _ n=>K (.i k (k.wrap n)) st:=by
  simp only [Yy,Zy,Yk]
  cases x.ev σ<;>rfl
theorem Xse (x:Zu):Yy PG d site ver σ st K (.b2s x)=Oe (x.ev σ) fun _ rows=>Kf (Bm rows) fun l=>K (.s l) st:=by
  simp only [Yy,Zy,Yk]
  cases x.ev σ<;>try rfl
  simp only [Tk,Cz]
theorem Zl1 (x:Zu) (lo hi:Option Zu):Yy PG d site ver σ st K (.slS x lo hi)=Oo (x.ev σ) fun l=>Kf (Kb σ l.length l.length lo hi) fun p=>K (.s ((l.drop p.1).take (p.2-p.1))) st:=by
  simp only [Yy,Zy,Yk]
  cases x.ev σ<;>try rfl
  simp only [Tk,Sg]
theorem Yr6 (size:Nat) (x:Zu) (lo hi:Option Zu):Yy PG d site ver σ st K (.slL size x lo hi)=Oe (x.ev σ) fun _ rows=>(rows.all (·.length==size)=true)/\Kf (Kb σ rows.length rows.length lo hi) fun p=>K (.sl .ext ((rows.drop p.1).take (p.2-p.1))) st:=by
  simp only [Yy,Zy,Yk]
  cases x.ev σ<;>try rfl
  simp only [Tk,Cz,Zzi]
theorem Wo1 (f:Nat) (args:List Zu):Yy PG d site ver σ st K (.call false f args)=Kf (AV.strips (Vj σ args)) fun vs=>WC PG f vs fun r=>Kf r.strip fun r'=>K r' st:=rfl
theorem Fg (f:Nat) (args:List Zu):Yy PG d site ver σ st K (.call true f args)=WF PG (d+1) f (Vj σ args) st K:=rfl
theorem Xpx (size bytes:Nat) (s x:Zu):Yy PG d site ver σ st K (.app size bytes s x)=Oe (x.ev σ) fun _ news=>Kf (Ui (d,site) ver size bytes (s.ev σ) news st) fun r=>K r.1 r.2:=by
  simp only [Yy,Zy]
  cases x.ev σ<;>rfl
theorem Xqx (s x:Zu):Yy PG d site ver σ st K (.appS s x)=Oo (x.ev σ) fun l=>Kf (Ui (d,site) ver 1 1 (s.ev σ) (l.map Yu) st) fun r=>K r.1 r.2:=by
  simp only [Yy,Zy]
  cases x.ev σ<;>rfl
end
end
section
variable (k:IntKind) (a b:Int)
theorem Xnq:Xl .add (.i k a) (.i k b)=some (.i k (k.wrap (a+b))):=by simp [Xl,Up]
theorem Xe4:Xl .sub (.i k a) (.i k b)=some (.i k (k.wrap (a-b))):=by simp [Xl,Up]
theorem Yst:Xl .mul (.i k a) (.i k b)=some (.i k (k.wrap (a*b))):=by simp [Xl,Up]
theorem Wo9:Xl .quo (.i k a) (.i k b)=if b=0 then none else some (.i k (k.wrap (a.tdiv b))):=by simp [Xl,Up]
theorem Zev:Xl .and (.i k a) (.i k b)=some (.i k (k.wrap (BitVec.ofInt k.bits a &&& BitVec.ofInt k.bits b).toNat)):=by simp [Xl,Up]
theorem Yca:Xl .eql (.i k a) (.i k b)=some (.b (decide (a=b))):=by simp [Xl,Up,BEq.beq]
theorem Xuj:Xl .neq (.i k a) (.i k b)=some (.b (decide (a≠b))):=by simp [Xl,Up,bne,BEq.beq]
theorem Xkj:Xl .lss (.i k a) (.i k b)=some (.b (decide (a<b))):=by simp [Xl,Up]
theorem Xa7:Xl .leq (.i k a) (.i k b)=some (.b (decide (a<=b))):=by simp [Xl,Up]
theorem Yxr:Xl .gtr (.i k a) (.i k b)=some (.b (decide (a>b))):=by simp [Xl,Up]
theorem Xgz:Xl .geq (.i k a) (.i k b)=some (.b (decide (a>=b))):=by simp [Xl,Up]
theorem Xb0 (k':IntKind):Xl .shr (.i k a) (.i k' b)=if b<0 then none else some (.i k (a.fdiv (2 ^ (min b.toNat k.bits)))):=by simp [Xl,Zfn]
theorem Whz (x y:List UInt8):Xl .add (.s x) (.s y)=if x.length+y.length<=We then some (.s (x++y)) else none:=by simp [Xl]
theorem Xw8 (x y:List UInt8):Xl .eql (.s x) (.s y)=some (.b (decide (x=y))):=by
  simp only [Xl]
  congr 2
  rw [Bool.eq_iff_iff]
  simp
theorem Xwj (x y:List UInt8):Xl .neq (.s x) (.s y)=some (.b (decide (x≠y))):=by
  simp only [Xl]
  congr 2
  rw [Bool.eq_iff_iff]
  simp
end
theorem Yv {z:Int} (h:-9223372036854775808<=z) (h':z<9223372036854775808):IntKind.i64.wrap z=z:=by
  rw [IntKind.wrap_i64]
  omega
theorem Zbj {z:Int} (h:0<=z) (h':z<18446744073709551616):IntKind.u64.wrap z=z:=by
  rw [IntKind.wrap_u64]
  omega
theorem Ztm {z:Int} (h:0<=z) (h':z<256):IntKind.u8.wrap z=z:=by
  rw [IntKind.wrap_u8]
  omega
def Jm (ow:List (Zq × Nat × Nat)) (o:Zn) (n:Nat):Prop:=
  match o with
  | .ext=>False
  | .full=>True
  | .id k v=>lk ow k=some (v,n)/\0<n
def Kw:Zn->Option Zq
  | .id k _=>some k
  | _=>none
theorem Bh {α:Type} (l:List (Zq × α)) (k:Zq) (a:α) (k':Zq):lk (Yx l k a) k'=if k=k' then some a else lk l k':=by
  induction l with
  | nil=>simp [Yx,lk]
  | cons x r ih=>
    obtain ⟨k1,b⟩:=x
    simp only [Yx]
    split
    . rename_i h;subst h;simp only [lk];split<;>rfl
    . rename_i h
      simp only [lk]
      split
      . rename_i h2;subst h2;rw [if_neg (fun e=>h e.symm)]
      . rw [ih]
theorem Zbs {α:Type} (l:List (Zq × α)) (k k':Zq):lk (del l k) k'=if k'=k then none else lk l k':=by
  induction l with
  | nil=>simp [del,lk]
  | cons x r ih=>
    obtain ⟨k1,b⟩:=x
    unfold del at ih ⊢
    simp only [List.filter_cons]
    by_cases h:k1=k
    . subst h
      simp only [ne_eq,not_true_eq_false,decide_false,Bool.false_eq_true,if_false,ih,lk]
      split
      . rfl
      . rename_i h;rw [if_neg (fun e=>h e.symm)]
    . simp only [ne_eq,h,not_false_eq_true,decide_true,if_true,lk]
      split
      . rename_i h2;subst h2;rw [if_neg h]
      . exact ih
theorem Xn6 {key:Zq} {ver size bytes:Nat} {o:Zn} {rows news:List (List AV)} {st:St} (hs:key.2<Wa\/∀k v,o=.id k v->Wa<=k.2) (ha:Jm st.ow o rows.length) (h1:(rows.length+news.length)*bytes<=Kx) (h2:rows.length+news.length<=Kx) (h3:0<size) (h4:(rows.all (·.length==size))=true) (h5:(news.all (·.length==size))=true)
    {K:AV->St->Prop} (hK :∀o' ow',Jm ow' o' (rows++news).length->(∀k,some k≠Kw o->k≠key->lk ow' k=lk st.ow k)->(Kw o'=Kw o\/Kw o'=some key)->K (.sl o' (rows++news)) ⟨st.nx,st.bx,ow'⟩):Kf (Ui key ver size bytes (.sl o rows) news st) fun r=>K r.1 r.2:=by
  simp only [Ui]
  rw [if_pos ⟨h1,h2,h3,h4,h5⟩]
  by_cases hn:news.isEmpty=true
  . rw [if_pos hn,Wo]
    have:news=[]:=by simpa using hn
    subst this
    have:=hK o st.ow (by rw [List.append_nil];cases o<;>exact ha) (fun _ _ _=>rfl) (.inl rfl)
    rwa [List.append_nil] at this
  . rw [if_neg hn]
    have hpos:0<(rows++news).length:=by
      cases news with
      | nil=>simp at hn
      | cons=>simp;omega
    cases o with
    | ext=>exact ha.elim
    | full=>
      simp only [Wo]
      refine hK (.id key ver) _ ⟨by rw [Bh,if_pos rfl,List.length_append],hpos⟩ (fun k _ hk=>by rw [Bh,if_neg (fun e=>hk e.symm)]) (.inr rfl)
    | id k v=>
      obtain ⟨ha1,ha2⟩:=ha
      have hs':key.2<Wa\/Wa<=k.2:=hs.imp_right fun h=>h k v rfl
      simp only [ha1,true_and,ha2,hs',and_self,if_true,Wo]
      refine hK (.id key ver) _ ⟨by rw [Bh,if_pos rfl,List.length_append],hpos⟩ (fun k' hk1 hk2=>?_) (.inr rfl)
      rw [Bh,if_neg (fun e=>hk2 e.symm),Zbs,if_neg (fun e=>hk1 (by rw [e];rfl))]
theorem Ws0 {PG:Za} {d site ver size bytes:Nat} {σ:Sl} {st:St} {s x:Zu} {o o2:Zn} {rows news:List (List AV)} (hb:site<Wa) (hs:s.ev σ=.sl o rows) (hx:x.ev σ=.sl o2 news) (ha:Jm st.ow o rows.length) (h1:(rows.length+news.length)*bytes<=Kx) (h2:rows.length+news.length<=Kx) (h3:0<size) (h4:(rows.all (·.length==size))=true) (h5:(news.all (·.length==size))=true)
    {K:AV->St->Prop} (hK :∀o' ow',Jm ow' o' (rows++news).length->(∀k,some k≠Kw o->k≠(d,site)->lk ow' k=lk st.ow k)->(Kw o'=Kw o\/Kw o'=some (d,site))->K (.sl o' (rows++news)) ⟨st.nx,st.bx,ow'⟩):Yy PG d site ver σ st K (.app size bytes s x):=by
  rw [Xpx,hx,Cz,hs]
  exact Xn6 (.inl hb) ha h1 h2 h3 h4 h5 hK
def bs (l:List UInt8):List (List AV):=l.map Yu
theorem Ym6 :∀(l:List UInt8),Bm (bs l)=some l
  | []=>rfl
  | c::l=>by
    have ih:=Ym6 l
    unfold bs at ih ⊢
    have hc:(c.toNat:Int)<256:=by have:=c.toNat_lt;omega
    have hc':(0:Int)<=c.toNat:=by omega
    simp only [List.map_cons,Bm,Pq,Yu,ih,hc,hc',and_self,if_true]
    simp
section
variable {PG:Za} {d id base i site ver:Nat} {st:St}
end
end Go.AM

/- Yg of the proof. -/
namespace Go.AM
open Go
def up (σ:Sl) (d:Nat) (v:AV):Sl:=fun t=>cond (Nat.beq t d) v (σ t)
theorem Lx (σ:Sl) (d:Nat) (v:AV):Qi σ d v=up σ d v:=by
 funext t
 unfold Qi up
 by_cases h:t=d
 ·rw [if_pos h,h,Nat.beq_refl];rfl
 ·rw [if_neg h]
  have:Nat.beq t d=false:=by
   cases hb:Nat.beq t d with
   | false=>rfl
   | true=>exact absurd (Nat.eq_of_beq_eq_true hb) h
  rw [this];rfl
def Zx (σ:Sl) (d:Option Nat) (v:AV):Sl:=match d with | some d=>up σ d v | none=>σ
theorem Zuk (σ:Sl) (d:Option Nat) (v:AV):Wu σ d v=Zx σ d v:=by cases d<;>simp [Wu,Zx,Lx]
def Zf (PG:Za) (f:Nat) (args:List AV) (r:AV):Prop:=∃r',Pu PG f args r'/\r'.strip=some r
theorem Zf.det {PG:Za} {f:Nat} {args:List AV} {r r':AV} (h:Zf PG f args r) (k:Zf PG f args r'):r=r':=by
 obtain ⟨a,h1,h2⟩:=h
 obtain ⟨b,h3,h4⟩:=k
 rw [h1.det h3,h4] at h2
 injection h2 with h2
 exact h2.symm
def Sz {α:Type} (n:Nat) (a:α):List α:=List.replicate n a
theorem Yl7 {α:Type} (n:Nat) (a:α):Sz n a=List.replicate n a:=rfl
attribute [irreducible] Sz
def Qn (n bytes:Nat):Prop:=n*bytes<=Kx/\n<=Kx
def Ep (PG:Za) (f:Nat) (rows:List (List AV)) (args:List AV) (rows':List (List AV)):Prop:=
 ∀d st o,Jm st.ow o rows.length->∃o' st',Fn PG d f (.sl o rows::args) st (.sl o' rows') st'/\Jm st'.ow o' rows'.length
section
variable {PG:Za} {d id base i:Nat} {σ:Sl} {st:St} {K:Sl->St->Prop} {r:List AI} {t:Option Nat} {x y:Zu}
theorem Gn (h:K σ st):WO PG d id base i [] σ st K:=h
theorem Ug {op:Vg} (h:Yy PG d (id*4096+i) (base+i) σ st (fun v st'=>WO PG d id base (i+1) r (Zx σ t v) st' K) op):WO PG d id base i (⟨t,op,none⟩::r) σ st K:=by
 show Yy PG d (id*4096+i) (base+i) σ st (fun v st'=>WO PG d id base (i+1) r (Wu σ t v) st' K) op
 simp only [Zuk]
 exact h
theorem Vi {op:Vg} {v:AV} (hv :∀K:AV->St->Prop,Yy PG d (id*4096+i) (base+i) σ st K op=K v st) (h:WO PG d id base (i+1) r (Zx σ t v) st K):WO PG d id base i (⟨t,op,none⟩::r) σ st K:=by
 refine Ug ?_
 rw [hv]
 exact h
theorem Vo {v:AV} (hx:x.ev σ=v) (h:WO PG d id base (i+1) r (Zx σ t v) st K):WO PG d id base i (⟨t,.mv x,none⟩::r) σ st K:=
 Vi (fun K=>by rw [Yyk,hx]) h
theorem Rl {op:BinOp} {a b v:AV} (hx:x.ev σ=a) (hy:y.ev σ=b) (hv:Xl op a b=some v) (h:WO PG d id base (i+1) r (Zx σ t v) st K):WO PG d id base i (⟨t,.bin op x y,none⟩::r) σ st K:=
 Vi (fun K=>by rw [Xat,hx,hy,hv,Wo]) h
theorem Ztc {a b:Bool} (hx:x.ev σ=.b a) (hy:y.ev σ=.b b) (h:WO PG d id base (i+1) r (Zx σ t (.b (decide (a≠b)))) st K):WO PG d id base i (⟨t,.beq true x y,none⟩::r) σ st K:=
 Vi (fun K=>by
  simp only [Yy,Zy,Yk,hx,hy,Option.map_some,Wo]
  cases a<;>cases b<;>rfl) h
theorem Zky {a:Bool} (hx:x.ev σ=.b a) (h:WO PG d id base (i+1) r (Zx σ t (.b (!a))) st K):WO PG d id base i (⟨t,.un .not x,none⟩::r) σ st K:=
 Vi (fun K=>by simp only [Yy,Zy,Yk,hx,Option.map_some,Wo]) h
theorem Yh4 {p:Prop} [Decidable p] (hx:x.ev σ=.b (decide p)) (h:WO PG d id base (i+1) r (Zx σ t (.b (decide (¬p)))) st K):WO PG d id base i (⟨t,.un .not x,none⟩::r) σ st K:=
 Zky hx (by rw [<- decide_not];exact h)
theorem Yvr {k:IntKind} {n:Int} (hx:x.ev σ=.i k n) (h:WO PG d id base (i+1) r (Zx σ t (.i k (k.wrap (0-n)))) st K):WO PG d id base i (⟨t,.un .neg x,none⟩::r) σ st K:=
 Vi (fun K=>by simp only [Yy,Zy,Yk,hx,Option.map_some,Wo]) h
theorem Ztw {l:List UInt8} (hx:x.ev σ=.s l) (h:WO PG d id base (i+1) r (Zx σ t (.i .i64 (l.length:Int))) st K):WO PG d id base i (⟨t,.len true x,none⟩::r) σ st K:=
 Vi (fun K=>by rw [Wly,hx,Sg]) h
theorem Zrt {α:Type} {f:α->List AV} {l:List α} {o:Zn} (hx:x.ev σ=.sl o (l.map f)) (h:WO PG d id base (i+1) r (Zx σ t (.i .i64 (l.length:Int))) st K):WO PG d id base i (⟨t,.len false x,none⟩::r) σ st K:=
 Vi (fun K=>by rw [Xf3,hx,Cz,List.length_map]) h
theorem Uw {l:List UInt8} {k:IntKind} {n:Int} {c:UInt8} (hx:x.ev σ=.s l) (hy:y.ev σ=.i k n) (h0:0<=n) (hc:l[n.toNat]?=some c) (h:WO PG d id base (i+1) r (Zx σ t (.i .u8 (c.toNat:Int))) st K):WO PG d id base i (⟨t,.ixS x y,none⟩::r) σ st K:=
 Vi (fun K=>by rw [Yvg,hx,Sg,hy,Wb9 _ _ _ h0,hc,Wo]) h
theorem Zb8 {k k':IntKind} {n:Int} (hx:x.ev σ=.i k' n) (h:WO PG d id base (i+1) r (Zx σ t (.i k (k.wrap n))) st K):WO PG d id base i (⟨t,.cvi k x,none⟩::r) σ st K:=
 Vi (fun K=>by rw [Wqm,hx,Wa1]) h
theorem Ztj {l:List UInt8} {o:Zn} (hx:x.ev σ=.sl o (l.map Yu)) (h:WO PG d id base (i+1) r (Zx σ t (.s l)) st K):WO PG d id base i (⟨t,.b2s x,none⟩::r) σ st K:=
 Vi (fun K=>by
  have:=Ym6 l
  unfold bs at this
  rw [Xse,hx,Cz,this,Wo]) h
theorem Yqc {k:Nat} {vs:List AV} {v:AV} (hx:x.ev σ=.tup vs) (hv:vs[k]?=some v) (h:WO PG d id base (i+1) r (Zx σ t v) st K):WO PG d id base i (⟨t,.ext k x,none⟩::r) σ st K:=
 Vi (fun K=>by rw [Wim,hx,Xew,hv,Wo]) h
theorem Xps {k:IntKind} {a b:Int} (hx:x.ev σ=.i k a) (hy:y.ev σ=.i k b) (h:WO PG d id base (i+1) r (Zx σ t (.i k (if a<b then b else a))) st K):WO PG d id base i (⟨t,.max x y,none⟩::r) σ st K:=
 Vi (fun K=>by simp only [Yy,Zy,Yk,hx,hy,if_true,Option.map_some,Wo]) h
theorem Hb {z:Zu} {l:List UInt8} {k:IntKind} {n:Int} (hx:x.ev σ=.s l) (hz:z.ev σ=.i k n) (h0:0<=n) (h1:n.toNat<=l.length) (h:WO PG d id base (i+1) r (Zx σ t (.s (l.drop n.toNat))) st K):WO PG d id base i (⟨t,.slS x (some z) none,none⟩::r) σ st K:=
 Vi (fun K=>by
  rw [Zl1,hx,Sg]
  have hb:Kb σ l.length l.length (some z) none=some (n.toNat,l.length):=by
   simp only [Kb,hz,AV.nat,h0,if_true]
   rw [if_pos ⟨h1,Nat.le_refl _⟩]
  rw [hb,Wo]
  simp only
  rw [List.take_of_length_le (by simp)]) h
theorem Md {z:Zu} {l:List UInt8} {k:IntKind} {n:Int} (hx:x.ev σ=.s l) (hz:z.ev σ=.i k n) (h0:0<=n) (h1:n.toNat<=l.length) (h:WO PG d id base (i+1) r (Zx σ t (.s (l.take n.toNat))) st K):WO PG d id base i (⟨t,.slS x none (some z),none⟩::r) σ st K:=
 Vi (fun K=>by
  rw [Zl1,hx,Sg]
  have hb:Kb σ l.length l.length none (some z)=some (0,n.toNat):=by
   simp only [Kb,hz,AV.nat,h0,if_true]
   rw [if_pos ⟨Nat.zero_le _,h1⟩]
  rw [hb,Wo]
  simp only [List.drop_zero,Nat.sub_zero]) h
theorem Yik {z z':Zu} {l:List UInt8} {k k':IntKind} {n m:Int} (hx:x.ev σ=.s l) (hz:z.ev σ=.i k n) (hz':z'.ev σ=.i k' m) (h0:0<=n) (h1:n<=m) (h2:m.toNat<=l.length) (h:WO PG d id base (i+1) r (Zx σ t (.s ((l.drop n.toNat).take (m.toNat-n.toNat)))) st K):WO PG d id base i (⟨t,.slS x (some z) (some z'),none⟩::r) σ st K:=
 Vi (fun K=>by
  rw [Zl1,hx,Sg]
  have hb:Kb σ l.length l.length (some z) (some z')=some (n.toNat,m.toNat):=by
   simp only [Kb,hz,hz',AV.nat,h0,show (0:Int)<=m by omega,if_true]
   rw [if_pos ⟨by omega,h2⟩]
  rw [hb,Wo]) h
theorem Yef {α:Type} {f:α->List AV} {l:List α} {o:Zn} {size:Nat} {z:Zu} {k:IntKind} {n:Int} (hf :∀a,(f a).length=size) (hx:x.ev σ=.sl o (l.map f)) (hz:z.ev σ=.i k n) (h0:0<=n) (h1:n.toNat<=l.length) (h:WO PG d id base (i+1) r (Zx σ t (.sl .ext ((l.drop n.toNat).map f))) st K):WO PG d id base i (⟨t,.slL size x (some z) none,none⟩::r) σ st K:=
 Vi (fun K=>by
  rw [Yr6,hx,Cz]
  have hb:Kb σ (l.map f).length (l.map f).length (some z) none=some (n.toNat,(l.map f).length):=by
   simp only [Kb,hz,AV.nat,h0,if_true]
   rw [if_pos ⟨by simpa using h1,Nat.le_refl _⟩]
  have hall:((l.map f).all fun c=>c.length==size)=true:=by simp [hf]
  rw [hb,Wo]
  simp only [hall,true_and]
  rw [List.take_of_length_le (by simp),List.map_drop]) h
theorem Wj3 {α:Type} {f:α->List AV} {l:List α} {o:Zn} {size:Nat} {z z':Zu} {k k':IntKind} {n m:Int} (hf :∀a,(f a).length=size) (hx:x.ev σ=.sl o (l.map f)) (hz:z.ev σ=.i k n) (hz':z'.ev σ=.i k' m) (h0:0<=n) (h1:n<=m) (h2:m.toNat<=l.length) (h:WO PG d id base (i+1) r (Zx σ t (.sl .ext (((l.drop n.toNat).take (m.toNat-n.toNat)).map f))) st K):WO PG d id base i (⟨t,.slL size x (some z) (some z'),none⟩::r) σ st K:=
 Vi (fun K=>by
  rw [Yr6,hx,Cz]
  have hb:Kb σ (l.map f).length (l.map f).length (some z) (some z')=some (n.toNat,m.toNat):=by
   simp only [Kb,hz,hz',AV.nat,h0,show (0:Int)<=m by omega,if_true]
   rw [if_pos ⟨by omega,by simpa using h2⟩]
  have hall:((l.map f).all fun c=>c.length==size)=true:=by simp [hf]
  rw [hb,Wo]
  simp only [hall,true_and,List.map_take,List.map_drop]) h
theorem Xrb {off n:Nat} {agg:Bool} {cs:List AV} {v:AV} (hx:x.ev σ=.ag cs) (hn:Nat.ble (off+n) cs.length=true) (hv:Qf agg ((cs.drop off).take n)=some v) (h:WO PG d id base (i+1) r (Zx σ t v) st K):WO PG d id base i (⟨t,.fld off n agg x,none⟩::r) σ st K:=
 Vi (fun K=>by simp only [Yy,Zy,Yk,hx,Nat.le_of_ble_eq_true hn,if_true,hv,Option.map_some,Wo]) h
theorem Wb {zero:List AV} {parts:List (Nat × Nat × Zu)} {cs:List AV} (hp:Ww σ zero parts=some cs) (h:WO PG d id base (i+1) r (Zx σ t (.ag cs)) st K):WO PG d id base i (⟨t,.build zero parts,none⟩::r) σ st K:=
 Vi (fun K=>by simp only [Yy,Zy,Yk,hp,Option.map_some,Wo]) h
theorem Xr {cs:List AV}:Ww σ cs []=some cs:=rfl
theorem Yn {cells cs:List AV} {off n:Nat} {v:AV} {ps:List (Nat × Nat × Zu)} (hx:x.ev σ=v) (hc:(Nat.beq v.cells.length n&&Nat.ble (off+n) cells.length&&v.cells.all AV.one)=true) (h:Ww σ (Ud cells off v.cells) ps=some cs):Ww σ cells ((off,n,x)::ps)=some cs:=by
 simp only [Bool.and_eq_true] at hc
 simp only [Ww,hx]
 rw [if_pos ⟨Nat.eq_of_beq_eq_true hc.1.1,Nat.le_of_ble_eq_true hc.1.2,hc.2⟩]
 exact h
theorem Tl {α:Type} {f:α->AV} {l:List α} {n:Nat} {k:IntKind} {m:Int} {c:α} (hn:l.length=n) (hx:x.ev σ=.ag (l.map f)) (hy:y.ev σ=.i k m) (h0:0<=m) (hc:l[m.toNat]?=some c) (h:WO PG d id base (i+1) r (Zx σ t (f c)) st K):WO PG d id base i (⟨t,.ixA n 1 false x y,none⟩::r) σ st K:=
 Vi (fun K=>by
  have hl:m.toNat<l.length:=by
   rcases Nat.lt_or_ge m.toNat l.length with h | h
   ·exact h
   ·rw [List.getElem?_eq_none h] at hc;cases hc
  have hd:((l.map f).drop m.toNat).take 1=[f c]:=by
   rw [List.drop_eq_getElem_cons (by simpa using hl)]
   simp only [List.getElem_map,List.take_succ_cons,List.take_zero]
   rw [List.getElem?_eq_getElem hl] at hc
   injection hc with hc
   rw [hc]
  simp only [Yy,Zy,Yk,hx,hy,AV.nat,h0,if_true,Nat.mul_one]
  rw [if_pos ⟨by omega,by simp;omega⟩,hd]
  simp only [Qf,Bool.false_eq_true,if_false,Option.map_some,Wo]) h
theorem Od {zero z:List AV} {n:Nat} {parts:List (Nat × Zu)} {rows:List (List AV)} (hz:Vs zero=some z) (hn:(Nat.blt 0 z.length&&Nat.ble (n*z.length) 65536)=true) (hp:Wx z σ (List.replicate n z) parts=some rows) (h:WO PG d id base (i+1) r (Zx σ t (.sl .full rows)) st K):WO PG d id base i (⟨t,.bslice zero n parts,none⟩::r) σ st K:=
 Vi (fun K=>by
  simp only [Bool.and_eq_true] at hn
  have h1:0<z.length:=Nat.le_of_ble_eq_true hn.1
  rw [Xn4,hz,Wo,hp,Wo]
  simp only [h1,Nat.le_of_ble_eq_true hn.2,and_self,true_and]) h
theorem Vn {z:List AV} {rows:List (List AV)}:Wx z σ rows []=some rows:=rfl
theorem Xw {z:List AV} {rows rows':List (List AV)} {j:Nat} {v:AV} {cs:List AV} {ps:List (Nat × Zu)} (hx:x.ev σ=v) (hc:Vs v.cells=some cs) (hn:(Nat.blt j rows.length&&Nat.beq cs.length z.length)=true) (h:Wx z σ (rows.set j cs) ps=some rows'):Wx z σ rows ((j,x)::ps)=some rows':=by
 simp only [Bool.and_eq_true] at hn
 have h1:j<rows.length:=Nat.le_of_ble_eq_true hn.1
 simp only [Wx,hx,hc]
 rw [if_pos ⟨h1,Nat.eq_of_beq_eq_true hn.2⟩]
 exact h
theorem Zrf {α:Type} {f:α->List AV} {l:List α} {o:Zn} {size:Nat} {k:IntKind} {n:Int} {c:α} {cs:List AV} (hx:x.ev σ=.sl o (l.map f)) (hy:y.ev σ=.i k n) (h0:0<=n) (hc:l[n.toNat]?=some c) (hf:f c=cs) (hs:(Nat.beq cs.length size&&Nat.blt 0 size)=true) (h:WO PG d id base (i+1) r (Zx σ t (.fp cs)) st K):WO PG d id base i (⟨t,.iaL size x y,none⟩::r) σ st K:=
 Vi (fun K=>by
  simp only [Bool.and_eq_true] at hs
  have h1:0<size:=Nat.le_of_ble_eq_true hs.2
  have h2:(l.map f)[n.toNat]?=some cs:=by rw [List.getElem?_map,hc,Option.map_some,hf]
  simp only [Yy,Zy,Yk,hx,hy,AV.nat,h0,if_true,h2]
  rw [if_pos ⟨Nat.eq_of_beq_eq_true hs.1,h1⟩,Option.map_some,Wo]) h
theorem Yjf {n:Nat} {agg:Bool} {cs:List AV} {v:AV} (hx:x.ev σ=.fp cs) (hn:Nat.ble n cs.length=true) (hv:Qf agg (cs.take n)=some v) (h:WO PG d id base (i+1) r (Zx σ t v) st K):WO PG d id base i (⟨t,.load n agg x,none⟩::r) σ st K:=
 Vi (fun K=>by simp only [Yy,Zy,Bg,hx,Nat.le_of_ble_eq_true hn,if_true,hv,Option.map_some,Wo]) h
theorem Fu {n:Nat} {agg:Bool} {cs:List AV} {v:AV} (hx:x.ev σ=.fp cs) (hn:Nat.ble n cs.length=true) (hv:Qf agg (cs.take n)=some v) (h:WO PG d id base (i+1) r (Zx σ t v) st K):WO PG d id base i (⟨t,.ldf n agg x,none⟩::r) σ st K:=
 Vi (fun K=>by simp only [Yy,Zy,Yk,hx,Nat.le_of_ble_eq_true hn,if_true,hv,Option.map_some,Wo]) h
theorem Zys {off:Nat} {cs:List AV} (hx:x.ev σ=.fp cs) (h:WO PG d id base (i+1) r (Zx σ t (.fp (cs.drop off))) st K):WO PG d id base i (⟨t,.fad off x,none⟩::r) σ st K:=
 Vi (fun K=>by simp only [Yy,Zy,Yk,hx,Option.map_some,Wo]) h
theorem Xla {cs:List AV} (hx:x.ev σ=.fp cs) (h:WO PG d id base (i+1) r (Zx σ t (.fp cs)) st K):WO PG d id base i (⟨t,.nilc x,none⟩::r) σ st K:=
 Vi (fun K=>by simp only [Yy,Zy,Yk,hx,Option.map_some,Wo]) h
theorem Wek {α:Type} {f:α->List AV} {a:α} {zero z:List AV} {bytes:Nat} {k k':IntKind} {n m:Int} (hz:Vs zero=some z) (hf:f a=z) (hz0:Nat.blt 0 z.length=true) (hx:x.ev σ=.i k n) (hy:y.ev σ=.i k' m) (h0:0<=n) (hm:n=m) (hs:Qn n.toNat bytes) (h:WO PG d id base (i+1) r (Zx σ t (.sl .full ((Sz n.toNat a).map f))) st K):WO PG d id base i (⟨t,.mks zero bytes x y,none⟩::r) σ st K:=
 Vi (fun K=>by
  subst hm
  have h1:0<z.length:=Nat.le_of_ble_eq_true hz0
  simp only [Yy,Zy,hx,hy,AV.nat,h0,if_true,hz]
  rw [if_pos ⟨trivial,hs.1,hs.2,h1⟩,Wo,Yl7,List.map_replicate,hf]) h
theorem Xy {zero:List AV} (h:WO PG d id base (i+1) r (Zx σ t (.p (d,id*4096+i) (base+i) 0)) st K):WO PG d id base i (⟨t,.alloc zero,none⟩::r) σ st K:=
 Vi (fun _=>rfl) h
theorem Ns {off o v:Nat} {k:Zq} (hx:x.ev σ=.p k v o) (h:WO PG d id base (i+1) r (Zx σ t (.p k v (o+off))) st K):WO PG d id base i (⟨t,.fad off x,none⟩::r) σ st K:=
 Vi (fun K=>by simp only [Yy,Zy,Yk,hx,Option.map_some,Wo]) h
theorem Wp {o v:Nat} {k:Zq} (hx:x.ev σ=.p k v o) (h:WO PG d id base (i+1) r (Zx σ t (.p k v o)) st K):WO PG d id base i (⟨t,.nilc x,none⟩::r) σ st K:=
 Vi (fun K=>by simp only [Yy,Zy,Yk,hx,Option.map_some,Wo]) h
theorem Ck {n o v:Nat} {agg:Bool} {k:Zq} {cs:List AV} {w:AV} (hx:x.ev σ=.p k v o) (hb:lk st.bx k=some (v,cs)) (hn:Nat.ble (o+n) cs.length=true) (hv:Qf agg ((cs.drop o).take n)=some w) (h:WO PG d id base (i+1) r (Zx σ t w) st K):WO PG d id base i (⟨t,.load n agg x,none⟩::r) σ st K:=
 Vi (fun K=>by simp only [Yy,Zy,Bg,hx,hb,Nat.le_of_ble_eq_true hn,and_self,if_true,hv,Option.map_some,Wo]) h
theorem Zah {n o v:Nat} {k:Zq} {cs cs':List AV} {w:AV} (hx:x.ev σ=.p k v o) (hb:lk st.bx k=some (v,cs)) (hy:y.ev σ=w) (hn:(Nat.ble (o+n) cs.length&&Nat.beq w.cells.length n&&w.cells.all AV.one)=true) (hs:Ud cs o w.cells=cs') (h:WO PG d id base (i+1) r (Zx σ t (.tup [])) { st with bx:=Yx st.bx k (v,cs') } K) (hok:Mj k w=true:=by first | rfl | exact Aq rfl):WO PG d id base i (⟨t,.store n x y,none⟩::r) σ st K:=by
 refine Ug ?_
 simp only [Bool.and_eq_true] at hn
 simp only [Yy,Zy,Ca,hx,hb,hy]
 rw [if_pos ⟨trivial,Nat.le_of_ble_eq_true hn.1.1,Nat.eq_of_beq_eq_true hn.1.2,hn.2,hok⟩,hs]
 simp only [Option.map_some,Wo]
 exact h
theorem Xfv {f v:Nat} {k:Zq} {cs cs' A B:List AV} {a b:List Zu} (ha:a.map (·.ev σ)=A) (hx:x.ev σ=.p k v 0) (hb:b.map (·.ev σ)=B) (hk:lk st.bx k=some (v,cs)) (hs:Vs cs=some cs') (h:WO PG d id base (i+1) r (Zx σ t (.fn f (A++.fp cs'::B))) { st with bx:=del st.bx k } K):WO PG d id base i (⟨t,.mkfz f a x b,none⟩::r) σ st K:=by
 refine Ug ?_
 simp only [Yy,Zy,hx,hk,hs,ha,hb,if_true,Wo]
 exact h
theorem Zhh {n:Nat} {v:AV} {cs:List AV} (hx:x.ev σ=v) (hn:Nat.beq v.cells.length n=true) (hs:Vs v.cells=some cs) (h:WO PG d id base (i+1) r (Zx σ t (.fp cs)) st K):WO PG d id base i (⟨t,.boxf n x,none⟩::r) σ st K:=
 Vi (fun K=>by simp only [Yy,Zy,Yk,hx,Nat.eq_of_beq_eq_true hn,if_true,hs,Option.map_some,Wo]) h
theorem Vx {n:Nat} {v:AV} (hx:x.ev σ=v) (hn:(Nat.beq v.cells.length n&&v.cells.all AV.one)=true) (h:WO PG d id base (i+1) r (Zx σ t (.p (d,id*4096+i) (base+i) 0)) { st with bx:=Yx st.bx (d,id*4096+i) (base+i,v.cells) } K):WO PG d id base i (⟨t,.box n x,none⟩::r) σ st K:=by
 refine Ug ?_
 simp only [Bool.and_eq_true] at hn
 simp only [Yy,Zy,hx]
 rw [if_pos ⟨Nat.eq_of_beq_eq_true hn.1,hn.2⟩,Wo]
 exact h
theorem Xh6 {n size o v:Nat} {k:Zq} {k':IntKind} {m:Int} (hx:x.ev σ=.p k v o) (hy:y.ev σ=.i k' m) (h0:0<=m) (h1:m.toNat<n) (h:WO PG d id base (i+1) r (Zx σ t (.p k v (o+m.toNat*size))) st K):WO PG d id base i (⟨t,.iaA n size x y,none⟩::r) σ st K:=
 Vi (fun K=>by
  simp only [Yy,Zy,Yk,hx,hy,AV.nat,h0,if_true,h1,Option.map_some,Wo]) h
theorem Qk {α:Type} {f:α->List AV} {size bytes:Nat} {l m:List α} {o o2:Zn} (hf :∀a,(f a).length=size) (hsz:Nat.blt 0 size=true) (hx:x.ev σ=.sl o (l.map f)) (hy:y.ev σ=.sl o2 (m.map f)) (ha:Jm st.ow o l.length) (hs:Qn (l.length+m.length) bytes) (hb:Nat.blt (id*4096+i) Wa=true)
  (h :∀o' ow',Jm ow' o' (l++m).length->(∀k,some k≠Kw o->k≠(d,id*4096+i)->lk ow' k=lk st.ow k)->(Kw o'=Kw o\/Kw o'=some (d,id*4096+i))->WO PG d id base (i+1) r (Zx σ t (.sl o' ((l++m).map f))) ⟨st.nx,st.bx,ow'⟩ K):WO PG d id base i (⟨t,.app size bytes x y,none⟩::r) σ st K:=by
 refine Ug ?_
 have h1:0<size:=Nat.le_of_ble_eq_true hsz
 refine Ws0 (Nat.le_of_ble_eq_true hb) hx hy (by simpa using ha) (by simpa using hs.1) (by simpa using hs.2) h1 (by simp [hf]) (by simp [hf]) fun o' ow' h2 h3 h4=>?_
 rw [<- List.map_append] at h2 ⊢
 exact h o' ow' (by simpa using h2) h3 h4
theorem sn:AV.strips (Vj σ [])=some []:=rfl
theorem sc {v w:AV} {xs:List Zu} {ws:List AV} (hx:x.ev σ=v) (hw:v.strip=some w) (h:AV.strips (Vj σ xs)=some ws):AV.strips (Vj σ (x::xs))=some (w::ws):=by
 simp only [Vj,AV.strips,hx,hw,h]
theorem Yhv {f:Nat} {args:List Zu} {vs:List AV} {v:AV} (hs:AV.strips (Vj σ args)=some vs) (hp:Zf PG f vs v) (h:WO PG d id base (i+1) r (Zx σ t v) st K):WO PG d id base i (⟨t,.call false f args,none⟩::r) σ st K:=by
 refine Ug ?_
 obtain ⟨r',h1,h2⟩:=hp
 rw [Wo1,hs,Wo,Wgq h1,h2,Wo]
 exact h
theorem Yr:Vj σ []=[]:=rfl
theorem Ya {v:AV} {xs:List Zu} {vs:List AV} (hx:x.ev σ=v) (h:Vj σ xs=vs):Vj σ (x::xs)=v::vs:=by simp only [Vj,hx,h]
theorem Yxp {f:Nat} {args:List Zu} {vs:List AV} {o:Zn} {rows rows':List (List AV)} (hs:Vj σ args=.sl o rows::vs) (hp:Ep PG f rows vs rows') (ha:Jm st.ow o rows.length)
  (h :∀o' st',Jm st'.ow o' rows'.length->WO PG d id base (i+1) r (Zx σ t (.sl o' rows')) st' K):WO PG d id base i (⟨t,.call true f args,none⟩::r) σ st K:=by
 refine Ug ?_
 obtain ⟨o',st',h1,h2⟩:=hp (d+1) st o ha
 rw [Fg,hs]
 exact ⟨_,_,h1,h o' st' h2⟩
section
variable {dst:Option Nat} {op:Vg} {g:Nat} {w:Bool}
theorem Yie (hg:σ g=.b w) (h:WO PG d id base i (⟨dst,op,none⟩::r) σ st K):WO PG d id base i (⟨dst,op,some (g,w)⟩::r) σ st K:=by
 show W1 PG d _ _ ⟨dst,op,some (g,w)⟩ σ st _
 rw [Zm8,hg]
 cases w<;>exact h
theorem Zey {b:Bool} (hg:σ g=.b b) (hb:(b != w)=true) (h:WO PG d id base (i+1) r (Zx σ dst (.tup [])) st K):WO PG d id base i (⟨dst,op,some (g,w)⟩::r) σ st K:=by
 show W1 PG d _ _ ⟨dst,op,some (g,w)⟩ σ st _
 rw [<- Zuk] at h
 rw [Zm8,hg]
 cases w<;>cases b<;>first | exact absurd hb (by decide) | exact h
theorem Yku (hg:σ g=.tup []) (h:WO PG d id base (i+1) r (Zx σ dst (.tup [])) st K):WO PG d id base i (⟨dst,op,some (g,w)⟩::r) σ st K:=by
 show W1 PG d _ _ ⟨dst,op,some (g,w)⟩ σ st _
 rw [<- Zuk] at h
 rw [Zm8,hg]
 exact h
end
theorem Znl {ops:List AI} {g:Nat} {p:Prop} [Decidable p] (hg:σ g=.b (decide p)) (h1:p->WO PG d id base i ops (up σ g (.b true)) st K) (h2:¬p->WO PG d id base i ops (up σ g (.b false)) st K):WO PG d id base i ops σ st K:=by
 by_cases h:p
 ·have:=h1 h
  rwa [<- Lx,Zfr (by rw [hg,decide_eq_true h])] at this
 ·have:=h2 h
  rwa [<- Lx,Zfr (by rw [hg,decide_eq_false h])] at this
theorem Zlk {ops:List AI} {g:Nat} {b:Bool} (hg:σ g=.b b) (h1:b=true->WO PG d id base i ops (up σ g (.b true)) st K) (h2:b=false->WO PG d id base i ops (up σ g (.b false)) st K):WO PG d id base i ops σ st K:=by
 cases b with
 | true=>have:=h1 rfl;rwa [<- Lx,Zfr hg] at this
 | false=>have:=h2 rfl;rwa [<- Lx,Zfr hg] at this
theorem Ypt {a b:Zu} {v:AV} (hx:x.ev σ=.b true) (ha:a.ev σ=v) (h:WO PG d id base (i+1) r (Zx σ t v) st K):WO PG d id base i (⟨t,.pick x a b,none⟩::r) σ st K:=
 Vi (fun K=>by rw [Yqk,hx,Xj1,ha];rfl) h
theorem Ybr {a b:Zu} {v:AV} (hx:x.ev σ=.b false) (hb:b.ev σ=v) (h:WO PG d id base (i+1) r (Zx σ t v) st K):WO PG d id base i (⟨t,.pick x a b,none⟩::r) σ st K:=
 Vi (fun K=>by rw [Yqk,hx,Whb,hb];rfl) h
end
section
variable {PG:Za} {d:Nat} {σ:Sl} {st:St} {Q:AE->Sl->St->Prop}
theorem Yp2 {c:Zu} {a b:AC} {p:Prop} [Decidable p] (hc:c.ev σ=.b (decide p)) (h1:p->W PG d a σ st Q) (h2:¬p->W PG d b σ st Q):W PG d (.cond c a b) σ st Q:=W.split hc h1 h2
theorem Ykk {c:Zu} {a b:AC} {t:Bool} (hc:c.ev σ=.b t) (h1:t=true->W PG d a σ st Q) (h2:t=false->W PG d b σ st Q):W PG d (.cond c a b) σ st Q:=W.cnd hc h1 h2
theorem Ym1 {c:Zu} {a b:AC} (hc:c.ev σ=.b true) (h1:W PG d a σ st Q):W PG d (.cond c a b) σ st Q:=W.tt hc h1
theorem Yg6 {c:Zu} {a b:AC} (hc:c.ev σ=.b false) (h1:W PG d b σ st Q):W PG d (.cond c a b) σ st Q:=W.ff hc h1
theorem W.frz {t v:Nat} {k:Zq} {cs cs':List AV} (ht:σ t=.p k v 0) (hk:lk st.bx k=some (v,cs)) (hs:Vs cs=some cs') (h:Q .normal (up σ t (.fp cs')) { st with bx:=del st.bx k }):W PG d (.frz t) σ st Q:=W.frz0 ht hk hs (by rw [Lx];exact h)
def Rr (d:Nat) (res:List Dp) (K:AV->St->Prop):AE->Sl->St->Prop
 | .normal,σ,st | .ret,σ,st=>∃r,Xm σ st res=some r/\K r { st with bx:=st.bx.filter fun x=>x.1.1<d }
 | _,_,_=>False
theorem Fn.of' {f:Nat} {F:AF} {args:List AV} {K:AV->St->Prop} (hf:PG.fn f=some F) (hn:args.length<=F.nt) (h:W PG d F.body (Wh args) st (Rr d F.res K)) :∃r st',Fn PG d f args st r st'/\K r st':=by
 obtain ⟨n,e,σ1,st1,h1,h2⟩:=h
 cases e with
 | normal=>
  obtain ⟨r,h3,h4⟩:=h2
  exact ⟨r,_,⟨n+1,by simp only [Kq,hf,if_pos hn,h1,h3,Option.map_some]⟩,h4⟩
 | ret=>
  obtain ⟨r,h3,h4⟩:=h2
  exact ⟨r,_,⟨n+1,by simp only [Kq,hf,if_pos hn,h1,h3,Option.map_some]⟩,h4⟩
 | exit id=>exact h2.elim
 | goto l=>exact h2.elim
theorem Zf.of {f:Nat} {F:AF} {args:List AV} {K:AV->Prop} (hf:PG.fn f=some F) (hn:Nat.ble args.length F.nt=true) (h:W PG 0 F.body (Wh args) Zm (Rr 0 F.res fun r _=>∃v,r.strip=some v/\K v)) :∃v,Zf PG f args v/\K v:=by
 obtain ⟨r,st',h1,v,h2,h3⟩:=Fn.of' hf (Nat.le_of_ble_eq_true hn) h
 exact ⟨v,⟨r,⟨st',h1⟩,h2⟩,h3⟩
theorem Zf.orac {f:Nat} {args:List AV} {r v:AV} (hf:PG.fn f=none) (hr:PG.orac f args=some r) (hv:r.strip=some v):Zf PG f args v:=
 ⟨r,⟨Zm,1,by simp only [Kq,hf,hr,Option.map_some]⟩,hv⟩
end
theorem Zul {k:IntKind} {a b:Int} (h:b≠0):Xl .quo (.i k a) (.i k b)=some (.i k (k.wrap (a.tdiv b))):=by rw [Wo9,if_neg h]
theorem Zpu {k:IntKind} {a b:Int} (h:b≠0):Xl .rem (.i k a) (.i k b)=some (.i k (a.tmod b)):=by simp [Xl,Up,h]
theorem Zlv {k k':IntKind} {a b:Int} (h:0<=b):Xl .shr (.i k a) (.i k' b)=some (.i k (a.fdiv (2 ^ (min b.toNat k.bits)))):=by rw [Xb0,if_neg (by omega)]
theorem Xw9 (k:IntKind) (a b:Int):Xl .or (.i k a) (.i k b)=some (.i k (k.wrap (BitVec.ofInt k.bits a ||| BitVec.ofInt k.bits b).toNat)):=by simp [Xl,Up]
theorem Xx4 (k:IntKind) (a b:Int):Xl .andNot (.i k a) (.i k b)=some (.i k (k.wrap (BitVec.ofInt k.bits a &&& ~~~(BitVec.ofInt k.bits b)).toNat)):=by simp [Xl,Up]
theorem Jc {x y:List UInt8} (h:x.length+y.length<=We):Xl .add (.s x) (.s y)=some (.s (x++y)):=by rw [Whz,if_pos h]
def Zv (x:List UInt8):List AV:=[.s x]
def c8 (x:UInt8):AV:=.i .u8 (x.toNat:Int)
theorem Sj (x:UInt8):(Yu x).length=1:=rfl
theorem Nh (x:List UInt8):(Zv x).length=1:=rfl
theorem Jm.full {ow:List (Zq × Nat × Nat)} {n:Nat}:Jm ow .full n:=trivial
theorem Zj {α:Type} {l:List (Zq × α)} {k:Zq} {a:α}:lk (Yx l k a) k=some a:=by rw [Bh,if_pos rfl]
theorem Zs {α:Type} {l:List (Zq × α)} {d s s':Nat} {a:α} {b:Option α} (h:Nat.beq s s'=false) (hb:lk l (d,s')=b):lk (Yx l (d,s) a) (d,s')=b:=by
 rw [Bh,if_neg ?_,hb]
 intro e
 injection e with _ e
 rw [e,Nat.beq_refl] at h
 cases h
theorem Wqs {α:Type} (f:α->AV) (l:List α) (n:Nat) (a:α):Ud (l.map f) n [f a]=(l.set n a).map f:=by
 simp only [Ud,List.map_set]
theorem Zzk :∀l:List UInt8,Vs (l.map c8)=some (l.map c8)
 | []=>rfl
 | c::l=>by simp only [List.map_cons,Vs,Zzk l,c8,AV.soft]
theorem Wp3 (l:List UInt8):Hz 1 l.length (l.map c8)=l.map Yu:=by
 unfold Hz
 apply List.ext_getElem
 ·simp
 ·intro j h1 h2
  simp at h1
  simp only [List.getElem_map,List.getElem_range,Nat.mul_one]
  rw [List.drop_eq_getElem_cons (by simpa using h1)]
  simp [c8,Yu]
section
variable {PG:Za} {d id base i:Nat} {σ:Sl} {st:St} {K:Sl->St->Prop} {r:List AI} {t:Option Nat} {x y:Zu}
theorem Yyv {z:Zu} {l:List UInt8} {k:Zq} {k':IntKind} {n v:Nat} {m:Int} (hx:x.ev σ=.p k v 0) (hb:lk st.bx k=some (v,l.map c8)) (hn:l.length=n) (hn0:Nat.blt 0 n=true) (hz:z.ev σ=.i k' m) (h0:0<=m) (h1:m.toNat<=n) (h:WO PG d id base (i+1) r (Zx σ t (.sl .ext ((l.drop m.toNat).map Yu))) { st with bx:=del st.bx k } K):WO PG d id base i (⟨t,.slA n 1 x (some z) none,none⟩::r) σ st K:=by
 refine Ug ?_
 have hbd:Kb σ n n (some z) none=some (m.toNat,n):=by
  simp only [Kb,hz,AV.nat,h0,if_true]
  rw [if_pos ⟨h1,Nat.le_refl _⟩]
 simp only [Yy,Zy,hx,hb]
 rw [if_pos ⟨trivial,trivial,by simp [hn],Nat.one_pos⟩]
 subst hn
 simp only [Zzk,hbd,Option.map_some,Wo,Wp3]
 rw [List.take_of_length_le (by simp),<- List.map_drop]
 exact h
theorem Yto {α:Type} {f:α->AV} {l:List α} {a:α} {v o:Nat} {k:Zq} (hf :∀a,(f a).cells=[f a]/\(f a).one=true) (hx:x.ev σ=.p k v o) (hb:lk st.bx k=some (v,l.map f)) (hy:y.ev σ=f a) (hn:o<l.length) (h:WO PG d id base (i+1) r (Zx σ t (.tup [])) { st with bx:=Yx st.bx k (v,(l.set o a).map f) } K) (hok:Mj k (f a)=true:=by first | rfl | exact Aq rfl):WO PG d id base i (⟨t,.store 1 x y,none⟩::r) σ st K:=by
 refine Ug ?_
 simp only [Yy,Zy,Ca,hx,hb,hy,(hf a).1]
 rw [if_pos ⟨trivial,by simp;omega,rfl,by simp [(hf a).2],hok⟩,Wqs]
 simp only [Option.map_some,Wo]
 exact h
end
theorem Yx5 (a:UInt8):(c8 a).cells=[c8 a]/\(c8 a).one=true:=⟨rfl,rfl⟩
section
variable {PG:Za} {d id base i:Nat} {σ:Sl} {st:St} {K:Sl->St->Prop} {r:List AI} {t:Option Nat} {x y:Zu}
theorem Xa {k:IntKind} {n:Int} (hx:x.ev σ=.i k n) (h:WO PG d id base (i+1) r (Zx σ t (.i k n)) st K):WO PG d id base i (⟨t,.mv x,none⟩::r) σ st K:=Vo hx h
theorem Yq {b:Bool} (hx:x.ev σ=.b b) (h:WO PG d id base (i+1) r (Zx σ t (.b b)) st K):WO PG d id base i (⟨t,.mv x,none⟩::r) σ st K:=Vo hx h
theorem He {l:List UInt8} (hx:x.ev σ=.s l) (h:WO PG d id base (i+1) r (Zx σ t (.s l)) st K):WO PG d id base i (⟨t,.mv x,none⟩::r) σ st K:=Vo hx h
theorem Yf {α:Type} {f:α->List AV} {l:List α} {o:Zn} (hx:x.ev σ=.sl o (l.map f)) (h:WO PG d id base (i+1) r (Zx σ t (.sl o (l.map f))) st K):WO PG d id base i (⟨t,.mv x,none⟩::r) σ st K:=Vo hx h
section
variable {a b:Zu}
theorem Xzn {v:Bool} (hx:x.ev σ=.b true) (ha:a.ev σ=.b v) (h:WO PG d id base (i+1) r (Zx σ t (.b v)) st K):WO PG d id base i (⟨t,.pick x a b,none⟩::r) σ st K:=Ypt hx ha h
theorem Wjo {v:Bool} (hx:x.ev σ=.b false) (hb:b.ev σ=.b v) (h:WO PG d id base (i+1) r (Zx σ t (.b v)) st K):WO PG d id base i (⟨t,.pick x a b,none⟩::r) σ st K:=Ybr hx hb h
end
theorem Xpk (k:IntKind) (hk:(k != .i8)=true) (c:UInt8):k.wrap (c.toNat:Int)=(c.toNat:Int):=by
 have:=c.toNat_lt
 cases k with
 | i8=>exact absurd hk (by decide)
 | i16=>simp [IntKind.wrap,IntKind.bits,IntKind.signed];omega
 | i32=>rw [IntKind.wrap_i32];omega
 | i64=>rw [IntKind.wrap_i64];omega
 | u8=>rw [IntKind.wrap_u8];omega
 | u16=>rw [IntKind.wrap_u16];omega
 | u32=>rw [IntKind.wrap_u32];omega
 | u64=>rw [IntKind.wrap_u64];omega
theorem Xyw {k k':IntKind} {c:UInt8} (hx:x.ev σ=.i k' (c.toNat:Int)) (hk:(k != .i8)=true) (h:WO PG d id base (i+1) r (Zx σ t (.i k (c.toNat:Int))) st K):WO PG d id base i (⟨t,.cvi k x,none⟩::r) σ st K:=
 Zb8 hx (by rw [Xpk k hk c];exact h)
theorem Zwi {n:Int} {c:UInt8} (hx:x.ev σ=.i .u8 n) (hc:n=(c.toNat:Int)):x.ev σ=.i .u8 (c.toNat:Int):=by rw [hx,hc]
theorem Ja {α:Type} {f:α->List AV} {l:List α} {zero z:List AV} {n:Nat} {parts:List (Nat × Zu)} {rows:List (List AV)} (hz:Vs zero=some z) (hn:(Nat.blt 0 z.length&&Nat.ble (n*z.length) 65536)=true) (hp:Wx z σ (List.replicate n z) parts=some rows) (hr:rows=l.map f) (h:WO PG d id base (i+1) r (Zx σ t (.sl .full (l.map f))) st K):WO PG d id base i (⟨t,.bslice zero n parts,none⟩::r) σ st K:=
 Od hz hn hp (by rw [hr];exact h)
theorem Lv {α:Type} {f:α->AV} {l:List α} {zero:List AV} {parts:List (Nat × Nat × Zu)} {cs:List AV} (hp:Ww σ zero parts=some cs) (hr:cs=l.map f) (h:WO PG d id base (i+1) r (Zx σ t (.ag (l.map f))) st K):WO PG d id base i (⟨t,.build zero parts,none⟩::r) σ st K:=
 Wb hp (by rw [hr];exact h)
end
def Gl (k:IntKind) (a b:Int):Int:=k.wrap (BitVec.ofInt k.bits a &&& BitVec.ofInt k.bits b).toNat
def bOr (k:IntKind) (a b:Int):Int:=k.wrap (BitVec.ofInt k.bits a ||| BitVec.ofInt k.bits b).toNat
def Pt (k:IntKind) (a b:Int):Int:=k.wrap (BitVec.ofInt k.bits a &&& ~~~(BitVec.ofInt k.bits b)).toNat
def Zak (k:IntKind) (a:Int) (n:Nat):Int:=a.fdiv (2 ^ (min n k.bits))
def Cd (PG:Za) (f:Nat) (rows:List (List AV)) (args:List AV) (KK:List (List AV)->Prop):Prop:=
 ∀d st o,Jm st.ow o rows.length->∃o' st' rows',KK rows'/\Fn PG d f (.sl o rows::args) st (.sl o' rows') st'/\Jm st'.ow o' rows'.length
def Yec (KK:List (List AV)->Prop) (r:AV) (st':St):Prop:=∃o' rows',r=.sl o' rows'/\Jm st'.ow o' rows'.length/\KK rows'
theorem Cd.of {PG:Za} {f:Nat} {F:AF} {rows:List (List AV)} {args:List AV} {KK:List (List AV)->Prop} (hf:PG.fn f=some F) (hn:Nat.ble (args.length+1) F.nt=true) (h :∀d st o,Jm st.ow o rows.length->W PG d F.body (Wh (.sl o rows::args)) st (Rr d F.res (Yec KK))):Cd PG f rows args KK:=by
 intro d st o ha
 obtain ⟨r,st',h1,o',rows',rfl,h2,h3⟩:=Fn.of' (args:=.sl o rows::args) hf (by simpa using Nat.le_of_ble_eq_true hn) (h d st o ha)
 exact ⟨o',st',rows',h3,h1,h2⟩
theorem Cd.to {PG:Za} {f:Nat} {rows rows':List (List AV)} {args:List AV} (h:Cd PG f rows args fun x=>x=rows'):Ep PG f rows args rows':=by
 intro d st o ha
 obtain ⟨o',st',x,rfl,h1,h2⟩:=h d st o ha
 exact ⟨o',st',h1,h2⟩
section
variable {PG:Za} {d id base i:Nat} {σ:Sl} {st:St} {K:Sl->St->Prop} {r:List AI} {t:Option Nat} {x y:Zu}
theorem Wf8 {n v:Nat} {k:Zq} {k':IntKind} {m:Int} (hx:x.ev σ=.p k v 0) (hy:y.ev σ=.i k' m) (h0:0<=m) (h1:m.toNat<n) (h:WO PG d id base (i+1) r (Zx σ t (.p k v m.toNat)) st K):WO PG d id base i (⟨t,.iaA n 1 x y,none⟩::r) σ st K:=
 Xh6 hx hy h0 h1 (by rw [Nat.zero_add,Nat.mul_one];exact h)
theorem Za7 {α:Type} {l:List (Zq × α)} {d s s':Nat} {b:Option α} (h:Nat.beq s s'=false) (hb:lk l (d,s')=b):lk (del l (d,s)) (d,s')=b:=by
 rw [Zbs,if_neg ?_,hb]
 intro e
 injection e with _ e
 rw [e,Nat.beq_refl] at h
 cases h
end
end Go.AM

/- Yg of the proof. -/
namespace Go.AM
open Go
abbrev Wc:=List (Zq × Nat × List AV)
abbrev Xz:=List (Zq × Nat × Nat)
def Fr (d:Nat) (k:Zq) (bx:Wc) (ow:Xz) (bx':Wc) (ow':Xz):Prop:=
 (∀k':Zq,k'.1<d->k'≠k->lk bx' k'=lk bx k')/\(∀k':Zq,k'.1<d->k'.2<Rk->lk ow' k'=lk ow k')
theorem Ya9 {α:Type} (l:List (Zq × α)) (p:Zq->Bool) (k:Zq):lk (l.filter fun x=>p x.1) k=if p k then lk l k else none:=by
 induction l with
 | nil=>simp [lk]
 | cons x r ih=>
  obtain ⟨k1,b⟩:=x
  simp only [List.filter_cons]
  by_cases h:k1=k
  ·subst h
   cases hp:p k1 with
   | true=>simp [lk]
   | false=>simp [ih,hp]
  ·split
   ·simp only [lk,if_neg h,ih]
   ·simp only [ih,lk,if_neg h]
section
variable {d:Nat} {k:Zq} {bx bx' bx2:Wc} {ow ow' ow2:Xz}
theorem Fr.refl:Fr d k bx ow bx ow:=⟨fun _ _ _=>rfl,fun _ _ _=>rfl⟩
theorem Gx {α:Type} {l:List (Zq × α)} {k k':Zq} {a:α} (h:k≠k'):lk (Yx l k a) k'=lk l k':=by rw [Bh,if_neg h]
theorem Fr.box {s:Nat} {a:Nat × List AV} (h:Fr d k bx ow bx' ow'):Fr d k bx ow (Yx bx' (d,s) a) ow':=
 ⟨fun k' h1 h2=>by rw [Gx (by rintro rfl;exact Nat.lt_irrefl _ h1)];exact h.1 k' h1 h2,h.2⟩
theorem Fr.own {a:Nat × List AV} (h:Fr d k bx ow bx' ow'):Fr d k bx ow (Yx bx' k a) ow':=
 ⟨fun k' h1 h2=>by rw [Gx (fun e=>h2 e.symm)];exact h.1 k' h1 h2,h.2⟩
theorem Fr.del {s:Nat} (h:Fr d k bx ow bx' ow'):Fr d k bx ow (Go.AM.del bx' (d,s)) ow':=
 ⟨fun k' h1 h2=>by rw [Zbs,if_neg (by rintro rfl;exact Nat.lt_irrefl _ h1)];exact h.1 k' h1 h2,h.2⟩
theorem Fr.call {s:Nat} (h:Fr d k bx ow bx' ow') (c:Fr (d+1) (d,s) bx' ow' bx2 ow2):Fr d k bx ow bx2 ow2:=
 ⟨fun k' h1 h2=>(c.1 k' (Nat.lt_succ_of_lt h1) (by rintro rfl;exact Nat.lt_irrefl _ h1)).trans (h.1 k' h1 h2),fun k' h1 h2=>(c.2 k' (Nat.lt_succ_of_lt h1) h2).trans (h.2 k' h1 h2)⟩
theorem Fr.pass (h:Fr d k bx ow bx' ow') (c:Fr (d+1) k bx' ow' bx2 ow2):Fr d k bx ow bx2 ow2:=
 ⟨fun k' h1 h2=>(c.1 k' (Nat.lt_succ_of_lt h1) h2).trans (h.1 k' h1 h2),fun k' h1 h2=>(c.2 k' (Nat.lt_succ_of_lt h1) h2).trans (h.2 k' h1 h2)⟩
theorem Fr.trans (h:Fr d k bx ow bx' ow') (c:Fr d k bx' ow' bx2 ow2):Fr d k bx ow bx2 ow2:=
 ⟨fun k' h1 h2=>(c.1 k' h1 h2).trans (h.1 k' h1 h2),fun k' h1 h2=>(c.2 k' h1 h2).trans (h.2 k' h1 h2)⟩
theorem Fr.out (h:Fr d k bx ow bx' ow'):Fr d k bx ow (bx'.filter fun x=>x.1.1<d) ow':=
 ⟨fun k' h1 h2=>by
  have:=Ya9 bx' (fun k=>decide (k.1<d)) k'
  rw [this,if_pos (by simpa using h1)]
  exact h.1 k' h1 h2,h.2⟩
def Gi (d:Nat):Zn->Prop
 | .id k _=>k.1=d/\k.2<Rk
 | _=>True
def Xe (d:Nat) (ow:Xz) (o:Zn) (n:Nat):Prop:=Jm ow o n/\Gi d o
theorem Xe.mk {o:Zn} {n:Nat} (h:Jm ow o n) (m:Gi d o):Xe d ow o n:=⟨h,m⟩
theorem Xe.full {n:Nat}:Xe d ow .full n:=⟨trivial,trivial⟩
theorem Gi.app {o o':Zn} {site:Nat} (h:Gi d o) (hs:Nat.blt site Rk=true) (he:Kw o'=Kw o\/Kw o'=some (d,site)):Gi d o':=by
 have hs:site<Rk:=Nat.le_of_ble_eq_true hs
 cases o' with
 | ext=>trivial
 | full=>trivial
 | id k v=>
  rcases he with he | he
  ·cases o with
   | ext=>cases he
   | full=>cases he
   | id k' v'=>injection he with he;subst he;exact h
  ·injection he with he;subst he;exact ⟨rfl,hs⟩
theorem Xe.call {o:Zn} {n:Nat} {q:Zq} (h:Xe d ow o n) (c:Fr (d+1) q bx ow bx2 ow2):Xe d ow2 o n:=by
 refine ⟨?_,h.2⟩
 cases o with
 | ext=>exact h.1
 | full=>trivial
 | id k' v'=>exact ⟨(c.2 k' (by rw [h.2.1];exact Nat.lt_succ_self _) h.2.2).trans h.1.1,h.1.2⟩
theorem Fr.app {o:Zn} {site:Nat} (h:Fr d k bx ow bx' ow') (hm:Gi d o) (hw :∀k',some k'≠Kw o->k'≠(d,site)->lk ow2 k'=lk ow' k'):Fr d k bx ow bx' ow2:=by
 refine ⟨h.1,fun k' h1 h2=>(hw k' ?_ ?_).trans (h.2 k' h1 h2)⟩
 ·intro e
  cases o with
  | ext=>cases e
  | full=>cases e
  | id q v=>injection e with e;subst e;exact absurd hm.1 (Nat.ne_of_lt h1)
 ·rintro rfl;exact Nat.lt_irrefl _ h1
end
abbrev BC:=Wc->Xz->Zq->Nat->Prop
def Bx (cs:List AV):BC:=fun bx _ k v=>lk bx k=some (v,cs)
def Ly (ow:Xz) (o:Zn) (n:Nat):Prop:=
 match o with
 | .ext=>False
 | .full=>n=0
 | .id k v=>lk ow k=some (v,n)/\0<n/\Wa<=k.2
def Bl (b:List UInt8):BC:=fun bx ow k v=>∃c0 o,lk bx k=some (v,[c0,.sl o (b.map Yu)])/\(c0=.np\/c0=.p k v 0)/\Ly ow o b.length/\Wa<=k.2
section
variable {d s s':Nat} {k q:Zq} {bx:Wc} {ow ow':Xz} {v:Nat} {b:List UInt8}
theorem Wk (h:Nat.beq s s'=false):((d,s):Zq)≠(d,s'):=by
 intro e
 injection e with _ e
 rw [e,Nat.beq_refl] at h
 cases h
theorem Xxe (h:k.1<d):k≠(d,s):=by rintro rfl;exact Nat.lt_irrefl _ h
theorem Xn (h:k.1<d):((d,s):Zq)≠k:=fun e=>Xxe h e.symm
theorem Jq {α:Type} {l:List (Zq × α)} {a:α} {o:Option α} (h:k.1<d) (hb:lk l k=o):lk (Yx l (d,s) a) k=o:=by rw [Gx (Xn h)];exact hb
theorem Bl.other {a:Nat × List AV} (hn:q≠k) (h:Bl b bx ow k v):Bl b (Yx bx q a) ow k v:=by
 obtain ⟨c0,o,h1,h2⟩:=h
 exact ⟨c0,o,by rw [Gx hn];exact h1,h2⟩
theorem Bl.app {o:Zn} {site:Nat} (h:Bl b bx ow k v) (hm:Gi d o) (hs:Nat.blt site Rk=true) (hw :∀k',some k'≠Kw o->k'≠(d,site)->lk ow' k'=lk ow k'):Bl b bx ow' k v:=by
 obtain ⟨c0,o2,h1,h2,h3,h4⟩:=h
 have hs:site<Rk:=Nat.le_of_ble_eq_true hs
 refine ⟨c0,o2,h1,h2,?_,h4⟩
 cases o2 with
 | ext=>exact h3
 | full=>exact h3
 | id q w=>
  refine ⟨(hw q ?_ ?_).trans h3.1,h3.2⟩
  ·intro e
   cases o with
   | ext=>cases e
   | full=>cases e
   | id q' w'=>injection e with e;subst e;exact absurd hm.2 (Nat.not_lt.2 (Nat.le_trans (by decide) h3.2.2))
  ·rintro rfl;exact absurd hs (Nat.not_lt.2 (Nat.le_trans (by decide) h3.2.2))
end
def Yt (PG:Za) (f:Nat) (B:BC) (args:List AV) (RR:AV->Prop) (B':BC):Prop:=
 ∀d (st:St) (k:Zq) (v:Nat),k.1<d->B st.bx st.ow k v->∃r st',Fn PG d f (.p k v 0::args) st r st'/\RR r/\B' st'.bx st'.ow k v/\Fr d k st.bx st.ow st'.bx st'.ow
def Qv {β:Type} (PG:Za) (f:Nat) (B:BC) (args:List AV) (KK:AV->β->Prop) (B':β->BC):Prop:=
 ∀d (st:St) (k:Zq) (v:Nat),k.1<d->B st.bx st.ow k v->∃r st' b,Fn PG d f (.p k v 0::args) st r st'/\KK r b/\B' b st'.bx st'.ow k v/\Fr d k st.bx st.ow st'.bx st'.ow
theorem Qv.to {β:Type} {PG:Za} {f:Nat} {B:BC} {args:List AV} {KK:AV->β->Prop} {B':β->BC} {RR:AV->Prop} {b:β} (h:Qv PG f B args KK B') (hk :∀r b',KK r b'->RR r/\b'=b):Yt PG f B args RR (B' b):=by
 intro d st k v h1 h2
 obtain ⟨r,st',b',h3,h4,h5,h6⟩:=h d st k v h1 h2
 obtain ⟨h7,rfl⟩:=hk r b' h4
 exact ⟨r,st',h3,h7,h5,h6⟩
section
variable {PG:Za} {d id base i:Nat} {σ:Sl} {st:St} {K:Sl->St->Prop} {r:List AI} {t:Option Nat} {x y:Zu}
theorem Ydj {f:Nat} {args:List Zu} {vs:List AV} {B B':BC} {F:AV} {k:Zq} {v:Nat} (hs:Vj σ args=.p k v 0::vs) (hp:Yt PG f B vs (fun r=>r=F) B') (hk:k.1<d+1) (hB:B st.bx st.ow k v)
  (h :∀st':St,B' st'.bx st'.ow k v->Fr (d+1) k st.bx st.ow st'.bx st'.ow->WO PG d id base (i+1) r (Zx σ t F) st' K):WO PG d id base i (⟨t,.call true f args,none⟩::r) σ st K:=by
 refine Ug ?_
 obtain ⟨r',st',h1,rfl,h3,h4⟩:=hp (d+1) st k v hk hB
 rw [Fg,hs]
 exact ⟨_,_,h1,h st' h3 h4⟩
theorem Ee {f:Nat} {args:List Zu} {vs:List AV} {B B':BC} {F:Zn->AV} {k:Zq} {v:Nat} (hs:Vj σ args=.p k v 0::vs) (hp:Yt PG f B vs (fun r=>∃o,r=F o) B') (hk:k.1<d+1) (hB:B st.bx st.ow k v)
  (h :∀(o:Zn) (st':St),B' st'.bx st'.ow k v->Fr (d+1) k st.bx st.ow st'.bx st'.ow->WO PG d id base (i+1) r (Zx σ t (F o)) st' K):WO PG d id base i (⟨t,.call true f args,none⟩::r) σ st K:=by
 refine Ug ?_
 obtain ⟨r',st',h1,⟨o,rfl⟩,h3,h4⟩:=hp (d+1) st k v hk hB
 rw [Fg,hs]
 exact ⟨_,_,h1,h o st' h3 h4⟩
end
theorem Ys0 {σ:Sl} {st:St} {t n v:Nat} {agg:Bool} {k:Zq} {cs:List AV} {r:AV} (h:σ t=.p k v 0) (hb:lk st.bx k=some (v,cs)) (hn:cs.length=n) (hr:Qf agg cs=some r):Kp σ st (.cell t n agg)=some r:=by
 subst hn
 simp only [Kp,h,Bg,hb]
 rw [if_pos ⟨trivial,by omega⟩,List.drop_zero,List.take_length,hr]
theorem Jz {σ:Sl} {st:St} {t n v:Nat} {k:Zq} {cs:List AV} (h:σ t=.p k v 0) (hb:lk st.bx k=some (v,cs)) (hn:cs.length=n):Kp σ st (.cell t n true)=some (.ag cs):=Ys0 h hb hn rfl
theorem Qb {σ:Sl} {st:St} {t:Nat}:Kp σ st (.tmp t)=some (σ t):=rfl
def gsW (PG:Za) (d l:Nat) (b:AC) (Q:AE->Sl->St->Prop):AE->Sl->St->Prop
 | .normal,σ,st=>WG PG d l b σ st Q
 | _,_,_=>False
theorem W.gscope' {PG:Za} {d:Nat} {σ:Sl} {st:St} {Q:AE->Sl->St->Prop} {l:Nat} {a b:AC} (h:W PG d a σ st (gsW PG d l b Q)):W PG d (.gscope l a b) σ st Q:=
 W.gscope (h.mono fun e σ st he=>by cases e<;>exact he)
end Go.AM

/- Yg of the proof. -/
namespace Go.AM
open Go
abbrev oM (d s:Nat):AI:=⟨some d,.mv (.t s),none⟩
abbrev oC (d:Nat) (v:AV):AI:=⟨some d,.mv (.c v),none⟩
abbrev oL (d s:Nat):AI:=⟨some d,.load 1 false (.t s),none⟩
abbrev oF (d o s:Nat):AI:=⟨some d,.fad o (.t s),none⟩
abbrev oN (d s:Nat):AI:=⟨some d,.nilc (.t s),none⟩
abbrev oS (n a b:Nat):AI:=⟨none,.store n (.t a) (.t b),none⟩
abbrev oE (d k s:Nat):AI:=⟨some d,.ext k (.t s),none⟩
abbrev oB (d:Nat) (op:BinOp) (x y:Zu):AI:=⟨some d,.bin op x y,none⟩
abbrev oO (d:Nat) (op:Vg):AI:=⟨some d,op,none⟩
abbrev oG (d:Nat) (op:Vg) (g:Nat) (w:Bool):AI:=⟨some d,op,some (g,w)⟩
section
variable {PG:Za} {d id base i:Nat} {σ:Sl} {st:St} {K:Sl->St->Prop} {r:List AI} {t:Option Nat} {x y:Zu} {Q:AE->Sl->St->Prop}
theorem m_ (h:WO PG d id base (i+1) r (Zx σ t (x.ev σ)) st K):WO PG d id base i (⟨t,.mv x,none⟩::r) σ st K:=Vo rfl h
theorem q_ {ops:List AI} {b:AC} (hn:Fs ops=true) (h :∀{nx:Nat} {_:st.nx<=nx},WO PG d id st.nx 0 ops σ ⟨nx,st.bx,st.ow⟩ (fun σ st=>W PG d b σ st Q)):W PG d (.seq (.reg id ops) b) σ st Q:=W.seq (W.reg0 hn fun _ hx=>@h _ hx)
end
end Go.AM
namespace Go.AM
open Go
abbrev e_:=@Gn
abbrev b_:=@Rl
abbrev x_:=@Yqc
abbrev l_:=@Ck
abbrev f_:=@Ns
abbrev Hh:=@Zey
abbrev Zc:=@Yie
abbrev Xj:=@Yku
abbrev Hr:=@Xzn
abbrev Vf:=@Wjo
abbrev Yj:=@Yp2
abbrev Xs:=@Ykk
abbrev Yl:=@Ym1
abbrev Ur:=@Yg6
abbrev Yc:=@W.skip
abbrev Nl:=@W.ret
abbrev Yh:=@W.block
abbrev Vm:=@W.exit
abbrev Zk:=@W.seq
abbrev Yi:=@Yhv
abbrev Ye:=@Zah
abbrev Wq:=@Zrf
abbrev Xk:=@Yjf
abbrev Ke:=@Zys
abbrev Kt:=@Zlk
abbrev Ym:=@Znl
abbrev Xx:=@Zky
abbrev np_:=@Yh4
abbrev Yo:=@Zrt
abbrev Dl:=@Ztw
abbrev Wi:=@Ydj
theorem Wn {k:IntKind} {a b:Int}:Xl .lss (.i k a) (.i k b)=some (.b (decide (a<b))):=Xkj _ _ _
theorem Zcg {k:IntKind} {a b:Int}:Xl .leq (.i k a) (.i k b)=some (.b (decide (a<=b))):=Xa7 _ _ _
theorem Vt {k:IntKind} {a b:Int}:Xl .gtr (.i k a) (.i k b)=some (.b (decide (a>b))):=Yxr _ _ _
theorem Ul {k:IntKind} {a b:Int}:Xl .geq (.i k a) (.i k b)=some (.b (decide (a>=b))):=Xgz _ _ _
theorem Xo {k:IntKind} {a b:Int}:Xl .eql (.i k a) (.i k b)=some (.b (decide (a=b))):=Yca _ _ _
theorem Ws {k:IntKind} {a b:Int}:Xl .neq (.i k a) (.i k b)=some (.b (decide (a≠b))):=Xuj _ _ _
theorem Vd {k:IntKind} {a b:Int}:Xl .add (.i k a) (.i k b)=some (.i k (k.wrap (a+b))):=Xnq _ _ _
theorem Px {k:IntKind} {a b:Int}:Xl .sub (.i k a) (.i k b)=some (.i k (k.wrap (a-b))):=Xe4 _ _ _
theorem Sp {a b:List UInt8}:Xl .eql (.s a) (.s b)=some (.b (decide (a=b))):=Xw8 _ _
theorem By {a b:List UInt8}:Xl .neq (.s a) (.s b)=some (.b (decide (a≠b))):=Xwj _ _
end Go.AM
namespace Go.AM
open Go
def Yp (PG:Za) (f:Nat) (args:List AV) (RR:AV->Prop):Prop:=
 ∀d (st:St),∃r st',Fn PG d f args st r st'/\RR r/\Fr d (d,0) st.bx st.ow st'.bx st'.ow
theorem Yp.to {PG:Za} {f:Nat} {args:List AV} {R1 R2:AV->Prop} (h:Yp PG f args R1) (hk :∀r,R1 r->R2 r):Yp PG f args R2:=by
 intro d st
 obtain ⟨r,st',h1,h2,h3⟩:=h d st
 exact ⟨r,st',h1,hk r h2,h3⟩
theorem Gc {d s:Nat}:((d,s):Zq)≠(d+1,0):=by
 intro e
 injection e with e _
 omega
theorem Yvx {d:Nat} {k:Zq} (h:k.1<d):k≠(d+1,0):=by
 rintro rfl
 simp at h
 omega
theorem Fr.raw {d:Nat} {k:Zq} {bx bx' bx2:Wc} {ow ow' ow2:Xz} (h:Fr d k bx ow bx' ow') (c:Fr (d+1) (d+1,0) bx' ow' bx2 ow2):Fr d k bx ow bx2 ow2:=
 ⟨fun k' h1 h2=>(c.1 k' (Nat.lt_succ_of_lt h1) (Yvx h1)).trans (h.1 k' h1 h2),fun k' h1 h2=>(c.2 k' (Nat.lt_succ_of_lt h1) h2).trans (h.2 k' h1 h2)⟩
theorem Yp.of {PG:Za} {f:Nat} {F:AF} {args:List AV} {RR:AV->Prop} (hf:PG.fn f=some F) (hn:Nat.ble args.length F.nt=true)
  (h :∀(d:Nat) (st:St),W PG d F.body (Wh args) st fun e σ st'=>(e=.normal\/e=.ret)/\∃r,Xm σ st' F.res=some r/\RR r/\Fr d (d,0) st.bx st.ow st'.bx st'.ow):Yp PG f args RR:=by
 intro d st
 obtain ⟨r,st',h1,h2⟩:=Fn.of' (PG:=PG) (K:=fun r st'=>RR r/\Fr d (d,0) st.bx st.ow st'.bx st'.ow) hf (Nat.le_of_ble_eq_true hn) ((h d st).mono fun e σ st' hq=>by
  obtain ⟨he,r,h1,h2,h3⟩:=hq
  rcases he with rfl | rfl
  ·exact ⟨r,h1,h2,h3.out⟩
  ·exact ⟨r,h1,h2,h3.out⟩)
 exact ⟨r,st',h1,h2⟩
section
variable {PG:Za} {d id base i:Nat} {σ:Sl} {st:St} {K:Sl->St->Prop} {r:List AI} {t:Option Nat} {x y:Zu}
theorem Hf {f:Nat} {args:List Zu} {vs:List AV} {F:AV} (hs:Vj σ args=vs) (hp:Yp PG f vs (fun r=>r=F))
  (h :∀st':St,Fr (d+1) (d+1,0) st.bx st.ow st'.bx st'.ow->WO PG d id base (i+1) r (Zx σ t F) st' K):WO PG d id base i (⟨t,.call true f args,none⟩::r) σ st K:=by
 refine Ug ?_
 obtain ⟨r',st',h1,rfl,h3⟩:=hp (d+1) st
 rw [Fg,hs]
 exact ⟨_,_,h1,h st' h3⟩
theorem Ll {f:Nat} {c:List AV} {args:List Zu} {vs:List AV} {F:AV} (hx:x.ev σ=.fn f c) (hs:Vj σ args=vs) (hp:Yp PG f (vs++c) (fun r=>r=F))
  (h :∀st':St,Fr (d+1) (d+1,0) st.bx st.ow st'.bx st'.ow->WO PG d id base (i+1) r (Zx σ t F) st' K):WO PG d id base i (⟨t,.callv x args,none⟩::r) σ st K:=by
 refine Ug ?_
 obtain ⟨r',st',h1,rfl,h3⟩:=hp (d+1) st
 show Zb5 (x.ev σ) (Vj σ args) (fun g l=>WF PG (d+1) g l st _)
 rw [hx,hs]
 exact ⟨_,_,h1,h st' h3⟩
theorem Zla {f:Nat} {args:List Zu} {vs:List AV} (hs:Vj σ args=vs) (h:WO PG d id base (i+1) r (Zx σ t (.fn f vs)) st K):WO PG d id base i (⟨t,.mkfn f args,none⟩::r) σ st K:=
 Vi (fun K=>by
  have e:args.map (·.ev σ)=vs:=by rw [<- hs];exact Rn.symm
  simp only [Yy,Zy,Yk,e,Option.map_some,Wo]) h
theorem Yqm :∀l:List (List UInt8),Vs (l.map AV.s)=some (l.map AV.s)
 | []=>rfl
 | c::l=>by simp only [List.map_cons,Vs,Yqm l,AV.soft]
theorem Wb6 (l:List (List UInt8)):Hz 1 l.length (l.map AV.s)=l.map Zv:=by
 unfold Hz
 apply List.ext_getElem
 ·simp
 ·intro j h1 h2
  simp at h1
  simp only [List.getElem_map,List.getElem_range,Nat.mul_one]
  rw [List.drop_eq_getElem_cons (by simpa using h1)]
  simp [Zv]
theorem Zzg {l:List (List UInt8)} {k:Zq} {n v:Nat} (hx:x.ev σ=.p k v 0) (hb:lk st.bx k=some (v,l.map AV.s)) (hn:l.length=n) (hn0:Nat.blt 0 n=true) (h:WO PG d id base (i+1) r (Zx σ t (.sl .ext (l.map Zv))) { st with bx:=del st.bx k } K):WO PG d id base i (⟨t,.slA n 1 x none none,none⟩::r) σ st K:=by
 refine Ug ?_
 have hbd:Kb σ n n none none=some (0,n):=by
  simp only [Kb]
  rw [if_pos ⟨Nat.zero_le _,Nat.le_refl _⟩]
 simp only [Yy,Zy,hx,hb]
 rw [if_pos ⟨trivial,trivial,by simp [hn],Nat.one_pos⟩]
 subst hn
 simp only [Yqm,hbd,Option.map_some,Wo,Wb6]
 rw [List.drop_zero,List.take_of_length_le (by simp)]
 exact h
end
end Go.AM
namespace Go.AM
open Go
theorem Zw7 {α:Type} (f:α->AV) (hf :∀a,(f a).strip=some (f a)) :∀l:List α,AV.strips (l.map f)=some (l.map f)
 | []=>rfl
 | a::l=>by simp only [List.map_cons,AV.strips,hf a,Zw7 f hf l]
theorem Zhg {α:Type} (f:α->AV) (hf :∀a,(f a).strip=some (f a)) (l:List α):(AV.ag (l.map f)).strip=some (.ag (l.map f)):=by
 simp only [AV.strip,Zw7 f hf l]
end Go.AM
namespace Go.AM
open Go
theorem Ycs :∀(new cs:List AV) (off:Nat),off+new.length<=cs.length->Ud cs off new=cs.take off++(new++cs.drop (off+new.length))
 | [],cs,off,h=>by simp [Ud]
 | v::r,cs,off,h=>by
  simp only [List.length_cons] at h
  rw [Ud,Ycs r (cs.set off v) (off+1) (by simp;omega)]
  have h1:(cs.set off v).take (off+1)=cs.take off++[v]:=by
   rw [List.take_set,List.take_succ_eq_append_getElem (by omega),List.set_append_right _ _ (by simp;omega)]
   congr 1
   simp [List.length_take,Nat.min_eq_left (show off<=cs.length by omega)]
  have h2:(cs.set off v).drop (off+1+r.length)=cs.drop (off+(r.length+1)):=by
   rw [List.drop_set_of_lt (by omega)]
   congr 1
   omega
  rw [h1,h2]
  simp
section
variable {PG:Za} {d id base i:Nat} {σ:Sl} {st:St} {K:Sl->St->Prop} {r:List AI} {t:Option Nat} {x y:Zu}
theorem Pz {α:Type} {f:α->AV} {l l':List α} {n v:Nat} {k:Zq} (hf :∀a,(f a).one=true) (hx:x.ev σ=.p k v 0) (hb:lk st.bx k=some (v,l.map f)) (hl:l.length=n) (hy:y.ev σ=.ag (l'.map f)) (hl':l'.length=n)
  (h:WO PG d id base (i+1) r (Zx σ t (.tup [])) { st with bx:=Yx st.bx k (v,l'.map f) } K) (hok:Mj k (.ag (l'.map f))=true:=by first | rfl | exact Aq rfl):WO PG d id base i (⟨t,.store n x y,none⟩::r) σ st K:=by
 have e:Ud (l.map f) 0 (l'.map f)=l'.map f:=by
  rw [Ycs _ _ _ (by simp;omega)]
  simp [hl,hl']
 refine Zah hx hb hy ?_ e h hok
 simp [AV.cells,hl,hl',hf]
end
end Go.AM

/- Yg of the proof. -/
namespace Go.AM
open Go Go.RowKit
abbrev Hp:=Nat->Nat->Option Value
inductive Fz (H:Hp):AV->Value->Prop
 | i (k:IntKind) (n:Int):Fz H (.i k n) (.int k n)
 | b (x:Bool):Fz H (.b x) (.bool x)
 | s (l:List UInt8):Fz H (.s l) (.string ⟨l.toArray⟩)
 | sl (rows:List (List AV)) (A:Option Addr) (cap size g off:Nat) (us:Nat->Nat->Value)
   (hA:rows≠[]->A=some ⟨g,off,none⟩) (hcap:rows.length<=cap)
   (hs :∀(i:Nat) row,rows[i]?=some row->row.length=size)
   (hH :∀(i:Nat) row (j:Nat) a,rows[i]?=some row->row[j]?=some a->H g (off+i*size+j)=some (us i j))
   (hF :∀(i:Nat) row (j:Nat) a,rows[i]?=some row->row[j]?=some a->Fz H a (us i j)) :
   Fz H (.sl .ext rows) (.slice A rows.length cap)
 | np:Fz H .np (.pointer none)
 | nf:Fz H .nf .nilFunc
 | ni:Fz H .ni .nilIface
 | u (v:Value):Fz H .u v
inductive MO where
 | mp (l:List (List UInt8 × Int))
 | ob (o:Obj)
def obN:Obj->Bool
 | .cells ..=>false
 | _=>true
structure Gh where
 H:Hp
 ρ:Zq->Nat->Option Nat
 ω:Zq->Nat->Option (Nat × Nat × Nat)
 fm:Nat->Option Nat
 M:Nat->Option MO
def Rx (G:Gh) (o:Zn) (A:Option Addr) (n cap:Nat) (rows:List (List AV)):Prop:=
 match o with
 | .ext=>True
 | .full=>cap=n/\(A=none\/∃g,A=some ⟨g,0,none⟩)
 | .id k ver=>∃g size,G.ω k ver=some (g,cap,size)/\A=some ⟨g,0,none⟩/\∀(i:Nat) row,rows[i]?=some row->row.length=size/\(∀(j:Nat) a,row[j]?=some a->∃v,G.H g (i*size+j)=some v)
inductive R (G:Gh):AV->Value->Prop
 | fz (a:AV) (v:Value) (h:Fz G.H a v):R G a v
 | sl (o:Zn) (rows:List (List AV)) (A:Option Addr) (n cap:Nat) (h:Fz G.H (.sl .ext rows) (.slice A n cap)) (ho:Rx G o A n cap rows):R G (.sl o rows) (.slice A n cap)
 | p (k:Zq) (ver off g:Nat) (h:G.ρ k ver=some g):R G (.p k ver off) (.pointer (some ⟨g,off,none⟩))
 | fp (cs:List AV) (us:Nat->Value) (g off:Nat) (hH :∀(j:Nat) a,cs[j]?=some a->G.H g (off+j)=some (us j)) (hF :∀(j:Nat) a,cs[j]?=some a->Fz G.H a (us j)):R G (.fp cs) (.pointer (some ⟨g,off,none⟩))
 | ag (cs:List AV) (us:List Value) (hl:cs.length=us.length) (hR :∀(j:Nat) a u,cs[j]?=some a->us[j]?=some u->R G a u):R G (.ag cs) (.agg us.toArray)
 | tup (cs:List AV) (us:List Value) (hl:cs.length=us.length) (hR :∀(j:Nat) a u,cs[j]?=some a->us[j]?=some u->R G a u):R G (.tup cs) (.tuple us.toArray)
 | mp (l:List (List UInt8 × Int)) (b:Nat) (h:G.M b=some (.mp l)):R G (.mp l) (.map (some b))
 | fn (c f:Nat) (hf:G.fm f=some c) (cs:List AV) (us:List Value) (hl:cs.length=us.length) (hR :∀(j:Nat) a u,cs[j]?=some a->us[j]?=some u->R G a u):R G (.fn c cs) (.func (.func f) #[] us.toArray)
 | bf (c f:Nat) (hf:G.fm f=some c) (cs:List AV) (us:List Value) (hl:cs.length=us.length) (hR :∀(j:Nat) a u,cs[j]?=some a->us[j]?=some u->R G a u):R G (.bf c cs) (.func (.func f) us.toArray #[])
 | yl (l:Nat):R G (.yl l) (.func (.yield l) #[] #[])
def Rs (G:Gh) (cs:List AV) (us:List Value):Prop:=cs.length=us.length/\∀(j:Nat) a u,cs[j]?=some a->us[j]?=some u->R G a u
def Hj (H H':Hp):Prop:=∀g o v,H g o=some v->H' g o=some v
structure Gh.Le (G G':Gh):Prop where
 H:Hj G.H G'.H
 ρ :∀k v g,G.ρ k v=some g->G'.ρ k v=some g
 ω :∀k v g,G.ω k v=some g->G'.ω k v=some g
 fm:G'.fm=G.fm
 M :∀b l,G.M b=some l->G'.M b=some l
theorem Gh.Le.refl (G:Gh):G.Le G:=⟨fun _ _ _ h=>h,fun _ _ _ h=>h,fun _ _ _ h=>h,rfl,fun _ _ h=>h⟩
theorem Gh.Le.trans {A B C:Gh} (h:A.Le B) (k:B.Le C):A.Le C:=
 ⟨fun _ _ _ x=>k.H _ _ _ (h.H _ _ _ x),fun _ _ _ x=>k.ρ _ _ _ (h.ρ _ _ _ x),fun _ _ _ x=>k.ω _ _ _ (h.ω _ _ _ x),k.fm.trans h.fm,fun _ _ x=>k.M _ _ (h.M _ _ x)⟩
theorem Fz.mono {H H':Hp} (hh:Hj H H') {a:AV} {v:Value} (h:Fz H a v):Fz H' a v:=by
 induction h with
 | i k n=>exact .i k n
 | b x=>exact .b x
 | s l=>exact .s l
 | sl rows A cap size g off us hA hcap hs hH _ ih=>exact .sl rows A cap size g off us hA hcap hs (fun i row j a h1 h2=>hh _ _ _ (hH i row j a h1 h2)) ih
 | np=>exact .np
 | nf=>exact .nf
 | ni=>exact .ni
 | u v=>exact .u v
structure Gh.LeR (G G':Gh):Prop where
 H:Hj G.H G'.H
 ρ :∀k v g,G.ρ k v=some g->G'.ρ k v=some g
 ω :∀k v g,G.ω k v=some g->G'.ω k v=some g
 fm:G'.fm=G.fm
 M :∀b l,G.M b=some (.mp l)->G'.M b=some (.mp l)
theorem Gh.Le.toR {G G':Gh} (h:G.Le G'):G.LeR G':=⟨h.H,h.ρ,h.ω,h.fm,fun b l=>h.M b (.mp l)⟩
theorem Rx.monoR {G G':Gh} (hg:G.LeR G') {o:Zn} {A:Option Addr} {n cap:Nat} {rows:List (List AV)} (h:Rx G o A n cap rows):Rx G' o A n cap rows:=by
 cases o with
 | ext=>trivial
 | full=>exact h
 | id k ver=>
  obtain ⟨g,size,h1,h2,h3⟩:=h
  refine ⟨g,size,hg.ω _ _ _ h1,h2,fun i row hr=>⟨(h3 i row hr).1,fun j a ha=>?_⟩⟩
  obtain ⟨v,hv⟩:=(h3 i row hr).2 j a ha
  exact ⟨v,hg.H _ _ _ hv⟩
theorem R.monoR {G G':Gh} (hg:G.LeR G') {a:AV} {v:Value} (h:R G a v):R G' a v:=by
 induction h with
 | fz a v h=>exact .fz a v (h.mono hg.H)
 | sl o rows A n cap h ho=>exact .sl o rows A n cap (h.mono hg.H) (ho.monoR hg)
 | yl l=>exact .yl l
 | p k ver off g h=>exact .p k ver off g (hg.ρ _ _ _ h)
 | fp cs us g off hH hF=>exact .fp cs us g off (fun j a h=>hg.H _ _ _ (hH j a h)) (fun j a h=>(hF j a h).mono hg.H)
 | ag cs us hl _ ih=>exact .ag cs us hl ih
 | tup cs us hl _ ih=>exact .tup cs us hl ih
 | mp l b h=>exact .mp l b (hg.M _ _ h)
 | fn c f hf cs us hl _ ih=>exact .fn c f (by rw [hg.fm];exact hf) cs us hl ih
 | bf c f hf cs us hl _ ih=>exact .bf c f (by rw [hg.fm];exact hf) cs us hl ih
theorem Rx.mono {G G':Gh} (hg:G.Le G') {o:Zn} {A:Option Addr} {n cap:Nat} {rows:List (List AV)} (h:Rx G o A n cap rows):Rx G' o A n cap rows:=h.monoR hg.toR
theorem R.mono {G G':Gh} (hg:G.Le G') {a:AV} {v:Value} (h:R G a v):R G' a v:=h.monoR hg.toR
theorem Rs.monoR {G G':Gh} (hg:G.LeR G') {a:List AV} {v:List Value} (h:Rs G a v):Rs G' a v:=⟨h.1,fun j a u h1 h2=>(h.2 j a u h1 h2).monoR hg⟩
theorem Rs.mono {G G':Gh} (hg:G.Le G') {a:List AV} {v:List Value} (h:Rs G a v):Rs G' a v:=⟨h.1,fun j a u h1 h2=>(h.2 j a u h1 h2).mono hg⟩
section
variable {G:Gh} {v:Value}
theorem R.int_inv {k:IntKind} {n:Int} (h:R G (.i k n) v):v=.int k n:=by cases h with | fz _ _ h=>cases h;rfl
theorem R.bool_inv {x:Bool} (h:R G (.b x) v):v=.bool x:=by cases h with | fz _ _ h=>cases h;rfl
theorem R.str_inv {l:List UInt8} (h:R G (.s l) v):v=.string ⟨l.toArray⟩:=by cases h with | fz _ _ h=>cases h;rfl
theorem R.np_inv (h:R G .np v):v=.pointer none:=by cases h with | fz _ _ h=>cases h;rfl
theorem R.nf_inv (h:R G .nf v):v=.nilFunc:=by cases h with | fz _ _ h=>cases h;rfl
theorem R.ni_inv (h:R G .ni v):v=.nilIface:=by cases h with | fz _ _ h=>cases h;rfl
theorem R.sl_inv {o:Zn} {rows:List (List AV)} (h:R G (.sl o rows) v) :∃A cap,v=.slice A rows.length cap/\Fz G.H (.sl .ext rows) (.slice A rows.length cap)/\Rx G o A rows.length cap rows:=by
 cases h with
 | fz _ _ h=>cases h with | sl _ A cap size g off us hA hcap hs hH hF=>exact ⟨A,cap,rfl,.sl rows A cap size g off us hA hcap hs hH hF,trivial⟩
 | sl _ _ A n cap h ho=>
  have hn:n=rows.length:=by cases h;rfl
  subst hn
  exact ⟨A,cap,rfl,h,ho⟩
theorem R.p_inv {k:Zq} {ver off:Nat} (h:R G (.p k ver off) v) :∃g,v=.pointer (some ⟨g,off,none⟩)/\G.ρ k ver=some g:=by
 cases h with
 | fz _ _ h=>cases h
 | p _ _ _ g h=>exact ⟨g,rfl,h⟩
theorem R.fp_inv {cs:List AV} (h:R G (.fp cs) v) :∃g off,∃us:Nat->Value,v=.pointer (some ⟨g,off,none⟩)/\(∀(j:Nat) a,cs[j]?=some a->G.H g (off+j)=some (us j))/\(∀(j:Nat) a,cs[j]?=some a->Fz G.H a (us j)):=by
 cases h with
 | fz _ _ h=>cases h
 | fp _ us g off hH hF=>exact ⟨g,off,us,rfl,hH,hF⟩
theorem R.ag_inv {cs:List AV} (h:R G (.ag cs) v) :∃us,v=.agg us.toArray/\Rs G cs us:=by
 cases h with
 | fz _ _ h=>cases h
 | ag _ us hl hR=>exact ⟨us,rfl,hl,hR⟩
theorem R.tup_inv {cs:List AV} (h:R G (.tup cs) v) :∃us,v=.tuple us.toArray/\Rs G cs us:=by
 cases h with
 | fz _ _ h=>cases h
 | tup _ us hl hR=>exact ⟨us,rfl,hl,hR⟩
theorem R.fn_inv {c:Nat} {cs:List AV} (h:R G (.fn c cs) v) :∃f us,G.fm f=some c/\v=.func (.func f) #[] us.toArray/\Rs G cs us:=by
 cases h with
 | fz _ _ h=>cases h
 | fn _ f hf _ us hl hR=>exact ⟨f,us,hf,rfl,hl,hR⟩
theorem R.bf_inv {c:Nat} {cs:List AV} (h:R G (.bf c cs) v) :∃f us,G.fm f=some c/\v=.func (.func f) us.toArray #[]/\Rs G cs us:=by
 cases h with
 | fz _ _ h=>cases h
 | bf _ f hf _ us hl hR=>exact ⟨f,us,hf,rfl,hl,hR⟩
theorem R.mp_inv {l:List (List UInt8 × Int)} (h:R G (.mp l) v) :∃b,v=.map (some b)/\G.M b=some (.mp l):=by
 cases h with
 | fz _ _ h=>cases h
 | mp _ b h=>exact ⟨b,rfl,h⟩
theorem R.yl_inv {l:Nat} (h:R G (.yl l) v):v=.func (.yield l) #[] #[]:=by
 cases h with
 | fz _ _ h=>cases h
 | yl=>rfl
theorem R.one {a:AV} (h:R G a v) (h1:a.one=true):v.oneCell'=true:=by
 cases h with
 | fz _ _ h=>cases h<;>first | rfl | simp [AV.one] at h1
 | sl=>rfl
 | p=>rfl
 | fp=>rfl
 | ag=>simp [AV.one] at h1
 | tup=>simp [AV.one] at h1
 | mp=>rfl
 | fn=>rfl
 | bf=>rfl
 | yl=>rfl
theorem R.und:R G (.tup []) Go.undef:=.tup [] [] rfl (by simp)
theorem R.tup0_inv (h:R G (.tup []) v):v=Go.undef:=by
 obtain ⟨us,rfl,hl,_⟩:=h.tup_inv
 cases us with
 | nil=>rfl
 | cons=>simp at hl
end
theorem R.cells {G:Gh} {a:AV} {v:Value} (h:R G a v) (hu:a.cells.all AV.one=true) :∃us:List Value,v.cells=us.toArray/\Rs G a.cells us/\us.length=a.cells.length/\(∀x∈us,x.oneCell'=true):=by
 have single :∀{a:AV},a.cells=[a]->R G a v->a.one=true->v.cells=#[v]->∃us:List Value,v.cells=us.toArray/\Rs G a.cells us/\us.length=a.cells.length/\(∀x∈us,x.oneCell'=true):=by
  intro a hc h h1 hv
  refine ⟨[v],hv,?_,by rw [hc];rfl,?_⟩
  ·rw [hc]
   refine ⟨rfl,fun j a' u h1 h2=>?_⟩
   cases j with
   | zero=>simp at h1 h2;subst h1;subst h2;exact h
   | succ j=>simp at h1
  ·intro x hx
   simp at hx
   subst hx
   exact h.one h1
 cases a with
 | ag cs=>
  obtain ⟨us,rfl,hr⟩:=h.ag_inv
  refine ⟨us,rfl,hr,hr.1.symm,fun x hx=>?_⟩
  obtain ⟨j,hj,rfl⟩:=List.getElem_of_mem hx
  have hj':j<cs.length:=by rw [hr.1];exact hj
  have h2:=hr.2 j cs[j] us[j] (List.getElem?_eq_getElem hj') (List.getElem?_eq_getElem hj)
  exact h2.one (by simp only [AV.cells,List.all_eq_true] at hu;exact hu _ (List.getElem_mem hj'))
 | tup cs=>simp [AV.cells,AV.one] at hu
 | u=>simp [AV.cells,AV.one] at hu
 | i k n=>exact single rfl h rfl (by rw [h.int_inv];rfl)
 | b x=>exact single rfl h rfl (by rw [h.bool_inv];rfl)
 | s l=>exact single rfl h rfl (by rw [h.str_inv];rfl)
 | sl o rows=>exact single rfl h rfl (by obtain ⟨A,cap,rfl,_⟩:=h.sl_inv;rfl)
 | p k ver off=>exact single rfl h rfl (by obtain ⟨g,rfl,_⟩:=h.p_inv;rfl)
 | fp cs=>exact single rfl h rfl (by obtain ⟨g,off,us,rfl,_⟩:=h.fp_inv;rfl)
 | np=>exact single rfl h rfl (by rw [h.np_inv];rfl)
 | mp l=>exact single rfl h rfl (by obtain ⟨b,rfl,_⟩:=h.mp_inv;rfl)
 | fn f cap=>exact single rfl h rfl (by obtain ⟨f,us,_,rfl,_⟩:=h.fn_inv;rfl)
 | bf f cs=>exact single rfl h rfl (by obtain ⟨f,us,_,rfl,_⟩:=h.bf_inv;rfl)
 | yl l=>exact single rfl h rfl (by rw [h.yl_inv];rfl)
 | nf=>exact single rfl h rfl (by rw [h.nf_inv];rfl)
 | ni=>exact single rfl h rfl (by rw [h.ni_inv];rfl)
def Zaf (G:Gh) (w0 w:World) (cs:List AV) (g:Nat):Prop:=
 ∃(us:List Value) (e:TypeId),w0.heap.size<=g/\w.heap[g]?=some (.cells us.toArray e (0,0))/\Rs G cs us/\(∀x∈us,x.oneCell'=true)/\∀o,G.H g o=none
def Yfj (G:Gh) (w0 w:World) (n g cap size:Nat):Prop:=
 ∃(cur:Array Value) (e:TypeId),w0.heap.size<=g/\w.heap[g]?=some (.cells cur e (0,0))/\cur.size=cap*size/\n<=cap/\0<size/\∀o,n*size<=o->G.H g o=none
def Uj (fm:Nat->Option Nat):TypeId:=(fm 1000000000000).getD 0-1000000000
def Bj (fm:Nat->Option Nat):TypeId:=(fm 1000000000001).getD 0-1000000000
attribute [irreducible] Uj Bj
def Ft (w:World) (b:Nat):MO->Prop
 | .mp l=>∃es clock,w.heap[b]?=some (.map es clock)/\es.toList.map (fun e=>(e.key,e.val))=l.map fun x=>(Value.string ⟨x.1.toArray⟩,Value.int .u8 x.2)
 | .ob o=>w.heap[b]?=some o/\obN o=true
theorem Ft.keep {w w':World} {b:Nat} {l:MO} (h:Ft w b l) (hk :∀o,w.heap[b]?=some o->obN o=true->w'.heap[b]?=w.heap[b]?):Ft w' b l:=by
 cases l with
 | mp l=>
  obtain ⟨es,clock,h1,h2⟩:=h
  exact ⟨es,clock,(hk _ h1 rfl).trans h1,h2⟩
 | ob o=>exact ⟨(hk o h.1 h.2).trans h.1,h.2⟩
def Mp (fm:Nat->Option Nat) (w0:World):Prop:=∀g,fm 1000000000004=some g->g-1000000000<w0.heap.size/\∃m,w0.cell? ⟨g-1000000000,0,none⟩=some (.int .i64 m)
theorem Mp.mono {fm:Nat->Option Nat} {w0 w:World} (h:Mp fm w0) (hb:Below w0.heap.size w0 w):Mp fm w:=fun g hg=>by
 obtain ⟨h1,m,h2⟩:=h g hg
 exact ⟨Nat.lt_of_lt_of_le h1 hb.size,m,by rw [hb.cell (p:=⟨g-1000000000,0,none⟩) h1];exact h2⟩
theorem Mp.none {fm:Nat->Option Nat} {w0:World} (h:fm 1000000000004=Option.none):Mp fm w0:=fun g hg=>by rw [h] at hg;cases hg
structure Ng (fm:Nat->Option Nat) (w0 w:World):Prop where
 bel:Below w0.heap.size w0 w
 glob:Mp fm w0
theorem Ng.trans {fm:Nat->Option Nat} {w0 w w':World} (h:Ng fm w0 w) (k:Below w0.heap.size w w'):Ng fm w0 w':=⟨h.bel.trans k,h.glob⟩
theorem Ng.size {fm:Nat->Option Nat} {w0 w:World} (h:Ng fm w0 w):w0.heap.size<=w.heap.size:=h.bel.size
theorem Ng.here {fm:Nat->Option Nat} {w0 w:World} (h:Ng fm w0 w):Ng fm w w:=⟨Below.refl _ _,h.glob.mono h.bel⟩
structure Ys (G:Gh) (w0:World) (st:St) (w:World):Prop where
 bel:Ng G.fm w0 w
 ext :∀g o v,G.H g o=some v->w.cell? ⟨g,o,none⟩=some v/\v.oneCell'=true
 bx :∀k ver cs g,lk st.bx k=some (ver,cs)->G.ρ k ver=some g->Zaf G w0 w cs g
 inj :∀k k' ver ver' cs cs' g,lk st.bx k=some (ver,cs)->lk st.bx k'=some (ver',cs')->G.ρ k ver=some g->G.ρ k' ver'=some g->k=k'
 ow :∀k ver n,lk st.ow k=some (ver,n)->∃g cap size,G.ω k ver=some (g,cap,size)/\Yfj G w0 w n g cap size/\∀k' ver' cs',lk st.bx k'=some (ver',cs')->G.ρ k' ver'≠some g
 owinj :∀k k' ver ver' n n' g cap size cap' size',lk st.ow k=some (ver,n)->lk st.ow k'=some (ver',n')->G.ω k ver=some (g,cap,size)->G.ω k' ver'=some (g,cap',size')->k=k'
 fresh :∀k ver,st.nx<=ver->G.ρ k ver=none/\G.ω k ver=none
 bxT :∀k ver cs g,Wa<=k.2->lk st.bx k=some (ver,cs)->G.ρ k ver=some g->∃us,w.heap[g]?=some (.cells us (Uj G.fm) (0,0))/\(cs[1]?=some (.sl .full [])->us[1]?=some (.slice none 0 0))
 owT :∀k ver n,Wa<=k.2->lk st.ow k=some (ver,n)->∀g cap size,G.ω k ver=some (g,cap,size)->∃us,w.heap[g]?=some (.cells us (Bj G.fm) (0,0))
 mp :∀b l,G.M b=some l->Ft w b l
def Wy (G:Gh) (nt:Nat) (σ:Sl) (a:Act):Prop:=a.defers=[]/\a.tmps.size=nt/\∀t,R G (σ t) (a.tmps.getD t undef)
theorem Wy.monoR {G G':Gh} (hg:G.LeR G') {nt:Nat} {σ:Sl} {a:Act} (h:Wy G nt σ a):Wy G' nt σ a:=⟨h.1,h.2.1,fun t=>(h.2.2 t).monoR hg⟩
theorem Wy.mono {G G':Gh} (hg:G.Le G') {nt:Nat} {σ:Sl} {a:Act} (h:Wy G nt σ a):Wy G' nt σ a:=⟨h.1,h.2.1,fun t=>(h.2.2 t).mono hg⟩
theorem Wy.put {G:Gh} {nt:Nat} {σ:Sl} {a:Act} (h:Wy G nt σ a) {d:Option Nat} {v:AV} {x:Value} (hd :∀t,d=some t->t<nt) (hv:R G v x):Wy G nt (Wu σ d v) (a.put d x):=by
 cases d with
 | none=>exact h
 | some d=>
  have hdn:=hd d rfl
  refine ⟨h.1,by simp [Act.put,h.2.1],fun t=>?_⟩
  by_cases htd:t=d
  ·subst htd
   have hlt:t<a.tmps.size:=by rw [h.2.1];exact hdn
   simpa [Wu,Qi,Act.put,hlt] using hv
  ·have:=h.2.2 t
   simp only [Wu,Qi,if_neg htd,Act.put]
   rw [Array.getD_eq_getD_getElem?,Array.getElem?_setIfInBounds_ne (by omega),<- Array.getD_eq_getD_getElem?]
   exact this
end Go.AM

/- Yg of the proof. -/
namespace Go.AM
open Go Go.RowKit
inductive TK where
 | int (k:IntKind)
 | bool
 | str
 | sl (e:Nat)
 | arr (n e:Nat)
 | st (fs:List (Nat × Nat))
 | ptr (e:Nat)
 | uptr
 | mp
 | other
structure TI where
 kind:TK
 size:Nat
 bytes:Nat
 zero:List AV
abbrev Xt:=Nat->Option TI
def Cy:Value->Option AV
 | .int k n=>some (.i k n)
 | .bool x=>some (.b x)
 | .string s=>some (.s s.data.toList)
 | .slice none 0 0=>some (.sl .full [])
 | .pointer none=>some .np
 | .nilFunc=>some .nf
 | .nilIface=>some .ni
 | .map none=>some .u
 | _=>none
def De:List Value->Option (List AV)
 | []=>some []
 | v::r=>match Cy v,De r with | some w,some l=>some (w::l) | _,_=>none
def Ztz:Value->Option AV
 | .agg cs=>match De cs.toList with | some l=>some (.ag l) | none=>none
 | v=>Cy v
def EqT (P:Program) (t:TypeId) (fields:Array Field):Prop:=P.stoodInHeld t=false/\P.eqGuardType P.depth t=false/\∀f∈fields.toList,(f.name== "_")=false
def TK.ok (P:Program) (t:TypeId):TK->Prop
 | .int k=>P.underlying t=some (.int k)
 | .bool=>P.underlying t=some .bool
 | .str=>P.underlying t=some .string
 | .sl e=>P.underlying t=some (.slice e)
 | .arr n e=>P.underlying t=some (.array n e)
 | .st fs=>∃fields,P.underlying t=some (.struct fields)/\fields.toList.map (fun f=>(f.type,f.offset))=fs/\EqT P t fields
 | .ptr e=>P.underlying t=some (.pointer e)/\(P.info? e).isSome=true
 | .uptr=>P.underlying t=some .unsafePointer
 | .mp=>∃k e,P.underlying t=some (.map k e)/\P.underlying k=some .string/\∀w,(zeroValue e).run P w=.ok (.int .u8 0) w
 | .other=>∃d,P.underlying t=some d/\(match d with | .struct _ | .array _ _=>False | _=>True)
def TK.agg:TK->Bool
 | .arr _ _ | .st _=>true
 | _=>false
structure Ko (P:Program) (t:TypeId) (i:TI):Prop where
 info :∃ti z,P.info? t=some ti/\ti.size=i.size/\ti.bytes=i.bytes/\ti.zero=some z/\De z.cells.toList=some i.zero/\z.cells.size=i.size
 kind:i.kind.ok P t
def Jy (P:Program) (T:Xt):Prop:=∀t i,T t=some i->Ko P t i
abbrev FM:=Nat->Option Nat
def Wl (fm:FM):Operand->Option Zu
 | .tmp t=>some (.t t)
 | .const v=>match Ztz v with | some x=>some (.c x) | none=>none
 | .func f=>match fm f with | some c=>some (.c (.fn c [])) | none=>none
 | .global _=>some (.c .u)
def Ta (fm:FM):List Operand->Option (List Zu)
 | []=>some []
 | x::r=>match Wl fm x,Ta fm r with | some y,some l=>some (y::l) | _,_=>none
def Ao (fm:FM):Option Operand->Option (Option Zu)
 | none=>some none
 | some x=>match Wl fm x with | some y=>some (some y) | none=>none
def Nn (G:Gh) (σ:Sl) (a:Act) (x:Operand) (y:Zu):Prop:=R G (y.ev σ) (a.eval x)
theorem Yps {G:Gh} {v:Value} {x:AV} (h:Cy v=some x):R G x v:=by
 unfold Cy at h
 split at h<;>(try cases h)
 ·exact .fz _ _ (.i _ _)
 ·exact .fz _ _ (.b _)
 ·exact .fz _ _ (.s _)
 ·exact .sl .full [] none 0 0 (.sl [] none 0 0 0 0 (fun _ _=>.nilFunc) (fun h=>absurd rfl h) (Nat.le_refl _) (by simp) (by simp) (by simp)) ⟨rfl,.inl rfl⟩
 ·exact .fz _ _ .np
 ·exact .fz _ _ .nf
 ·exact .fz _ _ .ni
 ·exact .fz _ _ (.u _)
theorem Fi {G:Gh} :∀{vs:List Value} {xs:List AV},De vs=some xs->Rs G xs vs
 | [],xs,h=>by cases h;exact ⟨rfl,by simp⟩
 | v::r,xs,h=>by
  unfold De at h
  split at h
  ·rename_i w l hw hl
   cases h
   have ih:=Fi (G:=G) hl
   refine ⟨by simp [ih.1],fun j a u h1 h2=>?_⟩
   cases j with
   | zero=>simp at h1 h2;subst h1;subst h2;exact Yps hw
   | succ j=>simp at h1 h2;exact ih.2 j a u h1 h2
  ·cases h
theorem Xr3 {G:Gh} {v:Value} {x:AV} (h:Ztz v=some x):R G x v:=by
 unfold Ztz at h
 split at h
 ·rename_i cs
  split at h
  ·rename_i l hl
   cases h
   have:=Fi (G:=G) hl
   have h2:R G (.ag l) (.agg cs.toList.toArray):=.ag l cs.toList this.1 this.2
   simpa using h2
  ·cases h
 ·exact Yps h
theorem Mo {G:Gh} {nt:Nat} {σ:Sl} {a:Act} (hA:Wy G nt σ a) {x:Operand} {y:Zu} (h:Wl G.fm x=some y):Nn G σ a x y:=by
 unfold Wl at h
 split at h
 ·cases h;exact hA.2.2 _
 ·split at h
  ·rename_i hc;cases h;exact Xr3 hc
  ·cases h
 ·split at h
  ·rename_i c hc;cases h;exact .fn _ _ hc [] [] rfl (by simp)
  ·cases h
 ·cases h;exact .fz _ _ (.u _)
theorem Ti {G:Gh} {nt:Nat} {σ:Sl} {a:Act} (hA:Wy G nt σ a) :∀{xs:List Operand} {ys:List Zu},Ta G.fm xs=some ys->Rs G (ys.map (·.ev σ)) (xs.map a.eval)
 | [],ys,h=>by cases h;exact ⟨rfl,by simp⟩
 | x::r,ys,h=>by
  unfold Ta at h
  split at h
  ·rename_i y l hy hl
   cases h
   have ih:=Ti hA hl
   refine ⟨by simpa using ih.1,fun j b u h1 h2=>?_⟩
   cases j with
   | zero=>simp at h1 h2;subst h1;subst h2;exact Mo hA hy
   | succ j=>simp only [List.map_cons,List.getElem?_cons_succ] at h1 h2;exact ih.2 j b u h1 h2
  ·cases h
section
variable {P:Program} {G:Gh} {w:World}
theorem Xww {op:BinOp} {t:TypeId} {k:IntKind} {a b:Int} {r:AV} (h:Up op k a b=some r) :
  ∃v,(binOp op t (.int k a) (.int k b)).run P w=.ok v w/\R G r v:=by
 have hi :∀n:Int,R G (.i k n) (.int k n):=fun n=>.fz _ _ (.i _ _)
 have hb :∀x:Bool,R G (.b x) (.bool x):=fun n=>.fz _ _ (.b _)
 cases op with
 | add=>cases h;exact ⟨_,by simp [binOp,Op.intArith],hi _⟩
 | sub=>cases h;exact ⟨_,by simp [binOp,Op.intArith],hi _⟩
 | mul=>cases h;exact ⟨_,by simp [binOp,Op.intArith],hi _⟩
 | quo=>
  simp only [Up] at h
  split at h
  ·cases h
  ·rename_i h0;cases h;exact ⟨_,by simp [binOp,Op.intDiv,h0],hi _⟩
 | rem=>
  simp only [Up] at h
  split at h
  ·cases h
  ·rename_i h0;cases h;exact ⟨_,by simp [binOp,Op.intDiv,h0],hi _⟩
 | and=>cases h;exact ⟨_,by simp [binOp,Op.intBits],hi _⟩
 | or=>cases h;exact ⟨_,by simp [binOp,Op.intBits],hi _⟩
 | xor=>cases h;exact ⟨_,by simp [binOp,Op.intBits],hi _⟩
 | andNot=>cases h;exact ⟨_,by simp [binOp,Op.intBits],hi _⟩
 | eql=>cases h;exact ⟨_,by simp [binOp,Op.intCmp],hb _⟩
 | neq=>cases h;exact ⟨_,by simp [binOp,Op.intCmp],hb _⟩
 | lss=>cases h;exact ⟨_,by simp [binOp,Op.intCmp],hb _⟩
 | leq=>cases h;exact ⟨_,by simp [binOp,Op.intCmp],hb _⟩
 | gtr=>cases h;exact ⟨_,by simp [binOp,Op.intCmp],hb _⟩
 | geq=>cases h;exact ⟨_,by simp [binOp,Op.intCmp],hb _⟩
 | shl=>cases h
 | shr=>cases h
theorem Zxe {op:BinOp} {t:TypeId} {k k':IntKind} {a b:Int} {r:AV} (h:Zfn op k a b=some r) :
  ∃v,(binOp op t (.int k a) (.int k' b)).run P w=.ok v w/\R G r v:=by
 have hi :∀n:Int,R G (.i k n) (.int k n):=fun n=>.fz _ _ (.i _ _)
 unfold Zfn at h
 split at h
 ·cases h
 ·rename_i h0
  split at h
  ·cases h;exact ⟨_,by simp [binOp,Op.shift,h0],hi _⟩
  ·cases h;exact ⟨_,by simp [binOp,Op.shift,h0],hi _⟩
  ·cases h
theorem Wdv {op:BinOp} {t:TypeId} {x y r:AV} {vx vy:Value} (hx:R G x vx) (hy:R G y vy) (h:Xl op x y=some r) :
  ∃v,(binOp op t vx vy).run P w=.ok v w/\R G r v:=by
 unfold Xl at h
 split at h
 ·rename_i k a k' b
  cases hx.int_inv
  cases hy.int_inv
  split at h
  ·exact Zxe h
  ·exact Zxe h
  ·split at h
   ·rename_i hk;subst hk;exact Xww h
   ·cases h
 ·rename_i a b
  cases hx.str_inv
  cases hy.str_inv
  split at h
  ·split at h
   ·rename_i hle
    cases h
    refine ⟨.string ⟨(a++b).toArray⟩,?_,.fz _ _ (.s _)⟩
    have h1:(ByteArray.mk a.toArray).size=a.length:=by simp [ByteArray.size]
    have h2:(ByteArray.mk b.toArray).size=b.length:=by simp [ByteArray.size]
    have h3:¬ (((ByteArray.mk a.toArray).size+(ByteArray.mk b.toArray).size:Nat):Int)>IntKind.i64.max:=by
     rw [h1,h2];unfold We at hle;simp [IntKind.max,IntKind.bits];omega
    have h4:(ByteArray.mk a.toArray)++(ByteArray.mk b.toArray)=ByteArray.mk (a++b).toArray:=by
     apply ByteArray.ext;simp
    rw [h1,h2] at h3
    simp only [binOp,Op.stringOp,h1,h2,if_neg h3,h4,Sem.run_pure]
   ·cases h
  ·cases h;exact ⟨_,by simp [binOp,Op.stringOp],.fz _ _ (.b _)⟩
  ·cases h;exact ⟨_,by simp [binOp,Op.stringOp],.fz _ _ (.b _)⟩
  ·cases h
 ·cases h
end
end Go.AM

/- Yg of the proof. -/
namespace Go.AM
open Go Go.RowKit
section
variable {P:Program} {G:Gh} {w:World} {σ:Sl} {a:Act}
theorem Ra {x:AV} {n:Nat} {v:Value} (h:x.nat=some n) (hx:R G x v) :∃k,v=.int k (n:Int):=by
 unfold AV.nat at h
 split at h
 ·rename_i k m
  split at h
  ·rename_i h0
   cases h
   exact ⟨k,by rw [hx.int_inv,Int.toNat_of_nonneg h0]⟩
  ·cases h
 ·cases h
def Mr (G:Gh) (σ:Sl) (a:Act):Option Operand->Option Zu->Prop
 | none,none=>True
 | some x,some y=>Nn G σ a x y
 | _,_=>False
theorem Wrs {nt:Nat} (hA:Wy G nt σ a) {x:Option Operand} {y:Option Zu} (h:Ao G.fm x=some y):Mr G σ a x y:=by
 cases x with
 | none=>cases h;trivial
 | some x=>
  unfold Ao at h
  simp only at h
  split at h
  ·rename_i y' hy
   cases h
   exact Mo hA hy
  ·cases h
theorem Zfs {k:IntKind} {i y:Nat} {code:BoundsCode} (h:i<=y):(Instr.sliceBound (.int k (i:Int)) y code).run P w=.ok i w:=by
 have:=run_sliceBound (P:=P) (w:=w) k (i:Int) y code (by omega) (by omega)
 simpa using this
theorem Zkb {lo hi:Option Zu} {lo' hi':Option Operand} (hlo:Mr G σ a lo' lo) (hhi:Mr G σ a hi' hi) {len cap C l h:Nat} (hb:Kb σ len cap lo hi=some (l,h)) (hC:cap<=C) (isS:Bool) :
  (Instr.sliceBounds isS len C (lo'.map a.eval) (hi'.map a.eval) none).run P w=.ok (l,h,C) w/\l<=h/\h<=cap:=by
 unfold Kb at hb
 split at hb
 ·cases hb
 ·rename_i h1 hh
  split at hb
  ·cases hb
  ·rename_i l1 hl
   split at hb
   ·rename_i hle
    cases hb
    refine ⟨?_,hle.1,hle.2⟩
    cases hi with
    | none=>
     cases hi' with
     | none=>
      cases hh
      cases lo with
      | none=>
       cases lo' with
       | none=>cases hl;simp [Instr.sliceBounds]
       | some x=>exact hlo.elim
      | some y=>
       cases lo' with
       | none=>exact hlo.elim
       | some x=>
        obtain ⟨k,hv⟩:=Ra hl hlo
        simp [Instr.sliceBounds,hv,Zfs hle.1]
     | some x=>exact hhi.elim
    | some y=>
     cases hi' with
     | none=>exact hhi.elim
     | some x=>
      obtain ⟨k,hv⟩:=Ra hh hhi
      have hle2:h<=C:=Nat.le_trans hle.2 hC
      cases lo with
      | none=>
       cases lo' with
       | none=>cases hl;simp [Instr.sliceBounds,hv,Zfs hle2]
       | some x=>exact hlo.elim
      | some y=>
       cases lo' with
       | none=>exact hlo.elim
       | some x=>
        obtain ⟨k',hv'⟩:=Ra hl hlo
        simp [Instr.sliceBounds,hv,hv',Zfs hle2,Zfs hle.1]
   ·cases hb
theorem Wkz {t:TypeId} (ht:P.underlying t=some .string) {x:Zu} {x':Operand} (hx:Nn G σ a x' x) {lo hi:Option Zu} {lo' hi':Option Operand} (hlo:Mr G σ a lo' lo) (hhi:Mr G σ a hi' hi) {r:AV}
  (h:(match x.ev σ with | .s l=>(Kb σ l.length l.length lo hi).map fun (a,b)=>AV.s ((l.drop a).take (b-a)) | _=>none)=some r) :∃v,(Instr.sliceAt t (a.eval x') (lo'.map a.eval) (hi'.map a.eval) none).run P w=.ok v w/\R G r v:=by
 split at h
 ·rename_i l hl
  unfold Nn at hx
  rw [hl] at hx
  simp only [Option.map_eq_some_iff,Prod.exists] at h
  obtain ⟨b,c,hb,rfl⟩:=h
  have hs:(ByteArray.mk l.toArray).size=l.length:=by simp [ByteArray.size]
  obtain ⟨hr,h1,h2⟩:=Zkb (P:=P) (w:=w) hlo hhi hb (Nat.le_refl _) false
  refine ⟨_,?_,.fz _ _ (.s _)⟩
  rw [hx.str_inv]
  simp [Instr.sliceAt,Instr.slice,run_underlying ht,hs,hr,ByteArray.extract_mk]
 ·cases h
theorem Xto {s:TypeId} {fs:List (Nat × Nat)} (ht:(TK.st fs).ok P s) {f ft off:Nat} (hf:fs[f]?=some (ft,off)) {ti:TypeInfo} (hi:P.info? ft=some ti) (hz:ti.size≠0) {x:AV} {vx:Value} {r:AV}
  (h:(match x with | .p k v o=>some (.p k v (o+off)) | .fp cs=>some (.fp (cs.drop off)) | _=>none)=some r) (hx:R G x vx) :∃v,(Instr.fieldAt s vx f).run P w=.ok v w/\R G r v:=by
 obtain ⟨fields,hu,hmap,_⟩:=ht
 have hfl :∃fl,fields[f]?=some fl/\fl.type=ft/\fl.offset=off:=by
  rw [<- hmap] at hf
  simp only [List.getElem?_map,Option.map_eq_some_iff,Array.getElem?_toList] at hf
  obtain ⟨fl,h1,h2⟩:=hf
  exact ⟨fl,h1,by injection h2,by injection h2⟩
 obtain ⟨fl,hfl,rfl,rfl⟩:=hfl
 have key :∀g o:Nat,(Instr.fieldAt s (.pointer (some ⟨g,o,none⟩)) f).run P w=.ok (.pointer (some ⟨g,o+fl.offset,none⟩)) w:=by
  intro g o
  simp [Instr.fieldAt,run_underlying hu,hfl,Instr.sureAddr,fieldPlace,sizeOf,typeInfo,hi,hz,Addr.add_lit]
 revert hx
 split at h
 ·intro hx
  cases h
  obtain ⟨g,rfl,hg⟩:=hx.p_inv
  exact ⟨_,key _ _,.p _ _ _ _ hg⟩
 ·intro hx
  cases h
  obtain ⟨g,o,us,rfl,h1,h2⟩:=hx.fp_inv
  refine ⟨_,key _ _,.fp _ (fun j=>us (fl.offset+j)) _ _ (fun j b hb=>?_) (fun j b hb=>?_)⟩
  ·rw [List.getElem?_drop] at hb
   rw [Nat.add_assoc]
   exact h1 _ _ hb
  ·rw [List.getElem?_drop] at hb
   exact h2 _ _ hb
 ·cases h
theorem Th {t:TypeId} {k:TK} (ht:k.ok P t):(isAgg t).run P w=.ok k.agg w:=by
 cases k with
 | int k=>simp [isAgg,run_underlying ht,TK.agg]
 | bool=>simp [isAgg,run_underlying ht,TK.agg]
 | str=>simp [isAgg,run_underlying ht,TK.agg]
 | sl e=>simp [isAgg,run_underlying ht,TK.agg]
 | ptr e=>simp [isAgg,run_underlying ht.1,TK.agg]
 | uptr=>simp [isAgg,run_underlying ht,TK.agg]
 | arr n e=>simp [isAgg,run_underlying ht,TK.agg]
 | st fs=>obtain ⟨fields,hu,_⟩:=ht;simp [isAgg,run_underlying hu,TK.agg]
 | mp=>obtain ⟨k,e,hu,_⟩:=ht;simp [isAgg,run_underlying hu,TK.agg]
 | other=>
  obtain ⟨d,hu,hd⟩:=ht
  simp only [isAgg,Sem.run_bind,run_underlying hu,Result.andThen_ok,TK.agg]
  cases d<;>first | rfl | exact hd.elim
theorem Ycf {cs:List AV} {us:List Value} (hr:Rs G cs us) {agg:Bool} {r:AV} (h:Qf agg cs=some r):(agg=true/\R G r (.agg us.toArray))\/(agg=false/\∃v,us=[v]/\R G r v):=by
 unfold Qf at h
 cases agg with
 | true=>simp at h;subst h;exact .inl ⟨rfl,.ag _ _ hr.1 hr.2⟩
 | false=>
  simp at h
  split at h
  ·rename_i v
   cases h
   match us,hr with
   | [u],hr=>exact .inr ⟨rfl,u,rfl,hr.2 0 _ _ rfl rfl⟩
   | [],hr=>have:=hr.1;simp at this
   | _::_::_,hr=>have:=hr.1;simp at this
  ·cases h
theorem Rs.sub {cs:List AV} {us:List Value} (hr:Rs G cs us) (o n:Nat):Rs G ((cs.drop o).take n) ((us.drop o).take n):=by
 refine ⟨by simp [hr.1],fun j b u h1 h2=>?_⟩
 rw [List.getElem?_take] at h1 h2
 split at h1
 ·rename_i hj
  rw [if_pos hj] at h2
  rw [List.getElem?_drop] at h1 h2
  exact hr.2 _ _ _ h1 h2
 ·cases h1
theorem Zwl {t:TypeId} {i:TI} (hT:Ko P t i) {cs:List AV} {us:List Value} (hr:Rs G cs us) {off:Nat} {r:AV} (h:Qf i.kind.agg ((cs.drop off).take i.size)=some r) (_hle:off+i.size<=cs.length) (h1:i.kind.agg=false->i.size=1) :
  ∃v,(part t us.toArray off).run P w=.ok v w/\R G r v:=by
 obtain ⟨ti,z,hi,hsz,_⟩:=hT.info
 rcases Ycf (hr.sub off i.size) h with ⟨ha,hv⟩ | ⟨ha,v,hu,hv⟩
 ·refine ⟨_,?_,hv⟩
  simp only [part,Sem.run_bind,Th hT.kind,Result.andThen_ok,ha,if_true,sizeOf,typeInfo,run_program,hi,Sem.run_pure,hsz]
  congr 2
  simp [List.extract_toArray,List.extract_eq_take_drop]
 ·refine ⟨v,?_,hv⟩
  have hg:us[off]?=some v:=by
   have:((us.drop off).take i.size)[0]?=some v:=by rw [hu];rfl
   rw [List.getElem?_take,if_pos (by rw [h1 ha];omega),List.getElem?_drop] at this
   simpa using this
  simp only [part,Sem.run_bind,Th hT.kind,Result.andThen_ok,ha,Bool.false_eq_true,if_false,List.getElem?_toArray,hg,Sem.run_pure]
theorem Wj6 {s:TypeId} {fs:List (Nat × Nat)} (ht:(TK.st fs).ok P s) {f ft off:Nat} (hf:fs[f]?=some (ft,off)) {i:TI} (hT:Ko P ft i) (h1:i.kind.agg=false->i.size=1) {x:AV} {vx:Value} {r:AV}
  (h:(match x with | .ag cs=>if off+i.size<=cs.length then Qf i.kind.agg ((cs.drop off).take i.size) else none | _=>none)=some r) (hx:R G x vx) :∃v,(Instr.field s vx f).run P w=.ok v w/\R G r v:=by
 obtain ⟨fields,hu,hmap,_⟩:=ht
 have hfl :∃fl,fields[f]?=some fl/\fl.type=ft/\fl.offset=off:=by
  rw [<- hmap] at hf
  simp only [List.getElem?_map,Option.map_eq_some_iff,Array.getElem?_toList] at hf
  obtain ⟨fl,h1,h2⟩:=hf
  exact ⟨fl,h1,by injection h2,by injection h2⟩
 obtain ⟨fl,hfl,rfl,rfl⟩:=hfl
 revert hx
 split at h
 ·rename_i cs
  intro hx
  split at h
  ·rename_i hle
   obtain ⟨us,rfl,hr⟩:=hx.ag_inv
   obtain ⟨v,hv,hR⟩:=Zwl (P:=P) (w:=w) hT hr h hle h1
   refine ⟨v,?_,hR⟩
   simp [Instr.field,run_underlying hu,hfl,asAgg,hv]
  ·cases h
 ·cases h
theorem Xi1 {t:TypeId} {n e:Nat} (ht:P.underlying t=some (.array n e)) {ti:TypeInfo} (hi:P.info? e=some ti) {x ix:AV} {vx vi:Value} {r:AV}
  (h:(match x,ix.nat with | .p k v o,some j=>if j<n then some (.p k v (o+j*ti.size)) else none | _,_=>none)=some r) (hx:R G x vx) (hix:R G ix vi) :∃v,(Instr.indexAt t vx vi).run P w=.ok v w/\R G r v:=by
 revert hx hix
 split at h
 ·rename_i k v o j hj
  intro hx hix
  split at h
  ·rename_i hlt
   cases h
   obtain ⟨g,rfl,hg⟩:=hx.p_inv
   obtain ⟨k',rfl⟩:=Ra hj hix
   refine ⟨_,?_,.p _ _ _ _ hg⟩
   have h0:(0:Int)<=(j:Int)/\(j:Int)<(n:Int):=⟨by omega,by omega⟩
   simp [Instr.indexAt,run_underlying ht,asIntOf,Instr.sureAddr,sizeOf,typeInfo,hi,Addr.add_lit,hlt]
  ·cases h
 ·cases h
theorem Wdn {t:TypeId} {e:Nat} (ht:P.underlying t=some (.slice e)) {ti:TypeInfo} (hi:P.info? e=some ti) {x ix:AV} {vx vi:Value} {r:AV}
  (h:(match x,ix.nat with | .sl _ rows,some k=>(match rows[k]? with | some row=>if row.length=ti.size/\0<ti.size then some (.fp row) else none | none=>none) | _,_=>none)=some r) (hx:R G x vx) (hix:R G ix vi) :∃v,(Instr.indexAt t vx vi).run P w=.ok v w/\R G r v:=by
 revert hx hix
 split at h
 ·rename_i o rows k hk
  intro hx hix
  split at h
  ·rename_i row hrow
   split at h
   ·rename_i hlen
    obtain ⟨hlen,hpos⟩:=hlen
    cases h
    obtain ⟨A,cap,rfl,hF,_⟩:=hx.sl_inv
    obtain ⟨k',rfl⟩:=Ra hk hix
    have hlt:k<rows.length:=by
     rcases Nat.lt_or_ge k rows.length with h | h
     ·exact h
     ·rw [List.getElem?_eq_none h] at hrow;cases hrow
    cases hF with
    | sl _ A cap size g off us hA hcap hs hH hFz=>
    have hAe:=hA (by intro h;rw [h] at hlt;simp at hlt)
    subst hAe
    have hsz:size=ti.size:=by rw [<- hs k row hrow,hlen]
    subst hsz
    refine ⟨.pointer (some ⟨g,off+k*ti.size,none⟩),?_,.fp _ (us k) _ _ (fun j b hb=>hH k row j b hrow hb) (fun j b hb=>hFz k row j b hrow hb)⟩
    simp [Instr.indexAt,run_underlying ht,asIntOf,sizeOf,typeInfo,hi,Addr.add_lit,hlt]
   ·cases h
  ·cases h
 ·cases h
theorem Wdi {t:TypeId} (ht:P.underlying t=some .string) {x ix:AV} {vx vi:Value} {r:AV}
  (h:(match x,ix.nat with | .s l,some j=>(l[j]?).map fun c=>AV.i .u8 c.toNat | _,_=>none)=some r) (hx:R G x vx) (hix:R G ix vi) :∃v,(Instr.index t vx vi).run P w=.ok v w/\R G r v:=by
 revert hx hix
 split at h
 ·rename_i l j hj
  intro hx hix
  simp only [Option.map_eq_some_iff] at h
  obtain ⟨c,hc,rfl⟩:=h
  obtain ⟨k',rfl⟩:=Ra hj hix
  rw [hx.str_inv]
  have hlt:j<l.length:=by
   rcases Nat.lt_or_ge j l.length with h | h
   ·exact h
   ·rw [List.getElem?_eq_none h] at hc;cases hc
  refine ⟨_,?_,.fz _ _ (.i _ _)⟩
  have hs:(ByteArray.mk l.toArray).size=l.length:=by simp [ByteArray.size]
  have hg:(ByteArray.mk l.toArray)[j]?=some c:=by
   rw [ByteArray.getElem?_lt' _ _ (by rw [hs];exact hlt)]
   rw [List.getElem?_eq_getElem hlt] at hc
   injection hc with hc
   rw [<- hc]
   rfl
  simp [Instr.index,run_underlying ht,asIntOf,hg]
 ·cases h
theorem Xc4 {t:TypeId} {n e:Nat} (ht:P.underlying t=some (.array n e)) {i:TI} (hT:Ko P e i) (h1:i.kind.agg=false->i.size=1) {x ix:AV} {vx vi:Value} {r:AV}
  (h:(match x,ix.nat with | .ag cs,some j=>if j<n/\j*i.size+i.size<=cs.length then Qf i.kind.agg ((cs.drop (j*i.size)).take i.size) else none | _,_=>none)=some r) (hx:R G x vx) (hix:R G ix vi) :∃v,(Instr.index t vx vi).run P w=.ok v w/\R G r v:=by
 revert hx hix
 split at h
 ·rename_i cs j hj
  intro hx hix
  split at h
  ·rename_i hle
   obtain ⟨us,rfl,hr⟩:=hx.ag_inv
   obtain ⟨k',rfl⟩:=Ra hj hix
   obtain ⟨v,hv,hR⟩:=Zwl (P:=P) (w:=w) hT hr h hle.2 h1
   obtain ⟨ti,z,hi,hsz,_⟩:=hT.info
   refine ⟨v,?_,hR⟩
   simp [Instr.index,run_underlying ht,asIntOf,sizeOf,typeInfo,hi,hsz,hle.1,hv]
  ·cases h
 ·cases h
theorem Xlc {t:TypeId} {e:Nat} (ht:P.underlying t=some (.slice e)) {ti:TypeInfo} (hi:P.info? e=some ti) {x:Zu} {x':Operand} (hx:Nn G σ a x' x) {lo hi':Option Zu} {lo' hi'':Option Operand} (hlo:Mr G σ a lo' lo) (hhi:Mr G σ a hi'' hi') {r:AV}
  (h:(match x.ev σ with | .sl _ rows=>if rows.all (·.length==ti.size) then (Kb σ rows.length rows.length lo hi').map fun (a,b)=>AV.sl .ext ((rows.drop a).take (b-a)) else none | _=>none)=some r) :∃v,(Instr.sliceAt t (a.eval x') (lo'.map a.eval) (hi''.map a.eval) none).run P w=.ok v w/\R G r v:=by
 split at h
 ·rename_i o rows hl
  split at h
  ·rename_i hall
   unfold Nn at hx
   rw [hl] at hx
   simp only [Option.map_eq_some_iff,Prod.exists] at h
   obtain ⟨l,u,hb,rfl⟩:=h
   obtain ⟨A,cap,hv,hF,_⟩:=hx.sl_inv
   have hF':=hF
   cases hF with
   | sl _ A cap size g off us hA hcap hs hH hFz=>
   obtain ⟨hr,h1,h2⟩:=Zkb (P:=P) (w:=w) hlo hhi hb hcap true
   refine ⟨.slice (if cap=l then A else A.map (·.add (l*ti.size))) (u-l) (cap-l),?_,?_⟩
   ·rw [hv]
    simp [Instr.sliceAt,Instr.slice,run_underlying ht,hr,sizeOf,typeInfo,hi]
   ·have hlen:((rows.drop l).take (u-l)).length=u-l:=by simp;omega
    have hsz:rows≠[]->size=ti.size:=by
     intro hne
     cases rows with
     | nil=>exact absurd rfl hne
     | cons row rest=>
      rw [<- hs 0 row rfl]
      simp at hall
      exact hall.1
    have hgo:R G (.sl .ext ((rows.drop l).take (u-l))) (.slice (if cap=l then A else A.map (·.add (l*ti.size))) ((rows.drop l).take (u-l)).length (cap-l)):=by
     refine .fz _ _ (.sl _ _ _ ti.size g (off+l*ti.size) (fun i j=>us (l+i) j) ?_ (by omega) ?_ ?_ ?_)
     ·intro hne
      have hrows:rows≠[]:=by rintro rfl;simp at hne
      have hlu:l<u:=by
       rcases Nat.lt_or_ge l u with h | h
       ·exact h
       ·exfalso;apply hne;apply List.eq_nil_of_length_eq_zero;rw [hlen];omega
      rw [if_neg (by omega),hA hrows]
      simp [Addr.add_lit]
     ·intro i row hrow
      rw [List.getElem?_take] at hrow
      split at hrow
      ·rw [List.getElem?_drop] at hrow
       rw [hs _ _ hrow]
       exact hsz (by rintro rfl;simp at hrow)
      ·cases hrow
     ·intro i row j b hrow hb
      rw [List.getElem?_take] at hrow
      split at hrow
      ·rw [List.getElem?_drop] at hrow
       have:=hH _ row j b hrow hb
       rw [hsz (by rintro rfl;simp at hrow)] at this
       rw [<- this]
       congr 1
       rw [Nat.add_mul];omega
      ·cases hrow
     ·intro i row j b hrow hb
      rw [List.getElem?_take] at hrow
      split at hrow
      ·rw [List.getElem?_drop] at hrow
       exact hFz _ row j b hrow hb
      ·cases hrow
    rw [hlen] at hgo
    exact hgo
  ·cases h
 ·cases h
theorem Xh0 {t:TypeId} (ht:P.underlying t=some .string) {x:AV} {vx:Value} {ty:TypeId} {r:AV}
  (h:(match x with | .s l=>some (AV.i .i64 l.length) | _=>none)=some r) (hx:R G x vx) :∃v,(Builtin.len_ #[t] ty #[vx]).run P w=.ok v w/\R G r v:=by
 revert hx
 split at h
 ·rename_i l
  intro hx
  cases h
  rw [hx.str_inv]
  refine ⟨.int .i64 l.length,?_,.fz _ _ (.i _ _)⟩
  have hs:(ByteArray.mk l.toArray).size=l.length:=by simp [ByteArray.size]
  simp [Builtin.len_,run_underlying ht,goInt,hs]
 ·cases h
theorem Xvl {t e:TypeId} (ht:P.underlying t=some (.slice e)) {x:AV} {vx:Value} {ty:TypeId} {r:AV}
  (h:(match x with | .sl _ rows=>some (AV.i .i64 rows.length) | _=>none)=some r) (hx:R G x vx) :∃v,(Builtin.len_ #[t] ty #[vx]).run P w=.ok v w/\R G r v:=by
 revert hx
 split at h
 ·rename_i o rows
  intro hx
  cases h
  obtain ⟨A,cap,rfl,_⟩:=hx.sl_inv
  refine ⟨.int .i64 rows.length,?_,.fz _ _ (.i _ _)⟩
  simp [Builtin.len_,run_underlying ht,goInt]
 ·cases h
theorem Xu1 {k:Nat} {x:AV} {vx:Value} {r:AV} (h:(match x with | .tup vs=>vs[k]? | _=>none)=some r) (hx:R G x vx) :∃v,(Instr.extract vx k).run P w=.ok v w/\R G r v:=by
 revert hx
 split at h
 ·rename_i vs
  intro hx
  obtain ⟨us,rfl,hr⟩:=hx.tup_inv
  have hk:k<us.length:=by
   rw [<- hr.1]
   rcases Nat.lt_or_ge k vs.length with h' | h'
   ·exact h'
   ·rw [List.getElem?_eq_none h'] at h;cases h
  refine ⟨us[k],?_,hr.2 k _ _ h (List.getElem?_eq_getElem hk)⟩
  simp [Instr.extract,List.getElem?_eq_getElem hk]
 ·cases h
theorem Xyt {op:UnOp} {x:AV} {vx:Value} {r:AV} (h:(match op,x with | .not,.b t=>some (AV.b (!t)) | .neg,.i k n=>some (.i k (k.wrap (0-n))) | _,_=>none)=some r) (hx:R G x vx) :∃v,(Op.unary op vx).run P w=.ok v w/\R G r v:=by
 revert hx
 split at h
 ·intro hx;cases h;rw [hx.bool_inv];exact ⟨_,by simp [Op.unary],.fz _ _ (.b _)⟩
 ·intro hx;cases h;rw [hx.int_inv];exact ⟨_,by simp [Op.unary,Op.intArith],.fz _ _ (.i _ _)⟩
 ·cases h
theorem Yzz {src dst:TypeId} {d:TypeDesc} {k:IntKind} (hs:P.underlying src=some d) (hd:P.underlying dst=some (.int k)) {x:AV} {vx:Value} {r:AV} (h:(match x with | .i _ n=>some (AV.i k (k.wrap n)) | _=>none)=some r) (hx:R G x vx) :∃v,(convert src dst vx).run P w=.ok v w/\R G r v:=by
 revert hx
 split at h
 ·intro hx;cases h;rw [hx.int_inv];exact ⟨_,by simp [convert,run_underlying hs,run_underlying hd,Conv.intToInt],.fz _ _ (.i _ _)⟩
 ·cases h
theorem Xke {t:TypeId} (ht:P.underlying t=some .bool) {neg:Bool} {x y:AV} {vx vy:Value} {r:AV} (h:(match x,y with | .b x,.b y=>some (AV.b (if neg then !(x==y) else x==y)) | _,_=>none)=some r) (hx:R G x vx) (hy:R G y vy) :
  ∃v,(binOp (if neg then .neq else .eql) t vx vy).run P w=.ok v w/\R G r v:=by
 revert hx hy
 split at h
 ·intro hx hy
  cases h
  rw [hx.bool_inv,hy.bool_inv]
  have key :∀(d:Nat) (p q:Bool),(Op.equalIn (d+1) t (.bool p) (.bool q)).run P w=.ok (p==q) w:=fun d p q=>by simp [Op.equalIn,run_underlying ht]
  cases neg
  ·refine ⟨_,?_,.fz _ _ (.b _)⟩
   simp only [binOp,Bool.false_eq_true,if_false]
   simp [Op.equal,Op.maxDepth,key 9999]
  ·refine ⟨_,?_,.fz _ _ (.b _)⟩
   simp only [binOp,if_true]
   simp [Op.equal,Op.maxDepth,key 9999]
 ·cases h
theorem Wp2 {row:List AV} {c:UInt8} (h:Pq row=some c):row=Yu c:=by
 unfold Pq at h
 split at h
 ·rename_i n
  split at h
  ·rename_i hn
   cases h
   simp only [Yu]
   congr 2
   have:n.toNat<256:=by omega
   have h2:(n.toNat.toUInt8).toNat=n.toNat:=by simp [Nat.toUInt8];omega
   rw [h2];omega
  ·cases h
 ·cases h
theorem Zru :∀{rows:List (List AV)} {l:List UInt8},Bm rows=some l->rows=l.map Yu
 | [],l,h=>by cases h;rfl
 | row::rest,l,h=>by
  unfold Bm at h
  split at h
  ·rename_i c l' h1 h2
   cases h
   rw [Wp2 h1,Zru h2]
   rfl
  ·cases h
theorem Ywf (l:List UInt8):Bm (l.map Yu)=some l:=by
 induction l with
 | nil=>rfl
 | cons c l ih=>
  have:Pq (Yu c)=some c:=by
   have hc:c.toNat<256:=c.toNat_lt
   simp only [Yu,Pq]
   rw [if_pos ⟨by omega,by omega⟩]
   simp
  simp only [List.map_cons,Bm,this,ih]
theorem Xqk (l:List UInt8) :∀s:ByteArray,(l.map (fun c=>(c.toNat:Int))).foldl (fun (r:ByteArray) n=>r.push (UInt8.ofNat n.toNat)) s=ByteArray.mk (s.data.toList++l).toArray:=by
 induction l with
 | nil=>intro s;simp
 | cons c l ih=>
  intro s
  simp only [List.map_cons,List.foldl_cons]
  rw [ih]
  simp [ByteArray.push]
theorem Wr2 {src dst e:TypeId} (hs:P.underlying src=some (.slice e)) (he:P.underlying e=some (.int .u8)) (hd:P.underlying dst=some .string) {x:AV} {vx:Value} (hext :∀g o v,G.H g o=some v->w.cell? ⟨g,o,none⟩=some v) {r:AV}
  (h:(match x with | .sl _ rows=>(Bm rows).map AV.s | _=>none)=some r) (hx:R G x vx) :∃v,(convert src dst vx).run P w=.ok v w/\R G r v:=by
 revert hx
 split at h
 ·rename_i o rows
  intro hx
  simp only [Option.map_eq_some_iff] at h
  obtain ⟨l,hl,rfl⟩:=h
  have hrows:=Zru hl
  subst hrows
  obtain ⟨A,cap,rfl,hF,_⟩:=hx.sl_inv
  refine ⟨.string ⟨l.toArray⟩,?_,.fz _ _ (.s _)⟩
  rw [run_convert_bytes_string w src dst e _ _ _ hs he hd]
  cases l with
  | nil=>
   cases A with
   | none=>simp [Conv.bytesToString];rfl
   | some ad=>
    have hc:(loadCells ad 0).run P w=.ok ((([]:List Int).map (Value.int .u8)).toArray) w:=by simp [loadCells,loadCellsFrom]
    have:=run_bytesToString w ad 0 cap [] hc
    have h2:(Conv.bytesToString (.slice (some ad) 0 cap)).run P w=.ok (.string ByteArray.empty) w:=by simpa using this
    exact h2
  | cons c l=>
   cases hF with
   | sl _ A cap size g off us hA hcap hsz hH hFz=>
   have hAe:=hA (by simp)
   subst hAe
   have hsize:size=1:=by rw [<- hsz 0 (Yu c) rfl];rfl
   subst hsize
   have hcells:(loadCells ⟨g,off,none⟩ (c::l).length).run P w=.ok ((((c::l).map (fun c=>(c.toNat:Int))).map (Value.int .u8)).toArray) w:=by
    have:=run_loadCells_list (P:=P) w ⟨g,off,none⟩ (((c::l).map (fun c=>(c.toNat:Int))).map (Value.int .u8)) ?_
    ·simpa using this
    ·intro j v hv
     rw [Addr.add_lit]
     simp only [List.map_map,List.getElem?_map,Option.map_eq_some_iff] at hv
     obtain ⟨d,hd,rfl⟩:=hv
     have hrow:((c::l).map Yu)[j]?=some (Yu d):=by simp only [List.getElem?_map,hd,Option.map_some]
     have h1:=hH j (Yu d) 0 _ hrow rfl
     have h2:=hFz j (Yu d) 0 _ hrow rfl
     have h3:=hext _ _ _ h1
     generalize us j 0=v0 at h2 h3
     cases h2
     simpa using h3
   simp only [List.length_map]
   rw [run_bytesToString w ⟨g,off,none⟩ (c::l).length cap _ hcells]
   rw [Xqk]
   rfl
 ·cases h
end
end Go.AM

/- Yg of the proof. -/
namespace Go.AM
open Go Go.RowKit
section lists
variable {α:Type}
theorem Zki (l:List (Zq × α)) (k:Zq) (a:α) (k':Zq):lk (Yx l k a) k'=if k=k' then some a else lk l k':=by
 induction l with
 | nil=>simp [Yx,lk]
 | cons x r ih=>
  obtain ⟨k1,b⟩:=x
  simp only [Yx]
  split
  ·rename_i h;subst h;simp only [lk];split<;>rfl
  ·rename_i h
   simp only [lk]
   split
   ·rename_i h2;subst h2;rw [if_neg (fun e=>h e.symm)]
   ·rw [ih]
theorem As (l:List (Zq × α)) (k:Zq) (a:α):lk (Yx l k a) k=some a:=by rw [Zki,if_pos rfl]
theorem Tp (l:List (Zq × α)) {k k':Zq} (a:α) (h:k≠k'):lk (Yx l k a) k'=lk l k':=by rw [Zki,if_neg h]
theorem Ykw (l:List (Zq × α)) (p:Zq->Bool) (k:Zq):lk (l.filter fun x=>p x.1) k=if p k then lk l k else none:=by
 induction l with
 | nil=>simp [lk]
 | cons x r ih=>
  obtain ⟨k1,b⟩:=x
  simp only [List.filter_cons]
  by_cases h:k1=k
  ·subst h
   cases hp:p k1 with
   | true=>simp [lk]
   | false=>simp [ih,hp]
  ·split
   ·simp only [lk,if_neg h,ih]
   ·simp only [ih,lk,if_neg h]
theorem Sn (l:List (Zq × α)) (k k':Zq):lk (del l k) k'=if k'=k then none else lk l k':=by
 unfold del
 have:=Ykw l (fun x=>decide (x≠k)) k'
 rw [this]
 by_cases h:k'=k<;>simp [h]
end lists
structure Vc (G G':Gh) (w0:World) (st st':St) (w':World) (d site ver:Nat):Prop where
 le:G.Le G'
 rel:Ys G' w0 st' w'
 nx:st.nx<=st'.nx
 old :∀k v,v<st.nx->(k,v)≠((d,site),ver)->G'.ρ k v=G.ρ k v/\G'.ω k v=G.ω k v
 pend :∀k v cs,k.1<=d->v<st.nx->k≠(d,site)->G.ρ k v=none->lk st.bx k=some (v,cs)->lk st'.bx k=some (v,cs)
 newH :∀g o v,G'.H g o=some v->G.H g o=some v\/w0.heap.size<=g
section
variable {P:Program} {G:Gh} {w0 w:World} {st:St}
theorem Vc.same {w':World} {d site ver:Nat} (hR:Ys G w0 st w'):Vc G G w0 st st w' d site ver:=
 ⟨.refl G,hR,Nat.le_refl _,fun _ _ _ _=>⟨rfl,rfl⟩,fun _ _ _ _ _ _ _ h=>h,fun _ _ _ h=>.inl h⟩
theorem Kz {w:World} {g:Nat} {o:Obj} (h:w.heap[g]?=some o):g<w.heap.size:=by
 rcases Nat.lt_or_ge g w.heap.size with h' | h'
 ·exact h'
 ·rw [Array.getElem?_eq_none h'] at h;cases h
theorem Ys.cell (hR:Ys G w0 st w) :∀g o v,G.H g o=some v->w.cell? ⟨g,o,none⟩=some v:=fun g o v h=>(hR.ext g o v h).1
theorem Ys.Hlt (hR:Ys G w0 st w) {g o:Nat} {v:Value} (h:G.H g o=some v):g<w.heap.size:=block_lt_of_cell (hR.ext g o v h).1
theorem Ys.grow (hR:Ys G w0 st w) {w':World} (hb:Below w.heap.size w w') {H':Hp} (hle:Hj G.H H')
  (hH :∀g o v,H' g o=some v->G.H g o=some v\/(w.heap.size<=g/\w'.cell? ⟨g,o,none⟩=some v/\v.oneCell'=true)):Ys ⟨H',G.ρ,G.ω,G.fm,G.M⟩ w0 st w':=by
 have hbox :∀g cs,Zaf G w0 w cs g->Zaf ⟨H',G.ρ,G.ω,G.fm,G.M⟩ w0 w' cs g:=by
  rintro g cs ⟨us,e,h1,h2,h3,h4,h5⟩
  refine ⟨us,e,h1,by rw [hb.block g (Kz h2)];exact h2,Rs.mono (G':=⟨H',G.ρ,G.ω,G.fm,G.M⟩) ⟨hle,fun _ _ _ h=>h,fun _ _ _ h=>h,rfl,fun _ _ h=>h⟩ h3,h4,fun o=>?_⟩
  cases h:H' g o with
  | none=>exact h
  | some v=>
   rcases hH g o v h with h' | ⟨h',_⟩
   ·rw [h5 o] at h';cases h'
   ·have:=Kz h2;omega
 refine ⟨?_,?_,fun k ver cs g h1 h2=>hbox g cs (hR.bx k ver cs g h1 h2),hR.inj,?_,hR.owinj,hR.fresh,fun k ver cs g hb' h1 h2=>?_,fun k ver n hb' h1 g cap size h2=>?_,fun b l hb'=>(hR.mp b l hb').keep fun o h _=>hb.block b (Kz h)⟩
 rotate_left 3
 ·obtain ⟨us,h3,h3n⟩:=hR.bxT k ver cs g hb' h1 h2
  exact ⟨us,by rw [hb.block g (Kz h3)];exact h3,h3n⟩
 ·obtain ⟨us,h3⟩:=hR.owT k ver n hb' h1 g cap size h2
  exact ⟨us,by rw [hb.block g (Kz h3)];exact h3⟩
 ·have hsz:=hR.bel.size
  exact hR.bel.trans (hb.mono hsz)
 ·intro g o v h
  rcases hH g o v h with h' | ⟨_,h1,h2⟩
  ·have hlt:=hR.Hlt h'
   obtain ⟨h1,h2⟩:=hR.ext g o v h'
   exact ⟨by rw [hb.cell (p:=⟨g,o,none⟩) hlt];exact h1,h2⟩
  ·exact ⟨h1,h2⟩
 ·intro k ver n h
  obtain ⟨g,cap,size,h1,⟨cur,e,h2,h3,h4,h5,h6,h7⟩,h8⟩:=hR.ow k ver n h
  refine ⟨g,cap,size,h1,⟨cur,e,h2,by rw [hb.block g (Kz h3)];exact h3,h4,h5,h6,fun o ho=>?_⟩,h8⟩
  cases h':H' g o with
  | none=>exact h'
  | some v=>
   rcases hH g o v h' with h'' | ⟨h'',_⟩
   ·rw [h7 o ho] at h'';cases h''
   ·have:=Kz h3;omega
theorem Ys.below (hR:Ys G w0 st w) {w':World} (hb:Below w.heap.size w w'):Ys G w0 st w':=
 hR.grow hb (H':=G.H) (fun _ _ _ h=>h) (fun _ _ _ h=>.inl h)
theorem Vc.grow (hR:Ys G w0 st w) {w':World} (hb:Below w.heap.size w w') {H':Hp} (hle:Hj G.H H')
  (hH :∀g o v,H' g o=some v->G.H g o=some v\/(w.heap.size<=g/\w'.cell? ⟨g,o,none⟩=some v/\v.oneCell'=true)) {d site ver:Nat}:Vc G ⟨H',G.ρ,G.ω,G.fm,G.M⟩ w0 st st w' d site ver:=
 ⟨⟨hle,fun _ _ _ h=>h,fun _ _ _ h=>h,rfl,fun _ _ h=>h⟩,hR.grow hb hle hH,Nat.le_refl _,fun _ _ _ _=>⟨rfl,rfl⟩,fun _ _ _ _ _ _ _ h=>h,fun g o v h=>by
  rcases hH g o v h with h' | ⟨h',_⟩
  ·exact .inl h'
  ·exact .inr (Nat.le_trans hR.bel.size h')⟩
theorem Ys.setM (hR:Ys G w0 st w) {M':Nat->Option MO} (hle :∀b l,G.M b=some l->M' b=some l) (hM :∀b l,M' b=some l->Ft w b l):Ys ⟨G.H,G.ρ,G.ω,G.fm,M'⟩ w0 st w:=
 ⟨hR.bel,hR.ext,fun k ver cs g h1 h2=>by
  obtain ⟨us,e,a1,a2,a3,a4,a5⟩:=hR.bx k ver cs g h1 h2
  exact ⟨us,e,a1,a2,Rs.mono (G:=G) (G':=⟨G.H,G.ρ,G.ω,G.fm,M'⟩) ⟨fun _ _ _ h=>h,fun _ _ _ h=>h,fun _ _ _ h=>h,rfl,hle⟩ a3,a4,a5⟩,hR.inj,hR.ow,hR.owinj,hR.fresh,hR.bxT,hR.owT,hM⟩
theorem Vc.setM {G':Gh} {st':St} {w':World} {d site ver:Nat} (h:Vc G G' w0 st st' w' d site ver) {M':Nat->Option MO} (hle :∀b l,G'.M b=some l->M' b=some l) (hM :∀b l,M' b=some l->Ft w' b l):Vc G ⟨G'.H,G'.ρ,G'.ω,G'.fm,M'⟩ w0 st st' w' d site ver:=
 ⟨h.le.trans (B:=G') ⟨fun _ _ _ h=>h,fun _ _ _ h=>h,fun _ _ _ h=>h,rfl,hle⟩,h.rel.setM hle hM,h.nx,h.old,h.pend,h.newH⟩
theorem Yk8 (hR:Ys G w0 st w) {t:TypeId} {i:TI} (hT:Ko P t i) (_h1:i.kind.agg=false->i.size=1) {x r:AV} {vx:Value} (h:Bg st i.size i.kind.agg x=some r) (hx:R G x vx) :
  ∃v,(Instr.loadAt t vx).run P w=.ok v w/\R G r v:=by
 obtain ⟨ti,z,hi,hsz,_⟩:=hT.info
 have key :∀(g o:Nat) (us:List Value),us.length=i.size->(∀(j:Nat) v,us[j]?=some v->w.cell? ⟨g,o+j,none⟩=some v)->∀{cs:List AV},Rs G cs us->Qf i.kind.agg cs=some r->
   ∃v,(Instr.loadAt t (.pointer (some ⟨g,o,none⟩))).run P w=.ok v w/\R G r v:=by
  intro g o us hl hc cs hr ho
  rcases Ycf hr ho with ⟨ha,hv⟩ | ⟨ha,v,rfl,hv⟩
  ·refine ⟨_,?_,hv⟩
   have hlc:=run_loadCells_list (P:=P) w ⟨g,o,none⟩ us (fun j v h=>by rw [Addr.add_lit];exact hc j v h)
   rw [hl] at hlc
   simp only [Instr.loadAt,Instr.sureAddr,Sem.run_bind,Sem.run_pure,Result.andThen_ok,loadVar,Th hT.kind,ha,if_true,sizeOf,typeInfo,run_program,hi,hsz,hlc]
  ·refine ⟨v,?_,hv⟩
   have:=hc 0 v rfl
   simp only [Nat.add_zero] at this
   simp only [Instr.loadAt,Instr.sureAddr,Sem.run_bind,Sem.run_pure,Result.andThen_ok,loadVar,Th hT.kind,ha,Bool.false_eq_true,if_false,run_load,this]
 unfold Bg at h
 revert hx
 split at h
 ·rename_i cs
  intro hx
  split at h
  ·rename_i hle
   obtain ⟨g,o,us,rfl,hH,hF⟩:=hx.fp_inv
   have hlen:(cs.take i.size).length=i.size:=by simp;omega
   refine key g o ((List.range i.size).map us) (by simp) ?_ (cs:=cs.take i.size) ⟨by simp [hlen],?_⟩ h
   ·intro j v hv
    simp only [List.getElem?_map,Option.map_eq_some_iff] at hv
    obtain ⟨j',hj,rfl⟩:=hv
    have hj2:j'=j/\j<i.size:=by
     rcases Nat.lt_or_ge j i.size with h' | h'
     ·rw [List.getElem?_range h'] at hj;injection hj with hj;exact ⟨hj.symm,h'⟩
     ·rw [List.getElem?_eq_none (by simpa using h')] at hj;cases hj
    obtain ⟨rfl,hlt⟩:=hj2
    exact (hR.ext _ _ _ (hH j' cs[j'] (List.getElem?_eq_getElem (by omega)))).1
   ·intro j b u hb hu
    rw [List.getElem?_take] at hb
    split at hb
    ·rename_i hj
     simp only [List.getElem?_map,List.getElem?_range hj,Option.map_some] at hu
     injection hu with hu
     rw [<- hu]
     exact .fz _ _ (hF j b hb)
    ·cases hb
  ·cases h
 ·rename_i k v o
  intro hx
  split at h
  ·rename_i v' cs hlk
   split at h
   ·rename_i hle
    obtain ⟨rfl,hle⟩:=hle
    obtain ⟨g,rfl,hρ⟩:=hx.p_inv
    obtain ⟨us,e,_,hheap,hr,_,_⟩:=hR.bx k v' cs g hlk hρ
    have hl:us.length=cs.length:=hr.1.symm
    refine key g o ((us.drop o).take i.size) (by simp;omega) ?_ (hr.sub o i.size) h
    intro j u hu
    rw [List.getElem?_take] at hu
    split at hu
    ·rw [List.getElem?_drop] at hu
     simp [World.cell?,hheap,hu]
    ·cases hu
   ·cases h
  ·cases h
 ·cases h
theorem Ys.setBox (hR:Ys G w0 st w) {k:Zq} {ver g:Nat} {cs:List AV} (hk:lk st.bx k=some (ver,cs)) (hρ:G.ρ k ver=some g) {us:List Value} {cs':List AV} (hr:Rs G cs' us) (h1 :∀x∈us,x.oneCell'=true) (hN:Wa<=k.2->cs'[1]?=some (.sl .full [])->us[1]?=some (.slice none 0 0)) :
  Ys G w0 { st with bx:=Yx st.bx k (ver,cs') } (w.setRow g us.toArray):=by
 obtain ⟨us0,e,hge,hheap,_,_,hnone⟩:=hR.bx k ver cs g hk hρ
 have hget :∀k' ver' cs1,lk (Yx st.bx k (ver,cs')) k'=some (ver',cs1)->(k'=k/\ver'=ver/\cs1=cs')\/(k'≠k/\lk st.bx k'=some (ver',cs1)):=by
  intro k' ver' cs1 h
  rw [Zki] at h
  split at h
  ·rename_i he;cases h;exact .inl ⟨he.symm,rfl,rfl⟩
  ·rename_i he;exact .inr ⟨fun e=>he e.symm,h⟩
 refine ⟨?_,?_,?_,?_,?_,hR.owinj,hR.fresh,?_,?_,fun b l hb=>(hR.mp b l hb).keep fun o hm hc=>setRow_other w g b us.toArray (fun e=>by rw [e,hheap] at hm;cases hm;cases hc)⟩
 rotate_left 5
 ·intro k' ver' cs1 g' hb h hg'
  rcases hget _ _ _ h with ⟨rfl,rfl,rfl⟩ | ⟨hne,h⟩
  ·obtain ⟨us',h3,_⟩:=hR.bxT _ _ _ g' hb hk hg'
   rw [hρ] at hg'
   cases hg'
   rw [hheap] at h3
   injection h3 with h3
   injection h3 with _ h3
   exact ⟨_,by rw [<- h3];exact setRow_heap w g _ _ e (0,0) hheap,fun h=>by simpa using hN hb h⟩
  ·obtain ⟨us',h3,h3n⟩:=hR.bxT k' ver' cs1 g' hb h hg'
   refine ⟨us',?_,h3n⟩
   rw [setRow_other w g g' us.toArray (fun e=>hne (hR.inj k' k ver' ver cs1 cs g' h hk hg' (e ▸ hρ)))]
   exact h3
 ·intro k' ver' n hb h g' cap size hω
  obtain ⟨us',h3⟩:=hR.owT k' ver' n hb h g' cap size hω
  obtain ⟨g1,cap1,size1,h1',_,h8⟩:=hR.ow k' ver' n h
  rw [hω] at h1'
  cases h1'
  refine ⟨us',?_⟩
  rw [setRow_other w g g' us.toArray (fun e=>h8 k ver cs hk (e ▸ hρ))]
  exact h3
 ·exact hR.bel.trans ⟨rfl,rfl,rfl,by simp,fun i hi=>setRow_other w g i us.toArray (by omega)⟩
 ·intro g' o v h
  obtain ⟨h2,h3⟩:=hR.ext g' o v h
  refine ⟨?_,h3⟩
  rw [cell_setRow_other w g us.toArray ⟨g',o,none⟩ (by rintro rfl;rw [hnone o] at h;cases h)]
  exact h2
 ·intro k' ver' cs1 g' h hg'
  rcases hget _ _ _ h with ⟨rfl,rfl,rfl⟩ | ⟨hne,h⟩
  ·rw [hρ] at hg'
   cases hg'
   exact ⟨us,e,hge,setRow_heap w g _ _ e (0,0) hheap,hr,h1,hnone⟩
  ·obtain ⟨us1,e1,a1,a2,a3,a4,a5⟩:=hR.bx k' ver' cs1 g' h hg'
   refine ⟨us1,e1,a1,?_,a3,a4,a5⟩
   rw [setRow_other w g g' us.toArray (fun e=>hne (hR.inj k' k ver' ver cs1 cs g' h hk hg' (e ▸ hρ)))]
   exact a2
 ·intro k1 k2 v1 v2 c1 c2 g' h1 h2 r1 r2
  have conv :∀k' v' c',lk (Yx st.bx k (ver,cs')) k'=some (v',c')->∃c'',lk st.bx k'=some (v',c''):=by
   intro k' v' c' h
   rcases hget _ _ _ h with ⟨rfl,rfl,rfl⟩ | ⟨_,h⟩
   ·exact ⟨_,hk⟩
   ·exact ⟨_,h⟩
  obtain ⟨c1',h1'⟩:=conv _ _ _ h1
  obtain ⟨c2',h2'⟩:=conv _ _ _ h2
  exact hR.inj k1 k2 v1 v2 c1' c2' g' h1' h2' r1 r2
 ·intro k' ver' n h
  obtain ⟨g',cap,size,h1',⟨cur,e',a1,a2,a3,a4,a5,a6⟩,h8⟩:=hR.ow k' ver' n h
  refine ⟨g',cap,size,h1',⟨cur,e',a1,?_,a3,a4,a5,a6⟩,?_⟩
  ·rw [setRow_other w g g' us.toArray (fun e=>h8 k ver cs hk (e ▸ hρ))]
   exact a2
  ·intro k2 v2 c2 h2 r2
   rcases hget _ _ _ h2 with ⟨rfl,rfl,rfl⟩ | ⟨_,h2⟩
   ·exact h8 _ _ _ hk r2
   ·exact h8 _ _ _ h2 r2
theorem Zz5 :∀(vs:List AV) (cs:List AV) (o:Nat),(Ud cs o vs).length=cs.length
 | [],cs,o=>rfl
 | v::r,cs,o=>by simp [Ud,Zz5 r]
theorem Zor :∀(vs:List AV) (cs:List AV) (o:Nat),o+vs.length<=cs.length->∀j,(Ud cs o vs)[j]?=if o<=j/\j<o+vs.length then vs[j-o]? else cs[j]?
 | [],cs,o,_,j=>by simp [Ud];omega
 | v::r,cs,o,h,j=>by
  simp only [List.length_cons] at h
  rw [Ud,Zor r (cs.set o v) (o+1) (by simp;omega) j]
  by_cases hj:o=j
  ·subst hj
   rw [if_neg (by omega),if_pos (by simp),List.getElem?_set_self (by omega)]
   simp
  ·by_cases h2:o+1<=j/\j<o+1+r.length
   ·rw [if_pos h2,if_pos (by simp;omega)]
    have:j-o=(j-(o+1))+1:=by omega
    rw [this,List.getElem?_cons_succ]
   ·rw [if_neg h2,if_neg (by simp;omega),List.getElem?_set_ne hj]
theorem Rs.setAt_ {cs vs:List AV} {us xs:List Value} (hr:Rs G cs us) (hv:Rs G vs xs) {o:Nat} (hle:o+vs.length<=cs.length):Rs G (Ud cs o vs) (us.take o++xs++us.drop (o+xs.length)):=by
 have hl:=hr.1
 have hlx:=hv.1
 refine ⟨by rw [Zz5];simp;omega,fun j a u h1 h2=>?_⟩
 rw [Zor vs cs o hle j] at h1
 rw [List.append_assoc,List.getElem?_append] at h2
 simp only [List.length_take] at h2
 by_cases hj:j<o
 ·rw [if_neg (by omega)] at h1
  rw [if_pos (by omega),List.getElem?_take,if_pos hj] at h2
  exact hr.2 j a u h1 h2
 ·rw [if_neg (by omega),List.getElem?_append,show min o us.length=o from by omega] at h2
  by_cases hj2:j<o+vs.length
  ·rw [if_pos ⟨by omega,hj2⟩] at h1
   rw [if_pos (by omega)] at h2
   exact hv.2 _ a u h1 h2
  ·rw [if_neg (by omega)] at h1
   rw [if_neg (by omega),List.getElem?_drop] at h2
   refine hr.2 j a u h1 ?_
   rw [<- h2]
   congr 1
   omega
theorem Xkn {us xs:List Value} {o j:Nat} (hle:o+xs.length<=us.length) (hj:¬(o<=j/\j<o+xs.length)):(us.take o++xs++us.drop (o+xs.length))[j]?=us[j]?:=by
 rw [List.append_assoc,List.getElem?_append]
 simp only [List.length_take]
 by_cases h:j<o
 ·rw [if_pos (by omega),List.getElem?_take,if_pos h]
 ·rw [if_neg (by omega),List.getElem?_append,if_neg (by omega),List.getElem?_drop]
  congr 1
  omega
theorem Wl2 (hR:Ys G w0 st w) {t:TypeId} {i:TI} (hT:Ko P t i) {x y:AV} {vx vy:Value} {st':St} (h:Ca st i.size x y=some st') (hx:R G x vx) (hy:R G y vy) {d site ver:Nat} :
  ∃w',(Instr.storeAt t vx vy).run P w=.ok () w'/\Vc G G w0 st st' w' d site ver:=by
 obtain ⟨ti,z,hi,hsz,_⟩:=hT.info
 unfold Ca at h
 revert hx
 split at h
 ·rename_i k v o
  intro hx
  split at h
  ·rename_i v' cs hlk
   split at h
   ·rename_i hle
    obtain ⟨rfl,hle,hlen,hone,hok⟩:=hle
    cases h
    obtain ⟨g,rfl,hρ⟩:=hx.p_inv
    obtain ⟨us,e,hge,hheap,hr,hu1,hnone⟩:=hR.bx k v' cs g hlk hρ
    obtain ⟨xs,hxs,hrx,hlx,hx1⟩:=hy.cells hone
    have hl:us.length=cs.length:=hr.1.symm
    have hst:=run_storeCells_at (P:=P) g o e xs 0 us.toArray w hheap (by simp;omega) hx1
    simp only [Nat.add_zero] at hst
    refine ⟨_,?_,⟨.refl G,hR.setBox hlk hρ (hr.setAt_ hrx (by omega)) ?_ ?_,Nat.le_refl _,fun _ _ _ _=>⟨rfl,rfl⟩,?_,fun _ _ _ h=>.inl h⟩⟩
    ·have hsize:¬ (xs.toArray.size≠ti.size):=by rw [hsz];simp;omega
     simp only [Instr.storeAt,Instr.sureAddr,Sem.run_bind,Sem.run_pure,Result.andThen_ok,storeVar,sizeOf,typeInfo,run_program,hi,hxs]
     rw [if_neg hsize,hst]
    ·intro u hu
     simp only [List.mem_append] at hu
     rcases hu with (hu | hu) | hu
     ·exact hu1 u (List.mem_of_mem_take hu)
     ·exact hx1 u hu
     ·exact hu1 u (List.mem_of_mem_drop hu)
    ·intro hb hcs
     obtain ⟨us',h3,h3n⟩:=hR.bxT k v' cs g hb hlk hρ
     rw [hheap] at h3
     injection h3 with h3
     injection h3 with h3
     subst h3
     rw [Zor y.cells cs o (by omega) 1] at hcs
     split at hcs
     ·exfalso
      have:y.cells.any AV.isF0=true:=List.any_eq_true.2 ⟨_,List.mem_of_getElem? hcs,rfl⟩
      unfold Mj at hok
      rw [this] at hok
      have h9:Nat.blt k.2 Wa=true:=by simpa using hok
      rw [Nat.blt_eq] at h9
      omega
     ·rename_i hnr
      have h8:=h3n hcs
      rw [Xkn (by omega) (by omega)]
      simpa using h8
    ·intro k' v2 cs2 _ _ _ hn h2
     have hne:k≠k':=by
      rintro rfl
      rw [hlk] at h2
      cases h2
      rw [hρ] at hn
      cases hn
     simpa [Tp st.bx _ hne] using h2
   ·cases h
  ·cases h
 ·cases h
end
end Go.AM

/- Yg of the proof. -/
namespace Go.AM
open Go Go.RowKit
def Gh.setρ (G:Gh) (k:Zq) (v g:Nat):Gh:=⟨G.H,fun k' v'=>if k'=k/\v'=v then some g else G.ρ k' v',G.ω,G.fm,G.M⟩
section
variable {P:Program} {G:Gh} {w0 w:World} {st:St}
theorem Gh.le_setρ {k:Zq} {v:Nat} (h:G.ρ k v=none) (g:Nat):G.Le (G.setρ k v g):=
 ⟨fun _ _ _ h=>h,fun k' v' g' h'=>by
  show (if k'=k/\v'=v then some g else G.ρ k' v')=some g'
  rw [if_neg (by rintro ⟨rfl,rfl⟩;rw [h] at h';cases h')]
  exact h',fun _ _ _ h=>h,rfl,fun _ _ h=>h⟩
theorem Ys.newBox (hR:Ys G w0 st w) {key:Zq} {ver:Nat} {cs:List AV} {us:List Value} {e:TypeId} (hT:Wa<=key.2->e=Uj G.fm) (hN:Wa<=key.2->cs[1]?=some (.sl .full [])->us[1]?=some (.slice none 0 0)) (hr:Rs G cs us) (h1 :∀x∈us,x.oneCell'=true) (hρ:G.ρ key ver=none) (hv:ver<st.nx)
  {bx':List (Zq × Nat × List AV)} (hk:lk bx' key=some (ver,cs)) (hne :∀k,k≠key->lk bx' k=lk st.bx k) :
  Ys (G.setρ key ver w.heap.size) w0 { st with bx:=bx' } (w.alloc (.cells us.toArray e)):=by
 have hle:=G.le_setρ hρ w.heap.size
 have hbel:Below w.heap.size w (w.alloc (.cells us.toArray e)):=(Below.refl _ _).alloc (Nat.le_refl _) _
 have hsz:=hR.bel.size
 have hold :∀k v g,(G.setρ key ver w.heap.size).ρ k v=some g->(k=key/\v=ver/\g=w.heap.size)\/G.ρ k v=some g:=by
  intro k v g h
  have h':(if k=key/\v=ver then some w.heap.size else G.ρ k v)=some g:=h
  split at h'
  ·rename_i hh;cases h';exact .inl ⟨hh.1,hh.2,rfl⟩
  ·exact .inr h'
 have hbox :∀g cs,Zaf G w0 w cs g->Zaf (G.setρ key ver w.heap.size) w0 (w.alloc (.cells us.toArray e)) cs g/\g<w.heap.size:=by
  rintro g cs ⟨us1,e1,a1,a2,a3,a4,a5⟩
  exact ⟨⟨us1,e1,a1,by rw [hbel.block g (Kz a2)];exact a2,a3.mono hle,a4,a5⟩,Kz a2⟩
 -- an entry other than the new one is an old one
 have hent :∀k v c g,lk bx' k=some (v,c)->(G.setρ key ver w.heap.size).ρ k v=some g->(k=key/\v=ver/\c=cs/\g=w.heap.size)\/(k≠key/\lk st.bx k=some (v,c)/\G.ρ k v=some g/\g<w.heap.size):=by
  intro k v c g hl hg
  by_cases hkk:k=key
  ·subst hkk
   rw [hk] at hl
   cases hl
   rcases hold _ _ _ hg with ⟨_,_,rfl⟩ | h
   ·exact .inl ⟨rfl,rfl,rfl,rfl⟩
   ·rw [hρ] at h;cases h
  ·rw [hne k hkk] at hl
   rcases hold _ _ _ hg with ⟨rfl,_⟩ | h
   ·exact absurd rfl hkk
   ·exact .inr ⟨hkk,hl,h,(hbox g c (hR.bx k v c g hl h)).2⟩
 refine ⟨hR.bel.trans (hbel.mono hsz),?_,?_,?_,?_,hR.owinj,?_,?_,?_,fun b l hb=>(hR.mp b l hb).keep fun o h _=>hbel.block b (Kz h)⟩
 rotate_left 5
 ·intro k v c g hb hl hg
  rcases hent k v c g hl hg with ⟨rfl,rfl,rfl,rfl⟩ | ⟨_,h1',h2',_⟩
  ·exact ⟨_,by rw [show Uj (G.setρ _ _ _).fm=Uj G.fm from rfl,<- hT hb];exact heap_alloc_new w _,fun h=>by simpa using hN hb h⟩
  ·obtain ⟨us',h3,h3n⟩:=hR.bxT k v c g hb h1' h2'
   exact ⟨us',by rw [hbel.block g (Kz h3)];exact h3,h3n⟩
 ·intro k v n hb h g cap size hω
  obtain ⟨us',h3⟩:=hR.owT k v n hb h g cap size hω
  exact ⟨us',by rw [hbel.block g (Kz h3)];exact h3⟩
 ·intro g o v h
  have hlt:=hR.Hlt (G:=G) h
  obtain ⟨a,b⟩:=hR.ext g o v h
  exact ⟨by rw [hbel.cell (p:=⟨g,o,none⟩) hlt];exact a,b⟩
 ·intro k v c g hl hg
  rcases hent k v c g hl hg with ⟨rfl,rfl,rfl,rfl⟩ | ⟨_,h1',h2',_⟩
  ·refine ⟨us,e,hsz,heap_alloc_new w _,hr.mono hle,h1,fun o=>?_⟩
   cases h:G.H w.heap.size o with
   | none=>exact h
   | some v=>have:=hR.Hlt h;omega
  ·exact (hbox g c (hR.bx k v c g h1' h2')).1
 ·intro k k' v v' c c' g a1 a2 a3 a4
  rcases hent k v c g a1 a3 with ⟨rfl,rfl,rfl,rfl⟩ | ⟨_,b1,b2,b3⟩
  ·rcases hent k' v' c' _ a2 a4 with ⟨rfl,_⟩ | ⟨_,_,_,b3⟩
   ·rfl
   ·omega
  ·rcases hent k' v' c' g a2 a4 with ⟨rfl,rfl,rfl,rfl⟩ | ⟨_,d1,d2,_⟩
   ·omega
   ·exact hR.inj k k' v v' c c' g b1 d1 b2 d2
 ·intro k v n h
  obtain ⟨g,cap,size,h1',⟨cur,e',a1,a2,a3,a4,a5,a6⟩,h8⟩:=hR.ow k v n h
  refine ⟨g,cap,size,h1',⟨cur,e',a1,by rw [hbel.block g (Kz a2)];exact a2,a3,a4,a5,a6⟩,?_⟩
  intro k2 v2 c2 hl hg
  rcases hent k2 v2 c2 g hl hg with ⟨_,_,_,rfl⟩ | ⟨_,b1,b2,_⟩
  ·have:=Kz a2;omega
  ·exact h8 k2 v2 c2 b1 b2
 ·intro k v hkv
  have:=hR.fresh k v hkv
  refine ⟨?_,this.2⟩
  show (if k=key/\v=ver then some w.heap.size else G.ρ k v)=none
  rw [if_neg (by rintro ⟨_,rfl⟩;have:st.nx<=v:=hkv;omega)]
  exact this.1
theorem Vc.newBox (hR:Ys G w0 st w) {d site ver:Nat} {cs:List AV} {us:List Value} {e:TypeId} (hT:Wa<=site->e=Uj G.fm) (hN:Wa<=site->cs[1]?=some (.sl .full [])->us[1]?=some (.slice none 0 0)) (hr:Rs G cs us) (h1 :∀x∈us,x.oneCell'=true) (hρ:G.ρ (d,site) ver=none) (hv:ver<st.nx)
  {bx':List (Zq × Nat × List AV)} (hk:lk bx' (d,site)=some (ver,cs)) (hne :∀k,k≠(d,site)->lk bx' k=lk st.bx k) :
  Vc G (G.setρ (d,site) ver w.heap.size) w0 st { st with bx:=bx' } (w.alloc (.cells us.toArray e)) d site ver:=
 ⟨G.le_setρ hρ _,hR.newBox hT hN hr h1 hρ hv hk hne,Nat.le_refl _,fun k v _ hn=>⟨by
  show (if k=(d,site)/\v=ver then some w.heap.size else G.ρ k v)=_
  rw [if_neg (by rintro ⟨rfl,rfl⟩;exact hn rfl)],rfl⟩,fun k v cs _ _ hn _ hl=>by show lk bx' k=_;rw [hne k hn];exact hl,fun _ _ _ h=>.inl h⟩
theorem Yz9 {v:Value} {x:AV} (h:Cy v=some x):v.oneCell'=true:=by
 unfold Cy at h
 split at h<;>first | rfl | cases h
theorem Znk :∀{vs:List Value} {xs:List AV},De vs=some xs->∀v∈vs,v.oneCell'=true
 | [],_,_,v,hv=>by cases hv
 | a::r,xs,h,v,hv=>by
  unfold De at h
  split at h
  ·rename_i w l hw hl
   rcases List.mem_cons.1 hv with rfl | hv
   ·exact Yz9 hw
   ·exact Znk hl v hv
  ·cases h
theorem Yd5 :∀{vs:List Value} {xs:List AV},De vs=some xs->∀{j:Nat},xs[j]?=some (.sl .full [])->vs[j]?=some (.slice none 0 0)
 | [],xs,h,j,hj=>by cases h;simp at hj
 | a::r,xs,h,j,hj=>by
  unfold De at h
  split at h
  ·rename_i w l hw hl
   cases h
   cases j with
   | zero=>
    simp only [List.getElem?_cons_zero,Option.some.injEq] at hj ⊢
    subst hj
    unfold Cy at hw
    split at hw<;>first | rfl | cases hw
   | succ j=>
    rw [List.getElem?_cons_succ] at hj ⊢
    exact Yd5 hl hj
  ·cases h
theorem Xu9 (hR:Ys G w0 st w) {t:TypeId} {i:TI} (hT:Ko P t i) {d site ver:Nat} (hB:Wa<=site->t=Uj G.fm) (hk:lk st.bx (d,site)=some (ver,i.zero)) (hρ:G.ρ (d,site) ver=none) (hv:ver<st.nx) :
  ∃v w' G',(Instr.alloc t true (.tuple #[])).run P w=.ok v w'/\R G' (.p (d,site) ver 0) v/\Vc G G' w0 st st w' d site ver:=by
 obtain ⟨ti,z,hi,_,_,hz,hc,_⟩:=hT.info
 have hst:=Vc.newBox (e:=t) hR hB (fun _ h=>Yd5 hc h) (Fi (G:=G) hc) (Znk hc) hρ hv (bx':=st.bx) hk (fun _ _=>rfl)
 refine ⟨_,_,_,?_,.p _ _ _ w.heap.size ?_,hst⟩
 ·simp only [Instr.alloc,zeroValue,typeInfo,Sem.run_bind,run_program,Result.andThen_ok,hi,hz,Sem.run_pure,newVar,newRow,run_newObj]
  rfl
 ·show (if _=_/\_=_ then some w.heap.size else _)=some w.heap.size
  rw [if_pos ⟨rfl,rfl⟩]
theorem Xkz (hR:Ys G w0 st w) {t:TypeId} {x:AV} {vx:Value} (hx:R G x vx) (hone:x.cells.all AV.one=true) {d site ver:Nat} (hB:Wa<=site->False) (hρ:G.ρ (d,site) ver=none) (hv:ver<st.nx) :
  ∃v w' G',(Instr.box t vx).run P w=.ok v w'/\R G' (.p (d,site) ver 0) v/\Vc G G' w0 st { st with bx:=Yx st.bx (d,site) (ver,x.cells) } w' d site ver:=by
 obtain ⟨us,hus,hr,_,h1⟩:=hx.cells hone
 have hst:=Vc.newBox (e:=t) hR (fun h=>(hB h).elim) (fun h=>(hB h).elim) hr h1 hρ hv (bx':=Yx st.bx (d,site) (ver,x.cells)) (As _ _ _) (fun k hk=>Tp _ _ (Ne.symm hk))
 refine ⟨_,_,_,?_,.p _ _ _ w.heap.size ?_,hst⟩
 ·simp only [Instr.box,newVar,newRow,Sem.run_bind,run_newObj,Result.andThen_ok,Sem.run_pure,hus]
  rfl
 ·show (if _=_/\_=_ then some w.heap.size else _)=some w.heap.size
  rw [if_pos ⟨rfl,rfl⟩]
theorem Xlo {x y:AV} {v:Value} (h:x.soft=some y) (hx:R G x v):Fz G.H y v:=by
 cases x with
 | sl o rows=>cases h;obtain ⟨A,cap,rfl,hF,_⟩:=hx.sl_inv;exact hF
 | i k n=>cases h;rw [hx.int_inv];exact .i _ _
 | b t=>cases h;rw [hx.bool_inv];exact .b _
 | s l=>cases h;rw [hx.str_inv];exact .s _
 | np=>cases h;rw [hx.np_inv];exact .np
 | nf=>cases h;rw [hx.nf_inv];exact .nf
 | ni=>cases h;rw [hx.ni_inv];exact .ni
 | mp=>cases h
 | p=>cases h
 | fp=>cases h
 | ag=>cases h
 | tup=>cases h
 | fn=>cases h
 | bf=>cases h
 | yl=>cases h
 | u=>cases h
theorem Tc :∀{xs ys:List AV},Vs xs=some ys->ys.length=xs.length
 | [],ys,h=>by cases h;rfl
 | v::r,ys,h=>by
  unfold Vs at h
  split at h
  ·rename_i w l hw hl;cases h;simp [Tc hl]
  ·cases h
theorem Sy :∀{xs ys:List AV},Vs xs=some ys->∀{us:List Value},Rs G xs us->∀(j:Nat) y u,ys[j]?=some y->us[j]?=some u->Fz G.H y u
 | [],ys,h,us,_,j,y,u,hy,_=>by cases h;simp at hy
 | v::r,ys,h,us,hr,j,y,u,hy,hu=>by
  unfold Vs at h
  split at h
  ·rename_i w l hw hl
   cases h
   cases us with
   | nil=>have:=hr.1;simp at this
   | cons u0 us=>
    have hr':Rs G r us:=⟨by have:=hr.1;simpa using this,fun j a u h1 h2=>hr.2 (j+1) a u (by simpa using h1) (by simpa using h2)⟩
    cases j with
    | zero=>simp at hy hu;subst hy;subst hu;exact Xlo hw (hr.2 0 v u0 rfl rfl)
    | succ j=>simp at hy hu;exact Sy hl hr' j y u hy hu
  ·cases h
theorem Ys.freezeBox (hR:Ys G w0 st w) {k:Zq} {ver g:Nat} {cs:List AV} (hk:lk st.bx k=some (ver,cs)) (hρ:G.ρ k ver=some g) {us:List Value} {e:TypeId} (hheap:w.heap[g]?=some (.cells us.toArray e (0,0))) (h1 :∀x∈us,x.oneCell'=true) :
  Ys ⟨fun g' o=>if g'=g then us[o]? else G.H g' o,G.ρ,G.ω,G.fm,G.M⟩ w0 { st with bx:=del st.bx k } w:=by
 obtain ⟨_,_,_,_,_,_,hnone⟩:=hR.bx k ver cs g hk hρ
 have hle:G.Le ⟨fun g' o=>if g'=g then us[o]? else G.H g' o,G.ρ,G.ω,G.fm,G.M⟩:=⟨fun g' o v h=>by
  show (if g'=g then us[o]? else G.H g' o)=some v
  rw [if_neg (by rintro rfl;rw [hnone o] at h;cases h)]
  exact h,fun _ _ _ h=>h,fun _ _ _ h=>h,rfl,fun _ _ h=>h⟩
 have hget :∀k' v' c',lk (del st.bx k) k'=some (v',c')->k'≠k/\lk st.bx k'=some (v',c'):=by
  intro k' v' c' h
  rw [Sn] at h
  split at h
  ·cases h
  ·rename_i hn;exact ⟨hn,h⟩
 refine ⟨hR.bel,?_,?_,?_,?_,hR.owinj,hR.fresh,fun k' v' c' g' hb h hg'=>hR.bxT k' v' c' g' hb (hget _ _ _ h).2 hg',hR.owT,hR.mp⟩
 ·intro g' o v h
  have h':(if g'=g then us[o]? else G.H g' o)=some v:=h
  split at h'
  ·rename_i hg
   subst hg
   exact ⟨by simp [World.cell?,hheap,h'],h1 v (List.mem_of_getElem? h')⟩
  ·exact hR.ext g' o v h'
 ·intro k' v' c' g' h hg'
  obtain ⟨hn,h⟩:=hget _ _ _ h
  obtain ⟨us1,e1,a1,a2,a3,a4,a5⟩:=hR.bx k' v' c' g' h hg'
  refine ⟨us1,e1,a1,a2,a3.mono hle,a4,fun o=>?_⟩
  show (if g'=g then us[o]? else G.H g' o)=none
  rw [if_neg (by rintro rfl;exact hn (hR.inj k' k v' ver c' cs g' h hk hg' hρ))]
  exact a5 o
 ·intro k1 k2 v1 v2 c1 c2 g' a1 a2 a3 a4
  exact hR.inj k1 k2 v1 v2 c1 c2 g' (hget _ _ _ a1).2 (hget _ _ _ a2).2 a3 a4
 ·intro k' v' n h
  obtain ⟨g',cap,size,h1',⟨cur,e',a1,a2,a3,a4,a5,a6⟩,h8⟩:=hR.ow k' v' n h
  refine ⟨g',cap,size,h1',⟨cur,e',a1,a2,a3,a4,a5,fun o ho=>?_⟩,fun k2 v2 c2 h2=>h8 k2 v2 c2 (hget _ _ _ h2).2⟩
  show (if g'=g then us[o]? else G.H g' o)=none
  rw [if_neg (by rintro rfl;exact h8 k ver cs hk hρ)]
  exact a6 o ho
theorem Xtl (size n:Nat) (cs:List AV) (i:Nat):(Hz size n cs)[i]?=if i<n then some ((cs.drop (i*size)).take size) else none:=by
 unfold Hz
 rw [List.getElem?_map]
 by_cases h:i<n
 ·rw [List.getElem?_range h,if_pos h];rfl
 ·rw [List.getElem?_eq_none (by simpa using h),if_neg h];rfl
theorem Yvo (hR:Ys G w0 st w) {t:TypeId} {n e:Nat} (ht:P.underlying t=some (.array n e)) {ti:TypeInfo} (hi:P.info? e=some ti) {σ:Sl} {a:Act} {x:Zu} {x':Operand} (hx:Nn G σ a x' x) {lo hi':Option Zu} {lo' hi'':Option Operand} (hlo:Mr G σ a lo' lo) (hhi:Mr G σ a hi'' hi')
  {C:Vh} {d site ver:Nat} {r:AV} {st':St} (h:Zy C d site ver σ st (.slA n ti.size x lo hi')=some (r,st')) :
  ∃v G',(Instr.sliceAt t (a.eval x') (lo'.map a.eval) (hi''.map a.eval) none).run P w=.ok v w/\R G' r v/\Vc G G' w0 st st' w d site ver:=by
 simp only [Zy] at h
 split at h
 ·rename_i k v o hxe
  split at h
  ·rename_i v' cs hlk
   split at h
   ·rename_i hc
    obtain ⟨rfl,rfl,hlen,hpos⟩:=hc
    split at h
    ·rename_i cs' hsoft
     simp only [Option.map_eq_some_iff,Prod.exists,Prod.mk.injEq] at h
     obtain ⟨l,u,hb,rfl,rfl⟩:=h
     unfold Nn at hx
     rw [hxe] at hx
     obtain ⟨g,hv,hρ⟩:=hx.p_inv
     obtain ⟨us,eb,hge,hheap,hr,hu1,hnone⟩:=hR.bx k v' cs g hlk hρ
     obtain ⟨hrun,h1,h2⟩:=Zkb (P:=P) (w:=w) hlo hhi hb (Nat.le_refl n) false
     have hl':=Tc hsoft
     have hul:us.length=cs.length:=hr.1.symm
     refine ⟨.slice (some (if n=l then ⟨g,0,none⟩ else ⟨g,l*ti.size,none⟩)) (u-l) (n-l),_,?_,?_,⟨?_,hR.freezeBox hlk hρ hheap hu1,Nat.le_refl _,fun _ _ _ _=>⟨rfl,rfl⟩,?_,?_⟩⟩
     ·rw [hv]
      simp only [Instr.sliceAt,Sem.run_bind,run_underlying ht,Result.andThen_ok,Instr.sureAddr,Sem.run_pure,hrun,sizeOf,typeInfo,run_program,hi,Addr.add_lit,Nat.zero_add]
     ·have hlen2:(((Hz ti.size n cs').drop l).take (u-l)).length=u-l:=by simp [Hz];omega
      have hrow :∀(i:Nat) row,(((Hz ti.size n cs').drop l).take (u-l))[i]?=some row->i<u-l/\row=(cs'.drop ((l+i)*ti.size)).take ti.size:=by
       intro i row hrow
       rw [List.getElem?_take] at hrow
       split at hrow
       ·rename_i hi2
        rw [List.getElem?_drop,Xtl,if_pos (by omega)] at hrow
        exact ⟨hi2,by injection hrow with hrow;exact hrow.symm⟩
       ·cases hrow
      have hcell :∀(i:Nat) row (j:Nat) b,(((Hz ti.size n cs').drop l).take (u-l))[i]?=some row->row[j]?=some b->j<ti.size/\cs'[(l+i)*ti.size+j]?=some b:=by
       intro i row j b h3 h4
       obtain ⟨h5,rfl⟩:=hrow i row h3
       rw [List.getElem?_take] at h4
       split at h4
       ·rename_i hj;rw [List.getElem?_drop] at h4;exact ⟨hj,h4⟩
       ·cases h4
      have hgo:R ⟨fun g' o=>if g'=g then us[o]? else G.H g' o,G.ρ,G.ω,G.fm,G.M⟩ (.sl .ext (((Hz ti.size n cs').drop l).take (u-l))) (.slice (some (if n=l then ⟨g,0,none⟩ else ⟨g,l*ti.size,none⟩)) (((Hz ti.size n cs').drop l).take (u-l)).length (n-l)):=by
       refine .fz _ _ (.sl _ _ _ ti.size g (l*ti.size) (fun i j=>us.getD ((l+i)*ti.size+j) undef) ?_ (by omega) ?_ ?_ ?_)
       ·intro hne
        rw [if_neg]
        rintro rfl
        apply hne
        apply List.eq_nil_of_length_eq_zero
        rw [hlen2];omega
       ·intro i row h3
        obtain ⟨h5,rfl⟩:=hrow i row h3
        have:(l+i)*ti.size+ti.size<=n*ti.size:=by
         rw [<- Nat.succ_mul];exact Nat.mul_le_mul_right _ (by omega)
        simp;omega
       ·intro i row j b h3 h4
        obtain ⟨hj,h5⟩:=hcell i row j b h3 h4
        have hlt:(l+i)*ti.size+j<us.length:=by
         rw [hul,<- hl']
         rcases Nat.lt_or_ge ((l+i)*ti.size+j) cs'.length with h | h
         ·exact h
         ·rw [List.getElem?_eq_none h] at h5;cases h5
        show (if g=g then us[l*ti.size+i*ti.size+j]? else _)=_
        rw [if_pos rfl,<- Nat.add_mul,List.getElem?_eq_getElem hlt]
        simp [List.getD,List.getElem?_eq_getElem hlt]
       ·intro i row j b h3 h4
        obtain ⟨hj,h5⟩:=hcell i row j b h3 h4
        have hlt:(l+i)*ti.size+j<us.length:=by
         rw [hul,<- hl']
         rcases Nat.lt_or_ge ((l+i)*ti.size+j) cs'.length with h | h
         ·exact h
         ·rw [List.getElem?_eq_none h] at h5;cases h5
        have h6:=Sy hsoft hr _ b us[(l+i)*ti.size+j] h5 (List.getElem?_eq_getElem hlt)
        have h7:us.getD ((l+i)*ti.size+j) undef=us[(l+i)*ti.size+j]:=by simp [List.getD,List.getElem?_eq_getElem hlt]
        show Fz _ b (us.getD ((l+i)*ti.size+j) undef)
        rw [h7]
        refine h6.mono (fun g' o v h=>?_)
        show (if g'=g then us[o]? else G.H g' o)=some v
        rw [if_neg (by rintro rfl;rw [hnone o] at h;cases h)]
        exact h
      rw [hlen2] at hgo
      exact hgo
     ·exact ⟨fun g' o v h=>by
       show (if g'=g then us[o]? else G.H g' o)=some v
       rw [if_neg (by rintro rfl;rw [hnone o] at h;cases h)]
       exact h,fun _ _ _ h=>h,fun _ _ _ h=>h,rfl,fun _ _ h=>h⟩
     ·intro k' v2 cs2 _ _ _ hn h3
      rw [show ({ st with bx:=del st.bx k }:St).bx=del st.bx k from rfl,Sn]
      rw [if_neg]
      ·exact h3
      ·rintro rfl
       rw [hlk] at h3
       cases h3
       rw [hρ] at hn
       cases hn
     ·intro g' o v h
      have h':(if g'=g then us[o]? else G.H g' o)=some v:=h
      split at h'
      ·rename_i hg;subst hg;exact .inr hge
      ·exact .inl h'
    ·cases h
   ·cases h
  ·cases h
 ·cases h
end
end Go.AM

/- Yg of the proof. -/
namespace Go.AM
open Go Go.RowKit
def Wm (us:Nat->Nat->Value) (n size:Nat):List Value:=(List.range (n*size)).map fun q=>us (q / size) (q % size)
theorem Fv (us:Nat->Nat->Value) (n size:Nat):(Wm us n size).length=n*size:=by simp [Wm]
theorem Dt (us:Nat->Nat->Value) (n size q:Nat):(Wm us n size)[q]?=if q<n*size then some (us (q / size) (q % size)) else none:=by
 unfold Wm
 rw [List.getElem?_map]
 by_cases h:q<n*size
 ·rw [List.getElem?_range h,if_pos h];rfl
 ·rw [List.getElem?_eq_none (by simpa using h),if_neg h];rfl
theorem Yoe {i j size:Nat} (hj:j<size):(i*size+j) / size=i/\(i*size+j) % size=j:=by
 have hs:0<size:=by omega
 constructor
 ·rw [Nat.mul_comm,Nat.mul_add_div hs,Nat.div_eq_of_lt hj];omega
 ·rw [Nat.mul_comm,Nat.mul_add_mod,Nat.mod_eq_of_lt hj]
theorem Am (us:Nat->Nat->Value) {n size i j:Nat} (hi:i<n) (hj:j<size):(Wm us n size)[i*size+j]?=some (us i j):=by
 rw [Dt,if_pos]
 ·obtain ⟨h1,h2⟩:=Yoe (i:=i) hj;rw [h1,h2]
 ·have:(i+1)*size<=n*size:=Nat.mul_le_mul_right _ (by omega)
  rw [Nat.succ_mul] at this;omega
theorem Fz.cells_of {H:Hp} {rows:List (List AV)} {A:Option Addr} {n cap:Nat} (h:Fz H (.sl .ext rows) (.slice A n cap)) {size:Nat} (hsz :∀row∈rows,row.length=size) :
  n=rows.length/\n<=cap/\∃(us:Nat->Nat->Value) (g off:Nat),(rows≠[]->A=some ⟨g,off,none⟩)/\(∀(q:Nat) v,(Wm us rows.length size)[q]?=some v->H g (off+q)=some v)/\
   (∀(i:Nat) row (j:Nat) a,rows[i]?=some row->row[j]?=some a->Fz H a (us i j)):=by
 cases h with
 | sl _ A cap size' g off us hA hcap hs hH hF=>
 refine ⟨rfl,hcap,us,g,off,hA,?_,hF⟩
 intro q v hq
 rw [Dt] at hq
 split at hq
 ·rename_i hlt
  cases hq
  have hpos:0<size:=by
   rcases Nat.eq_zero_or_pos size with h | h
   ·subst h;simp at hlt
   ·exact h
  have hi:q / size<rows.length:=Nat.div_lt_of_lt_mul (by rw [Nat.mul_comm];exact hlt)
  have hrow:rows[q / size]?=some rows[q / size]:=List.getElem?_eq_getElem hi
  have hl1:=hs _ _ hrow
  have hl2:=hsz _ (List.getElem_mem hi)
  have hss:size'=size:=by omega
  subst hss
  have hm:q % size'<rows[q / size'].length:=by rw [hl1];exact Nat.mod_lt _ hpos
  have:=hH _ _ (q % size') _ hrow (List.getElem?_eq_getElem hm)
  rw [<- this]
  congr 1
  have:=Nat.div_add_mod q size'
  rw [Nat.mul_comm] at this
  omega
 ·cases hq
section
variable {P:Program} {G:Gh} {w0 w:World} {st:St}
theorem Zve (hR:Ys G w0 st w) {rows:List (List AV)} {size:Nat} (hsz :∀row∈rows,row.length=size) {us:Nat->Nat->Value} (hF :∀(i:Nat) row (j:Nat) a,rows[i]?=some row->row[j]?=some a->Fz G.H a (us i j))
  (h1 :∀(i:Nat) row (j:Nat) a,rows[i]?=some row->row[j]?=some a->(us i j).oneCell'=true) {cs:Array Value} {e:TypeId} (hcs :∀(q:Nat) v,(Wm us rows.length size)[q]?=some v->cs[q]?=some v) {w1:World} (hw1:w1.heap=w.heap) (hw1b:Below w.heap.size w w1) (cap:Nat) (hcap:rows.length<=cap) {d site ver:Nat} :
  Vc G ⟨fun g o=>if g=w.heap.size then (Wm us rows.length size)[o]? else G.H g o,G.ρ,G.ω,G.fm,G.M⟩ w0 st st (w1.alloc (.cells cs e)) d site ver/\
   Fz (fun g o=>if g=w.heap.size then (Wm us rows.length size)[o]? else G.H g o) (.sl .ext rows) (.slice (some ⟨w.heap.size,0,none⟩) rows.length cap):=by
 have hsz1:w1.heap.size=w.heap.size:=by rw [hw1]
 have hle:Hj G.H (fun g o=>if g=w.heap.size then (Wm us rows.length size)[o]? else G.H g o):=fun g o v h=>by
  show (if g=w.heap.size then _ else G.H g o)=some v
  rw [if_neg (by have:=hR.Hlt h;omega)]
  exact h
 have hone :∀(q:Nat) v,(Wm us rows.length size)[q]?=some v->v.oneCell'=true:=by
  intro q v hq
  rw [Dt] at hq
  split at hq
  ·rename_i hlt
   cases hq
   have hpos:0<size:=by
    rcases Nat.eq_zero_or_pos size with h | h
    ·subst h;simp at hlt
    ·exact h
   have hi:q / size<rows.length:=Nat.div_lt_of_lt_mul (by rw [Nat.mul_comm];exact hlt)
   have hm:q % size<rows[q / size].length:=by rw [hsz _ (List.getElem_mem hi)];exact Nat.mod_lt _ hpos
   exact h1 _ _ _ _ (List.getElem?_eq_getElem hi) (List.getElem?_eq_getElem hm)
  ·cases hq
 refine ⟨Vc.grow hR (hw1b.alloc (by rw [hsz1];exact Nat.le_refl _) _) hle ?_,?_⟩
 ·intro g o v h
  have h':(if g=w.heap.size then (Wm us rows.length size)[o]? else G.H g o)=some v:=h
  split at h'
  ·rename_i hg
   subst hg
   refine .inr ⟨Nat.le_refl _,?_,hone _ _ h'⟩
   have:=heap_alloc_new w1 (.cells cs e)
   rw [hsz1] at this
   simp [World.cell?,this,hcs _ _ h']
  ·exact .inl h'
 ·refine .sl rows _ cap size w.heap.size 0 us (fun _=>rfl) hcap (fun i row h=>hsz _ (List.mem_of_getElem? h)) ?_ (fun i row j a h2 h3=>(hF i row j a h2 h3).mono hle)
  intro i row j a h2 h3
  show (if w.heap.size=w.heap.size then (Wm us rows.length size)[0+i*size+j]? else _)=_
  rw [if_pos rfl,Nat.zero_add]
  refine Am us ?_ ?_
  ·rcases Nat.lt_or_ge i rows.length with h | h
   ·exact h
   ·rw [List.getElem?_eq_none h] at h2;cases h2
  ·rw [<- hsz _ (List.mem_of_getElem? h2)]
   rcases Nat.lt_or_ge j row.length with h | h
   ·exact h
   ·rw [List.getElem?_eq_none h] at h3;cases h3
def Gh.setω (G:Gh) (H:Hp) (k:Zq) (v:Nat) (x:Nat × Nat × Nat):Gh:=⟨H,G.ρ,fun k' v'=>if k'=k/\v'=v then some x else G.ω k' v',G.fm,G.M⟩
theorem Gh.le_setω {H:Hp} (hH:Hj G.H H) {k:Zq} {v:Nat} (h:G.ω k v=none) (x:Nat × Nat × Nat):G.Le (G.setω H k v x):=
 ⟨hH,fun _ _ _ h=>h,fun k' v' g' h'=>by
  show (if k'=k/\v'=v then some x else G.ω k' v')=some g'
  rw [if_neg (by rintro ⟨rfl,rfl⟩;rw [h] at h';cases h')]
  exact h',rfl,fun _ _ h=>h⟩
theorem Ys.newOwn (hR:Ys G w0 st w) {w':World} {H':Hp} {g cap size n:Nat} {key:Zq} {ver:Nat} (hge:w0.heap.size<=g)
  (hos:w'.os=w.os) (htape:w'.tape=w.tape) (hout:w'.output=w.output) (hsize:w.heap.size<=w'.heap.size) (hblk :∀i,i<w.heap.size->i≠g->w'.heap[i]?=w.heap[i]?)
  (hbox :∀k v cs,lk st.bx k=some (v,cs)->G.ρ k v≠some g) (hle:Hj G.H H')
  (hH :∀g' o v,H' g' o=some v->(g'≠g/\G.H g' o=some v)\/(g'=g/\w'.cell? ⟨g,o,none⟩=some v/\v.oneCell'=true/\o<n*size))
  {cur:Array Value} {e:TypeId} (hT:Wa<=key.2->e=Bj G.fm) (hheap:w'.heap[g]?=some (.cells cur e (0,0))) (hcur:cur.size=cap*size) (hn:n<=cap) (hpos:0<size) (hω:G.ω key ver=none) (hv:ver<st.nx)
  {ow':List (Zq × Nat × Nat)} (hk:lk ow' key=some (ver,n)) (hne :∀k x,k≠key->lk ow' k=some x->lk st.ow k=some x)
  (hown :∀k v m g' c s,k≠key->lk ow' k=some (v,m)->G.ω k v=some (g',c,s)->g'≠g) (hmap :∀b o,w.heap[b]?=some o->obN o=true->b≠g):Ys (G.setω H' key ver (g,cap,size)) w0 { st with ow:=ow' } w':=by
 have hleG:G.Le (G.setω H' key ver (g,cap,size)):=Gh.le_setω hle hω _
 have hother :∀g' o,g'≠g->G.H g' o=none->H' g' o=none:=by
  intro g' o hg h
  cases h':H' g' o with
  | none=>rfl
  | some v=>
   rcases hH g' o v h' with ⟨_,h2⟩ | ⟨h2,_⟩
   ·rw [h] at h2;cases h2
   ·exact absurd h2 hg
 have hωe :∀k v x,(G.setω H' key ver (g,cap,size)).ω k v=some x->(k=key/\v=ver/\x=(g,cap,size))\/((k≠key\/v≠ver)/\G.ω k v=some x):=by
  intro k v x h
  have h':(if k=key/\v=ver then some (g,cap,size) else G.ω k v)=some x:=h
  split at h'
  ·rename_i hh;cases h';exact .inl ⟨hh.1,hh.2,rfl⟩
  ·rename_i hh
   refine .inr ⟨?_,h'⟩
   by_cases hk':k=key
   ·exact .inr fun hv'=>hh ⟨hk',hv'⟩
   ·exact .inl hk'
 refine ⟨?_,?_,?_,hR.inj,?_,?_,?_,?_,?_,fun b l hb=>(hR.mp b l hb).keep fun o h hc=>hblk b (Kz h) (hmap b o h hc)⟩
 rotate_left 6
 ·intro k v cs g' hb h hg'
  obtain ⟨us',h3,h3n⟩:=hR.bxT k v cs g' hb h hg'
  have hgg:g'≠g:=by rintro rfl;exact hbox k v cs h hg'
  exact ⟨us',(hblk g' (Kz h3) hgg).trans h3,h3n⟩
 ·intro k v m hb h g' c s hω'
  rcases hωe _ _ _ hω' with ⟨rfl,rfl,hx⟩ | ⟨hx,hω'⟩
  ·cases hx
   exact ⟨_,by rw [show Bj (G.setω _ _ _ _).fm=Bj G.fm from rfl,<- hT hb];exact hheap⟩
  ·have hkk:k≠key:=by
    rintro rfl
    rw [hk] at h
    cases h
    rcases hx with hx | hx<;>exact hx rfl
   obtain ⟨us',h3⟩:=hR.owT k v m hb (hne k _ hkk h) g' c s hω'
   exact ⟨us',(hblk g' (Kz h3) (hown k v m g' c s hkk h hω')).trans h3⟩
 ·refine ⟨?_,hR.bel.glob⟩
  have hb:=hR.bel.bel
  exact ⟨hos.trans hb.os,htape.trans hb.tape,hout.trans hb.output,Nat.le_trans hb.size hsize,fun i hi=>(hblk i (Nat.lt_of_lt_of_le hi hb.size) (by omega)).trans (hb.block i hi)⟩
 ·intro g' o v h
  rcases hH g' o v h with ⟨h1,h2⟩ | ⟨rfl,h2,h3,_⟩
  ·have hlt:=hR.Hlt h2
   obtain ⟨h3,h4⟩:=hR.ext g' o v h2
   exact ⟨(World.cell?_of_block (w:=w) (hblk g' hlt h1)).trans h3,h4⟩
  ·exact ⟨h2,h3⟩
 ·intro k v cs g' h hg'
  obtain ⟨us1,e1,a1,a2,a3,a4,a5⟩:=hR.bx k v cs g' h hg'
  have hgg:g'≠g:=by rintro rfl;exact hbox k v cs h hg'
  exact ⟨us1,e1,a1,(hblk g' (Kz a2) hgg).trans a2,a3.mono hleG,a4,fun o=>hother g' o hgg (a5 o)⟩
 ·intro k v m h
  by_cases hkk:k=key
  ·subst hkk
   rw [hk] at h
   cases h
   refine ⟨g,cap,size,by show (if _=_/\_=_ then some (g,cap,size) else _)=_;rw [if_pos ⟨rfl,rfl⟩],⟨cur,e,hge,hheap,hcur,hn,hpos,fun o ho=>?_⟩,hbox⟩
   cases h':H' g o with
   | none=>exact h'
   | some v'=>
    rcases hH g o v' h' with ⟨h2,_⟩ | ⟨_,_,_,h2⟩
    ·exact absurd rfl h2
    ·omega
  ·have hold:=hne k _ hkk h
   obtain ⟨g',cap',size',h1',⟨cur',e',a1,a2,a3,a4,a5,a6⟩,h8⟩:=hR.ow k v m hold
   have hgg:g'≠g:=hown k v m g' cap' size' hkk h h1'
   refine ⟨g',cap',size',hleG.ω _ _ _ h1',⟨cur',e',a1,(hblk g' (Kz a2) hgg).trans a2,a3,a4,a5,fun o ho=>hother g' o hgg (a6 o ho)⟩,h8⟩
 ·intro k k' v v' m m' g' c s c' s' h1 h2 h3 h4
  by_cases hkk:k=key
  ·by_cases hkk':k'=key
   ·rw [hkk,hkk']
   ·subst hkk
    rw [hk] at h1
    cases h1
    rcases hωe _ _ _ h3 with ⟨_,_,hx⟩ | ⟨hx,_⟩
    ·cases hx
     rcases hωe _ _ _ h4 with ⟨rfl,_⟩ | ⟨_,h4⟩
     ·rfl
     ·exact absurd rfl (hown k' v' m' _ _ _ hkk' h2 h4)
    ·rcases hx with hx | hx<;>exact absurd rfl hx
  ·by_cases hkk':k'=key
   ·subst hkk'
    rw [hk] at h2
    cases h2
    rcases hωe _ _ _ h4 with ⟨_,_,hx⟩ | ⟨hx,_⟩
    ·cases hx
     rcases hωe _ _ _ h3 with ⟨rfl,_⟩ | ⟨_,h3⟩
     ·rfl
     ·exact absurd rfl (hown k v m _ _ _ hkk h1 h3)
    ·rcases hx with hx | hx<;>exact absurd rfl hx
   ·have o1:=hne k _ hkk h1
    have o2:=hne k' _ hkk' h2
    rcases hωe _ _ _ h3 with ⟨rfl,_⟩ | ⟨_,h3⟩
    ·exact absurd rfl hkk
    ·rcases hωe _ _ _ h4 with ⟨rfl,_⟩ | ⟨_,h4⟩
     ·exact absurd rfl hkk'
     ·exact hR.owinj k k' v v' m m' g' c s c' s' o1 o2 h3 h4
 ·intro k v hkv
  have:=hR.fresh k v hkv
  refine ⟨this.1,?_⟩
  show (if k=key/\v=ver then some (g,cap,size) else G.ω k v)=none
  rw [if_neg (by rintro ⟨_,rfl⟩;have:st.nx<=v:=hkv;omega)]
  exact this.2
end
end Go.AM

/- Yg of the proof. -/
namespace Go.AM
open Go Go.RowKit
section
variable {P:Program} {G:Gh} {w0 w:World} {st:St}
theorem Zwd {t t2 ty e:TypeId} {d2:TypeDesc} {ti:TypeInfo} (ht:P.underlying t=some (.slice e)) (ht2:P.underlying t2=some d2) (hd2:d2=.string\/∃e2,d2=.slice e2) (hi:P.info? e=some ti)
  {base:Option Addr} {n cap m:Nat} {vx:Value} (hlen:(Builtin.lenOf vx).run P w=.ok m w) {news:Array Value} (hf:(Builtin.firstCells ti.size m vx).run P w=.ok news w) (hroom:n+m<=cap) :
  (Builtin.append_ #[t,t2] ty #[.slice base n cap,vx]).run P w=(match base with | some a=>(storeCells (a.add (n*ti.size)) news.toList).run P w | none=>.ok () w).andThen fun _ w'=>.ok (.slice base (n+m) cap) w':=by
 rcases hd2 with rfl | ⟨e2,rfl⟩
 ·cases base<;>simp [Builtin.append_,run_underlying ht,run_underlying ht2,sizeOf,typeInfo,hi,hlen,hroom,hf]
 ·cases base<;>simp [Builtin.append_,run_underlying ht,run_underlying ht2,sizeOf,typeInfo,hi,hlen,hroom,hf]
theorem Xip {t t2 ty e:TypeId} {d2:TypeDesc} {ti:TypeInfo} {z:Value} (ht:P.underlying t=some (.slice e)) (ht2:P.underlying t2=some d2) (hd2:d2=.string\/∃e2,d2=.slice e2) (hi:P.info? e=some ti) (hz:ti.zero=some z)
  {base:Option Addr} {n cap m:Nat} {vx:Value} (hlen:(Builtin.lenOf vx).run P w=.ok m w) {news olds:Array Value} (hf:(Builtin.firstCells ti.size m vx).run P w.drew=.ok news w.drew) (ho:(Builtin.firstCells ti.size n (.slice base n cap)).run P w.drew=.ok olds w.drew)
  (hg:cap<n+m) (h63:n+m<=9223372036854775807) (hfit:(n+m)*ti.bytes<=2 ^ 47) :
  (Builtin.append_ #[t,t2] ty #[.slice base n cap,vx]).run P w=.ok (.slice (some ⟨w.heap.size,0,none⟩) (n+m) (grownCap w (n+m) cap e))
    (w.drew.alloc (.cells (olds++news++Builtin.zeroCells z.cells (grownCap w (n+m) cap e-(n+m))) e)):=by
 have hn:¬ (n+m<=cap):=by omega
 have h63':¬ (9223372036854775807<((n:Int)+(m:Int))):=by omega
 have hcap:=nextslicecap_le hg
 have hmul:Builtin.nextslicecap (n+m) cap*ti.bytes<=2*(n+m)*ti.bytes:=Nat.mul_le_mul_right _ hcap
 have h48':¬ (281474976710656<Builtin.nextslicecap (n+m) cap*ti.bytes):=by
  rw [Nat.mul_assoc] at hmul
  omega
 rcases hd2 with rfl | ⟨e2,rfl⟩
 ·simp [Builtin.append_,run_underlying ht,run_underlying ht2,sizeOf,typeInfo,zeroValue,hi,hz,hlen,hn,h63',h48',Question.forced,hf,ho,newRow,grownCap]
 ·simp [Builtin.append_,run_underlying ht,run_underlying ht2,sizeOf,typeInfo,zeroValue,hi,hz,hlen,hn,h63',h48',Question.forced,hf,ho,newRow,grownCap]
structure Dw (P:Program) (H:Hp) (w:World) (vx:Value) (size:Nat) (news:List (List AV)) (us:Nat->Nat->Value):Prop where
 len :∀w1:World,(Builtin.lenOf vx).run P w1=.ok news.length w1
 first :∀w1:World,w1.heap=w.heap->(Builtin.firstCells size news.length vx).run P w1=.ok (Wm us news.length size).toArray w1
 fz :∀(i:Nat) row (j:Nat) a,news[i]?=some row->row[j]?=some a->Fz H a (us i j)
 one :∀(i:Nat) row (j:Nat) a,news[i]?=some row->row[j]?=some a->(us i j).oneCell'=true
theorem cell_of_heap {w w1:World} (h:w1.heap=w.heap) (a:Addr):w1.cell? a=w.cell? a:=by unfold World.cell?;rw [h]
theorem Dw.slice (hR:Ys G w0 st w) {news:List (List AV)} {A:Option Addr} {cap size:Nat} (h:Fz G.H (.sl .ext news) (.slice A news.length cap)) (hsz :∀row∈news,row.length=size) :
  ∃us,Dw P G.H w (.slice A news.length cap) size news us:=by
 obtain ⟨_,_,us,g,off,hA,hc,hF⟩:=h.cells_of hsz
 have hone :∀(i:Nat) row (j:Nat) a,news[i]?=some row->row[j]?=some a->(us i j).oneCell'=true:=by
  intro i row j a h1 h2
  have hi:i<news.length:=by
   rcases Nat.lt_or_ge i news.length with h | h
   ·exact h
   ·rw [List.getElem?_eq_none h] at h1;cases h1
  have hj:j<size:=by
   rw [<- hsz _ (List.mem_of_getElem? h1)]
   rcases Nat.lt_or_ge j row.length with h | h
   ·exact h
   ·rw [List.getElem?_eq_none h] at h2;cases h2
  exact (hR.ext _ _ _ (hc _ _ (Am us hi hj))).2
 refine ⟨us,fun w1=>by simp [Builtin.lenOf],fun w1 hw1=>?_,hF,hone⟩
 cases news with
 | nil=>
  cases A with
  | none=>simp [Builtin.firstCells,Wm]
  | some a=>simp [Builtin.firstCells,Wm,loadCells,loadCellsFrom]
 | cons r rs=>
  rw [hA (by simp)]
  have:=run_firstCells_some (P:=P) w1 size (r::rs).length ⟨g,off,none⟩ (r::rs).length cap (Wm us (r::rs).length size) (Fv _ _ _) ?_
  ·exact this
  ·intro q v hq
   rw [Addr.add_lit,cell_of_heap hw1]
   exact (hR.ext _ _ _ (hc q v hq)).1
theorem Dw.str {l:List UInt8}:Dw P G.H w (.string ⟨l.toArray⟩) 1 (l.map Yu) (fun i _=>.int .u8 ((l.getD i 0).toNat:Int)):=by
 refine ⟨fun w1=>by simp [Builtin.lenOf,ByteArray.size],fun w1 _=>?_,?_,fun _ _ _ _ _ _=>rfl⟩
 ·simp only [Builtin.firstCells,Sem.run_pure]
  congr 1
  apply Array.ext'
  apply List.ext_getElem?
  intro q
  have hs:(ByteArray.mk l.toArray).extract 0 (l.map Yu).length=ByteArray.mk l.toArray:=by
   rw [ByteArray.extract_mk];simp
  rw [hs]
  simp only []
  rw [Dt]
  simp only [List.length_map,Nat.mul_one,Nat.div_one]
  simp only [Array.toList_map,List.getElem?_map]
  split
  ·rename_i h;rw [List.getElem?_eq_getElem h];simp [List.getD,List.getElem?_eq_getElem h]
  ·rename_i h;rw [List.getElem?_eq_none (by omega)];rfl
 ·intro i row j a h1 h2
  simp only [List.getElem?_map,Option.map_eq_some_iff] at h1
  obtain ⟨c,hc,rfl⟩:=h1
  cases j with
  | zero=>
   simp only [Yu,List.getElem?_cons_zero,Option.some.injEq] at h2
   subst h2
   have:l.getD i 0=c:=by simp [List.getD,hc]
   show Fz G.H _ (.int .u8 ((l.getD i 0).toNat:Int))
   rw [this]
   exact .i _ _
  | succ j=>simp [Yu] at h2
theorem Zwh (us1 us2:Nat->Nat->Value) (n m size:Nat) (hs:0<size):Wm (fun i j=>if i<n then us1 i j else us2 (i-n) j) (n+m) size=Wm us1 n size++Wm us2 m size:=by
 apply List.ext_getElem?
 intro q
 rw [Dt,List.getElem?_append,Fv,Dt,Dt]
 have hmul:(n+m)*size=n*size+m*size:=Nat.add_mul _ _ _
 by_cases h1:q<n*size
 ·rw [if_pos (by omega),if_pos h1,if_pos h1,if_pos (Nat.div_lt_of_lt_mul (by rw [Nat.mul_comm];exact h1))]
 ·rw [if_neg h1]
  by_cases h2:q<n*size+m*size
  ·have hq:q=(q-n*size)+size*n:=by rw [Nat.mul_comm size n];omega
   have hd:q / size=(q-n*size) / size+n:=by
    have h4:q / size=((q-n*size)+size*n) / size:=congrArg (· / size) hq
    rw [h4,Nat.add_mul_div_left _ _ hs]
   have hm:q % size=(q-n*size) % size:=by
    have h4:q % size=((q-n*size)+size*n) % size:=congrArg (· % size) hq
    rw [h4,Nat.add_mul_mod_self_left]
   have e1:(if q / size<n then us1 (q / size) (q % size) else us2 (q / size-n) (q % size))=us2 ((q-n*size) / size) ((q-n*size) % size):=by
    rw [if_neg (by rw [hd];exact Nat.not_lt.2 (Nat.le_add_left _ _)),hd,hm,Nat.add_sub_cancel]
   rw [if_pos (by omega),e1,if_pos (by omega)]
  ·rw [if_neg (by omega),if_neg (by omega)]
theorem Zsw {H:Hp} {rows news:List (List AV)} {us1 us2:Nat->Nat->Value} {p:AV->Value->Prop} (h1 :∀(i:Nat) row (j:Nat) a,rows[i]?=some row->row[j]?=some a->p a (us1 i j)) (h2 :∀(i:Nat) row (j:Nat) a,news[i]?=some row->row[j]?=some a->p a (us2 i j)) (_:H=H) :
  ∀(i:Nat) row (j:Nat) a,(rows++news)[i]?=some row->row[j]?=some a->p a ((fun i j=>if i<rows.length then us1 i j else us2 (i-rows.length) j) i j):=by
 intro i row j a hi hj
 rw [List.getElem?_append] at hi
 by_cases h:i<rows.length
 ·rw [if_pos h] at hi;simp only [if_pos h];exact h1 i row j a hi hj
 ·rw [if_neg h] at hi;simp only [if_neg h];exact h2 _ row j a hi hj
end
end Go.AM
