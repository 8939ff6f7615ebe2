/- Parts of the proof: Am0, Am1, Aw0, Aw1, S0, S1, S2, Am2, Am3, Am4, Am5, Am6, Am7, Am8, Am9. -/
import Derived.WalkKit
import Derived.RegionTactic
set_option linter.all false
namespace Go.AM
open Go Go.RowKit
theorem kA:type_of% @if_neg.{1}:=@if_neg
theorem kB:type_of% @List.length_cons.{0}:=@List.length_cons
theorem kC:type_of% @if_pos.{1}:=@if_pos
theorem kD:type_of% @List.length_nil.{0}:=@List.length_nil
theorem kF:type_of% @List.length_append.{0}:=@List.length_append
theorem kG:type_of% @Nat.lt_succ_self:=@Nat.lt_succ_self
theorem kH:type_of% @List.getElem?_eq_getElem.{0}:=@List.getElem?_eq_getElem
theorem kI:type_of% @decide_eq_false:=@decide_eq_false
theorem kJ:type_of% @decide_eq_true:=@decide_eq_true
theorem kK:type_of% @Option.map_some.{0,0}:=@Option.map_some
theorem kL:type_of% @List.getElem_mem.{0}:=@List.getElem_mem
theorem kM:type_of% @List.take_succ_eq_append_getElem.{0}:=@List.take_succ_eq_append_getElem
theorem kN:type_of% @Option.map_eq_some_iff.{0,0}:=@Option.map_eq_some_iff
theorem kP:type_of% @Decidable.not_not:=@Decidable.not_not
theorem kQ:type_of% @List.take_length.{0}:=@List.take_length
theorem kR:type_of% @Bool.and_eq_true:=@Bool.and_eq_true
theorem kT:type_of% @List.getElem?_eq_none.{0}:=@List.getElem?_eq_none
theorem kU:type_of% @Nat.le_refl:=@Nat.le_refl
theorem kV:type_of% @Nat.lt_succ_of_lt:=@Nat.lt_succ_of_lt
theorem kW:type_of% @List.length_take.{0}:=@List.length_take
theorem kX:type_of% @Nat.le_trans:=@Nat.le_trans
theorem kY:type_of% @List.cons_append.{0}:=@List.cons_append
theorem kZ:type_of% @List.mem_append.{0}:=@List.mem_append
theorem jA:type_of% @decide_eq_true_eq:=@decide_eq_true_eq
theorem jB:type_of% @List.map_cons.{0,0}:=@List.map_cons
theorem jC:type_of% @congrArg.{1,1}:=@congrArg
theorem jD:type_of% @List.append_assoc.{0}:=@List.append_assoc
theorem jE:type_of% @Nat.le_of_ble_eq_true:=@Nat.le_of_ble_eq_true
theorem jF:type_of% @Nat.lt_or_ge:=@Nat.lt_or_ge
theorem jG:type_of% @Go.Result.andThen_ok:=@Go.Result.andThen_ok
theorem jH:type_of% @List.mem_cons.{0}:=@List.mem_cons
theorem jI:type_of% @List.mem_cons_self.{0}:=@List.mem_cons_self
theorem jJ:type_of% @List.mem_cons_of_mem.{0}:=@List.mem_cons_of_mem
theorem jK:type_of% @List.length_map.{0,0}:=@List.length_map
theorem jL:type_of% @Bool.false_eq_true:=@Bool.false_eq_true
theorem jM:type_of% @Array.getD_eq_getD_getElem?.{0}:=@Array.getD_eq_getD_getElem?
theorem jN:type_of% @Go.Sem.run_bind:=@Go.Sem.run_bind
theorem jO:type_of% @List.mem_singleton.{0}:=@List.mem_singleton
theorem jP:type_of% @List.mem_of_getElem?.{0}:=@List.mem_of_getElem?
theorem jQ:type_of% @List.getElem?_eq_some_iff.{0}:=@List.getElem?_eq_some_iff
theorem jR:type_of% @Bool.false_ne_true:=@Bool.false_ne_true
theorem jS:type_of% @if_true.{1}:=@if_true
theorem jT:type_of% @if_false.{1}:=@if_false
theorem jU:type_of% @List.all_eq_true.{0}:=@List.all_eq_true
theorem jV:type_of% @List.nil_append.{0}:=@List.nil_append
theorem jW:type_of% @Go.Sem.run_pure:=@Go.Sem.run_pure
theorem jX:type_of% @Option.bind_eq_some_iff.{0,0}:=@Option.bind_eq_some_iff
theorem jY:type_of% @List.getElem?_map.{0,0}:=@List.getElem?_map
theorem jZ:type_of% @Bool.true_and:=@Bool.true_and
theorem zA:type_of% @List.append_nil.{0}:=@List.append_nil
theorem zB:type_of% @Bool.true_eq_false:=@Bool.true_eq_false
theorem zC:type_of% @List.getElem?_append.{0}:=@List.getElem?_append
theorem zD:type_of% @List.getElem?_take.{0}:=@List.getElem?_take
theorem zE:type_of% @List.drop_eq_getElem_cons.{0}:=@List.drop_eq_getElem_cons
theorem zF:type_of% @List.take_of_length_le.{0}:=@List.take_of_length_le
theorem zG:type_of% @List.getD_eq_getElem?_getD.{0}:=@List.getD_eq_getElem?_getD
theorem zH:type_of% @Nat.lt_irrefl:=@Nat.lt_irrefl
theorem zI:type_of% @List.getElem?_drop.{0}:=@List.getElem?_drop
theorem zJ:type_of% @List.take_append_drop.{0}:=@List.take_append_drop
theorem zK:type_of% @Array.getElem?_eq_getElem.{0}:=@Array.getElem?_eq_getElem
theorem zL:type_of% @Bool.not_eq_true:=@Bool.not_eq_true
theorem zM:type_of% @Array.ext'.{0}:=@Array.ext'
theorem zN:type_of% @List.getElem?_cons_succ.{0}:=@List.getElem?_cons_succ
theorem zO:type_of% @Nat.zero_le:=@Nat.zero_le
theorem zP:type_of% @of_decide_eq_false:=@of_decide_eq_false
theorem zQ:type_of% @Nat.eq_of_beq_eq_true:=@Nat.eq_of_beq_eq_true
theorem zR:type_of% @of_decide_eq_true:=@of_decide_eq_true
theorem zS:type_of% @decide_eq_false_iff_not:=@decide_eq_false_iff_not
theorem zT:type_of% @Array.getElem?_eq_some_iff.{0}:=@Array.getElem?_eq_some_iff
theorem zU:type_of% @List.drop_zero.{0}:=@List.drop_zero
theorem zV:type_of% @Nat.add_zero:=@Nat.add_zero
theorem zW:type_of% @List.mem_of_mem_take.{0}:=@List.mem_of_mem_take
theorem zX:type_of% @Nat.eq_zero_or_pos:=@Nat.eq_zero_or_pos
theorem zY:type_of% @Array.getElem?_toList.{0}:=@Array.getElem?_toList
theorem zZ:type_of% @Nat.not_lt_zero:=@Nat.not_lt_zero
theorem yA:type_of% @List.map_append.{0,0}:=@List.map_append
theorem yB:type_of% @Nat.lt_of_lt_of_le:=@Nat.lt_of_lt_of_le
theorem yC:type_of% @Nat.mul_le_mul_right:=@Nat.mul_le_mul_right
theorem yD:type_of% @Option.bind_some.{0,0}:=@Option.bind_some
theorem yE:type_of% @List.getElem?_append_right.{0}:=@List.getElem?_append_right
theorem yF:type_of% @List.drop_eq_nil_of_le.{0}:=@List.drop_eq_nil_of_le
theorem yG:type_of% @List.drop_succ_cons.{0}:=@List.drop_succ_cons
theorem yH:type_of% @List.getElem?_toArray.{0}:=@List.getElem?_toArray
theorem yI:type_of% @Nat.zero_add:=@Nat.zero_add
theorem yJ:type_of% @Nat.le_max_right:=@Nat.le_max_right
theorem yK:type_of% @List.map_nil.{0,0}:=@List.map_nil
theorem yL:type_of% @Nat.mul_comm:=@Nat.mul_comm
theorem yM:type_of% @List.length_eq_zero_iff.{0}:=@List.length_eq_zero_iff
theorem yN:type_of% @Int.tdiv_eq_ediv_of_nonneg:=@Int.tdiv_eq_ediv_of_nonneg
theorem yO:type_of% @Go.IntKind.wrap_u64:=@Go.IntKind.wrap_u64
theorem yP:type_of% @List.drop_left.{0}:=@List.drop_left
theorem yQ:type_of% @List.getElem?_append_left.{0}:=@List.getElem?_append_left
theorem yR:type_of% @Go.Addr.add_lit:=@Go.Addr.add_lit
theorem yS:type_of% @List.mem_map.{0,0}:=@List.mem_map
theorem yT:type_of% @List.getElem?_cons_zero.{0}:=@List.getElem?_cons_zero
theorem yU:type_of% @List.take_succ_cons.{0}:=@List.take_succ_cons
theorem yV:type_of% @List.not_mem_nil.{0}:=@List.not_mem_nil
theorem yW:type_of% @Nat.le_of_succ_le_succ:=@Nat.le_of_succ_le_succ
theorem yX:type_of% @Nat.le_succ:=@Nat.le_succ
theorem yY:type_of% @List.head?_eq_getElem?.{0}:=@List.head?_eq_getElem?
theorem yZ:type_of% @List.head?_cons.{0}:=@List.head?_cons
theorem xA:type_of% @Nat.zero_lt_one:=@Nat.zero_lt_one
theorem xB:type_of% @List.any_eq_false.{0}:=@List.any_eq_false
theorem xC:type_of% @Bool.or_eq_false_iff:=@Bool.or_eq_false_iff
theorem xD:type_of% @Nat.div_lt_of_lt_mul:=@Nat.div_lt_of_lt_mul
theorem xE:type_of% @Bool.false_and:=@Bool.false_and
theorem xF:type_of% @Option.getD_some.{0}:=@Option.getD_some
theorem xG:type_of% @Go.IntKind.wrap_i64:=@Go.IntKind.wrap_i64
theorem xH:type_of% @List.getElem_of_mem.{0}:=@List.getElem_of_mem
theorem xI:type_of% @List.getElem?_range:=@List.getElem?_range
abbrev Zt:=Nat × Nat
inductive Zr where
 |ext
 |full
 |id (k:Zt) (ver:Nat)
inductive AV where
 |i (k:IntKind) (n:Int)
 |b (x:Bool)
 |s (l:List UInt8)
 |sl (o:Zr) (rows:List (List AV))
 |p (k:Zt) (ver off:Nat)
 |fp (cells:List AV)
 |np
 |ag (cs:List AV)
 |tup (cs:List AV)
 |fn (f:Nat) (cap:List AV)
 |nf
 |ni
 |u
 |mp (l:List (List UInt8 × Int))
 |bf (f:Nat) (cs:List AV)
 |yl (l:Nat)
instance:Inhabited AV:=⟨.u⟩
inductive Zw where
 |t (n:Nat)
 |c (v:AV)
inductive Vu where
 |mv (x:Zw)
 |pick (c a b:Zw)
 |alloc (zero:List AV)
 |box (n:Nat) (x:Zw)
 |boxf (n:Nat) (x:Zw)
 |build (zero:List AV) (parts:List (Nat × Nat × Zw))
 |bslice (zero:List AV) (n:Nat) (parts:List (Nat × Zw))
 |load (n:Nat) (agg:Bool) (a:Zw)
 |ldf (n:Nat) (agg:Bool) (a:Zw)
 |store (n:Nat) (a x:Zw)
 |nilc (x:Zw)
 |bin (op:BinOp) (x y:Zw)
 |beq (neg:Bool) (x y:Zw)
 |un (op:UnOp) (x:Zw)
 |cvi (k:IntKind) (x:Zw)
 |b2s (x:Zw)
 |mkfn (f:Nat) (cap:List Zw)
 |mkbf (f:Nat) (cs:List Zw)
 |mkfz (f:Nat) (pre:List Zw) (x:Zw) (post:List Zw)
 |mks (zero:List AV) (bytes:Nat) (l c:Zw)
 |slS (x:Zw) (lo hi:Option Zw)
 |slL (size:Nat) (x:Zw) (lo hi:Option Zw)
 |slA (n size:Nat) (x:Zw) (lo hi:Option Zw)
 |fad (off:Nat) (x:Zw)
 |fld (off n:Nat) (agg:Bool) (x:Zw)
 |iaL (size:Nat) (x i:Zw)
 |iaA (n size:Nat) (x i:Zw)
 |ixA (n size:Nat) (agg:Bool) (x i:Zw)
 |ixS (x i:Zw)
 |ext (k:Nat) (x:Zw)
 |call (ptr:Bool) (f:Nat) (args:List Zw)
 |callv (f:Zw) (args:List Zw)
 |len (str:Bool) (x:Zw)
 |app (size bytes:Nat) (s x:Zw)
 |appS (s x:Zw)
 |max (x y:Zw)
 |peq (neg:Bool) (x y:Zw)
 |cvp (n:Nat) (x:Zw)
 |aeq (neg:Bool) (ks:List Nat) (x y:Zw)
 |lkp (x i:Zw)
 |bad
structure AI where
 dst:Option Nat
 op:Vu
 guard:Option (Nat × Bool)
structure St where
 nx:Nat
 bx:List (Zt × Nat × List AV)
 ow:List (Zt × Nat × Nat)
abbrev Sl:=Nat->AV
inductive AE where
 |normal
 |exit (id:Nat)
 |ret
 |goto (l:Nat)
inductive AC where
 |hand (f:Sl->St->Option (AE × Sl × St))
 |skip
 |reg (id:Nat) (ops:List AI)
 |seq (a b:AC)
 |cond (c:Zw) (a b:AC)
 |block (id:Nat) (c:AC)
 |loop (c:AC)
 |exit (id:Nat)
 |ret
 |goto (l:Nat)
 |gscope (l:Nat) (first rest:AC)
 |frz (t:Nat)
def Uj(U:Sl)(d:Nat)(v:AV):Sl:=fun t=>if t=d then v else U t
def Vj(U:Sl)(d:Option Nat)(v:AV):Sl:=match d with|some d=>Uj U d v|none=>U
theorem Xyw(U:Sl)(d:Nat)(v:AV):Uj U d v d=v:=by simp[Uj]
theorem Xcl(U:Sl)(d t:Nat)(v:AV)(h:t≠d):Uj U d v t=U t:=by simp[Uj,h]
def Zw.ev(U:Sl):Zw->AV
 |.t n=>U n
 |.c v=>v
def lk{α:Type}(l:List (Zt × α))(k:Zt):Option α:=
 match l with
 |[]=>none
 |(k',a)::r=>if k'=k then some a else lk r k
def Xm{α:Type}(l:List (Zt × α))(k:Zt)(a:α):List (Zt × α):=
 match l with
 |[]=>[(k,a)]
 |(k',b)::r=>if k'=k then (k,a)::r else (k',b)::Xm r k a
def AV.one:AV->Bool
 |.ag _|.tup _|.u=>false
 |_=>true
def AV.cells:AV->List AV
 |.ag cs=>cs
 |v=>[v]
def Uh(agg:Bool)(cs:List AV):Option AV:=
 if agg then some (.ag cs)else match cs with|[v]=>some v|_=>none
def Gp(cs:List AV)(off:Nat):List AV->List AV
 |[]=>cs
 |v::r=>Gp (cs.set off v) (off+1) r
def Gl(op:BinOp)(k:IntKind)(x y:Int):Option AV:=
 match op with
 |.add=>some (.i k<|k.wrap<|x+y)
 |.sub=>some (.i k<|k.wrap<|x-y)
 |.mul=>some (.i k<|k.wrap<|x*y)
 |.quo=>if y=0 then none else some (.i k<|k.wrap<|x.tdiv y)
 |.rem=>if y=0 then none else some (.i k<|x.tmod y)
 |.and=>some (.i k<|k.wrap (BitVec.ofInt k.bits x &&& BitVec.ofInt k.bits y).toNat)
 |.or=>some (.i k<|k.wrap (BitVec.ofInt k.bits x ||| BitVec.ofInt k.bits y).toNat)
 |.xor=>some (.i k<|k.wrap (BitVec.ofInt k.bits x ^^^ BitVec.ofInt k.bits y).toNat)
 |.andNot=>some (.i k<|k.wrap (BitVec.ofInt k.bits x &&& ~~~(BitVec.ofInt k.bits y)).toNat)
 |.eql=>some (.b<|x==y)
 |.neq=>some (.b<|x != y)
 |.lss=>some (.b<|decide<|x<y)
 |.leq=>some (.b<|decide<|x<=y)
 |.gtr=>some (.b<|decide<|x>y)
 |.geq=>some (.b<|decide<|x>=y)
 |.shl|.shr=>none
def qF(op:BinOp)(k:IntKind)(x y:Int):Option AV:=
 if y<0 then none else
 match op with
 |.shl=>some (.i k<|k.wrap<|x*2 ^ (min y.toNat k.bits))
 |.shr=>some (.i k<|x.fdiv<|2 ^ (min y.toNat k.bits))
 |_=>none
def Yj:Nat:=2 ^ 40
def Wb(op:BinOp)(x y:AV):Option AV:=
 match x,y with
 |.i k a,.i k' b=>
  match op with
  |.shl|.shr=>qF op k a b
  |_=>if k=k' then Gl op k a b else none
 |.s a,.s b=>
  match op with
  |.add=>if a.length+b.length<=Yj then some (.s<|a++b)else none
  |.eql=>some (.b<|a==b)
  |.neq=>some (.b<|!(a==b))
  |_=>none
 |_,_=>none
def AV.nat:AV->Option Nat
 |.i _ n=>if 0<=n then some n.toNat else none
 |_=>none
def Qk(U:Sl)(len cap:Nat)(lo hi:Option Zw):Option (Nat × Nat):=
 match (match hi with|none=>some len|some h=>(h.ev U).nat)with
 |none=>none
 |some h=>
  match (match lo with|none=>some 0|some l=>(l.ev U).nat)with
  |none=>none
  |some l=>if l<=h/\h<=cap then some (l,h)else none
def AV.soft:AV->Option AV
 |.sl _ rows=>some (.sl .ext rows)
 |.i k n=>some (.i k n)
 |.b x=>some (.b x)
 |.s l=>some (.s l)
 |.np=>some .np
 |.nf=>some .nf
 |.ni=>some .ni
 |_=>none
def Ji:List AV->Option (List AV)
 |[]=>some []
 |v::r=>match v.soft,Ji r with|some w,some l=>some (w::l)|_,_=>none
def Vd(zero:List AV)(U:Sl)(rows:List (List AV)):List (Nat × Zw)->Option (List<|List AV)
 |[]=>some rows
 |(i,x)::r=>
  match Ji (x.ev U).cells with
  |some cs=>if i<rows.length/\cs.length=zero.length then Vd zero U (rows.set i cs) r else none
  |none=>none
def Ve(U:Sl)(cells:List AV):List (Nat × Nat × Zw)->Option (List AV)
 |[]=>some cells
 |(off,n,x)::r=>
  let cs:=(x.ev U).cells
  if cs.length=n/\off+n<=cells.length/\cs.all AV.one then Ve U (Gp cells off cs) r else none
def An:List AV->Option UInt8
 |[.i .u8 n]=>if 0<=n/\n<256 then some n.toNat.toUInt8 else none
 |_=>none
def Mv:List (List AV)->Option (List UInt8)
 |[]=>some []
 |r::rs=>match An r,Mv rs with|some c,some l=>some (c::l)|_,_=>none
def Yx(c:UInt8):List AV:=[.i .u8 c.toNat]
def Wo:Nat:=4096000000
def Se:Nat:=2048000000
def mu(neg:Bool)(x y:AV):Option AV:=
 match x,y with
 |.np,.np=>some (.b<|!neg)
 |.p _ _ _,.np=>some (.b neg)
 |.p k v o,.p k' v' o'=>if k=k'/\v=v'/\o=o' then some (.b<|!neg)else none
 |_,_=>none
def Ok:Nat->AV->AV->Option Bool
 |0,.i k a,.i k' b=>if k=k' then some (a==b)else none
 |1,.b a,.b b=>some (a==b)
 |2,.s a,.s b=>some (a==b)
 |_,_,_=>none
def Lv:List Nat->List AV->List AV->Option Bool
 |[],[],[]=>some true
 |c::q,a::r,b::t=>match Ok c a b,Lv q r t with|some x,some y=>some (x&&y)|_,_=>none
 |_,_,_=>none
def AH(l:List (List UInt8 × Int))(s:List UInt8):Int:=match l.find? (fun x=>x.1==s)with|some x=>x.2|none=>0
def Yp(key:Zt)(ver:Nat)(U:Sl):Vu->Option AV
 |.mv x=>some (x.ev U)
 |.pick c a b=>match c.ev U with|.b t=>some (if t then a.ev U else b.ev U)|_=>none
 |.alloc _=>some (.p key ver 0)
 |.build zero parts=>(Ve U zero parts).map .ag
 |.bslice zero n parts=>match Ji zero with
  |some z=>if 0<z.length/\n*z.length<=65536 then (Vd z U (List.replicate n z) parts).map (.sl .full)else none
  |none=>none
 |.boxf n x=>if (x.ev U).cells.length=n then (Ji (x.ev U).cells).map .fp else none
 |.nilc x=>match x.ev U with|.p k v o=>some (.p k v o)|.fp cs=>some (.fp cs)|_=>none
 |.bin op x y=>Wb op (x.ev U) (y.ev U)
 |.beq neg x y=>match x.ev U,y.ev U with|.b x,.b y=>some (.b<|if neg then !(x==y)else x==y)|_,_=>none
 |.un op x=>match op,x.ev U with|.not,.b t=>some (.b<|!t)|.neg,.i k n=>some (.i k<|k.wrap<|0-n)|_,_=>none
 |.cvi k x=>match x.ev U with|.i _ n=>some (.i k<|k.wrap n)|_=>none
 |.b2s x=>match x.ev U with|.sl _ rows=>(Mv rows).map .s|_=>none
 |.mkfn f cap=>some (.fn f<|cap.map (·.ev U))
 |.mkbf f cs=>some (.bf f<|cs.map (·.ev U))
 |.slS x lo hi=>match x.ev U with|.s l=>(Qk U l.length l.length lo hi).map fun(a,b)=>.s ((l.drop a).take<|b-a)|_=>none
 |.slL size x lo hi=>match x.ev U with|.sl _ rows=>if rows.all (·.length==size)then (Qk U rows.length rows.length lo hi).map fun(a,b)=>.sl .ext ((rows.drop a).take<|b-a)else none|_=>none
 |.fad off x=>match x.ev U with|.p k v o=>some (.p k v<|o+off)|.fp cs=>some (.fp<|cs.drop off)|_=>none
 |.fld off n agg x=>match x.ev U with|.ag cs=>if off+n<=cs.length then Uh agg ((cs.drop off).take n)else none|_=>none
 |.iaL size x i=>match x.ev U,(i.ev U).nat with|.sl _ rows,some k=>(match rows[k]? with|some row=>if row.length=size/\0<size then some (.fp row)else none|none=>none)|_,_=>none
 |.iaA n size x i=>match x.ev U,(i.ev U).nat with|.p k v o,some j=>if j<n then some (.p k v<|o+j*size)else none|_,_=>none
 |.ixA n size agg x i=>match x.ev U,(i.ev U).nat with|.ag cs,some j=>if j<n/\j*size+size<=cs.length then Uh agg ((cs.drop<|j*size).take size)else none|_,_=>none
 |.ixS x i=>match x.ev U,(i.ev U).nat with|.s l,some j=>(l[j]?).map fun c=>.i .u8 c.toNat|_,_=>none
 |.ext k x=>match x.ev U with|.tup vs=>vs[k]?|_=>none
 |.len true x=>match x.ev U with|.s l=>some (.i .i64 l.length)|_=>none
 |.len false x=>match x.ev U with|.sl _ rows=>some (.i .i64 rows.length)|_=>none
 |.max x y=>match x.ev U,y.ev U with|.i k a,.i k' b=>if k=k' then some (.i k<|if a<b then b else a)else none|_,_=>none
 |.peq neg x y=>mu neg (x.ev U) (y.ev U)
 |.aeq neg ks x y=>match x.ev U,y.ev U with|.ag cs,.ag ds=>(Lv ks cs ds).map fun b=>.b (if neg then !b else b)|_,_=>none
 |.lkp x i=>match x.ev U,i.ev U with|.mp l,.s s=>some (.i .u8<|AH l s)|_,_=>none
 |.bad=>none
 |.ldf n agg x=>match x.ev U with|.fp cs=>if n<=cs.length then Uh agg (cs.take n)else none|_=>none
 |_=>none
abbrev BS:=List UInt8
abbrev LB:=List BS
abbrev Q0:=AE->Sl->St->Prop
end Go.AM

namespace Go.AM
open Go Go.RowKit
abbrev Vw:=Nat->Nat->List AV->St->Option (AV × St)
mutual
def AV.strip:AV->Option AV
 |.sl _ rows=>some (.sl .ext rows)
 |.ag cs=>match AV.strips cs with|some l=>some (.ag l)|none=>none
 |.tup cs=>match AV.strips cs with|some l=>some (.tup l)|none=>none
 |.p _ _ _=>none
 |.fn _ _=>none
 |.bf _ _=>none
 |.yl _=>none
 |v=>some v
def AV.strips:List AV->Option (List AV)
 |[]=>some []
 |v::r=>match AV.strip v,AV.strips r with|some w,some l=>some (w::l)|_,_=>none
end
def Ml(st:St)(n:Nat)(agg:Bool):AV->Option AV
 |.fp cs=>if n<=cs.length then Uh agg (cs.take n)else none
 |.p k v o=>match lk st.bx k with
  |some (v',cs)=>if v'=v/\o+n<=cs.length then Uh agg ((cs.drop o).take n)else none
  |none=>none
 |_=>none
def AV.isF0:AV->Bool
 |.sl .full []=>true
 |_=>false
def Ra(k:Zt)(x:AV):Bool:=Nat.blt k.2 Wo||!(x.cells.any AV.isF0)
theorem mw{k:Zt}{x:AV}(h:x.cells.any AV.isF0=false):Ra k x=true:=by unfold Ra;rw[h];simp
def Cl(st:St)(n:Nat)(a x:AV):Option St:=
 match a with
 |.p k v o=>match lk st.bx k with
  |some (v',cs)=>if v'=v/\o+n<=cs.length/\x.cells.length=n/\x.cells.all AV.one/\Ra k x then some { st with bx:=Xm st.bx k (v,Gp cs o x.cells) }else none
  |none=>none
 |_=>none
def del{α:Type}(l:List (Zt × α))(k:Zt):List (Zt × α):=l.filter fun x=>x.1≠k
def Qt:Nat:=2 ^ 46
def Gv(key:Zt)(ver size bytes:Nat)(s:AV)(news:List (List AV))(st:St):Option (AV × St):=
 match s with
 |.sl o rows=>
  if (rows.length+news.length)*bytes<=Qt/\rows.length+news.length<=Qt/\0<size/\(rows.all (·.length==size))=true/\(news.all (·.length==size))=true then
   if news.isEmpty then some (.sl o rows,st)
   else match o with
    |.ext=>none
    |.full=>some (.sl (.id key ver)<|rows++news,{ st with ow:=Xm st.ow key (ver,rows.length+news.length) })
    |.id k v=>match lk st.ow k with
     |some (v',n)=>if v'=v/\n=rows.length/\0<n/\(key.2<Wo\/Wo<=k.2)then some (.sl (.id key ver)<|rows++news,{ st with ow:=Xm (del st.ow k) key (ver,rows.length+news.length) })else none
     |none=>none
  else none
 |_=>none
def qG(st:St)(n:Nat):AV->Option AV
 |.p k v 0=>match lk st.bx k with
  |some (v',cs)=>if v'=v/\Wo<=k.2/\cs.length=n then some (.p k v 0)else none
  |none=>none
 |_=>none
def Bv(size n:Nat)(cs:List AV):List (List AV):=(List.range n).map fun i=>(cs.drop<|i*size).take size
def Zp:St:=⟨0,[],[]⟩
def Yd(C:Vw)(d site ver:Nat)(U:Sl)(st:St):Vu->Option (AV × St)
 |.load n agg a=>(Ml st n agg<|a.ev U).map (·,st)
 |.store n a x=>(Cl st n (a.ev U)<|x.ev U).map (.tup [],·)
 |.box n x=>if (x.ev U).cells.length=n/\(x.ev U).cells.all AV.one then some (.p (d,site) ver 0,{ st with bx:=Xm st.bx (d,site) (ver,(x.ev U).cells) })else none
 |.mks zero bytes l c=>match (l.ev U).nat,(c.ev U).nat with
  |some n,some n'=>match Ji zero with
   |some z=>if n=n'/\n*bytes<=Qt/\n<=Qt/\0<z.length then some (.sl .full<|List.replicate n z,st)else none
   |none=>none
  |_,_=>none
 |.mkfz f pre x post=>match x.ev U with
  |.p k v 0=>match lk st.bx k with
   | some (v',cs)=>if v'=v then (match Ji cs with
    |some cs'=>some (.fn f<|pre.map (·.ev U)++.fp cs'::post.map (·.ev U),{ st with bx:=del st.bx k })
    | none=>none) else none
   |none=>none
  |_=>none
 |.slA n size x lo hi=>match x.ev U with
  |.p k v o=>match lk st.bx k with
   |some (v',cs)=>if v'=v/\o=0/\n*size=cs.length/\0<size then
     match Ji cs with
     |some cs'=>(Qk U n n lo hi).map fun(x,y)=>(.sl .ext<|((Bv size n cs').drop x).take<|y-x,{ st with bx:=del st.bx k })
     |none=>none
    else none
   |none=>none
  |_=>none
 |.app size bytes s x=>match x.ev U with
  |.sl _ news=>Gv (d,site) ver size bytes (s.ev U) news st
  |_=>none
 |.appS s x=>match x.ev U with
  |.s l=>Gv (d,site) ver 1 1 (s.ev U) (l.map Yx) st
  |_=>none
 |.call false f args=>match AV.strips (args.map (·.ev U))with
  |some vs=>match C 0 f vs Zp with
   |some (r,_)=>(r.strip).map (·,st)
   |none=>none
  |none=>none
 |.call true f args=>C (d+1) f (args.map (·.ev U)) st
 |.callv f args=>match f.ev U with
  |.fn g cap=>C (d+1) g (args.map (·.ev U)++cap) st
  |.bf g cs=>C (d+1) g (cs++args.map (·.ev U)) st
  |_=>none
 |.cvp n x=>(qG st n<|x.ev U).map (·,st)
 |op=>(Yp (d,site) ver U op).map (·,st)
def Kk(C:Vw)(d site ver:Nat)(o:AI)(U:Sl)(st:St):Option (Sl × St):=
 match o.guard with
 |none=>(Yd C d site ver U st o.op).map fun(v,aA)=>(Vj U o.dst v,aA)
 |some (t,w)=>match U t with
  |.b x=>if x=w then (Yd C d site ver U st o.op).map fun(v,aA)=>(Vj U o.dst v,aA)else some (Vj U o.dst<|.tup [],st)
  |.tup []=>some (Vj U o.dst<|.tup [],st)
  |_=>none
def Bj(C:Vw)(d id base:Nat)(ops:List AI):List Nat->Sl->St->Option (Sl × St)
 |[],U,st=>some (U,st)
 |i::r,U,st=>match ops[i]? with
  |none=>Bj C d id base ops r U st
  |some o=>match Kk C d (id*4096+i) (base+i) o U st with
   |some (σ',aA)=>Bj C d id base ops r σ' aA
   |none=>none
def Nz(C:Vw)(d id base:Nat):Nat->List AI->Sl->St->Option (Sl × St)
 |_,[],U,st=>some (U,st)
 |i,o::r,U,st=>match Kk C d (id*4096+i) (base+i) o U st with
   |some (σ',aA)=>Nz C d id base (i+1) r σ' aA
   |none=>none
def pre(d id base:Nat):Nat->List AI->List (Zt × Nat × List AV)->List (Zt × Nat × List AV)
 |_,[],bx=>bx
 |i,o::r,bx=>match o.op with
  |.alloc zero=>pre d id base (i+1) r (Xm bx (d,id*4096+i) (base+i,zero))
  |_=>pre d id base (i+1) r bx
def Ag(C:Vw)(d id:Nat)(ops:List AI)(U:Sl)(st:St):Option (Sl × St):=
 Nz C d id st.nx 0 ops U { st with nx:=st.nx+ops.length,bx:=pre d id st.nx 0 ops st.bx }
def Mm(f:Sl->St->Option (AE × Sl × St)):Nat->Sl->St->Option (AE × Sl × St)
 |0,_,_=>none
 |n+1,U,st=>match f U st with
  |some (.normal,σ',aA)=>Mm f n σ' aA
  |r=>r
def Bw(l:Nat)(f:Sl->St->Option (AE × Sl × St)):Nat->Sl->St->Option (AE × Sl × St)
 |0,_,_=>none
 |n+1,U,st=>match f U st with
  |some (.goto l',σ',aA)=>if l'=l then Bw l f n σ' aA else none
  |r=>r
def Xs(C:Vw)(n d:Nat):AC->Sl->St->Option (AE × Sl × St)
 |.hand f,U,st=>f U st
 |.skip,U,st=>some (.normal,U,st)
 |.reg id ops,U,st=>(Ag C d id ops U st).map fun(σ',aA)=>(.normal,σ',aA)
 |.seq a b,U,st=>match Xs C n d a U st with
  |some (.normal,σ',aA)=>Xs C n d b σ' aA
  |r=>r
 |.cond c a b,U,st=>match c.ev U with
  |.b true=>Xs C n d a U st
  |.b false=>Xs C n d b U st
  |_=>none
 |.block id c,U,st=>match Xs C n d c U st with
  |some (.exit gV,σ',aA)=>if gV=id then some (.normal,σ',aA)else some (.exit gV,σ',aA)
  |r=>r
 |.loop c,U,st=>Mm (Xs C n d c) n U st
 |.exit id,U,st=>some (.exit id,U,st)
 |.ret,U,st=>some (.ret,U,st)
 |.goto l,U,st=>some (.goto l,U,st)
 |.frz t,U,st=>match U t with
  |.p k v 0=>match lk st.bx k with
   | some (v',cs)=>if v'=v then (match Ji cs with
    |some cs'=>some (.normal,Uj U t<|.fp cs',{ st with bx:=del st.bx k })
    | none=>none) else none
   |none=>none
  |_=>none
 |.gscope l a b,U,st=>match Xs C n d a U st with
  |some (.normal,σ',aA)=>Bw l (Xs C n d b) n σ' aA
  |_=>none
inductive Mc where
 |tmp (t:Nat)
 |cell (t n:Nat) (agg:Bool)
structure AF where
 nt:Nat
 res:List Mc
 body:AC
 /-- the slots of boxes that are never stored to: they are told for good -/
 fz:List Nat:=[]
def Kq(U:Sl)(st:St):Mc->Option AV
 |.tmp t=>some (U t)
 |.cell t n agg=>Ml st n agg (U t)
def Wz(U:Sl)(st:St):List Mc->Option (List AV)
 |[]=>some []
 |r::rs=>match Kq U st r,Wz U st rs with|some v,some l=>some (v::l)|_,_=>none
def Xj(U:Sl)(st:St):List Mc->Option AV
 |[r]=>Kq U st r
 |rs=>(Wz U st rs).map .tup
def Wg(args:List AV):Sl:=fun t=>args.getD t (.tup [])
structure Zb where
 fn:Nat->Option AF
 orac:Nat->List AV->Option AV
 oracS:Nat->List AV->St->Option (AV × St):=fun _ _ _=>none
def Qo(PG:Zb):Nat->Vw
 |0,_,_,_,_=>none
 |n+1,d,f,args,st=>match PG.fn f with
  |none=>match PG.orac f args with|some r=>some (r,st)|none=>PG.oracS f args st
  |some F=>
   if args.length<=F.nt then
    match Xs (Qo PG n) n d F.body (Wg args) st with
    |some (.normal,U,aA)|some (.ret,U,aA)=>(Xj U aA F.res).map fun r=>(r,{ aA with bx:=aA.bx.filter fun x=>x.1.1<d })
    |_=>none
   else none
end Go.AM

namespace Go.AM
open Go
def On(C C':Vw):Prop:=∀d f a st r,C d f a st=some r->C' d f a st=some r
theorem T_{C C':Vw}(h:On C C'){d site ver:Nat}{U:Sl}{st:St}{op:Vu}{r:AV × St}(he:Yd C d site ver U st op=some r):Yd C' d site ver U st op=some r:=by
 cases op with
 |call p f args=>
  cases p with
  |false=>
   simp only[Yd]at he⊢;split at he
   ·rename_i vs hvs;split at he
    ·rename_i r' aA hr;rw[h _ _ _ _ _ hr];exact he
    ·cases he
   ·cases he
  |true=>simp only[Yd]at he⊢;exact h _ _ _ _ _ he
 |callv f args=>
  simp only[Yd]at he⊢;split at he
  ·exact h _ _ _ _ _ he
  ·exact h _ _ _ _ _ he
  ·cases he
 |_=>exact he
theorem UA{C C':Vw}(h:On C C'){d site ver:Nat}{o:AI}{U:Sl}{st:St}{r:Sl × St}(he:Kk C d site ver o U st=some r):Kk C' d site ver o U st=some r:=by
 unfold Kk at he⊢
 have key:(Yd C d site ver U st o.op).map (fun(v,aA)=>(Vj U o.dst v,aA))=some r->(Yd C' d site ver U st o.op).map (fun(v,aA)=>(Vj U o.dst v,aA))=some r:=by
  intro h1;rw[kN]at h1⊢;obtain⟨x,h2,h3⟩:=h1;exact⟨x,T_ h h2,h3⟩
 split at he
 ·exact key he
 ·split at he
  ·split at he
   ·rename_i h1 h2;simp only[h2,jS]at he⊢;exact key he
   ·rename_i h1 h2;simp only[h2,jT]at he⊢;exact he
  ·exact he
  ·cases he
theorem CO{C C':Vw}(h:On C C'){d id base:Nat}:∀{ops:List AI}{i:Nat}{U:Sl}{st:St}{r:Sl × St},Nz C d id base i ops U st=some r->Nz C' d id base i ops U st=some r
 |[],_,_,_,_,he=>he
 |o::l,i,U,st,r,he=>by
  unfold Nz at he⊢;split at he
  ·rename_i σ' aA h1;rw[UA h h1];exact CO h he
  ·cases he
theorem CP{f f':Sl->St->Option (AE × Sl × St)}(h :∀U st r,f U st=some r->f' U st=some r):∀{n n':Nat}(_:n<=n'){U:Sl}{st:St}{r:AE × Sl × St},Mm f n U st=some r->Mm f' n' U st=some r
 |0,_,_,_,_,_,he=>by cases he
 |n+1,0,hn,_,_,_,_=>absurd hn (Nat.not_succ_le_zero _)
 |n+1,n'+1,hn,U,st,r,he=>by
  unfold Mm at he⊢;split at he
  ·rename_i σ' aA h1;rw[h _ _ _ h1];exact CP h (yW hn) he
  ·rename_i aQ;rw[h _ _ _ he];split
   ·rename_i σ' aA heq;injection heq with heq;subst heq;exact absurd he (aQ _ _)
   ·rfl
theorem rl{l:Nat}{f f':Sl->St->Option (AE × Sl × St)}(h :∀U st r,f U st=some r->f' U st=some r):∀{n n':Nat}(_:n<=n'){U:Sl}{st:St}{r:AE × Sl × St},Bw l f n U st=some r->Bw l f' n' U st=some r
 |0,_,_,_,_,_,he=>by cases he
 |n+1,0,hn,_,_,_,_=>absurd hn (Nat.not_succ_le_zero _)
 |n+1,n'+1,hn,U,st,r,he=>by
  unfold Bw at he⊢;split at he
  ·rename_i l' σ' aA h1;rw[h _ _ _ h1];split at he
   ·rename_i hl;simp only[hl,jS];exact rl h (yW hn) he
   ·cases he
  ·rename_i aQ;rw[h _ _ _ he];split
   ·rename_i l' σ' aA heq;injection heq with heq;subst heq;exact absurd he (aQ _ _ _)
   ·rfl
theorem Be{C C':Vw}(h:On C C'){n n':Nat}(hn:n<=n'){d:Nat}:∀{c:AC}{U:Sl}{st:St}{r:AE × Sl × St},Xs C n d c U st=some r->Xs C' n' d c U st=some r
 |.hand _,_,_,_,he=>he
 |.skip,_,_,_,he=>he
 |.exit _,_,_,_,he=>he
 |.ret,_,_,_,he=>he
 |.goto _,_,_,_,he=>he
 |.frz _,_,_,_,he=>he
 |.reg id ops,U,st,r,he=>by
  simp only[Xs,Ag]at he⊢;rw[kN]at he⊢;obtain⟨x,h1,h2⟩:=he;exact⟨x,CO h h1,h2⟩
 |.seq a b,U,st,r,he=>by
  simp only[Xs]at he⊢;split at he
  ·rename_i σ' aA h1;rw[Be h hn h1];exact Be h hn he
  ·rename_i aQ;rw[Be h hn he];split
   ·rename_i σ' aA heq;injection heq with heq;subst heq;exact absurd he (aQ _ _)
   ·rfl
 |.cond c a b,U,st,r,he=>by
  simp only[Xs]at he⊢;split at he
  ·exact Be h hn he
  ·exact Be h hn he
  ·cases he
 |.block id c,U,st,r,he=>by
  simp only[Xs]at he⊢;split at he
  ·rename_i gV σ' aA h1;rw[Be h hn h1];exact he
  ·rename_i aQ;rw[Be h hn he];split
   ·rename_i gV σ' aA heq;injection heq with heq;subst heq;exact absurd he (aQ _ _ _)
   ·rfl
 |.loop c,U,st,r,he=>by
  simp only[Xs]at he⊢;exact CP (fun _ _ _ h1=>Be h hn h1) hn he
 |.gscope l a b,U,st,r,he=>by
  simp only[Xs]at he⊢;split at he
  ·rename_i σ' aA h1;rw[Be h hn h1];exact rl (fun _ _ _ h2=>Be h hn h2) hn he
  ·cases he
theorem As{PG:Zb}:∀{n m:Nat},n<=m->On (Qo PG n) (Qo PG m)
 |0,_,_,_,_,_,_,_,he=>by cases he
 |n+1,0,hn,_,_,_,_,_,_=>absurd hn (Nat.not_succ_le_zero _)
 |n+1,m+1,hn,d,f,a,st,r,he=>by
  have ih:=As (PG:=PG) (yW hn);unfold Qo at he⊢
  cases hf:PG.fn f with
  |none=>rw[hf]at he;exact he
  |some F=>
   rw[hf]at he;simp only at he⊢;split at he
   ·rename_i hl;rw[kC hl];split at he
    ·rename_i U aA h1;rw[Be ih (yW hn) h1];exact he
    ·rename_i U aA h1;rw[Be ih (yW hn) h1];exact he
    ·cases he
   ·cases he
def Fn(PG:Zb)(d f:Nat)(args:List AV)(st:St)(r:AV)(aA:St):Prop:=∃n,Qo PG n d f args st=some (r,aA)
def Pu(PG:Zb)(f:Nat)(args:List AV)(r:AV):Prop:=∃aA,Fn PG 0 f args Zp r aA
theorem Fn.det{PG:Zb}{d f:Nat}{args:List AV}{st:St}{r r':AV}{aP aS:St}(h:Fn PG d f args st r aP)(k:Fn PG d f args st r' aS):r=r'/\aP=aS:=by obtain⟨n,h⟩:=h;obtain⟨m,k⟩:=k;have h1:=As (PG:=PG) (Nat.le_max_left n m) _ _ _ _ _ h;have h2:=As (PG:=PG) (yJ n m) _ _ _ _ _ k;rw[h1]at h2;injection h2 with h2;injection h2 with h2 h3;exact⟨h2,h3⟩
theorem Pu.det{PG:Zb}{f:Nat}{args:List AV}{r r':AV}(h:Pu PG f args r)(k:Pu PG f args r'):r=r':=by obtain⟨_,h⟩:=h;obtain⟨_,k⟩:=k;exact(h.det k).1
def noC:Vw:=fun _ _ _ _=>none
def Qc{α:Type}(x:Option α)(K:α->Prop):Prop:=
 match x with
 |some v=>K v
 |none=>False
def WC(PG:Zb)(f:Nat)(vs:List AV)(K:AV->Prop):Prop:=∃r,Pu PG f vs r/\K r
def WF(PG:Zb)(d f:Nat)(vs:List AV)(st:St)(K:AV->St->Prop):Prop:=∃r aA,Fn PG d f vs st r aA/\K r aA
def nv(v:AV)(vs:List AV)(K:Nat->List AV->Prop):Prop:=
 match v with
 |.fn g cap=>K g (vs++cap)
 |.bf g cs=>K g (cs++vs)
 |_=>False
def Vy(U:Sl):List Zw->List AV
 |[]=>[]
 |x::r=>x.ev U::Vy U r
theorem Tr{U:Sl}:∀{l:List Zw},Vy U l=l.map (·.ev U)
 |[]=>rfl
 |x::r=>by simp[Vy,Tr]
def Xo(PG:Zb)(d site ver:Nat)(U:Sl)(st:St)(K:AV->St->Prop):Vu->Prop
 |.call false f args=>Qc (AV.strips<|Vy U args) fun vs=>WC PG f vs fun r=>Qc r.strip fun r'=>K r' st
 |.call true f args=>WF PG (d+1) f (Vy U args) st K
 |.callv f args=>nv (f.ev U) (Vy U args) fun g l=>WF PG (d+1) g l st K
 |op=>Qc (Yd noC d site ver U st op) fun r=>K r.1 r.2
theorem CQ{α:Type}{x:Option α}{K:α->Prop}:Qc x K ↔∃v,x=some v/\K v:=by
 unfold Qc;split
 ·exact⟨fun h=>⟨_,rfl,h⟩,fun⟨v,h,hk⟩=>by cases h;exact hk⟩
 ·exact⟨fun h=>h.elim,fun⟨v,h,_⟩=>by cases h⟩
theorem Xo.run{PG:Zb}{d site ver:Nat}{U:Sl}{st:St}{K:AV->St->Prop}{op:Vu}(h:Xo PG d site ver U st K op):∃n v aA,Yd (Qo PG n) d site ver U st op=some (v,aA)/\K v aA:=by
 cases op with
 |call p f args=>
  cases p with
  |false=>
   obtain⟨vs,h1,r,⟨aA,n,h2⟩,h3⟩:=CQ.1 h;obtain⟨r',h3,h4⟩:=CQ.1 h3;rw[Tr]at h1;exact⟨n,r',st,by simp only[Yd,h1,h2,h3,kK],h4⟩
  |true=>
   obtain⟨r,aA,⟨n,h1⟩,h2⟩:=h;rw[Tr]at h1;exact⟨n,r,aA,h1,h2⟩
 |callv f args=>
  have h':nv (f.ev U) (Vy U args) fun g l=>WF PG (d+1) g l st K:=h
  unfold nv at h';split at h'
  ·rename_i g cap h0;obtain⟨r,aA,⟨n,h1⟩,h2⟩:=h';rw[Tr]at h1;exact⟨n,r,aA,by simp only[Yd,h0];exact h1,h2⟩
  ·rename_i g cap h0;obtain⟨r,aA,⟨n,h1⟩,h2⟩:=h';rw[Tr]at h1;exact⟨n,r,aA,by simp only[Yd,h0];exact h1,h2⟩
  ·exact h'.elim
 |_=>
  simp only[Xo]at h;obtain⟨⟨v,aA⟩,h1,h2⟩:=CQ.1 h;exact⟨0,v,aA,T_ (C:=noC) (fun _ _ _ _ _ h=>by cases h) h1,h2⟩
theorem Xhw{PG:Zb}{f:Nat}{vs:List AV}{r:AV}(h:Pu PG f vs r)(K:AV->Prop):WC PG f vs K=K r:=
 propext ⟨fun⟨_,h1,h2⟩=>by rw[h.det h1];exact h2,fun hk=>⟨r,h,hk⟩⟩
def W1(PG:Zb)(d site ver:Nat)(o:AI)(U:Sl)(st:St)(K:Sl->St->Prop):Prop:=
 match o.guard with
 |none=>Xo PG d site ver U st (fun v aA=>K (Vj U o.dst v) aA) o.op
 |some (t,w)=>match U t with
  |.b x=>if x=w then Xo PG d site ver U st (fun v aA=>K (Vj U o.dst v) aA) o.op else K (Vj U o.dst<|.tup []) st
  |.tup []=>K (Vj U o.dst<|.tup []) st
  |_=>False
theorem W1.run{PG:Zb}{d site ver:Nat}{o:AI}{U:Sl}{st:St}{K:Sl->St->Prop}(h:W1 PG d site ver o U st K):∃n σ' aA,Kk (Qo PG n) d site ver o U st=some (σ',aA)/\K σ' aA:=by
 unfold W1 at h;unfold Kk
 cases hg:o.guard with
 |none=>
  rw[hg]at h;obtain⟨n,v,aA,h1,h2⟩:=Xo.run h;exact⟨n,_,aA,by simp only[h1,kK],h2⟩
 |some tw=>
  obtain⟨t,w⟩:=tw;rw[hg]at h;simp only at h⊢;revert h;generalize U t=z;intro h;split at h
  ·split at h
   ·rename_i hx;obtain⟨n,v,aA,h1,h2⟩:=Xo.run h;exact⟨n,_,aA,by simp only[kC hx,h1,kK],h2⟩
   ·rename_i hx;exact⟨0,_,st,by simp only[kA hx],h⟩
  ·exact⟨0,_,st,rfl,h⟩
  ·exact h.elim
def WO(PG:Zb)(d id base:Nat):Nat->List AI->Sl->St->(Sl->St->Prop)->Prop
 |_,[],U,st,K=>K U st
 |i,o::r,U,st,K=>W1 PG d (id*4096+i) (base+i) o U st fun σ' aA=>WO PG d id base (i+1) r σ' aA K
theorem WO.run{PG:Zb}{d id base:Nat}:∀{ops:List AI}{i:Nat}{U:Sl}{st:St}{K:Sl->St->Prop},WO PG d id base i ops U st K->∃n σ' aA,Nz (Qo PG n) d id base i ops U st=some (σ',aA)/\K σ' aA
 |[],i,U,st,K,h=>⟨0,U,st,rfl,h⟩
 |o::r,i,U,st,K,h=>by
  obtain⟨n,σ1,aP,h1,h2⟩:=W1.run (show W1 PG d (id*4096+i) (base+i) o U st _ from h);obtain⟨m,σ2,aS,h3,h4⟩:=WO.run h2;refine⟨max n m,σ2,aS,?_,h4⟩;simp only[Nz,UA (As<|Nat.le_max_left n m) h1,CO (As<|yJ n m) h3]
def W(PG:Zb)(d:Nat)(c:AC)(U:Sl)(st:St)(Q:Q0):Prop:=
 ∃n e σ' aA,Xs (Qo PG n) n d c U st=some (e,σ',aA)/\Q e σ' aA
section
variable{PG:Zb}{d:Nat}{U:Sl}{st:St}{Q:Q0}
theorem Du{n m:Nat}{c:AC}{r:AE × Sl × St}(h:Xs (Qo PG n) n d c U st=some r)(hm:n<=m):Xs (Qo PG m) m d c U st=some r:=
 Be (As hm) hm h
theorem W.skip(h:Q .normal U st):W PG d .skip U st Q:=⟨0,_,_,_,rfl,h⟩
theorem W.exit{id:Nat}(h:Q (.exit id) U st):W PG d (.exit id) U st Q:=⟨0,_,_,_,rfl,h⟩
theorem W.ret(h:Q .ret U st):W PG d .ret U st Q:=⟨0,_,_,_,rfl,h⟩
theorem W.goto{l:Nat}(h:Q (.goto l) U st):W PG d (.goto l) U st Q:=⟨0,_,_,_,rfl,h⟩
theorem W.frz0{t v:Nat}{k:Zt}{cs cs':List AV}(ht:U t=.p k v 0)(hk:lk st.bx k=some (v,cs))(hs:Ji cs=some cs')(h:Q .normal (Uj U t<|.fp cs') { st with bx:=del st.bx k }):W PG d (.frz t) U st Q:=
 ⟨0,_,_,_,by simp only[Xs,ht,hk,hs,jS],h⟩
theorem W.reg{id:Nat}{ops:List AI}(h:WO PG d id st.nx 0 ops U { st with nx:=st.nx+ops.length,bx:=pre d id st.nx 0 ops st.bx } fun σ' aA=>Q .normal σ' aA):W PG d (.reg id ops) U st Q:=by obtain⟨n,σ',aA,h1,h2⟩:=h.run;exact⟨n,_,σ',aA,by simp only[Xs,Ag,h1,kK],h2⟩
def Lt:List AI->Bool
 |[]=>true
 |o::r=>(match o.op with|.alloc _=>false|_=>true)&&Lt r
theorem UB{d id base:Nat}:∀{ops:List AI}{i:Nat}{bx:List (Zt × Nat × List AV)},Lt ops=true->pre d id base i ops bx=bx
 |[],_,_,_=>rfl
 |o::r,i,bx,h=>by
  simp only[Lt,kR]at h;unfold pre;split
  ·rename_i z hz;rw[hz]at h;exact absurd h.1 (by simp)
  ·exact UB h.2
theorem W.reg0{id:Nat}{ops:List AI}(hn:Lt ops=true)(h :∀nx,st.nx<=nx->WO PG d id st.nx 0 ops U ⟨nx,st.bx,st.ow⟩ fun σ' aA=>Q .normal σ' aA):W PG d (.reg id ops) U st Q:=by refine W.reg ?_;rw[UB hn];exact h _ (Nat.le_add_right _ _)
def Zk(PG:Zb)(d:Nat)(c:AC)(Q:Q0):Q0
 |.normal,U,st=>W PG d c U st Q
 |e,U,st=>Q e U st
theorem W.seq{a b:AC}(h:W PG d a U st (Zk PG d b Q)):W PG d (.seq a b) U st Q:=by
 obtain⟨n,e,σ1,aP,h1,h2⟩:=h
 cases e with
 |normal=>
  obtain⟨m,e2,σ2,aS,h3,h4⟩:=h2;exact⟨max n m,e2,σ2,aS,by simp only[Xs,Du h1<|Nat.le_max_left n m,Du h3<|yJ n m],h4⟩
 |exit id=>exact⟨n,_,σ1,aP,by simp only[Xs,h1],h2⟩
 |ret=>exact⟨n,_,σ1,aP,by simp only[Xs,h1],h2⟩
 |goto l=>exact⟨n,_,σ1,aP,by simp only[Xs,h1],h2⟩
def onB(v:AV)(K:Bool->Prop):Prop:=
 match v with
 |.b t=>K t
 |_=>False
theorem W.cond{c:Zw}{a b:AC}(h:onB (c.ev U) fun t=>(t=true->W PG d a U st Q)/\(t=false->W PG d b U st Q)):W PG d (.cond c a b) U st Q:=by
 unfold onB at h;split at h
 ·rename_i t hc
  cases t with
  |true=>
   obtain⟨n,e,σ1,aP,h1,h2⟩:=h.1 rfl;exact⟨n,e,σ1,aP,by simp only[Xs,hc,h1],h2⟩
  |false=>
   obtain⟨n,e,σ1,aP,h1,h2⟩:=h.2 rfl;exact⟨n,e,σ1,aP,by simp only[Xs,hc,h1],h2⟩
 ·exact h.elim
theorem W.split{c:Zw}{a b:AC}{p:Prop}[hd:Decidable p](hc:c.ev U=.b (decide p))(h1:p->W PG d a U st Q)(h2:¬ p->W PG d b U st Q):W PG d (.cond c a b) U st Q:=by refine W.cond ?_;rw[hc];exact⟨fun h=>h1<|zR h,fun h=>h2<|zP h⟩
theorem W.yes{c:Zw}{a b:AC}{p:Prop}[hd:Decidable p](hc:c.ev U=.b (decide p))(hp:p)(h1:W PG d a U st Q):W PG d (.cond c a b) U st Q:=
 W.split hc (fun _=>h1) fun h=>absurd hp h
theorem W.no{c:Zw}{a b:AC}{p:Prop}[hd:Decidable p](hc:c.ev U=.b (decide p))(hp:¬ p)(h1:W PG d b U st Q):W PG d (.cond c a b) U st Q:=
 W.split hc (fun h=>absurd h hp) fun _=>h1
theorem W.tt{c:Zw}{a b:AC}(hc:c.ev U=.b true)(h1:W PG d a U st Q):W PG d (.cond c a b) U st Q:=
 W.yes (p:=True) hc trivial h1
theorem W.ff{c:Zw}{a b:AC}(hc:c.ev U=.b false)(h1:W PG d b U st Q):W PG d (.cond c a b) U st Q:=
 W.no (p:=False) hc id h1
theorem W.cnd{c:Zw}{a b:AC}{t:Bool}(hc:c.ev U=.b t)(h1:t=true->W PG d a U st Q)(h2:t=false->W PG d b U st Q):W PG d (.cond c a b) U st Q:=by refine W.cond ?_;rw[hc];exact⟨h1,h2⟩
def Zs(id:Nat)(Q:Q0):Q0
 |.exit gV,U,st=>if gV=id then Q .normal U st else Q (.exit gV) U st
 |e,U,st=>Q e U st
theorem W.block{id:Nat}{c:AC}(h:W PG d c U st (Zs id Q)):W PG d (.block id c) U st Q:=by
 obtain⟨n,e,σ1,aP,h1,h2⟩:=h
 cases e with
 |exit gV=>
  simp only[Zs]at h2;split at h2
  ·rename_i hid;exact⟨n,_,σ1,aP,by simp only[Xs,h1,hid,jS],h2⟩
  ·rename_i hid;exact⟨n,_,σ1,aP,by simp only[Xs,h1,hid,jT],h2⟩
 |normal=>exact⟨n,_,σ1,aP,by simp only[Xs,h1],h2⟩
 |ret=>exact⟨n,_,σ1,aP,by simp only[Xs,h1],h2⟩
 |goto l=>exact⟨n,_,σ1,aP,by simp only[Xs,h1],h2⟩
theorem W.loop{c:AC}(h:W PG d c U st (Zk PG d (.loop c) Q)):W PG d (.loop c) U st Q:=by
 obtain⟨n,e,σ1,aP,h1,h2⟩:=h
 cases e with
 |normal=>
  obtain⟨m,e2,σ2,aS,h3,h4⟩:=h2;refine⟨max n m+1,e2,σ2,aS,?_,h4⟩;have hm:m<=max n m+1:=kX (yJ n m) (yX _);simp only[Xs]at h3⊢;rw[Mm,Du h1<|kX (Nat.le_max_left n m)<|yX _];exact CP (fun U st r h=>Du h hm) (yJ n m) h3
 |exit id=>exact⟨n+1,_,σ1,aP,by simp only[Xs];rw[Mm,Du h1<|yX _],h2⟩
 |ret=>exact⟨n+1,_,σ1,aP,by simp only[Xs];rw[Mm,Du h1<|yX _],h2⟩
 |goto l=>exact⟨n+1,_,σ1,aP,by simp only[Xs];rw[Mm,Du h1<|yX _],h2⟩
def WG(PG:Zb)(d l:Nat)(b:AC)(U:Sl)(st:St)(Q:Q0):Prop:=
 ∃n e σ' aA,Bw l (Xs (Qo PG n) n d b) n U st=some (e,σ',aA)/\Q e σ' aA
def CR(PG:Zb)(d l:Nat)(b:AC)(Q:Q0):Q0
 |.goto l',U,st=>l'=l/\WG PG d l b U st Q
 |e,U,st=>Q e U st
theorem WG.step{l:Nat}{b:AC}(h:W PG d b U st (CR PG d l b Q)):WG PG d l b U st Q:=by
 obtain⟨n,e,σ1,aP,h1,h2⟩:=h
 cases e with
 |goto l'=>
  obtain⟨rfl,m,e2,σ2,aS,h3,h4⟩:=h2;refine⟨max n m+1,e2,σ2,aS,?_,h4⟩;have hm:m<=max n m+1:=kX (yJ n m) (yX _);rw[Bw,Du h1<|kX (Nat.le_max_left n m)<|yX _];simp only[jS];exact rl (fun U st r h=>Du h hm) (yJ n m) h3
 |exit id=>exact⟨n+1,_,σ1,aP,by rw[Bw,Du h1<|yX _],h2⟩
 |ret=>exact⟨n+1,_,σ1,aP,by rw[Bw,Du h1<|yX _],h2⟩
 |normal=>exact⟨n+1,_,σ1,aP,by rw[Bw,Du h1<|yX _],h2⟩
theorem W.gscope{l:Nat}{a b:AC}(h:W PG d a U st fun e σ' aA=>match e with|.normal=>WG PG d l b σ' aA Q|_=>False):W PG d (.gscope l a b) U st Q:=by
 obtain⟨n,e,σ1,aP,h1,h2⟩:=h
 cases e with
 |normal=>
  obtain⟨m,e2,σ2,aS,h3,h4⟩:=h2;refine⟨max n m,e2,σ2,aS,?_,h4⟩;simp only[Xs,Du h1<|Nat.le_max_left n m];exact rl (fun U st r h=>Du h<|yJ n m) (yJ n m) h3
 |exit id=>exact h2.elim
 |ret=>exact h2.elim
 |goto l=>exact h2.elim
theorem W.mono{c:AC}{Q':Q0}(h:W PG d c U st Q)(hq :∀e U st,Q e U st->Q' e U st):W PG d c U st Q':=by obtain⟨n,e,σ1,aP,h1,h2⟩:=h;exact⟨n,e,σ1,aP,h1,hq _ _ _ h2⟩
def UC(d:Nat)(res:List Mc)(r:AV)(K:St->Prop):Q0
 |.normal,U,st|.ret,U,st=>Xj U st res=some r/\K { st with bx:=st.bx.filter fun x=>x.1.1<d }
 |_,_,_=>False
theorem Fn.of{f:Nat}{F:AF}{args:List AV}{r:AV}{K:St->Prop}(hf:PG.fn f=some F)(hn:args.length<=F.nt)(h:W PG d F.body (Wg args) st (UC d F.res r K)):∃aA,Fn PG d f args st r aA/\K aA:=by
 obtain⟨n,e,σ1,aP,h1,h2⟩:=h
 cases e with
 |normal=>exact⟨_,⟨n+1,by simp only[Qo,hf,kC hn,h1,h2.1,kK]⟩,h2.2⟩
 |ret=>exact⟨_,⟨n+1,by simp only[Qo,hf,kC hn,h1,h2.1,kK]⟩,h2.2⟩
 |exit id=>exact h2.elim
 |goto l=>exact h2.elim
theorem Pu.of{f:Nat}{F:AF}{args:List AV}{r:AV}(hf:PG.fn f=some F)(hn:args.length<=F.nt)(h:W PG 0 F.body (Wg args) Zp (UC 0 F.res r fun _=>True)):Pu PG f args r:=by obtain⟨aA,h1,_⟩:=Fn.of hf hn h;exact⟨aA,h1⟩
end
end Go.AM

namespace Go.AM
open Go
section
variable{α Y:Type}
theorem Vi(v:α)(K:α->Prop):Qc (some v) K=K v:=rfl
theorem CS(K:α->Prop):Qc none K=False:=rfl
theorem Pj(x:Option α)(f:α->Y)(K:Y->Prop):Qc (x.map f) K=Qc x fun v=>K (f v):=by cases x<;>rfl
theorem UD(c:Prop)[Decidable c](x:Option α)(K:α->Prop):Qc (if c then x else none) K=(c/\Qc x K):=by
  by_cases h:c<;>simp[h,CS]
end
section
variable{PG:Zb}{d id base i site ver:Nat}{U:Sl}{st:St}
def onG(PG:Zb)(d site ver:Nat)(dst:Option Nat)(op:Vu)(t:Nat)(w:Bool)(U:Sl)(st:St)(K:Sl->St->Prop)(v:AV):Prop:=
  match v with
  |.b x=>if x=w then Xo PG d site ver U st (fun v aA=>K (Vj U dst v) aA) op else K (Vj U dst<|.tup []) st
  |.tup []=>K (Vj U dst<|.tup []) st
  |_=>False
section
variable{dst:Option Nat}{op:Vu}{t:Nat}{K:Sl->St->Prop}
theorem CT{w:Bool}:W1 PG d site ver ⟨dst,op,some (t,w)⟩ U st K=onG PG d site ver dst op t w U st K (U t):=by
  unfold W1 onG
  all_goals try dsimp only
  all_goals first
    |rfl
    | (generalize U t=z
       cases z with
       |tup cs=>cases cs<;>rfl
       | _=>rfl)
theorem rn{v:AV}(h:U t=v):Uj U t v=U:=by
  funext x
  unfold Uj;split
  . rename_i hx;rw[hx,h]
  . rfl
end
theorem Xib(K:Bool->Prop):onB (.b true) K=K true:=rfl
theorem Xuy(K:Bool->Prop):onB (.b false) K=K false:=rfl
section
variable(K:AV->St->Prop)
theorem Yzx(x:Zw):Xo PG d site ver U st K (.mv x)=K (x.ev U) st:=rfl
theorem UE(c a b:Zw):Xo PG d site ver U st K (.pick c a b)=onB (c.ev U) fun t=>K (if t then a.ev U else b.ev U) st:=by
  simp only[Xo,Yd,Yp];cases c.ev U<;>rfl
theorem Xxb(op:BinOp)(x y:Zw):Xo PG d site ver U st K (.bin op x y)=Qc (Wb op (x.ev U)<|y.ev U) fun v=>K v st:=by
  simp only[Xo,Yd,Yp,Pj]
def Oc(v:AV)(K:BS->Prop):Prop:=
  match v with
  |.s l=>K l
  |_=>False
theorem Tf(l:BS)(K:BS->Prop):Oc (.s l) K=K l:=rfl
def onL(v:AV)(K:Zr->List (List AV)->Prop):Prop:=
  match v with
  |.sl o rows=>K o rows
  |_=>False
theorem Eg(o:Zr)(rows:List (List AV))(K:Zr->List (List AV)->Prop):onL (.sl o rows) K=K o rows:=rfl
def onN(v:AV)(K:Nat->Prop):Prop:=
  match v with
  |.i _ n=>0<=n/\K n.toNat
  |_=>False
theorem Xvi(k:IntKind)(n:Int)(K:Nat->Prop):onN (.i k n) K=(0<=n/\K n.toNat):=rfl
def onI(v:AV)(K:IntKind->Int->Prop):Prop:=
  match v with
  |.i k n=>K k n
  |_=>False
theorem Xe8(k:IntKind)(n:Int)(K:IntKind->Int->Prop):onI (.i k n) K=K k n:=rfl
def onT(v:AV)(K:List AV->Prop):Prop:=
  match v with
  |.tup cs=>K cs
  |_=>False
theorem Xic(cs:List AV)(K:List AV->Prop):onT (.tup cs) K=K cs:=rfl
theorem Wat(k:IntKind)(n:Int)(K:Nat->Prop)(h:0<=n):onN (.i k n) K=K n.toNat:=by simp[onN,h]
theorem Xoj(x:Zw):Xo PG d site ver U st K (.len true x)=Oc (x.ev U) fun l=>K (.i .i64 l.length) st:=by
  simp only[Xo,Yd,Yp];cases x.ev U<;>rfl
theorem Yzi(x:Zw):Xo PG d site ver U st K (.len false x)=onL (x.ev U) fun _ rows=>K (.i .i64 rows.length) st:=by
  simp only[Xo,Yd,Yp];cases x.ev U<;>rfl
theorem Xdz(x i:Zw):Xo PG d site ver U st K (.ixS x i)=Oc (x.ev U) fun l=>onN (i.ev U) fun j=>Qc l[j]? fun c=>K (.i .u8 c.toNat) st:=by
  simp only[Xo,Yd,Yp];cases x.ev U<;>try rfl
  cases i.ev U<;>try rfl
  rename_i l k n;simp only[AV.nat,Tf,Xvi];by_cases h:0<=n
  . simp[Pj,h]
  . simp[CS,h]
theorem Yy7(zero:List AV)(n:Nat)(parts:List (Nat × Zw)):Xo PG d site ver U st K (.bslice zero n parts)=Qc (Ji zero) fun z=>(0<z.length/\n*z.length<=65536)/\Qc (Vd z U (List.replicate n z) parts) fun rows=>K (.sl .full rows) st:=by
  simp only[Xo,Yd,Yp]
  cases Ji zero with
  |none=>rfl
  |some z=>simp only[Pj,UD,Vi]
theorem Xmy(k:Nat)(x:Zw):Xo PG d site ver U st K (.ext k x)=onT (x.ev U) fun vs=>Qc vs[k]? fun v=>K v st:=by
  simp only[Xo,Yd,Yp];cases x.ev U<;>simp[Pj,CS,onT]
theorem Xyy(k:IntKind)(x:Zw):Xo PG d site ver U st K (.cvi k x)=onI (x.ev U) fun _ n=>K (.i k<|k.wrap n) st:=by
  simp only[Xo,Yd,Yp];cases x.ev U<;>rfl
theorem Xzw(x:Zw):Xo PG d site ver U st K (.b2s x)=onL (x.ev U) fun _ rows=>Qc (Mv rows) fun l=>K (.s l) st:=by
  simp only[Xo,Yd,Yp];cases x.ev U<;>try rfl
  simp only[Pj,Eg]
theorem CU(x:Zw)(lo hi:Option Zw):Xo PG d site ver U st K (.slS x lo hi)=Oc (x.ev U) fun l=>Qc (Qk U l.length l.length lo hi) fun p=>K (.s<|(l.drop p.1).take<|p.2-p.1) st:=by
  simp only[Xo,Yd,Yp];cases x.ev U<;>try rfl
  simp only[Pj,Tf]
theorem Xi9(size:Nat)(x:Zw)(lo hi:Option Zw):Xo PG d site ver U st K (.slL size x lo hi)=onL (x.ev U) fun _ rows=>(rows.all (·.length==size)=true)/\Qc (Qk U rows.length rows.length lo hi) fun p=>K (.sl .ext<|(rows.drop p.1).take<|p.2-p.1) st:=by
  simp only[Xo,Yd,Yp];cases x.ev U<;>try rfl
  simp only[Pj,Eg,UD]
theorem Yww(f:Nat)(args:List Zw):Xo PG d site ver U st K (.call false f args)=Qc (AV.strips<|Vy U args) fun vs=>WC PG f vs fun r=>Qc r.strip fun r'=>K r' st:=rfl
theorem Lw(f:Nat)(args:List Zw):Xo PG d site ver U st K (.call true f args)=WF PG (d+1) f (Vy U args) st K:=rfl
theorem Xs5(size bytes:Nat)(s x:Zw):Xo PG d site ver U st K (.app size bytes s x)=onL (x.ev U) fun _ news=>Qc (Gv (d,site) ver size bytes (s.ev U) news st) fun r=>K r.1 r.2:=by
  simp only[Xo,Yd];cases x.ev U<;>rfl
theorem Xvl(s x:Zw):Xo PG d site ver U st K (.appS s x)=Oc (x.ev U) fun l=>Qc (Gv (d,site) ver 1 1 (s.ev U) (l.map Yx) st) fun r=>K r.1 r.2:=by
  simp only[Xo,Yd];cases x.ev U<;>rfl
end
end
section
variable(k:IntKind)(a b:Int)
theorem Xx0:Wb .add (.i k a) (.i k b)=some (.i k<|k.wrap<|a+b):=by simp[Wb,Gl]
theorem Xui:Wb .sub (.i k a) (.i k b)=some (.i k<|k.wrap<|a-b):=by simp[Wb,Gl]
theorem Ywy:Wb .mul (.i k a) (.i k b)=some (.i k<|k.wrap<|a*b):=by simp[Wb,Gl]
theorem Xvy:Wb .quo (.i k a) (.i k b)=if b=0 then none else some (.i k<|k.wrap<|a.tdiv b):=by simp[Wb,Gl]
theorem rp:Wb .and (.i k a) (.i k b)=some (.i k<|k.wrap (BitVec.ofInt k.bits a &&& BitVec.ofInt k.bits b).toNat):=by simp[Wb,Gl]
theorem UF:Wb .eql (.i k a) (.i k b)=some (.b<|decide<|a=b):=by simp[Wb,Gl,BEq.beq]
theorem Xaw:Wb .neq (.i k a) (.i k b)=some (.b<|decide<|a≠b):=by simp[Wb,Gl,bne,BEq.beq]
theorem Yyw:Wb .lss (.i k a) (.i k b)=some (.b<|decide<|a<b):=by simp[Wb,Gl]
theorem Xc9:Wb .leq (.i k a) (.i k b)=some (.b<|decide<|a<=b):=by simp[Wb,Gl]
theorem Xd6:Wb .gtr (.i k a) (.i k b)=some (.b<|decide<|a>b):=by simp[Wb,Gl]
theorem Xcz:Wb .geq (.i k a) (.i k b)=some (.b<|decide<|a>=b):=by simp[Wb,Gl]
theorem Xs4(k':IntKind):Wb .shr (.i k a) (.i k' b)=if b<0 then none else some (.i k<|a.fdiv<|2 ^ (min b.toNat k.bits)):=by simp[Wb,qF]
theorem Xyc(x y:BS):Wb .add (.s x) (.s y)=if x.length+y.length<=Yj then some (.s<|x++y)else none:=by simp[Wb]
theorem Xqp(x y:BS):Wb .eql (.s x) (.s y)=some (.b<|decide<|x=y):=by
  simp only[Wb]
  congr 2
  rw[Bool.eq_iff_iff];simp
theorem Yyz(x y:BS):Wb .neq (.s x) (.s y)=some (.b<|decide<|x≠y):=by
  simp only[Wb]
  congr 2
  rw[Bool.eq_iff_iff];simp
end
theorem Yq{z:Int}(h:-9223372036854775808<=z)(h':z<9223372036854775808):IntKind.i64.wrap z=z:=by
  rw[xG];omega
theorem Mh{z:Int}(h:0<=z)(h':z<18446744073709551616):IntKind.u64.wrap z=z:=by
  rw[yO];omega
theorem Rp{z:Int}(h:0<=z)(h':z<256):IntKind.u8.wrap z=z:=by
  rw[IntKind.wrap_u8];omega
def Kl(ow:List (Zt × Nat × Nat))(o:Zr)(n:Nat):Prop:=
  match o with
  |.ext=>False
  |.full=>True
  |.id k v=>lk ow k=some (v,n)/\0<n
def Qn:Zr->Option Zt
  |.id k _=>some k
  |_=>none
theorem Mt{α:Type}(l:List (Zt × α))(k:Zt)(a:α)(k':Zt):lk (Xm l k a) k'=if k=k' then some a else lk l k':=by
  induction l with
  |nil=>simp[Xm,lk]
  |cons x r ih=>
    obtain⟨k1,b⟩:=x;simp only[Xm];split
    . rename_i h;subst h;simp only[lk];split<;>rfl
    . rename_i h;simp only[lk];split
      . rename_i h2;subst h2;rw[kA<|fun e=>h e.symm]
      . rw[ih]
theorem nw{α:Type}(l:List (Zt × α))(k k':Zt):lk (del l k) k'=if k'=k then none else lk l k':=by
  induction l with
  |nil=>simp[del,lk]
  |cons x r ih=>
    obtain⟨k1,b⟩:=x;unfold del at ih⊢;simp only[List.filter_cons];by_cases h:k1=k
    . subst h;simp only[ne_eq,not_true_eq_false,decide_false,jL,jT,ih,lk];split
      . rfl
      . rename_i h;rw[kA<|fun e=>h e.symm]
    . simp only[ne_eq,h,not_false_eq_true,decide_true,jS,lk];split
      . rename_i h2;subst h2;rw[kA h]
      . exact ih
theorem Xu0{key:Zt}{ver size bytes:Nat}{o:Zr}{rows news:List (List AV)}{st:St}(hs:key.2<Wo\/∀k v,o=.id k v->Wo<=k.2)(ha:Kl st.ow o rows.length)(h1:(rows.length+news.length)*bytes<=Qt)(h2:rows.length+news.length<=Qt)(h3:0<size)(h4:(rows.all (·.length==size))=true)(h5:(news.all (·.length==size))=true)
    {K:AV->St->Prop}(hK :∀o' ow',Kl ow' o' (rows++news).length->(∀k,some k≠Qn o->k≠key->lk ow' k=lk st.ow k)->(Qn o'=Qn o\/Qn o'=some key)->K (.sl o'<|rows++news) ⟨st.nx,st.bx,ow'⟩):Qc (Gv key ver size bytes (.sl o rows) news st) fun r=>K r.1 r.2:=by
  simp only[Gv];rw[kC ⟨h1,h2,h3,h4,h5⟩];by_cases hn:news.isEmpty=true
  . rw[kC hn,Vi];have:news=[]:=by simpa using hn
    subst this;have:=hK o st.ow (by rw[zA];cases o<;>exact ha) (fun _ _ _=>rfl) (.inl rfl)
    rwa [zA]at this
  . rw[kA hn]
    have aI:0<(rows++news).length:=by
      cases news with
      |nil=>simp at hn
      |cons=>simp;omega
    cases o with
    |ext=>exact ha.elim
    |full=>
      simp only[Vi];refine hK (.id key ver) _ ⟨by rw[Mt,kC rfl,kF],aI⟩ (fun k _ hk=>by rw[Mt,kA<|fun e=>hk e.symm]) (.inr rfl)
    |id k v=>
      obtain⟨gY,iI⟩:=ha;have hs':key.2<Wo\/Wo<=k.2:=hs.imp_right fun h=>h k v rfl
      simp only[gY,true_and,iI,hs',and_self,jS,Vi];refine hK (.id key ver) _ ⟨by rw[Mt,kC rfl,kF],aI⟩ (fun k' dA cN=>?_) (.inr rfl);rw[Mt,kA<|fun e=>cN e.symm,nw,kA<|fun e=>dA (by rw[e];rfl)]
theorem Xwk{PG:Zb}{d site ver size bytes:Nat}{U:Sl}{st:St}{s x:Zw}{o o2:Zr}{rows news:List (List AV)}(hb:site<Wo)(hs:s.ev U=.sl o rows)(hx:x.ev U=.sl o2 news)(ha:Kl st.ow o rows.length)(h1:(rows.length+news.length)*bytes<=Qt)(h2:rows.length+news.length<=Qt)(h3:0<size)(h4:(rows.all (·.length==size))=true)(h5:(news.all (·.length==size))=true)
    {K:AV->St->Prop}(hK :∀o' ow',Kl ow' o' (rows++news).length->(∀k,some k≠Qn o->k≠(d,site)->lk ow' k=lk st.ow k)->(Qn o'=Qn o\/Qn o'=some (d,site))->K (.sl o'<|rows++news) ⟨st.nx,st.bx,ow'⟩):Xo PG d site ver U st K (.app size bytes s x):=by
  rw[Xs5,hx,Eg,hs];exact Xu0 (.inl hb) ha h1 h2 h3 h4 h5 hK
def bs(l:BS):List (List AV):=l.map Yx
theorem UG:∀(l:BS),Mv (bs l)=some l
  |[]=>rfl
  |c::l=>by
    have ih:=UG l;unfold bs at ih⊢;have hc:(c.toNat:Int)<256:=by have:=c.toNat_lt;omega
    have cM:(0:Int)<=c.toNat:=by omega
    simp only[jB,Mv,An,Yx,ih,hc,cM,and_self,jS];simp
section
variable{PG:Zb}{d id base i site ver:Nat}{st:St}
end
end Go.AM

namespace Go.AM
open Go
def up(U:Sl)(d:Nat)(v:AV):Sl:=fun t=>cond (Nat.beq t d) v (U t)
theorem Am(U:Sl)(d:Nat)(v:AV):Uj U d v=up U d v:=by
 funext t
 unfold Uj up;by_cases h:t=d
 ·rw[kC h,h,Nat.beq_refl];rfl
 ·rw[kA h]
  have:Nat.beq t d=false:=by
   cases hb:Nat.beq t d with
   |false=>rfl
   |true=>exact absurd (zQ hb) h
  rw[this];rfl
def Yb(U:Sl)(d:Option Nat)(v:AV):Sl:=match d with|some d=>up U d v|none=>U
theorem QC(U:Sl)(d:Option Nat)(v:AV):Vj U d v=Yb U d v:=by cases d<;>simp[Vj,Yb,Am]
def Ze(PG:Zb)(f:Nat)(args:List AV)(r:AV):Prop:=∃r',Pu PG f args r'/\r'.strip=some r
theorem Ze.det{PG:Zb}{f:Nat}{args:List AV}{r r':AV}(h:Ze PG f args r)(k:Ze PG f args r'):r=r':=by obtain⟨a,h1,h2⟩:=h;obtain⟨b,h3,h4⟩:=k;rw[h1.det h3,h4]at h2;injection h2 with h2;exact h2.symm
def rep{α:Type}(n:Nat)(a:α):List α:=List.replicate n a
attribute [irreducible] rep
def Ju(n bytes:Nat):Prop:=n*bytes<=Qt/\n<=Qt
def PuA(PG:Zb)(f:Nat)(rows:List (List AV))(args:List AV)(aG:List (List AV)):Prop:=
 ∀d st o,Kl st.ow o rows.length->∃o' aA,Fn PG d f (.sl o rows::args) st (.sl o' aG) aA/\Kl aA.ow o' aG.length
section
variable{PG:Zb}{d id base i:Nat}{U:Sl}{st:St}{K:Sl->St->Prop}{r:List AI}{t:Option Nat}{x y:Zw}
theorem Hs(h:K U st):WO PG d id base i [] U st K:=h
theorem Gi{op:Vu}(h:Xo PG d (id*4096+i) (base+i) U st (fun v aA=>WO PG d id base (i+1) r (Yb U t v) aA K) op):WO PG d id base i (⟨t,op,none⟩::r) U st K:=by show Xo PG d (id*4096+i) (base+i) U st (fun v aA=>WO PG d id base (i+1) r (Vj U t v) aA K) op;simp only[QC];exact h
theorem Je{op:Vu}{v:AV}(hv :∀K:AV->St->Prop,Xo PG d (id*4096+i) (base+i) U st K op=K v st)(h:WO PG d id base (i+1) r (Yb U t v) st K):WO PG d id base i (⟨t,op,none⟩::r) U st K:=by refine Gi ?_;rw[hv];exact h
theorem Jb{v:AV}(hx:x.ev U=v)(h:WO PG d id base (i+1) r (Yb U t v) st K):WO PG d id base i (⟨t,.mv x,none⟩::r) U st K:=
 Je (fun K=>by rw[Yzx,hx]) h
theorem To{op:BinOp}{a b v:AV}(hx:x.ev U=a)(hy:y.ev U=b)(hv:Wb op a b=some v)(h:WO PG d id base (i+1) r (Yb U t v) st K):WO PG d id base i (⟨t,.bin op x y,none⟩::r) U st K:=
 Je (fun K=>by rw[Xxb,hx,hy,hv,Vi]) h
theorem QD{a b:Bool}(hx:x.ev U=.b a)(hy:y.ev U=.b b)(h:WO PG d id base (i+1) r (Yb U t<|.b<|decide<|a≠b) st K):WO PG d id base i (⟨t,.beq true x y,none⟩::r) U st K:=
 Je (fun K=>by
  simp only[Xo,Yd,Yp,hx,hy,kK,Vi];cases a<;>cases b<;>rfl) h
theorem PV{a:Bool}(hx:x.ev U=.b a)(h:WO PG d id base (i+1) r (Yb U t<|.b<|!a) st K):WO PG d id base i (⟨t,.un .not x,none⟩::r) U st K:=
 Je (fun K=>by simp only[Xo,Yd,Yp,hx,kK,Vi]) h
theorem ZF{p:Prop}[Decidable p](hx:x.ev U=.b (decide p))(h:WO PG d id base (i+1) r (Yb U t<|.b<|decide<|¬p) st K):WO PG d id base i (⟨t,.un .not x,none⟩::r) U st K:=
 PV hx (by rw[<- decide_not];exact h)
theorem Xkj{k:IntKind}{n:Int}(hx:x.ev U=.i k n)(h:WO PG d id base (i+1) r (Yb U t<|.i k<|k.wrap<|0-n) st K):WO PG d id base i (⟨t,.un .neg x,none⟩::r) U st K:=
 Je (fun K=>by simp only[Xo,Yd,Yp,hx,kK,Vi]) h
theorem CY{l:BS}(hx:x.ev U=.s l)(h:WO PG d id base (i+1) r (Yb U t<|.i .i64 (l.length:Int)) st K):WO PG d id base i (⟨t,.len true x,none⟩::r) U st K:=
 Je (fun K=>by rw[Xoj,hx,Tf]) h
theorem MD{α:Type}{f:α->List AV}{l:List α}{o:Zr}(hx:x.ev U=.sl o (l.map f))(h:WO PG d id base (i+1) r (Yb U t<|.i .i64 (l.length:Int)) st K):WO PG d id base i (⟨t,.len false x,none⟩::r) U st K:=
 Je (fun K=>by rw[Yzi,hx,Eg,jK]) h
theorem Qj{l:BS}{k:IntKind}{n:Int}{c:UInt8}(hx:x.ev U=.s l)(hy:y.ev U=.i k n)(h0:0<=n)(hc:l[n.toNat]?=some c)(h:WO PG d id base (i+1) r (Yb U t<|.i .u8 (c.toNat:Int)) st K):WO PG d id base i (⟨t,.ixS x y,none⟩::r) U st K:=
 Je (fun K=>by rw[Xdz,hx,Tf,hy,Wat _ _ _ h0,hc,Vi]) h
theorem Ls{k k':IntKind}{n:Int}(hx:x.ev U=.i k' n)(h:WO PG d id base (i+1) r (Yb U t<|.i k<|k.wrap n) st K):WO PG d id base i (⟨t,.cvi k x,none⟩::r) U st K:=
 Je (fun K=>by rw[Xyy,hx,Xe8]) h
theorem Em{l:BS}{o:Zr}(hx:x.ev U=.sl o (l.map Yx))(h:WO PG d id base (i+1) r (Yb U t<|.s l) st K):WO PG d id base i (⟨t,.b2s x,none⟩::r) U st K:=
 Je (fun K=>by
  have:=UG l;unfold bs at this;rw [Xzw,hx,Eg,this,Vi]) h
theorem ZH{k:Nat}{vs:List AV}{v:AV}(hx:x.ev U=.tup vs)(hv:vs[k]?=some v)(h:WO PG d id base (i+1) r (Yb U t v) st K):WO PG d id base i (⟨t,.ext k x,none⟩::r) U st K:=
 Je (fun K=>by rw[Xmy,hx,Xic,hv,Vi]) h
theorem Xgc{k:IntKind}{a b:Int}(hx:x.ev U=.i k a)(hy:y.ev U=.i k b)(h:WO PG d id base (i+1) r (Yb U t<|.i k<|if a<b then b else a) st K):WO PG d id base i (⟨t,.max x y,none⟩::r) U st K:=
 Je (fun K=>by simp only[Xo,Yd,Yp,hx,hy,jS,kK,Vi]) h
theorem Jo{z:Zw}{l:BS}{k:IntKind}{n:Int}(hx:x.ev U=.s l)(hz:z.ev U=.i k n)(h0:0<=n)(h1:n.toNat<=l.length)(h:WO PG d id base (i+1) r (Yb U t<|.s<|l.drop n.toNat) st K):WO PG d id base i (⟨t,.slS x (some z) none,none⟩::r) U st K:=
 Je (fun K=>by
  rw[CU,hx,Tf]
  have hb:Qk U l.length l.length (some z) none=some (n.toNat,l.length):=by
   simp only[Qk,hz,AV.nat,h0,jS];rw[kC ⟨h1,kU _⟩]
  rw[hb,Vi];simp only;rw [zF<|by simp]) h
theorem Bc{z:Zw}{l:BS}{k:IntKind}{n:Int}(hx:x.ev U=.s l)(hz:z.ev U=.i k n)(h0:0<=n)(h1:n.toNat<=l.length)(h:WO PG d id base (i+1) r (Yb U t<|.s<|l.take n.toNat) st K):WO PG d id base i (⟨t,.slS x none<|some z,none⟩::r) U st K:=
 Je (fun K=>by
  rw[CU,hx,Tf]
  have hb:Qk U l.length l.length none (some z)=some (0,n.toNat):=by
   simp only[Qk,hz,AV.nat,h0,jS];rw[kC ⟨zO _,h1⟩]
  rw[hb,Vi];simp only [zU,Nat.sub_zero]) h
theorem Fc{z z':Zw}{l:BS}{k k':IntKind}{n m:Int}(hx:x.ev U=.s l)(hz:z.ev U=.i k n)(PX:z'.ev U=.i k' m)(h0:0<=n)(h1:n<=m)(h2:m.toNat<=l.length)(h:WO PG d id base (i+1) r (Yb U t<|.s<|(l.drop n.toNat).take<|m.toNat-n.toNat) st K):WO PG d id base i (⟨t,.slS x (some z)<|some z',none⟩::r) U st K:=
 Je (fun K=>by
  rw[CU,hx,Tf]
  have hb:Qk U l.length l.length (some z) (some z')=some (n.toNat,m.toNat):=by
   simp only[Qk,hz,PX,AV.nat,h0,show(0:Int)<=m by omega,jS];rw[kC ⟨by omega,h2⟩]
  rw [hb,Vi]) h
theorem X0{α:Type}{f:α->List AV}{l:List α}{o:Zr}{size:Nat}{z:Zw}{k:IntKind}{n:Int}(hf :∀a,(f a).length=size)(hx:x.ev U=.sl o (l.map f))(hz:z.ev U=.i k n)(h0:0<=n)(h1:n.toNat<=l.length)(h:WO PG d id base (i+1) r (Yb U t<|.sl .ext<|(l.drop n.toNat).map f) st K):WO PG d id base i (⟨t,.slL size x (some z) none,none⟩::r) U st K:=
 Je (fun K=>by
  rw[Xi9,hx,Eg]
  have hb:Qk U (l.map f).length (l.map f).length (some z) none=some (n.toNat,(l.map f).length):=by
   simp only[Qk,hz,AV.nat,h0,jS];rw[kC ⟨by simpa using h1,kU _⟩]
  have bW:((l.map f).all fun c=>c.length==size)=true:=by simp[hf]
  rw[hb,Vi];simp only[bW,true_and];rw [zF<|by simp,List.map_drop]) h
theorem Xue{off n:Nat}{agg:Bool}{cs:List AV}{v:AV}(hx:x.ev U=.ag cs)(hn:Nat.ble (off+n) cs.length=true)(hv:Uh agg ((cs.drop off).take n)=some v)(h:WO PG d id base (i+1) r (Yb U t v) st K):WO PG d id base i (⟨t,.fld off n agg x,none⟩::r) U st K:=
 Je (fun K=>by simp only[Xo,Yd,Yp,hx,jE hn,jS,hv,kK,Vi]) h
theorem Xb{zero:List AV}{parts:List (Nat × Nat × Zw)}{cs:List AV}(hp:Ve U zero parts=some cs)(h:WO PG d id base (i+1) r (Yb U t<|.ag cs) st K):WO PG d id base i (⟨t,.build zero parts,none⟩::r) U st K:=
 Je (fun K=>by simp only[Xo,Yd,Yp,hp,kK,Vi]) h
theorem Yu{cs:List AV}:Ve U cs []=some cs:=rfl
theorem Yr{cells cs:List AV}{off n:Nat}{v:AV}{ps:List (Nat × Nat × Zw)}(hx:x.ev U=v)(hc:(Nat.beq v.cells.length n&&Nat.ble (off+n) cells.length&&v.cells.all AV.one)=true)(h:Ve U (Gp cells off v.cells) ps=some cs):Ve U cells ((off,n,x)::ps)=some cs:=by simp only[kR]at hc;simp only[Ve,hx];rw[kC ⟨zQ hc.1.1,jE hc.1.2,hc.2⟩];exact h
theorem Cy{α:Type}{f:α->AV}{l:List α}{n:Nat}{k:IntKind}{m:Int}{c:α}(hn:l.length=n)(hx:x.ev U=.ag (l.map f))(hy:y.ev U=.i k m)(h0:0<=m)(hc:l[m.toNat]?=some c)(h:WO PG d id base (i+1) r (Yb U t<|f c) st K):WO PG d id base i (⟨t,.ixA n 1 false x y,none⟩::r) U st K:=
 Je (fun K=>by
  have hl:m.toNat<l.length:=by
   rcases jF m.toNat l.length with h|h
   ·exact h
   ·rw[kT h]at hc;cases hc
  have hd:((l.map f).drop m.toNat).take 1=[f c]:=by
   rw[zE<|by simpa using hl];simp only[List.getElem_map,yU,List.take_zero];rw[kH hl]at hc;injection hc with hc;rw[hc]
  simp only[Xo,Yd,Yp,hx,hy,AV.nat,h0,jS,Nat.mul_one];rw[kC ⟨by omega,by simp;omega⟩,hd];simp only [Uh,jL,jT,kK,Vi]) h
theorem pX{zero z:List AV}{n:Nat}{parts:List (Nat × Zw)}{rows:List (List AV)}(hz:Ji zero=some z)(hn:(Nat.blt 0 z.length&&Nat.ble (n*z.length) 65536)=true)(hp:Vd z U (List.replicate n z) parts=some rows)(h:WO PG d id base (i+1) r (Yb U t<|.sl .full rows) st K):WO PG d id base i (⟨t,.bslice zero n parts,none⟩::r) U st K:=
 Je (fun K=>by
  simp only[kR]at hn;have h1:0<z.length:=jE hn.1;rw[Yy7,hz,Vi,hp,Vi];simp only [h1,jE hn.2,and_self,true_and]) h
theorem Wi{z:List AV}{rows:List (List AV)}:Vd z U rows []=some rows:=rfl
theorem Yl{z:List AV}{rows aG:List (List AV)}{j:Nat}{v:AV}{cs:List AV}{ps:List (Nat × Zw)}(hx:x.ev U=v)(hc:Ji v.cells=some cs)(hn:(Nat.blt j rows.length&&Nat.beq cs.length z.length)=true)(h:Vd z U (rows.set j cs) ps=some aG):Vd z U rows ((j,x)::ps)=some aG:=by simp only[kR]at hn;have h1:j<rows.length:=jE hn.1;simp only[Vd,hx,hc];rw[kC ⟨h1,zQ hn.2⟩];exact h
theorem PW{α:Type}{f:α->List AV}{l:List α}{o:Zr}{size:Nat}{k:IntKind}{n:Int}{c:α}{cs:List AV}(hx:x.ev U=.sl o (l.map f))(hy:y.ev U=.i k n)(h0:0<=n)(hc:l[n.toNat]?=some c)(hf:f c=cs)(hs:(Nat.beq cs.length size&&Nat.blt 0 size)=true)(h:WO PG d id base (i+1) r (Yb U t<|.fp cs) st K):WO PG d id base i (⟨t,.iaL size x y,none⟩::r) U st K:=
 Je (fun K=>by
  simp only[kR]at hs;have h1:0<size:=jE hs.2;have h2:(l.map f)[n.toNat]?=some cs:=by rw[jY,hc,kK,hf]
  simp only[Xo,Yd,Yp,hx,hy,AV.nat,h0,jS,h2];rw [kC ⟨zQ hs.1,h1⟩,kK,Vi]) h
theorem ZJ{n:Nat}{agg:Bool}{cs:List AV}{v:AV}(hx:x.ev U=.fp cs)(hn:Nat.ble n cs.length=true)(hv:Uh agg (cs.take n)=some v)(h:WO PG d id base (i+1) r (Yb U t v) st K):WO PG d id base i (⟨t,.load n agg x,none⟩::r) U st K:=
 Je (fun K=>by simp only[Xo,Yd,Ml,hx,jE hn,jS,hv,kK,Vi]) h
theorem Sa{n:Nat}{agg:Bool}{cs:List AV}{v:AV}(hx:x.ev U=.fp cs)(hn:Nat.ble n cs.length=true)(hv:Uh agg (cs.take n)=some v)(h:WO PG d id base (i+1) r (Yb U t v) st K):WO PG d id base i (⟨t,.ldf n agg x,none⟩::r) U st K:=
 Je (fun K=>by simp only[Xo,Yd,Yp,hx,jE hn,jS,hv,kK,Vi]) h
theorem ZI{off:Nat}{cs:List AV}(hx:x.ev U=.fp cs)(h:WO PG d id base (i+1) r (Yb U t<|.fp<|cs.drop off) st K):WO PG d id base i (⟨t,.fad off x,none⟩::r) U st K:=
 Je (fun K=>by simp only[Xo,Yd,Yp,hx,kK,Vi]) h
theorem Xho{cs:List AV}(hx:x.ev U=.fp cs)(h:WO PG d id base (i+1) r (Yb U t<|.fp cs) st K):WO PG d id base i (⟨t,.nilc x,none⟩::r) U st K:=
 Je (fun K=>by simp only[Xo,Yd,Yp,hx,kK,Vi]) h
theorem Xl{zero:List AV}(h:WO PG d id base (i+1) r (Yb U t<|.p (d,id*4096+i) (base+i) 0) st K):WO PG d id base i (⟨t,.alloc zero,none⟩::r) U st K:=
 Je (fun _=>rfl) h
theorem Rg{off o v:Nat}{k:Zt}(hx:x.ev U=.p k v o)(h:WO PG d id base (i+1) r (Yb U t<|.p k v<|o+off) st K):WO PG d id base i (⟨t,.fad off x,none⟩::r) U st K:=
 Je (fun K=>by simp only[Xo,Yd,Yp,hx,kK,Vi]) h
theorem Vc{o v:Nat}{k:Zt}(hx:x.ev U=.p k v o)(h:WO PG d id base (i+1) r (Yb U t<|.p k v o) st K):WO PG d id base i (⟨t,.nilc x,none⟩::r) U st K:=
 Je (fun K=>by simp only[Xo,Yd,Yp,hx,kK,Vi]) h
theorem Pw{n o v:Nat}{agg:Bool}{k:Zt}{cs:List AV}{w:AV}(hx:x.ev U=.p k v o)(hb:lk st.bx k=some (v,cs))(hn:Nat.ble (o+n) cs.length=true)(hv:Uh agg ((cs.drop o).take n)=some w)(h:WO PG d id base (i+1) r (Yb U t w) st K):WO PG d id base i (⟨t,.load n agg x,none⟩::r) U st K:=
 Je (fun K=>by simp only[Xo,Yd,Ml,hx,hb,jE hn,and_self,jS,hv,kK,Vi]) h
theorem ny{n o v:Nat}{k:Zt}{cs cs':List AV}{w:AV}(hx:x.ev U=.p k v o)(hb:lk st.bx k=some (v,cs))(hy:y.ev U=w)(hn:(Nat.ble (o+n) cs.length&&Nat.beq w.cells.length n&&w.cells.all AV.one)=true)(hs:Gp cs o w.cells=cs')(h:WO PG d id base (i+1) r (Yb U t<|.tup []) { st with bx:=Xm st.bx k (v,cs') } K)(aV:Ra k w=true:=by first|rfl|exact mw rfl):WO PG d id base i (⟨t,.store n x y,none⟩::r) U st K:=by refine Gi ?_;simp only[kR]at hn;simp only[Xo,Yd,Cl,hx,hb,hy];rw[kC ⟨trivial,jE hn.1.1,zQ hn.1.2,hn.2,aV⟩,hs];simp only[kK,Vi];exact h
theorem Xyl{f v:Nat}{k:Zt}{cs cs' A B:List AV}{a b:List Zw}(ha:a.map (·.ev U)=A)(hx:x.ev U=.p k v 0)(hb:b.map (·.ev U)=B)(hk:lk st.bx k=some (v,cs))(hs:Ji cs=some cs')(h:WO PG d id base (i+1) r (Yb U t<|.fn f<|A++.fp cs'::B) { st with bx:=del st.bx k } K):WO PG d id base i (⟨t,.mkfz f a x b,none⟩::r) U st K:=by refine Gi ?_;simp only[Xo,Yd,hx,hk,hs,ha,hb,jS,Vi];exact h
theorem ZK{n:Nat}{v:AV}{cs:List AV}(hx:x.ev U=v)(hn:Nat.beq v.cells.length n=true)(hs:Ji v.cells=some cs)(h:WO PG d id base (i+1) r (Yb U t<|.fp cs) st K):WO PG d id base i (⟨t,.boxf n x,none⟩::r) U st K:=
 Je (fun K=>by simp only[Xo,Yd,Yp,hx,zQ hn,jS,hs,kK,Vi]) h
theorem Jw{n:Nat}{v:AV}(hx:x.ev U=v)(hn:(Nat.beq v.cells.length n&&v.cells.all AV.one)=true)(h:WO PG d id base (i+1) r (Yb U t<|.p (d,id*4096+i) (base+i) 0) { st with bx:=Xm st.bx (d,id*4096+i) (base+i,v.cells) } K):WO PG d id base i (⟨t,.box n x,none⟩::r) U st K:=by refine Gi ?_;simp only[kR]at hn;simp only[Xo,Yd,hx];rw[kC ⟨zQ hn.1,hn.2⟩,Vi];exact h
theorem Xba{n size o v:Nat}{k:Zt}{k':IntKind}{m:Int}(hx:x.ev U=.p k v o)(hy:y.ev U=.i k' m)(h0:0<=m)(h1:m.toNat<n)(h:WO PG d id base (i+1) r (Yb U t<|.p k v<|o+m.toNat*size) st K):WO PG d id base i (⟨t,.iaA n size x y,none⟩::r) U st K:=
 Je (fun K=>by
  simp only [Xo,Yd,Yp,hx,hy,AV.nat,h0,jS,h1,kK,Vi]) h
theorem Jq{α:Type}{f:α->List AV}{size bytes:Nat}{l m:List α}{o o2:Zr}(hf :∀a,(f a).length=size)(aM:Nat.blt 0 size=true)(hx:x.ev U=.sl o (l.map f))(hy:y.ev U=.sl o2 (m.map f))(ha:Kl st.ow o l.length)(hs:Ju (l.length+m.length) bytes)(hb:Nat.blt (id*4096+i) Wo=true)
  (h :∀o' ow',Kl ow' o' (l++m).length->(∀k,some k≠Qn o->k≠(d,id*4096+i)->lk ow' k=lk st.ow k)->(Qn o'=Qn o\/Qn o'=some (d,id*4096+i))->WO PG d id base (i+1) r (Yb U t<|.sl o'<|(l++m).map f) ⟨st.nx,st.bx,ow'⟩ K):WO PG d id base i (⟨t,.app size bytes x y,none⟩::r) U st K:=by
 refine Gi ?_;have h1:0<size:=jE aM;refine Xwk (jE hb) hx hy (by simpa using ha) (by simpa using hs.1) (by simpa using hs.2) h1 (by simp[hf]) (by simp[hf]) fun o' ow' h2 h3 h4=>?_
 rw[<- yA]at h2⊢;exact h o' ow' (by simpa using h2) h3 h4
theorem sn:AV.strips (Vy U [])=some []:=rfl
theorem sc{v w:AV}{xs:List Zw}{ws:List AV}(hx:x.ev U=v)(hw:v.strip=some w)(h:AV.strips (Vy U xs)=some ws):AV.strips (Vy U<|x::xs)=some (w::ws):=by simp only[Vy,AV.strips,hx,hw,h]
theorem ZL{f:Nat}{args:List Zw}{vs:List AV}{v:AV}(hs:AV.strips (Vy U args)=some vs)(hp:Ze PG f vs v)(h:WO PG d id base (i+1) r (Yb U t v) st K):WO PG d id base i (⟨t,.call false f args,none⟩::r) U st K:=by refine Gi ?_;obtain⟨r',h1,h2⟩:=hp;rw[Yww,hs,Vi,Xhw h1,h2,Vi];exact h
theorem Yw:Vy U []=[]:=rfl
theorem Ye{v:AV}{xs:List Zw}{vs:List AV}(hx:x.ev U=v)(h:Vy U xs=vs):Vy U (x::xs)=v::vs:=by simp only[Vy,hx,h]
theorem Xop{f:Nat}{args:List Zw}{vs:List AV}{o:Zr}{rows aG:List (List AV)}(hs:Vy U args=.sl o rows::vs)(hp:PuA PG f rows vs aG)(ha:Kl st.ow o rows.length)
  (h :∀o' aA,Kl aA.ow o' aG.length->WO PG d id base (i+1) r (Yb U t<|.sl o' aG) aA K):WO PG d id base i (⟨t,.call true f args,none⟩::r) U st K:=by refine Gi ?_;obtain⟨o',aA,h1,h2⟩:=hp (d+1) st o ha;rw[Lw,hs];exact⟨_,_,h1,h o' aA h2⟩
section
variable{dst:Option Nat}{op:Vu}{g:Nat}{w:Bool}
theorem ZE(hg:U g=.b w)(h:WO PG d id base i (⟨dst,op,none⟩::r) U st K):WO PG d id base i (⟨dst,op,some (g,w)⟩::r) U st K:=by show W1 PG d _ _ ⟨dst,op,some (g,w)⟩ U st _;rw[CT,hg];cases w<;>exact h
theorem wg{b:Bool}(hg:U g=.b b)(hb:(b != w)=true)(h:WO PG d id base (i+1) r (Yb U dst<|.tup []) st K):WO PG d id base i (⟨dst,op,some (g,w)⟩::r) U st K:=by show W1 PG d _ _ ⟨dst,op,some (g,w)⟩ U st _;rw[<- QC]at h;rw[CT,hg];cases w<;>cases b<;>first|exact absurd hb (by decide)|exact h
theorem Y9(hg:U g=.tup [])(h:WO PG d id base (i+1) r (Yb U dst<|.tup []) st K):WO PG d id base i (⟨dst,op,some (g,w)⟩::r) U st K:=by show W1 PG d _ _ ⟨dst,op,some (g,w)⟩ U st _;rw[<- QC]at h;rw[CT,hg];exact h
end
theorem PT{ops:List AI}{g:Nat}{p:Prop}[Decidable p](hg:U g=.b (decide p))(h1:p->WO PG d id base i ops (up U g<|.b true) st K)(h2:¬p->WO PG d id base i ops (up U g<|.b false) st K):WO PG d id base i ops U st K:=by
 by_cases h:p
 ·have:=h1 h
  rwa [<- Am,rn<|by rw[hg,kJ h]]at this
 ·have:=h2 h
  rwa [<- Am,rn<|by rw[hg,kI h]]at this
theorem PU{ops:List AI}{g:Nat}{b:Bool}(hg:U g=.b b)(h1:b=true->WO PG d id base i ops (up U g<|.b true) st K)(h2:b=false->WO PG d id base i ops (up U g<|.b false) st K):WO PG d id base i ops U st K:=by
 cases b with
 |true=>have:=h1 rfl;rwa [<- Am,rn hg]at this
 |false=>have:=h2 rfl;rwa [<- Am,rn hg]at this
theorem Y_{a b:Zw}{v:AV}(hx:x.ev U=.b true)(ha:a.ev U=v)(h:WO PG d id base (i+1) r (Yb U t v) st K):WO PG d id base i (⟨t,.pick x a b,none⟩::r) U st K:=
 Je (fun K=>by rw[UE,hx,Xib,ha];rfl) h
theorem ZA{a b:Zw}{v:AV}(hx:x.ev U=.b false)(hb:b.ev U=v)(h:WO PG d id base (i+1) r (Yb U t v) st K):WO PG d id base i (⟨t,.pick x a b,none⟩::r) U st K:=
 Je (fun K=>by rw[UE,hx,Xuy,hb];rfl) h
end
section
variable{PG:Zb}{d:Nat}{U:Sl}{st:St}{Q:Q0}
theorem ZO{c:Zw}{a b:AC}{p:Prop}[Decidable p](hc:c.ev U=.b (decide p))(h1:p->W PG d a U st Q)(h2:¬p->W PG d b U st Q):W PG d (.cond c a b) U st Q:=W.split hc h1 h2
theorem ZP{c:Zw}{a b:AC}{t:Bool}(hc:c.ev U=.b t)(h1:t=true->W PG d a U st Q)(h2:t=false->W PG d b U st Q):W PG d (.cond c a b) U st Q:=W.cnd hc h1 h2
theorem ZQ{c:Zw}{a b:AC}(hc:c.ev U=.b true)(h1:W PG d a U st Q):W PG d (.cond c a b) U st Q:=W.tt hc h1
theorem ZR{c:Zw}{a b:AC}(hc:c.ev U=.b false)(h1:W PG d b U st Q):W PG d (.cond c a b) U st Q:=W.ff hc h1
theorem W.frz{t v:Nat}{k:Zt}{cs cs':List AV}(ht:U t=.p k v 0)(hk:lk st.bx k=some (v,cs))(hs:Ji cs=some cs')(h:Q .normal (up U t<|.fp cs') { st with bx:=del st.bx k }):W PG d (.frz t) U st Q:=W.frz0 ht hk hs (by rw[Am];exact h)
def Ca(d:Nat)(res:List Mc)(K:AV->St->Prop):Q0
 |.normal,U,st|.ret,U,st=>∃r,Xj U st res=some r/\K r { st with bx:=st.bx.filter fun x=>x.1.1<d }
 |_,_,_=>False
theorem Fn.of'{f:Nat}{F:AF}{args:List AV}{K:AV->St->Prop}(hf:PG.fn f=some F)(hn:args.length<=F.nt)(h:W PG d F.body (Wg args) st (Ca d F.res K)):∃r aA,Fn PG d f args st r aA/\K r aA:=by
 obtain⟨n,e,σ1,aP,h1,h2⟩:=h
 cases e with
 |normal=>
  obtain⟨r,h3,h4⟩:=h2;exact⟨r,_,⟨n+1,by simp only[Qo,hf,kC hn,h1,h3,kK]⟩,h4⟩
 |ret=>
  obtain⟨r,h3,h4⟩:=h2;exact⟨r,_,⟨n+1,by simp only[Qo,hf,kC hn,h1,h3,kK]⟩,h4⟩
 |exit id=>exact h2.elim
 |goto l=>exact h2.elim
theorem Ze.of{f:Nat}{F:AF}{args:List AV}{K:AV->Prop}(hf:PG.fn f=some F)(hn:Nat.ble args.length F.nt=true)(h:W PG 0 F.body (Wg args) Zp (Ca 0 F.res fun r _=>∃v,r.strip=some v/\K v)):∃v,Ze PG f args v/\K v:=by obtain⟨r,aA,h1,v,h2,h3⟩:=Fn.of' hf (jE hn) h;exact⟨v,⟨r,⟨aA,h1⟩,h2⟩,h3⟩
theorem Ze.orac{f:Nat}{args:List AV}{r v:AV}(hf:PG.fn f=none)(hr:PG.orac f args=some r)(hv:r.strip=some v):Ze PG f args v:=
 ⟨r,⟨Zp,1,by simp only[Qo,hf,hr,kK]⟩,hv⟩
end
theorem Cs{k:IntKind}{a b:Int}(h:b≠0):Wb .quo (.i k a) (.i k b)=some (.i k<|k.wrap<|a.tdiv b):=by rw[Xvy,kA h]
theorem Cg{k:IntKind}{a b:Int}(h:b≠0):Wb .rem (.i k a) (.i k b)=some (.i k<|a.tmod b):=by simp[Wb,Gl,h]
theorem PY{k k':IntKind}{a b:Int}(h:0<=b):Wb .shr (.i k a) (.i k' b)=some (.i k<|a.fdiv<|2 ^ (min b.toNat k.bits)):=by rw[Xs4,kA<|by omega]
theorem Xxo(k:IntKind)(a b:Int):Wb .or (.i k a) (.i k b)=some (.i k<|k.wrap (BitVec.ofInt k.bits a ||| BitVec.ofInt k.bits b).toNat):=by simp[Wb,Gl]
theorem Xom(k:IntKind)(a b:Int):Wb .andNot (.i k a) (.i k b)=some (.i k<|k.wrap (BitVec.ofInt k.bits a &&& ~~~(BitVec.ofInt k.bits b)).toNat):=by simp[Wb,Gl]
theorem Xp{x y:BS}(h:x.length+y.length<=Yj):Wb .add (.s x) (.s y)=some (.s<|x++y):=by rw[Xyc,kC h]
def Zv(x:BS):List AV:=[.s x]
def Wbi(k:IntKind)(x:Int):List AV:=[.i k x]
def c8(x:UInt8):AV:=.i .u8 (x.toNat:Int)
theorem Sr(x:UInt8):(Yx x).length=1:=rfl
theorem Bs(x:BS):(Zv x).length=1:=rfl
theorem Kl.full{ow:List (Zt × Nat × Nat)}{n:Nat}:Kl ow .full n:=trivial
theorem Zj{α:Type}{l:List (Zt × α)}{k:Zt}{a:α}:lk (Xm l k a) k=some a:=by rw[Mt,kC rfl]
theorem Zm{α:Type}{l:List (Zt × α)}{d s s':Nat}{a:α}{b:Option α}(h:Nat.beq s s'=false)(hb:lk l (d,s')=b):lk (Xm l (d,s) a) (d,s')=b:=by rw[Mt,kA ?_,hb];intro e;injection e with _ e;rw[e,Nat.beq_refl]at h;cases h
theorem Xda{α:Type}(f:α->AV)(l:List α)(n:Nat)(a:α):Gp (l.map f) n [f a]=(l.set n a).map f:=by simp only[Gp,List.map_set]
theorem Z9:∀l:BS,Ji (l.map c8)=some (l.map c8)
 |[]=>rfl
 |c::l=>by simp only[jB,Ji,Z9 l,c8,AV.soft]
theorem Xu7(l:BS):Bv 1 l.length (l.map c8)=l.map Yx:=by
 unfold Bv;apply List.ext_getElem
 ·simp
 ·intro j h1 h2;simp at h1;simp only[List.getElem_map,List.getElem_range,Nat.mul_one];rw[zE<|by simpa using h1];simp[c8,Yx]
section
variable{PG:Zb}{d id base i:Nat}{U:Sl}{st:St}{K:Sl->St->Prop}{r:List AI}{t:Option Nat}{x y:Zw}
theorem Wa7{z:Zw}{l:BS}{k:Zt}{k':IntKind}{n v:Nat}{m:Int}(hx:x.ev U=.p k v 0)(hb:lk st.bx k=some (v,l.map c8))(hn:l.length=n)(me:Nat.blt 0 n=true)(hz:z.ev U=.i k' m)(h0:0<=m)(h1:m.toNat<=n)(h:WO PG d id base (i+1) r (Yb U t<|.sl .ext<|(l.drop m.toNat).map Yx) { st with bx:=del st.bx k } K):WO PG d id base i (⟨t,.slA n 1 x (some z) none,none⟩::r) U st K:=by
 refine Gi ?_
 have QE:Qk U n n (some z) none=some (m.toNat,n):=by
  simp only[Qk,hz,AV.nat,h0,jS];rw[kC ⟨h1,kU _⟩]
 simp only[Xo,Yd,hx,hb];rw[kC ⟨trivial,trivial,by simp[hn],Nat.one_pos⟩];subst hn;simp only[Z9,QE,kK,Vi,Xu7];rw[zF<|by simp,<- List.map_drop];exact h
theorem Xnx{α:Type}{f:α->AV}{l:List α}{a:α}{v o:Nat}{k:Zt}(hf :∀a,(f a).cells=[f a]/\(f a).one=true)(hx:x.ev U=.p k v o)(hb:lk st.bx k=some (v,l.map f))(hy:y.ev U=f a)(hn:o<l.length)(h:WO PG d id base (i+1) r (Yb U t<|.tup []) { st with bx:=Xm st.bx k (v,(l.set o a).map f) } K)(aV:Ra k (f a)=true:=by first|rfl|exact mw rfl):WO PG d id base i (⟨t,.store 1 x y,none⟩::r) U st K:=by refine Gi ?_;simp only[Xo,Yd,Cl,hx,hb,hy,(hf a).1];rw[kC ⟨trivial,by simp;omega,rfl,by simp[(hf a).2],aV⟩,Xda];simp only[kK,Vi];exact h
end
theorem Waw(a:UInt8):(c8 a).cells=[c8 a]/\(c8 a).one=true:=⟨rfl,rfl⟩
section
variable{PG:Zb}{d id base i:Nat}{U:Sl}{st:St}{K:Sl->St->Prop}{r:List AI}{t:Option Nat}{x y:Zw}
theorem Wc{k:IntKind}{n:Int}(hx:x.ev U=.i k n)(h:WO PG d id base (i+1) r (Yb U t<|.i k n) st K):WO PG d id base i (⟨t,.mv x,none⟩::r) U st K:=Jb hx h
theorem Yt{b:Bool}(hx:x.ev U=.b b)(h:WO PG d id base (i+1) r (Yb U t<|.b b) st K):WO PG d id base i (⟨t,.mv x,none⟩::r) U st K:=Jb hx h
theorem Ki{l:BS}(hx:x.ev U=.s l)(h:WO PG d id base (i+1) r (Yb U t<|.s l) st K):WO PG d id base i (⟨t,.mv x,none⟩::r) U st K:=Jb hx h
theorem Yf{α:Type}{f:α->List AV}{l:List α}{o:Zr}(hx:x.ev U=.sl o (l.map f))(h:WO PG d id base (i+1) r (Yb U t<|.sl o<|l.map f) st K):WO PG d id base i (⟨t,.mv x,none⟩::r) U st K:=Jb hx h
section
variable{a b:Zw}
theorem Xex{v:Bool}(hx:x.ev U=.b true)(ha:a.ev U=.b v)(h:WO PG d id base (i+1) r (Yb U t<|.b v) st K):WO PG d id base i (⟨t,.pick x a b,none⟩::r) U st K:=Y_ hx ha h
theorem Xjf{v:Bool}(hx:x.ev U=.b false)(hb:b.ev U=.b v)(h:WO PG d id base (i+1) r (Yb U t<|.b v) st K):WO PG d id base i (⟨t,.pick x a b,none⟩::r) U st K:=ZA hx hb h
end
theorem Xfi(k:IntKind)(hk:(k != .i8)=true)(c:UInt8):k.wrap (c.toNat:Int)=(c.toNat:Int):=by
 have:=c.toNat_lt
 cases k with
 |i8=>exact absurd hk (by decide)
 |i16=>simp[IntKind.wrap,IntKind.bits,IntKind.signed];omega
 |i32=>rw[IntKind.wrap_i32];omega
 |i64=>rw[xG];omega
 |u8=>rw[IntKind.wrap_u8];omega
 |u16=>rw[IntKind.wrap_u16];omega
 |u32=>rw[IntKind.wrap_u32];omega
 |u64=>rw[yO];omega
theorem ZG{k k':IntKind}{c:UInt8}(hx:x.ev U=.i k' (c.toNat:Int))(hk:(k != .i8)=true)(h:WO PG d id base (i+1) r (Yb U t<|.i k (c.toNat:Int)) st K):WO PG d id base i (⟨t,.cvi k x,none⟩::r) U st K:=
 Ls hx (by rw[Xfi k hk c];exact h)
theorem Og{n:Int}{c:UInt8}(hx:x.ev U=.i .u8 n)(hc:n=(c.toNat:Int)):x.ev U=.i .u8 (c.toNat:Int):=by rw[hx,hc]
theorem Wr{α:Type}{f:α->List AV}{l:List α}{zero z:List AV}{n:Nat}{parts:List (Nat × Zw)}{rows:List (List AV)}(hz:Ji zero=some z)(hn:(Nat.blt 0 z.length&&Nat.ble (n*z.length) 65536)=true)(hp:Vd z U (List.replicate n z) parts=some rows)(hr:rows=l.map f)(h:WO PG d id base (i+1) r (Yb U t<|.sl .full<|l.map f) st K):WO PG d id base i (⟨t,.bslice zero n parts,none⟩::r) U st K:=
 pX hz hn hp (by rw[hr];exact h)
theorem Ao{α:Type}{f:α->AV}{l:List α}{zero:List AV}{parts:List (Nat × Nat × Zw)}{cs:List AV}(hp:Ve U zero parts=some cs)(hr:cs=l.map f)(h:WO PG d id base (i+1) r (Yb U t<|.ag<|l.map f) st K):WO PG d id base i (⟨t,.build zero parts,none⟩::r) U st K:=
 Xb hp (by rw[hr];exact h)
end
def Ho(k:IntKind)(a b:Int):Int:=k.wrap (BitVec.ofInt k.bits a &&& BitVec.ofInt k.bits b).toNat
def It(k:IntKind)(a b:Int):Int:=k.wrap (BitVec.ofInt k.bits a ||| BitVec.ofInt k.bits b).toNat
def Ap(k:IntKind)(a b:Int):Int:=k.wrap (BitVec.ofInt k.bits a &&& ~~~(BitVec.ofInt k.bits b)).toNat
def nG(k:IntKind)(a:Int)(n:Nat):Int:=a.fdiv (2 ^ (min n k.bits))
def Lm(PG:Zb)(f:Nat)(rows:List (List AV))(args:List AV)(KK:List (List AV)->Prop):Prop:=
 ∀d st o,Kl st.ow o rows.length->∃o' aA aG,KK aG/\Fn PG d f (.sl o rows::args) st (.sl o' aG) aA/\Kl aA.ow o' aG.length
def Z_(KK:List (List AV)->Prop)(r:AV)(aA:St):Prop:=∃o' aG,r=.sl o' aG/\Kl aA.ow o' aG.length/\KK aG
theorem Lm.of{PG:Zb}{f:Nat}{F:AF}{rows:List (List AV)}{args:List AV}{KK:List (List AV)->Prop}(hf:PG.fn f=some F)(hn:Nat.ble (args.length+1) F.nt=true)(h :∀d st o,Kl st.ow o rows.length->W PG d F.body (Wg<|.sl o rows::args) st (Ca d F.res<|Z_ KK)):Lm PG f rows args KK:=by intro d st o ha;obtain⟨r,aA,h1,o',aG,rfl,h2,h3⟩:=Fn.of' (args:=.sl o rows::args) hf (by simpa using jE hn) (h d st o ha);exact⟨o',aA,aG,h3,h1,h2⟩
theorem Lm.to{PG:Zb}{f:Nat}{rows aG:List (List AV)}{args:List AV}(h:Lm PG f rows args fun x=>x=aG):PuA PG f rows args aG:=by intro d st o ha;obtain⟨o',aA,x,rfl,h1,h2⟩:=h d st o ha;exact⟨o',aA,h1,h2⟩
section
variable{PG:Zb}{d id base i:Nat}{U:Sl}{st:St}{K:Sl->St->Prop}{r:List AI}{t:Option Nat}{x y:Zw}
theorem Xw6{n v:Nat}{k:Zt}{k':IntKind}{m:Int}(hx:x.ev U=.p k v 0)(hy:y.ev U=.i k' m)(h0:0<=m)(h1:m.toNat<n)(h:WO PG d id base (i+1) r (Yb U t<|.p k v m.toNat) st K):WO PG d id base i (⟨t,.iaA n 1 x y,none⟩::r) U st K:=
 Xba hx hy h0 h1 (by rw[yI,Nat.mul_one];exact h)
theorem Rk{α:Type}{l:List (Zt × α)}{d s s':Nat}{b:Option α}(h:Nat.beq s s'=false)(hb:lk l (d,s')=b):lk (del l (d,s)) (d,s')=b:=by rw[nw,kA ?_,hb];intro e;injection e with _ e;rw[e,Nat.beq_refl]at h;cases h
end
end Go.AM

namespace Go.AM
open Go
abbrev Wn:=List (Zt × Nat × List AV)
abbrev Wl:=List (Zt × Nat × Nat)
def Fr(d:Nat)(k:Zt)(bx:Wn)(ow:Wl)(bx':Wn)(ow':Wl):Prop:=
 (∀k':Zt,k'.1<d->k'≠k->lk bx' k'=lk bx k')/\(∀k':Zt,k'.1<d->k'.2<Se->lk ow' k'=lk ow k')
theorem UH{α:Type}(l:List (Zt × α))(p:Zt->Bool)(k:Zt):lk (l.filter fun x=>p x.1) k=if p k then lk l k else none:=by
 induction l with
 |nil=>simp[lk]
 |cons x r ih=>
  obtain⟨k1,b⟩:=x;simp only[List.filter_cons];by_cases h:k1=k
  ·subst h
   cases hp:p k1 with
   |true=>simp[lk]
   |false=>simp[ih,hp]
  ·split
   ·simp only[lk,kA h,ih]
   ·simp only[ih,lk,kA h]
section
variable{d:Nat}{k:Zt}{bx bx' dF:Wn}{ow ow' cH:Wl}
theorem Fr.refl:Fr d k bx ow bx ow:=⟨fun _ _ _=>rfl,fun _ _ _=>rfl⟩
theorem Dm{α:Type}{l:List (Zt × α)}{k k':Zt}{a:α}(h:k≠k'):lk (Xm l k a) k'=lk l k':=by rw[Mt,kA h]
theorem Fr.box{s:Nat}{a:Nat × List AV}(h:Fr d k bx ow bx' ow'):Fr d k bx ow (Xm bx' (d,s) a) ow':=
 ⟨fun k' h1 h2=>by rw[Dm (by rintro rfl;exact zH _ h1)];exact h.1 k' h1 h2,h.2⟩
theorem Fr.own{a:Nat × List AV}(h:Fr d k bx ow bx' ow'):Fr d k bx ow (Xm bx' k a) ow':=
 ⟨fun k' h1 h2=>by rw[Dm<|fun e=>h2 e.symm];exact h.1 k' h1 h2,h.2⟩
theorem Fr.del{s:Nat}(h:Fr d k bx ow bx' ow'):Fr d k bx ow (Go.AM.del bx' (d,s)) ow':=
 ⟨fun k' h1 h2=>by rw[nw,kA (by rintro rfl;exact zH _ h1)];exact h.1 k' h1 h2,h.2⟩
theorem Fr.call{s:Nat}(h:Fr d k bx ow bx' ow')(c:Fr (d+1) (d,s) bx' ow' dF cH):Fr d k bx ow dF cH:=
 ⟨fun k' h1 h2=>(c.1 k' (kV h1) (by rintro rfl;exact zH _ h1)).trans<|h.1 k' h1 h2,fun k' h1 h2=>(c.2 k' (kV h1) h2).trans<|h.2 k' h1 h2⟩
theorem Fr.pass(h:Fr d k bx ow bx' ow')(c:Fr (d+1) k bx' ow' dF cH):Fr d k bx ow dF cH:=
 ⟨fun k' h1 h2=>(c.1 k' (kV h1) h2).trans<|h.1 k' h1 h2,fun k' h1 h2=>(c.2 k' (kV h1) h2).trans<|h.2 k' h1 h2⟩
theorem Fr.trans(h:Fr d k bx ow bx' ow')(c:Fr d k bx' ow' dF cH):Fr d k bx ow dF cH:=
 ⟨fun k' h1 h2=>(c.1 k' h1 h2).trans<|h.1 k' h1 h2,fun k' h1 h2=>(c.2 k' h1 h2).trans<|h.2 k' h1 h2⟩
theorem Fr.out(h:Fr d k bx ow bx' ow'):Fr d k bx ow (bx'.filter fun x=>x.1.1<d) ow':=
 ⟨fun k' h1 h2=>by
  have:=UH bx' (fun k=>decide<|k.1<d) k';rw[this,kC<|by simpa using h1];exact h.1 k' h1 h2,h.2⟩
def Qy(d:Nat):Zr->Prop
 |.id k _=>k.1=d/\k.2<Se
 |_=>True
def Yo(d:Nat)(ow:Wl)(o:Zr)(n:Nat):Prop:=Kl ow o n/\Qy d o
theorem Yo.mk{o:Zr}{n:Nat}(h:Kl ow o n)(m:Qy d o):Yo d ow o n:=⟨h,m⟩
theorem Yo.full{n:Nat}:Yo d ow .full n:=⟨trivial,trivial⟩
theorem Qy.app{o o':Zr}{site:Nat}(h:Qy d o)(hs:Nat.blt site Se=true)(he:Qn o'=Qn o\/Qn o'=some (d,site)):Qy d o':=by
 have hs:site<Se:=jE hs
 cases o' with
 |ext=>trivial
 |full=>trivial
 |id k v=>
  rcases he with he|he
  ·cases o with
   |ext=>cases he
   |full=>cases he
   |id k' v'=>injection he with he;subst he;exact h
  ·injection he with he;subst he;exact⟨rfl,hs⟩
theorem Yo.call{o:Zr}{n:Nat}{q:Zt}(h:Yo d ow o n)(c:Fr (d+1) q bx ow dF cH):Yo d cH o n:=by
 refine⟨?_,h.2⟩
 cases o with
 |ext=>exact h.1
 |full=>trivial
 |id k' v'=>exact⟨(c.2 k' (by rw[h.2.1];exact kG _) h.2.2).trans h.1.1,h.1.2⟩
theorem Fr.app{o:Zr}{site:Nat}(h:Fr d k bx ow bx' ow')(hm:Qy d o)(hw :∀k',some k'≠Qn o->k'≠(d,site)->lk cH k'=lk ow' k'):Fr d k bx ow bx' cH:=by
 refine⟨h.1,fun k' h1 h2=>(hw k' ?_ ?_).trans<|h.2 k' h1 h2⟩
 ·intro e
  cases o with
  |ext=>cases e
  |full=>cases e
  |id q v=>injection e with e;subst e;exact absurd hm.1 (Nat.ne_of_lt h1)
 ·rintro rfl;exact zH _ h1
end
abbrev BC:=Wn->Wl->Zt->Nat->Prop
def Bx(cs:List AV):BC:=fun bx _ k v=>lk bx k=some (v,cs)
def Ee(ow:Wl)(o:Zr)(n:Nat):Prop:=
 match o with
 |.ext=>False
 |.full=>n=0
 |.id k v=>lk ow k=some (v,n)/\0<n/\Wo<=k.2
def Bl(b:BS):BC:=fun bx ow k v=>∃c0 o,lk bx k=some (v,[c0,.sl o<|b.map Yx])/\(c0=.np\/c0=.p k v 0)/\Ee ow o b.length/\Wo<=k.2
section
variable{d s s':Nat}{k q:Zt}{bx:Wn}{ow ow':Wl}{v:Nat}{b:BS}
theorem Wx(h:Nat.beq s s'=false):((d,s):Zt)≠(d,s'):=by intro e;injection e with _ e;rw[e,Nat.beq_refl]at h;cases h
theorem Wb3(h:k.1<d):k≠(d,s):=by rintro rfl;exact zH _ h
theorem Wd(h:k.1<d):((d,s):Zt)≠k:=fun e=>Wb3 h e.symm
theorem Kj{α:Type}{l:List (Zt × α)}{a:α}{o:Option α}(h:k.1<d)(hb:lk l k=o):lk (Xm l (d,s) a) k=o:=by rw[Dm<|Wd h];exact hb
theorem Bl.other{a:Nat × List AV}(hn:q≠k)(h:Bl b bx ow k v):Bl b (Xm bx q a) ow k v:=by obtain⟨c0,o,h1,h2⟩:=h;exact⟨c0,o,by rw[Dm hn];exact h1,h2⟩
theorem Bl.app{o:Zr}{site:Nat}(h:Bl b bx ow k v)(hm:Qy d o)(hs:Nat.blt site Se=true)(hw :∀k',some k'≠Qn o->k'≠(d,site)->lk ow' k'=lk ow k'):Bl b bx ow' k v:=by
 obtain⟨c0,o2,h1,h2,h3,h4⟩:=h;have hs:site<Se:=jE hs;refine⟨c0,o2,h1,h2,?_,h4⟩
 cases o2 with
 |ext=>exact h3
 |full=>exact h3
 |id q w=>
  refine⟨(hw q ?_ ?_).trans h3.1,h3.2⟩
  ·intro e
   cases o with
   |ext=>cases e
   |full=>cases e
   |id q' w'=>injection e with e;subst e;exact absurd hm.2 (Nat.not_lt.2<|kX (by decide) h3.2.2)
  ·rintro rfl;exact absurd hs (Nat.not_lt.2<|kX (by decide) h3.2.2)
end
def Xc(PG:Zb)(f:Nat)(B:BC)(args:List AV)(RR:AV->Prop)(B':BC):Prop:=
 ∀d (st:St) (k:Zt) (v:Nat),k.1<d->B st.bx st.ow k v->∃r aA,Fn PG d f (.p k v 0::args) st r aA/\RR r/\B' aA.bx aA.ow k v/\Fr d k st.bx st.ow aA.bx aA.ow
def Us{Y:Type}(PG:Zb)(f:Nat)(B:BC)(args:List AV)(KK:AV->Y->Prop)(B':Y->BC):Prop:=
 ∀d (st:St) (k:Zt) (v:Nat),k.1<d->B st.bx st.ow k v->∃r aA b,Fn PG d f (.p k v 0::args) st r aA/\KK r b/\B' b aA.bx aA.ow k v/\Fr d k st.bx st.ow aA.bx aA.ow
theorem Us.to{Y:Type}{PG:Zb}{f:Nat}{B:BC}{args:List AV}{KK:AV->Y->Prop}{B':Y->BC}{RR:AV->Prop}{b:Y}(h:Us PG f B args KK B')(hk :∀r b',KK r b'->RR r/\b'=b):Xc PG f B args RR (B' b):=by intro d st k v h1 h2;obtain⟨r,aA,b',h3,h4,h5,h6⟩:=h d st k v h1 h2;obtain⟨h7,rfl⟩:=hk r b' h4;exact⟨r,aA,h3,h7,h5,h6⟩
section
variable{PG:Zb}{d id base i:Nat}{U:Sl}{st:St}{K:Sl->St->Prop}{r:List AI}{t:Option Nat}{x y:Zw}
theorem UK{f:Nat}{args:List Zw}{vs:List AV}{B B':BC}{F:AV}{k:Zt}{v:Nat}(hs:Vy U args=.p k v 0::vs)(hp:Xc PG f B vs (fun r=>r=F) B')(hk:k.1<d+1)(hB:B st.bx st.ow k v)
  (h :∀aA:St,B' aA.bx aA.ow k v->Fr (d+1) k st.bx st.ow aA.bx aA.ow->WO PG d id base (i+1) r (Yb U t F) aA K):WO PG d id base i (⟨t,.call true f args,none⟩::r) U st K:=by refine Gi ?_;obtain⟨r',aA,h1,rfl,h3,h4⟩:=hp (d+1) st k v hk hB;rw[Lw,hs];exact⟨_,_,h1,h aA h3 h4⟩
theorem Fu{f:Nat}{args:List Zw}{vs:List AV}{B B':BC}{F:Zr->AV}{k:Zt}{v:Nat}(hs:Vy U args=.p k v 0::vs)(hp:Xc PG f B vs (fun r=>∃o,r=F o) B')(hk:k.1<d+1)(hB:B st.bx st.ow k v)
  (h :∀(o:Zr) (aA:St),B' aA.bx aA.ow k v->Fr (d+1) k st.bx st.ow aA.bx aA.ow->WO PG d id base (i+1) r (Yb U t<|F o) aA K):WO PG d id base i (⟨t,.call true f args,none⟩::r) U st K:=by refine Gi ?_;obtain⟨r',aA,h1,⟨o,rfl⟩,h3,h4⟩:=hp (d+1) st k v hk hB;rw[Lw,hs];exact⟨_,_,h1,h o aA h3 h4⟩
end
theorem Yzd{U:Sl}{st:St}{t n v:Nat}{agg:Bool}{k:Zt}{cs:List AV}{r:AV}(h:U t=.p k v 0)(hb:lk st.bx k=some (v,cs))(hn:cs.length=n)(hr:Uh agg cs=some r):Kq U st (.cell t n agg)=some r:=by subst hn;simp only[Kq,h,Ml,hb];rw[kC ⟨trivial,by omega⟩,zU,kQ,hr]
theorem Jc{U:Sl}{st:St}{t n v:Nat}{k:Zt}{cs:List AV}(h:U t=.p k v 0)(hb:lk st.bx k=some (v,cs))(hn:cs.length=n):Kq U st (.cell t n true)=some (.ag cs):=Yzd h hb hn rfl
theorem Km{U:Sl}{st:St}{t:Nat}:Kq U st (.tmp t)=some (U t):=rfl
def gsW(PG:Zb)(d l:Nat)(b:AC)(Q:Q0):Q0
 |.normal,U,st=>WG PG d l b U st Q
 |_,_,_=>False
theorem W.gscope'{PG:Zb}{d:Nat}{U:Sl}{st:St}{Q:Q0}{l:Nat}{a b:AC}(h:W PG d a U st (gsW PG d l b Q)):W PG d (.gscope l a b) U st Q:=
 W.gscope (h.mono fun e U st he=>by cases e<;>exact he)
end Go.AM

namespace Go.AM
open Go
abbrev oM(d s:Nat):AI:=⟨some d,.mv<|.t s,none⟩
abbrev oC(d:Nat)(v:AV):AI:=⟨some d,.mv<|.c v,none⟩
abbrev oL(d s:Nat):AI:=⟨some d,.load 1 false<|.t s,none⟩
abbrev oF(d o s:Nat):AI:=⟨some d,.fad o<|.t s,none⟩
abbrev oN(d s:Nat):AI:=⟨some d,.nilc<|.t s,none⟩
abbrev oS(n a b:Nat):AI:=⟨none,.store n (.t a)<|.t b,none⟩
abbrev oE(d k s:Nat):AI:=⟨some d,.ext k<|.t s,none⟩
abbrev oB(d:Nat)(op:BinOp)(x y:Zw):AI:=⟨some d,.bin op x y,none⟩
abbrev oO(d:Nat)(op:Vu):AI:=⟨some d,op,none⟩
abbrev oG(d:Nat)(op:Vu)(g:Nat)(w:Bool):AI:=⟨some d,op,some (g,w)⟩
section
variable{PG:Zb}{d id base i:Nat}{U:Sl}{st:St}{K:Sl->St->Prop}{r:List AI}{t:Option Nat}{x y:Zw}{Q:Q0}
theorem m_(h:WO PG d id base (i+1) r (Yb U t<|x.ev U) st K):WO PG d id base i (⟨t,.mv x,none⟩::r) U st K:=Jb rfl h
theorem q_{ops:List AI}{b:AC}(hn:Lt ops=true)(h :∀{nx:Nat}{_:st.nx<=nx},WO PG d id st.nx 0 ops U ⟨nx,st.bx,st.ow⟩<|fun U st=>W PG d b U st Q):W PG d (.seq (.reg id ops) b) U st Q:=W.seq (W.reg0 hn fun _ hx=>@h _ hx)
end
end Go.AM
namespace Go.AM
open Go
abbrev e_:=@Hs
abbrev b_:=@To
abbrev x_:=@ZH
abbrev l_:=@Pw
abbrev f_:=@Rg
abbrev Dc:=@wg
abbrev Zg:=@ZE
abbrev Xv:=@Y9
abbrev Gz:=@Xex
abbrev Vt:=@Xjf
abbrev Yi:=@ZO
abbrev Xw:=@ZP
abbrev Xh:=@ZQ
abbrev Qp:=@ZR
abbrev Ya:=@W.skip
abbrev Sq:=@W.ret
abbrev Yg:=@W.block
abbrev Vg:=@W.exit
abbrev Zl:=@W.seq
abbrev Yh:=@ZL
abbrev Zy:=@ny
abbrev Xy:=@PW
abbrev Xx:=@ZJ
abbrev Do:=@ZI
abbrev Ql:=@PU
abbrev Xe:=@PT
abbrev Wa:=@PV
abbrev np_:=@ZF
abbrev Xq:=@MD
abbrev Qb:=@CY
abbrev Wy:=@UK
theorem Wp{k:IntKind}{a b:Int}:Wb .lss (.i k a) (.i k b)=some (.b<|decide<|a<b):=Yyw _ _ _
theorem Oh{k:IntKind}{a b:Int}:Wb .leq (.i k a) (.i k b)=some (.b<|decide<|a<=b):=Xc9 _ _ _
theorem Jd{k:IntKind}{a b:Int}:Wb .gtr (.i k a) (.i k b)=some (.b<|decide<|a>b):=Xd6 _ _ _
theorem Ha{k:IntKind}{a b:Int}:Wb .geq (.i k a) (.i k b)=some (.b<|decide<|a>=b):=Xcz _ _ _
theorem Xf{k:IntKind}{a b:Int}:Wb .eql (.i k a) (.i k b)=some (.b<|decide<|a=b):=UF _ _ _
theorem Vr{k:IntKind}{a b:Int}:Wb .neq (.i k a) (.i k b)=some (.b<|decide<|a≠b):=Xaw _ _ _
theorem Vp{k:IntKind}{a b:Int}:Wb .add (.i k a) (.i k b)=some (.i k<|k.wrap<|a+b):=Xx0 _ _ _
theorem Ms{k:IntKind}{a b:Int}:Wb .sub (.i k a) (.i k b)=some (.i k<|k.wrap<|a-b):=Xui _ _ _
theorem Bf{a b:BS}:Wb .eql (.s a) (.s b)=some (.b<|decide<|a=b):=Xqp _ _
theorem Rt{a b:BS}:Wb .neq (.s a) (.s b)=some (.b<|decide<|a≠b):=Yyz _ _
end Go.AM
namespace Go.AM
open Go
def Ym(PG:Zb)(f:Nat)(args:List AV)(RR:AV->Prop):Prop:=
 ∀d (st:St),∃r aA,Fn PG d f args st r aA/\RR r/\Fr d (d,0) st.bx st.ow aA.bx aA.ow
theorem Ym.to{PG:Zb}{f:Nat}{args:List AV}{R1 R2:AV->Prop}(h:Ym PG f args R1)(hk :∀r,R1 r->R2 r):Ym PG f args R2:=by intro d st;obtain⟨r,aA,h1,h2,h3⟩:=h d st;exact⟨r,aA,h1,hk r h2,h3⟩
theorem Kv{d s:Nat}:((d,s):Zt)≠(d+1,0):=by intro e;injection e with e _;omega
theorem Xd9{d:Nat}{k:Zt}(h:k.1<d):k≠(d+1,0):=by rintro rfl;simp at h;omega
theorem Fr.raw{d:Nat}{k:Zt}{bx bx' dF:Wn}{ow ow' cH:Wl}(h:Fr d k bx ow bx' ow')(c:Fr (d+1) (d+1,0) bx' ow' dF cH):Fr d k bx ow dF cH:=
 ⟨fun k' h1 h2=>(c.1 k' (kV h1)<|Xd9 h1).trans<|h.1 k' h1 h2,fun k' h1 h2=>(c.2 k' (kV h1) h2).trans<|h.2 k' h1 h2⟩
theorem Ym.of{PG:Zb}{f:Nat}{F:AF}{args:List AV}{RR:AV->Prop}(hf:PG.fn f=some F)(hn:Nat.ble args.length F.nt=true)
  (h :∀(d:Nat) (st:St),W PG d F.body (Wg args) st fun e U aA=>(e=.normal\/e=.ret)/\∃r,Xj U aA F.res=some r/\RR r/\Fr d (d,0) st.bx st.ow aA.bx aA.ow):Ym PG f args RR:=by
 intro d st
 obtain ⟨r,aA,h1,h2⟩:=Fn.of' (PG:=PG) (K:=fun r aA=>RR r/\Fr d (d,0) st.bx st.ow aA.bx aA.ow) hf (jE hn) ((h d st).mono fun e U aA hq=>by
  obtain⟨he,r,h1,h2,h3⟩:=hq;rcases he with rfl|rfl
  ·exact⟨r,h1,h2,h3.out⟩
  ·exact ⟨r,h1,h2,h3.out⟩)
 exact⟨r,aA,h1,h2⟩
section
variable{PG:Zb}{d id base i:Nat}{U:Sl}{st:St}{K:Sl->St->Prop}{r:List AI}{t:Option Nat}{x y:Zw}
theorem Gm{f:Nat}{args:List Zw}{vs:List AV}{F:AV}(hs:Vy U args=vs)(hp:Ym PG f vs (fun r=>r=F))
  (h :∀aA:St,Fr (d+1) (d+1,0) st.bx st.ow aA.bx aA.ow->WO PG d id base (i+1) r (Yb U t F) aA K):WO PG d id base i (⟨t,.call true f args,none⟩::r) U st K:=by refine Gi ?_;obtain⟨r',aA,h1,rfl,h3⟩:=hp (d+1) st;rw[Lw,hs];exact⟨_,_,h1,h aA h3⟩
theorem Fk{f:Nat}{c:List AV}{args:List Zw}{vs:List AV}{F:AV}(hx:x.ev U=.fn f c)(hs:Vy U args=vs)(hp:Ym PG f (vs++c) (fun r=>r=F))
  (h :∀aA:St,Fr (d+1) (d+1,0) st.bx st.ow aA.bx aA.ow->WO PG d id base (i+1) r (Yb U t F) aA K):WO PG d id base i (⟨t,.callv x args,none⟩::r) U st K:=by refine Gi ?_;obtain⟨r',aA,h1,rfl,h3⟩:=hp (d+1) st;show nv (x.ev U) (Vy U args) (fun g l=>WF PG (d+1) g l st _);rw[hx,hs];exact⟨_,_,h1,h aA h3⟩
theorem OP{f:Nat}{args:List Zw}{vs:List AV}(hs:Vy U args=vs)(h:WO PG d id base (i+1) r (Yb U t<|.fn f vs) st K):WO PG d id base i (⟨t,.mkfn f args,none⟩::r) U st K:=
 Je (fun K=>by
  have e:args.map (·.ev U)=vs:=by rw[<- hs];exact Tr.symm
  simp only [Xo,Yd,Yp,e,kK,Vi]) h
theorem Ydj:∀l:List (BS),Ji (l.map AV.s)=some (l.map AV.s)
 |[]=>rfl
 |c::l=>by simp only[jB,Ji,Ydj l,AV.soft]
theorem Xv0(l:List (BS)):Bv 1 l.length (l.map AV.s)=l.map Zv:=by
 unfold Bv;apply List.ext_getElem
 ·simp
 ·intro j h1 h2;simp at h1;simp only[List.getElem_map,List.getElem_range,Nat.mul_one];rw[zE<|by simpa using h1];simp[Zv]
theorem Ygf{l:List (BS)}{k:Zt}{n v:Nat}(hx:x.ev U=.p k v 0)(hb:lk st.bx k=some (v,l.map AV.s))(hn:l.length=n)(me:Nat.blt 0 n=true)(h:WO PG d id base (i+1) r (Yb U t<|.sl .ext<|l.map Zv) { st with bx:=del st.bx k } K):WO PG d id base i (⟨t,.slA n 1 x none none,none⟩::r) U st K:=by
 refine Gi ?_
 have QE:Qk U n n none none=some (0,n):=by
  simp only[Qk];rw[kC ⟨zO _,kU _⟩]
 simp only[Xo,Yd,hx,hb];rw[kC ⟨trivial,trivial,by simp[hn],Nat.one_pos⟩];subst hn;simp only[Ydj,QE,kK,Vi,Xv0];rw[zU,zF<|by simp];exact h
end
end Go.AM
namespace Go.AM
open Go
theorem Ygw{α:Type}(f:α->AV)(hf :∀a,(f a).strip=some (f a)):∀l:List α,AV.strips (l.map f)=some (l.map f)
 |[]=>rfl
 |a::l=>by simp only[jB,AV.strips,hf a,Ygw f hf l]
theorem wE{α:Type}(f:α->AV)(hf :∀a,(f a).strip=some (f a))(l:List α):(AV.ag<|l.map f).strip=some (.ag<|l.map f):=by simp only[AV.strip,Ygw f hf l]
end Go.AM
namespace Go.AM
open Go
theorem Ym9:∀(new cs:List AV) (off:Nat),off+new.length<=cs.length->Gp cs off new=cs.take off++(new++cs.drop (off+new.length))
 |[],cs,off,h=>by simp[Gp]
 |v::r,cs,off,h=>by
  simp only[kB]at h;rw[Gp,Ym9 r (cs.set off v) (off+1) (by simp;omega)]
  have h1:(cs.set off v).take (off+1)=cs.take off++[v]:=by
   rw[List.take_set,kM<|by omega,List.set_append_right _ _ (by simp;omega)]
   congr 1
   simp[kW,Nat.min_eq_left<|show off<=cs.length by omega]
  have h2:(cs.set off v).drop (off+1+r.length)=cs.drop (off+(r.length+1)):=by
   rw[List.drop_set_of_lt<|by omega]
   congr 1
   omega
  rw[h1,h2];simp
section
variable{PG:Zb}{d id base i:Nat}{U:Sl}{st:St}{K:Sl->St->Prop}{r:List AI}{t:Option Nat}{x y:Zw}
theorem Ac{α:Type}{f:α->AV}{l l':List α}{n v:Nat}{k:Zt}(hf :∀a,(f a).one=true)(hx:x.ev U=.p k v 0)(hb:lk st.bx k=some (v,l.map f))(hl:l.length=n)(hy:y.ev U=.ag (l'.map f))(mi:l'.length=n)
  (h:WO PG d id base (i+1) r (Yb U t<|.tup []) { st with bx:=Xm st.bx k (v,l'.map f) } K) (aV:Ra k (.ag<|l'.map f)=true:=by first|rfl|exact mw rfl):WO PG d id base i (⟨t,.store n x y,none⟩::r) U st K:=by
 have e:Gp (l.map f) 0 (l'.map f)=l'.map f:=by
  rw[Ym9 _ _ _ (by simp;omega)];simp[hl,mi]
 refine ny hx hb hy ?_ e h aV;simp[AV.cells,hl,mi,hf]
end
end Go.AM

namespace Go.AM
open Go Go.RowKit
abbrev Hp:=Nat->Nat->Option Value
inductive Fz(H:Hp):AV->Value->Prop
 |i (k:IntKind) (n:Int):Fz H (.i k n) (.int k n)
 |b (x:Bool):Fz H (.b x) (.bool x)
 |s (l:BS):Fz H (.s l) (.string ⟨l.toArray⟩)
 |sl (rows:List (List AV)) (A:Option Addr) (cap size g off:Nat) (us:Nat->Nat->Value)
   (hA:rows≠[]->A=some ⟨g,off,none⟩) (bA:rows.length<=cap)
   (hs :∀(i:Nat) row,rows[i]?=some row->row.length=size)
   (hH :∀(i:Nat) row (j:Nat) a,rows[i]?=some row->row[j]?=some a->H g (off+i*size+j)=some (us i j))
   (hF :∀(i:Nat) row (j:Nat) a,rows[i]?=some row->row[j]?=some a->Fz H a (us i j)) :
   Fz H (.sl .ext rows) (.slice A rows.length cap)
 |np:Fz H .np (.pointer none)
 |nf:Fz H .nf .nilFunc
 |ni:Fz H .ni .nilIface
 |u (v:Value):Fz H .u v
inductive MO where
 |mp (l:List (BS × Int))
 |ob (o:Obj)
def obN:Obj->Bool
 |.cells ..=>false
 |_=>true
structure Gh where
 H:Hp
 ρ:Zt->Nat->Option Nat
 ω:Zt->Nat->Option (Nat × Nat × Nat)
 fm:Nat->Option Nat
 M:Nat->Option MO
def Cb(G:Gh)(o:Zr)(A:Option Addr)(n cap:Nat)(rows:List (List AV)):Prop:=
 match o with
 |.ext=>True
 |.full=>cap=n/\(A=none\/∃g,A=some ⟨g,0,none⟩)
 |.id k ver=>∃g size,G.ω k ver=some (g,cap,size)/\A=some ⟨g,0,none⟩/\∀(i:Nat) row,rows[i]?=some row->row.length=size/\(∀(j:Nat) a,row[j]?=some a->∃v,G.H g (i*size+j)=some v)
inductive R(G:Gh):AV->Value->Prop
 |fz (a:AV) (v:Value) (h:Fz G.H a v):R G a v
 |sl (o:Zr) (rows:List (List AV)) (A:Option Addr) (n cap:Nat) (h:Fz G.H (.sl .ext rows) (.slice A n cap)) (ho:Cb G o A n cap rows):R G (.sl o rows) (.slice A n cap)
 |p (k:Zt) (ver off g:Nat) (h:G.ρ k ver=some g):R G (.p k ver off) (.pointer<|some ⟨g,off,none⟩)
 |fp (cs:List AV) (us:Nat->Value) (g off:Nat) (hH :∀(j:Nat) a,cs[j]?=some a->G.H g (off+j)=some (us j)) (hF :∀(j:Nat) a,cs[j]?=some a->Fz G.H a (us j)):R G (.fp cs) (.pointer<|some ⟨g,off,none⟩)
 |ag (cs:List AV) (us:List Value) (hl:cs.length=us.length) (hR :∀(j:Nat) a u,cs[j]?=some a->us[j]?=some u->R G a u):R G (.ag cs) (.agg us.toArray)
 |tup (cs:List AV) (us:List Value) (hl:cs.length=us.length) (hR :∀(j:Nat) a u,cs[j]?=some a->us[j]?=some u->R G a u):R G (.tup cs) (.tuple us.toArray)
 |mp (l:List (BS × Int)) (b:Nat) (h:G.M b=some (.mp l)):R G (.mp l) (.map<|some b)
 |fn (c f:Nat) (hf:G.fm f=some c) (cs:List AV) (us:List Value) (hl:cs.length=us.length) (hR :∀(j:Nat) a u,cs[j]?=some a->us[j]?=some u->R G a u):R G (.fn c cs) (.func (.func f) #[] us.toArray)
 |bf (c f:Nat) (hf:G.fm f=some c) (cs:List AV) (us:List Value) (hl:cs.length=us.length) (hR :∀(j:Nat) a u,cs[j]?=some a->us[j]?=some u->R G a u):R G (.bf c cs) (.func (.func f) us.toArray #[])
 |yl (l:Nat):R G (.yl l) (.func (.yield l) #[] #[])
def Rs(G:Gh)(cs:List AV)(us:List Value):Prop:=cs.length=us.length/\∀(j:Nat) a u,cs[j]?=some a->us[j]?=some u->R G a u
def Ba(H H':Hp):Prop:=∀g o v,H g o=some v->H' g o=some v
structure Gh.Le(G G':Gh):Prop where
 H:Ba G.H G'.H
 ρ :∀k v g,G.ρ k v=some g->G'.ρ k v=some g
 ω :∀k v g,G.ω k v=some g->G'.ω k v=some g
 fm:G'.fm=G.fm
 M :∀b l,G.M b=some l->G'.M b=some l
theorem Gh.Le.refl(G:Gh):G.Le G:=⟨fun _ _ _ h=>h,fun _ _ _ h=>h,fun _ _ _ h=>h,rfl,fun _ _ h=>h⟩
theorem Gh.Le.trans{A B C:Gh}(h:A.Le B)(k:B.Le C):A.Le C:=
 ⟨fun _ _ _ x=>k.H _ _ _<|h.H _ _ _ x,fun _ _ _ x=>k.ρ _ _ _<|h.ρ _ _ _ x,fun _ _ _ x=>k.ω _ _ _<|h.ω _ _ _ x,k.fm.trans h.fm,fun _ _ x=>k.M _ _<|h.M _ _ x⟩
theorem Fz.mono{H H':Hp}(hh:Ba H H'){a:AV}{v:Value}(h:Fz H a v):Fz H' a v:=by
 induction h with
 |i k n=>exact .i k n
 |b x=>exact .b x
 |s l=>exact .s l
 |sl rows A cap size g off us hA bA hs hH _ ih=>exact .sl rows A cap size g off us hA bA hs (fun i row j a h1 h2=>hh _ _ _<|hH i row j a h1 h2) ih
 |np=>exact .np
 |nf=>exact .nf
 |ni=>exact .ni
 |u v=>exact .u v
structure Gh.LeR(G G':Gh):Prop where
 H:Ba G.H G'.H
 ρ :∀k v g,G.ρ k v=some g->G'.ρ k v=some g
 ω :∀k v g,G.ω k v=some g->G'.ω k v=some g
 fm:G'.fm=G.fm
 M :∀b l,G.M b=some (.mp l)->G'.M b=some (.mp l)
theorem Gh.Le.toR{G G':Gh}(h:G.Le G'):G.LeR G':=⟨h.H,h.ρ,h.ω,h.fm,fun b l=>h.M b<|.mp l⟩
theorem Cb.monoR{G G':Gh}(hg:G.LeR G'){o:Zr}{A:Option Addr}{n cap:Nat}{rows:List (List AV)}(h:Cb G o A n cap rows):Cb G' o A n cap rows:=by
 cases o with
 |ext=>trivial
 |full=>exact h
 |id k ver=>
  obtain⟨g,size,h1,h2,h3⟩:=h;refine⟨g,size,hg.ω _ _ _ h1,h2,fun i row hr=>⟨(h3 i row hr).1,fun j a ha=>?_⟩⟩;obtain⟨v,hv⟩:=(h3 i row hr).2 j a ha;exact⟨v,hg.H _ _ _ hv⟩
theorem R.monoR{G G':Gh}(hg:G.LeR G'){a:AV}{v:Value}(h:R G a v):R G' a v:=by
 induction h with
 |fz a v h=>exact .fz a v (h.mono hg.H)
 |sl o rows A n cap h ho=>exact .sl o rows A n cap (h.mono hg.H) (ho.monoR hg)
 |yl l=>exact .yl l
 |p k ver off g h=>exact .p k ver off g (hg.ρ _ _ _ h)
 |fp cs us g off hH hF=>exact .fp cs us g off (fun j a h=>hg.H _ _ _<|hH j a h) (fun j a h=>(hF j a h).mono hg.H)
 |ag cs us hl _ ih=>exact .ag cs us hl ih
 |tup cs us hl _ ih=>exact .tup cs us hl ih
 |mp l b h=>exact .mp l b (hg.M _ _ h)
 |fn c f hf cs us hl _ ih=>exact .fn c f (by rw[hg.fm];exact hf) cs us hl ih
 |bf c f hf cs us hl _ ih=>exact .bf c f (by rw[hg.fm];exact hf) cs us hl ih
theorem Cb.mono{G G':Gh}(hg:G.Le G'){o:Zr}{A:Option Addr}{n cap:Nat}{rows:List (List AV)}(h:Cb G o A n cap rows):Cb G' o A n cap rows:=h.monoR hg.toR
theorem R.mono{G G':Gh}(hg:G.Le G'){a:AV}{v:Value}(h:R G a v):R G' a v:=h.monoR hg.toR
theorem Rs.monoR{G G':Gh}(hg:G.LeR G'){a:List AV}{v:List Value}(h:Rs G a v):Rs G' a v:=⟨h.1,fun j a u h1 h2=>(h.2 j a u h1 h2).monoR hg⟩
theorem Rs.mono{G G':Gh}(hg:G.Le G'){a:List AV}{v:List Value}(h:Rs G a v):Rs G' a v:=⟨h.1,fun j a u h1 h2=>(h.2 j a u h1 h2).mono hg⟩
section
variable{G:Gh}{v:Value}
theorem R.int_inv{k:IntKind}{n:Int}(h:R G (.i k n) v):v=.int k n:=by cases h with|fz _ _ h=>cases h;rfl
theorem R.bool_inv{x:Bool}(h:R G (.b x) v):v=.bool x:=by cases h with|fz _ _ h=>cases h;rfl
theorem R.str_inv{l:BS}(h:R G (.s l) v):v=.string ⟨l.toArray⟩:=by cases h with|fz _ _ h=>cases h;rfl
theorem R.np_inv(h:R G .np v):v=.pointer none:=by cases h with|fz _ _ h=>cases h;rfl
theorem R.nf_inv(h:R G .nf v):v=.nilFunc:=by cases h with|fz _ _ h=>cases h;rfl
theorem R.ni_inv(h:R G .ni v):v=.nilIface:=by cases h with|fz _ _ h=>cases h;rfl
theorem R.sl_inv{o:Zr}{rows:List (List AV)}(h:R G (.sl o rows) v):∃A cap,v=.slice A rows.length cap/\Fz G.H (.sl .ext rows) (.slice A rows.length cap)/\Cb G o A rows.length cap rows:=by
 cases h with
 |fz _ _ h=>cases h with|sl _ A cap size g off us hA bA hs hH hF=>exact⟨A,cap,rfl,.sl rows A cap size g off us hA bA hs hH hF,trivial⟩
 |sl _ _ A n cap h ho=>
  have hn:n=rows.length:=by cases h;rfl
  subst hn;exact⟨A,cap,rfl,h,ho⟩
theorem R.p_inv{k:Zt}{ver off:Nat}(h:R G (.p k ver off) v):∃g,v=.pointer (some ⟨g,off,none⟩)/\G.ρ k ver=some g:=by
 cases h with
 |fz _ _ h=>cases h
 |p _ _ _ g h=>exact⟨g,rfl,h⟩
theorem R.fp_inv{cs:List AV}(h:R G (.fp cs) v):∃g off,∃us:Nat->Value,v=.pointer (some ⟨g,off,none⟩)/\(∀(j:Nat) a,cs[j]?=some a->G.H g (off+j)=some (us j))/\(∀(j:Nat) a,cs[j]?=some a->Fz G.H a (us j)):=by
 cases h with
 |fz _ _ h=>cases h
 |fp _ us g off hH hF=>exact⟨g,off,us,rfl,hH,hF⟩
theorem R.ag_inv{cs:List AV}(h:R G (.ag cs) v):∃us,v=.agg us.toArray/\Rs G cs us:=by
 cases h with
 |fz _ _ h=>cases h
 |ag _ us hl hR=>exact⟨us,rfl,hl,hR⟩
theorem R.tup_inv{cs:List AV}(h:R G (.tup cs) v):∃us,v=.tuple us.toArray/\Rs G cs us:=by
 cases h with
 |fz _ _ h=>cases h
 |tup _ us hl hR=>exact⟨us,rfl,hl,hR⟩
theorem R.fn_inv{c:Nat}{cs:List AV}(h:R G (.fn c cs) v):∃f us,G.fm f=some c/\v=.func (.func f) #[] us.toArray/\Rs G cs us:=by
 cases h with
 |fz _ _ h=>cases h
 |fn _ f hf _ us hl hR=>exact⟨f,us,hf,rfl,hl,hR⟩
theorem R.bf_inv{c:Nat}{cs:List AV}(h:R G (.bf c cs) v):∃f us,G.fm f=some c/\v=.func (.func f) us.toArray #[]/\Rs G cs us:=by
 cases h with
 |fz _ _ h=>cases h
 |bf _ f hf _ us hl hR=>exact⟨f,us,hf,rfl,hl,hR⟩
theorem R.mp_inv{l:List (BS × Int)}(h:R G (.mp l) v):∃b,v=.map (some b)/\G.M b=some (.mp l):=by
 cases h with
 |fz _ _ h=>cases h
 |mp _ b h=>exact⟨b,rfl,h⟩
theorem R.yl_inv{l:Nat}(h:R G (.yl l) v):v=.func (.yield l) #[] #[]:=by
 cases h with
 |fz _ _ h=>cases h
 |yl=>rfl
theorem R.one{a:AV}(h:R G a v)(h1:a.one=true):v.oneCell'=true:=by
 cases h with
 |fz _ _ h=>cases h<;>first|rfl|simp[AV.one]at h1
 |sl=>rfl
 |p=>rfl
 |fp=>rfl
 |ag=>simp[AV.one]at h1
 |tup=>simp[AV.one]at h1
 |mp=>rfl
 |fn=>rfl
 |bf=>rfl
 |yl=>rfl
theorem R.und:R G (.tup []) Go.undef:=.tup [] [] rfl (by simp)
theorem R.tup0_inv(h:R G (.tup []) v):v=Go.undef:=by
 obtain⟨us,rfl,hl,_⟩:=h.tup_inv
 cases us with
 |nil=>rfl
 |cons=>simp at hl
end
theorem R.cells{G:Gh}{a:AV}{v:Value}(h:R G a v)(hu:a.cells.all AV.one=true):∃us:List Value,v.cells=us.toArray/\Rs G a.cells us/\us.length=a.cells.length/\(∀x∈us,x.oneCell'=true):=by
 have single :∀{a:AV},a.cells=[a]->R G a v->a.one=true->v.cells=#[v]->∃us:List Value,v.cells=us.toArray/\Rs G a.cells us/\us.length=a.cells.length/\(∀x∈us,x.oneCell'=true):=by
  intro a hc h h1 hv;refine⟨[v],hv,?_,by rw[hc];rfl,?_⟩
  ·rw[hc];refine⟨rfl,fun j a' u h1 h2=>?_⟩
   cases j with
   |zero=>simp at h1 h2;subst h1;subst h2;exact h
   |succ j=>simp at h1
  ·intro x hx;simp at hx;subst hx;exact h.one h1
 cases a with
 |ag cs=>
  obtain⟨us,rfl,hr⟩:=h.ag_inv;refine⟨us,rfl,hr,hr.1.symm,fun x hx=>?_⟩;obtain⟨j,hj,rfl⟩:=xH hx;have fV:j<cs.length:=by rw[hr.1];exact hj
  have h2:=hr.2 j cs[j] us[j] (kH fV) (kH hj);exact h2.one (by simp only[AV.cells,jU]at hu;exact hu _<|kL fV)
 |tup cs=>simp[AV.cells,AV.one]at hu
 |u=>simp[AV.cells,AV.one]at hu
 |i k n=>exact single rfl h rfl (by rw[h.int_inv];rfl)
 |b x=>exact single rfl h rfl (by rw[h.bool_inv];rfl)
 |s l=>exact single rfl h rfl (by rw[h.str_inv];rfl)
 |sl o rows=>exact single rfl h rfl (by obtain⟨A,cap,rfl,_⟩:=h.sl_inv;rfl)
 |p k ver off=>exact single rfl h rfl (by obtain⟨g,rfl,_⟩:=h.p_inv;rfl)
 |fp cs=>exact single rfl h rfl (by obtain⟨g,off,us,rfl,_⟩:=h.fp_inv;rfl)
 |np=>exact single rfl h rfl (by rw[h.np_inv];rfl)
 |mp l=>exact single rfl h rfl (by obtain⟨b,rfl,_⟩:=h.mp_inv;rfl)
 |fn f cap=>exact single rfl h rfl (by obtain⟨f,us,_,rfl,_⟩:=h.fn_inv;rfl)
 |bf f cs=>exact single rfl h rfl (by obtain⟨f,us,_,rfl,_⟩:=h.bf_inv;rfl)
 |yl l=>exact single rfl h rfl (by rw[h.yl_inv];rfl)
 |nf=>exact single rfl h rfl (by rw[h.nf_inv];rfl)
 |ni=>exact single rfl h rfl (by rw[h.ni_inv];rfl)
def Ix(G:Gh)(w0 w:World)(cs:List AV)(g:Nat):Prop:=
 ∃(us:List Value) (e:TypeId),w0.heap.size<=g/\w.heap[g]?=some (.cells us.toArray e (0,0))/\Rs G cs us/\(∀x∈us,x.oneCell'=true)/\∀o,G.H g o=none
def TR(G:Gh)(w0 w:World)(n g cap size:Nat):Prop:=
 ∃(cur:Array Value) (e:TypeId),w0.heap.size<=g/\w.heap[g]?=some (.cells cur e (0,0))/\cur.size=cap*size/\n<=cap/\0<size/\∀o,n*size<=o->G.H g o=none
def Gj(fm:Nat->Option Nat):TypeId:=(fm 1000000000000).getD 0-1000000000
def Mx(fm:Nat->Option Nat):TypeId:=(fm 1000000000001).getD 0-1000000000
attribute [irreducible] Gj Mx
def Ft(w:World)(b:Nat):MO->Prop
 |.mp l=>∃es clock,w.heap[b]?=some (.map es clock)/\es.toList.map (fun e=>(e.key,e.val))=l.map fun x=>(Value.string ⟨x.1.toArray⟩,Value.int .u8 x.2)
 |.ob o=>w.heap[b]?=some o/\obN o=true
theorem Ft.keep{w w':World}{b:Nat}{l:MO}(h:Ft w b l)(hk :∀o,w.heap[b]?=some o->obN o=true->w'.heap[b]?=w.heap[b]?):Ft w' b l:=by
 cases l with
 |mp l=>
  obtain⟨es,clock,h1,h2⟩:=h;exact⟨es,clock,(hk _ h1 rfl).trans h1,h2⟩
 |ob o=>exact⟨(hk o h.1 h.2).trans h.1,h.2⟩
def Nf(fm:Nat->Option Nat)(w0:World):Prop:=∀g,fm 1000000000004=some g->g-1000000000<w0.heap.size/\∃m,w0.cell? ⟨g-1000000000,0,none⟩=some (.int .i64 m)
theorem Nf.mono{fm:Nat->Option Nat}{w0 w:World}(h:Nf fm w0)(hb:Below w0.heap.size w0 w):Nf fm w:=fun g hg=>by
 obtain⟨h1,m,h2⟩:=h g hg;exact⟨yB h1 hb.size,m,by rw[hb.cell (p:=⟨g-1000000000,0,none⟩) h1];exact h2⟩
theorem Nf.none{fm:Nat->Option Nat}{w0:World}(h:fm 1000000000004=Option.none):Nf fm w0:=fun g hg=>by rw[h]at hg;cases hg
structure Sk(fm:Nat->Option Nat)(w0 w:World):Prop where
 bel:Below w0.heap.size w0 w
 glob:Nf fm w0
theorem Sk.trans{fm:Nat->Option Nat}{w0 w w':World}(h:Sk fm w0 w)(k:Below w0.heap.size w w'):Sk fm w0 w':=⟨h.bel.trans k,h.glob⟩
theorem Sk.size{fm:Nat->Option Nat}{w0 w:World}(h:Sk fm w0 w):w0.heap.size<=w.heap.size:=h.bel.size
theorem Sk.here{fm:Nat->Option Nat}{w0 w:World}(h:Sk fm w0 w):Sk fm w w:=⟨Below.refl _ _,h.glob.mono h.bel⟩
structure Yy(G:Gh)(w0:World)(st:St)(w:World):Prop where
 bel:Sk G.fm w0 w
 ext :∀g o v,G.H g o=some v->w.cell? ⟨g,o,none⟩=some v/\v.oneCell'=true
 bx :∀k ver cs g,lk st.bx k=some (ver,cs)->G.ρ k ver=some g->Ix G w0 w cs g
 inj :∀k k' ver ver' cs cs' g,lk st.bx k=some (ver,cs)->lk st.bx k'=some (ver',cs')->G.ρ k ver=some g->G.ρ k' ver'=some g->k=k'
 ow :∀k ver n,lk st.ow k=some (ver,n)->∃g cap size,G.ω k ver=some (g,cap,size)/\TR G w0 w n g cap size/\∀k' ver' cs',lk st.bx k'=some (ver',cs')->G.ρ k' ver'≠some g
 owinj :∀k k' ver ver' n n' g cap size cA bJ,lk st.ow k=some (ver,n)->lk st.ow k'=some (ver',n')->G.ω k ver=some (g,cap,size)->G.ω k' ver'=some (g,cA,bJ)->k=k'
 fresh :∀k ver,st.nx<=ver->G.ρ k ver=none/\G.ω k ver=none
 bxT :∀k ver cs g,Wo<=k.2->lk st.bx k=some (ver,cs)->G.ρ k ver=some g->∃us,w.heap[g]?=some (.cells us (Gj G.fm) (0,0))/\(cs[1]?=some (.sl .full [])->us[1]?=some (.slice none 0 0))
 owT :∀k ver n,Wo<=k.2->lk st.ow k=some (ver,n)->∀g cap size,G.ω k ver=some (g,cap,size)->∃us,w.heap[g]?=some (.cells us (Mx G.fm) (0,0))
 mp :∀b l,G.M b=some l->Ft w b l
def Vk(G:Gh)(nt:Nat)(U:Sl)(a:Act):Prop:=a.defers=[]/\a.tmps.size=nt/\∀t,R G (U t) (a.tmps.getD t undef)
theorem Vk.monoR{G G':Gh}(hg:G.LeR G'){nt:Nat}{U:Sl}{a:Act}(h:Vk G nt U a):Vk G' nt U a:=⟨h.1,h.2.1,fun t=>(h.2.2 t).monoR hg⟩
theorem Vk.mono{G G':Gh}(hg:G.Le G'){nt:Nat}{U:Sl}{a:Act}(h:Vk G nt U a):Vk G' nt U a:=⟨h.1,h.2.1,fun t=>(h.2.2 t).mono hg⟩
theorem Vk.put{G:Gh}{nt:Nat}{U:Sl}{a:Act}(h:Vk G nt U a){d:Option Nat}{v:AV}{x:Value}(hd :∀t,d=some t->t<nt)(hv:R G v x):Vk G nt (Vj U d v) (a.put d x):=by
 cases d with
 |none=>exact h
 |some d=>
  have hdn:=hd d rfl;refine⟨h.1,by simp[Act.put,h.2.1],fun t=>?_⟩;by_cases TS:t=d
  ·subst TS;have aK:t<a.tmps.size:=by rw[h.2.1];exact hdn
   simpa[Vj,Uj,Act.put,aK]using hv
  ·have:=h.2.2 t;simp only[Vj,Uj,kA TS,Act.put];rw[jM,Array.getElem?_setIfInBounds_ne<|by omega,<- jM];exact this
end Go.AM

namespace Go.AM
open Go Go.RowKit
inductive TK where
 |int (k:IntKind)
 |bool
 |str
 |sl (e:Nat)
 |arr (n e:Nat)
 |st (fs:List (Nat × Nat))
 |ptr (e:Nat)
 |uptr
 |mp
 |other
structure TI where
 kind:TK
 size:Nat
 bytes:Nat
 zero:List AV
abbrev Vn:=Nat->Option TI
def Px:Value->Option AV
 |.int k n=>some (.i k n)
 |.bool x=>some (.b x)
 |.string s=>some (.s s.data.toList)
 |.slice none 0 0=>some (.sl .full [])
 |.pointer none=>some .np
 |.nilFunc=>some .nf
 |.nilIface=>some .ni
 |.map none=>some .u
 |_=>none
def Bh:List Value->Option (List AV)
 |[]=>some []
 |v::r=>match Px v,Bh r with|some w,some l=>some (w::l)|_,_=>none
def B7:Value->Option AV
 |.agg cs=>match Bh cs.toList with|some l=>some (.ag l)|none=>none
 |v=>Px v
def EqT (P:Program) (t:TypeId) (fields:Array Field):Prop:=P.stoodInHeld t=false/\P.eqGuardType P.depth t=false/\∀f∈fields.toList,(f.name== "_")=false
def TK.ok(P:Program)(t:TypeId):TK->Prop
 |.int k=>P.underlying t=some (.int k)
 |.bool=>P.underlying t=some .bool
 |.str=>P.underlying t=some .string
 |.sl e=>P.underlying t=some (.slice e)
 |.arr n e=>P.underlying t=some (.array n e)
 |.st fs=>∃fields,P.underlying t=some (.struct fields)/\fields.toList.map (fun f=>(f.type,f.offset))=fs/\EqT P t fields
 |.ptr e=>P.underlying t=some (.pointer e)/\(P.info? e).isSome=true
 |.uptr=>P.underlying t=some .unsafePointer
 |.mp=>∃k e,P.underlying t=some (.map k e)/\P.underlying k=some .string/\∀w,(zeroValue e).run P w=.ok (.int .u8 0) w
 |.other=>∃d,P.underlying t=some d/\(match d with|.struct _|.array _ _=>False|_=>True)
def TK.agg:TK->Bool
 |.arr _ _|.st _=>true
 |_=>false
structure Qe(P:Program)(t:TypeId)(i:TI):Prop where
 info :∃ti z,P.info? t=some ti/\ti.size=i.size/\ti.bytes=i.bytes/\ti.zero=some z/\Bh z.cells.toList=some i.zero/\z.cells.size=i.size
 kind:i.kind.ok P t
def Kw(P:Program)(T:Vn):Prop:=∀t i,T t=some i->Qe P t i
abbrev FM:=Nat->Option Nat
def Vb(fm:FM):Operand->Option Zw
 |.tmp t=>some (.t t)
 |.const v=>match B7 v with|some x=>some (.c x)|none=>none
 |.func f=>match fm f with|some c=>some (.c<|.fn c [])|none=>none
 |.global _=>some (.c .u)
def Ln(fm:FM):List Operand->Option (List Zw)
 |[]=>some []
 |x::r=>match Vb fm x,Ln fm r with|some y,some l=>some (y::l)|_,_=>none
def Ig(fm:FM):Option Operand->Option (Option Zw)
 |none=>some none
 |some x=>match Vb fm x with|some y=>some (some y)|none=>none
def Sp(G:Gh)(U:Sl)(a:Act)(x:Operand)(y:Zw):Prop:=R G (y.ev U) (a.eval x)
theorem TT{G:Gh}{v:Value}{x:AV}(h:Px v=some x):R G x v:=by
 unfold Px at h;split at h<;>(try cases h)
 ·exact .fz _ _ (.i _ _)
 ·exact .fz _ _ (.b _)
 ·exact .fz _ _ (.s _)
 ·exact .sl .full [] none 0 0 (.sl [] none 0 0 0 0 (fun _ _=>.nilFunc) (fun h=>absurd rfl h) (kU _) (by simp) (by simp)<|by simp) ⟨rfl,.inl rfl⟩
 ·exact .fz _ _ .np
 ·exact .fz _ _ .nf
 ·exact .fz _ _ .ni
 ·exact .fz _ _ (.u _)
theorem Es{G:Gh}:∀{vs:List Value}{xs:List AV},Bh vs=some xs->Rs G xs vs
 |[],xs,h=>by cases h;exact⟨rfl,by simp⟩
 |v::r,xs,h=>by
  unfold Bh at h;split at h
  ·rename_i w l hw hl;cases h;have ih:=Es (G:=G) hl;refine⟨by simp[ih.1],fun j a u h1 h2=>?_⟩
   cases j with
   |zero=>simp at h1 h2;subst h1;subst h2;exact TT hw
   |succ j=>simp at h1 h2;exact ih.2 j a u h1 h2
  ·cases h
theorem Xko{G:Gh}{v:Value}{x:AV}(h:B7 v=some x):R G x v:=by
 unfold B7 at h;split at h
 ·rename_i cs;split at h
  ·rename_i l hl;cases h;have:=Es (G:=G) hl;have h2:R G (.ag l) (.agg cs.toList.toArray):=.ag l cs.toList this.1 this.2;simpa using h2
  ·cases h
 ·exact TT h
theorem Rf{G:Gh}{nt:Nat}{U:Sl}{a:Act}(hA:Vk G nt U a){x:Operand}{y:Zw}(h:Vb G.fm x=some y):Sp G U a x y:=by
 unfold Vb at h;split at h
 ·cases h;exact hA.2.2 _
 ·split at h
  ·rename_i hc;cases h;exact Xko hc
  ·cases h
 ·split at h
  ·rename_i c hc;cases h;exact .fn _ _ hc [] [] rfl (by simp)
  ·cases h
 ·cases h;exact .fz _ _ (.u _)
theorem Pk{G:Gh}{nt:Nat}{U:Sl}{a:Act}(hA:Vk G nt U a):∀{xs:List Operand}{ys:List Zw},Ln G.fm xs=some ys->Rs G (ys.map (·.ev U)) (xs.map a.eval)
 |[],ys,h=>by cases h;exact⟨rfl,by simp⟩
 |x::r,ys,h=>by
  unfold Ln at h;split at h
  ·rename_i y l hy hl;cases h;have ih:=Pk hA hl;refine⟨by simpa using ih.1,fun j b u h1 h2=>?_⟩
   cases j with
   |zero=>simp at h1 h2;subst h1;subst h2;exact Rf hA hy
   |succ j=>simp only[jB,zN]at h1 h2;exact ih.2 j b u h1 h2
  ·cases h
section
variable{P:Program}{G:Gh}{w:World}
theorem Ywj{op:BinOp}{t:TypeId}{k:IntKind}{a b:Int}{r:AV}(h:Gl op k a b=some r):
  ∃v,(binOp op t (.int k a)<|.int k b).run P w=.ok v w/\R G r v:=by
 have hi :∀n:Int,R G (.i k n) (.int k n):=fun n=>.fz _ _ (.i _ _)
 have hb :∀x:Bool,R G (.b x) (.bool x):=fun n=>.fz _ _ (.b _)
 cases op with
 |add=>cases h;exact⟨_,by simp[binOp,Op.intArith],hi _⟩
 |sub=>cases h;exact⟨_,by simp[binOp,Op.intArith],hi _⟩
 |mul=>cases h;exact⟨_,by simp[binOp,Op.intArith],hi _⟩
 |quo=>
  simp only[Gl]at h;split at h
  ·cases h
  ·rename_i h0;cases h;exact⟨_,by simp[binOp,Op.intDiv,h0],hi _⟩
 |rem=>
  simp only[Gl]at h;split at h
  ·cases h
  ·rename_i h0;cases h;exact⟨_,by simp[binOp,Op.intDiv,h0],hi _⟩
 |and=>cases h;exact⟨_,by simp[binOp,Op.intBits],hi _⟩
 |or=>cases h;exact⟨_,by simp[binOp,Op.intBits],hi _⟩
 |xor=>cases h;exact⟨_,by simp[binOp,Op.intBits],hi _⟩
 |andNot=>cases h;exact⟨_,by simp[binOp,Op.intBits],hi _⟩
 |eql=>cases h;exact⟨_,by simp[binOp,Op.intCmp],hb _⟩
 |neq=>cases h;exact⟨_,by simp[binOp,Op.intCmp],hb _⟩
 |lss=>cases h;exact⟨_,by simp[binOp,Op.intCmp],hb _⟩
 |leq=>cases h;exact⟨_,by simp[binOp,Op.intCmp],hb _⟩
 |gtr=>cases h;exact⟨_,by simp[binOp,Op.intCmp],hb _⟩
 |geq=>cases h;exact⟨_,by simp[binOp,Op.intCmp],hb _⟩
 |shl=>cases h
 |shr=>cases h
theorem TU{op:BinOp}{t:TypeId}{k k':IntKind}{a b:Int}{r:AV}(h:qF op k a b=some r):
  ∃v,(binOp op t (.int k a)<|.int k' b).run P w=.ok v w/\R G r v:=by
 have hi :∀n:Int,R G (.i k n) (.int k n):=fun n=>.fz _ _ (.i _ _)
 unfold qF at h;split at h
 ·cases h
 ·rename_i h0;split at h
  ·cases h;exact⟨_,by simp[binOp,Op.shift,h0],hi _⟩
  ·cases h;exact⟨_,by simp[binOp,Op.shift,h0],hi _⟩
  ·cases h
theorem Yvw{op:BinOp}{t:TypeId}{x y r:AV}{vx vy:Value}(hx:R G x vx)(hy:R G y vy)(h:Wb op x y=some r):
  ∃v,(binOp op t vx vy).run P w=.ok v w/\R G r v:=by
 unfold Wb at h;split at h
 ·rename_i k a k' b;cases hx.int_inv;cases hy.int_inv;split at h
  ·exact TU h
  ·exact TU h
  ·split at h
   ·rename_i hk;subst hk;exact Ywj h
   ·cases h
 ·rename_i a b;cases hx.str_inv;cases hy.str_inv;split at h
  ·split at h
   ·rename_i hle;cases h;refine⟨.string ⟨(a++b).toArray⟩,?_,.fz _ _<|.s _⟩;have h1:(ByteArray.mk a.toArray).size=a.length:=by simp[ByteArray.size]
    have h2:(ByteArray.mk b.toArray).size=b.length:=by simp[ByteArray.size]
    have h3:¬ (((ByteArray.mk a.toArray).size+(ByteArray.mk b.toArray).size:Nat):Int)>IntKind.i64.max:=by
     rw[h1,h2];unfold Yj at hle;simp[IntKind.max,IntKind.bits];omega
    have h4:(ByteArray.mk a.toArray)++(ByteArray.mk b.toArray)=ByteArray.mk (a++b).toArray:=by
     apply ByteArray.ext;simp
    rw[h1,h2]at h3;simp only[binOp,Op.stringOp,h1,h2,kA h3,h4,jW]
   ·cases h
  ·cases h;exact⟨_,by simp[binOp,Op.stringOp],.fz _ _<|.b _⟩
  ·cases h;exact⟨_,by simp[binOp,Op.stringOp],.fz _ _<|.b _⟩
  ·cases h
 ·cases h
end
end Go.AM

namespace Go.AM
open Go Go.RowKit
section
variable{P:Program}{G:Gh}{w:World}{U:Sl}{a:Act}
theorem Sd{x:AV}{n:Nat}{v:Value}(h:x.nat=some n)(hx:R G x v):∃k,v=.int k (n:Int):=by
 unfold AV.nat at h;split at h
 ·rename_i k m;split at h
  ·rename_i h0;cases h;exact⟨k,by rw[hx.int_inv,Int.toNat_of_nonneg h0]⟩
  ·cases h
 ·cases h
def Ny(G:Gh)(U:Sl)(a:Act):Option Operand->Option Zw->Prop
 |none,none=>True
 |some x,some y=>Sp G U a x y
 |_,_=>False
theorem Xgr{nt:Nat}(hA:Vk G nt U a){x:Option Operand}{y:Option Zw}(h:Ig G.fm x=some y):Ny G U a x y:=by
 cases x with
 |none=>cases h;trivial
 |some x=>
  unfold Ig at h;simp only at h;split at h
  ·rename_i y' hy;cases h;exact Rf hA hy
  ·cases h
theorem rf{k:IntKind}{i y:Nat}{code:BoundsCode}(h:i<=y):(Instr.sliceBound (.int k (i:Int)) y code).run P w=.ok i w:=by have:=run_sliceBound (P:=P) (w:=w) k (i:Int) y code (by omega) (by omega);simpa using this
theorem B8{lo hi:Option Zw}{dW dU:Option Operand}(cO:Ny G U a dW lo)(eN:Ny G U a dU hi){len cap C l h:Nat}(hb:Qk U len cap lo hi=some (l,h))(hC:cap<=C)(isS:Bool):
  (Instr.sliceBounds isS len C (dW.map a.eval) (dU.map a.eval) none).run P w=.ok (l,h,C) w/\l<=h/\h<=cap:=by
 unfold Qk at hb;split at hb
 ·cases hb
 ·rename_i h1 hh;split at hb
  ·cases hb
  ·rename_i l1 hl;split at hb
   ·rename_i hle;cases hb;refine⟨?_,hle.1,hle.2⟩
    cases hi with
    |none=>
     cases dU with
     |none=>
      cases hh
      cases lo with
      |none=>
       cases dW with
       |none=>cases hl;simp[Instr.sliceBounds]
       |some x=>exact cO.elim
      |some y=>
       cases dW with
       |none=>exact cO.elim
       |some x=>
        obtain⟨k,hv⟩:=Sd hl cO;simp[Instr.sliceBounds,hv,rf hle.1]
     |some x=>exact eN.elim
    |some y=>
     cases dU with
     |none=>exact eN.elim
     |some x=>
      obtain⟨k,hv⟩:=Sd hh eN;have m5:h<=C:=kX hle.2 hC
      cases lo with
      |none=>
       cases dW with
       |none=>cases hl;simp[Instr.sliceBounds,hv,rf m5]
       |some x=>exact cO.elim
      |some y=>
       cases dW with
       |none=>exact cO.elim
       |some x=>
        obtain⟨k',fF⟩:=Sd hl cO;simp[Instr.sliceBounds,hv,fF,rf m5,rf hle.1]
   ·cases hb
theorem Xt0{t:TypeId}(ht:P.underlying t=some .string){x:Zw}{x':Operand}(hx:Sp G U a x' x){lo hi:Option Zw}{dW dU:Option Operand}(cO:Ny G U a dW lo)(eN:Ny G U a dU hi){r:AV}
  (h:(match x.ev U with|.s l=>(Qk U l.length l.length lo hi).map fun(a,b)=>AV.s ((l.drop a).take<|b-a)|_=>none)=some r):∃v,(Instr.sliceAt t (a.eval x') (dW.map a.eval) (dU.map a.eval) none).run P w=.ok v w/\R G r v:=by
 split at h
 ·rename_i l hl;unfold Sp at hx;rw[hl]at hx;simp only[kN,Prod.exists]at h;obtain⟨b,c,hb,rfl⟩:=h;have hs:(ByteArray.mk l.toArray).size=l.length:=by simp[ByteArray.size]
  obtain⟨hr,h1,h2⟩:=B8 (P:=P) (w:=w) cO eN hb (kU _) false;refine⟨_,?_,.fz _ _<|.s _⟩;rw[hx.str_inv];simp[Instr.sliceAt,Instr.slice,run_underlying ht,hs,hr,ByteArray.extract_mk]
 ·cases h
theorem Xab{s:TypeId}{fs:List (Nat × Nat)}(ht:(TK.st fs).ok P s){f ft off:Nat}(hf:fs[f]?=some (ft,off)){ti:TypeInfo}(hi:P.info? ft=some ti)(hz:ti.size≠0){x:AV}{vx:Value}{r:AV}
  (h:(match x with|.p k v o=>some (.p k v<|o+off)|.fp cs=>some (.fp<|cs.drop off)|_=>none)=some r) (hx:R G x vx):∃v,(Instr.fieldAt s vx f).run P w=.ok v w/\R G r v:=by
 obtain⟨fields,hu,c_,_⟩:=ht
 have eI :∃fl,fields[f]?=some fl/\fl.type=ft/\fl.offset=off:=by
  rw[<- c_]at hf;simp only[jY,kN,zY]at hf;obtain⟨fl,h1,h2⟩:=hf;exact⟨fl,h1,by injection h2,by injection h2⟩
 obtain⟨fl,eI,rfl,rfl⟩:=eI
 have key :∀g o:Nat,(Instr.fieldAt s (.pointer<|some ⟨g,o,none⟩) f).run P w=.ok (.pointer<|some ⟨g,o+fl.offset,none⟩) w:=by
  intro g o;simp[Instr.fieldAt,run_underlying hu,eI,Instr.sureAddr,fieldPlace,sizeOf,typeInfo,hi,hz,yR]
 revert hx;split at h
 ·intro hx;cases h;obtain⟨g,rfl,hg⟩:=hx.p_inv;exact⟨_,key _ _,.p _ _ _ _ hg⟩
 ·intro hx;cases h;obtain⟨g,o,us,rfl,h1,h2⟩:=hx.fp_inv;refine⟨_,key _ _,.fp _ (fun j=>us<|fl.offset+j) _ _ (fun j b hb=>?_)<|fun j b hb=>?_⟩
  ·rw[zI]at hb;rw[Nat.add_assoc];exact h1 _ _ hb
  ·rw[zI]at hb;exact h2 _ _ hb
 ·cases h
theorem Cq{t:TypeId}{k:TK}(ht:k.ok P t):(isAgg t).run P w=.ok k.agg w:=by
 cases k with
 |int k=>simp[isAgg,run_underlying ht,TK.agg]
 |bool=>simp[isAgg,run_underlying ht,TK.agg]
 |str=>simp[isAgg,run_underlying ht,TK.agg]
 |sl e=>simp[isAgg,run_underlying ht,TK.agg]
 |ptr e=>simp[isAgg,run_underlying ht.1,TK.agg]
 |uptr=>simp[isAgg,run_underlying ht,TK.agg]
 |arr n e=>simp[isAgg,run_underlying ht,TK.agg]
 |st fs=>obtain⟨fields,hu,_⟩:=ht;simp[isAgg,run_underlying hu,TK.agg]
 |mp=>obtain⟨k,e,hu,_⟩:=ht;simp[isAgg,run_underlying hu,TK.agg]
 |other=>
  obtain⟨d,hu,hd⟩:=ht;simp only[isAgg,jN,run_underlying hu,jG,TK.agg];cases d<;>first|rfl|exact hd.elim
theorem TV{cs:List AV}{us:List Value}(hr:Rs G cs us){agg:Bool}{r:AV}(h:Uh agg cs=some r):(agg=true/\R G r (.agg us.toArray))\/(agg=false/\∃v,us=[v]/\R G r v):=by
 unfold Uh at h
 cases agg with
 |true=>simp at h;subst h;exact .inl ⟨rfl,.ag _ _ hr.1 hr.2⟩
 |false=>
  simp at h;split at h
  ·rename_i v;cases h
   match us,hr with
   |[u],hr=>exact .inr ⟨rfl,u,rfl,hr.2 0 _ _ rfl rfl⟩
   |[],hr=>have:=hr.1;simp at this
   |_::_::_,hr=>have:=hr.1;simp at this
  ·cases h
theorem Rs.sub{cs:List AV}{us:List Value}(hr:Rs G cs us)(o n:Nat):Rs G ((cs.drop o).take n) ((us.drop o).take n):=by
 refine⟨by simp[hr.1],fun j b u h1 h2=>?_⟩;rw[zD]at h1 h2;split at h1
 ·rename_i hj;rw[kC hj]at h2;rw[zI]at h1 h2;exact hr.2 _ _ _ h1 h2
 ·cases h1
theorem TW{t:TypeId}{i:TI}(hT:Qe P t i){cs:List AV}{us:List Value}(hr:Rs G cs us){off:Nat}{r:AV}(h:Uh i.kind.agg ((cs.drop off).take i.size)=some r)(aAg:off+i.size<=cs.length)(h1:i.kind.agg=false->i.size=1):
  ∃v,(part t us.toArray off).run P w=.ok v w/\R G r v:=by
 obtain⟨ti,z,hi,aM,_⟩:=hT.info;rcases TV (hr.sub off i.size) h with⟨ha,hv⟩|⟨ha,v,hu,hv⟩
 ·refine⟨_,?_,hv⟩;simp only[part,jN,Cq hT.kind,jG,ha,jS,sizeOf,typeInfo,run_program,hi,jW,aM]
  congr 2
  simp[List.extract_toArray,List.extract_eq_take_drop]
 ·refine⟨v,?_,hv⟩
  have hg:us[off]?=some v:=by
   have:((us.drop off).take i.size)[0]?=some v:=by rw[hu];rfl
   rw[zD,kC (by rw[h1 ha];omega),zI]at this;simpa using this
  simp only[part,jN,Cq hT.kind,jG,ha,jL,jT,yH,hg,jW]
theorem Xly{s:TypeId}{fs:List (Nat × Nat)}(ht:(TK.st fs).ok P s){f ft off:Nat}(hf:fs[f]?=some (ft,off)){i:TI}(hT:Qe P ft i)(h1:i.kind.agg=false->i.size=1){x:AV}{vx:Value}{r:AV}
  (h:(match x with|.ag cs=>if off+i.size<=cs.length then Uh i.kind.agg ((cs.drop off).take i.size)else none|_=>none)=some r) (hx:R G x vx):∃v,(Instr.field s vx f).run P w=.ok v w/\R G r v:=by
 obtain⟨fields,hu,c_,_⟩:=ht
 have eI :∃fl,fields[f]?=some fl/\fl.type=ft/\fl.offset=off:=by
  rw[<- c_]at hf;simp only[jY,kN,zY]at hf;obtain⟨fl,h1,h2⟩:=hf;exact⟨fl,h1,by injection h2,by injection h2⟩
 obtain⟨fl,eI,rfl,rfl⟩:=eI;revert hx;split at h
 ·rename_i cs;intro hx;split at h
  ·rename_i hle;obtain⟨us,rfl,hr⟩:=hx.ag_inv;obtain⟨v,hv,hR⟩:=TW (P:=P) (w:=w) hT hr h hle h1;refine⟨v,?_,hR⟩;simp[Instr.field,run_underlying hu,eI,asAgg,hv]
  ·cases h
 ·cases h
theorem Xkv{t:TypeId}{n e:Nat}(ht:P.underlying t=some (.array n e)){ti:TypeInfo}(hi:P.info? e=some ti){x ix:AV}{vx vi:Value}{r:AV}
  (h:(match x,ix.nat with|.p k v o,some j=>if j<n then some (.p k v<|o+j*ti.size)else none|_,_=>none)=some r) (hx:R G x vx) (eP:R G ix vi):∃v,(Instr.indexAt t vx vi).run P w=.ok v w/\R G r v:=by
 revert hx eP;split at h
 ·rename_i k v o j hj;intro hx eP;split at h
  ·rename_i aK;cases h;obtain⟨g,rfl,hg⟩:=hx.p_inv;obtain⟨k',rfl⟩:=Sd hj eP;refine⟨_,?_,.p _ _ _ _ hg⟩;have h0:(0:Int)<=(j:Int)/\(j:Int)<(n:Int):=⟨by omega,by omega⟩;simp[Instr.indexAt,run_underlying ht,asIntOf,Instr.sureAddr,sizeOf,typeInfo,hi,yR,aK]
  ·cases h
 ·cases h
theorem Xbf{t:TypeId}{e:Nat}(ht:P.underlying t=some (.slice e)){ti:TypeInfo}(hi:P.info? e=some ti){x ix:AV}{vx vi:Value}{r:AV}
  (h:(match x,ix.nat with|.sl _ rows,some k=>(match rows[k]? with|some row=>if row.length=ti.size/\0<ti.size then some (.fp row)else none|none=>none)|_,_=>none)=some r) (hx:R G x vx) (eP:R G ix vi):∃v,(Instr.indexAt t vx vi).run P w=.ok v w/\R G r v:=by
 revert hx eP;split at h
 ·rename_i o rows k hk;intro hx eP;split at h
  ·rename_i row aE;split at h
   ·rename_i hlen;obtain⟨hlen,aI⟩:=hlen;cases h;obtain⟨A,cap,rfl,hF,_⟩:=hx.sl_inv;obtain⟨k',rfl⟩:=Sd hk eP
    have aK:k<rows.length:=by
     rcases jF k rows.length with h|h
     ·exact h
     ·rw[kT h]at aE;cases aE
    cases hF with
    |sl _ A cap size g off us hA bA hs hH hFz=>
    have lH:=hA (by intro h;rw[h]at aK;simp at aK);subst lH;have aM:size=ti.size:=by rw[<- hs k row aE,hlen]
    subst aM;refine⟨.pointer<|some ⟨g,off+k*ti.size,none⟩,?_,.fp _ (us k) _ _ (fun j b hb=>hH k row j b aE hb)<|fun j b hb=>hFz k row j b aE hb⟩;simp[Instr.indexAt,run_underlying ht,asIntOf,sizeOf,typeInfo,hi,yR,aK]
   ·cases h
  ·cases h
 ·cases h
theorem Xc2{t:TypeId}(ht:P.underlying t=some .string){x ix:AV}{vx vi:Value}{r:AV}
  (h:(match x,ix.nat with|.s l,some j=>(l[j]?).map fun c=>AV.i .u8 c.toNat|_,_=>none)=some r) (hx:R G x vx) (eP:R G ix vi):∃v,(Instr.index t vx vi).run P w=.ok v w/\R G r v:=by
 revert hx eP;split at h
 ·rename_i l j hj;intro hx eP;simp only[kN]at h;obtain⟨c,hc,rfl⟩:=h;obtain⟨k',rfl⟩:=Sd hj eP;rw[hx.str_inv]
  have aK:j<l.length:=by
   rcases jF j l.length with h|h
   ·exact h
   ·rw[kT h]at hc;cases hc
  refine⟨_,?_,.fz _ _<|.i _ _⟩;have hs:(ByteArray.mk l.toArray).size=l.length:=by simp[ByteArray.size]
  have hg:(ByteArray.mk l.toArray)[j]?=some c:=by
   rw[ByteArray.getElem?_lt' _ _ (by rw[hs];exact aK)];rw[kH aK]at hc;injection hc with hc;rw[<- hc];rfl
  simp[Instr.index,run_underlying ht,asIntOf,hg]
 ·cases h
theorem Yzm{t:TypeId}{n e:Nat}(ht:P.underlying t=some (.array n e)){i:TI}(hT:Qe P e i)(h1:i.kind.agg=false->i.size=1){x ix:AV}{vx vi:Value}{r:AV}
  (h:(match x,ix.nat with|.ag cs,some j=>if j<n/\j*i.size+i.size<=cs.length then Uh i.kind.agg ((cs.drop<|j*i.size).take i.size)else none|_,_=>none)=some r) (hx:R G x vx) (eP:R G ix vi):∃v,(Instr.index t vx vi).run P w=.ok v w/\R G r v:=by
 revert hx eP;split at h
 ·rename_i cs j hj;intro hx eP;split at h
  ·rename_i hle;obtain⟨us,rfl,hr⟩:=hx.ag_inv;obtain⟨k',rfl⟩:=Sd hj eP;obtain⟨v,hv,hR⟩:=TW (P:=P) (w:=w) hT hr h hle.2 h1;obtain⟨ti,z,hi,aM,_⟩:=hT.info;refine⟨v,?_,hR⟩;simp[Instr.index,run_underlying ht,asIntOf,sizeOf,typeInfo,hi,aM,hle.1,hv]
  ·cases h
 ·cases h
theorem Xo8{t:TypeId}{e:Nat}(ht:P.underlying t=some (.slice e)){ti:TypeInfo}(hi:P.info? e=some ti){x:Zw}{x':Operand}(hx:Sp G U a x' x){lo dU:Option Zw}{dW fZ:Option Operand}(cO:Ny G U a dW lo)(eN:Ny G U a fZ dU){r:AV}
  (h:(match x.ev U with|.sl _ rows=>if rows.all (·.length==ti.size)then (Qk U rows.length rows.length lo dU).map fun(a,b)=>AV.sl .ext ((rows.drop a).take<|b-a)else none|_=>none)=some r):∃v,(Instr.sliceAt t (a.eval x') (dW.map a.eval) (fZ.map a.eval) none).run P w=.ok v w/\R G r v:=by
 split at h
 ·rename_i o rows hl;split at h
  ·rename_i bW;unfold Sp at hx;rw[hl]at hx;simp only[kN,Prod.exists]at h;obtain⟨l,u,hb,rfl⟩:=h;obtain⟨A,cap,hv,hF,_⟩:=hx.sl_inv;have B9:=hF
   cases hF with
   |sl _ A cap size g off us hA bA hs hH hFz=>
   obtain⟨hr,h1,h2⟩:=B8 (P:=P) (w:=w) cO eN hb bA true;refine⟨.slice (if cap=l then A else A.map (·.add (l*ti.size))) (u-l)<|cap-l,?_,?_⟩
   ·rw[hv];simp[Instr.sliceAt,Instr.slice,run_underlying ht,hr,sizeOf,typeInfo,hi]
   ·have hlen:((rows.drop l).take<|u-l).length=u-l:=by simp;omega
    have aM:rows≠[]->size=ti.size:=by
     intro aQ
     cases rows with
     |nil=>exact absurd rfl aQ
     |cons row rest=>
      rw[<- hs 0 row rfl];simp at bW;exact bW.1
    have iE:R G (.sl .ext<|(rows.drop l).take<|u-l) (.slice (if cap=l then A else A.map (·.add (l*ti.size))) ((rows.drop l).take<|u-l).length<|cap-l):=by
     refine .fz _ _ (.sl _ _ _ ti.size g (off+l*ti.size) (fun i j=>us (l+i) j) ?_ (by omega) ?_ ?_ ?_)
     ·intro aQ;have aZ:rows≠[]:=by rintro rfl;simp at aQ
      have SG:l<u:=by
       rcases jF l u with h|h
       ·exact h
       ·exfalso;apply aQ;apply List.eq_nil_of_length_eq_zero;rw[hlen];omega
      rw[kA<|by omega,hA aZ];simp[yR]
     ·intro i row aE;rw[zD]at aE;split at aE
      ·rw[zI]at aE;rw[hs _ _ aE];exact aM (by rintro rfl;simp at aE)
      ·cases aE
     ·intro i row j b aE hb;rw[zD]at aE;split at aE
      ·rw[zI]at aE;have:=hH _ row j b aE hb;rw[aM (by rintro rfl;simp at aE)]at this;rw[<- this]
       congr 1
       rw[Nat.add_mul];omega
      ·cases aE
     ·intro i row j b aE hb;rw[zD]at aE;split at aE
      ·rw[zI]at aE;exact hFz _ row j b aE hb
      ·cases aE
    rw[hlen]at iE;exact iE
  ·cases h
 ·cases h
theorem Yw0{t:TypeId}(ht:P.underlying t=some .string){x:AV}{vx:Value}{ty:TypeId}{r:AV}
  (h:(match x with|.s l=>some (AV.i .i64 l.length)|_=>none)=some r) (hx:R G x vx):∃v,(Builtin.len_ #[t] ty #[vx]).run P w=.ok v w/\R G r v:=by
 revert hx;split at h
 ·rename_i l;intro hx;cases h;rw[hx.str_inv];refine⟨.int .i64 l.length,?_,.fz _ _<|.i _ _⟩;have hs:(ByteArray.mk l.toArray).size=l.length:=by simp[ByteArray.size]
  simp[Builtin.len_,run_underlying ht,goInt,hs]
 ·cases h
theorem Xd5{t e:TypeId}(ht:P.underlying t=some (.slice e)){x:AV}{vx:Value}{ty:TypeId}{r:AV}
  (h:(match x with|.sl _ rows=>some (AV.i .i64 rows.length)|_=>none)=some r) (hx:R G x vx):∃v,(Builtin.len_ #[t] ty #[vx]).run P w=.ok v w/\R G r v:=by
 revert hx;split at h
 ·rename_i o rows;intro hx;cases h;obtain⟨A,cap,rfl,_⟩:=hx.sl_inv;refine⟨.int .i64 rows.length,?_,.fz _ _<|.i _ _⟩;simp[Builtin.len_,run_underlying ht,goInt]
 ·cases h
theorem Xam{k:Nat}{x:AV}{vx:Value}{r:AV}(h:(match x with|.tup vs=>vs[k]?|_=>none)=some r)(hx:R G x vx):∃v,(Instr.extract vx k).run P w=.ok v w/\R G r v:=by
 revert hx;split at h
 ·rename_i vs;intro hx;obtain⟨us,rfl,hr⟩:=hx.tup_inv
  have hk:k<us.length:=by
   rw[<- hr.1];rcases jF k vs.length with h'|h'
   ·exact h'
   ·rw[kT h']at h;cases h
  refine⟨us[k],?_,hr.2 k _ _ h<|kH hk⟩;simp[Instr.extract,kH hk]
 ·cases h
theorem Wce{op:UnOp}{x:AV}{vx:Value}{r:AV}(h:(match op,x with|.not,.b t=>some (AV.b<|!t)|.neg,.i k n=>some (.i k<|k.wrap<|0-n)|_,_=>none)=some r)(hx:R G x vx):∃v,(Op.unary op vx).run P w=.ok v w/\R G r v:=by
 revert hx;split at h
 ·intro hx;cases h;rw[hx.bool_inv];exact⟨_,by simp[Op.unary],.fz _ _<|.b _⟩
 ·intro hx;cases h;rw[hx.int_inv];exact⟨_,by simp[Op.unary,Op.intArith],.fz _ _<|.i _ _⟩
 ·cases h
theorem Xhs{src dst:TypeId}{d:TypeDesc}{k:IntKind}(hs:P.underlying src=some d)(hd:P.underlying dst=some (.int k)){x:AV}{vx:Value}{r:AV}(h:(match x with|.i _ n=>some (AV.i k<|k.wrap n)|_=>none)=some r)(hx:R G x vx):∃v,(convert src dst vx).run P w=.ok v w/\R G r v:=by
 revert hx;split at h
 ·intro hx;cases h;rw[hx.int_inv];exact⟨_,by simp[convert,run_underlying hs,run_underlying hd,Conv.intToInt],.fz _ _<|.i _ _⟩
 ·cases h
theorem Xea{t:TypeId}(ht:P.underlying t=some .bool){neg:Bool}{x y:AV}{vx vy:Value}{r:AV}(h:(match x,y with|.b x,.b y=>some (AV.b<|if neg then !(x==y)else x==y)|_,_=>none)=some r)(hx:R G x vx)(hy:R G y vy):
  ∃v,(binOp (if neg then .neq else .eql) t vx vy).run P w=.ok v w/\R G r v:=by
 revert hx hy;split at h
 ·intro hx hy;cases h;rw[hx.bool_inv,hy.bool_inv];have key :∀(d:Nat) (p q:Bool),(Op.equalIn (d+1) t (.bool p)<|.bool q).run P w=.ok (p==q) w:=fun d p q=>by simp[Op.equalIn,run_underlying ht]
  cases neg
  ·refine⟨_,?_,.fz _ _<|.b _⟩;simp only[binOp,jL,jT];simp[Op.equal,Op.maxDepth,key 9999]
  ·refine⟨_,?_,.fz _ _<|.b _⟩;simp only[binOp,jS];simp[Op.equal,Op.maxDepth,key 9999]
 ·cases h
theorem Xtk{row:List AV}{c:UInt8}(h:An row=some c):row=Yx c:=by
 unfold An at h;split at h
 ·rename_i n;split at h
  ·rename_i hn;cases h;simp only[Yx]
   congr 2
   have:n.toNat<256:=by omega
   have h2:(n.toNat.toUInt8).toNat=n.toNat:=by simp[Nat.toUInt8];omega
   rw[h2];omega
  ·cases h
 ·cases h
theorem B_:∀{rows:List (List AV)}{l:BS},Mv rows=some l->rows=l.map Yx
 |[],l,h=>by cases h;rfl
 |row::rest,l,h=>by
  unfold Mv at h;split at h
  ·rename_i c l' h1 h2;cases h;rw[Xtk h1,B_ h2];rfl
  ·cases h
theorem Xdx(l:BS):Mv (l.map Yx)=some l:=by
 induction l with
 |nil=>rfl
 |cons c l ih=>
  have:An (Yx c)=some c:=by
   have hc:c.toNat<256:=c.toNat_lt;simp only[Yx,An];rw[kC ⟨by omega,by omega⟩];simp
  simp only[jB,Mv,this,ih]
theorem Wb8(l:BS):∀s:ByteArray,(l.map<|fun c=>(c.toNat:Int)).foldl (fun(r:ByteArray) n=>r.push<|UInt8.ofNat n.toNat) s=ByteArray.mk (s.data.toList++l).toArray:=by
 induction l with
 |nil=>intro s;simp
 |cons c l ih=>
  intro s;simp only[jB,List.foldl_cons];rw[ih];simp[ByteArray.push]
theorem Xfl{src dst e:TypeId}(hs:P.underlying src=some (.slice e))(he:P.underlying e=some (.int .u8))(hd:P.underlying dst=some .string){x:AV}{vx:Value}(CA :∀g o v,G.H g o=some v->w.cell? ⟨g,o,none⟩=some v){r:AV}
  (h:(match x with|.sl _ rows=>(Mv rows).map AV.s|_=>none)=some r) (hx:R G x vx):∃v,(convert src dst vx).run P w=.ok v w/\R G r v:=by
 revert hx;split at h
 ·rename_i o rows;intro hx;simp only[kN]at h;obtain⟨l,hl,rfl⟩:=h;have aZ:=B_ hl;subst aZ;obtain⟨A,cap,rfl,hF,_⟩:=hx.sl_inv;refine⟨.string ⟨l.toArray⟩,?_,.fz _ _<|.s _⟩;rw[run_convert_bytes_string w src dst e _ _ _ hs he hd]
  cases l with
  |nil=>
   cases A with
   |none=>simp[Conv.bytesToString];rfl
   |some ad=>
    have hc:(loadCells ad 0).run P w=.ok ((([]:List Int).map<|Value.int .u8).toArray) w:=by simp[loadCells,loadCellsFrom]
    have:=run_bytesToString w ad 0 cap [] hc;have h2:(Conv.bytesToString<|.slice (some ad) 0 cap).run P w=.ok (.string ByteArray.empty) w:=by simpa using this
    exact h2
  |cons c l=>
   cases hF with
   |sl _ A cap size g off us hA bA aM hH hFz=>
   have lH:=hA (by simp);subst lH;have bF:size=1:=by rw[<- aM 0 (Yx c) rfl];rfl
   subst bF
   have lI:(loadCells ⟨g,off,none⟩ (c::l).length).run P w=.ok ((((c::l).map<|fun c=>(c.toNat:Int)).map<|Value.int .u8).toArray) w:=by
    have:=run_loadCells_list (P:=P) w ⟨g,off,none⟩ (((c::l).map<|fun c=>(c.toNat:Int)).map<|Value.int .u8) ?_
    ·simpa using this
    ·intro j v hv;rw[yR];simp only[List.map_map,jY,kN]at hv;obtain⟨d,hd,rfl⟩:=hv;have aE:((c::l).map Yx)[j]?=some (Yx d):=by simp only[jY,hd,kK]
     have h1:=hH j (Yx d) 0 _ aE rfl;have h2:=hFz j (Yx d) 0 _ aE rfl;have h3:=CA _ _ _ h1;generalize us j 0=v0 at h2 h3;cases h2;simpa using h3
   simp only[jK];rw[run_bytesToString w ⟨g,off,none⟩ (c::l).length cap _ lI];rw[Wb8];rfl
 ·cases h
end
end Go.AM

namespace Go.AM
open Go Go.RowKit
section lists
variable{α:Type}
theorem CB(l:List (Zt × α))(k:Zt)(a:α)(k':Zt):lk (Xm l k a) k'=if k=k' then some a else lk l k':=by
 induction l with
 |nil=>simp[Xm,lk]
 |cons x r ih=>
  obtain⟨k1,b⟩:=x;simp only[Xm];split
  ·rename_i h;subst h;simp only[lk];split<;>rfl
  ·rename_i h;simp only[lk];split
   ·rename_i h2;subst h2;rw[kA<|fun e=>h e.symm]
   ·rw[ih]
theorem my(l:List (Zt × α))(k:Zt)(a:α):lk (Xm l k a) k=some a:=by rw[CB,kC rfl]
theorem Ci(l:List (Zt × α)){k k':Zt}(a:α)(h:k≠k'):lk (Xm l k a) k'=lk l k':=by rw[CB,kA h]
theorem TP(l:List (Zt × α))(p:Zt->Bool)(k:Zt):lk (l.filter fun x=>p x.1) k=if p k then lk l k else none:=by
 induction l with
 |nil=>simp[lk]
 |cons x r ih=>
  obtain⟨k1,b⟩:=x;simp only[List.filter_cons];by_cases h:k1=k
  ·subst h
   cases hp:p k1 with
   |true=>simp[lk]
   |false=>simp[ih,hp]
  ·split
   ·simp only[lk,kA h,ih]
   ·simp only[ih,lk,kA h]
theorem Tb(l:List (Zt × α))(k k':Zt):lk (del l k) k'=if k'=k then none else lk l k':=by unfold del;have:=TP l (fun x=>decide<|x≠k) k';rw[this];by_cases h:k'=k<;>simp[h]
end lists
structure Vq(G G':Gh)(w0:World)(st aA:St)(w':World)(d site ver:Nat):Prop where
 le:G.Le G'
 rel:Yy G' w0 aA w'
 nx:st.nx<=aA.nx
 old :∀k v,v<st.nx->(k,v)≠((d,site),ver)->G'.ρ k v=G.ρ k v/\G'.ω k v=G.ω k v
 pend :∀k v cs,k.1<=d->v<st.nx->k≠(d,site)->G.ρ k v=none->lk st.bx k=some (v,cs)->lk aA.bx k=some (v,cs)
 newH :∀g o v,G'.H g o=some v->G.H g o=some v\/w0.heap.size<=g
section
variable{P:Program}{G:Gh}{w0 w:World}{st:St}
theorem Vq.same{w':World}{d site ver:Nat}(hR:Yy G w0 st w'):Vq G G w0 st st w' d site ver:=
 ⟨.refl G,hR,kU _,fun _ _ _ _=>⟨rfl,rfl⟩,fun _ _ _ _ _ _ _ h=>h,fun _ _ _ h=>.inl h⟩
theorem Qx{w:World}{g:Nat}{o:Obj}(h:w.heap[g]?=some o):g<w.heap.size:=by
 rcases jF g w.heap.size with h'|h'
 ·exact h'
 ·rw[Array.getElem?_eq_none h']at h;cases h
theorem Yy.cell(hR:Yy G w0 st w):∀g o v,G.H g o=some v->w.cell? ⟨g,o,none⟩=some v:=fun g o v h=>(hR.ext g o v h).1
theorem Yy.Hlt(hR:Yy G w0 st w){g o:Nat}{v:Value}(h:G.H g o=some v):g<w.heap.size:=block_lt_of_cell (hR.ext g o v h).1
theorem Yy.grow(hR:Yy G w0 st w){w':World}(hb:Below w.heap.size w w'){H':Hp}(hle:Ba G.H H')
  (hH :∀g o v,H' g o=some v->G.H g o=some v\/(w.heap.size<=g/\w'.cell? ⟨g,o,none⟩=some v/\v.oneCell'=true)):Yy ⟨H',G.ρ,G.ω,G.fm,G.M⟩ w0 st w':=by
 have cG :∀g cs,Ix G w0 w cs g->Ix ⟨H',G.ρ,G.ω,G.fm,G.M⟩ w0 w' cs g:=by
  rintro g cs ⟨us,e,h1,h2,h3,h4,h5⟩;refine⟨us,e,h1,by rw[hb.block g<|Qx h2];exact h2,Rs.mono (G':=⟨H',G.ρ,G.ω,G.fm,G.M⟩) ⟨hle,fun _ _ _ h=>h,fun _ _ _ h=>h,rfl,fun _ _ h=>h⟩ h3,h4,fun o=>?_⟩
  cases h:H' g o with
  |none=>exact h
  |some v=>
   rcases hH g o v h with h'|⟨h',_⟩
   ·rw[h5 o]at h';cases h'
   ·have:=Qx h2;omega
 refine⟨?_,?_,fun k ver cs g h1 h2=>cG g cs<|hR.bx k ver cs g h1 h2,hR.inj,?_,hR.owinj,hR.fresh,fun k ver cs g dC h1 h2=>?_,fun k ver n dC h1 g cap size h2=>?_,fun b l dC=>(hR.mp b l dC).keep fun o h _=>hb.block b<|Qx h⟩
 rotate_left 3
 ·obtain⟨us,h3,gA⟩:=hR.bxT k ver cs g dC h1 h2;exact⟨us,by rw[hb.block g<|Qx h3];exact h3,gA⟩
 ·obtain⟨us,h3⟩:=hR.owT k ver n dC h1 g cap size h2;exact⟨us,by rw[hb.block g<|Qx h3];exact h3⟩
 ·have aM:=hR.bel.size;exact hR.bel.trans (hb.mono aM)
 ·intro g o v h;rcases hH g o v h with h'|⟨_,h1,h2⟩
  ·have aK:=hR.Hlt h';obtain⟨h1,h2⟩:=hR.ext g o v h';exact⟨by rw[hb.cell (p:=⟨g,o,none⟩) aK];exact h1,h2⟩
  ·exact⟨h1,h2⟩
 ·intro k ver n h;obtain⟨g,cap,size,h1,⟨cur,e,h2,h3,h4,h5,h6,h7⟩,h8⟩:=hR.ow k ver n h;refine⟨g,cap,size,h1,⟨cur,e,h2,by rw[hb.block g<|Qx h3];exact h3,h4,h5,h6,fun o ho=>?_⟩,h8⟩
  cases h':H' g o with
  |none=>exact h'
  |some v=>
   rcases hH g o v h' with CC|⟨CC,_⟩
   ·rw[h7 o ho]at CC;cases CC
   ·have:=Qx h3;omega
theorem Yy.below(hR:Yy G w0 st w){w':World}(hb:Below w.heap.size w w'):Yy G w0 st w':=
 hR.grow hb (H':=G.H) (fun _ _ _ h=>h) (fun _ _ _ h=>.inl h)
theorem Vq.grow(hR:Yy G w0 st w){w':World}(hb:Below w.heap.size w w'){H':Hp}(hle:Ba G.H H')
  (hH :∀g o v,H' g o=some v->G.H g o=some v\/(w.heap.size<=g/\w'.cell? ⟨g,o,none⟩=some v/\v.oneCell'=true)){d site ver:Nat}:Vq G ⟨H',G.ρ,G.ω,G.fm,G.M⟩ w0 st st w' d site ver:=
 ⟨⟨hle,fun _ _ _ h=>h,fun _ _ _ h=>h,rfl,fun _ _ h=>h⟩,hR.grow hb hle hH,kU _,fun _ _ _ _=>⟨rfl,rfl⟩,fun _ _ _ _ _ _ _ h=>h,fun g o v h=>by
  rcases hH g o v h with h'|⟨h',_⟩
  ·exact .inl h'
  ·exact .inr (kX hR.bel.size h')⟩
theorem Yy.setM(hR:Yy G w0 st w){M':Nat->Option MO}(hle :∀b l,G.M b=some l->M' b=some l)(hM :∀b l,M' b=some l->Ft w b l):Yy ⟨G.H,G.ρ,G.ω,G.fm,M'⟩ w0 st w:=
 ⟨hR.bel,hR.ext,fun k ver cs g h1 h2=>by
  obtain⟨us,e,a1,a2,a3,a4,a5⟩:=hR.bx k ver cs g h1 h2;exact ⟨us,e,a1,a2,Rs.mono (G:=G) (G':=⟨G.H,G.ρ,G.ω,G.fm,M'⟩) ⟨fun _ _ _ h=>h,fun _ _ _ h=>h,fun _ _ _ h=>h,rfl,hle⟩ a3,a4,a5⟩,hR.inj,hR.ow,hR.owinj,hR.fresh,hR.bxT,hR.owT,hM⟩
theorem Vq.setM{G':Gh}{aA:St}{w':World}{d site ver:Nat}(h:Vq G G' w0 st aA w' d site ver){M':Nat->Option MO}(hle :∀b l,G'.M b=some l->M' b=some l)(hM :∀b l,M' b=some l->Ft w' b l):Vq G ⟨G'.H,G'.ρ,G'.ω,G'.fm,M'⟩ w0 st aA w' d site ver:=
 ⟨h.le.trans (B:=G') ⟨fun _ _ _ h=>h,fun _ _ _ h=>h,fun _ _ _ h=>h,rfl,hle⟩,h.rel.setM hle hM,h.nx,h.old,h.pend,h.newH⟩
theorem SQ(hR:Yy G w0 st w){t:TypeId}{i:TI}(hT:Qe P t i)(_h1:i.kind.agg=false->i.size=1){x r:AV}{vx:Value}(h:Ml st i.size i.kind.agg x=some r)(hx:R G x vx):
  ∃v,(Instr.loadAt t vx).run P w=.ok v w/\R G r v:=by
 obtain⟨ti,z,hi,aM,_⟩:=hT.info
 have key :∀(g o:Nat) (us:List Value),us.length=i.size->(∀(j:Nat) v,us[j]?=some v->w.cell? ⟨g,o+j,none⟩=some v)->∀{cs:List AV},Rs G cs us->Uh i.kind.agg cs=some r->
   ∃v,(Instr.loadAt t<|.pointer<|some ⟨g,o,none⟩).run P w=.ok v w/\R G r v:=by
  intro g o us hl hc cs hr ho;rcases TV hr ho with⟨ha,hv⟩|⟨ha,v,rfl,hv⟩
  ·refine⟨_,?_,hv⟩;have TX:=run_loadCells_list (P:=P) w ⟨g,o,none⟩ us (fun j v h=>by rw[yR];exact hc j v h);rw[hl]at TX;simp only[Instr.loadAt,Instr.sureAddr,jN,jW,jG,loadVar,Cq hT.kind,ha,jS,sizeOf,typeInfo,run_program,hi,aM,TX]
  ·refine⟨v,?_,hv⟩;have:=hc 0 v rfl;simp only[zV]at this;simp only[Instr.loadAt,Instr.sureAddr,jN,jW,jG,loadVar,Cq hT.kind,ha,jL,jT,run_load,this]
 unfold Ml at h;revert hx;split at h
 ·rename_i cs;intro hx;split at h
  ·rename_i hle;obtain⟨g,o,us,rfl,hH,hF⟩:=hx.fp_inv;have hlen:(cs.take i.size).length=i.size:=by simp;omega
   refine key g o ((List.range i.size).map us) (by simp) ?_ (cs:=cs.take i.size) ⟨by simp[hlen],?_⟩ h
   ·intro j v hv;simp only[jY,kN]at hv;obtain⟨j',hj,rfl⟩:=hv
    have lC:j'=j/\j<i.size:=by
     rcases jF j i.size with h'|h'
     ·rw[xI h']at hj;injection hj with hj;exact⟨hj.symm,h'⟩
     ·rw[kT<|by simpa using h']at hj;cases hj
    obtain⟨rfl,aK⟩:=lC;exact(hR.ext _ _ _<|hH j' cs[j']<|kH<|by omega).1
   ·intro j b u hb hu;rw[zD]at hb;split at hb
    ·rename_i hj;simp only[jY,xI hj,kK]at hu;injection hu with hu;rw[<- hu];exact .fz _ _ (hF j b hb)
    ·cases hb
  ·cases h
 ·rename_i k v o;intro hx;split at h
  ·rename_i v' cs bN;split at h
   ·rename_i hle;obtain⟨rfl,hle⟩:=hle;obtain⟨g,rfl,hρ⟩:=hx.p_inv;obtain⟨us,e,_,aF,hr,_,_⟩:=hR.bx k v' cs g bN hρ;have hl:us.length=cs.length:=hr.1.symm;refine key g o ((us.drop o).take i.size) (by simp;omega) ?_ (hr.sub o i.size) h;intro j u hu;rw[zD]at hu;split at hu
    ·rw[zI]at hu;simp[World.cell?,aF,hu]
    ·cases hu
   ·cases h
  ·cases h
 ·cases h
theorem Yy.setBox(hR:Yy G w0 st w){k:Zt}{ver g:Nat}{cs:List AV}(hk:lk st.bx k=some (ver,cs))(hρ:G.ρ k ver=some g){us:List Value}{cs':List AV}(hr:Rs G cs' us)(h1 :∀x∈us,x.oneCell'=true)(hN:Wo<=k.2->cs'[1]?=some (.sl .full [])->us[1]?=some (.slice none 0 0)):
  Yy G w0 { st with bx:=Xm st.bx k (ver,cs') } (w.setRow g us.toArray):=by
 obtain⟨mj,e,eD,aF,_,_,bG⟩:=hR.bx k ver cs g hk hρ
 have aT :∀k' ver' fU,lk (Xm st.bx k (ver,cs')) k'=some (ver',fU)->(k'=k/\ver'=ver/\fU=cs')\/(k'≠k/\lk st.bx k'=some (ver',fU)):=by
  intro k' ver' fU h;rw[CB]at h;split at h
  ·rename_i he;cases h;exact .inl ⟨he.symm,rfl,rfl⟩
  ·rename_i he;exact .inr ⟨fun e=>he e.symm,h⟩
 refine⟨?_,?_,?_,?_,?_,hR.owinj,hR.fresh,?_,?_,fun b l hb=>(hR.mp b l hb).keep fun o hm hc=>setRow_other w g b us.toArray (fun e=>by rw[e,aF]at hm;cases hm;cases hc)⟩
 rotate_left 5
 ·intro k' ver' fU g' hb h cC;rcases aT _ _ _ h with⟨rfl,rfl,rfl⟩|⟨aQ,h⟩
  ·obtain⟨cF,h3,_⟩:=hR.bxT _ _ _ g' hb hk cC;rw[hρ]at cC;cases cC;rw[aF]at h3;injection h3 with h3;injection h3 with _ h3;exact⟨_,by rw[<- h3];exact setRow_heap w g _ _ e (0,0) aF,fun h=>by simpa using hN hb h⟩
  ·obtain⟨cF,h3,gA⟩:=hR.bxT k' ver' fU g' hb h cC;refine⟨cF,?_,gA⟩;rw[setRow_other w g g' us.toArray<|fun e=>aQ<|hR.inj k' k ver' ver fU cs g' h hk cC<|e ▸ hρ];exact h3
 ·intro k' ver' n hb h g' cap size hω;obtain⟨cF,h3⟩:=hR.owT k' ver' n hb h g' cap size hω;obtain⟨g1,m6,j0,dD,_,h8⟩:=hR.ow k' ver' n h;rw[hω]at dD;cases dD;refine⟨cF,?_⟩;rw[setRow_other w g g' us.toArray<|fun e=>h8 k ver cs hk<|e ▸ hρ];exact h3
 ·exact hR.bel.trans ⟨rfl,rfl,rfl,by simp,fun i hi=>setRow_other w g i us.toArray<|by omega⟩
 ·intro g' o v h;obtain⟨h2,h3⟩:=hR.ext g' o v h;refine⟨?_,h3⟩;rw[cell_setRow_other w g us.toArray ⟨g',o,none⟩ (by rintro rfl;rw[bG o]at h;cases h)];exact h2
 ·intro k' ver' fU g' h cC;rcases aT _ _ _ h with⟨rfl,rfl,rfl⟩|⟨aQ,h⟩
  ·rw[hρ]at cC;cases cC;exact⟨us,e,eD,setRow_heap w g _ _ e (0,0) aF,hr,h1,bG⟩
  ·obtain⟨cP,e1,a1,a2,a3,a4,a5⟩:=hR.bx k' ver' fU g' h cC;refine⟨cP,e1,a1,?_,a3,a4,a5⟩;rw[setRow_other w g g' us.toArray<|fun e=>aQ<|hR.inj k' k ver' ver fU cs g' h hk cC<|e ▸ hρ];exact a2
 ·intro k1 k2 v1 v2 c1 c2 g' h1 h2 r1 r2
  have conv :∀k' v' c',lk (Xm st.bx k (ver,cs')) k'=some (v',c')->∃c'',lk st.bx k'=some (v',c''):=by
   intro k' v' c' h;rcases aT _ _ _ h with⟨rfl,rfl,rfl⟩|⟨_,h⟩
   ·exact⟨_,hk⟩
   ·exact⟨_,h⟩
  obtain⟨c1',dD⟩:=conv _ _ _ h1
  obtain⟨c2',dY⟩:=conv _ _ _ h2
  exact hR.inj k1 k2 v1 v2 c1' c2' g' dD dY r1 r2
 ·intro k' ver' n h;obtain⟨g',cap,size,dD,⟨cur,e',a1,a2,a3,a4,a5,a6⟩,h8⟩:=hR.ow k' ver' n h;refine⟨g',cap,size,dD,⟨cur,e',a1,?_,a3,a4,a5,a6⟩,?_⟩
  ·rw[setRow_other w g g' us.toArray<|fun e=>h8 k ver cs hk<|e ▸ hρ];exact a2
  ·intro k2 v2 c2 h2 r2;rcases aT _ _ _ h2 with⟨rfl,rfl,rfl⟩|⟨_,h2⟩
   ·exact h8 _ _ _ hk r2
   ·exact h8 _ _ _ h2 r2
theorem TY:∀(vs:List AV) (cs:List AV) (o:Nat),(Gp cs o vs).length=cs.length
 |[],cs,o=>rfl
 |v::r,cs,o=>by simp[Gp,TY r]
theorem CD:∀(vs:List AV) (cs:List AV) (o:Nat),o+vs.length<=cs.length->∀j,(Gp cs o vs)[j]?=if o<=j/\j<o+vs.length then vs[j-o]? else cs[j]?
 |[],cs,o,_,j=>by simp[Gp];omega
 |v::r,cs,o,h,j=>by
  simp only[kB]at h;rw[Gp,CD r (cs.set o v) (o+1) (by simp;omega) j];by_cases hj:o=j
  ·subst hj;rw[kA<|by omega,kC<|by simp,List.getElem?_set_self<|by omega];simp
  ·by_cases h2:o+1<=j/\j<o+1+r.length
   ·rw[kC h2,kC (by simp;omega)];have:j-o=(j-(o+1))+1:=by omega
    rw[this,zN]
   ·rw[kA h2,kA (by simp;omega),List.getElem?_set_ne hj]
theorem Rs.setAt_{cs vs:List AV}{us xs:List Value}(hr:Rs G cs us)(hv:Rs G vs xs){o:Nat}(hle:o+vs.length<=cs.length):Rs G (Gp cs o vs) (us.take o++xs++us.drop (o+xs.length)):=by
 have hl:=hr.1;have R_:=hv.1;refine⟨by rw[TY];simp;omega,fun j a u h1 h2=>?_⟩;rw[CD vs cs o hle j]at h1;rw[jD,zC]at h2;simp only[kW]at h2;by_cases hj:j<o
 ·rw[kA<|by omega]at h1;rw[kC<|by omega,zD,kC hj]at h2;exact hr.2 j a u h1 h2
 ·rw[kA<|by omega,zC,show min o us.length=o from by omega]at h2;by_cases lC:j<o+vs.length
  ·rw[kC ⟨by omega,lC⟩]at h1;rw[kC<|by omega]at h2;exact hv.2 _ a u h1 h2
  ·rw[kA<|by omega]at h1;rw[kA<|by omega,zI]at h2;refine hr.2 j a u h1 ?_;rw[<- h2]
   congr 1
   omega
theorem Xtw{us xs:List Value}{o j:Nat}(hle:o+xs.length<=us.length)(hj:¬(o<=j/\j<o+xs.length)):(us.take o++xs++us.drop (o+xs.length))[j]?=us[j]?:=by
 rw[jD,zC];simp only[kW];by_cases h:j<o
 ·rw[kC<|by omega,zD,kC h]
 ·rw[kA<|by omega,zC,kA<|by omega,zI]
  congr 1
  omega
theorem Xnr(hR:Yy G w0 st w){t:TypeId}{i:TI}(hT:Qe P t i){x y:AV}{vx vy:Value}{aA:St}(h:Cl st i.size x y=some aA)(hx:R G x vx)(hy:R G y vy){d site ver:Nat}:
  ∃w',(Instr.storeAt t vx vy).run P w=.ok () w'/\Vq G G w0 st aA w' d site ver:=by
 obtain⟨ti,z,hi,aM,_⟩:=hT.info;unfold Cl at h;revert hx;split at h
 ·rename_i k v o;intro hx;split at h
  ·rename_i v' cs bN;split at h
   ·rename_i hle;obtain⟨rfl,hle,hlen,cT,aV⟩:=hle;cases h;obtain⟨g,rfl,hρ⟩:=hx.p_inv;obtain⟨us,e,eD,aF,hr,fH,bG⟩:=hR.bx k v' cs g bN hρ;obtain⟨xs,qH,hY,R_,TZ⟩:=hy.cells cT;have hl:us.length=cs.length:=hr.1.symm;have bU:=run_storeCells_at (P:=P) g o e xs 0 us.toArray w aF (by simp;omega) TZ;simp only[zV]at bU;refine⟨_,?_,⟨.refl G,hR.setBox bN hρ (hr.setAt_ hY<|by omega) ?_ ?_,kU _,fun _ _ _ _=>⟨rfl,rfl⟩,?_,fun _ _ _ h=>.inl h⟩⟩
    ·have bF:¬ (xs.toArray.size≠ti.size):=by rw[aM];simp;omega
     simp only[Instr.storeAt,Instr.sureAddr,jN,jW,jG,storeVar,sizeOf,typeInfo,run_program,hi,qH];rw[kA bF,bU]
    ·intro u hu;simp only[kZ]at hu;rcases hu with(hu|hu)|hu
     ·exact fH u (zW hu)
     ·exact TZ u hu
     ·exact fH u (List.mem_of_mem_drop hu)
    ·intro hb cR;obtain⟨cF,h3,gA⟩:=hR.bxT k v' cs g hb bN hρ;rw[aF]at h3;injection h3 with h3;injection h3 with h3;subst h3;rw[CD y.cells cs o (by omega) 1]at cR;split at cR
     ·exfalso;have:y.cells.any AV.isF0=true:=List.any_eq_true.2 ⟨_,jP cR,rfl⟩;unfold Ra at aV;rw[this]at aV;have h9:Nat.blt k.2 Wo=true:=by simpa using aV
      rw[Nat.blt_eq]at h9;omega
     ·rename_i hnr;have h8:=gA cR;rw[Xtw (by omega)<|by omega];simpa using h8
    ·intro k' v2 cs2 _ _ _ hn h2
     have aQ:k≠k':=by
      rintro rfl;rw[bN]at h2;cases h2;rw[hρ]at hn;cases hn
     simpa[Ci st.bx _ aQ]using h2
   ·cases h
  ·cases h
 ·cases h
end
end Go.AM

namespace Go.AM
open Go Go.RowKit
def Gh.setρ(G:Gh)(k:Zt)(v g:Nat):Gh:=⟨G.H,fun k' v'=>if k'=k/\v'=v then some g else G.ρ k' v',G.ω,G.fm,G.M⟩
section
variable{P:Program}{G:Gh}{w0 w:World}{st:St}
theorem Gh.le_setρ{k:Zt}{v:Nat}(h:G.ρ k v=none)(g:Nat):G.Le (G.setρ k v g):=
 ⟨fun _ _ _ h=>h,fun k' v' g' h'=>by
  show(if k'=k/\v'=v then some g else G.ρ k' v')=some g';rw[kA (by rintro⟨rfl,rfl⟩;rw[h]at h';cases h')];exact h',fun _ _ _ h=>h,rfl,fun _ _ h=>h⟩
theorem Yy.newBox(hR:Yy G w0 st w){key:Zt}{ver:Nat}{cs:List AV}{us:List Value}{e:TypeId}(hT:Wo<=key.2->e=Gj G.fm)(hN:Wo<=key.2->cs[1]?=some (.sl .full [])->us[1]?=some (.slice none 0 0))(hr:Rs G cs us)(h1 :∀x∈us,x.oneCell'=true)(hρ:G.ρ key ver=none)(hv:ver<st.nx)
  {bx':List (Zt × Nat × List AV)}(hk:lk bx' key=some (ver,cs)) (aQ :∀k,k≠key->lk bx' k=lk st.bx k) :
  Yy (G.setρ key ver w.heap.size) w0 { st with bx:=bx' } (w.alloc<|.cells us.toArray e):=by
 have hle:=G.le_setρ hρ w.heap.size;have eQ:Below w.heap.size w (w.alloc<|.cells us.toArray e):=(Below.refl _ _).alloc (kU _) _;have aM:=hR.bel.size
 have hold :∀k v g,(G.setρ key ver w.heap.size).ρ k v=some g->(k=key/\v=ver/\g=w.heap.size)\/G.ρ k v=some g:=by
  intro k v g h;have h':(if k=key/\v=ver then some w.heap.size else G.ρ k v)=some g:=h;split at h'
  ·rename_i hh;cases h';exact .inl ⟨hh.1,hh.2,rfl⟩
  ·exact .inr h'
 have cG :∀g cs,Ix G w0 w cs g->Ix (G.setρ key ver w.heap.size) w0 (w.alloc<|.cells us.toArray e) cs g/\g<w.heap.size:=by
  rintro g cs ⟨cP,e1,a1,a2,a3,a4,a5⟩;exact⟨⟨cP,e1,a1,by rw[eQ.block g<|Qx a2];exact a2,a3.mono hle,a4,a5⟩,Qx a2⟩
 -- an entry other than the new one is an old one
 have fG :∀k v c g,lk bx' k=some (v,c)->(G.setρ key ver w.heap.size).ρ k v=some g->(k=key/\v=ver/\c=cs/\g=w.heap.size)\/(k≠key/\lk st.bx k=some (v,c)/\G.ρ k v=some g/\g<w.heap.size):=by
  intro k v c g hl hg;by_cases bL:k=key
  ·subst bL;rw[hk]at hl;cases hl;rcases hold _ _ _ hg with⟨_,_,rfl⟩|h
   ·exact .inl ⟨rfl,rfl,rfl,rfl⟩
   ·rw[hρ]at h;cases h
  ·rw[aQ k bL]at hl;rcases hold _ _ _ hg with⟨rfl,_⟩|h
   ·exact absurd rfl bL
   ·exact .inr ⟨bL,hl,h,(cG g c<|hR.bx k v c g hl h).2⟩
 refine⟨hR.bel.trans<|eQ.mono aM,?_,?_,?_,?_,hR.owinj,?_,?_,?_,fun b l hb=>(hR.mp b l hb).keep fun o h _=>eQ.block b<|Qx h⟩
 rotate_left 5
 ·intro k v c g hb hl hg;rcases fG k v c g hl hg with⟨rfl,rfl,rfl,rfl⟩|⟨_,dD,dY,_⟩
  ·exact⟨_,by rw[show Gj (G.setρ _ _ _).fm=Gj G.fm from rfl,<- hT hb];exact heap_alloc_new w _,fun h=>by simpa using hN hb h⟩
  ·obtain⟨cF,h3,gA⟩:=hR.bxT k v c g hb dD dY;exact⟨cF,by rw[eQ.block g<|Qx h3];exact h3,gA⟩
 ·intro k v n hb h g cap size hω;obtain⟨cF,h3⟩:=hR.owT k v n hb h g cap size hω;exact⟨cF,by rw[eQ.block g<|Qx h3];exact h3⟩
 ·intro g o v h;have aK:=hR.Hlt (G:=G) h;obtain⟨a,b⟩:=hR.ext g o v h;exact⟨by rw[eQ.cell (p:=⟨g,o,none⟩) aK];exact a,b⟩
 ·intro k v c g hl hg;rcases fG k v c g hl hg with⟨rfl,rfl,rfl,rfl⟩|⟨_,dD,dY,_⟩
  ·refine⟨us,e,aM,heap_alloc_new w _,hr.mono hle,h1,fun o=>?_⟩
   cases h:G.H w.heap.size o with
   |none=>exact h
   |some v=>have:=hR.Hlt h;omega
  ·exact(cG g c<|hR.bx k v c g dD dY).1
 ·intro k k' v v' c c' g a1 a2 a3 a4;rcases fG k v c g a1 a3 with⟨rfl,rfl,rfl,rfl⟩|⟨_,b1,b2,b3⟩
  ·rcases fG k' v' c' _ a2 a4 with⟨rfl,_⟩|⟨_,_,_,b3⟩
   ·rfl
   ·omega
  ·rcases fG k' v' c' g a2 a4 with⟨rfl,rfl,rfl,rfl⟩|⟨_,d1,d2,_⟩
   ·omega
   ·exact hR.inj k k' v v' c c' g b1 d1 b2 d2
 ·intro k v n h;obtain⟨g,cap,size,dD,⟨cur,e',a1,a2,a3,a4,a5,a6⟩,h8⟩:=hR.ow k v n h;refine⟨g,cap,size,dD,⟨cur,e',a1,by rw[eQ.block g<|Qx a2];exact a2,a3,a4,a5,a6⟩,?_⟩;intro k2 v2 c2 hl hg;rcases fG k2 v2 c2 g hl hg with⟨_,_,_,rfl⟩|⟨_,b1,b2,_⟩
  ·have:=Qx a2;omega
  ·exact h8 k2 v2 c2 b1 b2
 ·intro k v iF;have:=hR.fresh k v iF;refine⟨?_,this.2⟩;show(if k=key/\v=ver then some w.heap.size else G.ρ k v)=none;rw[kA (by rintro⟨_,rfl⟩;have:st.nx<=v:=iF;omega)];exact this.1
theorem Vq.newBox(hR:Yy G w0 st w){d site ver:Nat}{cs:List AV}{us:List Value}{e:TypeId}(hT:Wo<=site->e=Gj G.fm)(hN:Wo<=site->cs[1]?=some (.sl .full [])->us[1]?=some (.slice none 0 0))(hr:Rs G cs us)(h1 :∀x∈us,x.oneCell'=true)(hρ:G.ρ (d,site) ver=none)(hv:ver<st.nx)
  {bx':List (Zt × Nat × List AV)}(hk:lk bx' (d,site)=some (ver,cs)) (aQ :∀k,k≠(d,site)->lk bx' k=lk st.bx k) :
  Vq G (G.setρ (d,site) ver w.heap.size) w0 st { st with bx:=bx' } (w.alloc<|.cells us.toArray e) d site ver:=
 ⟨G.le_setρ hρ _,hR.newBox hT hN hr h1 hρ hv hk aQ,kU _,fun k v _ hn=>⟨by
  show(if k=(d,site)/\v=ver then some w.heap.size else G.ρ k v)=_;rw [kA (by rintro ⟨rfl,rfl⟩;exact hn rfl)],rfl⟩,fun k v cs _ _ hn _ hl=>by show lk bx' k=_;rw [aQ k hn];exact hl,fun _ _ _ h=>.inl h⟩
theorem Yzv{v:Value}{x:AV}(h:Px v=some x):v.oneCell'=true:=by unfold Px at h;split at h<;>first|rfl|cases h
theorem AL:∀{vs:List Value}{xs:List AV},Bh vs=some xs->∀v∈vs,v.oneCell'=true
 |[],_,_,v,hv=>by cases hv
 |a::r,xs,h,v,hv=>by
  unfold Bh at h;split at h
  ·rename_i w l hw hl;rcases jH.1 hv with rfl|hv
   ·exact Yzv hw
   ·exact AL hl v hv
  ·cases h
theorem T0:∀{vs:List Value}{xs:List AV},Bh vs=some xs->∀{j:Nat},xs[j]?=some (.sl .full [])->vs[j]?=some (.slice none 0 0)
 |[],xs,h,j,hj=>by cases h;simp at hj
 |a::r,xs,h,j,hj=>by
  unfold Bh at h;split at h
  ·rename_i w l hw hl;cases h
   cases j with
   |zero=>
    simp only[yT,Option.some.injEq]at hj⊢;subst hj;unfold Px at hw;split at hw<;>first|rfl|cases hw
   |succ j=>
    rw[zN]at hj⊢;exact T0 hl hj
  ·cases h
theorem Xil(hR:Yy G w0 st w){t:TypeId}{i:TI}(hT:Qe P t i){d site ver:Nat}(hB:Wo<=site->t=Gj G.fm)(hk:lk st.bx (d,site)=some (ver,i.zero))(hρ:G.ρ (d,site) ver=none)(hv:ver<st.nx):
  ∃v w' G',(Instr.alloc t true<|.tuple #[]).run P w=.ok v w'/\R G' (.p (d,site) ver 0) v/\Vq G G' w0 st st w' d site ver:=by
 obtain⟨ti,z,hi,_,_,hz,hc,_⟩:=hT.info;have bU:=Vq.newBox (e:=t) hR hB (fun _ h=>T0 hc h) (Es (G:=G) hc) (AL hc) hρ hv (bx':=st.bx) hk (fun _ _=>rfl);refine⟨_,_,_,?_,.p _ _ _ w.heap.size ?_,bU⟩
 ·simp only[Instr.alloc,zeroValue,typeInfo,jN,run_program,jG,hi,hz,jW,newVar,newRow,run_newObj];rfl
 ·show(if _=_/\_=_ then some w.heap.size else _)=some w.heap.size;rw[kC ⟨rfl,rfl⟩]
theorem Xye(hR:Yy G w0 st w){t:TypeId}{x:AV}{vx:Value}(hx:R G x vx)(cT:x.cells.all AV.one=true){d site ver:Nat}(hB:Wo<=site->False)(hρ:G.ρ (d,site) ver=none)(hv:ver<st.nx):
  ∃v w' G',(Instr.box t vx).run P w=.ok v w'/\R G' (.p (d,site) ver 0) v/\Vq G G' w0 st { st with bx:=Xm st.bx (d,site) (ver,x.cells) } w' d site ver:=by
 obtain⟨us,eY,hr,_,h1⟩:=hx.cells cT;have bU:=Vq.newBox (e:=t) hR (fun h=>(hB h).elim) (fun h=>(hB h).elim) hr h1 hρ hv (bx':=Xm st.bx (d,site) (ver,x.cells)) (my _ _ _) (fun k hk=>Ci _ _<|Ne.symm hk);refine⟨_,_,_,?_,.p _ _ _ w.heap.size ?_,bU⟩
 ·simp only[Instr.box,newVar,newRow,jN,run_newObj,jG,jW,eY];rfl
 ·show(if _=_/\_=_ then some w.heap.size else _)=some w.heap.size;rw[kC ⟨rfl,rfl⟩]
theorem Xi3{x y:AV}{v:Value}(h:x.soft=some y)(hx:R G x v):Fz G.H y v:=by
 cases x with
 |sl o rows=>cases h;obtain⟨A,cap,rfl,hF,_⟩:=hx.sl_inv;exact hF
 |i k n=>cases h;rw[hx.int_inv];exact .i _ _
 |b t=>cases h;rw[hx.bool_inv];exact .b _
 |s l=>cases h;rw[hx.str_inv];exact .s _
 |np=>cases h;rw[hx.np_inv];exact .np
 |nf=>cases h;rw[hx.nf_inv];exact .nf
 |ni=>cases h;rw[hx.ni_inv];exact .ni
 |mp=>cases h
 |p=>cases h
 |fp=>cases h
 |ag=>cases h
 |tup=>cases h
 |fn=>cases h
 |bf=>cases h
 |yl=>cases h
 |u=>cases h
theorem Cr:∀{xs ys:List AV},Ji xs=some ys->ys.length=xs.length
 |[],ys,h=>by cases h;rfl
 |v::r,ys,h=>by
  unfold Ji at h;split at h
  ·rename_i w l hw hl;cases h;simp[Cr hl]
  ·cases h
theorem Ph:∀{xs ys:List AV},Ji xs=some ys->∀{us:List Value},Rs G xs us->∀(j:Nat) y u,ys[j]?=some y->us[j]?=some u->Fz G.H y u
 |[],ys,h,us,_,j,y,u,hy,_=>by cases h;simp at hy
 |v::r,ys,h,us,hr,j,y,u,hy,hu=>by
  unfold Ji at h;split at h
  ·rename_i w l hw hl;cases h
   cases us with
   |nil=>have:=hr.1;simp at this
   |cons u0 us=>
    have BH:Rs G r us:=⟨by have:=hr.1;simpa using this,fun j a u h1 h2=>hr.2 (j+1) a u (by simpa using h1)<|by simpa using h2⟩
    cases j with
    |zero=>simp at hy hu;subst hy;subst hu;exact Xi3 hw (hr.2 0 v u0 rfl rfl)
    |succ j=>simp at hy hu;exact Ph hl BH j y u hy hu
  ·cases h
theorem Yy.freezeBox(hR:Yy G w0 st w){k:Zt}{ver g:Nat}{cs:List AV}(hk:lk st.bx k=some (ver,cs))(hρ:G.ρ k ver=some g){us:List Value}{e:TypeId}(aF:w.heap[g]?=some (.cells us.toArray e (0,0)))(h1 :∀x∈us,x.oneCell'=true):
  Yy ⟨fun g' o=>if g'=g then us[o]? else G.H g' o,G.ρ,G.ω,G.fm,G.M⟩ w0 { st with bx:=del st.bx k } w:=by
 obtain⟨_,_,_,_,_,_,bG⟩:=hR.bx k ver cs g hk hρ
 have hle:G.Le ⟨fun g' o=>if g'=g then us[o]? else G.H g' o,G.ρ,G.ω,G.fm,G.M⟩:=⟨fun g' o v h=>by
  show(if g'=g then us[o]? else G.H g' o)=some v;rw[kA (by rintro rfl;rw[bG o]at h;cases h)];exact h,fun _ _ _ h=>h,fun _ _ _ h=>h,rfl,fun _ _ h=>h⟩
 have aT :∀k' v' c',lk (del st.bx k) k'=some (v',c')->k'≠k/\lk st.bx k'=some (v',c'):=by
  intro k' v' c' h;rw[Tb]at h;split at h
  ·cases h
  ·rename_i hn;exact⟨hn,h⟩
 refine⟨hR.bel,?_,?_,?_,?_,hR.owinj,hR.fresh,fun k' v' c' g' hb h cC=>hR.bxT k' v' c' g' hb (aT _ _ _ h).2 cC,hR.owT,hR.mp⟩
 ·intro g' o v h;have h':(if g'=g then us[o]? else G.H g' o)=some v:=h;split at h'
  ·rename_i hg;subst hg;exact⟨by simp[World.cell?,aF,h'],h1 v<|jP h'⟩
  ·exact hR.ext g' o v h'
 ·intro k' v' c' g' h cC;obtain⟨hn,h⟩:=aT _ _ _ h;obtain⟨cP,e1,a1,a2,a3,a4,a5⟩:=hR.bx k' v' c' g' h cC;refine⟨cP,e1,a1,a2,a3.mono hle,a4,fun o=>?_⟩;show(if g'=g then us[o]? else G.H g' o)=none;rw[kA (by rintro rfl;exact hn<|hR.inj k' k v' ver c' cs g' h hk cC hρ)];exact a5 o
 ·intro k1 k2 v1 v2 c1 c2 g' a1 a2 a3 a4;exact hR.inj k1 k2 v1 v2 c1 c2 g' (aT _ _ _ a1).2 (aT _ _ _ a2).2 a3 a4
 ·intro k' v' n h;obtain⟨g',cap,size,dD,⟨cur,e',a1,a2,a3,a4,a5,a6⟩,h8⟩:=hR.ow k' v' n h;refine⟨g',cap,size,dD,⟨cur,e',a1,a2,a3,a4,a5,fun o ho=>?_⟩,fun k2 v2 c2 h2=>h8 k2 v2 c2 (aT _ _ _ h2).2⟩;show(if g'=g then us[o]? else G.H g' o)=none;rw[kA (by rintro rfl;exact h8 k ver cs hk hρ)];exact a6 o ho
theorem Xy9(size n:Nat)(cs:List AV)(i:Nat):(Bv size n cs)[i]?=if i<n then some ((cs.drop<|i*size).take size)else none:=by
 unfold Bv;rw[jY];by_cases h:i<n
 ·rw[xI h,kC h];rfl
 ·rw[kT<|by simpa using h,kA h];rfl
theorem Yw8(hR:Yy G w0 st w){t:TypeId}{n e:Nat}(ht:P.underlying t=some (.array n e)){ti:TypeInfo}(hi:P.info? e=some ti){U:Sl}{a:Act}{x:Zw}{x':Operand}(hx:Sp G U a x' x){lo dU:Option Zw}{dW fZ:Option Operand}(cO:Ny G U a dW lo)(eN:Ny G U a fZ dU)
  {C:Vw}{d site ver:Nat}{r:AV}{aA:St}(h:Yd C d site ver U st (.slA n ti.size x lo dU)=some (r,aA)) :
  ∃v G',(Instr.sliceAt t (a.eval x') (dW.map a.eval) (fZ.map a.eval) none).run P w=.ok v w/\R G' r v/\Vq G G' w0 st aA w d site ver:=by
 simp only[Yd]at h;split at h
 ·rename_i k v o mL;split at h
  ·rename_i v' cs bN;split at h
   ·rename_i hc;obtain⟨rfl,rfl,hlen,aI⟩:=hc;split at h
    ·rename_i cs' j1;simp only[kN,Prod.exists,Prod.mk.injEq]at h;obtain⟨l,u,hb,rfl,rfl⟩:=h;unfold Sp at hx;rw[mL]at hx;obtain⟨g,hv,hρ⟩:=hx.p_inv;obtain⟨us,eb,eD,aF,hr,fH,bG⟩:=hR.bx k v' cs g bN hρ;obtain⟨aO,h1,h2⟩:=B8 (P:=P) (w:=w) cO eN hb (kU n) false;have mi:=Cr j1;have mA:us.length=cs.length:=hr.1.symm;refine⟨.slice (some<|if n=l then ⟨g,0,none⟩else ⟨g,l*ti.size,none⟩) (u-l)<|n-l,_,?_,?_,⟨?_,hR.freezeBox bN hρ aF fH,kU _,fun _ _ _ _=>⟨rfl,rfl⟩,?_,?_⟩⟩
     ·rw[hv];simp only[Instr.sliceAt,jN,run_underlying ht,jG,Instr.sureAddr,jW,aO,sizeOf,typeInfo,run_program,hi,yR,yI]
     ·have j2:(((Bv ti.size n cs').drop l).take<|u-l).length=u-l:=by simp[Bv];omega
      have aE :∀(i:Nat) row,(((Bv ti.size n cs').drop l).take<|u-l)[i]?=some row->i<u-l/\row=(cs'.drop<|(l+i)*ti.size).take ti.size:=by
       intro i row aE;rw[zD]at aE;split at aE
       ·rename_i bK;rw[zI,Xy9,kC<|by omega]at aE;exact⟨bK,by injection aE with aE;exact aE.symm⟩
       ·cases aE
      have bV :∀(i:Nat) row (j:Nat) b,(((Bv ti.size n cs').drop l).take<|u-l)[i]?=some row->row[j]?=some b->j<ti.size/\cs'[(l+i)*ti.size+j]?=some b:=by
       intro i row j b h3 h4;obtain⟨h5,rfl⟩:=aE i row h3;rw[zD]at h4;split at h4
       ·rename_i hj;rw[zI]at h4;exact⟨hj,h4⟩
       ·cases h4
      have iE:R ⟨fun g' o=>if g'=g then us[o]? else G.H g' o,G.ρ,G.ω,G.fm,G.M⟩ (.sl .ext<|((Bv ti.size n cs').drop l).take<|u-l) (.slice (some<|if n=l then ⟨g,0,none⟩else ⟨g,l*ti.size,none⟩) (((Bv ti.size n cs').drop l).take<|u-l).length<|n-l):=by
       refine .fz _ _ (.sl _ _ _ ti.size g (l*ti.size) (fun i j=>us.getD ((l+i)*ti.size+j) undef) ?_ (by omega) ?_ ?_ ?_)
       ·intro aQ;rw[kA];rintro rfl;apply aQ;apply List.eq_nil_of_length_eq_zero;rw[j2];omega
       ·intro i row h3;obtain⟨h5,rfl⟩:=aE i row h3
        have:(l+i)*ti.size+ti.size<=n*ti.size:=by
         rw[<- Nat.succ_mul];exact yC _ (by omega)
        simp;omega
       ·intro i row j b h3 h4;obtain⟨hj,h5⟩:=bV i row j b h3 h4
        have aK:(l+i)*ti.size+j<us.length:=by
         rw[mA,<- mi];rcases jF ((l+i)*ti.size+j) cs'.length with h|h
         ·exact h
         ·rw[kT h]at h5;cases h5
        show(if g=g then us[l*ti.size+i*ti.size+j]? else _)=_;rw[kC rfl,<- Nat.add_mul,kH aK];simp[List.getD,kH aK]
       ·intro i row j b h3 h4;obtain⟨hj,h5⟩:=bV i row j b h3 h4
        have aK:(l+i)*ti.size+j<us.length:=by
         rw[mA,<- mi];rcases jF ((l+i)*ti.size+j) cs'.length with h|h
         ·exact h
         ·rw[kT h]at h5;cases h5
        have h6:=Ph j1 hr _ b us[(l+i)*ti.size+j] h5 (kH aK);have h7:us.getD ((l+i)*ti.size+j) undef=us[(l+i)*ti.size+j]:=by simp[List.getD,kH aK]
        show Fz _ b (us.getD ((l+i)*ti.size+j) undef);rw[h7];refine h6.mono (fun g' o v h=>?_);show(if g'=g then us[o]? else G.H g' o)=some v;rw[kA (by rintro rfl;rw[bG o]at h;cases h)];exact h
      rw[j2]at iE;exact iE
     ·exact ⟨fun g' o v h=>by
       show(if g'=g then us[o]? else G.H g' o)=some v;rw[kA (by rintro rfl;rw[bG o]at h;cases h)];exact h,fun _ _ _ h=>h,fun _ _ _ h=>h,rfl,fun _ _ h=>h⟩
     ·intro k' v2 cs2 _ _ _ hn h3;rw[show({ st with bx:=del st.bx k }:St).bx=del st.bx k from rfl,Tb];rw[kA]
      ·exact h3
      ·rintro rfl;rw[bN]at h3;cases h3;rw[hρ]at hn;cases hn
     ·intro g' o v h;have h':(if g'=g then us[o]? else G.H g' o)=some v:=h;split at h'
      ·rename_i hg;subst hg;exact .inr eD
      ·exact .inl h'
    ·cases h
   ·cases h
  ·cases h
 ·cases h
end
end Go.AM

namespace Go.AM
open Go Go.RowKit
def Va(us:Nat->Nat->Value)(n size:Nat):List Value:=(List.range<|n*size).map fun q=>us (q / size) (q % size)
theorem Ak(us:Nat->Nat->Value)(n size:Nat):(Va us n size).length=n*size:=by simp[Va]
theorem Mi(us:Nat->Nat->Value)(n size q:Nat):(Va us n size)[q]?=if q<n*size then some (us (q / size)<|q % size)else none:=by
 unfold Va;rw[jY];by_cases h:q<n*size
 ·rw[xI h,kC h];rfl
 ·rw[kT<|by simpa using h,kA h];rfl
theorem SC{i j size:Nat}(hj:j<size):(i*size+j) / size=i/\(i*size+j) % size=j:=by
 have hs:0<size:=by omega
 constructor
 ·rw[yL,Nat.mul_add_div hs,Nat.div_eq_of_lt hj];omega
 ·rw[yL,Nat.mul_add_mod,Nat.mod_eq_of_lt hj]
theorem Ib(us:Nat->Nat->Value){n size i j:Nat}(hi:i<n)(hj:j<size):(Va us n size)[i*size+j]?=some (us i j):=by
 rw[Mi,kC]
 ·obtain⟨h1,h2⟩:=SC (i:=i) hj;rw[h1,h2]
 ·have:(i+1)*size<=n*size:=yC _ (by omega);rw[Nat.succ_mul]at this;omega
theorem Fz.cells_of{H:Hp}{rows:List (List AV)}{A:Option Addr}{n cap:Nat}(h:Fz H (.sl .ext rows) (.slice A n cap)){size:Nat}(aM :∀row∈rows,row.length=size):
  n=rows.length/\n<=cap/\∃(us:Nat->Nat->Value) (g off:Nat),(rows≠[]->A=some ⟨g,off,none⟩)/\(∀(q:Nat) v,(Va us rows.length size)[q]?=some v->H g (off+q)=some v)/\
   (∀(i:Nat) row (j:Nat) a,rows[i]?=some row->row[j]?=some a->Fz H a (us i j)):=by
 cases h with
 |sl _ A cap bJ g off us hA bA hs hH hF=>
 refine⟨rfl,bA,us,g,off,hA,?_,hF⟩;intro q v hq;rw[Mi]at hq;split at hq
 ·rename_i aK;cases hq
  have aI:0<size:=by
   rcases zX size with h|h
   ·subst h;simp at aK
   ·exact h
  have hi:q / size<rows.length:=xD (by rw[yL];exact aK);have aE:rows[q / size]?=some rows[q / size]:=kH hi;have m7:=hs _ _ aE;have iA:=aM _ (kL hi);have hss:bJ=size:=by omega
  subst hss;have hm:q % bJ<rows[q / bJ].length:=by rw[m7];exact Nat.mod_lt _ aI
  have:=hH _ _ (q % bJ) _ aE (kH hm);rw[<- this]
  congr 1
  have:=Nat.div_add_mod q bJ;rw[yL]at this;omega
 ·cases hq
section
variable{P:Program}{G:Gh}{w0 w:World}{st:St}
theorem AN(hR:Yy G w0 st w){rows:List (List AV)}{size:Nat}(aM :∀row∈rows,row.length=size){us:Nat->Nat->Value}(hF :∀(i:Nat) row (j:Nat) a,rows[i]?=some row->row[j]?=some a->Fz G.H a (us i j))
  (h1 :∀(i:Nat) row (j:Nat) a,rows[i]?=some row->row[j]?=some a->(us i j).oneCell'=true){cs:Array Value}{e:TypeId}(cR :∀(q:Nat) v,(Va us rows.length size)[q]?=some v->cs[q]?=some v){w1:World}(gC:w1.heap=w.heap) (CE:Below w.heap.size w w1) (cap:Nat) (bA:rows.length<=cap){d site ver:Nat} :
  Vq G ⟨fun g o=>if g=w.heap.size then (Va us rows.length size)[o]? else G.H g o,G.ρ,G.ω,G.fm,G.M⟩ w0 st st (w1.alloc<|.cells cs e) d site ver/\
   Fz (fun g o=>if g=w.heap.size then (Va us rows.length size)[o]? else G.H g o) (.sl .ext rows) (.slice (some ⟨w.heap.size,0,none⟩) rows.length cap):=by
 have m8:w1.heap.size=w.heap.size:=by rw[gC]
 have hle:Ba G.H (fun g o=>if g=w.heap.size then (Va us rows.length size)[o]? else G.H g o):=fun g o v h=>by
  show(if g=w.heap.size then _ else G.H g o)=some v;rw[kA (by have:=hR.Hlt h;omega)];exact h
 have cT :∀(q:Nat) v,(Va us rows.length size)[q]?=some v->v.oneCell'=true:=by
  intro q v hq;rw[Mi]at hq;split at hq
  ·rename_i aK;cases hq
   have aI:0<size:=by
    rcases zX size with h|h
    ·subst h;simp at aK
    ·exact h
   have hi:q / size<rows.length:=xD (by rw[yL];exact aK);have hm:q % size<rows[q / size].length:=by rw[aM _<|kL hi];exact Nat.mod_lt _ aI
   exact h1 _ _ _ _ (kH hi) (kH hm)
  ·cases hq
 refine⟨Vq.grow hR (CE.alloc (by rw[m8];exact kU _) _) hle ?_,?_⟩
 ·intro g o v h;have h':(if g=w.heap.size then (Va us rows.length size)[o]? else G.H g o)=some v:=h;split at h'
  ·rename_i hg;subst hg;refine .inr ⟨kU _,?_,cT _ _ h'⟩;have:=heap_alloc_new w1 (.cells cs e);rw[m8]at this;simp[World.cell?,this,cR _ _ h']
  ·exact .inl h'
 ·refine .sl rows _ cap size w.heap.size 0 us (fun _=>rfl) bA (fun i row h=>aM _<|jP h) ?_ (fun i row j a h2 h3=>(hF i row j a h2 h3).mono hle);intro i row j a h2 h3;show(if w.heap.size=w.heap.size then (Va us rows.length size)[0+i*size+j]? else _)=_;rw[kC rfl,yI];refine Ib us ?_ ?_
  ·rcases jF i rows.length with h|h
   ·exact h
   ·rw[kT h]at h2;cases h2
  ·rw[<- aM _ (jP h2)];rcases jF j row.length with h|h
   ·exact h
   ·rw[kT h]at h3;cases h3
def Gh.setω(G:Gh)(H:Hp)(k:Zt)(v:Nat)(x:Nat × Nat × Nat):Gh:=⟨H,G.ρ,fun k' v'=>if k'=k/\v'=v then some x else G.ω k' v',G.fm,G.M⟩
theorem Gh.le_setω{H:Hp}(hH:Ba G.H H){k:Zt}{v:Nat}(h:G.ω k v=none)(x:Nat × Nat × Nat):G.Le (G.setω H k v x):=
 ⟨hH,fun _ _ _ h=>h,fun k' v' g' h'=>by
  show(if k'=k/\v'=v then some x else G.ω k' v')=some g';rw[kA (by rintro⟨rfl,rfl⟩;rw[h]at h';cases h')];exact h',rfl,fun _ _ h=>h⟩
theorem Yy.newOwn(hR:Yy G w0 st w){w':World}{H':Hp}{g cap size n:Nat}{key:Zt}{ver:Nat}(eD:w0.heap.size<=g)
  (hos:w'.os=w.os) (m9:w'.tape=w.tape) (CF:w'.output=w.output) (bF:w.heap.size<=w'.heap.size) (eR :∀i,i<w.heap.size->i≠g->w'.heap[i]?=w.heap[i]?)
  (cG :∀k v cs,lk st.bx k=some (v,cs)->G.ρ k v≠some g) (hle:Ba G.H H')
  (hH :∀g' o v,H' g' o=some v->(g'≠g/\G.H g' o=some v)\/(g'=g/\w'.cell? ⟨g,o,none⟩=some v/\v.oneCell'=true/\o<n*size))
  {cur:Array Value}{e:TypeId}(hT:Wo<=key.2->e=Mx G.fm) (aF:w'.heap[g]?=some (.cells cur e (0,0))) (iG:cur.size=cap*size) (hn:n<=cap) (aI:0<size) (hω:G.ω key ver=none) (hv:ver<st.nx)
  {ow':List (Zt × Nat × Nat)}(hk:lk ow' key=some (ver,n)) (aQ :∀k x,k≠key->lk ow' k=some x->lk st.ow k=some x)
  (eS :∀k v m g' c s,k≠key->lk ow' k=some (v,m)->G.ω k v=some (g',c,s)->g'≠g) (c_ :∀b o,w.heap[b]?=some o->obN o=true->b≠g):Yy (G.setω H' key ver (g,cap,size)) w0 { st with ow:=ow' } w':=by
 have na:G.Le (G.setω H' key ver (g,cap,size)):=Gh.le_setω hle hω _
 have gD :∀g' o,g'≠g->G.H g' o=none->H' g' o=none:=by
  intro g' o hg h
  cases h':H' g' o with
  |none=>rfl
  |some v=>
   rcases hH g' o v h' with⟨_,h2⟩|⟨h2,_⟩
   ·rw[h]at h2;cases h2
   ·exact absurd h2 hg
 have lJ :∀k v x,(G.setω H' key ver (g,cap,size)).ω k v=some x->(k=key/\v=ver/\x=(g,cap,size))\/((k≠key\/v≠ver)/\G.ω k v=some x):=by
  intro k v x h;have h':(if k=key/\v=ver then some (g,cap,size)else G.ω k v)=some x:=h;split at h'
  ·rename_i hh;cases h';exact .inl ⟨hh.1,hh.2,rfl⟩
  ·rename_i hh;refine .inr ⟨?_,h'⟩;by_cases mK:k=key
   ·exact .inr fun fF=>hh ⟨mK,fF⟩
   ·exact .inl mK
 refine⟨?_,?_,?_,hR.inj,?_,?_,?_,?_,?_,fun b l hb=>(hR.mp b l hb).keep fun o h hc=>eR b (Qx h)<|c_ b o h hc⟩
 rotate_left 6
 ·intro k v cs g' hb h cC;obtain⟨cF,h3,gA⟩:=hR.bxT k v cs g' hb h cC;have gX:g'≠g:=by rintro rfl;exact cG k v cs h cC
  exact⟨cF,(eR g' (Qx h3) gX).trans h3,gA⟩
 ·intro k v m hb h g' c s rh;rcases lJ _ _ _ rh with⟨rfl,rfl,hx⟩|⟨hx,rh⟩
  ·cases hx;exact⟨_,by rw[show Mx (G.setω _ _ _ _).fm=Mx G.fm from rfl,<- hT hb];exact aF⟩
  ·have bL:k≠key:=by
    rintro rfl;rw[hk]at h;cases h;rcases hx with hx|hx<;>exact hx rfl
   obtain⟨cF,h3⟩:=hR.owT k v m hb (aQ k _ bL h) g' c s rh;exact⟨cF,(eR g' (Qx h3)<|eS k v m g' c s bL h rh).trans h3⟩
 ·refine⟨?_,hR.bel.glob⟩;have hb:=hR.bel.bel;exact⟨hos.trans hb.os,m9.trans hb.tape,CF.trans hb.output,kX hb.size bF,fun i hi=>(eR i (yB hi hb.size)<|by omega).trans<|hb.block i hi⟩
 ·intro g' o v h;rcases hH g' o v h with⟨h1,h2⟩|⟨rfl,h2,h3,_⟩
  ·have aK:=hR.Hlt h2;obtain⟨h3,h4⟩:=hR.ext g' o v h2;exact⟨(World.cell?_of_block (w:=w)<|eR g' aK h1).trans h3,h4⟩
  ·exact⟨h2,h3⟩
 ·intro k v cs g' h cC;obtain⟨cP,e1,a1,a2,a3,a4,a5⟩:=hR.bx k v cs g' h cC;have gX:g'≠g:=by rintro rfl;exact cG k v cs h cC
  exact⟨cP,e1,a1,(eR g' (Qx a2) gX).trans a2,a3.mono na,a4,fun o=>gD g' o gX<|a5 o⟩
 ·intro k v m h;by_cases bL:k=key
  ·subst bL;rw[hk]at h;cases h;refine⟨g,cap,size,by show(if _=_/\_=_ then some (g,cap,size)else _)=_;rw[kC ⟨rfl,rfl⟩],⟨cur,e,eD,aF,iG,hn,aI,fun o ho=>?_⟩,cG⟩
   cases h':H' g o with
   |none=>exact h'
   |some v'=>
    rcases hH g o v' h' with⟨h2,_⟩|⟨_,_,_,h2⟩
    ·exact absurd rfl h2
    ·omega
  ·have hold:=aQ k _ bL h;obtain⟨g',cA,bJ,dD,⟨CG,e',a1,a2,a3,a4,a5,a6⟩,h8⟩:=hR.ow k v m hold;have gX:g'≠g:=eS k v m g' cA bJ bL h dD;refine⟨g',cA,bJ,na.ω _ _ _ dD,⟨CG,e',a1,(eR g' (Qx a2) gX).trans a2,a3,a4,a5,fun o ho=>gD g' o gX<|a6 o ho⟩,h8⟩
 ·intro k k' v v' m m' g' c s c' s' h1 h2 h3 h4;by_cases bL:k=key
  ·by_cases eB:k'=key
   ·rw[bL,eB]
   ·subst bL;rw[hk]at h1;cases h1;rcases lJ _ _ _ h3 with⟨_,_,hx⟩|⟨hx,_⟩
    ·cases hx;rcases lJ _ _ _ h4 with⟨rfl,_⟩|⟨_,h4⟩
     ·rfl
     ·exact absurd rfl (eS k' v' m' _ _ _ eB h2 h4)
    ·rcases hx with hx|hx<;>exact absurd rfl hx
  ·by_cases eB:k'=key
   ·subst eB;rw[hk]at h2;cases h2;rcases lJ _ _ _ h4 with⟨_,_,hx⟩|⟨hx,_⟩
    ·cases hx;rcases lJ _ _ _ h3 with⟨rfl,_⟩|⟨_,h3⟩
     ·rfl
     ·exact absurd rfl (eS k v m _ _ _ bL h1 h3)
    ·rcases hx with hx|hx<;>exact absurd rfl hx
   ·have o1:=aQ k _ bL h1;have o2:=aQ k' _ eB h2;rcases lJ _ _ _ h3 with⟨rfl,_⟩|⟨_,h3⟩
    ·exact absurd rfl bL
    ·rcases lJ _ _ _ h4 with⟨rfl,_⟩|⟨_,h4⟩
     ·exact absurd rfl eB
     ·exact hR.owinj k k' v v' m m' g' c s c' s' o1 o2 h3 h4
 ·intro k v iF;have:=hR.fresh k v iF;refine⟨this.1,?_⟩;show(if k=key/\v=ver then some (g,cap,size)else G.ω k v)=none;rw[kA (by rintro⟨_,rfl⟩;have:st.nx<=v:=iF;omega)];exact this.2
end
end Go.AM

namespace Go.AM
open Go Go.RowKit
section
variable{P:Program}{G:Gh}{w0 w:World}{st:St}
theorem R4{t t2 ty e:TypeId}{d2:TypeDesc}{ti:TypeInfo}(ht:P.underlying t=some (.slice e))(eW:P.underlying t2=some d2)(cK:d2=.string\/∃e2,d2=.slice e2)(hi:P.info? e=some ti)
  {base:Option Addr}{n cap m:Nat}{vx:Value}(hlen:(Builtin.lenOf vx).run P w=.ok m w){news:Array Value}(hf:(Builtin.firstCells ti.size m vx).run P w=.ok news w) (eX:n+m<=cap) :
  (Builtin.append_ #[t,t2] ty #[.slice base n cap,vx]).run P w=(match base with|some a=>(storeCells (a.add<|n*ti.size) news.toList).run P w|none=>.ok () w).andThen fun _ w'=>.ok (.slice base (n+m) cap) w':=by
 rcases cK with rfl|⟨e2,rfl⟩
 ·cases base<;>simp[Builtin.append_,run_underlying ht,run_underlying eW,sizeOf,typeInfo,hi,hlen,eX,hf]
 ·cases base<;>simp[Builtin.append_,run_underlying ht,run_underlying eW,sizeOf,typeInfo,hi,hlen,eX,hf]
theorem Wa0{t t2 ty e:TypeId}{d2:TypeDesc}{ti:TypeInfo}{z:Value}(ht:P.underlying t=some (.slice e))(eW:P.underlying t2=some d2)(cK:d2=.string\/∃e2,d2=.slice e2)(hi:P.info? e=some ti)(hz:ti.zero=some z)
  {base:Option Addr}{n cap m:Nat}{vx:Value}(hlen:(Builtin.lenOf vx).run P w=.ok m w){news nb:Array Value}(hf:(Builtin.firstCells ti.size m vx).run P w.drew=.ok news w.drew) (ho:(Builtin.firstCells ti.size n<|.slice base n cap).run P w.drew=.ok nb w.drew)
  (hg:cap<n+m) (lx:n+m<=9223372036854775807) (fL:(n+m)*ti.bytes<=2 ^ 47) :
  (Builtin.append_ #[t,t2] ty #[.slice base n cap,vx]).run P w=.ok (.slice (some ⟨w.heap.size,0,none⟩) (n+m)<|grownCap w (n+m) cap e)
    (w.drew.alloc<|.cells (nb++news++Builtin.zeroCells z.cells (grownCap w (n+m) cap e-(n+m))) e):=by
 have hn:¬ (n+m<=cap):=by omega
 have nc:¬ (9223372036854775807<((n:Int)+(m:Int))):=by omega
 have bA:=nextslicecap_le hg;have hmul:Builtin.nextslicecap (n+m) cap*ti.bytes<=2*(n+m)*ti.bytes:=yC _ bA
 have nd:¬ (281474976710656<Builtin.nextslicecap (n+m) cap*ti.bytes):=by
  rw[Nat.mul_assoc]at hmul;omega
 rcases cK with rfl|⟨e2,rfl⟩
 ·simp[Builtin.append_,run_underlying ht,run_underlying eW,sizeOf,typeInfo,zeroValue,hi,hz,hlen,hn,nc,nd,Question.forced,hf,ho,newRow,grownCap]
 ·simp[Builtin.append_,run_underlying ht,run_underlying eW,sizeOf,typeInfo,zeroValue,hi,hz,hlen,hn,nc,nd,Question.forced,hf,ho,newRow,grownCap]
structure Ma(P:Program)(H:Hp)(w:World)(vx:Value)(size:Nat)(news:List (List AV))(us:Nat->Nat->Value):Prop where
 len :∀w1:World,(Builtin.lenOf vx).run P w1=.ok news.length w1
 first :∀w1:World,w1.heap=w.heap->(Builtin.firstCells size news.length vx).run P w1=.ok (Va us news.length size).toArray w1
 fz :∀(i:Nat) row (j:Nat) a,news[i]?=some row->row[j]?=some a->Fz H a (us i j)
 one :∀(i:Nat) row (j:Nat) a,news[i]?=some row->row[j]?=some a->(us i j).oneCell'=true
theorem cell_of_heap{w w1:World}(h:w1.heap=w.heap)(a:Addr):w1.cell? a=w.cell? a:=by unfold World.cell?;rw[h]
theorem Ma.slice(hR:Yy G w0 st w){news:List (List AV)}{A:Option Addr}{cap size:Nat}(h:Fz G.H (.sl .ext news) (.slice A news.length cap))(aM :∀row∈news,row.length=size):
  ∃us,Ma P G.H w (.slice A news.length cap) size news us:=by
 obtain⟨_,_,us,g,off,hA,hc,hF⟩:=h.cells_of aM
 have cT :∀(i:Nat) row (j:Nat) a,news[i]?=some row->row[j]?=some a->(us i j).oneCell'=true:=by
  intro i row j a h1 h2
  have hi:i<news.length:=by
   rcases jF i news.length with h|h
   ·exact h
   ·rw[kT h]at h1;cases h1
  have hj:j<size:=by
   rw[<- aM _ (jP h1)];rcases jF j row.length with h|h
   ·exact h
   ·rw[kT h]at h2;cases h2
  exact(hR.ext _ _ _<|hc _ _<|Ib us hi hj).2
 refine⟨us,fun w1=>by simp[Builtin.lenOf],fun w1 gC=>?_,hF,cT⟩
 cases news with
 |nil=>
  cases A with
  |none=>simp[Builtin.firstCells,Va]
  |some a=>simp[Builtin.firstCells,Va,loadCells,loadCellsFrom]
 |cons r rs=>
  rw[hA<|by simp];have:=run_firstCells_some (P:=P) w1 size (r::rs).length ⟨g,off,none⟩ (r::rs).length cap (Va us (r::rs).length size) (Ak _ _ _) ?_
  ·exact this
  ·intro q v hq;rw[yR,cell_of_heap gC];exact(hR.ext _ _ _<|hc q v hq).1
theorem Ma.str{l:BS}:Ma P G.H w (.string ⟨l.toArray⟩) 1 (l.map Yx) (fun i _=>.int .u8 ((l.getD i 0).toNat:Int)):=by
 refine⟨fun w1=>by simp[Builtin.lenOf,ByteArray.size],fun w1 _=>?_,?_,fun _ _ _ _ _ _=>rfl⟩
 ·simp only[Builtin.firstCells,jW]
  congr 1
  apply zM;apply List.ext_getElem?;intro q
  have hs:(ByteArray.mk l.toArray).extract 0 (l.map Yx).length=ByteArray.mk l.toArray:=by
   rw[ByteArray.extract_mk];simp
  rw[hs];simp only[];rw[Mi];simp only[jK,Nat.mul_one,Nat.div_one];simp only[Array.toList_map,jY];split
  ·rename_i h;rw[kH h];simp[List.getD,kH h]
  ·rename_i h;rw[kT<|by omega];rfl
 ·intro i row j a h1 h2;simp only[jY,kN]at h1;obtain⟨c,hc,rfl⟩:=h1
  cases j with
  |zero=>
   simp only[Yx,yT,Option.some.injEq]at h2;subst h2;have:l.getD i 0=c:=by simp[List.getD,hc]
   show Fz G.H _ (.int .u8 ((l.getD i 0).toNat:Int));rw[this];exact .i _ _
  |succ j=>simp[Yx]at h2
theorem T1(cP j3:Nat->Nat->Value)(n m size:Nat)(hs:0<size):Va (fun i j=>if i<n then cP i j else j3 (i-n) j) (n+m) size=Va cP n size++Va j3 m size:=by
 apply List.ext_getElem?;intro q;rw[Mi,zC,Ak,Mi,Mi];have hmul:(n+m)*size=n*size+m*size:=Nat.add_mul _ _ _;by_cases h1:q<n*size
 ·rw[kC<|by omega,kC h1,kC h1,kC<|xD (by rw[yL];exact h1)]
 ·rw[kA h1];by_cases h2:q<n*size+m*size
  ·have hq:q=(q-n*size)+size*n:=by rw[yL size n];omega
   have hd:q / size=(q-n*size) / size+n:=by
    have h4:q / size=((q-n*size)+size*n) / size:=jC (· / size) hq;rw[h4,Nat.add_mul_div_left _ _ hs]
   have hm:q % size=(q-n*size) % size:=by
    have h4:q % size=((q-n*size)+size*n) % size:=jC (· % size) hq;rw[h4,Nat.add_mul_mod_self_left]
   have e1:(if q / size<n then cP (q / size) (q % size)else j3 (q / size-n) (q % size))=j3 ((q-n*size) / size) ((q-n*size) % size):=by
    rw[kA (by rw[hd];exact Nat.not_lt.2<|Nat.le_add_left _ _),hd,hm,Nat.add_sub_cancel]
   rw[kC<|by omega,e1,kC<|by omega]
  ·rw[kA<|by omega,kA<|by omega]
theorem CH{H:Hp}{rows news:List (List AV)}{cP j3:Nat->Nat->Value}{p:AV->Value->Prop}(h1 :∀(i:Nat) row (j:Nat) a,rows[i]?=some row->row[j]?=some a->p a (cP i j))(h2 :∀(i:Nat) row (j:Nat) a,news[i]?=some row->row[j]?=some a->p a (j3 i j))(_:H=H):
  ∀(i:Nat) row (j:Nat) a,(rows++news)[i]?=some row->row[j]?=some a->p a ((fun i j=>if i<rows.length then cP i j else j3 (i-rows.length) j) i j):=by
 intro i row j a hi hj;rw[zC]at hi;by_cases h:i<rows.length
 ·rw[kC h]at hi;simp only[kC h];exact h1 i row j a hi hj
 ·rw[kA h]at hi;simp only[kA h];exact h2 _ row j a hi hj
end
end Go.AM

namespace Go.AM
open Go Go.RowKit
section
variable{P:Program}{G:Gh}{w0 w:World}{st:St}
theorem CI{l r:List Value}{q:Nat}{v:Value}(h:l[q]?=some v):(l++r)[q]?=some v:=by
 rw[zC]
 have:q<l.length:=by
  rcases jF q l.length with h'|h'
  ·exact h'
  ·rw[kT h']at h;cases h
 rw[kC this];exact h
theorem Xph{n g cap size:Nat}(h:TR G w0 w n g cap size):g<w.heap.size:=by obtain⟨cur,e,_,h2,_⟩:=h;exact Qx h2
theorem R6(hR:Yy G w0 st w){t t2 ty e:TypeId}{d2:TypeDesc}{ti:TypeInfo}{z:Value}(ht:P.underlying t=some (.slice e))(eW:P.underlying t2=some d2)(cK:d2=.string\/∃e2,d2=.slice e2)(hi:P.info? e=some ti)(hz:ti.zero=some z)(dL:z.cells.size=ti.size)
  {A:Option Addr}{cap:Nat}{rows news:List (List AV)}(hF:Fz G.H (.sl .ext rows) (.slice A rows.length cap)) (eA :∀row∈rows,row.length=ti.size) (eM :∀row∈news,row.length=ti.size){vx:Value}{us:Nat->Nat->Value}(bM:Ma P G.H w vx ti.size news us)
  (aI:0<ti.size) (aK:cap<rows.length+news.length) (lx:rows.length+news.length<=9223372036854775807) (fL:(rows.length+news.length)*ti.bytes<=2 ^ 47)
  {d site ver:Nat}(hT:Wo<=site->e=Mx G.fm) (hω:G.ω (d,site) ver=none) (hv:ver<st.nx){ow':List (Zt × Nat × Nat)}(hk:lk ow' (d,site)=some (ver,rows.length+news.length)) (aQ :∀k x,k≠(d,site)->lk ow' k=some x->lk st.ow k=some x) :
  ∃v w' G',(Builtin.append_ #[t,t2] ty #[.slice A rows.length cap,vx]).run P w=.ok v w'/\R G' (.sl (.id (d,site) ver)<|rows++news) v/\Vq G G' w0 st { st with ow:=ow' } w' d site ver:=by
 obtain⟨cP,h1⟩:=Ma.slice (P:=P) hR hF eA;have gE:w.drew.heap=w.heap:=rfl;have aO:=Wa0 (ty:=ty) ht eW cK hi hz (base:=A) (cap:=cap) (bM.len w) (bM.first w.drew gE) (h1.first w.drew gE) aK lx fL;have bW:=T1 cP us rows.length news.length ti.size aI
 have aZ :∀row∈rows++news,row.length=ti.size:=by
  intro row h;rcases kZ.1 h with h|h
  ·exact eA row h
  ·exact eM row h
 have ri:=CH (H:=G.H) (p:=fun a v=>Fz G.H a v) h1.fz bM.fz rfl;have cT:=CH (H:=G.H) (p:=fun _ v=>v.oneCell'=true) h1.one bM.one rfl;generalize ng:grownCap w (rows.length+news.length) cap e=cA at aO
 have gG:rows.length+news.length<=cA:=by
  rw[<- ng];unfold grownCap Question.cut;exact Nat.le_add_right _ _
 have cR :∀(q:Nat) v,(Va (fun i j=>if i<rows.length then cP i j else us (i-rows.length) j) (rows++news).length ti.size)[q]?=some v->
   ((Va cP rows.length ti.size).toArray++(Va us news.length ti.size).toArray++Builtin.zeroCells z.cells (cA-(rows.length+news.length)))[q]?=some v:=by
  intro q v h;rw[kF,bW]at h;rw[<- zY];simp only[Array.toList_append];exact CI h
 obtain⟨dM,B9⟩:=AN (w1:=w.drew) hR aZ ri cT cR (e:=e) gE ((Below.refl _ _).drew) cA (by rw[kF];exact gG) (d:=d) (site:=site) (ver:=ver);simp only[kF]at dM B9;have h_:=heap_alloc_new w.drew (.cells ((Va cP rows.length ti.size).toArray++(Va us news.length ti.size).toArray++Builtin.zeroCells z.cells (cA-(rows.length+news.length))) e);rw[show w.drew.heap.size=w.heap.size from rfl]at h_
 have lK:=hR.newOwn (g:=w.heap.size) (cap:=cA) (size:=ti.size) (n:=rows.length+news.length) (key:=(d,site)) (ver:=ver)
  (w':=w.drew.alloc (.cells ((Va cP rows.length ti.size).toArray++(Va us news.length ti.size).toArray++Builtin.zeroCells z.cells (cA-(rows.length+news.length))) e))
  (H':=fun g o=>if g=w.heap.size then (Va (fun i j=>if i<rows.length then cP i j else us (i-rows.length) j) (rows.length+news.length) ti.size)[o]? else G.H g o)
  hR.bel.size rfl rfl rfl (by simp) (fun i bK _=>Below.heap_alloc _ _ _ bK) (fun k v cs h1 h2=>by
   obtain⟨_,_,_,hb,_⟩:=hR.bx k v cs _ h1 h2;have:=Qx hb
   omega) dM.le.H (fun g o v h=>by
   have h':(if g=w.heap.size then (Va (fun i j=>if i<rows.length then cP i j else us (i-rows.length) j) (rows.length+news.length) ti.size)[o]? else G.H g o)=some v:=h;split at h'
   ·rename_i hg;subst hg;refine .inr ⟨rfl,(dM.rel.ext _ o v (by show(if w.heap.size=w.heap.size then _ else _)=_;rw[kC rfl];exact h')).1,(dM.rel.ext _ o v (by show(if w.heap.size=w.heap.size then _ else _)=_;rw[kC rfl];exact h')).2,?_⟩;rw[Mi]at h';split at h'
    ·rename_i hq;exact hq
    ·cases h'
   ·rename_i hg;exact .inl ⟨hg,h'⟩) hT h_ (by
   simp only[Array.size_append,List.size_toArray,Ak,size_zeroCells,dL];rw[<- Nat.add_mul,<- Nat.add_mul]
   congr 1
   omega) gG aI hω hv hk aQ (fun k v m g' c s dA cN lL=>by
   obtain⟨g1,c1,s1,e1,e2,_⟩:=hR.ow k v m (aQ k _ dA cN);rw[lL]at e1;cases e1;have:=Xph e2;omega) (fun b o h _ e=>by have:=Qx h;omega)
 refine⟨_,_,_,aO,?_,⟨?_,lK,kU _,?_,fun _ _ _ _ _ _ _ h=>h,dM.newH⟩⟩
 ·refine .sl _ _ _ _ _ B9 ⟨w.heap.size,ti.size,?_,rfl,fun i row aE=>⟨aZ row<|jP aE,fun j a ha=>?_⟩⟩
  ·show(if _=_/\_=_ then some (w.heap.size,cA,ti.size)else _)=_;rw[kC ⟨rfl,rfl⟩]
  ·refine⟨(fun i j=>if i<rows.length then cP i j else us (i-rows.length) j) i j,?_⟩;show(if w.heap.size=w.heap.size then _ else _)=_;rw[kC rfl];refine Ib (fun i j=>if i<rows.length then cP i j else us (i-rows.length) j) ?_ ?_
   ·rcases jF i (rows++news).length with h|h
    ·rw[kF]at h;exact h
    ·rw[kT h]at aE;cases aE
   ·rw[<- aZ row (jP aE)];rcases jF j row.length with h|h
    ·exact h
    ·rw[kT h]at ha;cases ha
 ·exact Gh.le_setω dM.le.H hω _
 ·intro k v _ iF;refine⟨rfl,?_⟩;show(if k=(d,site)/\v=ver then _ else G.ω k v)=_;rw[kA (by rintro⟨rfl,rfl⟩;exact iF rfl)]
theorem Wdm(hR:Yy G w0 st w){t t2 ty e:TypeId}{d2:TypeDesc}{ti:TypeInfo}(ht:P.underlying t=some (.slice e))(eW:P.underlying t2=some d2)(cK:d2=.string\/∃e2,d2=.slice e2)(hi:P.info? e=some ti)
  {k:Zt}{v g cap:Nat}{rows news:List (List AV)}(hF:Fz G.H (.sl .ext rows) (.slice (some ⟨g,0,none⟩) rows.length cap)) (eA :∀row∈rows,row.length=ti.size) (eM :∀row∈news,row.length=ti.size){vx:Value}{us:Nat->Nat->Value}(bM:Ma P G.H w vx ti.size news us)
  (bN:lk st.ow k=some (v,rows.length)) (mz:G.ω k v=some (g,cap,ti.size)) (hle:rows.length+news.length<=cap)
  {d site ver:Nat}(hB:Wo<=site->Wo<=k.2) (hω:G.ω (d,site) ver=none) (hv:ver<st.nx) (gH:0<rows.length) :
  ∃x w' G',(Builtin.append_ #[t,t2] ty #[.slice (some ⟨g,0,none⟩) rows.length cap,vx]).run P w=.ok x w'/\R G' (.sl (.id (d,site) ver)<|rows++news) x/\Vq G G' w0 st { st with ow:=Xm (del st.ow k) (d,site) (ver,rows.length+news.length) } w' d site ver:=by
 obtain⟨g1,m6,j0,e1,⟨cur,eb,eD,aF,iG,j4,aI,bG⟩,cG⟩:=hR.ow k v _ bN;rw[mz]at e1;cases e1;obtain⟨cP,h1⟩:=Ma.slice (P:=P) hR hF eA;have hmul:(rows.length+news.length)*ti.size<=cap*ti.size:=yC _ hle;rw[Nat.add_mul]at hmul
 have bU:=run_storeCells_at (P:=P) g (rows.length*ti.size) eb (Va us news.length ti.size) 0 cur w aF (by rw [Ak];omega) (by
  intro x hx;obtain⟨q,hq,rfl⟩:=xH hx;have gW:(Va us news.length ti.size)[q]?=some (Va us news.length ti.size)[q]:=kH hq;generalize (Va us news.length ti.size)[q]=x0 at gW⊢;rw[Mi]at gW;split at gW
  ·rename_i aK;cases gW;have bK:q / ti.size<news.length:=xD (by rw[yL];exact aK);have hm:q % ti.size<news[q / ti.size].length:=by rw[eM _<|kL bK];exact Nat.mod_lt _ aI
   exact bM.one _ _ _ _ (kH bK) (kH hm)
  ·cases gW)
 simp only[zV]at bU;have aO:=R4 (ty:=ty) ht eW cK hi (base:=some ⟨g,0,none⟩) (bM.len w) (bM.first w rfl) hle;simp only[yR,yI]at aO;rw[bU]at aO
 have aZ :∀row∈rows++news,row.length=ti.size:=by
  intro row h;rcases kZ.1 h with h|h
  ·exact eA row h
  ·exact eM row h
 -- the block behind the store
 have iH:=setRow_heap w g cur (cur.toList.take (rows.length*ti.size)++Va us news.length ti.size++cur.toList.drop (rows.length*ti.size+(Va us news.length ti.size).length)).toArray eb (0,0) aF;generalize hW:w.setRow g (cur.toList.take (rows.length*ti.size)++Va us news.length ti.size++cur.toList.drop (rows.length*ti.size+(Va us news.length ti.size).length)).toArray=w' at iH aO;have j5:cur.toList.length=cap*ti.size:=by simp[iG]
 have lM:Ba G.H (fun g' o=>if g'=g/\rows.length*ti.size<=o then (Va us news.length ti.size)[o-rows.length*ti.size]? else G.H g' o):=fun g' o x h=>by
  show(if g'=g/\rows.length*ti.size<=o then _ else G.H g' o)=some x;rw[kA (by rintro⟨rfl,h2⟩;rw[bG o h2]at h;cases h)];exact h
 -- the cells of rows,told by H
 have hold :∀o,o<rows.length*ti.size->∀x,cur[o]?=some x->w'.cell? ⟨g,o,none⟩=some x:=by
  intro o ho x hx;simp only[World.cell?,iH,Option.isSome_none,jL,jT];rw[<- zY];rw[jD];refine CI ?_;rw[zD,kC ho,zY];exact hx
 have nh :∀(q:Nat) x,(Va us news.length ti.size)[q]?=some x->w'.cell? ⟨g,rows.length*ti.size+q,none⟩=some x:=by
  intro q x hx;simp only[World.cell?,iH,Option.isSome_none,jL,jT];rw[<- zY];simp only[];refine CI ?_;rw[zC];have hl:(cur.toList.take<|rows.length*ti.size).length=rows.length*ti.size:=by rw[kW,j5];omega
  rw[kA<|by omega,hl,Nat.add_sub_cancel_left];exact hx
 have nj :∀(q:Nat) x,(Va us news.length ti.size)[q]?=some x->q<news.length*ti.size/\x.oneCell'=true:=by
  intro q x hq;rw[Mi]at hq;split at hq
  ·rename_i aK;cases hq;have bK:q / ti.size<news.length:=xD (by rw[yL];exact aK);have hm:q % ti.size<news[q / ti.size].length:=by rw[eM _<|kL bK];exact Nat.mod_lt _ aI
   exact⟨aK,bM.one _ _ _ _ (kH bK)<|kH hm⟩
  ·cases hq
 have lK:=hR.newOwn (w':=w') (g:=g) (cap:=cap) (size:=ti.size) (n:=rows.length+news.length) (key:=(d,site)) (ver:=ver)
  (H':=fun g' o=>if g'=g/\rows.length*ti.size<=o then (Va us news.length ti.size)[o-rows.length*ti.size]? else G.H g' o)
  (ow':=Xm (del st.ow k) (d,site) (ver,rows.length+news.length)) eD (by rw[<- hW];rfl) (by rw[<- hW];rfl) (by rw[<- hW];rfl) (by rw[<- hW];simp) (fun i bK aQ=>by rw[<- hW];exact setRow_other w g i _ aQ) cG lM
  (fun g' o x h=>by
   have h':(if g'=g/\rows.length*ti.size<=o then (Va us news.length ti.size)[o-rows.length*ti.size]? else G.H g' o)=some x:=h;split at h'
   ·rename_i hg;obtain⟨rfl,fI⟩:=hg;obtain⟨h3,h4⟩:=nj _ _ h';have h5:=nh _ _ h';rw[show rows.length*ti.size+(o-rows.length*ti.size)=o from by omega]at h5;exact .inr ⟨rfl,h5,h4,by rw[Nat.add_mul];omega⟩
   ·rename_i hg;by_cases gX:g'=g
    ·subst gX
     have ho:o<rows.length*ti.size:=by
      rcases jF o (rows.length*ti.size)with h3|h3
      ·exact h3
      ·exact absurd ⟨rfl,h3⟩ hg
     obtain⟨h3,h4⟩:=hR.ext _ o x h';simp only[World.cell?,aF,Option.isSome_none,jL,jT]at h3;exact .inr ⟨rfl,hold o ho x h3,h4,by rw[Nat.add_mul];omega⟩
    ·exact .inl ⟨gX,h'⟩) (fun hb=>by
   obtain⟨cF,h3⟩:=hR.owT k v _ (hB hb) bN g cap ti.size mz;rw[aF]at h3;injection h3 with h3;injection h3 with _ h3) iH (by simp only [List.size_toArray,kF,kW,List.length_drop,j5,Ak];omega) hle aI hω hv (my _ _ _)
  (fun k2 x cN h=>by
   rw[Ci _ _<|Ne.symm cN,Tb]at h;split at h
   ·cases h
   ·exact h)
  (fun k2 v2 m g2 c s cN h3 h4=>by
   rw[Ci _ _<|Ne.symm cN,Tb]at h3;split at h3
   ·cases h3
   ·rename_i hn;rintro rfl;exact hn (hR.owinj k2 k v2 v m _ _ _ _ _ _ h3 bN h4 mz)) (fun b o h hc e=>by rw [e,aF] at h;cases h;cases hc)
 obtain⟨_,_,mj,g0,aAh,CJ,nk,hf0⟩:=hF.cells_of eA;have iE:=CJ (by intro h;rw[h]at gH;simp at gH);injection iE with iE;injection iE with hg0 nl;subst hg0;subst nl;have ri:=CH (H:=G.H) (p:=fun a v=>Fz G.H a v) hf0 bM.fz rfl;have bW:=T1 mj us rows.length news.length ti.size aI
 have bV :∀(q:Nat) x,(Va (fun i j=>if i<rows.length then mj i j else us (i-rows.length) j) (rows.length+news.length) ti.size)[q]?=some x->
   (if g=g/\rows.length*ti.size<=q then (Va us news.length ti.size)[q-rows.length*ti.size]? else G.H g q)=some x:=by
  intro q x hq;rw[bW,zC,Ak]at hq;by_cases h:q<rows.length*ti.size
  ·rw[kC h]at hq;rw[kA<|by omega];have:=nk q x hq;simpa using this
  ·rw[kA h]at hq;rw[kC ⟨rfl,by omega⟩];exact hq
 have fD :∀(i:Nat) row (j:Nat) a,(rows++news)[i]?=some row->row[j]?=some a->i<rows.length+news.length/\j<ti.size:=by
  intro i row j a h2 h3;constructor
  ·rcases jF i (rows++news).length with h|h
   ·rw[kF]at h;exact h
   ·rw[kT h]at h2;cases h2
  ·rw[<- aZ row (jP h2)];rcases jF j row.length with h|h
   ·exact h
   ·rw[kT h]at h3;cases h3
 refine⟨_,_,_,aO,?_,⟨Gh.le_setω lM hω _,lK,kU _,?_,fun _ _ _ _ _ _ _ h=>h,?_⟩⟩
 ·have T2:Fz (fun g' o=>if g'=g/\rows.length*ti.size<=o then (Va us news.length ti.size)[o-rows.length*ti.size]? else G.H g' o) (.sl .ext<|rows++news) (.slice (some ⟨g,0,none⟩) (rows++news).length cap):=by
   refine .sl _ _ _ ti.size g 0 (fun i j=>if i<rows.length then mj i j else us (i-rows.length) j) (fun _=>rfl) (by rw[kF];exact hle) (fun i row h=>aZ row<|jP h) ?_ (fun i row j a h2 h3=>(ri i row j a h2 h3).mono lM);intro i row j a h2 h3;obtain⟨bK,hj⟩:=fD i row j a h2 h3;have:=bV _ _ (Ib (fun i j=>if i<rows.length then mj i j else us (i-rows.length) j) bK hj);rw[yI];exact this
  rw[kF]at T2;refine .sl _ _ _ _ _ T2 ⟨g,ti.size,?_,rfl,fun i row aE=>⟨aZ row<|jP aE,fun j a ha=>?_⟩⟩
  ·show(if _=_/\_=_ then some (g,cap,ti.size)else _)=_;rw[kC ⟨rfl,rfl⟩]
  ·obtain⟨bK,hj⟩:=fD i row j a aE ha;exact⟨_,bV _ _<|Ib (fun i j=>if i<rows.length then mj i j else us (i-rows.length) j) bK hj⟩
 ·intro k2 v2 _ iF;refine⟨rfl,?_⟩;show(if k2=(d,site)/\v2=ver then _ else G.ω k2 v2)=_;rw[kA (by rintro⟨rfl,rfl⟩;exact iF rfl)]
 ·intro g' o x h;have h':(if g'=g/\rows.length*ti.size<=o then (Va us news.length ti.size)[o-rows.length*ti.size]? else G.H g' o)=some x:=h;split at h'
  ·rename_i hg;obtain⟨rfl,_⟩:=hg;exact .inr eD
  ·exact .inl h'
end
end Go.AM
