/- Parts of the proof: B0, D38, D38f, Pk, R0, R1, R2, R3, V03, V03b, V03c, V38, R4, R5, Pq, S3, Pt. -/
import Derived.Test.YtbcdfamilcmjnaaGreatG0
import Derived.Test.YtbcdfamilcmjnaaGreatG1
import Derived.Carry
import Derived.DataReads
import Derived.WalkKit
import Derived.ProofKit
import Derived.OpenShut
import Derived.Laws.Externs
import Derived.Lib.Bytealg
import Derived.Lib.Builder
set_option linter.all false
namespace Go.AM
open Go
def Out (B:BC):Prop:=∀(d:Nat) (bx:Bxs) (ow:Ows) (k:Key) (v:Nat),k.1<d→B bx ow k v→B (bx.filter fun x=>x.1.1<d) ow k v
theorem lk_out {bx:Bxs} {d:Nat} {k:Key} (hk:k.1<d):lk (bx.filter fun x=>x.1.1<d) k=lk bx k:=by
 have:=lk_filter' bx (fun k=>decide (k.1<d)) k
 rw [this,if_pos (by simpa using hk)]
theorem Bx.out {cs:List AV}:Out (Bx cs):=fun d bx ow k v hk h=>by
 show lk _ k=_
 rw [lk_out hk]
 exact h
theorem Bl.out {b:List UInt8}:Out (Bl b):=fun d bx ow k v hk ⟨c0,o,h1,h2⟩=>⟨c0,o,by rw [lk_out hk];exact h1,h2⟩
theorem PuX.of {prog:Prog} {f:Nat} {F:AF} {B B':BC} {args:List AV} {RR:AV→Prop} (hf:prog.fn f=some F) (hn:Nat.ble (args.length+1) F.nt=true) (ho:Out B')
  (h :∀(d:Nat) (st:St) (k:Key) (v:Nat),k.1<d→B st.bx st.ow k v→W prog d F.body (sl0 (.p k v 0::args)) st fun e σ st'=>(e=.normal∨e=.ret)∧∃r,ares σ st' F.res=some r∧RR r∧B' st'.bx st'.ow k v∧Fr d k st.bx st.ow st'.bx st'.ow):PuX prog f B args RR B':=by
 intro d st k v hk hB
 obtain ⟨r,st',h1,h2⟩:=Fn.of' (prog:=prog) (K:=fun r st'=>RR r∧B' st'.bx st'.ow k v∧Fr d k st.bx st.ow st'.bx st'.ow) hf (by simpa using Nat.le_of_ble_eq_true hn) ((h d st k v hk hB).mono fun e σ st' hq=>by
  obtain ⟨he,r,h1,h2,h3,h4⟩:=hq
  rcases he with rfl | rfl
  ·exact ⟨r,h1,h2,ho d _ _ k v hk h3,h4.out⟩
  ·exact ⟨r,h1,h2,ho d _ _ k v hk h3,h4.out⟩)
 exact ⟨r,st',h1,h2⟩
theorem PuXK.of {β:Type} {prog:Prog} {f:Nat} {F:AF} {B:BC} {B':β→BC} {args:List AV} {KK:AV→β→Prop} (hf:prog.fn f=some F) (hn:Nat.ble (args.length+1) F.nt=true) (ho :∀b,Out (B' b))
  (h :∀(d:Nat) (st:St) (k:Key) (v:Nat),k.1<d→B st.bx st.ow k v→W prog d F.body (sl0 (.p k v 0::args)) st fun e σ st'=>(e=.normal∨e=.ret)∧∃r b,ares σ st' F.res=some r∧KK r b∧B' b st'.bx st'.ow k v∧Fr d k st.bx st.ow st'.bx st'.ow):PuXK prog f B args KK B':=by
 intro d st k v hk hB
 obtain ⟨r,st',h1,b,h2,h3,h4⟩:=Fn.of' (prog:=prog) (K:=fun r st'=>∃b,KK r b∧B' b st'.bx st'.ow k v∧Fr d k st.bx st.ow st'.bx st'.ow) hf (by simpa using Nat.le_of_ble_eq_true hn) ((h d st k v hk hB).mono fun e σ st' hq=>by
  obtain ⟨he,r,b,h1,h2,h3,h4⟩:=hq
  rcases he with rfl | rfl
  ·exact ⟨r,h1,b,h2,ho b d _ _ k v hk h3,h4.out⟩
  ·exact ⟨r,h1,b,h2,ho b d _ _ k v hk h3,h4.out⟩)
 exact ⟨r,st',b,h1,h2,h3,h4⟩
section
variable {prog:Prog} {d id base i:Nat} {σ:Sl} {st:St} {K:Sl→St→Prop} {r:List AI} {t:Option Nat} {x y:Opd}
theorem s_peq {neg:Bool} {a b v:AV} (hx:x.ev σ=a) (hy:y.ev σ=b) (hv:apeq neg a b=some v) (h:WO prog d id base (i+1) r (upO σ t v) st K):WO prog d id base i (⟨t,.peq neg x y,none⟩::r) σ st K:=
 s_pure (fun K=>by simp only [WOp,aexec,apure,hx,hy,hv,Option.map_some,onO_some]) h
theorem s_cvp {n v:Nat} {k:Key} {cs:List AV} (hx:x.ev σ=.p k v 0) (hb:lk st.bx k=some (v,cs)) (hk:bigSite≤k.2) (hn:cs.length=n) (h:WO prog d id base (i+1) r (upO σ t (.p k v 0)) st K):WO prog d id base i (⟨t,.cvp n x,none⟩::r) σ st K:=
 s_pure (fun K=>by
  simp only [WOp,aexec,acvp,hx,hb]
  rw [if_pos ⟨trivial,hk,hn⟩]
  simp only [Option.map_some,onO_some]) h
theorem s_callO {f:Nat} {args:List Opd} {vs:List AV} {v:AV} (hf:prog.fn f=none) (hs:evs σ args=vs) (ho:prog.orac f vs=some v) (h:WO prog d id base (i+1) r (upO σ t v) st K):WO prog d id base i (⟨t,.call true f args,none⟩::r) σ st K:=by
 refine s_one ?_
 rw [WOp_callp,hs]
 exact ⟨_,_,⟨1,by simp only [acall,hf,ho]⟩,h⟩
end
theorem W.regB {prog:Prog} {d id t:Nat} {σ:Sl} {st:St} {Q:AE→Sl→St→Prop} (hid:Nat.ble 1000000 id=true)
  (h :∀(nx v:Nat) (bx':Bxs),Bl [] bx' st.ow (d,id*4096+0) v→(∀k':Key,(d,id*4096+0)≠k'→lk bx' k'=lk st.bx k')→Q .normal (upO σ (some t) (.p (d,id*4096+0) v 0)) ⟨nx,bx',st.ow⟩):W prog d (.reg id [⟨some t,.alloc [.np,.sl .full []],none⟩]) σ st Q:=by
 refine W.reg (s_alloc (s_nil (h _ _ _ ?_ ?_)))
 ·refine ⟨.np,.full,lk_here,.inl rfl,rfl,?_⟩
  have:=Nat.le_of_ble_eq_true hid
  show 4096000000≤id*4096+0
  omega
 ·intro k' hk
  exact lk_ne hk
def pf145:AF:={ nt:=20,res:=[],body:=
 (.seq (.reg 1000000 [⟨(some 2),.mv (.t 0),none⟩,
  ⟨(some 3),.nilc (.t 2),none⟩,
  ⟨(some 4),.fad 0 (.t 3),none⟩,
  ⟨(some 5),.load 1 false (.t 4),none⟩,
  ⟨(some 6),.peq false (.t 5) (.c (.np)),none⟩])
 (.cond (.t 6)
  (.reg 1000001 [⟨(some 7),.mv (.t 0),none⟩,
   ⟨(some 8),.mv (.t 0),none⟩,
   ⟨(some 9),.cvp 2 (.t 8),none⟩,
   ⟨(some 10),.call true 146 [(.t 9)],none⟩,
   ⟨(some 11),.cvp 2 (.t 10),none⟩,
   ⟨(some 12),.nilc (.t 7),none⟩,
   ⟨(some 13),.fad 0 (.t 12),none⟩,
   ⟨none,.store 1 (.t 13) (.t 11),none⟩])
  (.seq (.reg 1000002 [⟨(some 14),.mv (.t 0),none⟩,
   ⟨(some 15),.nilc (.t 14),none⟩,
   ⟨(some 16),.fad 0 (.t 15),none⟩,
   ⟨(some 17),.load 1 false (.t 16),none⟩,
   ⟨(some 18),.mv (.t 0),none⟩,
   ⟨(some 19),.peq true (.t 17) (.t 18),none⟩])
  (.cond (.t 19)
   (.cond (.c .u) .skip .skip)
   .skip)))) }
def pf126:AF:={ nt:=19,res:=[.tmp 4,.tmp 5],body:=
 (.seq (.reg 0 [⟨(some 4),.mv (.c (.i .i64 0)),none⟩,
  ⟨(some 5),.mv (.c (.ni)),none⟩])
 (.seq (.reg 1 [⟨(some 6),.mv (.t 0),none⟩,
  ⟨(some 7),.call true 145 [(.t 6)],none⟩])
 (.seq (.reg 1000002 [⟨(some 8),.mv (.t 0),none⟩,
  ⟨(some 9),.mv (.t 0),none⟩,
  ⟨(some 10),.nilc (.t 9),none⟩,
  ⟨(some 11),.fad 1 (.t 10),none⟩,
  ⟨(some 12),.load 1 false (.t 11),none⟩,
  ⟨(some 13),.mv (.t 1),none⟩,
  ⟨(some 14),.appS (.t 12) (.t 13),none⟩,
  ⟨(some 15),.nilc (.t 8),none⟩,
  ⟨(some 16),.fad 1 (.t 15),none⟩,
  ⟨none,.store 1 (.t 16) (.t 14),none⟩])
 (.seq (.reg 3 [⟨(some 17),.mv (.t 1),none⟩,
  ⟨(some 18),.len true (.t 17),none⟩,
  ⟨(some 4),.mv (.t 18),none⟩,
  ⟨(some 5),.mv (.c (.ni)),none⟩])
 .ret)))) }
theorem aapp_B {key:Key} {ver:Nat} {o:Own} {l m:List UInt8} {st:St} (ha:AppB st.ow o l.length) (hk:bigSite≤key.2) (hs:l.length+m.length≤maxBytes)
  {K:AV→St→Prop} (hK :∀o' ow',AppB ow' o' (l++m).length→(∀k':Key,k'.2<bigSite→lk ow' k'=lk st.ow k')→K (.sl o' ((l++m).map row8)) ⟨st.nx,st.bx,ow'⟩):onO (aapp key ver 1 1 (.sl o (l.map row8)) (m.map row8) st) fun r=>K r.1 r.2:=by
 simp only [aapp]
 rw [if_pos ⟨by simpa using hs,by simpa using hs,Nat.one_pos,by simp [row8],by simp [row8]⟩]
 cases m with
 | nil=>
  rw [if_pos (show (List.map row8 []).isEmpty=true from rfl),onO_some]
  have:=hK o st.ow (by rw [List.append_nil];exact ha) (fun _ _=>rfl)
  rwa [List.append_nil] at this
 | cons c m=>
  rw [if_neg (by simp)]
  have hpos:0<(l++c::m).length:=by simp;omega
  cases o with
  | ext=>exact ha.elim
  | full=>
   simp only [onO_some]
   rw [← List.map_append]
   refine hK (.id key ver) _ ⟨by rw [lk_st',if_pos rfl];simp,hpos,hk⟩ (fun k' h=>?_)
   rw [lk_st',if_neg (by rintro rfl;exact absurd h (Nat.not_lt.2 hk))]
  | id k v=>
   obtain ⟨ha1,ha2,ha3⟩:=ha
   simp only [ha1]
   rw [if_pos ⟨trivial,by simp,by simpa using ha2,.inr ha3⟩]
   simp only [onO_some]
   rw [← List.map_append]
   refine hK (.id key ver) _ ⟨by rw [lk_st',if_pos rfl];simp,hpos,hk⟩ (fun k' h=>?_)
   rw [lk_st',if_neg (by rintro rfl;exact absurd h (Nat.not_lt.2 hk)),lk_del',if_neg (by rintro rfl;exact absurd h (Nat.not_lt.2 ha3))]
theorem WOp_appB {prog:Prog} {d site ver:Nat} {σ:Sl} {st:St} {s x:Opd} {o:Own} {l m:List UInt8} (hs:s.ev σ=.sl o (l.map row8)) (hx:x.ev σ=.s m) (ha:AppB st.ow o l.length) (hb:bigSite≤site) (h2:l.length+m.length≤maxBytes)
  {K:AV→St→Prop} (hK :∀o' ow',AppB ow' o' (l++m).length→(∀k':Key,k'.2<bigSite→lk ow' k'=lk st.ow k')→K (.sl o' ((l++m).map row8)) ⟨st.nx,st.bx,ow'⟩):WOp prog d site ver σ st K (.appS s x):=by
 rw [WOp_appS,hx,onS_s,hs]
 exact aapp_B ha hb h2 hK
theorem isF0_ne {o:Own} {l:List UInt8} (h:l≠[]):(AV.sl o (l.map row8)).isF0=false:=by
 cases l with
 | nil=>exact absurd rfl h
 | cons c l=>cases o<;>rfl
structure HasB (prog:Prog):Prop where
 f145:prog.fn 145=some pf145
 f126:prog.fn 126=some pf126
 f146:prog.fn 146=none
 f105:prog.fn 105=none
 o146 :∀k v,prog.orac 146 [.p k v 0]=some (.p k v 0)
 o105 :∀args,prog.orac 105 args=none
 s105 :∀args st,prog.oracS 105 args st=bStr args st
def Bl1 (b:List UInt8):BC:=fun bx ow k v=>∃o,lk bx k=some (v,[.p k v 0,.sl o (b.map row8)])∧AppB ow o b.length∧bigSite≤k.2
theorem Bl1.out {b:List UInt8}:Out (Bl1 b):=fun d bx ow k v hk ⟨o,h1,h2⟩=>⟨o,by rw [lk_out hk];exact h1,h2⟩
section
variable {prog:Prog} (H:HasB prog)
include H
theorem c145 (b:List UInt8):PuX prog 145 (Bl b) [] (fun r=>r=.tup []) (Bl1 b):=by
 refine PuX.of H.f145 rfl Bl1.out fun d st k v hk hB=>?_
 obtain ⟨c0,o,hb,hc0,hap,hbig⟩:=hB
 refine W.seq (W.reg0 rfl fun nx _=>?_)
 rcases hc0 with rfl | rfl
 ·refine s_mv (v:=.p k v 0) rfl (s_nilP rfl (s_fadP rfl (s_loadP (w:=.np) rfl hb rfl rfl (s_peq (v:=.b true) rfl rfl rfl (s_nil (W.tt rfl (W.reg0 rfl fun nx2 _=>?_)))))))
  refine s_mv (v:=.p k v 0) rfl (s_mv (v:=.p k v 0) rfl (s_cvp rfl hb hbig rfl (s_callO H.f146 rfl (H.o146 k v) (s_cvp rfl hb hbig rfl (s_nilP rfl (s_fadP rfl (s_storeP rfl hb (w:=.p k v 0) rfl rfl rfl (s_nil ?_))))))))
  exact ⟨.inl rfl,_,rfl,rfl,⟨o,lk_here,hap,hbig⟩,Fr.refl.own⟩
 ·refine s_mv (v:=.p k v 0) rfl (s_nilP rfl (s_fadP rfl (s_loadP (w:=.p k v 0) rfl hb rfl rfl (s_peq (v:=.b false) rfl rfl rfl (s_nil (W.ff rfl (W.seq (W.reg0 rfl fun nx2 _=>?_))))))))
  refine s_mv (v:=.p k v 0) rfl (s_nilP rfl (s_fadP rfl (s_loadP (w:=.p k v 0) rfl hb rfl rfl (s_mv (v:=.p k v 0) rfl (s_peq (a:=.p k v 0) (b:=.p k v 0) (v:=.b false) rfl rfl (by simp [apeq]) (s_nil (W.ff rfl (W.skip ?_))))))))
  exact ⟨.inl rfl,_,rfl,rfl,⟨o,hb,hap,hbig⟩,Fr.refl⟩
theorem c126 {b s:List UInt8} (hs:b.length+s.length≤maxBytes) (hne:s≠[]:=by first | exact List.cons_ne_nil _ _ | simp):PuX prog 126 (Bl b) [.s s] (fun r=>r=.tup [.i .i64 (s.length:Int),.ni]) (Bl (b++s)):=by
 refine PuX.of H.f126 rfl Bl.out fun d st k v hk hB=>?_
 refine W.seq (W.reg0 rfl fun nx _=>s_mv rfl (s_mv rfl (s_nil (W.seq (W.reg0 rfl fun nx2 _=>?_)))))
 refine s_mv (v:=.p k v 0) rfl (s_callX (F:=.tup []) (sec rfl sen) (c145 H b) (Nat.lt_succ_of_lt hk) hB fun st1 hB1 hF1=>s_nil (W.seq (W.reg0 rfl fun nx3 _=>?_)))
 obtain ⟨o,hb,hap,hbig⟩:=hB1
 refine s_mv (v:=.p k v 0) rfl (s_mv (v:=.p k v 0) rfl (s_nilP rfl (s_fadP rfl (s_loadP (w:=.sl o (b.map row8)) rfl hb rfl rfl (s_mv (v:=.s s) rfl (s_one ?_))))))
 refine WOp_appB (st:=⟨nx3,st1.bx,st1.ow⟩) (o:=o) (l:=b) (m:=s) ?_ ?_ hap ?_ hs fun o' ow' h1 h2=>?_
 ·rfl
 ·rfl
 ·exact Nat.le_of_ble_eq_true rfl
 refine s_nilP rfl (s_fadP rfl (s_storeP rfl hb (w:=.sl o' ((b++s).map row8)) rfl rfl rfl (s_nil (W.seq (W.reg0 rfl fun nx4 _=>?_))) (okSt_r (by rw [show (AV.sl o' ((b++s).map row8)).cells=[AV.sl o' ((b++s).map row8)] from rfl,List.any_cons,isF0_ne (by simp [hne])];rfl))))
 refine s_mv (v:=.s s) rfl (s_lenS rfl (s_mv rfl (s_mv rfl (s_nil (W.ret ?_)))))
 refine ⟨.inr rfl,_,rfl,rfl,⟨_,o',lk_here,.inr rfl,h1,hbig⟩,?_⟩
 refine (Fr.own ⟨fun k' q1 q2=>?_,fun k' q1 q2=>?_⟩)
 ·exact hF1.1 k' (Nat.lt_succ_of_lt q1) q2
 ·exact (h2 k' (Nat.lt_trans q2 (by decide))).trans (hF1.2 k' (Nat.lt_succ_of_lt q1) q2)
theorem c105 {b:List UInt8} (hs:b.length≤maxBytes):PuX prog 105 (Bl b) [] (fun r=>r=.s b) fun _ _ _ _=>True:=by
 intro d st k v hk ⟨c0,o,h1,h2,h3,h4⟩
 cases o with
 | ext=>exact h3.elim
 | full=>
  have hb:b=[]:=List.length_eq_zero_iff.1 h3
  subst hb
  refine ⟨.s [],st,⟨1,?_⟩,rfl,trivial,fun _ _ _=>rfl,fun k' _ h8=>rfl⟩
  simp only [acall,H.f105,H.o105,H.s105,bStr,h1]
  exact if_pos ⟨rfl,h4⟩
 | id q w=>
  obtain ⟨h5,h6,h7⟩:=h3
  refine ⟨.s b,{ st with ow:=del st.ow q },⟨1,?_⟩,rfl,trivial,fun _ _ _=>rfl,fun k' _ h8=>?_⟩
  ·simp only [acall,H.f105,H.o105,H.s105,bStr,h1,bytesOf_row8,h5]
   rw [if_pos ⟨trivial,h4,trivial,by simp,h6,h7,hs⟩]
  ·show lk (del st.ow q) k'=_
   rw [lk_del',if_neg (by rintro rfl;exact absurd h8 (Nat.not_lt.2 (Nat.le_trans (by decide) h7)))]
end
end Go.AM

namespace Go.AM
open Go
inductive Val where
 | mk (kind int:Int) (text:List UInt8) (list:List Val) (cut:Bool)
def Val.kind:Val→Int | .mk k _ _ _ _=>k
def Val.int:Val→Int | .mk _ n _ _ _=>n
def Val.text:Val→List UInt8 | .mk _ _ s _ _=>s
def Val.list:Val→List Val | .mk _ _ _ l _=>l
def Val.cut:Val→Bool | .mk _ _ _ _ c=>c
mutual
def Val.row:Val→List AV
 | .mk k n s l c=>[.i .u8 k,.i .i64 n,.s s,.sl .ext (Val.rows l),.b c]
def Val.rows:List Val→List (List AV)
 | []=>[]
 | v::l=>Val.row v::Val.rows l
end
theorem Val.rows_eq :∀l:List Val,Val.rows l=l.map Val.row
 | []=>rfl
 | v::l=>by rw [Val.rows,Val.rows_eq l];rfl
theorem Val.row_eq (v:Val):v.row=[.i .u8 v.kind,.i .i64 v.int,.s v.text,.sl .ext (v.list.map Val.row),.b v.cut]:=by
 cases v with
 | mk k n s l c=>rw [Val.row,Val.rows_eq];rfl
abbrev Val.av (v:Val):AV:=.ag [.i .u8 v.kind,.i .i64 v.int,.s v.text,.sl .ext (List.map Val.row v.list),.b v.cut]
structure Sc where
 left:List UInt8
def Sc.row (x:Sc):List AV:=[.s x.left]
theorem Sc.row_eq (x:Sc):x.row=[.s x.left]:=rfl
end Go.AM

namespace Go.AM
open Go
structure Fld where
 name:List UInt8
 type:Int
def Fld.row (x:Fld):List AV:=[.s x.name,.i .i64 x.type]
theorem Fld.row_eq (x:Fld):x.row=[.s x.name,.i .i64 x.type]:=rfl
def Fld.zero:Fld:=⟨[],0⟩
abbrev Fld.av (x:Fld):AV:=.ag [.s x.name,.i .i64 x.type]
structure Ins where
 op:Int
 a:Int
 b:Int
 c:Int
def Ins.row (x:Ins):List AV:=[.i .u8 x.op,.i .i64 x.a,.i .i64 x.b,.i .i64 x.c]
theorem Ins.row_eq (x:Ins):x.row=[.i .u8 x.op,.i .i64 x.a,.i .i64 x.b,.i .i64 x.c]:=rfl
abbrev Ins.av (x:Ins):AV:=.ag [.i .u8 x.op,.i .i64 x.a,.i .i64 x.b,.i .i64 x.c]
structure Rnn where
 start:Int
 value:Int
def Rnn.row (x:Rnn):List AV:=[.i .i64 x.start,.i .u64 x.value]
theorem Rnn.row_eq (x:Rnn):x.row=[.i .i64 x.start,.i .u64 x.value]:=rfl
abbrev Rnn.av (x:Rnn):AV:=.ag [.i .i64 x.start,.i .u64 x.value]
structure Typ where
 kind:Int
 elem:Int
 len:Int
 fields:List Fld
def Typ.row (x:Typ):List AV:=[.i .u8 x.kind,.i .i64 x.elem,.i .i64 x.len,.sl .ext (List.map Fld.row x.fields)]
theorem Typ.row_eq (x:Typ):x.row=[.i .u8 x.kind,.i .i64 x.elem,.i .i64 x.len,.sl .ext (List.map Fld.row x.fields)]:=rfl
abbrev Typ.av (x:Typ):AV:=.ag [.i .u8 x.kind,.i .i64 x.elem,.i .i64 x.len,.sl .ext (List.map Fld.row x.fields)]
structure Fun where
 name:List UInt8
 params:Int
 result:Int
 slots:List Fld
 code:List Ins
 sizes:List Rnn
 lives:List Rnn
def Fun.row (x:Fun):List AV:=[.s x.name,.i .i64 x.params,.i .i64 x.result,.sl .ext (List.map Fld.row x.slots),.sl .ext (List.map Ins.row x.code),.sl .ext (List.map Rnn.row x.sizes),.sl .ext (List.map Rnn.row x.lives)]
theorem Fun.row_eq (x:Fun):x.row=[.s x.name,.i .i64 x.params,.i .i64 x.result,.sl .ext (List.map Fld.row x.slots),.sl .ext (List.map Ins.row x.code),.sl .ext (List.map Rnn.row x.sizes),.sl .ext (List.map Rnn.row x.lives)]:=rfl
def Fun.zero:Fun:=⟨[],0,0,[],[],[],[]⟩
abbrev Fun.av (x:Fun):AV:=.ag [.s x.name,.i .i64 x.params,.i .i64 x.result,.sl .ext (List.map Fld.row x.slots),.sl .ext (List.map Ins.row x.code),.sl .ext (List.map Rnn.row x.sizes),.sl .ext (List.map Rnn.row x.lives)]
structure Img where
 types:List Typ
 texts:List (List UInt8)
 funcs:List Fun
def Img.row (x:Img):List AV:=[.sl .ext (List.map Typ.row x.types),.sl .ext (List.map rowS x.texts),.sl .ext (List.map Fun.row x.funcs)]
theorem Img.row_eq (x:Img):x.row=[.sl .ext (List.map Typ.row x.types),.sl .ext (List.map rowS x.texts),.sl .ext (List.map Fun.row x.funcs)]:=rfl
abbrev Img.av (x:Img):AV:=.ag [.sl .ext (List.map Typ.row x.types),.sl .ext (List.map rowS x.texts),.sl .ext (List.map Fun.row x.funcs)]
structure Loc where
 slot:Int
 value:Val
def Loc.row (x:Loc):List AV:=[.i .i64 x.slot,.i .u8 x.value.kind,.i .i64 x.value.int,.s x.value.text,.sl .ext (List.map Val.row x.value.list),.b x.value.cut]
theorem Loc.row_eq (x:Loc):x.row=[.i .i64 x.slot,.i .u8 x.value.kind,.i .i64 x.value.int,.s x.value.text,.sl .ext (List.map Val.row x.value.list),.b x.value.cut]:=rfl
abbrev Loc.av (x:Loc):AV:=.ag [.i .i64 x.slot,.i .u8 x.value.kind,.i .i64 x.value.int,.s x.value.text,.sl .ext (List.map Val.row x.value.list),.b x.value.cut]
structure Frm where
 func:Int
 pos:Int
 mode:Int
 locals:List Loc
def Frm.row (x:Frm):List AV:=[.i .i64 x.func,.i .i64 x.pos,.i .u64 x.mode,.sl .ext (List.map Loc.row x.locals)]
theorem Frm.row_eq (x:Frm):x.row=[.i .i64 x.func,.i .i64 x.pos,.i .u64 x.mode,.sl .ext (List.map Loc.row x.locals)]:=rfl
abbrev Frm.av (x:Frm):AV:=.ag [.i .i64 x.func,.i .i64 x.pos,.i .u64 x.mode,.sl .ext (List.map Loc.row x.locals)]
structure Pan where
 tag:Int
 value:Val
 flags:Int
def Pan.row (x:Pan):List AV:=[.i .u64 x.tag,.i .u8 x.value.kind,.i .i64 x.value.int,.s x.value.text,.sl .ext (List.map Val.row x.value.list),.b x.value.cut,.i .u64 x.flags]
theorem Pan.row_eq (x:Pan):x.row=[.i .u64 x.tag,.i .u8 x.value.kind,.i .i64 x.value.int,.s x.value.text,.sl .ext (List.map Val.row x.value.list),.b x.value.cut,.i .u64 x.flags]:=rfl
abbrev Pan.av (x:Pan):AV:=.ag [.i .u64 x.tag,.i .u8 x.value.kind,.i .i64 x.value.int,.s x.value.text,.sl .ext (List.map Val.row x.value.list),.b x.value.cut,.i .u64 x.flags]
structure Dfr where
 frame:Int
 func:Int
 hasArg:Bool
 arg:Val
def Dfr.row (x:Dfr):List AV:=[.i .i64 x.frame,.i .i64 x.func,.b x.hasArg,.i .u8 x.arg.kind,.i .i64 x.arg.int,.s x.arg.text,.sl .ext (List.map Val.row x.arg.list),.b x.arg.cut]
theorem Dfr.row_eq (x:Dfr):x.row=[.i .i64 x.frame,.i .i64 x.func,.b x.hasArg,.i .u8 x.arg.kind,.i .i64 x.arg.int,.s x.arg.text,.sl .ext (List.map Val.row x.arg.list),.b x.arg.cut]:=rfl
abbrev Dfr.av (x:Dfr):AV:=.ag [.i .i64 x.frame,.i .i64 x.func,.b x.hasArg,.i .u8 x.arg.kind,.i .i64 x.arg.int,.s x.arg.text,.sl .ext (List.map Val.row x.arg.list),.b x.arg.cut]
structure Rou where
 status:Int
 key:Int
 frames:List Frm
 defers:List Dfr
 panics:List Pan
def Rou.row (x:Rou):List AV:=[.i .u8 x.status,.i .i64 x.key,.sl .ext (List.map Frm.row x.frames),.sl .ext (List.map Dfr.row x.defers),.sl .ext (List.map Pan.row x.panics)]
theorem Rou.row_eq (x:Rou):x.row=[.i .u8 x.status,.i .i64 x.key,.sl .ext (List.map Frm.row x.frames),.sl .ext (List.map Dfr.row x.defers),.sl .ext (List.map Pan.row x.panics)]:=rfl
abbrev Rou.av (x:Rou):AV:=.ag [.i .u8 x.status,.i .i64 x.key,.sl .ext (List.map Frm.row x.frames),.sl .ext (List.map Dfr.row x.defers),.sl .ext (List.map Pan.row x.panics)]
structure Sta where
 outcome:Int
 failing:Int
 steps:Int
 routines:List Rou
def Sta.row (x:Sta):List AV:=[.i .u8 x.outcome,.i .i64 x.failing,.i .i64 x.steps,.sl .ext (List.map Rou.row x.routines)]
theorem Sta.row_eq (x:Sta):x.row=[.i .u8 x.outcome,.i .i64 x.failing,.i .i64 x.steps,.sl .ext (List.map Rou.row x.routines)]:=rfl
abbrev Sta.av (x:Sta):AV:=.ag [.i .u8 x.outcome,.i .i64 x.failing,.i .i64 x.steps,.sl .ext (List.map Rou.row x.routines)]
structure Qry where
 kind:Int
 g:Int
 k:Int
 key:Int
 name:List UInt8
def Qry.row (x:Qry):List AV:=[.i .u8 x.kind,.i .i64 x.g,.i .i64 x.k,.i .i64 x.key,.s x.name]
theorem Qry.row_eq (x:Qry):x.row=[.i .u8 x.kind,.i .i64 x.g,.i .i64 x.k,.i .i64 x.key,.s x.name]:=rfl
abbrev Qry.av (x:Qry):AV:=.ag [.i .u8 x.kind,.i .i64 x.g,.i .i64 x.k,.i .i64 x.key,.s x.name]
end Go.AM

/- Helpers of the packed texts (pack.py): short operations, short steps. -/
namespace Go.AM
open Go
theorem J {α:Sort _} {a:α}:a=a:=rfl
abbrev oI (d:Nat) (n:Int):AI:=⟨some d,.mv (.c (.i .i64 n)),none⟩
abbrev oU (d:Nat) (n:Int):AI:=⟨some d,.mv (.c (.i .u8 n)),none⟩
abbrev oT (d:Nat) (op:BinOp) (a b:Nat):AI:=⟨some d,.bin op (.t a) (.t b),none⟩
abbrev oV (d:Nat) (op:BinOp) (a:Nat) (n:Int):AI:=⟨some d,.bin op (.t a) (.c (.i .i64 n)),none⟩
abbrev oW (d:Nat) (op:BinOp) (a:Nat) (n:Int):AI:=⟨some d,.bin op (.t a) (.c (.i .u8 n)),none⟩
abbrev oK (d n a:Nat):AI:=⟨some d,.load n true (.t a),none⟩
abbrev oA (d a b:Nat):AI:=⟨some d,.pick (.t a) (.t b) (.c (.b false)),none⟩
abbrev oR (d a b:Nat):AI:=⟨some d,.pick (.t a) (.c (.b true)) (.t b),none⟩
abbrev ts:List Nat→List Opd
 | []=>[]
 | a::r=>.t a::ts r
abbrev oQ (d f:Nat) (l:List Nat):AI:=⟨some d,.call false f (ts l),none⟩
abbrev oX (d n a b:Nat):AI:=⟨some d,.iaL n (.t a) (.t b),none⟩
abbrev oJ (d a:Nat):AI:=⟨some d,.len false (.t a),none⟩
abbrev oH (d a:Nat):AI:=⟨some d,.len true (.t a),none⟩
abbrev oY (d n a:Nat):AI:=⟨some d,.box n (.t a),none⟩
abbrev oZ (d a:Nat):AI:=⟨some d,.un .not (.t a),none⟩
abbrev gT (g:Nat) (a:AI):AI:=⟨a.dst,a.op,some (g,true)⟩
abbrev gF (g:Nat) (a:AI):AI:=⟨a.dst,a.op,some (g,false)⟩
abbrev z8:AV:=.i .u8 0
abbrev z6:AV:=.i .i64 0
abbrev z7:AV:=.i .u64 0
abbrev zs:AV:=.s []
abbrev zl:AV:=.sl .full []
abbrev zb:AV:=.b false
abbrev Rou.cs (V:Rou):List AV:=[.i .u8 V.status,.i .i64 V.key,.sl .ext (List.map Frm.row V.frames),.sl .ext (List.map Dfr.row V.defers),.sl .ext (List.map Pan.row V.panics)]
abbrev Img.cs (V:Img):List AV:=[.sl .ext (List.map Typ.row V.types),.sl .ext (List.map rowS V.texts),.sl .ext (List.map Fun.row V.funcs)]
abbrev Fun.cs (V:Fun):List AV:=[.s V.name,.i .i64 V.params,.i .i64 V.result,.sl .ext (List.map Fld.row V.slots),.sl .ext (List.map Ins.row V.code),.sl .ext (List.map Rnn.row V.sizes),.sl .ext (List.map Rnn.row V.lives)]
abbrev Qry.cs (V:Qry):List AV:=[.i .u8 V.kind,.i .i64 V.g,.i .i64 V.k,.i .i64 V.key,.s V.name]
abbrev Val.cs (V:Val):List AV:=[.i .u8 V.kind,.i .i64 V.int,.s V.text,.sl .ext (List.map Val.row V.list),.b V.cut]
abbrev Frm.cs (V:Frm):List AV:=[.i .i64 V.func,.i .i64 V.pos,.i .u64 V.mode,.sl .ext (List.map Loc.row V.locals)]
abbrev Sta.cs (V:Sta):List AV:=[.i .u8 V.outcome,.i .i64 V.failing,.i .i64 V.steps,.sl .ext (List.map Rou.row V.routines)]
abbrev Pan.cs (V:Pan):List AV:=[.i .u64 V.tag,.i .u8 V.value.kind,.i .i64 V.value.int,.s V.value.text,.sl .ext (List.map Val.row V.value.list),.b V.value.cut,.i .u64 V.flags]
abbrev sR (n:Nat) (r:List AI) (c:AC):AC:=.seq (.reg n r) c
section
variable {prog:Prog} {d id base i:Nat} {σ:Sl} {st:St} {K:Sl→St→Prop} {r:List AI} {o o2 o3 o4:Option Nat} {p p2 p3 p4:AOp} {g g2 g3 g4:Nat}
theorem nT (hg:σ g=.b true) (h:WO prog d id base (i+1) r (upO σ o (.tup [])) st K):WO prog d id base i (⟨o,p,some (g,false)⟩::r) σ st K:=s_gn hg rfl h
theorem nF (hg:σ g=.b false) (h:WO prog d id base (i+1) r (upO σ o (.tup [])) st K):WO prog d id base i (⟨o,p,some (g,true)⟩::r) σ st K:=s_gn hg rfl h
theorem nT2 (hg:σ g=.b true) (hg2:upO σ o (.tup []) g2=.b true) (h:WO prog d id base (i+1+1) r (upO (upO σ o (.tup [])) o2 (.tup [])) st K):WO prog d id base i (⟨o,p,some (g,false)⟩::⟨o2,p2,some (g2,false)⟩::r) σ st K:=nT hg (nT hg2 h)
theorem nF2 (hg:σ g=.b false) (hg2:upO σ o (.tup []) g2=.b false) (h:WO prog d id base (i+1+1) r (upO (upO σ o (.tup [])) o2 (.tup [])) st K):WO prog d id base i (⟨o,p,some (g,true)⟩::⟨o2,p2,some (g2,true)⟩::r) σ st K:=nF hg (nF hg2 h)
theorem nT3 (hg:σ g=.b true) (hg2:upO σ o (.tup []) g2=.b true) (hg3:upO (upO σ o (.tup [])) o2 (.tup []) g3=.b true) (h:WO prog d id base (i+1+1+1) r (upO (upO (upO σ o (.tup [])) o2 (.tup [])) o3 (.tup [])) st K):WO prog d id base i (⟨o,p,some (g,false)⟩::⟨o2,p2,some (g2,false)⟩::⟨o3,p3,some (g3,false)⟩::r) σ st K:=nT hg (nT2 hg2 hg3 h)
theorem nF3 (hg:σ g=.b false) (hg2:upO σ o (.tup []) g2=.b false) (hg3:upO (upO σ o (.tup [])) o2 (.tup []) g3=.b false) (h:WO prog d id base (i+1+1+1) r (upO (upO (upO σ o (.tup [])) o2 (.tup [])) o3 (.tup [])) st K):WO prog d id base i (⟨o,p,some (g,true)⟩::⟨o2,p2,some (g2,true)⟩::⟨o3,p3,some (g3,true)⟩::r) σ st K:=nF hg (nF2 hg2 hg3 h)
theorem nT4 (hg:σ g=.b true) (hg2:upO σ o (.tup []) g2=.b true) (hg3:upO (upO σ o (.tup [])) o2 (.tup []) g3=.b true) (hg4:upO (upO (upO σ o (.tup [])) o2 (.tup [])) o3 (.tup []) g4=.b true) (h:WO prog d id base (i+1+1+1+1) r (upO (upO (upO (upO σ o (.tup [])) o2 (.tup [])) o3 (.tup [])) o4 (.tup [])) st K):WO prog d id base i (⟨o,p,some (g,false)⟩::⟨o2,p2,some (g2,false)⟩::⟨o3,p3,some (g3,false)⟩::⟨o4,p4,some (g4,false)⟩::r) σ st K:=nT hg (nT3 hg2 hg3 hg4 h)
theorem nF4 (hg:σ g=.b false) (hg2:upO σ o (.tup []) g2=.b false) (hg3:upO (upO σ o (.tup [])) o2 (.tup []) g3=.b false) (hg4:upO (upO (upO σ o (.tup [])) o2 (.tup [])) o3 (.tup []) g4=.b false) (h:WO prog d id base (i+1+1+1+1) r (upO (upO (upO (upO σ o (.tup [])) o2 (.tup [])) o3 (.tup [])) o4 (.tup [])) st K):WO prog d id base i (⟨o,p,some (g,true)⟩::⟨o2,p2,some (g2,true)⟩::⟨o3,p3,some (g3,true)⟩::⟨o4,p4,some (g4,true)⟩::r) σ st K:=nF hg (nF3 hg2 hg3 hg4 h)
end
end Go.AM
namespace Go.AM
open Go
/-! what a function returns, by shape -/
section
variable {α β γ:Type}
abbrev H1 (e:α→AV) (s:Nat) (Q:AE→Sl→St→Prop) (K:α→Prop):Prop:=∀⦃σ:Sl⦄ ⦃st:St⦄ ⦃a:α⦄,σ s=e a→K a→Q .ret σ st
abbrev H2 (e:α→AV) (f:β→AV) (s t:Nat) (Q:AE→Sl→St→Prop) (K:α→β→Prop):Prop:=∀⦃σ:Sl⦄ ⦃st:St⦄ ⦃a:α⦄ ⦃b:β⦄,σ s=e a→σ t=f b→K a b→Q .ret σ st
abbrev HL (e:α→List AV) (s:Nat) (Q:AE→Sl→St→Prop) (K:List α→Prop):Prop:=∀⦃σ:Sl⦄ ⦃st:St⦄ ⦃o:Own⦄ ⦃a:List α⦄,σ s=.sl o (List.map e a)→K a→Q .ret σ st
abbrev HM (e:α→List AV) (f:β→AV) (s t:Nat) (Q:AE→Sl→St→Prop) (K:List α→β→Prop):Prop:=∀⦃σ:Sl⦄ ⦃st:St⦄ ⦃o:Own⦄ ⦃a:List α⦄ ⦃b:β⦄,σ s=.sl o (List.map e a)→σ t=f b→K a b→Q .ret σ st
abbrev HF (d:Nat) (st0:St) (e:α→AV) (s:Nat) (Q:AE→Sl→St→Prop) (K:α→Prop):Prop:=∀⦃σ:Sl⦄ ⦃st:St⦄ ⦃a:α⦄,σ s=e a→Fr d (d,0) st0.bx st0.ow st.bx st.ow→K a→Q .ret σ st
abbrev HD (d:Nat) (st0:St) (kp:Key) (vp:Nat) (B:γ→BC) (e:α→AV) (s:Nat) (Q:AE→Sl→St→Prop) (K:α→γ→Prop):Prop:=∀⦃σ:Sl⦄ ⦃st:St⦄ ⦃a:α⦄ ⦃b:γ⦄,σ s=e a→B b st.bx st.ow kp vp→Fr d kp st0.bx st0.ow st.bx st.ow→K a b→Q .ret σ st
variable {prog:Prog} {f:Nat} {F:AF} {args:List AV} {s t:Nat}
abbrev Q1 (F:AF) (R:AV→Prop):AE→Sl→St→Prop:=endW 0 F.res fun r _=>∃v,r.strip=some v∧R v
theorem h1 {e:α→AV} {K:α→Prop} (hr:F.res=[.tmp s]) (he :∀a,(e a).strip=some (e a)):H1 e s (Q1 F fun v=>∃a,K a∧v=e a) K:=by
 intro σ st a h k
 exact ⟨e a,by simp only [hr,ares,ares1,h],_,he a,a,k,rfl⟩
theorem h2 {e:α→AV} {g:β→AV} {K:α→β→Prop} (hr:F.res=[.tmp s,.tmp t]) (he :∀a b,(AV.tup [e a,g b]).strip=some (AV.tup [e a,g b])):H2 e g s t (Q1 F fun v=>∃a b,K a b∧v=.tup [e a,g b]) K:=by
 intro σ st a b h h' k
 exact ⟨.tup [e a,g b],by simp only [hr,ares,aresL,ares1,h,h',Option.map_some],_,he a b,a,b,k,rfl⟩
theorem hL {e:α→List AV} {K:List α→Prop} (hr:F.res=[.tmp s]):HL e s (Q1 F fun v=>∃a,K a∧v=.sl .ext (List.map e a)) K:=by
 intro σ st o a h k
 exact ⟨.sl o (List.map e a),by simp only [hr,ares,ares1,h],_,rfl,a,k,rfl⟩
theorem hM {e:α→List AV} {g:β→AV} {K:List α→β→Prop} (hr:F.res=[.tmp s,.tmp t]) (he :∀o a b,(AV.tup [.sl o (List.map e a),g b]).strip=some (AV.tup [.sl .ext (List.map e a),g b])):HM e g s t (Q1 F fun v=>∃a b,K a b∧v=.tup [.sl .ext (List.map e a),g b]) K:=by
 intro σ st o a b h h' k
 exact ⟨.tup [.sl o (List.map e a),g b],by simp only [hr,ares,aresL,ares1,h,h',Option.map_some],_,he o a b,a,b,k,rfl⟩
theorem P1 {e:α→AV} {K:α→Prop} (hf:prog.fn f=some F) (hn:Nat.ble args.length F.nt=true) (w:W prog 0 F.body (sl0 args) st0 (Q1 F fun v=>∃a,K a∧v=e a)) :∃a,K a∧Pus prog f args (e a):=by
 obtain ⟨v,hv,a,hk,rfl⟩:=Pus.of hf hn w
 exact ⟨a,hk,hv⟩
theorem P2 {e:α→β→AV} {K:α→β→Prop} (hf:prog.fn f=some F) (hn:Nat.ble args.length F.nt=true) (w:W prog 0 F.body (sl0 args) st0 (Q1 F fun v=>∃a b,K a b∧v=e a b)) :∃a b,K a b∧Pus prog f args (e a b):=by
 obtain ⟨v,hv,a,b,hk,rfl⟩:=Pus.of hf hn w
 exact ⟨a,b,hk,hv⟩
theorem PF {e:α→AV} {K:α→Prop} (hf:prog.fn f=some F) (hn:Nat.ble args.length F.nt=true) (hr:F.res=[.tmp s]) (w :∀(d:Nat) (st:St) (Q:AE→Sl→St→Prop),HF d st e s Q K→W prog d F.body (sl0 args) st Q):PuN prog f args fun r=>∃a,r=e a∧K a:=
 PuN.of hf hn fun d st=>w d st _ (by
  intro σ st' a h hf hk
  exact ⟨.inr rfl,e a,by simp only [hr,ares,ares1,h],⟨a,rfl,hk⟩,hf⟩)
theorem PD {B0:BC} {B:γ→BC} {e:α→AV} {K:α→γ→Prop} (hf:prog.fn f=some F) (hn:Nat.ble (args.length+1) F.nt=true) (hr:F.res=[.tmp s]) (ho :∀b,Out (B b)) (w :∀(d:Nat) (st:St) (kp:Key) (vp:Nat),kp.1<d→B0 st.bx st.ow kp vp→∀(Q:AE→Sl→St→Prop),HD d st kp vp B e s Q K→W prog d F.body (sl0 (.p kp vp 0::args)) st Q):PuXK prog f B0 args (fun r b=>∃a,r=e a∧K a b) B:=
 PuXK.of hf hn ho fun d st kp vp hkp hB=>w d st kp vp hkp hB _ (by
  intro σ st' a b h hb hf hk
  exact ⟨.inr rfl,e a,b,by simp only [hr,ares,ares1,h],⟨a,rfl,hk⟩,hb,hf⟩)
end
end Go.AM
namespace Go.AM
open Go
/-! steps whose guards and bits are known -/
def sk1 (a:AI) (σ:Sl):Option AV:=
 match a.guard with
 | some (g,w)=>match σ g with | .b b=>(match w,b with | true,false=>some (.tup []) | false,true=>some (.tup []) | _,_=>none) | .tup []=>some (.tup []) | _=>none
 | none=>match a.op with
  | .pick c x y=>match c.ev σ with | .b t=>(match (bif t then x else y).ev σ with | .b z=>some (.b z) | _=>none) | _=>none
  | .mv x=>match x.ev σ with | .b z=>some (.b z) | _=>none
  | _=>none
def skp:Nat→List AI→Sl→Nat→Option (List AI × Sl × Nat)
 | 0,ops,σ,i=>some (ops,σ,i)
 | n+1,a::r,σ,i=>match sk1 a σ with | some v=>skp n r (upO σ a.dst v) (i+1) | none=>none
 | _+1,[],_,_=>none
section
variable {prog:Prog} {d id base i:Nat} {σ:Sl} {st:St} {K:Sl→St→Prop}
theorem sk1_ok {a:AI} {r:List AI} {v:AV} (hs:sk1 a σ=some v) (h:WO prog d id base (i+1) r (upO σ a.dst v) st K):WO prog d id base i (a::r) σ st K:=by
 obtain ⟨t,op,g⟩:=a
 cases g with
 | some gw=>
  obtain ⟨g,w⟩:=gw
  simp only [sk1] at hs
  split at hs
  ·rename_i b hg
   cases w<;>cases b<;>first | (cases hs;done) | (injection hs with hs;subst hs;exact s_gn hg rfl h)
  ·rename_i hg
   injection hs with hs
   subst hs
   exact s_gt hg h
  ·cases hs
 | none=>
  simp only [sk1] at hs
  split at hs
  ·rename_i c x y
   split at hs
   ·rename_i b hc
    split at hs
    ·rename_i z hz
     injection hs with hs
     subst hs
     cases b with
     | true=>exact s_pickT hc hz h
     | false=>exact s_pickF hc hz h
    ·cases hs
   ·cases hs
  ·rename_i x
   split at hs
   ·rename_i z hz
    injection hs with hs
    subst hs
    exact s_mv hz h
   ·cases hs
  ·cases hs
theorem skp_ok :∀(n:Nat) {ops ops':List AI} {σ σ':Sl} {i i':Nat},skp n ops σ i=some (ops',σ',i')→WO prog d id base i' ops' σ' st K→WO prog d id base i ops σ st K
 | 0,_,_,_,_,_,_,hs,h=>by
  injection hs with hs
  injection hs with h1 hs
  injection hs with h2 h3
  subst h1 h2 h3
  exact h
 | n+1,[],_,_,_,_,_,hs,_=>by cases hs
 | n+1,a::r,_,σ,_,_,_,hs,h=>by
  simp only [skp] at hs
  split at hs
  ·rename_i v hv
   exact sk1_ok hv (skp_ok n hs h)
  ·cases hs
theorem z_ (n:Nat) {ops ops':List AI} {σ':Sl} {i':Nat} (hs:skp n ops σ i=some (ops',σ',i')) (h:WO prog d id base i' ops' σ' st K):WO prog d id base i ops σ st K:=skp_ok n hs h
theorem er_ {Q:AE→Sl→St→Prop} (h:Q .ret σ st):WO prog d id base i [] σ st fun σ st=>W prog d .ret σ st Q:=s_nil (W.ret h)
variable {x y z u:Opd} {v v2 v3 v4 w w2 w3 w4:AV}
theorem sc1 (h:x.ev σ=v) (s:v.strip=some w):AV.strips (evs σ [x])=some [w]:=sc h s sn
theorem sc2 (h:x.ev σ=v) (h2:y.ev σ=v2) (s:(AV.strips [v,v2])=some [w,w2]):AV.strips (evs σ [x,y])=some [w,w2]:=by
 rw [← s];simp only [evs,h,h2]
theorem sc3 (h:x.ev σ=v) (h2:y.ev σ=v2) (h3:z.ev σ=v3) (s:(AV.strips [v,v2,v3])=some [w,w2,w3]):AV.strips (evs σ [x,y,z])=some [w,w2,w3]:=by
 rw [← s];simp only [evs,h,h2,h3]
theorem sc4 (h:x.ev σ=v) (h2:y.ev σ=v2) (h3:z.ev σ=v3) (h4:u.ev σ=v4) (s:(AV.strips [v,v2,v3,v4])=some [w,w2,w3,w4]):AV.strips (evs σ [x,y,z,u])=some [w,w2,w3,w4]:=by
 rw [← s];simp only [evs,h,h2,h3,h4]
theorem x2 {α β:Type} {p:α→β→Prop} {c:Prop} (h :∃a b,p a b) (k :∀a b,p a b→c):c:=h.elim fun a h=>h.elim fun b h=>k a b h
theorem x1 {α:Type} {p:α→Prop} {c:Prop} (h :∃a,p a) (k :∀a,p a→c):c:=h.elim k
end
end Go.AM

namespace Go.AM
open Go Go.RowKit
def HasC (T:TTab):Nat→TypeId→List AV→Prop
 | 0,_,_=>False
 | f+1,t,vsA=>match T t with
  | some i=>match i.kind with
   | .int k=>∃n,vsA=[.i k n]∧k.min≤n∧n≤k.max
   | .bool=>∃b,vsA=[.b b]
   | .str=>∃s,vsA=[.s s]∧s.length≤maxLen
   | .sl e=>∃rows,vsA=[.sl .ext rows]∧rows.length≤maxLen∧(∀r∈rows,HasC T f e r)∧∀j,T e=some j→∀r∈rows,r.length=j.size
   | .st fs=>∀x∈fs,∃j,T x.1=some j∧HasC T f x.1 ((vsA.drop x.2).take j.size)
   | _=>False
  | none=>False
def contig (T:TTab):Nat→List (Nat × Nat)→Option Nat
 | off,[]=>some off
 | off,(t,o)::r=>match T t with
  | some i=>if o=off then contig T (off+i.size) r else none
  | none=>none
def okTy (T:TTab) (L:List Nat) (t:Nat):Bool:=
 match T t with
 | some i=>match i.kind with
  | .int _ | .bool | .str=>i.size==1
  | .sl e=>L.contains e&&(match T e with | some j=>decide (0<j.size) | none=>false)
  | .st fs=>(fs.all fun x=>L.contains x.1)&&contig T 0 fs==some i.size
  | _=>false
 | none=>false
def H0 (w:World):Hp:=fun g o=>match w.cell? ⟨g,o,none⟩ with | some v=>if v.oneCell' then some v else none | none=>none
theorem H0_some {w:World} {g o:Nat} {v:Value} (h:w.cell? ⟨g,o,none⟩=some v) (h1:v.oneCell'=true):H0 w g o=some v:=by
 simp only [H0,h,h1,if_true]
theorem H0_inv {w:World} {g o:Nat} {v:Value} (h:H0 w g o=some v):w.cell? ⟨g,o,none⟩=some v∧v.oneCell'=true:=by
 unfold H0 at h
 split at h
 ·rename_i v' hv
  split at h
  ·rename_i h1;cases h;exact ⟨hv,h1⟩
  ·cases h
 ·cases h
def Good (w:World) (vsA:List AV) (cs:List Value):Prop:=vsA.length=cs.length∧∀(j:Nat) a u,vsA[j]?=some a→cs[j]?=some u→Fz (H0 w) a u∧a.one=true
theorem Good.one {w:World} {a:AV} {u:Value} (h:Fz (H0 w) a u) (h1:a.one=true):Good w [a] [u]:=by
 refine ⟨rfl,fun j x y hx hy=>?_⟩
 cases j with
 | zero=>simp at hx hy;subst hx;subst hy;exact ⟨h,h1⟩
 | succ j=>simp at hx
theorem Good.append {w:World} {vsA bs:List AV} {cs ds:List Value} (h:Good w vsA cs) (k:Good w bs ds):Good w (vsA++bs) (cs++ds):=by
 refine ⟨by simp [h.1,k.1],fun j x y hx hy=>?_⟩
 rcases Nat.lt_or_ge j vsA.length with hj | hj
 ·rw [List.getElem?_append_left hj] at hx
  rw [List.getElem?_append_left (by rw [← h.1];exact hj)] at hy
  exact h.2 j x y hx hy
 ·rw [List.getElem?_append_right hj] at hx
  rw [List.getElem?_append_right (by rw [← h.1];exact hj),← h.1] at hy
  exact k.2 _ x y hx hy
section
variable {H:Type} {enc:TypeId × Value→H} {P:Program} {T:TTab} {w:World} {base:Nat} {spare:Nat→Bool} {held:Bool} {L:List Nat}
theorem cellsOf_T (hT:TTok P T) {t:Nat} {i:TI} (h:T t=some i):P.cellsOf t=i.size:=by
 obtain ⟨ti,z,h1,h2,_⟩:=(hT t i h).info
 simp [Program.cellsOf,h1,h2]
theorem fields_good (hT:TTok P T) {f:Nat} {cs:List Value}
  (ih :∀t,L.contains t=true→∀cs x,DataW.trod enc P w base spare held f t cs=some x→∃vsA,Good w vsA cs∧HasC T f t vsA) :
  ∀(fs:List (Nat × Nat)) (fields:List Field) (off tot:Nat) xs,fields.map (fun g=>(g.type,g.offset))=fs→contig T off fs=some tot→tot=cs.length→(fs.all fun x=>L.contains x.1)=true→
   fields.mapM (fun g=>DataW.trod enc P w base spare held f g.type ((cs.drop g.offset).take (P.cellsOf g.type)))=some xs→
   off≤tot∧∃vsA,Good w vsA (cs.drop off)∧∀x∈fs,off≤x.2∧∃j,T x.1=some j∧HasC T f x.1 ((vsA.drop (x.2-off)).take j.size)
 | [],fields,off,tot,xs,hf,hc,ht,_,_=>by
  cases hc
  refine ⟨Nat.le_refl _,[],⟨by simp [ht],by simp⟩,by simp⟩
 | (t,o)::fs,[],off,tot,xs,hf,hc,ht,_,_=>by cases hf
 | (t,o)::fs,g::fields,off,tot,xs,hf,hc,ht,hL,hm=>by
  simp only [List.map_cons,List.cons.injEq,Prod.mk.injEq] at hf
  obtain ⟨⟨rfl,rfl⟩,hf⟩:=hf
  unfold contig at hc
  split at hc
  case h_2=>cases hc
  rename_i i hi
  split at hc
  case isFalse=>cases hc
  rename_i ho
  simp only [List.all_cons,Bool.and_eq_true] at hL
  rw [List.mapM_cons] at hm
  simp only [Option.bind_eq_bind,Option.bind_eq_some_iff,Option.pure_def,Option.some.injEq] at hm
  obtain ⟨x,h1,ys,h2,_⟩:=hm
  obtain ⟨hle,bs,hb1,hb2⟩:=fields_good hT ih fs fields _ tot ys hf hc ht hL.2 h2
  rw [cellsOf_T hT hi] at h1
  obtain ⟨vsA,ha1,ha2⟩:=ih _ hL.1 _ _ h1
  have hsz:vsA.length=i.size:=by rw [ha1.1];simp;omega
  refine ⟨by omega,vsA++bs,?_,?_⟩
  ·have:=ha1.append hb1
   rw [ho] at this
   have e:(cs.drop off).take i.size++cs.drop (off+i.size)=cs.drop off:=by
    rw [← List.drop_drop,List.take_append_drop]
   rwa [e] at this
  ·intro y hy
   rcases List.mem_cons.1 hy with rfl | hy
   ·refine ⟨by simp [ho],i,hi,?_⟩
    simp only [ho,Nat.sub_self,List.drop_zero]
    rw [← hsz,List.take_left]
    exact ha2
   ·obtain ⟨h3,j,h4,h5⟩:=hb2 y hy
    refine ⟨by omega,j,h4,?_⟩
    have e:y.2-off=vsA.length+(y.2-(off+i.size)):=by omega
    rw [e,← List.drop_drop,List.drop_left]
    exact h5
theorem cells_get {a:Addr} {n:Nat} {cs:List Value} (h:w.cells? base a n=some cs):cs.length=n∧∀(i:Nat),i<n→w.cell? (a.add i)=cs[i]?:=by
 unfold World.cells? at h
 split at h
 case isFalse=>cases h
 have hl:=mapM_some_length h
 simp at hl
 refine ⟨hl,fun i hi=>?_⟩
 exact mapM_some_get h i i (by simp [hi])
theorem lit_wf {k:IntKind} {n:Int} (h:(Lit.int k n).wf=true):k.min≤n∧n≤k.max:=by
 simp only [Lit.wf,Bool.and_eq_true,decide_eq_true_eq] at h
 exact h
theorem inv_int {f t:Nat} {cs:List Value} {x:DataW H × List MemPlace} {k:IntKind} (hk:P.underlying t=some (.int k)) (h:DataW.trod enc P w base spare held (f+1) t cs=some x) :∃n,cs=[.int k n]∧k.min≤n∧n≤k.max:=by
 unfold DataW.trod at h
 rw [hk] at h
 split at h
 all_goals rename_i heq
 all_goals first | (injection heq with heq;cases heq;done) | skip
 ·injection heq with heq
  injection heq with heq
  subst heq
  split at h
  ·rename_i hc
   obtain ⟨rfl,hw⟩:=hc
   exact ⟨_,rfl,lit_wf hw⟩
  ·cases h
 ·cases h
theorem inv_bool {f t:Nat} {cs:List Value} {x:DataW H × List MemPlace} (hk:P.underlying t=some .bool) (h:DataW.trod enc P w base spare held (f+1) t cs=some x) :∃b,cs=[.bool b]:=by
 unfold DataW.trod at h
 rw [hk] at h
 split at h
 all_goals rename_i heq
 all_goals first | (injection heq with heq;cases heq;done) | skip
 ·exact ⟨_,rfl⟩
 ·cases h
theorem inv_str {f t:Nat} {cs:List Value} {x:DataW H × List MemPlace} (hk:P.underlying t=some .string) (h:DataW.trod enc P w base spare held (f+1) t cs=some x) :∃s,cs=[.string s]∧s.size≤maxLen:=by
 unfold DataW.trod at h
 rw [hk] at h
 split at h
 all_goals rename_i heq
 all_goals first | (injection heq with heq;cases heq;done) | skip
 ·split at h
  ·exact ⟨_,rfl,by assumption⟩
  ·cases h
 ·cases h
theorem inv_sl {f t e:Nat} {cs:List Value} {x:DataW H × List MemPlace} (hk:P.underlying t=some (.slice e)) (h:DataW.trod enc P w base spare held (f+1) t cs=some x):cs=[.slice none 0 0]∨
  ∃a len cap,cs=[.slice (some a) len cap]∧len≤cap∧cap≤maxLen∧∀i,i<len→∃cs' y,w.cells? base (a.add (i*P.cellsOf e)) (P.cellsOf e)=some cs'∧DataW.trod enc P w base spare held f e cs'=some y:=by
 unfold DataW.trod at h
 rw [hk] at h
 split at h
 all_goals rename_i heq
 all_goals first | (injection heq with heq;cases heq;done) | skip
 ·exact .inl rfl
 ·injection heq with heq
  injection heq with heq
  subst heq
  refine .inr ⟨_,_,_,rfl,?_⟩
  simp only at h
  split at h
  case isFalse=>cases h
  rename_i hc
  refine ⟨hc.2.1,hc.2.2,fun i hi=>?_⟩
  rw [Option.bind_eq_some_iff] at h
  obtain ⟨elems,h1,_⟩:=h
  have hl:=mapM_some_length h1
  simp at hl
  have:=mapM_some_get h1 i i (by simp [hi])
  rw [List.getElem?_eq_getElem (by omega),Option.bind_eq_some_iff] at this
  obtain ⟨cs',h2,h3⟩:=this
  exact ⟨cs',_,h2,h3⟩
 ·cases h
theorem inv_st {f t:Nat} {fs:Array Field} {cs:List Value} {x:DataW H × List MemPlace} (hk:P.underlying t=some (.struct fs)) (h:DataW.trod enc P w base spare held (f+1) t cs=some x):cs.length=P.cellsOf t∧∃xs,fs.toList.mapM (fun g=>DataW.trod enc P w base spare held f g.type ((cs.drop g.offset).take (P.cellsOf g.type)))=some xs:=by
 unfold DataW.trod at h
 rw [hk] at h
 split at h
 all_goals rename_i heq
 all_goals first | (injection heq with heq;cases heq;done) | skip
 ·injection heq with heq
  injection heq with heq
  subst heq
  split at h
  case isFalse=>cases h
  rename_i hc
  rw [Option.map_eq_some_iff] at h
  obtain ⟨xs,h1,_⟩:=h
  exact ⟨hc,xs,h1⟩
 ·simp_all
theorem add_one {a:Addr} {n:Nat} (h:(w.cell? (a.add n)).isSome=true):a.add n=⟨a.block,a.off+n,none⟩:=by
 unfold Addr.add at h ⊢
 split
 ·rename_i hn
  rw [if_pos hn] at h
  subst hn
  cases ha:a.spot with
  | none=>cases a;cases ha;rfl
  | some x=>
   simp only [World.cell?] at h
   split at h
   ·simp [ha] at h
   ·cases h
 ·rfl
theorem read_sl (hT:TTok P T) {f e:Nat} {j:TI} (hj:T e=some j) (hj0:0<j.size) (ih :∀cs x,DataW.trod enc P w base spare held f e cs=some x→∃vsA,Good w vsA cs∧HasC T f e vsA) {a:Addr} {len cap:Nat} (h1:len≤cap)
  (h :∀i,i<len→∃cs' y,w.cells? base (a.add (i*P.cellsOf e)) (P.cellsOf e)=some cs'∧DataW.trod enc P w base spare held f e cs'=some y) :∃rows,Fz (H0 w) (.sl .ext rows) (.slice (some a) len cap)∧rows.length=len∧(∀r∈rows,HasC T f e r)∧∀r∈rows,r.length=j.size:=by
 rw [cellsOf_T hT hj] at h
 have hr :∀i,∃vsA,i<len→∃cs',w.cells? base (a.add (i*j.size)) j.size=some cs'∧Good w vsA cs'∧HasC T f e vsA:=by
  intro i
  by_cases hi:i<len
  ·obtain ⟨cs',y,h2,h3⟩:=h i hi
   obtain ⟨vsA,h4,h5⟩:=ih cs' y h3
   exact ⟨vsA,fun _=>⟨cs',h2,h4,h5⟩⟩
  ·exact ⟨[],fun h=>absurd h hi⟩
 obtain ⟨g,hg⟩:=Classical.axiomOfChoice hr
 have hrows :∀(i:Nat) row,((List.range len).map g)[i]?=some row→i<len∧row=g i:=by
  intro i row hi
  rw [List.getElem?_map] at hi
  by_cases hl:i<len
  ·rw [List.getElem?_range hl] at hi
   simp at hi
   exact ⟨hl,hi.symm⟩
  ·rw [List.getElem?_eq_none (by simp;omega)] at hi
   cases hi
 have addr :∀i o,i<len→o<j.size→∃v,w.cell? ⟨a.block,a.off+i*j.size+o,none⟩=some v∧∀x,(g i)[o]?=some x→Fz (H0 w) x v∧x.one=true:=by
  intro i o hi ho
  obtain ⟨cs',h2,h3,h4⟩:=hg i hi
  obtain ⟨h5,h6⟩:=cells_get h2
  have h7:=h6 o ho
  have h8:cs'[o]?=some cs'[o]:=List.getElem?_eq_getElem (by omega)
  have hx:=h6 0 (by omega)
  rw [List.getElem?_eq_getElem (show 0<cs'.length by omega)] at hx
  have e0:(a.add (i*j.size)).add 0=a.add (i*j.size):=rfl
  rw [e0] at hx
  have e1:=add_one (w:=w) (a:=a) (n:=i*j.size) (by rw [hx];rfl)
  rw [e1] at h7
  rw [h8] at h7
  have e2:=add_one (w:=w) (a:=⟨a.block,a.off+i*j.size,none⟩) (n:=o) (by rw [h7];rfl)
  rw [e2] at h7
  exact ⟨_,h7,fun x hx=>h3.2 o x _ hx h8⟩
 refine ⟨(List.range len).map g,?_,by simp,?_,?_⟩
 ·have key:=Fz.sl (H:=H0 w) ((List.range len).map g) (some a) cap j.size a.block a.off (fun i o=>(w.cell? ⟨a.block,a.off+i*j.size+o,none⟩).getD undef) ?_ (by simpa using h1) ?_ ?_ ?_
  ·simpa using key
  ·intro hne
   have hl:0<len:=by
    rcases Nat.eq_zero_or_pos len with h | h
    ·subst h;exact absurd rfl hne
    ·exact h
   obtain ⟨cs',h2,h3,h4⟩:=hg 0 hl
   obtain ⟨h5,h6⟩:=cells_get h2
   have hx:=h6 0 (by omega)
   rw [List.getElem?_eq_getElem (show 0<cs'.length by omega)] at hx
   have e0:(a.add (0*j.size)).add 0=a.add (0*j.size):=rfl
   rw [e0,Nat.zero_mul] at hx
   have e1:=add_one (w:=w) (a:=a) (n:=0) (by rw [hx];rfl)
   have e2:a.add 0=a:=rfl
   rw [e2] at e1
   rw [e1]
  ·intro i row hi
   obtain ⟨hl,rfl⟩:=hrows i row hi
   obtain ⟨cs',h2,h3,h4⟩:=hg i hl
   rw [h3.1,(cells_get h2).1]
  ·intro i row o x hi hx
   obtain ⟨hl,rfl⟩:=hrows i row hi
   obtain ⟨cs',h2,h3,h4⟩:=hg i hl
   have ho:o<j.size:=by
    have:=(List.getElem?_eq_some_iff.1 hx).1
    rw [h3.1,(cells_get h2).1] at this
    exact this
   obtain ⟨v,h5,h6⟩:=addr i o hl ho
   rw [h5]
   exact H0_some h5 (R.one (G:=⟨H0 w,fun _ _=>none,fun _ _=>none,fun _=>none,fun _=>none⟩) (.fz _ _ (h6 x hx).1) (h6 x hx).2)
  ·intro i row o x hi hx
   obtain ⟨hl,rfl⟩:=hrows i row hi
   obtain ⟨cs',h2,h3,h4⟩:=hg i hl
   have ho:o<j.size:=by
    have:=(List.getElem?_eq_some_iff.1 hx).1
    rw [h3.1,(cells_get h2).1] at this
    exact this
   obtain ⟨v,h5,h6⟩:=addr i o hl ho
   simp only [h5,Option.getD_some]
   exact (h6 x hx).1
 ·intro r hr
  obtain ⟨i,hi,rfl⟩:=List.mem_map.1 hr
  obtain ⟨cs',h2,h3,h4⟩:=hg i (by simpa using hi)
  exact h4
 ·intro r hr
  obtain ⟨i,hi,rfl⟩:=List.mem_map.1 hr
  obtain ⟨cs',h2,h3,h4⟩:=hg i (by simpa using hi)
  rw [h3.1,(cells_get h2).1]
theorem read_good (hT:TTok P T) (hL :∀t,L.contains t=true→okTy T L t=true) :∀(f t:Nat),L.contains t=true→∀cs x,DataW.trod enc P w base spare held f t cs=some x→∃vsA,Good w vsA cs∧HasC T f t vsA
 | 0,t,_,cs,x,h=>by cases h
 | f+1,t,ht,cs,x,h=>by
  have hok:=hL t ht
  unfold okTy at hok
  split at hok
  case h_2=>cases hok
  rename_i i hi
  have hk:=(hT t i hi).kind
  have ih:=read_good hT hL f
  have fin :∀{vsA},Good w vsA cs→(match i.kind with
   | .int k=>∃n,vsA=[.i k n]∧k.min≤n∧n≤k.max
   | .bool=>∃b,vsA=[.b b]
   | .str=>∃s,vsA=[.s s]∧s.length≤maxLen
   | .sl e=>∃rows,vsA=[.sl .ext rows]∧rows.length≤maxLen∧(∀r∈rows,HasC T f e r)∧∀j,T e=some j→∀r∈rows,r.length=j.size
   | .st fs=>∀x∈fs,∃j,T x.1=some j∧HasC T f x.1 ((vsA.drop x.2).take j.size)
   | _=>False)→∃vsA,Good w vsA cs∧HasC T (f+1) t vsA:=by
   intro vsA h1 h2
   refine ⟨vsA,h1,?_⟩
   unfold HasC
   rw [hi]
   exact h2
  revert hk hok fin
  generalize hkk:i.kind=kk
  cases kk with
  | int k=>
   intro hok hk fin
   obtain ⟨n,rfl,hn⟩:=inv_int hk h
   exact fin (.one (.i k n) rfl) ⟨n,rfl,hn⟩
  | bool=>
   intro hok hk fin
   obtain ⟨b,rfl⟩:=inv_bool hk h
   exact fin (.one (.b b) rfl) ⟨b,rfl⟩
  | str=>
   intro hok hk fin
   obtain ⟨s,rfl,hs⟩:=inv_str hk h
   refine fin (.one (a:=.s s.data.toList) ?_ rfl) ⟨_,rfl,by simpa using hs⟩
   have e:s=⟨s.data.toList.toArray⟩:=by simp
   have:=Fz.s (H:=H0 w) s.data.toList
   rwa [← e] at this
  | sl e=>
   intro hok hk fin
   simp only [Bool.and_eq_true] at hok
   obtain ⟨hLe,hj⟩:=hok
   split at hj
   case h_2=>cases hj
   rename_i j hj'
   rcases inv_sl hk h with rfl | ⟨a,len,cap,rfl,h1,h2,h3⟩
   ·refine fin (.one (a:=.sl .ext []) ?_ rfl) ⟨[],rfl,by simp,by simp,by simp⟩
    exact Fz.sl [] none 0 0 0 0 (fun _ _=>undef) (by simp) (by simp) (by simp) (by simp) (by simp)
   ·obtain ⟨rows,h4,h5,h6,h7⟩:=read_sl hT hj' (of_decide_eq_true hj) (ih e hLe) h1 h3
    exact fin (.one h4 rfl) ⟨rows,rfl,by omega,h6,fun j' hj2=>by rw [hj'] at hj2;cases hj2;exact h7⟩
  | arr n e=>intro hok;cases hok
  | st fs=>
   intro hok hk fin
   simp only [Bool.and_eq_true] at hok
   obtain ⟨fields,h1,h2,_⟩:=hk
   obtain ⟨h3,xs,h4⟩:=inv_st h1 h
   rw [cellsOf_T hT hi] at h3
   have hc:contig T 0 fs=some i.size:=by simpa using hok.2
   obtain ⟨_,vsA,h5,h6⟩:=fields_good hT ih fs fields.toList 0 i.size xs h2 hc h3.symm hok.1 h4
   rw [List.drop_zero] at h5
   refine fin h5 fun x hx=>?_
   obtain ⟨_,j,h7,h8⟩:=h6 x hx
   exact ⟨j,h7,by simpa using h8⟩
  | other=>intro hok;cases hok
  | ptr e=>intro hok;cases hok
  | uptr=>intro hok;cases hok
  | mp=>intro hok;cases hok
end
end Go.AM

namespace Go.AM
open Go Go.RowKit Go.ChangeShapes Go.WideShapes
def ArgOk (T:TTab) (t:TypeId) (a:AV):Prop:=
 match T t with
 | some i=>match i.kind with
  | .st _=>∃f vsA,a=.ag vsA∧vsA.length=i.size∧HasC T f t vsA
  | _=>∃f,HasC T f t [a]
 | none=>False
def ArgsOk (T:TTab):List TypeId→List AV→Prop
 | [],[]=>True
 | t::ts,a::vsA=>ArgOk T t a∧ArgsOk T ts vsA
 | _,_=>False
section
variable {H:Type} {enc:TypeId × Value→H} {P:Program} {X:Cx} {W:World} {L:List Nat}
def G0 (X:Cx) (W:World):Gh:=⟨H0 W,fun _ _=>none,fun _ _=>none,X.fm,fun _=>none⟩
theorem G0_rel:Rel (G0 X W) W st0 W where
 bel:=.refl _ _
 ext:=fun g o v h=>H0_inv h
 bx:=by intro k ver cs g h;cases h
 inj:=by intro k k' ver ver' cs cs' g h;cases h
 ow:=by intro k ver n h;cases h
 owinj:=by intro k k' ver ver' n n' g cap size cap' size' h;cases h
 fresh:=fun k ver _=>⟨rfl,rfl⟩
 bxT:=by intro k ver cs g hb h;cases h
 owT:=by intro k ver n hb h;cases h
 mp:=by intro b l h;cases h
theorem arg_read (hT:TTok P X.T) (hL :∀t,L.contains t=true→okTy X.T L t=true) {t:TypeId} (ht:L.contains t=true) {v:Value} {d:DataW H} {ps:List MemPlace} {b:Nat} {r:Reach} {held:Bool} {sp:Nat→Bool}
  (hval:Value.okWide P W r b t v) (hd:DataW.Trod enc P W 0 sp held t v d ps) :∃a,R (G0 X W) a v∧ArgOk X.T t a:=by
 obtain ⟨f,hf⟩:=hd
 obtain ⟨vsA,h1,h2⟩:=read_good hT hL f t ht _ _ hf
 have hok:=hL t ht
 unfold okTy at hok
 split at hok
 case h_2=>cases hok
 rename_i i hi
 have hk:=(hT t i hi).kind
 have plain:(∀us,v≠.agg us)→(∀fs,i.kind≠.st fs)→vsA.length=1→∃a,R (G0 X W) a v∧ArgOk X.T t a:=by
  intro hv hst hlen
  have hc:v.cells.toList=[v]:=by
   cases v with
   | agg us=>exact absurd rfl (hv us)
   | _=>rfl
  match vsA,hlen with
  | [a],_=>
   rw [hc] at h1
   refine ⟨a,.fz _ _ (h1.2 0 a v rfl rfl).1,?_⟩
   unfold ArgOk
   rw [hi]
   have key :∀kk:TK,(∀fs,kk≠.st fs)→(match kk with | .st _=>∃f vsA,a=.ag vsA∧vsA.length=i.size∧HasC X.T f t vsA | _=>∃f,HasC X.T f t [a]):=by
    intro kk hk
    cases kk with
    | st fs=>exact absurd rfl (hk fs)
    | int k=>exact ⟨f,h2⟩
    | bool=>exact ⟨f,h2⟩
    | str=>exact ⟨f,h2⟩
    | sl e=>exact ⟨f,h2⟩
    | arr n e=>exact ⟨f,h2⟩
    | other=>exact ⟨f,h2⟩
    | ptr e=>exact ⟨f,h2⟩
    | uptr=>exact ⟨f,h2⟩
    | mp=>exact ⟨f,h2⟩
   exact key i.kind hst
 have one :∀{vsA:List AV},Good W vsA v.cells.toList→(∀us,v≠.agg us)→vsA.length=1:=by
  intro vsA h hv
  rw [h.1]
  cases v with
  | agg us=>exact absurd rfl (hv us)
  | _=>rfl
 generalize hkk:i.kind=kk at hk hok
 cases kk with
 | int k=>
  obtain ⟨n,rfl⟩:=okWide_int hk hval
  exact plain (by intro us h;cases h) (by rw [hkk];intro fs h;cases h) (one h1 (by intro us h;cases h))
 | bool=>
  obtain ⟨n,rfl⟩:=okWide_bool hk hval
  exact plain (by intro us h;cases h) (by rw [hkk];intro fs h;cases h) (one h1 (by intro us h;cases h))
 | str=>
  obtain ⟨n,rfl⟩:=okWide_string hk hval
  exact plain (by intro us h;cases h) (by rw [hkk];intro fs h;cases h) (one h1 (by intro us h;cases h))
 | sl e=>
  obtain ⟨a,l,c,rfl⟩:=okWide_slice hk hval
  exact plain (by intro us h;cases h) (by rw [hkk];intro fs h;cases h) (one h1 (by intro us h;cases h))
 | st fs=>
  obtain ⟨fields,hu,_⟩:=hk
  obtain ⟨cs,rfl,hcs⟩:=okWide_struct hu hval
  refine ⟨.ag vsA,?_,?_⟩
  ·have hsz:vsA.length=cs.toList.length:=h1.1
   have e:Value.agg cs=.agg cs.toList.toArray:=by simp
   rw [e]
   exact .ag vsA cs.toList hsz fun j a u ha hu=>.fz _ _ (h1.2 j a u ha hu).1
  ·unfold ArgOk
   rw [hi]
   simp only [hkk]
   refine ⟨f,vsA,rfl,?_,h2⟩
   rw [h1.1]
   simp only [Value.cells]
   rw [← cellsOf_T hT hi,← hcs]
   simp
 | arr n e=>simp at hok
 | other=>simp at hok
 | ptr e=>simp at hok
 | mp=>cases hok
 | uptr=>simp at hok
theorem args_read (hT:TTok P X.T) (hL :∀t,L.contains t=true→okTy X.T L t=true) {b:Nat} {r:Reach} {held:Bool} {sp:Nat→Bool} :∀{ts:List TypeId} {vs:List Value} {ds:List (DataW H)} {ps:List MemPlace},(ts.all fun t=>L.contains t)=true→
  (∀(j:Nat) t v,ts[j]?=some t→vs[j]?=some v→Value.okWide P W r b t v)→DataW.TrodAll enc P W 0 sp held ts vs ds ps→∃vsA,Rs (G0 X W) vsA vs∧ArgsOk X.T ts vsA
 | [],vs,ds,ps,_,_,h=>by
  obtain ⟨rfl,rfl,rfl⟩:=trodAll_nil h
  exact ⟨[],⟨rfl,by simp⟩,trivial⟩
 | t::ts,vs,ds,ps,ht,hv,h=>by
  obtain ⟨v,vs1,d,ds1,p,q,rfl,rfl,rfl,h1,h2⟩:=trodAll_cons h
  simp only [List.all_cons,Bool.and_eq_true] at ht
  obtain ⟨a,h3,h4⟩:=arg_read hT hL ht.1 (hv 0 t v rfl rfl) h1
  obtain ⟨vsA,h5,h6⟩:=args_read hT hL ht.2 (fun j t v h1 h2=>hv (j+1) t v (by simpa using h1) (by simpa using h2)) h2
  refine ⟨a::vsA,⟨by simp [h5.1],fun j x u hx hu=>?_⟩,h4,h6⟩
  cases j with
  | zero=>simp at hx hu;subst hx;subst hu;exact h3
  | succ j=>exact h5.2 j x u (by simpa using hx) (by simpa using hu)
theorem args_below (hl:laidOutB P=true) {W':World} (hb:Below W.heap.size W W') :∀{ts:List TypeId} {vs:List Value} {ds:List (DataW H)} {ps:List MemPlace},(ts.all fun t=>P.readableRec t&&decide (t<P.types.size))=true→
  DataW.TrodAll enc P W 0 (fun _=>true) true ts vs ds ps→(∀x∈ps,x.block<W.heap.size)→DataW.TrodAll enc P W' 0 (fun b=>decide (b<W.heap.size)) true ts vs ds ps
 | [],vs,ds,ps,_,h,_=>by
  obtain ⟨rfl,rfl,rfl⟩:=trodAll_nil h
  exact trodAll_mk0
 | t::ts,vs,ds,ps,ht,h,hps=>by
  obtain ⟨v,vs1,d,ds1,p,q,rfl,rfl,rfl,h1,h2⟩:=trodAll_cons h
  simp only [List.all_cons,Bool.and_eq_true,decide_eq_true_eq] at ht
  exact trodAll_cons_mk (Below.trod hl ht.1.1 ht.1.2 h1 hb fun x hx=>hps x (List.mem_append_left _ hx)) (args_below hl hb ht.2 h2 fun x hx=>hps x (List.mem_append_right _ hx))
theorem args_lt :∀{ts:List TypeId} {vs:List Value} {ds:List (DataW H)} {ps:List MemPlace} {sp:Nat→Bool} {held:Bool},DataW.TrodAll enc P W 0 sp held ts vs ds ps→∀x∈ps,x.block<W.heap.size
 | [],vs,ds,ps,_,_,h=>by
  obtain ⟨rfl,rfl,rfl⟩:=trodAll_nil h
  simp
 | t::ts,vs,ds,ps,_,_,h=>by
  obtain ⟨v,vs1,d,ds1,p,q,rfl,rfl,rfl,h1,h2⟩:=trodAll_cons h
  intro x hx
  rcases List.mem_append.1 hx with hx | hx
  ·obtain ⟨m,hm⟩:=h1
   exact DataW.trod_lt m _ _ _ hm x hx
  ·exact args_lt h2 x hx
structure LawAt (P:Program) (X:Cx) (prog:Prog) (L:List Nat):Prop where
 T:TTok P X.T
 mixed:P.follows .mixedOrders=true
 fns:ProgOk P X prog.fn
 orac:OracOk P X prog
 oracS:OracSOk P X prog
 types :∀t,L.contains t=true→okTy X.T L t=true
theorem law_calls {prog:Prog} (h:LawAt P X prog L) {f c:Nat} (hfm:X.fm f=some c) {args:Array Value} (hen:(callFunc f args).run P W=.ok (.enter f args) W) {avs:List AV} (hR:Rs (G0 X W) avs args.toList) (hlaw:Pus prog c avs (.b true)) :
  Calls P f args W fun e W'=>e=.returned (.bool true)∧Below W.heap.size W W':=by
 obtain ⟨r,⟨st',n,hr⟩,hs⟩:=hlaw
 have hrb:r=.b true:=by
  cases r with
  | b x=>simpa [AV.strip] using hs
  | bf f cs=>simp [AV.strip] at hs
  | sl o rows=>simp [AV.strip] at hs
  | ag cs=>simp only [AV.strip] at hs;split at hs<;>cases hs
  | tup cs=>simp only [AV.strip] at hs;split at hs<;>cases hs
  | p k v o=>simp [AV.strip] at hs
  | fn f cap=>simp [AV.strip] at hs
  | i k n=>simp [AV.strip] at hs
  | s l=>simp [AV.strip] at hs
  | fp cs=>simp [AV.strip] at hs
  | np=>simp [AV.strip] at hs
  | nf=>simp [AV.strip] at hs
  | ni=>simp [AV.strip] at hs
  | u=>simp [AV.strip] at hs
  | mp=>simp [AV.strip] at hs
 subst hrb
 have hg:=calls_ok h.T h.mixed h.fns h.orac h.oracS n 0 c avs st0 _ st' hr f hfm (G0 X W) W W args.toList rfl G0_rel hR
 have ea:args.toList.toArray=args:=by simp
 rw [ea] at hg
 rcases hg with ⟨_,h2⟩ | ⟨v,w',h2,_⟩
 ·refine h2.mono fun e w' he=>?_
  cases e with
  | returned v=>
   obtain ⟨G',h3,h4⟩:=he
   exact ⟨by rw [h3.bool_inv],h4.rel.bel⟩
  | panicked c=>exact he.elim
  | outgrown=>exact he.elim
 ·rw [hen] at h2
  cases h2
theorem FnOk.of {f:Nat} {F:AF} {fn:Func} (h1:P.funcs[f]?=some fn) (h2:(fn.name== "runtime.NumGoroutine")=false) (h3:fn.body.bind (cCode { X with fz:=F.fz } F.nt)=some F.body) (h4:fn.ntmps=F.nt) (h5:cRess X fn.results.toList=some F.res) (h6:Nat.ble F.res.length 4=true):FnOk P X f F:=by
 rw [Option.bind_eq_some_iff] at h3
 obtain ⟨code,h7,h8⟩:=h3
 exact ⟨fn,code,h1,h2,h7,h4,GoodF.of h8,h5,Nat.le_of_ble_eq_true h6⟩
theorem FnOk.ofG {f:Nat} {F:AF} {fn:Func} {code:Code} (h1:P.funcs[f]?=some fn) (h2:(fn.name== "runtime.NumGoroutine")=false) (h3:fn.body=some code) (hg:GoodF P X F code) (h4:fn.ntmps=F.nt) (h5:cRess X fn.results.toList=some F.res) (h6:Nat.ble F.res.length 4=true):FnOk P X f F:=
 ⟨fn,code,h1,h2,h3,h4,hg,h5,Nat.le_of_ble_eq_true h6⟩
theorem FnOk.enters {f:Nat} {F:AF} (h:FnOk P X f F) (args:Array Value) (w:World):(callFunc f args).run P w=.ok (.enter f args) w:=by
 obtain ⟨fn,code,h1,h2,h3,_⟩:=h.ok
 exact callFunc_enter h1 h2 h3 args
def tabOf (l:List (Nat × TI)):TTab:=fun t=>(l.find? fun x=>x.1==t).map (·.2)
theorem tab_ok {l:List (Nat × TI)} (h :∀x∈l,TOk P x.1 x.2):TTok P (tabOf l):=by
 intro t i hi
 unfold tabOf at hi
 rw [Option.map_eq_some_iff] at hi
 obtain ⟨x,h1,rfl⟩:=hi
 have h2:=List.find?_some h1
 have h3:=List.mem_of_find?_eq_some h1
 have:x.1=t:=by simpa using h2
 rw [← this]
 exact h x h3
def fnOf (l:List (Nat × AF)):Nat→Option AF:=fun c=>(l.find? fun x=>x.1==c).map (·.2)
def fmOf (l:List (Nat × Nat)):FM:=fun f=>(l.find? fun x=>x.1==f).map (·.2)
theorem prog_ok {fm:List (Nat × Nat)} {fs:List (Nat × AF)} (h :∀x∈fm,∀F,fnOf fs x.2=some F→FnOk P X x.1 F) (hX:X.fm=fmOf fm):ProgOk P X (fnOf fs):=by
 intro f c F hf hc
 rw [hX] at hf
 unfold fmOf at hf
 rw [Option.map_eq_some_iff] at hf
 obtain ⟨x,h1,rfl⟩:=hf
 have h2:=List.find?_some h1
 have h3:=List.mem_of_find?_eq_some h1
 have:x.1=f:=by simpa using h2
 rw [← this]
 exact h x h3 F hc
theorem orac_index {G:Gh} {w0 w:World} {st:St} {f:FuncId} {fn:Func} {d:Nat} (h1:P.funcs[f]?=some fn) (h2:(fn.name== "runtime.NumGoroutine")=false) (h3:fn.body.isNone=true) (h4:Extern.findNext fn=none) (h5:Extern.find fn=some Extern.BytealgIndexByte.indexByte)
  {s:List UInt8} {c:UInt8} {vals:List Value} (hR:Rel G w0 st w) (hV:Rs G [.s s,.i .u8 (c.toNat:Int)] vals):Goes P f vals.toArray w fun v w'=>∃G',R G' (.i .i64 (Lib.indexByte s c)) v∧Run G G' w0 st st w' d:=by
 have hlen:=hV.1
 match vals,hlen with
 | [v1,v2],_=>
  have e1:=(hV.2 0 _ v1 rfl rfl).str_inv
  have e2:=(hV.2 1 _ v2 rfl rfl).int_inv
  subst e1;subst e2
  refine .inr ⟨.int .i64 (Lib.indexByte s c),w,?_,G,.fz _ _ (.i _ _),.refl hR⟩
  rw [run_callFunc_extern h1 h2 h3 h4 h5]
  have:=Lib.run_indexByteString (P:=P) ⟨s.toArray⟩ (c.toNat:Int) w
  rw [this]
  simp [Result.andThen]
end
end Go.AM
namespace Go.AM
open Go
theorem TOk.of {P:Program} {t:TypeId} {i:TI} {ti:TypeInfo} (h1:P.info? t=some ti) (h2:(Nat.beq ti.size i.size&&Nat.beq ti.bytes i.bytes)=true) (h3:(ti.zero.bind fun z=>if z.cells.size=i.size then cVals z.cells.toList else none)=some i.zero) (h4:i.kind.ok P t):TOk P t i:=by
 simp only [Bool.and_eq_true] at h2
 rw [Option.bind_eq_some_iff] at h3
 obtain ⟨z,h5,h6⟩:=h3
 split at h6
 ·rename_i h7
  exact ⟨⟨ti,z,h1,Nat.eq_of_beq_eq_true h2.1,Nat.eq_of_beq_eq_true h2.2,h5,h6,h7⟩,h4⟩
 ·cases h6
theorem TK.ok_st {P:Program} {t:TypeId} {fs:List (Nat × Nat)} (h:((P.underlying t).bind fun d=>match d with | .struct f=>if (!P.stoodInHeld t&&!P.eqGuardType P.depth t&&f.toList.all (fun f=>!(f.name== "_")))=true then some (f.toList.map fun f=>(f.type,f.offset)) else none | _=>none)=some fs):TK.ok P t (.st fs):=by
 rw [Option.bind_eq_some_iff] at h
 obtain ⟨d,h1,h2⟩:=h
 cases d with
 | struct f=>
  simp only at h2
  split at h2
  case isFalse=>cases h2
  rename_i h3
  simp only [Bool.and_eq_true,Bool.not_eq_true',List.all_eq_true] at h3
  simp only [Option.some.injEq] at h2
  exact ⟨f,h1,h2,h3.1.1,h3.1.2,h3.2⟩
 | _=>cases h2
end Go.AM

namespace Go.AM
open Go Go.RowKit Go.ChangeShapes
section
variable {T:TTab} {t:TypeId} {a:AV} {i:TI}
theorem ArgOk.plain (hi:T t=some i) (hk :∀fs,i.kind≠.st fs) (h:ArgOk T t a) :∃f,HasC T f t [a]:=by
 unfold ArgOk at h
 rw [hi] at h
 obtain ⟨kk,s1,s2,s3⟩:=i
 simp only at hk
 cases kk with
 | st fs=>exact absurd rfl (hk fs)
 | int k=>simpa only using h
 | bool=>simpa only using h
 | str=>simpa only using h
 | sl e=>simpa only using h
 | arr n e=>simpa only using h
 | other=>simpa only using h
 | ptr e=>simpa only using h
 | uptr=>simpa only using h
 | mp=>simpa only using h
theorem HasC.int {f:Nat} {vsA:List AV} {k:IntKind} (hi:T t=some i) (hk:i.kind=.int k) (h:HasC T f t vsA) :∃n,vsA=[.i k n]∧k.min≤n∧n≤k.max:=by
 cases f with
 | zero=>exact h.elim
 | succ f=>
  unfold HasC at h
  rw [hi] at h
  simp only [hk] at h
  exact h
theorem HasC.bool {f:Nat} {vsA:List AV} (hi:T t=some i) (hk:i.kind=.bool) (h:HasC T f t vsA) :∃b,vsA=[.b b]:=by
 cases f with
 | zero=>exact h.elim
 | succ f=>
  unfold HasC at h
  rw [hi] at h
  simp only [hk] at h
  exact h
theorem HasC.str {f:Nat} {vsA:List AV} (hi:T t=some i) (hk:i.kind=.str) (h:HasC T f t vsA) :∃s,vsA=[.s s]∧s.length≤maxLen:=by
 cases f with
 | zero=>exact h.elim
 | succ f=>
  unfold HasC at h
  rw [hi] at h
  simp only [hk] at h
  exact h
theorem HasC.sl {f e:Nat} {vsA:List AV} (hi:T t=some i) (hk:i.kind=.sl e) (h:HasC T f t vsA) :∃g rows,f=g+1∧vsA=[.sl .ext rows]∧rows.length≤maxLen∧(∀r∈rows,HasC T g e r)∧∀j,T e=some j→∀r∈rows,r.length=j.size:=by
 cases f with
 | zero=>exact h.elim
 | succ f=>
  unfold HasC at h
  rw [hi] at h
  simp only [hk] at h
  obtain ⟨rows,h1,h2,h3⟩:=h
  exact ⟨f,rows,rfl,h1,h2,h3⟩
theorem HasC.st {f:Nat} {vsA:List AV} {fs:List (Nat × Nat)} (hi:T t=some i) (hk:i.kind=.st fs) (h:HasC T f t vsA) :∃g,f=g+1∧∀x∈fs,∃j,T x.1=some j∧HasC T g x.1 ((vsA.drop x.2).take j.size):=by
 cases f with
 | zero=>exact h.elim
 | succ f=>
  unfold HasC at h
  rw [hi] at h
  simp only [hk] at h
  exact ⟨f,rfl,h⟩
theorem ArgOk.int {k:IntKind} (hi:T t=some i) (hk:i.kind=.int k) (h:ArgOk T t a) :∃n,a=.i k n∧k.min≤n∧n≤k.max:=by
 obtain ⟨f,h⟩:=h.plain hi (by rw [hk];intro fs h;cases h)
 obtain ⟨n,h1,h2⟩:=h.int hi hk
 injection h1 with h1
 exact ⟨n,h1,h2⟩
theorem ArgOk.bool (hi:T t=some i) (hk:i.kind=.bool) (h:ArgOk T t a) :∃b,a=.b b:=by
 obtain ⟨f,h⟩:=h.plain hi (by rw [hk];intro fs h;cases h)
 obtain ⟨n,h1⟩:=h.bool hi hk
 injection h1 with h1
 exact ⟨n,h1⟩
theorem ArgOk.str (hi:T t=some i) (hk:i.kind=.str) (h:ArgOk T t a) :∃s,a=.s s∧s.length≤maxLen:=by
 obtain ⟨f,h⟩:=h.plain hi (by rw [hk];intro fs h;cases h)
 obtain ⟨n,h1,h2⟩:=h.str hi hk
 injection h1 with h1
 exact ⟨n,h1,h2⟩
end
theorem i64_bd {n:Int} (h:IntKind.i64.min≤n∧n≤IntKind.i64.max):-9223372036854775808≤n∧n<9223372036854775808:=by
 have h1:IntKind.i64.min = -9223372036854775808:=rfl
 have h2:IntKind.i64.max=9223372036854775807:=rfl
 omega
theorem u8_bd {n:Int} (h:IntKind.u8.min≤n∧n≤IntKind.u8.max):0≤n∧n<256:=by
 have h1:IntKind.u8.min=0:=rfl
 have h2:IntKind.u8.max=255:=rfl
 omega
def FnsOk (P:Program) (X:Cx) (fs:List (Nat × AF)):List (Nat × Nat)→Prop
 | []=>True
 | x::r=>(∀F,fnOf fs x.2=some F→FnOk P X x.1 F)∧FnsOk P X fs r
theorem FnsOk.all {P:Program} {X:Cx} {fs:List (Nat × AF)} :∀{l:List (Nat × Nat)},FnsOk P X fs l→∀x∈l,∀F,fnOf fs x.2=some F→FnOk P X x.1 F
 | [],_,_,hx=>by cases hx
 | y::l,h,x,hx=>by
  rcases List.mem_cons.1 hx with rfl | hx
  ·exact h.1
  ·exact FnsOk.all h.2 x hx
theorem fm_inv {l:List (Nat × Nat)} {f c:Nat} (h:fmOf l f=some c):(f,c)∈l:=by
 unfold fmOf at h
 rw [Option.map_eq_some_iff] at h
 obtain ⟨x,h1,rfl⟩:=h
 have h2:=List.find?_some h1
 have h3:=List.mem_of_find?_eq_some h1
 have:x.1=f:=by simpa using h2
 rw [← this]
 exact h3
def orc48 (k:Nat):Nat→List AV→Option AV:=fun c args=>
 if c=k then match args with
  | [.s s,.i .u8 n]=>if 0≤n∧n<256 then some (.i .i64 (Lib.indexByte s n.toNat.toUInt8)) else none
  | _=>none
 else none
theorem orc48_at (k:Nat) (s:List UInt8) (c:UInt8):orc48 k k [.s s,.i .u8 (c.toNat:Int)]=some (.i .i64 (Lib.indexByte s c)):=by
 have:=c.toNat_lt
 unfold orc48
 rw [if_pos rfl]
 simp only
 rw [if_pos ⟨by omega,by omega⟩]
 simp
theorem orc48_ok {P:Program} {X:Cx} {fs:List (Nat × AF)} {k f0:Nat} {fn:Func} (hf :∀f,X.fm f=some k→f=f0) (h1:P.funcs[f0]?=some fn) (h2:(fn.name== "runtime.NumGoroutine")=false) (h3:fn.body.isNone=true) (h4:Extern.findNext fn=none) (h5:Extern.find fn=some Extern.BytealgIndexByte.indexByte):OracOk P X { fn:=fnOf fs,orac:=orc48 k }:=by
 intro f c hfc _ args r hr G w0 st w vals d _ hR hV
 simp only [orc48] at hr
 split at hr
 case isFalse=>cases hr
 rename_i hc
 subst hc
 have:=hf f hfc
 subst this
 split at hr
 case h_2=>cases hr
 rename_i s n
 split at hr
 case isFalse=>cases hr
 rename_i hn
 cases hr
 have e:n=((n.toNat.toUInt8).toNat:Int):=by
  have:(n.toNat.toUInt8).toNat=n.toNat:=by simp;omega
  omega
 have hV':Rs G [.s s,.i .u8 ((n.toNat.toUInt8).toNat:Int)] vals:=by rw [← e];exact hV
 exact orac_index h1 h2 h3 h4 h5 hR hV'
section
variable {H:Type} {enc:TypeId × Value→H} {P:Program} {W:World}
theorem trod_len {held:Bool} {sp:Nat→Bool} :∀{ts:List TypeId} {vs:List Value} {ds:List (DataW H)} {ps:List MemPlace},DataW.TrodAll enc P W 0 sp held ts vs ds ps→ds.length=ts.length
 | [],vs,ds,ps,h=>by
  obtain ⟨rfl,rfl,rfl⟩:=trodAll_nil h
  rfl
 | t::ts,vs,ds,ps,h=>by
  obtain ⟨v,vs1,d,ds1,p,q,rfl,rfl,rfl,h1,h2⟩:=trodAll_cons h
  simp [trod_len h2]
theorem ds4 {α:Type} {ds:List α} (h:ds.length=4) :∃a b c d,ds=[a,b,c,d]:=by match ds,h with | [a,b,c,d],_=>exact ⟨a,b,c,d,rfl⟩
end
theorem noneF {α:Type} {x:α} {p:Prop} (h:(none:Option α)=some x):p:=by cases h
end Go.AM

namespace Go.AM
open Go Go.RowKit Go.Shelf Go.Proofs
theorem TK.ok_other {P:Program} {t:TypeId} (h:(match P.underlying t with | none=>false | some (.struct _)=>false | some (.array _ _)=>false | some _=>true)=true):TK.ok P t .other:=by
 show∃d,P.underlying t=some d∧(match d with | .struct _ | .array _ _=>False | _=>True)
 split at h
 ·cases h
 ·cases h
 ·cases h
 ·rename_i d h1 h2 h3
  refine ⟨d,h3,?_⟩
  split
  ·exact absurd rfl (h1 _)
  ·exact absurd rfl (h2 _ _)
  ·trivial
def orcB:Nat→List AV→Option AV:=fun c args=>
 if c=146 then (match args with | [x]=>some x | _=>none) else orc48 48 c args
def orsB:Nat→List AV→St→Option (AV × St):=fun c args st=>if c=105 then bStr args st else none
theorem orcB_48 (s:List UInt8) (c:UInt8):orcB 48 [.s s,.i .u8 (c.toNat:Int)]=some (.i .i64 (Lib.indexByte s c)):=by
 unfold orcB
 rw [if_neg (by decide)]
 exact orc48_at 48 s c
theorem orcB_105 (args:List AV):orcB 105 args=none:=by
 unfold orcB orc48
 rw [if_neg (by decide),if_neg (by decide)]
theorem orsB_105 (args:List AV) (st:St):orsB 105 args st=bStr args st:=rfl
section
variable {P:Program} {X:Cx}
theorem orcB_ok {fs:List (Nat × AF)} (h48:OracOk P X { fn:=fnOf fs,orac:=orc48 48 }) {f0:Nat} {fn:Func} (hf :∀f,X.fm f=some 146→f=f0) (h1:P.funcs[f0]?=some fn) (h2:(fn.name== "runtime.NumGoroutine")=false) (h3:fn.body.isNone=true) (h4:Extern.findNext fn=none) (h5:Extern.find fn=some Extern.AbiNoEscape.same):OracOk P X ⟨fnOf fs,orcB,orsB⟩:=by
 intro f c hfc hfn args r hr G w0 st w vals d hG hR hV
 simp only [orcB] at hr
 split at hr
 ·rename_i hc
  subst hc
  have:=hf f hfc
  subst this
  split at hr
  case h_2=>cases hr
  rename_i x
  cases hr
  have hlen:=hV.1
  match vals,hlen with
  | [v1],_=>
   refine .inr ⟨v1,w,?_,G,hV.2 0 _ v1 rfl rfl,.refl hR⟩
   rw [run_callFunc_extern h1 h2 h3 h4 h5]
   have:=Lib.run_noEscape (P:=P) w v1
   rw [this]
   simp [Result.andThen]
 ·exact h48 f c hfc hfn args r hr G w0 st w vals d hG hR hV
theorem orsB_ok {fs:List (Nat × AF)} {ρ:Ren} (L:Lays.n169 P ρ) (E:Builder.Extra P ρ) (hf :∀f,X.fm f=some 105→f=ρ.f 169) (hb:X.fm 1000000000000=some (ρ.t 72+1000000000)) (he:X.fm 1000000000001=some (ρ.t 5+1000000000)) {fn:Func} {code:Code} (h1:P.funcs[ρ.f 169]?=some fn) (h2:(fn.name== "runtime.NumGoroutine")=false) (h3:fn.body=some code):OracSOk P X ⟨fnOf fs,orcB,orsB⟩:=by
 intro f c hfc _ args st r st' hr G w0 w vals d hG hR hV
 simp only [orsB] at hr
 split at hr
 case isFalse=>cases hr
 rename_i hc
 subst hc
 have:=hf f hfc
 subst this
 have e1:btOf X.fm=ρ.t 72:=by unfold btOf;rw [hb];simp
 have e2:etOf X.fm=ρ.t 5:=by unfold etOf;rw [he];simp
 exact bStr_ok L E e1.symm e2.symm (fun args w=>callFunc_enter h1 h2 h3 args) hr hG hR hV
end
end Go.AM

namespace Go.AM
open Go
abbrev Bytes:=List UInt8
abbrev DIG:Bytes:=[48,49,50,51,52,53,54,55,56,57,97,98,99,100,101,102]
theorem maxStr_eq:maxStr=1099511627776:=rfl
theorem maxBytes_eq:maxBytes=70368744177664:=rfl
theorem loop_up {α:Type} {P:α→Int→Prop} (A:Nat→α) (n:Nat) (h1:P (A n) (n:Int)) (h2 :∀i:Nat,i<n→P (A (i+1)) ((i+1:Nat):Int)→P (A i) (i:Int)):P (A 0) 0:=by
 have key :∀m i:Nat,i+m=n→P (A i) (i:Int):=by
  intro m
  induction m with
  | zero=>intro i hi;simp only [Nat.add_zero] at hi;subst hi;exact h1
  | succ m ih=>intro i hi;exact h2 i (by omega) (ih (i+1) (by omega))
 exact key n 0 (by omega)
theorem loop_up0 {P:Int→Prop} (n:Nat) (h1:P (n:Int)) (h2 :∀i:Nat,i<n→P ((i+1:Nat):Int)→P (i:Int)):P 0:=
 loop_up (P:=fun _ i=>P i) (fun _=>()) n h1 h2
theorem wr_succ {i:Nat} (h:i<4611686018427387904):IntKind.i64.wrap ((i:Int)+1)=((i+1:Nat):Int):=by
 rw [wr_i64 (by omega) (by omega)];omega
theorem toNat_cast (i:Nat):((i:Int)).toNat=i:=rfl
def hexd (n:Nat):UInt8:=DIG.getD n 0
theorem hexd_get {n:Nat} (h:n<16):DIG[n]?=some (hexd n):=by
 unfold hexd
 rw [List.getD_eq_getElem?_getD,List.getElem?_eq_getElem (by simpa using h)]
 rfl
theorem hexd_take {n m:Nat} (h:n<16) (hm:m=n+1):(DIG.drop n).take (m-n)=[hexd n]:=by
 subst hm
 rw [show n+1-n=1 by omega,List.drop_eq_getElem_cons (by simpa using h)]
 simp only [List.take_succ_cons,List.take_zero]
 have:=hexd_get h
 rw [List.getElem?_eq_getElem (by simpa using h)] at this
 injection this with this
 rw [this]
theorem DIG_len:DIG.length=16:=rfl
def chr (c:UInt8):Bytes:=
 if c.toNat=34∨c.toNat=92 then [92,c] else if c.toNat=10 then [92,110] else if c.toNat<32∨126<c.toNat then [92,120,hexd (c.toNat / 16),hexd (c.toNat % 16)] else [c]
def chrs (s:Bytes):Bytes:=s.flatMap chr
def quo (s:Bytes):Bytes:=34::(chrs s++[34])
theorem chr_len (c:UInt8):1≤(chr c).length∧(chr c).length≤4:=by
 unfold chr
 split
 ·exact ⟨by simp,by simp⟩
 ·split
  ·exact ⟨by simp,by simp⟩
  ·split<;>exact ⟨by simp,by simp⟩
theorem chrs_len (s:Bytes):(chrs s).length≤4*s.length:=by
 induction s with
 | nil=>exact Nat.le_refl _
 | cons c s ih=>
  have h:chrs (c::s)=chr c++chrs s:=rfl
  rw [h,List.length_append,List.length_cons]
  have:=chr_len c
  omega
theorem quo_len (s:Bytes):(quo s).length≤4*s.length+2:=by
 have:=chrs_len s
 simp only [quo,List.length_cons,List.length_append,List.length_nil]
 omega
theorem chrs_take {s:Bytes} {i:Nat} (h:i<s.length):chrs (s.take (i+1))=chrs (s.take i)++chr s[i]:=by
 rw [List.take_succ_eq_append_getElem h]
 simp only [chrs,List.flatMap_append,List.flatMap_cons,List.flatMap_nil,List.append_nil]
def ds (b:Nat):Nat→Nat→Bytes
 | 0,_=>[]
 | f+1,n=>if n<b then [hexd n] else ds b f (n / b)++[hexd (n % b)]
theorem ds_len (b:Nat) :∀f n,(ds b f n).length≤f
 | 0,_=>Nat.le_refl _
 | f+1,n=>by
  have:=ds_len b f (n / b)
  unfold ds
  split
  ·simp
  ·simp;omega
def digs (b n:Nat):Bytes:=ds b 64 n
def num (n:Int):Bytes:=if n<0 then 45::digs 10 (-n).toNat else digs 10 n.toNat
def quoR (s:Bytes):Bytes × Int:=if 400<s.length then ([],4) else (quo s,0)
def long (n:Nat) (l:List Bytes):Bool:=l.any fun x=>decide (n<x.length)
def many (l:List Bytes):Bool:=long 400 l||decide (64<l.length)
theorem wr_u64_nat {n:Nat} (h:n<18446744073709551616):IntKind.u64.wrap (n:Int)=(n:Int):=wr_u64 (by omega) (by omega)
end Go.AM

namespace Go.AM
open Go
def dv (b:Nat) (c:UInt8):Int:=Lib.indexByte (DIG.take b) c
theorem dv_lt {b:Nat} (hb:b≤16) (c:UInt8):-1≤dv b c∧dv b c<b:=by
 have key :∀(l:Bytes),-1≤Lib.indexByte l c∧(Lib.indexByte l c<l.length∨Lib.indexByte l c = -1):=by
  intro l
  induction l with
  | nil=>exact ⟨Int.le_refl _,.inr rfl⟩
  | cons x l ih=>
   unfold Lib.indexByte
   split
   ·simp
   ·split
    ·exact ⟨Int.le_refl _,.inr rfl⟩
    ·simp only [List.length_cons]
     omega
 have:=key (DIG.take b)
 unfold dv
 have hl:(DIG.take b).length=b:=by simp [hb]
 omega
theorem dv_hexd :∀k:Fin 16,dv 16 (hexd k)=(k.val:Int):=by decide
theorem idx_get (c:UInt8) :∀(l:Bytes),0≤Lib.indexByte l c→l[(Lib.indexByte l c).toNat]?=some c
 | [],h=>absurd h (show ¬ (0:Int)≤-1 by decide)
 | x::l,h=>by
  have ih:=idx_get c l
  unfold Lib.indexByte at h ⊢
  split
  ·rename_i hx
   have:x=c:=by simpa using hx
   subst this
   rfl
  ·rename_i hx
   rw [if_neg hx] at h
   split
   ·rename_i h1
    rw [if_pos h1] at h
    exact absurd h (by decide)
   ·rename_i h1
    rw [if_neg h1] at h
    have h2:=Lib.indexByte_ge l c
    have h3:Lib.indexByte l c≠-1:=by simpa using h1
    have h4:0≤Lib.indexByte l c:=by omega
    have h5:(Lib.indexByte l c+1).toNat=(Lib.indexByte l c).toNat+1:=by omega
    rw [h5,List.getElem?_cons_succ]
    exact ih h4
theorem dv_inv {b:Nat} (c:UInt8) (h:0≤dv b c):c=hexd (dv b c).toNat:=by
 have h1:=idx_get c (DIG.take b) h
 have h2:DIG[(dv b c).toNat]?=some c:=by
  have:=(List.getElem?_eq_some_iff.1 h1)
  obtain ⟨h3,h4⟩:=this
  rw [List.getElem_take] at h4
  exact List.getElem?_eq_some_iff.2 ⟨by rw [List.length_take] at h3;exact Nat.lt_of_lt_of_le h3 (Nat.min_le_right _ _),h4⟩
 unfold hexd
 rw [List.getD_eq_getElem?_getD,h2]
 rfl
def vals (b:Nat) (s:Bytes):Nat:=s.foldl (fun n c=>n*b+(dv b c).toNat) 0
def okd (b:Nat) (s:Bytes):Bool:=s.all fun c=>decide (0≤dv b c)
def badn (b:Nat) (s:Bytes):Bool:=decide (s=[])||!okd b s||(decide (1<s.length)&&decide (s.head?=some 48))
def rd (b most:Nat) (s:Bytes):Nat × Int:=if badn b s=true then (0,12) else if most<vals b s then (0,16) else (vals b s,0)
theorem vals_take {b:Nat} {s:Bytes} {i:Nat} (h:i<s.length):vals b (s.take (i+1))=vals b (s.take i)*b+(dv b s[i]).toNat:=by
 unfold vals
 rw [List.take_succ_eq_append_getElem h,List.foldl_append]
 rfl
theorem okd_take {b:Nat} {s:Bytes} {i:Nat} (h:i<s.length):okd b (s.take (i+1))=(okd b (s.take i)&&decide (0≤dv b s[i])):=by
 unfold okd
 rw [List.take_succ_eq_append_getElem h,List.all_append]
 simp
theorem okd_of {b:Nat} {s:Bytes} {i:Nat} (h:i<s.length) (hd:dv b s[i]<0):okd b s=false:=by
 unfold okd
 rw [List.all_eq_false]
 exact ⟨s[i],List.getElem_mem h,by simpa using hd⟩
theorem far_iff {b most n d:Nat} (hb:0<b) (hd:d≤most):(most-d) / b<n↔most<n*b+d:=by
 rw [Nat.div_lt_iff_lt_mul hb]
 omega
def esx:Bytes→Option (UInt8 × Bytes)
 | a::b::r=>if 0≤dv 16 a∧0≤dv 16 b∧(16*dv 16 a+dv 16 b).toNat≠10∧((16*dv 16 a+dv 16 b).toNat<32∨126<(16*dv 16 a+dv 16 b).toNat) then some (UInt8.ofNat (16*dv 16 a+dv 16 b).toNat,r) else none
 | _=>none
def esc:Bytes→Option (UInt8 × Bytes)
 | []=>none
 | c::r=>if c.toNat=34∨c.toNat=92 then some (c,r) else if c.toNat=110 then some (10,r) else if c.toNat=120 then esx r else none
def one:Bytes→Option (UInt8 × Bytes)
 | []=>none
 | c::r=>if c.toNat=34∨c.toNat<32∨126<c.toNat then none else if c.toNat=92 then esc r else some (c,r)
theorem u8_eq {a b:UInt8} (h:a.toNat=b.toNat):a=b:=UInt8.toNat_inj.1 h
theorem dv_hex {k:Nat} (h:k<16):dv 16 (hexd k)=(k:Int):=dv_hexd ⟨k,h⟩
theorem one_chr (c:UInt8) (r:Bytes) (h:(chr c++r).head?≠some 34):one (chr c++r)=some (c,r):=by
 have hc:=c.toNat_lt
 unfold chr at h ⊢
 split
 ·rename_i h1
  simp [one,esc,h1]
 ·split
  ·rename_i h1 h2
   have:c=10:=u8_eq h2
   subst this
   rfl
  ·split
   ·rename_i h1 h2 h3
    have e1:=dv_hex (k:=c.toNat / 16) (by omega)
    have e2:=dv_hex (k:=c.toNat % 16) (by omega)
    have e3:(16*((c.toNat / 16:Nat):Int)+((c.toNat % 16:Nat):Int)).toNat=c.toNat:=by omega
    simp only [List.cons_append,List.nil_append,one,esc,esx,e1,e2,e3]
    rw [if_neg (by decide),if_pos (by decide),if_neg (by decide),if_neg (by decide),if_pos (by decide),if_pos ⟨by omega,by omega,h2,h3⟩]
    simp
   ·rename_i h1 h2 h3
    simp only [List.cons_append,List.nil_append,one]
    rw [if_neg (by omega),if_neg (by omega)]
theorem one_inv {s:Bytes} {c:UInt8} {r:Bytes} (h:one s=some (c,r)):s=chr c++r:=by
 cases s with
 | nil=>cases h
 | cons x s=>
  simp only [one] at h
  split at h
  ·cases h
  rename_i h1
  split at h
  ·rename_i h2
   have hx:x=92:=u8_eq h2
   subst hx
   cases s with
   | nil=>cases h
   | cons y s=>
    simp only [esc] at h
    split at h
    ·rename_i h3
     cases h
     unfold chr
     rw [if_pos h3]
     rfl
    ·split at h
     ·rename_i h3 h4
      cases h
      have hy:y=110:=u8_eq h4
      subst hy
      rfl
     ·split at h
      ·rename_i h3 h4 h5
       have hy:y=120:=u8_eq h5
       subst hy
       match s,h with
       | a::b::r',h=>
        simp only [esx] at h
        split at h
        ·rename_i h6
         obtain ⟨ha,hb,hv,hw⟩:=h6
         cases h
         have la:=dv_lt (b:=16) (by omega) a
         have lb:=dv_lt (b:=16) (by omega) b
         have hv256:(16*dv 16 a+dv 16 b).toNat<256:=by omega
         have en:(UInt8.ofNat (16*dv 16 a+dv 16 b).toNat).toNat=(16*dv 16 a+dv 16 b).toNat:=by
          simp;omega
         unfold chr
         rw [en,if_neg (by omega),if_neg hv,if_pos hw]
         have e1:(16*dv 16 a+dv 16 b).toNat / 16=(dv 16 a).toNat:=by omega
         have e2:(16*dv 16 a+dv 16 b).toNat % 16=(dv 16 b).toNat:=by omega
         rw [e1,e2,← dv_inv a ha,← dv_inv b hb]
         rfl
        ·cases h
      ·cases h
  ·rename_i h2
   cases h
   unfold chr
   rw [if_neg (by omega),if_neg (by omega),if_neg (by omega)]
   rfl
theorem chr_head (c:UInt8):(chr c).head?≠some 34:=by
 unfold chr
 split
 ·simp
 ·split
  ·simp
  ·split
   ·simp
   ·rename_i h _ _
    simp
    intro he
    subst he
    exact h (.inl rfl)
theorem chr_ne (c:UInt8):chr c≠[]:=by
 intro h
 have:=(chr_len c).1
 rw [h] at this
 simp at this
theorem chr_app_head (c:UInt8) (r:Bytes):(chr c++r).head?≠some 34:=by
 cases hc:chr c with
 | nil=>exact absurd hc (chr_ne c)
 | cons x l=>have:=chr_head c;rw [hc] at this;simpa using this
theorem one_iff {s:Bytes} {c:UInt8} {r:Bytes}:one s=some (c,r)↔s=chr c++r:=
 ⟨one_inv,fun h=>by subst h;exact one_chr c r (chr_app_head c r)⟩
def nxtB:Nat→Bytes→Bytes→Option (Bytes × Bytes)
 | 0,_,_=>none
 | n+1,out,s=>match s with
  | []=>none
  | c::r=>if c.toNat=34 then some (out,r) else match one (c::r) with
   | none=>none
   | some (x,r')=>nxtB n (out++[x]) r'
def nxt:Bytes→Option (Bytes × Bytes)
 | []=>none
 | c::r=>if c.toNat=34 then nxtB (r.length+1) [] r else none
theorem one_len {s:Bytes} {c:UInt8} {r:Bytes} (h:one s=some (c,r)):r.length<s.length:=by
 have h1:=one_inv h
 have h2:=(chr_len c).1
 rw [h1,List.length_append]
 omega
theorem nxtB_iff :∀(n:Nat) (out s x r:Bytes),s.length<n→(nxtB n out s=some (x,r) ↔∃y,x=out++y∧s=chrs y++34::r)
 | 0,_,_,_,_,h=>absurd h (Nat.not_lt_zero _)
 | n+1,out,[],x,r,h=>by
  refine ⟨fun h=>(by cases h),fun ⟨y,_,h2⟩=>?_⟩
  have:=congrArg List.length h2
  simp at this
 | n+1,out,c::s,x,r,h=>by
  unfold nxtB
  simp only
  by_cases hc:c.toNat=34
  ·rw [if_pos hc]
   have hc':c=34:=u8_eq hc
   subst hc'
   refine ⟨fun h=>?_,fun ⟨y,h1,h2⟩=>?_⟩
   ·cases h
    exact ⟨[],by simp,rfl⟩
   ·cases y with
    | nil=>
     have h2:(34:UInt8)::s=34::r:=h2
     injection h2 with _ h2
     rw [h1,h2,List.append_nil]
    | cons a y=>
     have h2:(34:UInt8)::s=chr a++chrs y++34::r:=h2
     rw [List.append_assoc] at h2
     have:=chr_app_head a (chrs y++34::r)
     rw [← h2] at this
     exact absurd rfl this
  ·rw [if_neg hc]
   cases ho:one (c::s) with
   | none=>
    refine ⟨fun h=>(by cases h),fun ⟨y,h1,h2⟩=>?_⟩
    cases y with
    | nil=>
     have h2:c::s=34::r:=h2
     injection h2 with h2
     subst h2
     exact absurd rfl hc
    | cons a y=>
     have h2:c::s=chr a++chrs y++34::r:=h2
     rw [List.append_assoc] at h2
     have:=one_iff.2 h2
     rw [ho] at this
     cases this
   | some p=>
    obtain ⟨a,r'⟩:=p
    simp only
    have hl:=one_len ho
    have ih:=nxtB_iff n (out++[a]) r' x r (by simp at h hl;omega)
    rw [ih]
    have hs:=one_inv ho
    refine ⟨fun ⟨y,h1,h2⟩=>⟨a::y,by rw [h1];simp,?_⟩,fun ⟨y,h1,h2⟩=>?_⟩
    ·rw [hs,h2]
     show _=chr a++chrs y++34::r
     rw [List.append_assoc]
    ·cases y with
     | nil=>
      have h2:c::s=34::r:=h2
      injection h2 with h2
      subst h2
      exact absurd rfl hc
     | cons b y=>
      have h2:c::s=chr b++chrs y++34::r:=h2
      rw [List.append_assoc] at h2
      have:=one_iff.2 h2
      rw [ho] at this
      cases this
      exact ⟨y,by rw [h1];simp,rfl⟩
theorem nxt_iff {s x r:Bytes}:nxt s=some (x,r)↔s=quo x++r:=by
 cases s with
 | nil=>
  refine ⟨fun h=>(by cases h),fun h=>?_⟩
  have:=congrArg List.length h
  simp [quo] at this
 | cons c s=>
  simp only [nxt,quo]
  by_cases hc:c.toNat=34
  ·have hc':c=34:=u8_eq hc
   subst hc'
   rw [if_pos hc,nxtB_iff _ _ _ _ _ (Nat.lt_succ_self _)]
   refine ⟨fun ⟨y,h1,h2⟩=>?_,fun h=>⟨x,by simp,?_⟩⟩
   ·simp only [List.nil_append] at h1
    subst h1
    rw [h2]
    simp
   ·simp only [List.cons_append,List.append_assoc,List.nil_append,List.cons.injEq,true_and] at h
    exact h
  ·rw [if_neg hc]
   refine ⟨fun h=>(by cases h),fun h=>?_⟩
   injection h with h
   subst h
   exact absurd rfl hc
def unnum (s:Bytes):Int × Int:=
 if 2000<s.length then (0,4) else
 if s.take 1=[45] then
  if (rd 10 9223372036854775808 (s.drop 1)).2=0∧(rd 10 9223372036854775808 (s.drop 1)).1=0 then (0,12) else (-((rd 10 9223372036854775808 (s.drop 1)).1:Int),(rd 10 9223372036854775808 (s.drop 1)).2)
 else (((rd 10 9223372036854775807 s).1:Int),(rd 10 9223372036854775807 s).2)
theorem rd_le (b most:Nat) (s:Bytes):(rd b most s).1≤most:=by
 unfold rd
 split
 ·exact Nat.zero_le _
 ·split
  ·exact Nat.zero_le _
  ·simp only;omega
theorem rd_err {b most:Nat} {s:Bytes} (h:(rd b most s).2≠0):(rd b most s).1=0:=by
 unfold rd at h ⊢
 split
 ·rfl
 ·rename_i h1
  rw [if_neg h1] at h
  split
  ·rfl
  ·rename_i h2
   rw [if_neg h2] at h
   exact absurd rfl h
theorem vals_mono {b:Nat} (hb:0<b) {s:Bytes} {i:Nat} :∀k,i+k≤s.length→vals b (s.take i)≤vals b (s.take (i+k))
 | 0,_=>Nat.le_refl _
 | k+1,h=>by
  have:=vals_mono hb (s:=s) (i:=i) k (by omega)
  rw [show i+(k+1)=(i+k)+1 by omega,vals_take (by omega)]
  have h3:vals b (s.take (i+k))≤vals b (s.take (i+k))*b:=Nat.le_mul_of_pos_right _ hb
  omega
theorem rd_zero {b most:Nat} (hb:0<b) {s:Bytes} (h:(rd b most s).2=0) (h0:(rd b most s).1=0):s=[48]:=by
 unfold rd at h h0
 split at h
 ·exact absurd h (by decide)
 rename_i hbad
 rw [if_neg hbad] at h0
 split at h
 ·exact absurd h (by decide)
 rename_i hm
 rw [if_neg hm] at h0
 simp only at h0
 have hbad:badn b s=false:=by simpa using hbad
 unfold badn at hbad
 simp only [Bool.or_eq_false_iff,decide_eq_false_iff_not,Bool.not_eq_false',Bool.and_eq_false_iff] at hbad
 obtain ⟨⟨hne,hok⟩,h48⟩:=hbad
 have hpos:0<s.length:=List.length_pos_iff.2 hne
 have hz:(dv b s[0]).toNat=0:=by
  have h1:=vals_mono hb (s:=s) (i:=0+1) (s.length-1) (by omega)
  rw [vals_take hpos,show 0+1+(s.length-1)=s.length by omega,List.take_length] at h1
  omega
 have hd:0≤dv b s[0]:=by
  unfold okd at hok
  rw [List.all_eq_true] at hok
  simpa using hok s[0] (List.getElem_mem hpos)
 have hs0:s[0]=48:=by
  have:=dv_inv s[0] hd
  rw [hz] at this
  exact this
 have hh:s.head?=some 48:=by rw [List.head?_eq_getElem?,List.getElem?_eq_getElem hpos,hs0]
 have hl:s.length=1:=by
  rcases h48 with h | h
  ·omega
  ·exact absurd hh h
 match s,hl with
 | [c],_=>simp at hs0;rw [hs0]
def unquo (s:Bytes):Bytes × Int:=
 if 2000<s.length then ([],4) else
 match nxt s with
 | some (x,[])=>if 400<x.length then ([],4) else (x,0)
 | _=>([],12)
def nxtR (s:Bytes):Bytes × Bytes × Bool:=match nxt s with | some (x,r)=>(x,r,true) | none=>([],[],false)
theorem take_chr {s:Bytes} {c:UInt8}:s.take (chr c).length=chr c↔one s=some (c,s.drop (chr c).length):=by
 rw [one_iff]
 refine ⟨fun h=>?_,fun h=>?_⟩
 ·have:=List.take_append_drop (chr c).length s
  rw [h] at this
  exact this.symm
 ·rw [h]
  simp
end Go.AM

namespace Go.AM
open Go
theorem dv_hexd_b :∀b:Fin 17,∀k:Fin 16,k.val<b.val→dv b.val (hexd k.val)=(k.val:Int):=by decide
theorem dv_of {b k:Nat} (hb:b≤16) (hk:k<b):dv b (hexd k)=(k:Int):=dv_hexd_b ⟨b,by omega⟩ ⟨k,by omega⟩ hk
theorem hexd_48 {k:Nat} (hk:k<16) (h:hexd k=48):k=0:=by
 have h1:=dv_of (b:=16) (Nat.le_refl _) hk
 rw [h] at h1
 have h2:dv 16 48=0:=rfl
 omega
theorem vals_snoc (b:Nat) (s:Bytes) (c:UInt8):vals b (s++[c])=vals b s*b+(dv b c).toNat:=by
 unfold vals
 rw [List.foldl_append]
 rfl
theorem okd_snoc (b:Nat) (s:Bytes) (c:UInt8):okd b (s++[c])=(okd b s&&decide (0≤dv b c)):=by
 unfold okd
 rw [List.all_append]
 simp
theorem ds_read {b:Nat} (hb:2≤b) (hb':b≤16) :∀f n,n<b ^ f→0<f→vals b (ds b f n)=n∧okd b (ds b f n)=true∧ds b f n≠[]∧((ds b f n).head?=some 48→n=0)∧(n=0→ds b f n=[48])
 | 0,_,_,h=>absurd h (Nat.lt_irrefl _)
 | f+1,n,h,_=>by
  unfold ds
  by_cases hn:n<b
  ·rw [if_pos hn]
   have hd:=dv_of hb' hn
   refine ⟨?_,?_,by simp,fun h1=>?_,fun h1=>by subst h1;rfl⟩
   ·show 0*b+(dv b (hexd n)).toNat=n
    omega
   ·show (decide (0≤dv b (hexd n))&&true)=true
    rw [hd]
    simp
   ·simp at h1
    exact hexd_48 (by omega) h1
  ·rw [if_neg hn]
   have h1:n / b<b ^ f:=by
    rw [Nat.div_lt_iff_lt_mul (by omega)]
    rw [Nat.pow_succ] at h
    exact h
   have h2:0<f:=by
    rcases Nat.eq_zero_or_pos f with rfl | h
    ·simp at h1
     have:=Nat.div_pos (show b≤n by omega) (by omega)
     omega
    ·exact h
   obtain ⟨i1,i2,i3,i4,i5⟩:=ds_read hb hb' f (n / b) h1 h2
   have hr:n % b<b:=Nat.mod_lt _ (by omega)
   have hd:=dv_of hb' hr
   have hq:=Nat.div_pos (show b≤n by omega) (show 0<b by omega)
   refine ⟨?_,?_,by simp,fun h3=>?_,fun h3=>absurd h3 (by omega)⟩
   ·rw [vals_snoc,i1,hd]
    have:=Nat.div_add_mod n b
    rw [Nat.mul_comm] at this
    omega
   ·rw [okd_snoc,i2,hd,Bool.true_and]
    exact decide_eq_true (Int.natCast_nonneg _)
   ·rw [List.head?_append] at h3
    cases hh:(ds b f (n / b)).head? with
    | none=>exact absurd (List.head?_eq_none_iff.1 hh) i3
    | some c=>
     rw [hh] at h3
     simp at h3
     subst h3
     have:=i4 hh
     omega
theorem pow64 {b n:Nat} (hb:2≤b) (hn:n<18446744073709551616):n<b ^ 64:=
 Nat.lt_of_lt_of_le hn (Nat.pow_le_pow_left hb 64)
theorem rd_digs {b most n:Nat} (hb:2≤b) (hb':b≤16) (hn:n<18446744073709551616) (hm:n≤most):rd b most (digs b n)=(n,0):=by
 obtain ⟨h1,h2,h3,h4,h5⟩:=ds_read hb hb' 64 n (pow64 hb hn) (by omega)
 have hbad:badn b (digs b n)=false:=by
  unfold badn digs
  rw [decide_eq_false h3,h2]
  simp only [Bool.false_or,Bool.not_true]
  by_cases h6:(ds b 64 n).head?=some 48
  ·rw [h5 (h4 h6)]
   rfl
  ·rw [decide_eq_false h6,Bool.and_false]
 unfold rd
 rw [if_neg (by rw [hbad];decide)]
 unfold digs
 rw [h1,if_neg (by omega)]
theorem unnum_num {n:Int} (h1:-9223372036854775808≤n) (h2:n<9223372036854775808):unnum (num n)=(n,0):=by
 have hl:(num n).length≤65:=by
  unfold num
  split
  ·have:=ds_len 10 64 (-n).toNat
   simp only [digs,List.length_cons];omega
  ·have:=ds_len 10 64 n.toNat
   simp only [digs];omega
 unfold unnum
 rw [if_neg (by omega)]
 by_cases hn:n<0
 ·have e:num n=45::digs 10 (-n).toNat:=by unfold num;rw [if_pos hn]
  have hr:=rd_digs (b:=10) (most:=9223372036854775808) (n:=(-n).toNat) (by omega) (by omega) (by omega) (by omega)
  rw [e,if_pos (show List.take 1 (45::digs 10 (-n).toNat)=[45] from rfl),List.drop_succ_cons,List.drop_zero,hr,if_neg (by simp only;omega)]
  simp only [Prod.mk.injEq,and_true]
  omega
 ·have e:num n=digs 10 n.toNat:=by unfold num;rw [if_neg hn]
  have hr:=rd_digs (b:=10) (most:=9223372036854775807) (n:=n.toNat) (by omega) (by omega) (by omega) (by omega)
  have h45:¬ (digs 10 n.toNat).take 1=[45]:=by
   intro h
   obtain ⟨_,k2,k3,_⟩:=ds_read (b:=10) (by omega) (by omega) 64 n.toNat (pow64 (by omega) (by omega)) (by omega)
   unfold digs at h
   cases hd:ds 10 64 n.toNat with
   | nil=>exact k3 hd
   | cons c r=>
    rw [hd] at h k2
    simp at h
    subst h
    unfold okd at k2
    simp only [List.all_cons,Bool.and_eq_true,decide_eq_true_eq] at k2
    exact absurd k2.1 (by decide)
  rw [e,if_neg h45,hr]
  simp only [Prod.mk.injEq,and_true]
  omega
theorem unquo_quo {s:Bytes} (hs:s.length≤400):unquo (quo s)=(s,0):=by
 have hl:=quo_len s
 unfold unquo
 rw [if_neg (by omega),nxt_iff.2 (show quo s=quo s++[] by simp)]
 simp only
 rw [if_neg (by omega)]
end Go.AM

namespace Go.AM
open Go
theorem loop_inv {α:Type} {P:α→Int→Prop} (A:Nat→α) (n:Nat) (I:Nat→Prop) (h0:I 0) (h1:I n→P (A n) (n:Int)) (h2 :∀i:Nat,i<n→I i→(I (i+1)→P (A (i+1)) ((i+1:Nat):Int))→P (A i) (i:Int)):P (A 0) 0:=by
 have key :∀m i:Nat,i+m=n→I i→P (A i) (i:Int):=by
  intro m
  induction m with
  | zero=>intro i hi h;simp only [Nat.add_zero] at hi;subst hi;exact h1 h
  | succ m ih=>intro i hi h;exact h2 i (by omega) h fun h'=>ih (i+1) (by omega) h'
 exact key n 0 (by omega) h0
theorem loop_inv0 {P:Int→Prop} (n:Nat) (I:Nat→Prop) (h0:I 0) (h1:I n→P (n:Int)) (h2 :∀i:Nat,i<n→I i→(I (i+1)→P ((i+1:Nat):Int))→P (i:Int)):P 0:=
 loop_inv (P:=fun _ i=>P i) (fun _=>()) n I h0 h1 h2
theorem get_at {α:Type} {l:List α} {i:Nat} (h:i<l.length):l[((i:Int)).toNat]?=some l[i]:=by rw [toNat_cast,List.getElem?_eq_getElem h]
abbrev vz:Val:=Val.mk 0 0 [] [] false
theorem Val.eta (v:Val):v=Val.mk v.kind v.int v.text v.list v.cut:=by cases v;rfl
@[simp] theorem Val.kind_mk (k n:Int) (s:Bytes) (l:List Val) (c:Bool):(Val.mk k n s l c).kind=k:=rfl
@[simp] theorem Val.int_mk (k n:Int) (s:Bytes) (l:List Val) (c:Bool):(Val.mk k n s l c).int=n:=rfl
@[simp] theorem Val.text_mk (k n:Int) (s:Bytes) (l:List Val) (c:Bool):(Val.mk k n s l c).text=s:=rfl
@[simp] theorem Val.list_mk (k n:Int) (s:Bytes) (l:List Val) (c:Bool):(Val.mk k n s l c).list=l:=rfl
@[simp] theorem Val.cut_mk (k n:Int) (s:Bytes) (l:List Val) (c:Bool):(Val.mk k n s l c).cut=c:=rfl
inductive Wf:Val→Prop
 | mk {k n:Int} {s:Bytes} {l:List Val} {c:Bool} (hk:0≤k∧k<256) (hn:-9223372036854775808≤n∧n<9223372036854775808) (hl:l.length≤9223372036854775807) (h :∀x∈l,Wf x):Wf (.mk k n s l c)
theorem Wf.k {v:Val} (h:Wf v):0≤v.kind∧v.kind<256:=by cases h;assumption
theorem Wf.n {v:Val} (h:Wf v):-9223372036854775808≤v.int∧v.int<9223372036854775808:=by cases h;assumption
theorem Wf.l {v:Val} (h:Wf v):v.list.length≤9223372036854775807:=by cases h;assumption
theorem Wf.e {v:Val} (h:Wf v) :∀x∈v.list,Wf x:=by cases h;assumption
mutual
def Val.nodes:Val→Nat
 | .mk _ _ _ l _=>1+Val.nodesL l
def Val.nodesL:List Val→Nat
 | []=>0
 | v::l=>Val.nodes v+Val.nodesL l
end
theorem nodes_eq (v:Val):v.nodes=1+Val.nodesL v.list:=by cases v;rw [Val.nodes];rfl
theorem nodesL_app :∀l m:List Val,Val.nodesL (l++m)=Val.nodesL l+Val.nodesL m
 | [],m=>by simp [Val.nodesL]
 | v::l,m=>by rw [List.cons_append,Val.nodesL,Val.nodesL,nodesL_app l m];omega
theorem nodesL_take {l:List Val} {i:Nat} (h:i<l.length):Val.nodesL (l.take (i+1))=Val.nodesL (l.take i)+l[i].nodes:=by
 rw [List.take_succ_eq_append_getElem h,nodesL_app,Val.nodesL,Val.nodesL];rfl
theorem nodesL_le {l:List Val} (i:Nat):Val.nodesL (l.take i)≤Val.nodesL l:=by
 have:=nodesL_app (l.take i) (l.drop i)
 rw [List.take_append_drop] at this
 omega
theorem nodes_pos (v:Val):1≤v.nodes:=by rw [nodes_eq];omega
theorem nodes_mem {l:List Val} {v:Val} (h:v∈l):v.nodes≤Val.nodesL l:=by
 obtain ⟨i,hi,rfl⟩:=List.getElem_of_mem h
 have h1:=nodesL_take hi
 have h2:=nodesL_le (l:=l) (i+1)
 omega
mutual
/-- The number that the reference counts. -/
def rN:Val→Nat
 | .mk _ _ _ l _=>rNs l 1
def rNs:List Val→Nat→Nat
 | [],n=>n
 | v::l,n=>if n≤5000 then rNs l (n+rN v) else n
end
theorem rN_eq (v:Val):rN v=rNs v.list 1:=by cases v;rw [rN];rfl
def Sm:Nat→Val→Prop
 | 0,_=>False
 | d+1,v=>v.list.length≤400∧∀x∈v.list,Sm d x
theorem rNs_le {B:Nat} :∀(l:List Val) (n:Nat),n≤5000+B→(∀x∈l,rN x≤B)→rNs l n≤5000+B
 | [],n,hn,_=>by rw [rNs];exact hn
 | v::l,n,hn,h=>by
  rw [rNs]
  split
  ·exact rNs_le l _ (by have:=h v List.mem_cons_self;omega) fun x hx=>h x (List.mem_cons_of_mem _ hx)
  ·exact hn
theorem rN_le :∀{d:Nat} {v:Val},Sm d v→rN v≤5001*d
 | 0,v,h=>h.elim
 | d+1,v,h=>by
  rw [rN_eq]
  have:=rNs_le (B:=5001*d) v.list 1 (by omega) fun x hx=>rN_le (h.2 x hx)
  omega
mutual
theorem rN_spec :∀v:Val,(v.nodes≤5000→rN v=v.nodes)∧(5000<v.nodes→5000<rN v)
 | .mk k n s l c=>by
  rw [rN,Val.nodes]
  have:=rNs_spec l 1 (by omega)
  exact this
theorem rNs_spec :∀(l:List Val) (n:Nat),n≤5000→(n+Val.nodesL l≤5000→rNs l n=n+Val.nodesL l)∧(5000<n+Val.nodesL l→5000<rNs l n)
 | [],n,hn=>by rw [rNs,Val.nodesL];omega
 | v::l,n,hn=>by
  rw [rNs,Val.nodesL,if_pos hn]
  obtain ⟨h1,h2⟩:=rN_spec v
  by_cases h:n+rN v≤5000
  ·obtain ⟨h3,h4⟩:=rNs_spec l (n+rN v) h
   have hv:v.nodes≤5000:=by
    rcases Nat.lt_or_ge 5000 v.nodes with h5 | h5
    ·have:=h2 h5;omega
    ·exact h5
   have:=h1 hv
   omega
  ·have h5:rNs l (n+rN v)=n+rN v:=by
    cases l with
    | nil=>rw [rNs]
    | cons w l=>rw [rNs,if_neg h]
   rw [h5]
   have:=nodes_pos v
   rcases Nat.lt_or_ge 5000 v.nodes with h6 | h6
   ·have:=h2 h6
    omega
   ·have:=h1 h6
    omega
end
def deepv:Nat→Val→Bool
 | 0,_=>true
 | d+1,v=>decide (100<v.text.length)||decide (400<v.list.length)||v.list.any (deepv d)
def greatv (v:Val):Bool:=deepv 14 v||decide (400<rN v)
theorem deepv_sm :∀{d:Nat} {v:Val},deepv d v=false→Sm d v
 | 0,v,h=>by cases h
 | d+1,v,h=>by
  simp only [deepv,Bool.or_eq_false_iff,decide_eq_false_iff_not,List.any_eq_false] at h
  exact ⟨by omega,fun x hx=>deepv_sm (by simpa using h.2 x hx)⟩
def Okh (k n:Int) (tl ll c:Nat):Prop:=
 (k=1∧ll=0∧c=0∧tl=0∧(n=0∨n=1))∨(k=2∧ll=0∧c=0∧tl=0)∨(k=3∧ll=0∧c=0∧n=0∧tl≤64)∨
 (k=4∧n=0∧tl=0∧ll≤1∧(c=0∨ll=0))∨(k=5∧n=0∧tl=0∧ll≤8∧c=0)∨(k=6∧n=0∧tl=0∧ll≤16∧1≤ll∧c=0)∨(k=7∧n=0∧tl=0∧ll≤16∧(c=0∨ll=0))
instance (k n:Int) (tl ll c:Nat):Decidable (Okh k n tl ll c):=by unfold Okh;infer_instance
abbrev Val.okh (v:Val):Prop:=Okh v.kind v.int v.text.length v.list.length v.cut.toNat
def okv:Nat→Val→Bool
 | 0,_=>false
 | d+1,v=>decide v.okh&&v.list.all (okv d)
theorem okv_head {d:Nat} {v:Val} (h:okv d v=true):v.okh:=by
 cases d with
 | zero=>cases h
 | succ d=>simp only [okv,Bool.and_eq_true,decide_eq_true_eq] at h;exact h.1
theorem okv_sub {d:Nat} {v:Val} (h:okv (d+1) v=true) :∀x∈v.list,okv d x=true:=by
 simp only [okv,Bool.and_eq_true,List.all_eq_true] at h
 exact h.2
theorem okv_sm :∀{d:Nat} {v:Val},okv d v=true→Sm d v
 | 0,v,h=>by cases h
 | d+1,v,h=>by
  have h1:=okv_head h
  refine ⟨?_,fun x hx=>okv_sm (okv_sub h x hx)⟩
  unfold Val.okh Okh at h1
  omega
def fine (v:Val):Bool:=okv 130 v&&decide (v.nodes≤5000)
def cntR (d:Nat) (v:Val):Int × Bool:=if okv d v=true∧v.nodes≤5000 then ((v.nodes:Int),true) else (0,false)
def chkR (v:Val):Int:=if fine v=true then 0 else 8
def tTrue:Bytes:=[116,114,117,101]
def tFalse:Bytes:=[102,97,108,115,101]
def tNil:Bytes:=[110,105,108]
def tCutP:Bytes:=[38,46,46,46]
def tCutS:Bytes:=[60,46,46,46,62]
mutual
def txt:Val→Bytes
 | .mk k n s l c=>if k=1 then (if n=1 then tTrue else tFalse) else if k=2 then num n else if k=3 then quo s else
   if k=5 then 123::(txts l++[125]) else if k=6 then 91::(txts l++[93]) else if k=7 then (if c=true then tCutS else 60::(txts l++[62])) else
   if c=true then tCutP else if l.length=0 then tNil else 38::txts l
def txts:List Val→Bytes
 | []=>[]
 | v::l=>txt v++txtl l
def txtl:List Val→Bytes
 | []=>[]
 | v::l=>44::32::(txt v++txtl l)
end
theorem txt_eq (v:Val):txt v=if v.kind=1 then (if v.int=1 then tTrue else tFalse) else if v.kind=2 then num v.int else if v.kind=3 then quo v.text else
   if v.kind=5 then 123::(txts v.list++[125]) else if v.kind=6 then 91::(txts v.list++[93]) else if v.kind=7 then (if v.cut=true then tCutS else 60::(txts v.list++[62])) else
   if v.cut=true then tCutP else if v.list.length=0 then tNil else 38::txts v.list:=by cases v;rw [txt];rfl
theorem txtl_app :∀l m:List Val,txtl (l++m)=txtl l++txtl m
 | [],m=>by simp [txtl]
 | v::l,m=>by rw [List.cons_append,txtl,txtl,txtl_app l m];simp
theorem txts_snoc (l:List Val) (v:Val):txts (l++[v])=txts l++(if l.length>0 then [44,32] else [])++txt v:=by
 cases l with
 | nil=>simp [txts,txtl]
 | cons a l=>simp [txts,txtl_app,txtl]
theorem txts_take {l:List Val} {i:Nat} (h:i<l.length):txts (l.take (i+1))=txts (l.take i)++(if i>0 then [44,32] else [])++txt l[i]:=by
 rw [List.take_succ_eq_append_getElem h,txts_snoc]
 congr 2
 rw [List.length_take]
 congr 1
 rw [eq_iff_iff]
 omega
theorem txts_one (v:Val):txts [v]=txt v:=by simp [txts,txtl]
theorem num_len (n:Int):(num n).length≤65:=by
 unfold num
 split
 ·have:=ds_len 10 64 (-n).toNat;simp only [List.length_cons,digs];omega
 ·have:=ds_len 10 64 n.toNat;simp only [digs];omega
theorem txt_len :∀{d:Nat} {v:Val},okv d v=true→(txt v).length+2≤260*v.nodes
 | 0,v,h=>by cases h
 | d+1,v,h=>by
  have h1:=okv_head h
  have h2:=okv_sub h
  have hl :∀l:List Val,(∀x∈l,okv d x=true)→(txtl l).length≤260*Val.nodesL l:=by
   intro l
   induction l with
   | nil=>intro _;simp [txtl]
   | cons x l ih=>
    intro hx
    have h3:=txt_len (hx x List.mem_cons_self)
    have h4:=ih fun y hy=>hx y (List.mem_cons_of_mem _ hy)
    rw [txtl,Val.nodesL]
    simp only [List.length_cons,List.length_append]
    omega
  have hs:(txts v.list).length≤260*Val.nodesL v.list:=by
   revert h2
   cases v.list with
   | nil=>intro _;simp [txts]
   | cons x l=>
    intro hx
    have h3:=txt_len (hx x List.mem_cons_self)
    have h4:=hl l fun y hy=>hx y (List.mem_cons_of_mem _ hy)
    rw [txts,Val.nodesL]
    simp only [List.length_append]
    omega
  have h5:=num_len v.int
  have h6:=quo_len v.text
  rw [nodes_eq,txt_eq]
  unfold Val.okh Okh at h1
  repeat' split
  all_goals try simp only [tTrue,tFalse,tNil,tCutP,tCutS,List.length_cons,List.length_append,List.length_nil]
  all_goals omega
theorem fine_len {v:Val} (h:fine v=true):(txt v).length+2≤1300000:=by
 simp only [fine,Bool.and_eq_true,decide_eq_true_eq] at h
 have:=txt_len h.1
 omega
theorem digs_ne (b n:Nat):digs b n≠[]:=by
 unfold digs
 rw [show 64=63+1 from rfl,ds]
 split<;>simp
theorem num_ne (n:Int):num n≠[]:=by
 unfold num
 split
 ·simp
 ·exact digs_ne _ _
theorem txt_ne (v:Val):txt v≠[]:=by
 rw [txt_eq]
 repeat' split
 all_goals first | exact num_ne _ | simp [tTrue,tFalse,tNil,tCutP,tCutS,quo]
end Go.AM

namespace Go.AM
open Go Go.RowKit
section
variable {T:TTab}
theorem rows_mapP {α:Type} {f:α→List AV} {p:α→Prop} :∀{rows:List (List AV)},(∀r∈rows,∃x,r=f x∧p x)→∃l:List α,rows=l.map f∧∀x∈l,p x
 | [],_=>⟨[],rfl,by simp⟩
 | r::rows,h=>by
  obtain ⟨x,rfl,hx⟩:=h r List.mem_cons_self
  obtain ⟨l,rfl,hl⟩:=rows_mapP fun r hr=>h r (List.mem_cons_of_mem _ hr)
  exact ⟨x::l,rfl,fun y hy=>by rcases List.mem_cons.1 hy with rfl | hy;exact hx;exact hl y hy⟩
theorem fld_of {f t t' off:Nat} {xs:List AV} {fs:List (Nat × Nat)} {i j:TI} (hi:T t=some i) (hk:i.kind=.st fs) (h:HasC T f t xs) (hf:((t',off):Nat × Nat)∈fs) (hj:T t'=some j) :∃g,f=g+1∧HasC T g t' ((xs.drop off).take j.size):=by
 obtain ⟨g,h1,h2⟩:=h.st hi hk
 obtain ⟨j',h3,h4⟩:=h2 _ hf
 rw [hj] at h3
 cases h3
 exact ⟨g,h1,h4⟩
structure ValT (T:TTab) (t a b c d e:Nat):Prop where
 ht :∃i,T t=some i∧i.kind=.st [(a,0),(b,1),(c,2),(d,3),(e,4)]∧i.size=5
 ha :∃i,T a=some i∧i.kind=.int .u8∧i.size=1
 hb :∃i,T b=some i∧i.kind=.int .i64∧i.size=1
 hc :∃i,T c=some i∧i.kind=.str∧i.size=1
 hd :∃i,T d=some i∧i.kind=.sl t∧i.size=1
 he :∃i,T e=some i∧i.kind=.bool∧i.size=1
theorem HasC.val {t a b c d e:Nat} (V:ValT T t a b c d e) :∀(f:Nat) (xs:List AV),xs.length=5→HasC T f t xs→∃v:Val,xs=v.row∧Wf v:=by
 obtain ⟨it,ht,kt,st⟩:=V.ht
 obtain ⟨ia,ha,ka,sa⟩:=V.ha
 obtain ⟨ib,hb,kb,sb⟩:=V.hb
 obtain ⟨ic,hc,kc,sc⟩:=V.hc
 obtain ⟨id,hd,kd,sd⟩:=V.hd
 obtain ⟨ie,he,ke,se⟩:=V.he
 intro f
 induction f using Nat.strongRecOn with
 | _ f ih=>
 intro xs hl h
 obtain ⟨g,rfl,h1⟩:=fld_of ht kt h (t':=a) (off:=0) (by simp) ha
 obtain ⟨g',e',h2⟩:=fld_of ht kt h (t':=b) (off:=1) (by simp) hb;cases e'
 obtain ⟨g',e',h3⟩:=fld_of ht kt h (t':=c) (off:=2) (by simp) hc;cases e'
 obtain ⟨g',e',h4⟩:=fld_of ht kt h (t':=d) (off:=3) (by simp) hd;cases e'
 obtain ⟨g',e',h5⟩:=fld_of ht kt h (t':=e) (off:=4) (by simp) he;cases e'
 rw [sa] at h1;rw [sb] at h2;rw [sc] at h3;rw [sd] at h4;rw [se] at h5
 match xs,hl with
 | [x0,x1,x2,x3,x4],_=>
  obtain ⟨n,e1,q1⟩:=h1.int ha ka
  obtain ⟨m,e2,q2⟩:=h2.int hb kb
  obtain ⟨s,e3,q3⟩:=h3.str hc kc
  obtain ⟨g2,rows,e4,e5,q4,q5,q6⟩:=h4.sl hd kd
  obtain ⟨z,e6⟩:=h5.bool he ke
  simp at e1 e2 e3 e5 e6
  subst e1;subst e2;subst e3;subst e5;subst e6
  have hr :∀r∈rows,∃v:Val,r=v.row∧Wf v:=fun r hr=>ih g2 (by omega) r (by rw [q6 _ ht r hr,st]) (q5 r hr)
  obtain ⟨l,rfl,hl⟩:=rows_mapP hr
  refine ⟨Val.mk n m s l z,?_,.mk (u8_bd q1) (i64_bd q2) (by simpa [maxLen] using q4) hl⟩
  rw [Val.row_eq]
  rfl
end
end Go.AM

namespace Go.AM
open Go Go.RowKit
theorem u64_bd2 {n:Int} (h:IntKind.u64.min≤n∧n≤IntKind.u64.max):0≤n∧n<18446744073709551616:=by
 have h1:IntKind.u64.min=0:=rfl
 have h2:IntKind.u64.max=18446744073709551615:=rfl
 omega
def IsI (T:TTab) (k:IntKind) (t:Nat):Prop:=∃i,T t=some i∧i.kind=.int k∧i.size=1
def IsB (T:TTab) (t:Nat):Prop:=∃i,T t=some i∧i.kind=.bool∧i.size=1
def IsS (T:TTab) (t:Nat):Prop:=∃i,T t=some i∧i.kind=.str∧i.size=1
def IsL (T:TTab) (t e:Nat):Prop:=∃i,T t=some i∧i.kind=.sl e∧i.size=1
def TyVal (T:TTab) (t:Nat):Prop:=∃a b c d e,ValT T t a b c d e
def IsT (T:TTab) (t:Nat) (fs:List (Nat × Nat)) (n:Nat):Prop:=∃i,T t=some i∧i.kind=.st fs∧i.size=n
section
variable {T:TTab} {f t:Nat} {xs:List AV}
theorem HasC.isI {k:IntKind} (V:IsI T k t) (h:HasC T f t xs) :∃n,xs=[.i k n]∧k.min≤n∧n≤k.max:=by
 obtain ⟨i,h1,h2,_⟩:=V
 exact h.int h1 h2
theorem HasC.isB (V:IsB T t) (h:HasC T f t xs) :∃b,xs=[.b b]:=by
 obtain ⟨i,h1,h2,_⟩:=V
 exact h.bool h1 h2
theorem HasC.isS (V:IsS T t) (h:HasC T f t xs) :∃s,xs=[.s s]∧s.length≤maxLen:=by
 obtain ⟨i,h1,h2,_⟩:=V
 exact h.str h1 h2
theorem HasC.isL {e:Nat} (V:IsL T t e) {α:Type} {row:α→List AV} {p:α→Prop} {n:Nat} (ht :∃i,T e=some i∧i.size=n) (hp :∀g r,r.length=n→HasC T g e r→∃x,r=row x∧p x) (h:HasC T f t xs) :∃l:List α,xs=[.sl .ext (l.map row)]∧l.length≤maxLen∧∀x∈l,p x:=by
 obtain ⟨i,h1,h2,_⟩:=V
 obtain ⟨j,h3,h4⟩:=ht
 obtain ⟨g,rows,rfl,h5,h6,h7,h8⟩:=h.sl h1 h2
 obtain ⟨l,rfl,hl⟩:=rows_mapP (f:=row) (p:=p) fun r hr=>hp g r (by rw [h8 _ h3 r hr,h4]) (h7 r hr)
 exact ⟨l,h5,by simpa using h6,hl⟩
theorem HasC.isT {fs:List (Nat × Nat)} {n:Nat} (V:IsT T t fs n) (h:HasC T f t xs) :∃g,f=g+1∧∀x∈fs,∀m,(∃j,T x.1=some j∧j.size=m)→HasC T g x.1 ((xs.drop x.2).take m):=by
 obtain ⟨i,h1,h2,_⟩:=V
 obtain ⟨g,h3,h4⟩:=h.st h1 h2
 refine ⟨g,h3,fun x hx m ⟨j,h5,h6⟩=>?_⟩
 obtain ⟨j',h7,h8⟩:=h4 x hx
 rw [h5] at h7
 cases h7
 rw [← h6];exact h8
theorem szI {k:IntKind} (V:IsI T k t) :∃j,T t=some j∧j.size=1:=⟨V.choose,V.choose_spec.1,V.choose_spec.2.2⟩
theorem szB (V:IsB T t) :∃j,T t=some j∧j.size=1:=⟨V.choose,V.choose_spec.1,V.choose_spec.2.2⟩
theorem szS (V:IsS T t) :∃j,T t=some j∧j.size=1:=⟨V.choose,V.choose_spec.1,V.choose_spec.2.2⟩
theorem szL {e:Nat} (V:IsL T t e) :∃j,T t=some j∧j.size=1:=⟨V.choose,V.choose_spec.1,V.choose_spec.2.2⟩
theorem szT {fs:List (Nat × Nat)} {n:Nat} (V:IsT T t fs n) :∃j,T t=some j∧j.size=n:=⟨V.choose,V.choose_spec.1,V.choose_spec.2.2⟩
theorem szVal (V:TyVal T t) :∃j,T t=some j∧j.size=5:=by
 obtain ⟨_,_,_,_,_,⟨i,h1,_,h2⟩,_⟩:=V
 exact ⟨i,h1,h2⟩
theorem HasC.isVal (V:TyVal T t) (f:Nat) (xs:List AV) (hl:xs.length=5) (h:HasC T f t xs) :∃v:Val,xs=v.row∧Wf v:=by
 obtain ⟨_,_,_,_,_,V⟩:=V
 exact HasC.val V f xs hl h
theorem HasC.isStr (V:IsS T t) (f:Nat) (xs:List AV) (_:xs.length=1) (h:HasC T f t xs) :∃s,xs=rowS s∧s.length≤maxLen:=h.isS V
theorem ArgOk.isT {α:Type} {row:α→List AV} {p:α→Prop} {fs:List (Nat × Nat)} {n:Nat} {x:AV} (V:IsT T t fs n) (hp :∀g r,r.length=n→HasC T g t r→∃x,r=row x∧p x) (h:ArgOk T t x) :∃v:α,x=.ag (row v)∧p v:=by
 obtain ⟨i,hi,hk,hs⟩:=V
 unfold ArgOk at h
 rw [hi] at h
 simp only [hk] at h
 obtain ⟨f,xs,rfl,h1,h2⟩:=h
 obtain ⟨v,rfl,hv⟩:=hp f xs (by rw [h1,hs]) h2
 exact ⟨v,rfl,hv⟩
end
structure WFld (x:Fld):Prop where
 name:x.name.length≤maxLen
 type:-9223372036854775808≤x.type∧x.type<9223372036854775808
def TyFld (T:TTab) (t:Nat):Prop:=∃t0 t1,IsT T t [(t0,0),(t1,1)] 2∧IsS T t0∧IsI T .i64 t1
theorem szFld {T:TTab} {t:Nat} (V:TyFld T t) :∃j,T t=some j∧j.size=2:=by
 obtain ⟨t0,t1,V,v0,v1⟩:=V
 exact szT V
theorem HasC.isFld {T:TTab} {t:Nat} (V:TyFld T t) (f:Nat) (xs:List AV) (hl:xs.length=2) (h:HasC T f t xs) :∃x:Fld,xs=x.row∧WFld x:=by
 obtain ⟨t0,t1,V,v0,v1⟩:=V
 obtain ⟨g,rfl,hh⟩:=h.isT V
 have h0:=hh (t0,0) (by simp) 1 (szS v0)
 have h1:=hh (t1,1) (by simp) 1 (szI v1)
 match xs,hl with
 | [x0,x1],_=>
  have h0:HasC T g t0 [x0]:=h0
  obtain ⟨a0,e,q0⟩:=h0.isS v0;cases e
  have h1:HasC T g t1 [x1]:=h1
  obtain ⟨a1,e,q1⟩:=h1.isI v1;cases e
  exact ⟨⟨a0,a1⟩,rfl,⟨q0,i64_bd q1⟩⟩
structure WIns (x:Ins):Prop where
 op:0≤x.op∧x.op<256
 a:-9223372036854775808≤x.a∧x.a<9223372036854775808
 b:-9223372036854775808≤x.b∧x.b<9223372036854775808
 c:-9223372036854775808≤x.c∧x.c<9223372036854775808
def TyIns (T:TTab) (t:Nat):Prop:=∃t0 t1 t2 t3,IsT T t [(t0,0),(t1,1),(t2,2),(t3,3)] 4∧IsI T .u8 t0∧IsI T .i64 t1∧IsI T .i64 t2∧IsI T .i64 t3
theorem szIns {T:TTab} {t:Nat} (V:TyIns T t) :∃j,T t=some j∧j.size=4:=by
 obtain ⟨t0,t1,t2,t3,V,v0,v1,v2,v3⟩:=V
 exact szT V
theorem HasC.isIns {T:TTab} {t:Nat} (V:TyIns T t) (f:Nat) (xs:List AV) (hl:xs.length=4) (h:HasC T f t xs) :∃x:Ins,xs=x.row∧WIns x:=by
 obtain ⟨t0,t1,t2,t3,V,v0,v1,v2,v3⟩:=V
 obtain ⟨g,rfl,hh⟩:=h.isT V
 have h0:=hh (t0,0) (by simp) 1 (szI v0)
 have h1:=hh (t1,1) (by simp) 1 (szI v1)
 have h2:=hh (t2,2) (by simp) 1 (szI v2)
 have h3:=hh (t3,3) (by simp) 1 (szI v3)
 match xs,hl with
 | [x0,x1,x2,x3],_=>
  have h0:HasC T g t0 [x0]:=h0
  obtain ⟨a0,e,q0⟩:=h0.isI v0;cases e
  have h1:HasC T g t1 [x1]:=h1
  obtain ⟨a1,e,q1⟩:=h1.isI v1;cases e
  have h2:HasC T g t2 [x2]:=h2
  obtain ⟨a2,e,q2⟩:=h2.isI v2;cases e
  have h3:HasC T g t3 [x3]:=h3
  obtain ⟨a3,e,q3⟩:=h3.isI v3;cases e
  exact ⟨⟨a0,a1,a2,a3⟩,rfl,⟨u8_bd q0,i64_bd q1,i64_bd q2,i64_bd q3⟩⟩
structure WRnn (x:Rnn):Prop where
 start:-9223372036854775808≤x.start∧x.start<9223372036854775808
 value:0≤x.value∧x.value<18446744073709551616
def TyRnn (T:TTab) (t:Nat):Prop:=∃t0 t1,IsT T t [(t0,0),(t1,1)] 2∧IsI T .i64 t0∧IsI T .u64 t1
theorem szRnn {T:TTab} {t:Nat} (V:TyRnn T t) :∃j,T t=some j∧j.size=2:=by
 obtain ⟨t0,t1,V,v0,v1⟩:=V
 exact szT V
theorem HasC.isRnn {T:TTab} {t:Nat} (V:TyRnn T t) (f:Nat) (xs:List AV) (hl:xs.length=2) (h:HasC T f t xs) :∃x:Rnn,xs=x.row∧WRnn x:=by
 obtain ⟨t0,t1,V,v0,v1⟩:=V
 obtain ⟨g,rfl,hh⟩:=h.isT V
 have h0:=hh (t0,0) (by simp) 1 (szI v0)
 have h1:=hh (t1,1) (by simp) 1 (szI v1)
 match xs,hl with
 | [x0,x1],_=>
  have h0:HasC T g t0 [x0]:=h0
  obtain ⟨a0,e,q0⟩:=h0.isI v0;cases e
  have h1:HasC T g t1 [x1]:=h1
  obtain ⟨a1,e,q1⟩:=h1.isI v1;cases e
  exact ⟨⟨a0,a1⟩,rfl,⟨i64_bd q0,u64_bd2 q1⟩⟩
structure WTyp (x:Typ):Prop where
 kind:0≤x.kind∧x.kind<256
 elem:-9223372036854775808≤x.elem∧x.elem<9223372036854775808
 len:-9223372036854775808≤x.len∧x.len<9223372036854775808
 fields:x.fields.length≤maxLen∧∀y∈x.fields,WFld y
def TyTyp (T:TTab) (t:Nat):Prop:=∃t0 t1 t2 t3 e3,IsT T t [(t0,0),(t1,1),(t2,2),(t3,3)] 4∧IsI T .u8 t0∧IsI T .i64 t1∧IsI T .i64 t2∧IsL T t3 e3∧TyFld T e3
theorem szTyp {T:TTab} {t:Nat} (V:TyTyp T t) :∃j,T t=some j∧j.size=4:=by
 obtain ⟨t0,t1,t2,t3,e3,V,v0,v1,v2,v3,w3⟩:=V
 exact szT V
theorem HasC.isTyp {T:TTab} {t:Nat} (V:TyTyp T t) (f:Nat) (xs:List AV) (hl:xs.length=4) (h:HasC T f t xs) :∃x:Typ,xs=x.row∧WTyp x:=by
 obtain ⟨t0,t1,t2,t3,e3,V,v0,v1,v2,v3,w3⟩:=V
 obtain ⟨g,rfl,hh⟩:=h.isT V
 have h0:=hh (t0,0) (by simp) 1 (szI v0)
 have h1:=hh (t1,1) (by simp) 1 (szI v1)
 have h2:=hh (t2,2) (by simp) 1 (szI v2)
 have h3:=hh (t3,3) (by simp) 1 (szL v3)
 match xs,hl with
 | [x0,x1,x2,x3],_=>
  have h0:HasC T g t0 [x0]:=h0
  obtain ⟨a0,e,q0⟩:=h0.isI v0;cases e
  have h1:HasC T g t1 [x1]:=h1
  obtain ⟨a1,e,q1⟩:=h1.isI v1;cases e
  have h2:HasC T g t2 [x2]:=h2
  obtain ⟨a2,e,q2⟩:=h2.isI v2;cases e
  have h3:HasC T g t3 [x3]:=h3
  obtain ⟨a3,e,q3⟩:=h3.isL v3 (szFld w3) (HasC.isFld w3);cases e
  exact ⟨⟨a0,a1,a2,a3⟩,rfl,⟨u8_bd q0,i64_bd q1,i64_bd q2,q3⟩⟩
structure WFun (x:Fun):Prop where
 name:x.name.length≤maxLen
 params:-9223372036854775808≤x.params∧x.params<9223372036854775808
 result:-9223372036854775808≤x.result∧x.result<9223372036854775808
 slots:x.slots.length≤maxLen∧∀y∈x.slots,WFld y
 code:x.code.length≤maxLen∧∀y∈x.code,WIns y
 sizes:x.sizes.length≤maxLen∧∀y∈x.sizes,WRnn y
 lives:x.lives.length≤maxLen∧∀y∈x.lives,WRnn y
def TyFun (T:TTab) (t:Nat):Prop:=∃t0 t1 t2 t3 t4 t5 t6 e3 e4 e5 e6,IsT T t [(t0,0),(t1,1),(t2,2),(t3,3),(t4,4),(t5,5),(t6,6)] 7∧IsS T t0∧IsI T .i64 t1∧IsI T .i64 t2∧IsL T t3 e3∧TyFld T e3∧IsL T t4 e4∧TyIns T e4∧IsL T t5 e5∧TyRnn T e5∧IsL T t6 e6∧TyRnn T e6
theorem szFun {T:TTab} {t:Nat} (V:TyFun T t) :∃j,T t=some j∧j.size=7:=by
 obtain ⟨t0,t1,t2,t3,t4,t5,t6,e3,e4,e5,e6,V,v0,v1,v2,v3,w3,v4,w4,v5,w5,v6,w6⟩:=V
 exact szT V
theorem HasC.isFun {T:TTab} {t:Nat} (V:TyFun T t) (f:Nat) (xs:List AV) (hl:xs.length=7) (h:HasC T f t xs) :∃x:Fun,xs=x.row∧WFun x:=by
 obtain ⟨t0,t1,t2,t3,t4,t5,t6,e3,e4,e5,e6,V,v0,v1,v2,v3,w3,v4,w4,v5,w5,v6,w6⟩:=V
 obtain ⟨g,rfl,hh⟩:=h.isT V
 have h0:=hh (t0,0) (by simp) 1 (szS v0)
 have h1:=hh (t1,1) (by simp) 1 (szI v1)
 have h2:=hh (t2,2) (by simp) 1 (szI v2)
 have h3:=hh (t3,3) (by simp) 1 (szL v3)
 have h4:=hh (t4,4) (by simp) 1 (szL v4)
 have h5:=hh (t5,5) (by simp) 1 (szL v5)
 have h6:=hh (t6,6) (by simp) 1 (szL v6)
 match xs,hl with
 | [x0,x1,x2,x3,x4,x5,x6],_=>
  have h0:HasC T g t0 [x0]:=h0
  obtain ⟨a0,e,q0⟩:=h0.isS v0;cases e
  have h1:HasC T g t1 [x1]:=h1
  obtain ⟨a1,e,q1⟩:=h1.isI v1;cases e
  have h2:HasC T g t2 [x2]:=h2
  obtain ⟨a2,e,q2⟩:=h2.isI v2;cases e
  have h3:HasC T g t3 [x3]:=h3
  obtain ⟨a3,e,q3⟩:=h3.isL v3 (szFld w3) (HasC.isFld w3);cases e
  have h4:HasC T g t4 [x4]:=h4
  obtain ⟨a4,e,q4⟩:=h4.isL v4 (szIns w4) (HasC.isIns w4);cases e
  have h5:HasC T g t5 [x5]:=h5
  obtain ⟨a5,e,q5⟩:=h5.isL v5 (szRnn w5) (HasC.isRnn w5);cases e
  have h6:HasC T g t6 [x6]:=h6
  obtain ⟨a6,e,q6⟩:=h6.isL v6 (szRnn w6) (HasC.isRnn w6);cases e
  exact ⟨⟨a0,a1,a2,a3,a4,a5,a6⟩,rfl,⟨q0,i64_bd q1,i64_bd q2,q3,q4,q5,q6⟩⟩
structure WImg (x:Img):Prop where
 types:x.types.length≤maxLen∧∀y∈x.types,WTyp y
 texts:x.texts.length≤maxLen∧∀s∈x.texts,s.length≤maxLen
 funcs:x.funcs.length≤maxLen∧∀y∈x.funcs,WFun y
def TyImg (T:TTab) (t:Nat):Prop:=∃t0 t1 t2 e0 e1 e2,IsT T t [(t0,0),(t1,1),(t2,2)] 3∧IsL T t0 e0∧TyTyp T e0∧IsL T t1 e1∧IsS T e1∧IsL T t2 e2∧TyFun T e2
theorem HasC.isImg {T:TTab} {t:Nat} (V:TyImg T t) (f:Nat) (xs:List AV) (hl:xs.length=3) (h:HasC T f t xs) :∃x:Img,xs=x.row∧WImg x:=by
 obtain ⟨t0,t1,t2,e0,e1,e2,V,v0,w0,v1,w1,v2,w2⟩:=V
 obtain ⟨g,rfl,hh⟩:=h.isT V
 have h0:=hh (t0,0) (by simp) 1 (szL v0)
 have h1:=hh (t1,1) (by simp) 1 (szL v1)
 have h2:=hh (t2,2) (by simp) 1 (szL v2)
 match xs,hl with
 | [x0,x1,x2],_=>
  have h0:HasC T g t0 [x0]:=h0
  obtain ⟨a0,e,q0⟩:=h0.isL v0 (szTyp w0) (HasC.isTyp w0);cases e
  have h1:HasC T g t1 [x1]:=h1
  obtain ⟨a1,e,q1⟩:=h1.isL v1 (szS w1) (HasC.isStr w1);cases e
  have h2:HasC T g t2 [x2]:=h2
  obtain ⟨a2,e,q2⟩:=h2.isL v2 (szFun w2) (HasC.isFun w2);cases e
  exact ⟨⟨a0,a1,a2⟩,rfl,⟨q0,q1,q2⟩⟩
theorem ArgOk.isImg {T:TTab} {t:Nat} {x:AV} (V:TyImg T t) (h:ArgOk T t x) :∃v:Img,x=v.av∧WImg v:=by
 have V0:=V
 obtain ⟨t0,t1,t2,e0,e1,e2,V,v0,w0,v1,w1,v2,w2⟩:=V0
 exact ArgOk.isT V (HasC.isImg ‹TyImg T t›) h
structure WLoc (x:Loc):Prop where
 slot:-9223372036854775808≤x.slot∧x.slot<9223372036854775808
 value:Wf x.value
def TyLoc (T:TTab) (t:Nat):Prop:=∃t0 t1,IsT T t [(t0,0),(t1,1)] 6∧IsI T .i64 t0∧TyVal T t1
theorem szLoc {T:TTab} {t:Nat} (V:TyLoc T t) :∃j,T t=some j∧j.size=6:=by
 obtain ⟨t0,t1,V,v0,v1⟩:=V
 exact szT V
theorem HasC.isLoc {T:TTab} {t:Nat} (V:TyLoc T t) (f:Nat) (xs:List AV) (hl:xs.length=6) (h:HasC T f t xs) :∃x:Loc,xs=x.row∧WLoc x:=by
 obtain ⟨t0,t1,V,v0,v1⟩:=V
 obtain ⟨g,rfl,hh⟩:=h.isT V
 have h0:=hh (t0,0) (by simp) 1 (szI v0)
 have h1:=hh (t1,1) (by simp) 5 (szVal v1)
 match xs,hl with
 | [x0,x1,x2,x3,x4,x5],_=>
  have h0:HasC T g t0 [x0]:=h0
  obtain ⟨a0,e,q0⟩:=h0.isI v0;cases e
  have h1:HasC T g t1 [x1,x2,x3,x4,x5]:=h1
  obtain ⟨a1,e,q1⟩:=HasC.isVal v1 g _ rfl h1;rw [Val.row_eq] at e;cases e
  exact ⟨⟨a0,a1⟩,rfl,⟨i64_bd q0,q1⟩⟩
structure WFrm (x:Frm):Prop where
 func:-9223372036854775808≤x.func∧x.func<9223372036854775808
 pos:-9223372036854775808≤x.pos∧x.pos<9223372036854775808
 mode:0≤x.mode∧x.mode<18446744073709551616
 locals:x.locals.length≤maxLen∧∀y∈x.locals,WLoc y
def TyFrm (T:TTab) (t:Nat):Prop:=∃t0 t1 t2 t3 e3,IsT T t [(t0,0),(t1,1),(t2,2),(t3,3)] 4∧IsI T .i64 t0∧IsI T .i64 t1∧IsI T .u64 t2∧IsL T t3 e3∧TyLoc T e3
theorem szFrm {T:TTab} {t:Nat} (V:TyFrm T t) :∃j,T t=some j∧j.size=4:=by
 obtain ⟨t0,t1,t2,t3,e3,V,v0,v1,v2,v3,w3⟩:=V
 exact szT V
theorem HasC.isFrm {T:TTab} {t:Nat} (V:TyFrm T t) (f:Nat) (xs:List AV) (hl:xs.length=4) (h:HasC T f t xs) :∃x:Frm,xs=x.row∧WFrm x:=by
 obtain ⟨t0,t1,t2,t3,e3,V,v0,v1,v2,v3,w3⟩:=V
 obtain ⟨g,rfl,hh⟩:=h.isT V
 have h0:=hh (t0,0) (by simp) 1 (szI v0)
 have h1:=hh (t1,1) (by simp) 1 (szI v1)
 have h2:=hh (t2,2) (by simp) 1 (szI v2)
 have h3:=hh (t3,3) (by simp) 1 (szL v3)
 match xs,hl with
 | [x0,x1,x2,x3],_=>
  have h0:HasC T g t0 [x0]:=h0
  obtain ⟨a0,e,q0⟩:=h0.isI v0;cases e
  have h1:HasC T g t1 [x1]:=h1
  obtain ⟨a1,e,q1⟩:=h1.isI v1;cases e
  have h2:HasC T g t2 [x2]:=h2
  obtain ⟨a2,e,q2⟩:=h2.isI v2;cases e
  have h3:HasC T g t3 [x3]:=h3
  obtain ⟨a3,e,q3⟩:=h3.isL v3 (szLoc w3) (HasC.isLoc w3);cases e
  exact ⟨⟨a0,a1,a2,a3⟩,rfl,⟨i64_bd q0,i64_bd q1,u64_bd2 q2,q3⟩⟩
structure WPan (x:Pan):Prop where
 tag:0≤x.tag∧x.tag<18446744073709551616
 value:Wf x.value
 flags:0≤x.flags∧x.flags<18446744073709551616
def TyPan (T:TTab) (t:Nat):Prop:=∃t0 t1 t2,IsT T t [(t0,0),(t1,1),(t2,6)] 7∧IsI T .u64 t0∧TyVal T t1∧IsI T .u64 t2
theorem szPan {T:TTab} {t:Nat} (V:TyPan T t) :∃j,T t=some j∧j.size=7:=by
 obtain ⟨t0,t1,t2,V,v0,v1,v2⟩:=V
 exact szT V
theorem HasC.isPan {T:TTab} {t:Nat} (V:TyPan T t) (f:Nat) (xs:List AV) (hl:xs.length=7) (h:HasC T f t xs) :∃x:Pan,xs=x.row∧WPan x:=by
 obtain ⟨t0,t1,t2,V,v0,v1,v2⟩:=V
 obtain ⟨g,rfl,hh⟩:=h.isT V
 have h0:=hh (t0,0) (by simp) 1 (szI v0)
 have h1:=hh (t1,1) (by simp) 5 (szVal v1)
 have h2:=hh (t2,6) (by simp) 1 (szI v2)
 match xs,hl with
 | [x0,x1,x2,x3,x4,x5,x6],_=>
  have h0:HasC T g t0 [x0]:=h0
  obtain ⟨a0,e,q0⟩:=h0.isI v0;cases e
  have h1:HasC T g t1 [x1,x2,x3,x4,x5]:=h1
  obtain ⟨a1,e,q1⟩:=HasC.isVal v1 g _ rfl h1;rw [Val.row_eq] at e;cases e
  have h2:HasC T g t2 [x6]:=h2
  obtain ⟨a2,e,q2⟩:=h2.isI v2;cases e
  exact ⟨⟨a0,a1,a2⟩,rfl,⟨u64_bd2 q0,q1,u64_bd2 q2⟩⟩
structure WDfr (x:Dfr):Prop where
 frame:-9223372036854775808≤x.frame∧x.frame<9223372036854775808
 func:-9223372036854775808≤x.func∧x.func<9223372036854775808
 arg:Wf x.arg
def TyDfr (T:TTab) (t:Nat):Prop:=∃t0 t1 t2 t3,IsT T t [(t0,0),(t1,1),(t2,2),(t3,3)] 8∧IsI T .i64 t0∧IsI T .i64 t1∧IsB T t2∧TyVal T t3
theorem szDfr {T:TTab} {t:Nat} (V:TyDfr T t) :∃j,T t=some j∧j.size=8:=by
 obtain ⟨t0,t1,t2,t3,V,v0,v1,v2,v3⟩:=V
 exact szT V
theorem HasC.isDfr {T:TTab} {t:Nat} (V:TyDfr T t) (f:Nat) (xs:List AV) (hl:xs.length=8) (h:HasC T f t xs) :∃x:Dfr,xs=x.row∧WDfr x:=by
 obtain ⟨t0,t1,t2,t3,V,v0,v1,v2,v3⟩:=V
 obtain ⟨g,rfl,hh⟩:=h.isT V
 have h0:=hh (t0,0) (by simp) 1 (szI v0)
 have h1:=hh (t1,1) (by simp) 1 (szI v1)
 have h2:=hh (t2,2) (by simp) 1 (szB v2)
 have h3:=hh (t3,3) (by simp) 5 (szVal v3)
 match xs,hl with
 | [x0,x1,x2,x3,x4,x5,x6,x7],_=>
  have h0:HasC T g t0 [x0]:=h0
  obtain ⟨a0,e,q0⟩:=h0.isI v0;cases e
  have h1:HasC T g t1 [x1]:=h1
  obtain ⟨a1,e,q1⟩:=h1.isI v1;cases e
  have h2:HasC T g t2 [x2]:=h2
  obtain ⟨a2,e⟩:=h2.isB v2;cases e
  have h3:HasC T g t3 [x3,x4,x5,x6,x7]:=h3
  obtain ⟨a3,e,q3⟩:=HasC.isVal v3 g _ rfl h3;rw [Val.row_eq] at e;cases e
  exact ⟨⟨a0,a1,a2,a3⟩,rfl,⟨i64_bd q0,i64_bd q1,q3⟩⟩
structure WRou (x:Rou):Prop where
 status:0≤x.status∧x.status<256
 key:-9223372036854775808≤x.key∧x.key<9223372036854775808
 frames:x.frames.length≤maxLen∧∀y∈x.frames,WFrm y
 defers:x.defers.length≤maxLen∧∀y∈x.defers,WDfr y
 panics:x.panics.length≤maxLen∧∀y∈x.panics,WPan y
def TyRou (T:TTab) (t:Nat):Prop:=∃t0 t1 t2 t3 t4 e2 e3 e4,IsT T t [(t0,0),(t1,1),(t2,2),(t3,3),(t4,4)] 5∧IsI T .u8 t0∧IsI T .i64 t1∧IsL T t2 e2∧TyFrm T e2∧IsL T t3 e3∧TyDfr T e3∧IsL T t4 e4∧TyPan T e4
theorem szRou {T:TTab} {t:Nat} (V:TyRou T t) :∃j,T t=some j∧j.size=5:=by
 obtain ⟨t0,t1,t2,t3,t4,e2,e3,e4,V,v0,v1,v2,w2,v3,w3,v4,w4⟩:=V
 exact szT V
theorem HasC.isRou {T:TTab} {t:Nat} (V:TyRou T t) (f:Nat) (xs:List AV) (hl:xs.length=5) (h:HasC T f t xs) :∃x:Rou,xs=x.row∧WRou x:=by
 obtain ⟨t0,t1,t2,t3,t4,e2,e3,e4,V,v0,v1,v2,w2,v3,w3,v4,w4⟩:=V
 obtain ⟨g,rfl,hh⟩:=h.isT V
 have h0:=hh (t0,0) (by simp) 1 (szI v0)
 have h1:=hh (t1,1) (by simp) 1 (szI v1)
 have h2:=hh (t2,2) (by simp) 1 (szL v2)
 have h3:=hh (t3,3) (by simp) 1 (szL v3)
 have h4:=hh (t4,4) (by simp) 1 (szL v4)
 match xs,hl with
 | [x0,x1,x2,x3,x4],_=>
  have h0:HasC T g t0 [x0]:=h0
  obtain ⟨a0,e,q0⟩:=h0.isI v0;cases e
  have h1:HasC T g t1 [x1]:=h1
  obtain ⟨a1,e,q1⟩:=h1.isI v1;cases e
  have h2:HasC T g t2 [x2]:=h2
  obtain ⟨a2,e,q2⟩:=h2.isL v2 (szFrm w2) (HasC.isFrm w2);cases e
  have h3:HasC T g t3 [x3]:=h3
  obtain ⟨a3,e,q3⟩:=h3.isL v3 (szDfr w3) (HasC.isDfr w3);cases e
  have h4:HasC T g t4 [x4]:=h4
  obtain ⟨a4,e,q4⟩:=h4.isL v4 (szPan w4) (HasC.isPan w4);cases e
  exact ⟨⟨a0,a1,a2,a3,a4⟩,rfl,⟨u8_bd q0,i64_bd q1,q2,q3,q4⟩⟩
structure WSta (x:Sta):Prop where
 outcome:0≤x.outcome∧x.outcome<256
 failing:-9223372036854775808≤x.failing∧x.failing<9223372036854775808
 steps:-9223372036854775808≤x.steps∧x.steps<9223372036854775808
 routines:x.routines.length≤maxLen∧∀y∈x.routines,WRou y
def TySta (T:TTab) (t:Nat):Prop:=∃t0 t1 t2 t3 e3,IsT T t [(t0,0),(t1,1),(t2,2),(t3,3)] 4∧IsI T .u8 t0∧IsI T .i64 t1∧IsI T .i64 t2∧IsL T t3 e3∧TyRou T e3
theorem HasC.isSta {T:TTab} {t:Nat} (V:TySta T t) (f:Nat) (xs:List AV) (hl:xs.length=4) (h:HasC T f t xs) :∃x:Sta,xs=x.row∧WSta x:=by
 obtain ⟨t0,t1,t2,t3,e3,V,v0,v1,v2,v3,w3⟩:=V
 obtain ⟨g,rfl,hh⟩:=h.isT V
 have h0:=hh (t0,0) (by simp) 1 (szI v0)
 have h1:=hh (t1,1) (by simp) 1 (szI v1)
 have h2:=hh (t2,2) (by simp) 1 (szI v2)
 have h3:=hh (t3,3) (by simp) 1 (szL v3)
 match xs,hl with
 | [x0,x1,x2,x3],_=>
  have h0:HasC T g t0 [x0]:=h0
  obtain ⟨a0,e,q0⟩:=h0.isI v0;cases e
  have h1:HasC T g t1 [x1]:=h1
  obtain ⟨a1,e,q1⟩:=h1.isI v1;cases e
  have h2:HasC T g t2 [x2]:=h2
  obtain ⟨a2,e,q2⟩:=h2.isI v2;cases e
  have h3:HasC T g t3 [x3]:=h3
  obtain ⟨a3,e,q3⟩:=h3.isL v3 (szRou w3) (HasC.isRou w3);cases e
  exact ⟨⟨a0,a1,a2,a3⟩,rfl,⟨u8_bd q0,i64_bd q1,i64_bd q2,q3⟩⟩
theorem ArgOk.isSta {T:TTab} {t:Nat} {x:AV} (V:TySta T t) (h:ArgOk T t x) :∃v:Sta,x=v.av∧WSta v:=by
 have V0:=V
 obtain ⟨t0,t1,t2,t3,e3,V,v0,v1,v2,v3,w3⟩:=V0
 exact ArgOk.isT V (HasC.isSta ‹TySta T t›) h
structure WQry (x:Qry):Prop where
 kind:0≤x.kind∧x.kind<256
 g:-9223372036854775808≤x.g∧x.g<9223372036854775808
 k:-9223372036854775808≤x.k∧x.k<9223372036854775808
 key:-9223372036854775808≤x.key∧x.key<9223372036854775808
 name:x.name.length≤maxLen
def TyQry (T:TTab) (t:Nat):Prop:=∃t0 t1 t2 t3 t4,IsT T t [(t0,0),(t1,1),(t2,2),(t3,3),(t4,4)] 5∧IsI T .u8 t0∧IsI T .i64 t1∧IsI T .i64 t2∧IsI T .i64 t3∧IsS T t4
theorem HasC.isQry {T:TTab} {t:Nat} (V:TyQry T t) (f:Nat) (xs:List AV) (hl:xs.length=5) (h:HasC T f t xs) :∃x:Qry,xs=x.row∧WQry x:=by
 obtain ⟨t0,t1,t2,t3,t4,V,v0,v1,v2,v3,v4⟩:=V
 obtain ⟨g,rfl,hh⟩:=h.isT V
 have h0:=hh (t0,0) (by simp) 1 (szI v0)
 have h1:=hh (t1,1) (by simp) 1 (szI v1)
 have h2:=hh (t2,2) (by simp) 1 (szI v2)
 have h3:=hh (t3,3) (by simp) 1 (szI v3)
 have h4:=hh (t4,4) (by simp) 1 (szS v4)
 match xs,hl with
 | [x0,x1,x2,x3,x4],_=>
  have h0:HasC T g t0 [x0]:=h0
  obtain ⟨a0,e,q0⟩:=h0.isI v0;cases e
  have h1:HasC T g t1 [x1]:=h1
  obtain ⟨a1,e,q1⟩:=h1.isI v1;cases e
  have h2:HasC T g t2 [x2]:=h2
  obtain ⟨a2,e,q2⟩:=h2.isI v2;cases e
  have h3:HasC T g t3 [x3]:=h3
  obtain ⟨a3,e,q3⟩:=h3.isI v3;cases e
  have h4:HasC T g t4 [x4]:=h4
  obtain ⟨a4,e,q4⟩:=h4.isS v4;cases e
  exact ⟨⟨a0,a1,a2,a3,a4⟩,rfl,⟨u8_bd q0,i64_bd q1,i64_bd q2,i64_bd q3,q4⟩⟩
theorem ArgOk.isQry {T:TTab} {t:Nat} {x:AV} (V:TyQry T t) (h:ArgOk T t x) :∃v:Qry,x=v.av∧WQry v:=by
 have V0:=V
 obtain ⟨t0,t1,t2,t3,t4,V,v0,v1,v2,v3,v4⟩:=V0
 exact ArgOk.isT V (HasC.isQry ‹TyQry T t›) h
end Go.AM

/- Helpers of the packed texts of a seat (pack.py, packk). -/
namespace Go.AM
open Go
section
variable {P:Program} {X:Cx}
theorem fK {f:Nat} {F:AF} {fn:Func} (h1:P.funcs[f]?=some fn) (h2:(fn.name== "runtime.NumGoroutine")=false:=by kernel_rfl) (h3:fn.body.bind (cCode { X with fz:=F.fz } F.nt)=some F.body:=by kernel_rfl) (h4:fn.ntmps=F.nt:=by kernel_rfl) (h5:cRess X fn.results.toList=some F.res:=by kernel_rfl) (h6:Nat.ble F.res.length 4=true:=by kernel_rfl):FnOk P X f F:=FnOk.of h1 h2 h3 h4 h5 h6
theorem fS {F0:AF} {x:Option AF} {p:AF→Prop} {r:Prop} (h:x=some F0) (ok:p F0) (k:r):(∀F,x=some F→p F)∧r:=
 ⟨fun F e=>(by
  rw [h] at e
  injection e with e
  subst e
  exact ok),k⟩
theorem fN {x:Option AF} {p:AF→Prop} {r:Prop} (h:x=none) (k:r):(∀F,x=some F→p F)∧r:=
 ⟨fun F e=>(by rw [h] at e;cases e),k⟩
theorem tK {t:TypeId} {i:TI} (ti:TypeInfo) (h4:i.kind.ok P t) (h1:P.info? t=some ti:=by kernel_rfl) (h2:(Nat.beq ti.size i.size&&Nat.beq ti.bytes i.bytes)=true:=by kernel_rfl) (h3:(ti.zero.bind fun z=>if z.cells.size=i.size then cVals z.cells.toList else none)=some i.zero:=by kernel_rfl):TOk P t i:=TOk.of h1 h2 h3 h4
theorem tC {x:Nat × TI} {l:List (Nat × TI)} (h:TOk P x.1 x.2) (k :∀x∈l,TOk P x.1 x.2) :∀y∈x::l,TOk P y.1 y.2:=by
 intro y hy
 rcases List.mem_cons.1 hy with rfl | hy
 ·exact h
 ·exact k y hy
theorem tN :∀y∈([]:List (Nat × TI)),TOk P y.1 y.2:=fun _ h=>by cases h
theorem kE {t:TypeId} {d:TypeDesc} (h:P.underlying t=some d:=by kernel_rfl):P.underlying t=some d:=h
theorem kS {t:TypeId} {fs:List (Nat × Nat)} (h:((P.underlying t).bind fun d=>match d with | .struct f=>if (!P.stoodInHeld t&&!P.eqGuardType P.depth t&&f.toList.all (fun f=>!(f.name== "_")))=true then some (f.toList.map fun f=>(f.type,f.offset)) else none | _=>none)=some fs:=by kernel_rfl):TK.ok P t (.st fs):=TK.ok_st h
theorem kO {t:TypeId} (h:(match P.underlying t with | none=>false | some (.struct _)=>false | some (.array _ _)=>false | some _=>true)=true:=by kernel_rfl):TK.ok P t .other:=TK.ok_other h
end
end Go.AM

namespace Go.AM
open Go
structure Dsk where
 image:Img
 state:Sta
 query:Qry
 out:List (List UInt8)
def AppD (ow:Ows) (o:Own) (n:Nat):Prop:=
 match o with
 | .ext=>False
 | .full=>True
 | .id k v=>(lk ow k=some (v,n)∧0<n)∧midSite≤k.2∧k.2<bigSite
theorem AppD.app {ow:Ows} {o:Own} {n:Nat} (h:AppD ow o n):App ow o n:=by
 cases o with
 | ext=>exact h
 | full=>exact h
 | id k v=>exact h.1
abbrev Dsk.fix (m:Dsk):List AV:=[.sl .ext (List.map Typ.row m.image.types),.sl .ext (List.map rowS m.image.texts),.sl .ext (List.map Fun.row m.image.funcs),.i .u8 m.state.outcome,.i .i64 m.state.failing,.i .i64 m.state.steps,.sl .ext (List.map Rou.row m.state.routines),.i .u8 m.query.kind,.i .i64 m.query.g,.i .i64 m.query.k,.i .i64 m.query.key,.s m.query.name]
def Dk (m:Dsk):BC:=fun bx ow k v=>∃o,lk bx k=some (v,m.fix++[.sl o (List.map rowS m.out)])∧AppD ow o m.out.length
theorem Dk.other {m:Dsk} {bx:Bxs} {ow:Ows} {k q:Key} {v:Nat} {a:Nat × List AV} (hn:q≠k) (h:Dk m bx ow k v):Dk m (st_ bx q a) ow k v:=by
 obtain ⟨o,h1,h2⟩:=h
 exact ⟨o,by rw [lk_ne hn];exact h1,h2⟩
theorem Dk.out {m:Dsk}:Out (Dk m):=fun d bx ow k v hk ⟨o,h1,h2⟩=>⟨o,by rw [lk_out hk];exact h1,h2⟩
theorem Dk.new {m:Dsk} {bx:Bxs} {ow:Ows} {k:Key} {v:Nat} {cs:List AV} (h:lk bx k=some (v,cs)) (hc:cs=m.fix++[.sl .full (List.map rowS m.out)]):Dk m bx ow k v:=⟨.full,by rw [← hc];exact h,trivial⟩
def ApS (S:List Nat) (d:Nat) (ow:Ows) (o:Own) (n:Nat):Prop:=App ow o n∧∀k v,o=.id k v→k.1=d∧S.contains k.2=true
theorem ApS.full {S:List Nat} {d n:Nat} {ow:Ows}:ApS S d ow .full n:=⟨trivial,fun _ _ h=>by cases h⟩
def PuXF (prog:Prog) (f:Nat) (B:BC) (args:Key→Nat→List AV) (RR:AV→Prop) (B':BC):Prop:=
 ∀d (st:St) (k:Key) (v:Nat),k.1<d→B st.bx st.ow k v→∃r st',Fn prog d f (.p k v 0::args k v) st r st'∧RR r∧B' st'.bx st'.ow k v∧Fr d k st.bx st.ow st'.bx st'.ow
def PuXFK {β:Type} (prog:Prog) (f:Nat) (B:BC) (args:Key→Nat→List AV) (KK:AV→β→Prop) (B':β→BC):Prop:=
 ∀d (st:St) (k:Key) (v:Nat),k.1<d→B st.bx st.ow k v→∃r st' b,Fn prog d f (.p k v 0::args k v) st r st'∧KK r b∧B' b st'.bx st'.ow k v∧Fr d k st.bx st.ow st'.bx st'.ow
theorem PuXFK.to {β:Type} {prog:Prog} {f:Nat} {B:BC} {args:Key→Nat→List AV} {KK:AV→β→Prop} {B':β→BC} {RR:AV→Prop} {b:β} (h:PuXFK prog f B args KK B') (hk :∀r b',KK r b'→RR r∧b'=b):PuXF prog f B args RR (B' b):=by
 intro d st k v h1 h2
 obtain ⟨r,st',b',h3,h4,h5,h6⟩:=h d st k v h1 h2
 obtain ⟨h7,rfl⟩:=hk r b' h4
 exact ⟨r,st',h3,h7,h5,h6⟩
theorem PuXFK.of {β:Type} {prog:Prog} {f:Nat} {F:AF} {B:BC} {B':β→BC} {args:Key→Nat→List AV} {KK:AV→β→Prop} (hf:prog.fn f=some F) (hn :∀k v,Nat.ble ((args k v).length+1) F.nt=true) (ho :∀b,Out (B' b))
  (h :∀(d:Nat) (st:St) (k:Key) (v:Nat),k.1<d→B st.bx st.ow k v→W prog d F.body (sl0 (.p k v 0::args k v)) st fun e σ st'=>(e=.normal∨e=.ret)∧∃r b,ares σ st' F.res=some r∧KK r b∧B' b st'.bx st'.ow k v∧Fr d k st.bx st.ow st'.bx st'.ow):PuXFK prog f B args KK B':=by
 intro d st k v hk hB
 obtain ⟨r,st',h1,b,h2,h3,h4⟩:=Fn.of' (prog:=prog) (K:=fun r st'=>∃b,KK r b∧B' b st'.bx st'.ow k v∧Fr d k st.bx st.ow st'.bx st'.ow) hf (by simpa using Nat.le_of_ble_eq_true (hn k v)) ((h d st k v hk hB).mono fun e σ st' hq=>by
  obtain ⟨he,r,b,h1,h2,h3,h4⟩:=hq
  rcases he with rfl | rfl
  ·exact ⟨r,h1,b,h2,ho b d _ _ k v hk h3,h4.out⟩
  ·exact ⟨r,h1,b,h2,ho b d _ _ k v hk h3,h4.out⟩)
 exact ⟨r,st',b,h1,h2,h3,h4⟩
def PuV (prog:Prog) (f:Nat) (B:BC) (RR:AV→Prop) (B':BC):Prop:=
 ∀d (st:St) (q:Key) (u:Nat) (k:Key) (v:Nat),q.1<d→k.1<d→lk st.bx q=some (u,[.p k v 0])→B st.bx st.ow k v→∃r st',Fn prog d f [.p q u 0] st r st'∧RR r∧B' st'.bx st'.ow k v∧Fr d k st.bx st.ow st'.bx st'.ow
section
variable {prog:Prog} {d id base i:Nat} {σ:Sl} {st:St} {K:Sl→St→Prop} {r:List AI} {t:Option Nat} {x y:Opd}
theorem s_loadD {m:Dsk} {n o v:Nat} {agg:Bool} {k:Key} {w:AV} (hx:x.ev σ=.p k v o) (hB:Dk m st.bx st.ow k v) (hn:Nat.ble (o+n) 12=true) (hv:ofCells agg ((m.fix.drop o).take n)=some w) (h:WO prog d id base (i+1) r (upO σ t w) st K):WO prog d id base i (⟨t,.load n agg x,none⟩::r) σ st K:=by
 obtain ⟨q,hb,_⟩:=hB
 have hn:=Nat.le_of_ble_eq_true hn
 refine s_loadP hx hb (by rw [Nat.ble_eq];simp;omega) ?_ h
 rw [← hv,List.drop_append_of_le_length (by simp;omega),List.take_append_of_le_length (by simp;omega)]
theorem s_loadO {m:Dsk} {v:Nat} {k:Key} (hx:x.ev σ=.p k v 12) (hB:Dk m st.bx st.ow k v) (h :∀o,WO prog d id base (i+1) r (upO σ t (.sl o (List.map rowS m.out))) st K):WO prog d id base i (⟨t,.load 1 false x,none⟩::r) σ st K:=by
 obtain ⟨q,hb,_⟩:=hB
 exact s_loadP hx hb rfl rfl (h q)
theorem s_callXF {f:Nat} {args:List Opd} {vs:Key→Nat→List AV} {B B':BC} {F:AV} {k:Key} {v:Nat} (hs:evs σ args=.p k v 0::vs k v) (hp:PuXF prog f B vs (fun r=>r=F) B') (hk:k.1<d+1) (hB:B st.bx st.ow k v)
  (h :∀st':St,B' st'.bx st'.ow k v→Fr (d+1) k st.bx st.ow st'.bx st'.ow→WO prog d id base (i+1) r (upO σ t F) st' K):WO prog d id base i (⟨t,.call true f args,none⟩::r) σ st K:=by
 refine s_one ?_
 obtain ⟨r',st',h1,rfl,h3,h4⟩:=hp (d+1) st k v hk hB
 rw [WOp_callp,hs]
 exact ⟨_,_,h1,h st' h3 h4⟩
theorem s_callB {f:Nat} {args:List Opd} {vs:List AV} {B B':BC} {F:AV} {k:Key} {v:Nat} (hx:x.ev σ=.bf f [.p k v 0]) (hs:evs σ args=vs) (hp:PuX prog f B vs (fun r=>r=F) B') (hk:k.1<d+1) (hB:B st.bx st.ow k v)
  (h :∀st':St,B' st'.bx st'.ow k v→Fr (d+1) k st.bx st.ow st'.bx st'.ow→WO prog d id base (i+1) r (upO σ t F) st' K):WO prog d id base i (⟨t,.callv x args,none⟩::r) σ st K:=by
 refine s_one ?_
 obtain ⟨r',st',h1,rfl,h3,h4⟩:=hp (d+1) st k v hk hB
 show onCv (x.ev σ) (evs σ args) (fun g l=>WF prog (d+1) g l st _)
 rw [hx,hs]
 exact ⟨_,_,h1,h st' h3 h4⟩
theorem s_callVV {f:Nat} {B B':BC} {F:AV} {q k:Key} {u v:Nat} (hx:x.ev σ=.fn f [.p q u 0]) (hp:PuV prog f B (fun r=>r=F) B') (hq:q.1<d+1) (hk:k.1<d+1) (hb:lk st.bx q=some (u,[.p k v 0])) (hB:B st.bx st.ow k v)
  (h :∀st':St,B' st'.bx st'.ow k v→Fr (d+1) k st.bx st.ow st'.bx st'.ow→WO prog d id base (i+1) r (upO σ t F) st' K):WO prog d id base i (⟨t,.callv x [],none⟩::r) σ st K:=by
 refine s_one ?_
 obtain ⟨r',st',h1,rfl,h3,h4⟩:=hp (d+1) st q u k v hq hk hb hB
 show onCv (x.ev σ) (evs σ []) (fun g l=>WF prog (d+1) g l st _)
 rw [hx]
 exact ⟨_,_,h1,h st' h3 h4⟩
end
end Go.AM

/- The steps of the machine, found by a tactic (an argument's default): where the printed proof says nothing that the state does not. -/
namespace Go.AM
open Go
attribute [local irreducible] WO W
section
variable {prog:Prog} {d id base i:Nat} {σ:Sl} {st:St} {K:Sl→St→Prop} {r:List AI} {t:Option Nat} {x y:Opd} {T A B:Prop}
theorem zuE {α:Type} {p:α→Prop} {c:Prop} (h :∃a,p a) (k :∀a,p a→c):c:=h.elim k
theorem zuB {op:BinOp} {a b v:AV} (hv:abin op a b=some v) (h:WO prog d id base (i+1) r (upO σ t v) st K) (hx:x.ev σ=a:=by first | exact J | assumption) (hy:y.ev σ=b:=by first | exact J | assumption):WO prog d id base i (⟨t,.bin op x y,none⟩::r) σ st K:=s_bin hx hy hv h
theorem zucat {l m:List UInt8} (h:l.length+m.length≤maxStr∧T) (k:T→WO prog d id base (i+1) r (upO σ t (.s (l++m))) st K) (hx:x.ev σ=.s l:=by first | assumption | exact J) (hy:y.ev σ=.s m:=by first | assumption | exact J):WO prog d id base i (⟨t,.bin .add x y,none⟩::r) σ st K:=s_bin hx hy (abin_cat' h.1) (k h.2)
theorem zuq' {op:BinOp} {k':IntKind} {a b:Int} {v:AV} (hv:b≠0→abin op (.i k' a) (.i k' b)=some v) (h:b≠0∧T) (k:T→WO prog d id base (i+1) r (upO σ t v) st K) (hx:x.ev σ=.i k' a:=by first | exact J | assumption) (hy:y.ev σ=.i k' b:=by first | exact J | assumption):WO prog d id base i (⟨t,.bin op x y,none⟩::r) σ st K:=s_bin hx hy (hv h.1) (k h.2)
theorem zug {dst:Option Nat} {op:AOp} {g:Nat} {w:Bool} (h:WO prog d id base i (⟨dst,op,none⟩::r) σ st K) (hg:σ g=.b w:=by exact J):WO prog d id base i (⟨dst,op,some (g,w)⟩::r) σ st K:=s_gy hg h
theorem zus {a:AI} {v:AV} (hs:sk1 a σ=some v) (h:WO prog d id base (i+1) r (upO σ a.dst v) st K):WO prog d id base i (a::r) σ st K:=sk1_ok hs h
theorem zug1 {dst:Option Nat} {op:AOp} {g:Nat} {w:Bool} {p:Prop} [Decidable p] (h:(p→A)∧(¬p→B)) (h1:A→WO prog d id base i (⟨dst,op,some (g,w)⟩::r) (up σ g (.b true)) st K) (h2:B→WO prog d id base i (⟨dst,op,some (g,w)⟩::r) (up σ g (.b false)) st K) (hg:σ g=.b (decide p):=by first | exact J | assumption):WO prog d id base i (⟨dst,op,some (g,w)⟩::r) σ st K:=s_em hg (fun z=>h1 (h.1 z)) fun z=>h2 (h.2 z)
theorem zug2 {dst:Option Nat} {op:AOp} {g:Nat} {w:Bool} {b:Bool} (h:(b=true→A)∧(b=false→B)) (h1:A→WO prog d id base i (⟨dst,op,some (g,w)⟩::r) (up σ g (.b true)) st K) (h2:B→WO prog d id base i (⟨dst,op,some (g,w)⟩::r) (up σ g (.b false)) st K) (hg:σ g=.b b:=by first | exact J | assumption):WO prog d id base i (⟨dst,op,some (g,w)⟩::r) σ st K:=s_emb hg (fun z=>h1 (h.1 z)) fun z=>h2 (h.2 z)
theorem zup1 {dst:Option Nat} {g:Nat} {p:Prop} [Decidable p] (h:(p→A)∧(¬p→B)) (h1:A→WO prog d id base i (⟨dst,.pick (.t g) x y,none⟩::r) (up σ g (.b true)) st K) (h2:B→WO prog d id base i (⟨dst,.pick (.t g) x y,none⟩::r) (up σ g (.b false)) st K) (hg:σ g=.b (decide p):=by first | exact J | assumption):WO prog d id base i (⟨dst,.pick (.t g) x y,none⟩::r) σ st K:=s_em hg (fun z=>h1 (h.1 z)) fun z=>h2 (h.2 z)
theorem zup2 {dst:Option Nat} {g:Nat} {b:Bool} (h:(b=true→A)∧(b=false→B)) (h1:A→WO prog d id base i (⟨dst,.pick (.t g) x y,none⟩::r) (up σ g (.b true)) st K) (h2:B→WO prog d id base i (⟨dst,.pick (.t g) x y,none⟩::r) (up σ g (.b false)) st K) (hg:σ g=.b b:=by first | exact J | assumption):WO prog d id base i (⟨dst,.pick (.t g) x y,none⟩::r) σ st K:=s_emb hg (fun z=>h1 (h.1 z)) fun z=>h2 (h.2 z)
theorem zum {v:AV} (h:WO prog d id base (i+1) r (upO σ t v) st K) (hx:x.ev σ=v:=by assumption):WO prog d id base i (⟨t,.mv x,none⟩::r) σ st K:=s_mv hx h
theorem zun {a:Bool} (h:WO prog d id base (i+1) r (upO σ t (.b (!a))) st K) (hx:x.ev σ=.b a:=by first | exact J | assumption):WO prog d id base i (⟨t,.un .not x,none⟩::r) σ st K:=s_not hx h
theorem zunp {p:Prop} [Decidable p] (h:WO prog d id base (i+1) r (upO σ t (.b (decide (¬p)))) st K) (hx:x.ev σ=.b (decide p):=by first | exact J | assumption):WO prog d id base i (⟨t,.un .not x,none⟩::r) σ st K:=s_notp hx h
theorem zuneg {k:IntKind} {n:Int} (h:WO prog d id base (i+1) r (upO σ t (.i k (k.wrap (0-n)))) st K) (hx:x.ev σ=.i k n:=by first | exact J | assumption):WO prog d id base i (⟨t,.un .neg x,none⟩::r) σ st K:=s_neg hx h
theorem zuls {l:List UInt8} (h:WO prog d id base (i+1) r (upO σ t (.i .i64 (l.length:Int))) st K) (hx:x.ev σ=.s l:=by first | exact J | assumption):WO prog d id base i (⟨t,.len true x,none⟩::r) σ st K:=s_lenS hx h
theorem zull {α:Type} {f:α→List AV} {l:List α} {o:Own} (h:WO prog d id base (i+1) r (upO σ t (.i .i64 (l.length:Int))) st K) (hx:x.ev σ=.sl o (l.map f):=by first | exact J | assumption):WO prog d id base i (⟨t,.len false x,none⟩::r) σ st K:=s_lenL hx h
theorem zucvB {k k':IntKind} {c:UInt8} (h:WO prog d id base (i+1) r (upO σ t (.i k (c.toNat:Int))) st K) (hx:x.ev σ=.i k' (c.toNat:Int):=by first | exact J | assumption) (hk:(k != .i8)=true:=by exact J):WO prog d id base i (⟨t,.cvi k x,none⟩::r) σ st K:=s_cvB hx hk h
theorem zucvi {k k':IntKind} {n:Int} (h:WO prog d id base (i+1) r (upO σ t (.i k (k.wrap n))) st K) (hx:x.ev σ=.i k' n:=by first | exact J | assumption):WO prog d id base i (⟨t,.cvi k x,none⟩::r) σ st K:=s_cvi hx h
theorem zub2s {l:List UInt8} {o:Own} (h:WO prog d id base (i+1) r (upO σ t (.s l)) st K) (hx:x.ev σ=.sl o (l.map row8):=by first | exact J | assumption):WO prog d id base i (⟨t,.b2s x,none⟩::r) σ st K:=s_b2s hx h
theorem zuext {k:Nat} {vs:List AV} {v:AV} (h:WO prog d id base (i+1) r (upO σ t v) st K) (hx:x.ev σ=.tup vs:=by first | exact J | assumption) (hv:vs[k]?=some v:=by exact J):WO prog d id base i (⟨t,.ext k x,none⟩::r) σ st K:=s_ext hx hv h
theorem zuix {l:List UInt8} {k':IntKind} {n:Int} {A:UInt8→Prop} (h:0≤n∧∃c,l[n.toNat]?=some c∧A c) (k :∀c,l[n.toNat]?=some c∧A c→WO prog d id base (i+1) r (upO σ t (.i .u8 (c.toNat:Int))) st K) (hx:x.ev σ=.s l:=by first | exact J | assumption) (hy:y.ev σ=.i k' n:=by first | exact J | assumption):WO prog d id base i (⟨t,.ixS x y,none⟩::r) σ st K:=h.2.elim fun _ e=>s_ixS hx hy h.1 e.1 (k _ e)
theorem zuld {n o v:Nat} {agg:Bool} {k:Key} {cs:List AV} {w:AV} (h:WO prog d id base (i+1) r (upO σ t w) st K) (hx:x.ev σ=.p k v o:=by first | exact J | assumption) (hb:lk st.bx k=some (v,cs):=by repeat (first | assumption | exact lk_here | refine lk_other J ?_)) (hn:Nat.ble (o+n) cs.length=true:=by exact J) (hv:ofCells agg ((cs.drop o).take n)=some w:=by exact J):WO prog d id base i (⟨t,.load n agg x,none⟩::r) σ st K:=s_loadP hx hb hn hv h
theorem zufad {off o v:Nat} {k:Key} (h:WO prog d id base (i+1) r (upO σ t (.p k v (o+off))) st K) (hx:x.ev σ=.p k v o:=by first | exact J | assumption):WO prog d id base i (⟨t,.fad off x,none⟩::r) σ st K:=s_fadP hx h
theorem zuff {off:Nat} {cs:List AV} (h:WO prog d id base (i+1) r (upO σ t (.fp (cs.drop off))) st K) (hx:x.ev σ=.fp cs:=by first | exact J | assumption):WO prog d id base i (⟨t,.fad off x,none⟩::r) σ st K:=s_fadF hx h
theorem zulf {n:Nat} {agg:Bool} {cs:List AV} {v:AV} (h:WO prog d id base (i+1) r (upO σ t v) st K) (hx:x.ev σ=.fp cs:=by first | exact J | assumption) (hn:Nat.ble n cs.length=true:=by exact J) (hv:ofCells agg (cs.take n)=some v:=by exact J):WO prog d id base i (⟨t,.load n agg x,none⟩::r) σ st K:=s_loadF hx hn hv h
theorem zuldf {n:Nat} {agg:Bool} {cs:List AV} {v:AV} (h:WO prog d id base (i+1) r (upO σ t v) st K) (hx:x.ev σ=.fp cs:=by first | exact J | assumption) (hn:Nat.ble n cs.length=true:=by exact J) (hv:ofCells agg (cs.take n)=some v:=by exact J):WO prog d id base i (⟨t,.ldf n agg x,none⟩::r) σ st K:=s_ldf hx hn hv h
theorem zunl {o v:Nat} {k:Key} (h:WO prog d id base (i+1) r (upO σ t (.p k v o)) st K) (hx:x.ev σ=.p k v o:=by first | exact J | assumption):WO prog d id base i (⟨t,.nilc x,none⟩::r) σ st K:=s_nilP hx h
theorem zunf {cs:List AV} (h:WO prog d id base (i+1) r (upO σ t (.fp cs)) st K) (hx:x.ev σ=.fp cs:=by first | exact J | assumption):WO prog d id base i (⟨t,.nilc x,none⟩::r) σ st K:=s_nilF hx h
theorem zufld {off n:Nat} {agg:Bool} {cs:List AV} {v:AV} (h:WO prog d id base (i+1) r (upO σ t v) st K) (hx:x.ev σ=.ag cs:=by first | exact J | assumption) (hn:Nat.ble (off+n) cs.length=true:=by exact J) (hv:ofCells agg ((cs.drop off).take n)=some v:=by exact J):WO prog d id base i (⟨t,.fld off n agg x,none⟩::r) σ st K:=s_fld hx hn hv h
theorem zubx {n:Nat} {v:AV} (h:WO prog d id base (i+1) r (upO σ t (.p (d,id*4096+i) (base+i) 0)) { st with bx:=st_ st.bx (d,id*4096+i) (base+i,v.cells) } K) (hx:x.ev σ=v:=by first | assumption | exact J) (hn:(Nat.beq v.cells.length n&&v.cells.all AV.one)=true:=by exact J):WO prog d id base i (⟨t,.box n x,none⟩::r) σ st K:=s_box hx hn h
theorem zubf {n:Nat} {v:AV} {cs:List AV} (h:WO prog d id base (i+1) r (upO σ t (.fp cs)) st K) (hx:x.ev σ=v:=by first | assumption | exact J) (hn:Nat.beq v.cells.length n=true:=by exact J) (hs:softs v.cells=some cs:=by exact J):WO prog d id base i (⟨t,.boxf n x,none⟩::r) σ st K:=s_boxf hx hn hs h
theorem zuia {α:Type} {f:α→List AV} {l:List α} {o:Own} {size:Nat} {k':IntKind} {n:Int} {cs:α→List AV} {A:α→Prop} (h:0≤n∧∃c,l[n.toNat]?=some c∧A c) (k :∀c,l[n.toNat]?=some c∧A c→WO prog d id base (i+1) r (upO σ t (.fp (cs c))) st K) (hx:x.ev σ=.sl o (l.map f):=by first | exact J | assumption) (hy:y.ev σ=.i k' n:=by first | exact J | assumption) (hf :∀c,f c=cs c:=by first | exact Val.row_eq | exact Loc.row_eq | exact Frm.row_eq | exact Pan.row_eq | exact Dfr.row_eq | exact Rou.row_eq | exact Fun.row_eq | exact Typ.row_eq | exact fun _=>J) (hs :∀c,(Nat.beq (cs c).length size&&Nat.blt 0 size)=true:=by exact fun _=>J):WO prog d id base i (⟨t,.iaL size x y,none⟩::r) σ st K:=h.2.elim fun c e=>s_iaL hx hy h.1 e.1 (hf c) (hs c) (k c e)
theorem zuslo {z:Opd} {l:List UInt8} {k':IntKind} {n:Int} (h:0≤n∧n.toNat≤l.length∧A) (k:A→WO prog d id base (i+1) r (upO σ t (.s (l.drop n.toNat))) st K) (hx:x.ev σ=.s l:=by first | exact J | assumption) (hz:z.ev σ=.i k' n:=by first | exact J | assumption):WO prog d id base i (⟨t,.slS x (some z) none,none⟩::r) σ st K:=s_slS_lo hx hz h.1 h.2.1 (k h.2.2)
theorem zushi {z:Opd} {l:List UInt8} {k':IntKind} {n:Int} (h:0≤n∧n.toNat≤l.length∧A) (k:A→WO prog d id base (i+1) r (upO σ t (.s (l.take n.toNat))) st K) (hx:x.ev σ=.s l:=by first | exact J | assumption) (hz:z.ev σ=.i k' n:=by first | exact J | assumption):WO prog d id base i (⟨t,.slS x none (some z),none⟩::r) σ st K:=s_slS_hi hx hz h.1 h.2.1 (k h.2.2)
theorem zuslh {z z':Opd} {l:List UInt8} {k1 k':IntKind} {n m:Int} (h:0≤n∧n≤m∧m.toNat≤l.length∧A) (k:A→WO prog d id base (i+1) r (upO σ t (.s ((l.drop n.toNat).take (m.toNat-n.toNat)))) st K) (hx:x.ev σ=.s l:=by first | exact J | assumption) (hz:z.ev σ=.i k1 n:=by first | exact J | assumption) (hz':z'.ev σ=.i k' m:=by first | exact J | assumption):WO prog d id base i (⟨t,.slS x (some z) (some z'),none⟩::r) σ st K:=s_slS hx hz hz' h.1 h.2.1 h.2.2.1 (k h.2.2.2)
theorem zuca {f:Nat} {args:List Opd} {vs:List AV} {v:AV} (h:Pus prog f vs v∧A) (k:A→WO prog d id base (i+1) r (upO σ t v) st K) (hs:AV.strips (evs σ args)=some vs:=by (repeat (refine sc (by first | assumption | exact J) (by exact J) ?_));exact sn):WO prog d id base i (⟨t,.call false f args,none⟩::r) σ st K:=s_call hs h.1 (k h.2)
theorem zubs {α:Type} {f:α→List AV} {a:α} {zero:List AV} {cs z:List AV} {v:AV} (h:WO prog d id base (i+1) r (upO σ t (.sl .full (List.map f [a]))) st K) (hx:x.ev σ=v:=by first | assumption | exact J) (hc:softs v.cells=some (f a):=by exact J) (hz:softs zero=some z:=by exact J) (hn:(Nat.blt 0 z.length&&Nat.ble (1*z.length) 65536&&(Nat.beq (f a).length z.length))=true:=by exact J):WO prog d id base i (⟨t,.bslice zero 1 [(0,x)],none⟩::r) σ st K:=by
 simp only [Bool.and_eq_true] at hn
 exact s_bslice hz (by simp only [Bool.and_eq_true];exact hn.1) (g_cons hx hc (by simp only [Bool.and_eq_true];exact ⟨rfl,hn.2⟩) g_nil) h
theorem zuap {α:Type} {f:α→List AV} {size bytes:Nat} {l m:List α} {o o2:Own} (h:Fit (l.length+m.length) bytes∧A) (k :∀o' ow',ApM d ow' o' (l++m).length→A→WO prog d id base (i+1) r (upO σ t (.sl o' ((l++m).map f))) ⟨st.nx,st.bx,ow'⟩ K) (hx:x.ev σ=.sl o (l.map f):=by first | assumption | exact J) (hy:y.ev σ=.sl o2 (m.map f):=by first | assumption | exact J) (ha:ApM d st.ow o l.length:=by first | assumption | exact ApM.full) (hf :∀a,(f a).length=size:=by first | exact fun _=>J | exact Val.row_len) (hsz:Nat.blt 0 size=true:=by exact J) (hb:Nat.blt (id*4096+i) bigSite=true:=by exact J) (hm:Nat.blt (id*4096+i) midSite=true:=by exact J):WO prog d id base i (⟨t,.app size bytes x y,none⟩::r) σ st K:=
 s_app hf hsz hx hy ha.1 h.1 hb fun o' ow' a _ on=>k o' ow' (ApM.mk a (Mine.app ha.2 hm on)) h.2
theorem zuixA {α:Type} {f:α→AV} {l:List α} {m:Nat} {k':IntKind} {n:Int} {A:α→Prop} (h:l.length=m∧0≤n∧∃c,l[n.toNat]?=some c∧A c) (k :∀c,l[n.toNat]?=some c∧A c→WO prog d id base (i+1) r (upO σ t (f c)) st K) (hx:x.ev σ=.ag (l.map f):=by first | exact J | assumption) (hy:y.ev σ=.i k' n:=by first | exact J | assumption):WO prog d id base i (⟨t,.ixA m 1 false x y,none⟩::r) σ st K:=h.2.2.elim fun c e=>s_ixA h.1 hx hy h.2.1 e.1 (k c e)
theorem zuia' {m:Nat} {α:Type} {f:α→List AV} {l:List α} {o:Own} {size:Nat} {k':IntKind} {n:Int} {c:α} {cs:List AV} (h:l[m]?=some c∧A) (k:A→WO prog d id base (i+1) r (upO σ t (.fp cs)) st K) (hx:x.ev σ=.sl o (l.map f):=by first | exact J | assumption) (hy:y.ev σ=.i k' n:=by first | exact J | assumption) (h0:0≤n:=by decide) (hm:n.toNat=m:=by exact J) (hf:f c=cs:=by first | exact Val.row_eq _ | exact Loc.row_eq _ | exact Frm.row_eq _ | exact Pan.row_eq _ | exact Dfr.row_eq _ | exact Rou.row_eq _ | exact Fun.row_eq _ | exact Typ.row_eq _ | exact J) (hs:(Nat.beq cs.length size&&Nat.blt 0 size)=true:=by exact J):WO prog d id base i (⟨t,.iaL size x y,none⟩::r) σ st K:=s_iaL hx hy h0 (hm ▸ h.1) hf hs (k h.2)
theorem zuix' {m:Nat} {l:List UInt8} {k':IntKind} {n:Int} {c:UInt8} (h:l[m]?=some c∧A) (k:A→WO prog d id base (i+1) r (upO σ t (.i .u8 (c.toNat:Int))) st K) (hx:x.ev σ=.s l:=by first | exact J | assumption) (hy:y.ev σ=.i k' n:=by first | exact J | assumption) (h0:0≤n:=by decide) (hm:n.toNat=m:=by exact J):WO prog d id base i (⟨t,.ixS x y,none⟩::r) σ st K:=s_ixS hx hy h0 (hm ▸ h.1) (k h.2)
theorem zubu {zero:List AV} {parts:List (Nat × Nat × Opd)} {cs:List AV} (h:WO prog d id base (i+1) r (upO σ t (.ag cs)) st K) (hp:fillCells σ zero parts=some cs:=by (repeat (refine f_cons (by first | assumption | exact J) (by exact J) ?_));exact f_nil):WO prog d id base i (⟨t,.build zero parts,none⟩::r) σ st K:=s_build hp h
theorem zuso {n o v:Nat} {k:Key} {cs cs':List AV} {w:AV} (h:WO prog d id base (i+1) r (upO σ t (.tup [])) { st with bx:=st_ st.bx k (v,cs') } K) (hx:x.ev σ=.p k v o:=by first | exact J | assumption) (hy:y.ev σ=w:=by first | assumption | exact J) (hb:lk st.bx k=some (v,cs):=by repeat (first | assumption | exact lk_here | refine lk_other J ?_)) (hn:(Nat.ble (o+n) cs.length&&Nat.beq w.cells.length n&&w.cells.all AV.one)=true:=by exact J) (hs:setAt cs o w.cells=cs':=by exact J) (hok:okSt k w=true:=by first | rfl | exact okSt_r rfl):WO prog d id base i (⟨t,.store n x y,none⟩::r) σ st K:=s_storeP hx hb hy hn hs h hok
theorem zual {zero:List AV} (h:WO prog d id base (i+1) r (upO σ t (.p (d,id*4096+i) (base+i) 0)) st K):WO prog d id base i (⟨t,.alloc zero,none⟩::r) σ st K:=s_alloc h
theorem zuslS {z:Opd} {l:List UInt8} {k':IntKind} {n:Int} {m:Nat} (h:m≤l.length∧A) (k:A→WO prog d id base (i+1) r (upO σ t (.s (l.drop m))) st K) (hx:x.ev σ=.s l:=by first | exact J | assumption) (hz:z.ev σ=.i k' n:=by first | exact J | assumption) (h0:0≤n:=by decide) (hm:n.toNat=m:=by exact J):WO prog d id base i (⟨t,.slS x (some z) none,none⟩::r) σ st K:=by
 subst hm
 exact s_slS_lo hx hz h0 h.1 (k h.2)
theorem zuslT {z:Opd} {l:List UInt8} {k':IntKind} {n:Int} {m:Nat} (h:m≤l.length∧A) (k:A→WO prog d id base (i+1) r (upO σ t (.s (l.take m))) st K) (hx:x.ev σ=.s l:=by first | exact J | assumption) (hz:z.ev σ=.i k' n:=by first | exact J | assumption) (h0:0≤n:=by decide) (hm:n.toNat=m:=by exact J):WO prog d id base i (⟨t,.slS x none (some z),none⟩::r) σ st K:=by
 subst hm
 exact s_slS_hi hx hz h0 h.1 (k h.2)
theorem zuq2 {op:BinOp} {k':IntKind} {a b:Int} {v:AV} (hv:b≠0→abin op (.i k' a) (.i k' b)=some v) (h:WO prog d id base (i+1) r (upO σ t v) st K) (hx:x.ev σ=.i k' a:=by first | exact J | assumption) (hy:y.ev σ=.i k' b:=by first | exact J | assumption) (hb:b≠0:=by decide):WO prog d id base i (⟨t,.bin op x y,none⟩::r) σ st K:=s_bin hx hy (hv hb) h
theorem zuq3 {op:BinOp} {k' k2:IntKind} {a b:Int} {v:AV} (hv:0≤b→abin op (.i k' a) (.i k2 b)=some v) (h:WO prog d id base (i+1) r (upO σ t v) st K) (hx:x.ev σ=.i k' a:=by first | exact J | assumption) (hy:y.ev σ=.i k2 b:=by first | exact J | assumption) (hb:0≤b:=by decide):WO prog d id base i (⟨t,.bin op x y,none⟩::r) σ st K:=s_bin hx hy (hv hb) h
theorem zub8 {n:Int} {c:UInt8} (hc:UInt8.ofNat n.toNat=c) (h:WO prog d id base (i+1) r (upO σ t (.sl .full (List.map row8 [c]))) st K) (hx:x.ev σ=.i .u8 n:=by first | exact J | assumption) (hn:n=(c.toNat:Int):=by decide):WO prog d id base i (⟨t,.bslice [.i .u8 0] 1 [(0,x)],none⟩::r) σ st K:=s_bslice (z:=[.i .u8 0]) rfl rfl (g_cons (g_u8 hx hn) rfl rfl g_nil) h
theorem zub9 {c:UInt8} (h:WO prog d id base (i+1) r (upO σ t (.sl .full (List.map row8 [c]))) st K) (hx:x.ev σ=.i .u8 (c.toNat:Int):=by first | exact J | assumption):WO prog d id base i (⟨t,.bslice [.i .u8 0] 1 [(0,x)],none⟩::r) σ st K:=s_bslice (z:=[.i .u8 0]) rfl rfl (g_cons hx rfl rfl g_nil) h
theorem zub7 {n:Int} {c:UInt8} (hh:n=(c.toNat:Int)∧A) (h:A→WO prog d id base (i+1) r (upO σ t (.sl .full (List.map row8 [c]))) st K) (hx:x.ev σ=.i .u8 n:=by first | exact J | assumption):WO prog d id base i (⟨t,.bslice [.i .u8 0] 1 [(0,x)],none⟩::r) σ st K:=s_bslice (z:=[.i .u8 0]) rfl rfl (g_cons (g_u8 hx hh.1) rfl rfl g_nil) (h hh.2)
theorem zucA {f:Nat} {args:List Opd} {vs:List AV} {o:Own} {rows rows':List (List AV)} (h:PuA prog f rows vs rows'∧A) (k :∀o' st',App st'.ow o' rows'.length→A→WO prog d id base (i+1) r (upO σ t (.sl o' rows')) st' K) (hs:evs σ args=.sl o rows::vs:=by (repeat (refine sec (by first | assumption | exact J) ?_));exact sen) (ha:App st.ow o rows.length:=by first | exact App.full | assumption | simpa using App.full):WO prog d id base i (⟨t,.call true f args,none⟩::r) σ st K:=s_callA hs h.1 ha fun o' st' a=>k o' st' a h.2
end
section
variable {prog:Prog} {d:Nat} {σ:Sl} {st:St} {Q:AE→Sl→St→Prop} {c:Opd} {a b:AC} {T A B:Prop}
theorem zuc1 {p:Prop} [Decidable p] (h:(p→A)∧(¬p→B)) (h1:A→W prog d a σ st Q) (h2:B→W prog d b σ st Q) (hc:c.ev σ=.b (decide p):=by first | exact J | assumption):W prog d (.cond c a b) σ st Q:=c_split hc (fun z=>h1 (h.1 z)) fun z=>h2 (h.2 z)
theorem zuc2 {t:Bool} (h:(t=true→A)∧(t=false→B)) (h1:A→W prog d a σ st Q) (h2:B→W prog d b σ st Q) (hc:c.ev σ=.b t:=by first | exact J | assumption):W prog d (.cond c a b) σ st Q:=c_bool hc (fun z=>h1 (h.1 z)) fun z=>h2 (h.2 z)
theorem zuqq {id:Nat} {ops:List AI} {b:AC} (hn:noAlloc ops=true) (h :∀nx,WO prog d id st.nx 0 ops σ ⟨nx,st.bx,st.ow⟩ (fun σ st=>W prog d b σ st Q)):W prog d (.seq (.reg id ops) b) σ st Q:=q_ hn (fun {nx _}=>h nx)
theorem zunil {id base i:Nat} (h:W prog d b σ st Q):WO prog d id base i [] σ st (fun σ st=>W prog d b σ st Q):=s_nil h
theorem zunit' {id base i:Nat} (h:W prog d b σ st Q):WO prog d id base i [] σ st (fun σ st=>thenW prog d b Q .normal σ st):=s_nil h
theorem zunib {id base i n:Nat} (h:W prog d b σ st Q):WO prog d id base i [] σ st (fun σ st=>blockW n (thenW prog d b Q) .normal σ st):=s_nil h
theorem zusk (h:W prog d b σ st Q):W prog d .skip σ st (thenW prog d b Q):=W.skip h
theorem zuskb {n:Nat} (h:W prog d b σ st Q):W prog d .skip σ st (blockW n (thenW prog d b Q)):=W.skip h
end
theorem au {A P:Prop} (n:A) (h:A→P:=by
 intro n
 repeat' (first
  | refine zuE h (fun _ h=>?_)
  | refine zunil ?_
  | refine zuqq J (fun _=>?_)
  | refine zus J ?_
  | refine zug ?_
  | refine zum ?_
  | refine m_ ?_
  | refine zuld ?_
  | refine zufad ?_
  | refine zuca h (fun h=>?_)
  | refine zuext ?_
  | refine zuB eql_ ?_
  | refine zuB lss_ ?_
  | refine zuB add_ ?_
  | refine zuB gtr_ ?_
  | refine zuB neq_ ?_
  | refine zuB sub_ ?_
  | refine zuB geq_ ?_
  | refine zuB leq_ ?_
  | refine zuB seq_ ?_
  | refine zuB sne_ ?_
  | refine zull ?_
  | refine zuls ?_
  | refine zunp ?_
  | refine zun ?_
  | refine zug1 h (fun h=>?_) (fun h=>?_)
  | refine zug2 h (fun h=>?_) (fun h=>?_)
  | refine zup1 h (fun h=>?_) (fun h=>?_)
  | refine zup2 h (fun h=>?_) (fun h=>?_)
  | refine zuia h (fun _ h=>?_)<;>replace h:=h.2
  | refine zulf ?_
  | refine zuldf ?_
  | refine zuff ?_
  | refine zunl ?_
  | refine zunf ?_
  | refine zufld ?_
  | refine zubx ?_
  | refine zubf ?_
  | refine zuix h (fun _ h=>?_)<;>replace h:=h.2
  | refine zucat h (fun h=>?_)
  | refine zucvB ?_
  | refine zucvi ?_
  | refine zuslo h (fun h=>?_)
  | refine zushi h (fun h=>?_)
  | refine zuslh h (fun h=>?_)
  | refine zub2s ?_
  | refine zuneg ?_
  | refine zuap h (fun _ _ _ h=>?_)
  | refine zuq' abin_quo' h (fun h=>?_)
  | refine zuq' abin_rem' h (fun h=>?_)
  | refine zuB (abin_mul _ _ _) ?_
  | refine zuB (abin_andNot _ _ _) ?_
  | refine zuB (abin_and _ _ _) ?_
  | refine zuB (abin_or _ _ _) ?_
  | refine zuq2 abin_quo' ?_
  | refine zuq2 abin_rem' ?_
  | refine zuq3 abin_shr' ?_
  | refine zuq3 abin_shl' ?_
  | refine zub9 ?_
  | refine zub7 h (fun h=>?_)
  | refine zub8 J ?_
  | refine zucA h (fun _ _ _ h=>?_)
  | refine zuixA h (fun _ h=>?_)<;>replace h:=h.2
  | refine zuia' h (fun h=>?_)
  | refine zuix' h (fun h=>?_)
  | refine zubu ?_
  | refine zuso ?_
  | refine zual ?_
  | refine zubs ?_
  | refine zuslS h (fun h=>?_)
  | refine zuslT h (fun h=>?_)
  | refine c_tt J ?_
  | refine c_ff J ?_
  | refine zuc1 h (fun h=>?_) (fun h=>?_)
  | refine zuc2 h (fun h=>?_) (fun h=>?_)
  | refine zunit' ?_
  | refine zunib ?_
  | refine zusk ?_
  | refine zuskb ?_
  | (apply n;(any_goals exact h);all_goals (first | assumption | exact J | exact ApM.full | exact Fr.refl | ((repeat (first | assumption | exact lk_here | refine lk_other J ?_ | exact Fr.refl | refine Fr.box ?_));done)))
  | (apply n.1;(any_goals exact h);all_goals (first | assumption | exact J | exact ApM.full | exact Fr.refl | ((repeat (first | assumption | exact lk_here | refine lk_other J ?_ | exact Fr.refl | refine Fr.box ?_));done)))
  | (apply n.2;(any_goals exact h);all_goals (first | assumption | exact J | exact ApM.full | exact Fr.refl | ((repeat (first | assumption | exact lk_here | refine lk_other J ?_ | exact Fr.refl | refine Fr.box ?_));done)))
  | (apply n.2.1;(any_goals exact h);all_goals (first | assumption | exact J | exact ApM.full | exact Fr.refl | ((repeat (first | assumption | exact lk_here | refine lk_other J ?_ | exact Fr.refl | refine Fr.box ?_));done)))
  | (apply n.2.2;(any_goals exact h);all_goals (first | assumption | exact J | exact ApM.full | exact Fr.refl | ((repeat (first | assumption | exact lk_here | refine lk_other J ?_ | exact Fr.refl | refine Fr.box ?_));done)))
  | (refine W.ret ?_;apply hQ;(any_goals exact h);all_goals (first | assumption | exact J | exact ApM.full | exact Fr.refl | ((repeat (first | assumption | exact lk_here | refine lk_other J ?_ | exact Fr.refl | refine Fr.box ?_));done)))
  | refine W.seq ?_
  | refine W.reg0 J (fun _ _=>?_)
  | refine W.reg ?_
  | refine W.block ?_
  | refine W.exit ?_
  | (apply kP0;(any_goals exact h);all_goals (first | assumption | exact J | exact ApM.full | exact Fr.refl | ((repeat (first | assumption | exact lk_here | refine lk_other J ?_ | exact Fr.refl | refine Fr.box ?_));done)))
  | (apply kP1;(any_goals exact h);all_goals (first | assumption | exact J | exact ApM.full | exact Fr.refl | ((repeat (first | assumption | exact lk_here | refine lk_other J ?_ | exact Fr.refl | refine Fr.box ?_));done))))):P:=h n
end Go.AM
