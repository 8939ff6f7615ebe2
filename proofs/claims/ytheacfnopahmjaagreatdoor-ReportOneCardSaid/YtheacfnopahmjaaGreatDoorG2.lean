/- Parts of the proof: B0, D38, D38f, Pk, R0, R1, R2, R3, V03, V03b, V03c, V38, R4, R5, Pq, R6, Rn, S3, Pt, U30a. -/
import Derived.Test.YtheacfnopahmjaaGreatDoorG0
import Derived.Test.YtheacfnopahmjaaGreatDoorG1
import Derived.Carry
import Derived.DataReads
import Derived.WalkKit
import Derived.ProofKit
import Derived.OpenShut
import Derived.Laws.Externs
import Derived.Lib.Bytealg
import Derived.Lib.Builder
import Derived.HandedShaped
import Derived.Shelf.Vars
import Derived.Lay
import Derived.LaidMore
import Derived.Stop.Joined
import Derived.Shelf.Strings.Split
import Derived.Shelf.Strings.Cut
import Derived.Lib.SplitLaws
set_option linter.all false
/- Yf of the proof. -/
namespace Go.AM
open Go
def Rf (B:BC):Prop:=∀(d:Nat) (bx:Xw) (ow:Xt) (k:Zo) (v:Nat),k.1<d->B bx ow k v->B (bx.filter fun x=>x.1.1<d) ow k v
theorem Av {bx:Xw} {d:Nat} {k:Zo} (hk:k.1<d):lk (bx.filter fun x=>x.1.1<d) k=lk bx k:=by
 have:=Zwa bx (fun k=>decide (k.1<d)) k
 rw [this,if_pos (by simpa using hk)]
theorem Bx.out {cs:List AV}:Rf (Bx cs):=fun d bx ow k v hk h=>by
 show lk _ k=_
 rw [Av hk]
 exact h
theorem Bl.out {b:List UInt8}:Rf (Bl b):=fun d bx ow k v hk ⟨c0,o,h1,h2⟩=>⟨c0,o,by rw [Av hk];exact h1,h2⟩
theorem Yp.of {PG:Za} {f:Nat} {F:AF} {B B':BC} {args:List AV} {RR:AV->Prop} (hf:PG.fn f=some F) (hn:Nat.ble (args.length+1) F.nt=true) (ho:Rf B')
  (h :∀(d:Nat) (st:St) (k:Zo) (v:Nat),k.1<d->B st.bx st.ow k v->W PG d F.body (Xz (.p k v 0::args)) st fun e σ st'=>(e=.normal\/e=.ret)/\∃r,Xg σ st' F.res=some r/\RR r/\B' st'.bx st'.ow k v/\Fr d k st.bx st.ow st'.bx st'.ow):Yp PG f B args RR B':=by
 intro d st k v hk hB
 obtain ⟨r,st',h1,h2⟩:=Fn.of' (PG:=PG) (K:=fun r st'=>RR r/\B' st'.bx st'.ow k v/\Fr d k st.bx st.ow st'.bx st'.ow) hf (by simpa using Nat.le_of_ble_eq_true hn) ((h d st k v hk hB).mono fun e σ st' hq=>by
  obtain ⟨he,r,h1,h2,h3,h4⟩:=hq
  rcases he with rfl | rfl
  ·exact ⟨r,h1,h2,ho d _ _ k v hk h3,h4.out⟩
  ·exact ⟨r,h1,h2,ho d _ _ k v hk h3,h4.out⟩)
 exact ⟨r,st',h1,h2⟩
theorem Qk.of {β:Type} {PG:Za} {f:Nat} {F:AF} {B:BC} {B':β->BC} {args:List AV} {KK:AV->β->Prop} (hf:PG.fn f=some F) (hn:Nat.ble (args.length+1) F.nt=true) (ho :∀b,Rf (B' b))
  (h :∀(d:Nat) (st:St) (k:Zo) (v:Nat),k.1<d->B st.bx st.ow k v->W PG d F.body (Xz (.p k v 0::args)) st fun e σ st'=>(e=.normal\/e=.ret)/\∃r b,Xg σ st' F.res=some r/\KK r b/\B' b st'.bx st'.ow k v/\Fr d k st.bx st.ow st'.bx st'.ow):Qk PG f B args KK B':=by
 intro d st k v hk hB
 obtain ⟨r,st',h1,b,h2,h3,h4⟩:=Fn.of' (PG:=PG) (K:=fun r st'=>∃b,KK r b/\B' b st'.bx st'.ow k v/\Fr d k st.bx st.ow st'.bx st'.ow) hf (by simpa using Nat.le_of_ble_eq_true hn) ((h d st k v hk hB).mono fun e σ st' hq=>by
  obtain ⟨he,r,b,h1,h2,h3,h4⟩:=hq
  rcases he with rfl | rfl
  ·exact ⟨r,h1,b,h2,ho b d _ _ k v hk h3,h4.out⟩
  ·exact ⟨r,h1,b,h2,ho b d _ _ k v hk h3,h4.out⟩)
 exact ⟨r,st',b,h1,h2,h3,h4⟩
section
variable {PG:Za} {d id base i:Nat} {σ:Sl} {st:St} {K:Sl->St->Prop} {r:List AI} {t:Option Nat} {x y:Zr}
theorem Zlb {neg:Bool} {a b v:AV} (hx:x.ev σ=a) (hy:y.ev σ=b) (hv:Fu neg a b=some v) (h:WO PG d id base (i+1) r (Zw σ t v) st K):WO PG d id base i (⟨t,.peq neg x y,none⟩::r) σ st K:=
 Va (fun K=>by simp only [Yv,Zx,Yh,hx,hy,hv,Option.map_some,Wj]) h
theorem Zv9 {n v:Nat} {k:Zo} {cs:List AV} (hx:x.ev σ=.p k v 0) (hb:lk st.bx k=some (v,cs)) (hk:Xu<=k.2) (hn:cs.length=n) (h:WO PG d id base (i+1) r (Zw σ t (.p k v 0)) st K):WO PG d id base i (⟨t,.cvp n x,none⟩::r) σ st K:=
 Va (fun K=>by
  simp only [Yv,Zx,Zca,hx,hb]
  rw [if_pos ⟨trivial,hk,hn⟩]
  simp only [Option.map_some,Wj]) h
theorem Xvb {f:Nat} {args:List Zr} {vs:List AV} {v:AV} (hf:PG.fn f=none) (hs:Vb σ args=vs) (ho:PG.orac f vs=some v) (h:WO PG d id base (i+1) r (Zw σ t v) st K):WO PG d id base i (⟨t,.call true f args,none⟩::r) σ st K:=by
 refine Qy ?_
 rw [Lt,hs]
 exact ⟨_,_,⟨1,by simp only [Km,hf,ho]⟩,h⟩
end
theorem W.regB {PG:Za} {d id t:Nat} {σ:Sl} {st:St} {Q:AE->Sl->St->Prop} (hid:Nat.ble 1000000 id=true)
  (h :∀(nx v:Nat) (bx':Xw),Bl [] bx' st.ow (d,id*4096+0) v->(∀k':Zo,(d,id*4096+0)≠k'->lk bx' k'=lk st.bx k')->Q .normal (Zw σ (some t) (.p (d,id*4096+0) v 0)) ⟨nx,bx',st.ow⟩):W PG d (.reg id [⟨some t,.alloc [.np,.sl .full []],none⟩]) σ st Q:=by
 refine W.reg (Xs (Gc (h _ _ _ ?_ ?_)))
 ·refine ⟨.np,.full,Zi,.inl rfl,rfl,?_⟩
  have:=Nat.le_of_ble_eq_true hid
  show 4096000000<=id*4096+0
  omega
 ·intro k' hk
  exact Gj hk
def Zq5:AF:={ nt:=20,res:=[],body:=
 (.seq (.reg 1000000 [⟨(some 2),.mv (.t 0),none⟩,
  ⟨(some 3),.nilc (.t 2),none⟩,
  ⟨(some 4),.fad 0 (.t 3),none⟩,
  ⟨(some 5),.load 1 false (.t 4),none⟩,
  ⟨(some 6),.peq false (.t 5) (.c (.np)),none⟩])
 (.cond (.t 6)
  (.reg 1000001 [⟨(some 7),.mv (.t 0),none⟩,
   ⟨(some 8),.mv (.t 0),none⟩,
   ⟨(some 9),.cvp 2 (.t 8),none⟩,
   ⟨(some 10),.call true 146 [(.t 9)],none⟩,
   ⟨(some 11),.cvp 2 (.t 10),none⟩,
   ⟨(some 12),.nilc (.t 7),none⟩,
   ⟨(some 13),.fad 0 (.t 12),none⟩,
   ⟨none,.store 1 (.t 13) (.t 11),none⟩])
  (.seq (.reg 1000002 [⟨(some 14),.mv (.t 0),none⟩,
   ⟨(some 15),.nilc (.t 14),none⟩,
   ⟨(some 16),.fad 0 (.t 15),none⟩,
   ⟨(some 17),.load 1 false (.t 16),none⟩,
   ⟨(some 18),.mv (.t 0),none⟩,
   ⟨(some 19),.peq true (.t 17) (.t 18),none⟩])
  (.cond (.t 19)
   (.cond (.c .u) .skip .skip)
   .skip)))) }
def Zlk:AF:={ nt:=19,res:=[.tmp 4,.tmp 5],body:=
 (.seq (.reg 0 [⟨(some 4),.mv (.c (.i .i64 0)),none⟩,
  ⟨(some 5),.mv (.c (.ni)),none⟩])
 (.seq (.reg 1 [⟨(some 6),.mv (.t 0),none⟩,
  ⟨(some 7),.call true 145 [(.t 6)],none⟩])
 (.seq (.reg 1000002 [⟨(some 8),.mv (.t 0),none⟩,
  ⟨(some 9),.mv (.t 0),none⟩,
  ⟨(some 10),.nilc (.t 9),none⟩,
  ⟨(some 11),.fad 1 (.t 10),none⟩,
  ⟨(some 12),.load 1 false (.t 11),none⟩,
  ⟨(some 13),.mv (.t 1),none⟩,
  ⟨(some 14),.appS (.t 12) (.t 13),none⟩,
  ⟨(some 15),.nilc (.t 8),none⟩,
  ⟨(some 16),.fad 1 (.t 15),none⟩,
  ⟨none,.store 1 (.t 16) (.t 14),none⟩])
 (.seq (.reg 3 [⟨(some 17),.mv (.t 1),none⟩,
  ⟨(some 18),.len true (.t 17),none⟩,
  ⟨(some 4),.mv (.t 18),none⟩,
  ⟨(some 5),.mv (.c (.ni)),none⟩])
 .ret)))) }
theorem Xol {key:Zo} {ver:Nat} {o:Zl} {l m:List UInt8} {st:St} (ha:Lu st.ow o l.length) (hk:Xu<=key.2) (hs:l.length+m.length<=Qd)
  {K:AV->St->Prop} (hK :∀o' ow',Lu ow' o' (l++m).length->(∀k':Zo,k'.2<Xu->lk ow' k'=lk st.ow k')->K (.sl o' ((l++m).map Ys)) ⟨st.nx,st.bx,ow'⟩):Kd (Uh key ver 1 1 (.sl o (l.map Ys)) (m.map Ys) st) fun r=>K r.1 r.2:=by
 simp only [Uh]
 rw [if_pos ⟨by simpa using hs,by simpa using hs,Nat.one_pos,by simp [Ys],by simp [Ys]⟩]
 cases m with
 | nil=>
  rw [if_pos (show (List.map Ys []).isEmpty=true from rfl),Wj]
  have:=hK o st.ow (by rw [List.append_nil];exact ha) (fun _ _=>rfl)
  rwa [List.append_nil] at this
 | cons c m=>
  rw [if_neg (by simp)]
  have hpos:0<(l++c::m).length:=by simp;omega
  cases o with
  | ext=>exact ha.elim
  | full=>
   simp only [Wj]
   rw [<- List.map_append]
   refine hK (.id key ver) _ ⟨by rw [Bb,if_pos rfl];simp,hpos,hk⟩ (fun k' h=>?_)
   rw [Bb,if_neg (by rintro rfl;exact absurd h (Nat.not_lt.2 hk))]
  | id k v=>
   obtain ⟨ha1,ha2,ha3⟩:=ha
   simp only [ha1]
   rw [if_pos ⟨trivial,by simp,by simpa using ha2,.inr ha3⟩]
   simp only [Wj]
   rw [<- List.map_append]
   refine hK (.id key ver) _ ⟨by rw [Bb,if_pos rfl];simp,hpos,hk⟩ (fun k' h=>?_)
   rw [Bb,if_neg (by rintro rfl;exact absurd h (Nat.not_lt.2 hk)),Ab,if_neg (by rintro rfl;exact absurd h (Nat.not_lt.2 ha3))]
theorem Xqq {PG:Za} {d site ver:Nat} {σ:Sl} {st:St} {s x:Zr} {o:Zl} {l m:List UInt8} (hs:s.ev σ=.sl o (l.map Ys)) (hx:x.ev σ=.s m) (ha:Lu st.ow o l.length) (hb:Xu<=site) (h2:l.length+m.length<=Qd)
  {K:AV->St->Prop} (hK :∀o' ow',Lu ow' o' (l++m).length->(∀k':Zo,k'.2<Xu->lk ow' k'=lk st.ow k')->K (.sl o' ((l++m).map Ys)) ⟨st.nx,st.bx,ow'⟩):Yv PG d site ver σ st K (.appS s x):=by
 rw [Xsw,hx,Rg,hs]
 exact Xol ha hb h2 hK
theorem Xts {o:Zl} {l:List UInt8} (h:l≠[]):(AV.sl o (l.map Ys)).isF0=false:=by
 cases l with
 | nil=>exact absurd rfl h
 | cons c l=>cases o<;>rfl
structure HasB (PG:Za):Prop where
 f145:PG.fn 145=some Zq5
 f126:PG.fn 126=some Zlk
 f146:PG.fn 146=none
 f105:PG.fn 105=none
 o146 :∀k v,PG.orac 146 [.p k v 0]=some (.p k v 0)
 o105 :∀args,PG.orac 105 args=none
 s105 :∀args st,PG.oracS 105 args st=Ck args st
def Bl1 (b:List UInt8):BC:=fun bx ow k v=>∃o,lk bx k=some (v,[.p k v 0,.sl o (b.map Ys)])/\Lu ow o b.length/\Xu<=k.2
theorem Bl1.out {b:List UInt8}:Rf (Bl1 b):=fun d bx ow k v hk ⟨o,h1,h2⟩=>⟨o,by rw [Av hk];exact h1,h2⟩
section
variable {PG:Za} (H:HasB PG)
include H
theorem Xyo (b:List UInt8):Yp PG 145 (Bl b) [] (fun r=>r=.tup []) (Bl1 b):=by
 refine Yp.of H.f145 rfl Bl1.out fun d st k v hk hB=>?_
 obtain ⟨c0,o,hb,hc0,hap,hbig⟩:=hB
 refine W.seq (W.reg0 rfl fun nx _=>?_)
 rcases hc0 with rfl | rfl
 ·refine Ve (v:=.p k v 0) rfl (Wh rfl (Np rfl (Cl (w:=.np) rfl hb rfl rfl (Zlb (v:=.b true) rfl rfl rfl (Gc (W.tt rfl (W.reg0 rfl fun nx2 _=>?_)))))))
  refine Ve (v:=.p k v 0) rfl (Ve (v:=.p k v 0) rfl (Zv9 rfl hb hbig rfl (Xvb H.f146 rfl (H.o146 k v) (Zv9 rfl hb hbig rfl (Wh rfl (Np rfl (Fq rfl hb (w:=.p k v 0) rfl rfl rfl (Gc ?_))))))))
  exact ⟨.inl rfl,_,rfl,rfl,⟨o,Zi,hap,hbig⟩,Fr.refl.own⟩
 ·refine Ve (v:=.p k v 0) rfl (Wh rfl (Np rfl (Cl (w:=.p k v 0) rfl hb rfl rfl (Zlb (v:=.b false) rfl rfl rfl (Gc (W.ff rfl (W.seq (W.reg0 rfl fun nx2 _=>?_))))))))
  refine Ve (v:=.p k v 0) rfl (Wh rfl (Np rfl (Cl (w:=.p k v 0) rfl hb rfl rfl (Ve (v:=.p k v 0) rfl (Zlb (a:=.p k v 0) (b:=.p k v 0) (v:=.b false) rfl rfl (by simp [Fu]) (Gc (W.ff rfl (W.skip ?_))))))))
  exact ⟨.inl rfl,_,rfl,rfl,⟨o,hb,hap,hbig⟩,Fr.refl⟩
theorem Mj {b s:List UInt8} (hs:b.length+s.length<=Qd) (hne:s≠[]:=by first | exact List.cons_ne_nil _ _ | simp):Yp PG 126 (Bl b) [.s s] (fun r=>r=.tup [.i .i64 (s.length:Int),.ni]) (Bl (b++s)):=by
 refine Yp.of H.f126 rfl Bl.out fun d st k v hk hB=>?_
 refine W.seq (W.reg0 rfl fun nx _=>Ve rfl (Ve rfl (Gc (W.seq (W.reg0 rfl fun nx2 _=>?_)))))
 refine Ve (v:=.p k v 0) rfl (Yir (F:=.tup []) (Zy rfl Yn) (Xyo H b) (Nat.lt_succ_of_lt hk) hB fun st1 hB1 hF1=>Gc (W.seq (W.reg0 rfl fun nx3 _=>?_)))
 obtain ⟨o,hb,hap,hbig⟩:=hB1
 refine Ve (v:=.p k v 0) rfl (Ve (v:=.p k v 0) rfl (Wh rfl (Np rfl (Cl (w:=.sl o (b.map Ys)) rfl hb rfl rfl (Ve (v:=.s s) rfl (Qy ?_))))))
 refine Xqq (st:=⟨nx3,st1.bx,st1.ow⟩) (o:=o) (l:=b) (m:=s) ?_ ?_ hap ?_ hs fun o' ow' h1 h2=>?_
 ·rfl
 ·rfl
 ·exact Nat.le_of_ble_eq_true rfl
 refine Wh rfl (Np rfl (Fq rfl hb (w:=.sl o' ((b++s).map Ys)) rfl rfl rfl (Gc (W.seq (W.reg0 rfl fun nx4 _=>?_))) (Ih (by rw [show (AV.sl o' ((b++s).map Ys)).cells=[AV.sl o' ((b++s).map Ys)] from rfl,List.any_cons,Xts (by simp [hne])];rfl))))
 refine Ve (v:=.s s) rfl (Zmv rfl (Ve rfl (Ve rfl (Gc (W.ret ?_)))))
 refine ⟨.inr rfl,_,rfl,rfl,⟨_,o',Zi,.inr rfl,h1,hbig⟩,?_⟩
 refine (Fr.own ⟨fun k' q1 q2=>?_,fun k' q1 q2=>?_⟩)
 ·exact hF1.1 k' (Nat.lt_succ_of_lt q1) q2
 ·exact (h2 k' (Nat.lt_trans q2 (by decide))).trans (hF1.2 k' (Nat.lt_succ_of_lt q1) q2)
theorem Yl4 {b:List UInt8} (hs:b.length<=Qd):Yp PG 105 (Bl b) [] (fun r=>r=.s b) fun _ _ _ _=>True:=by
 intro d st k v hk ⟨c0,o,h1,h2,h3,h4⟩
 cases o with
 | ext=>exact h3.elim
 | full=>
  have hb:b=[]:=List.length_eq_zero_iff.1 h3
  subst hb
  refine ⟨.s [],st,⟨1,?_⟩,rfl,trivial,fun _ _ _=>rfl,fun k' _ h8=>rfl⟩
  simp only [Km,H.f105,H.o105,H.s105,Ck,h1]
  exact if_pos ⟨rfl,h4⟩
 | id q w=>
  obtain ⟨h5,h6,h7⟩:=h3
  refine ⟨.s b,{ st with ow:=del st.ow q },⟨1,?_⟩,rfl,trivial,fun _ _ _=>rfl,fun k' _ h8=>?_⟩
  ·simp only [Km,H.f105,H.o105,H.s105,Ck,h1,Wai,h5]
   rw [if_pos ⟨trivial,h4,trivial,by simp,h6,h7,hs⟩]
  ·show lk (del st.ow q) k'=_
   rw [Ab,if_neg (by rintro rfl;exact absurd h8 (Nat.not_lt.2 (Nat.le_trans (by decide) h7)))]
end
end Go.AM

/- Yf of the proof. -/
namespace Go.AM
open Go
inductive Zb where
 | mk (kind int:Int) (text:List UInt8) (list:List Zb) (cut:Bool)
def Zb.kind:Zb->Int | .mk k _ _ _ _=>k
def Zb.int:Zb->Int | .mk _ n _ _ _=>n
def Zb.text:Zb->List UInt8 | .mk _ _ s _ _=>s
def Zb.list:Zb->List Zb | .mk _ _ _ l _=>l
def Zb.cut:Zb->Bool | .mk _ _ _ _ c=>c
def Zb.zero:Zb:=.mk 0 0 [] [] false
mutual
def Zb.row:Zb->List AV
 | .mk k n s l c=>[.i .u8 k,.i .i64 n,.s s,.sl .ext (Zb.rows l),.b c]
def Zb.rows:List Zb->List (List AV)
 | []=>[]
 | v::l=>Zb.row v::Zb.rows l
end
theorem Zb.rows_eq :∀l:List Zb,Zb.rows l=l.map Zb.row
 | []=>rfl
 | v::l=>by rw [Zb.rows,Zb.rows_eq l];rfl
theorem Zb.row_eq (v:Zb):v.row=[.i .u8 v.kind,.i .i64 v.int,.s v.text,.sl .ext (v.list.map Zb.row),.b v.cut]:=by
 cases v with
 | mk k n s l c=>rw [Zb.row,Zb.rows_eq];rfl
theorem Zb.row_len (v:Zb):v.row.length=5:=by rw [Zb.row_eq];rfl
abbrev Zb.av (v:Zb):AV:=.ag [.i .u8 v.kind,.i .i64 v.int,.s v.text,.sl .ext (List.map Zb.row v.list),.b v.cut]
abbrev Zb.avo (v:Zb) (o:Zl):AV:=.ag [.i .u8 v.kind,.i .i64 v.int,.s v.text,.sl o (List.map Zb.row v.list),.b v.cut]
structure Sc where
 left:List UInt8
def Sc.row (x:Sc):List AV:=[.s x.left]
theorem Sc.row_eq (x:Sc):x.row=[.s x.left]:=rfl
def Sc.zero:Sc:=⟨[]⟩
end Go.AM

/- Yf of the proof. -/
namespace Go.AM
open Go
structure Yz where
 name:List UInt8
 type:Int
def Yz.row (x:Yz):List AV:=[.s x.name,.i .i64 x.type]
theorem Yz.row_eq (x:Yz):x.row=[.s x.name,.i .i64 x.type]:=rfl
def Yz.zero:Yz:=⟨[],0⟩
abbrev Yz.av (x:Yz):AV:=.ag [.s x.name,.i .i64 x.type]
structure Jn where
 op:Int
 a:Int
 b:Int
 c:Int
def Jn.row (x:Jn):List AV:=[.i .u8 x.op,.i .i64 x.a,.i .i64 x.b,.i .i64 x.c]
theorem Jn.row_eq (x:Jn):x.row=[.i .u8 x.op,.i .i64 x.a,.i .i64 x.b,.i .i64 x.c]:=rfl
def Jn.zero:Jn:=⟨0,0,0,0⟩
abbrev Jn.av (x:Jn):AV:=.ag [.i .u8 x.op,.i .i64 x.a,.i .i64 x.b,.i .i64 x.c]
structure Vg where
 start:Int
 value:Int
def Vg.row (x:Vg):List AV:=[.i .i64 x.start,.i .u64 x.value]
theorem Vg.row_eq (x:Vg):x.row=[.i .i64 x.start,.i .u64 x.value]:=rfl
def Vg.zero:Vg:=⟨0,0⟩
abbrev Vg.av (x:Vg):AV:=.ag [.i .i64 x.start,.i .u64 x.value]
structure Wu where
 kind:Int
 elem:Int
 len:Int
 fields:List Yz
def Wu.row (x:Wu):List AV:=[.i .u8 x.kind,.i .i64 x.elem,.i .i64 x.len,.sl .ext (List.map Yz.row x.fields)]
theorem Wu.row_eq (x:Wu):x.row=[.i .u8 x.kind,.i .i64 x.elem,.i .i64 x.len,.sl .ext (List.map Yz.row x.fields)]:=rfl
def Wu.zero:Wu:=⟨0,0,0,[]⟩
abbrev Wu.av (x:Wu):AV:=.ag [.i .u8 x.kind,.i .i64 x.elem,.i .i64 x.len,.sl .ext (List.map Yz.row x.fields)]
abbrev Wu.avo (x:Wu) (o:Zl):AV:=.ag [.i .u8 x.kind,.i .i64 x.elem,.i .i64 x.len,.sl o (List.map Yz.row x.fields)]
structure Yb where
 name:List UInt8
 params:Int
 result:Int
 slots:List Yz
 code:List Jn
 sizes:List Vg
 lives:List Vg
def Yb.row (x:Yb):List AV:=[.s x.name,.i .i64 x.params,.i .i64 x.result,.sl .ext (List.map Yz.row x.slots),.sl .ext (List.map Jn.row x.code),.sl .ext (List.map Vg.row x.sizes),.sl .ext (List.map Vg.row x.lives)]
theorem Yb.row_eq (x:Yb):x.row=[.s x.name,.i .i64 x.params,.i .i64 x.result,.sl .ext (List.map Yz.row x.slots),.sl .ext (List.map Jn.row x.code),.sl .ext (List.map Vg.row x.sizes),.sl .ext (List.map Vg.row x.lives)]:=rfl
def Yb.zero:Yb:=⟨[],0,0,[],[],[],[]⟩
abbrev Yb.av (x:Yb):AV:=.ag [.s x.name,.i .i64 x.params,.i .i64 x.result,.sl .ext (List.map Yz.row x.slots),.sl .ext (List.map Jn.row x.code),.sl .ext (List.map Vg.row x.sizes),.sl .ext (List.map Vg.row x.lives)]
structure Zf where
 types:List Wu
 texts:List (List UInt8)
 funcs:List Yb
def Zf.row (x:Zf):List AV:=[.sl .ext (List.map Wu.row x.types),.sl .ext (List.map Zv x.texts),.sl .ext (List.map Yb.row x.funcs)]
theorem Zf.row_eq (x:Zf):x.row=[.sl .ext (List.map Wu.row x.types),.sl .ext (List.map Zv x.texts),.sl .ext (List.map Yb.row x.funcs)]:=rfl
def Zf.zero:Zf:=⟨[],[],[]⟩
abbrev Zf.av (x:Zf):AV:=.ag [.sl .ext (List.map Wu.row x.types),.sl .ext (List.map Zv x.texts),.sl .ext (List.map Yb.row x.funcs)]
structure Zz where
 slot:Int
 value:Zb
def Zz.row (x:Zz):List AV:=[.i .i64 x.slot,.i .u8 x.value.kind,.i .i64 x.value.int,.s x.value.text,.sl .ext (List.map Zb.row x.value.list),.b x.value.cut]
theorem Zz.row_eq (x:Zz):x.row=[.i .i64 x.slot,.i .u8 x.value.kind,.i .i64 x.value.int,.s x.value.text,.sl .ext (List.map Zb.row x.value.list),.b x.value.cut]:=rfl
theorem Zz.row_len (x:Zz):x.row.length=6:=rfl
def Zz.zero:Zz:=⟨0,Zb.zero⟩
abbrev Zz.av (x:Zz):AV:=.ag [.i .i64 x.slot,.i .u8 x.value.kind,.i .i64 x.value.int,.s x.value.text,.sl .ext (List.map Zb.row x.value.list),.b x.value.cut]
abbrev Zz.avo (x:Zz) (o:Zl):AV:=.ag [.i .i64 x.slot,.i .u8 x.value.kind,.i .i64 x.value.int,.s x.value.text,.sl o (List.map Zb.row x.value.list),.b x.value.cut]
structure Zg where
 func:Int
 pos:Int
 mode:Int
 locals:List Zz
def Zg.row (x:Zg):List AV:=[.i .i64 x.func,.i .i64 x.pos,.i .u64 x.mode,.sl .ext (List.map Zz.row x.locals)]
theorem Zg.row_eq (x:Zg):x.row=[.i .i64 x.func,.i .i64 x.pos,.i .u64 x.mode,.sl .ext (List.map Zz.row x.locals)]:=rfl
theorem Zg.row_len (x:Zg):x.row.length=4:=rfl
def Zg.zero:Zg:=⟨0,0,0,[]⟩
abbrev Zg.av (x:Zg):AV:=.ag [.i .i64 x.func,.i .i64 x.pos,.i .u64 x.mode,.sl .ext (List.map Zz.row x.locals)]
abbrev Zg.avo (x:Zg) (o:Zl):AV:=.ag [.i .i64 x.func,.i .i64 x.pos,.i .u64 x.mode,.sl o (List.map Zz.row x.locals)]
structure Zh where
 tag:Int
 value:Zb
 flags:Int
def Zh.row (x:Zh):List AV:=[.i .u64 x.tag,.i .u8 x.value.kind,.i .i64 x.value.int,.s x.value.text,.sl .ext (List.map Zb.row x.value.list),.b x.value.cut,.i .u64 x.flags]
theorem Zh.row_eq (x:Zh):x.row=[.i .u64 x.tag,.i .u8 x.value.kind,.i .i64 x.value.int,.s x.value.text,.sl .ext (List.map Zb.row x.value.list),.b x.value.cut,.i .u64 x.flags]:=rfl
theorem Zh.row_len (x:Zh):x.row.length=7:=rfl
def Zh.zero:Zh:=⟨0,Zb.zero,0⟩
abbrev Zh.av (x:Zh):AV:=.ag [.i .u64 x.tag,.i .u8 x.value.kind,.i .i64 x.value.int,.s x.value.text,.sl .ext (List.map Zb.row x.value.list),.b x.value.cut,.i .u64 x.flags]
abbrev Zh.avo (x:Zh) (o:Zl):AV:=.ag [.i .u64 x.tag,.i .u8 x.value.kind,.i .i64 x.value.int,.s x.value.text,.sl o (List.map Zb.row x.value.list),.b x.value.cut,.i .u64 x.flags]
structure Zq where
 frame:Int
 func:Int
 hasArg:Bool
 arg:Zb
def Zq.row (x:Zq):List AV:=[.i .i64 x.frame,.i .i64 x.func,.b x.hasArg,.i .u8 x.arg.kind,.i .i64 x.arg.int,.s x.arg.text,.sl .ext (List.map Zb.row x.arg.list),.b x.arg.cut]
theorem Zq.row_eq (x:Zq):x.row=[.i .i64 x.frame,.i .i64 x.func,.b x.hasArg,.i .u8 x.arg.kind,.i .i64 x.arg.int,.s x.arg.text,.sl .ext (List.map Zb.row x.arg.list),.b x.arg.cut]:=rfl
theorem Zq.row_len (x:Zq):x.row.length=8:=rfl
def Zq.zero:Zq:=⟨0,0,false,Zb.zero⟩
abbrev Zq.av (x:Zq):AV:=.ag [.i .i64 x.frame,.i .i64 x.func,.b x.hasArg,.i .u8 x.arg.kind,.i .i64 x.arg.int,.s x.arg.text,.sl .ext (List.map Zb.row x.arg.list),.b x.arg.cut]
abbrev Zq.avo (x:Zq) (o:Zl):AV:=.ag [.i .i64 x.frame,.i .i64 x.func,.b x.hasArg,.i .u8 x.arg.kind,.i .i64 x.arg.int,.s x.arg.text,.sl o (List.map Zb.row x.arg.list),.b x.arg.cut]
structure Zk where
 status:Int
 key:Int
 frames:List Zg
 defers:List Zq
 panics:List Zh
def Zk.row (x:Zk):List AV:=[.i .u8 x.status,.i .i64 x.key,.sl .ext (List.map Zg.row x.frames),.sl .ext (List.map Zq.row x.defers),.sl .ext (List.map Zh.row x.panics)]
theorem Zk.row_eq (x:Zk):x.row=[.i .u8 x.status,.i .i64 x.key,.sl .ext (List.map Zg.row x.frames),.sl .ext (List.map Zq.row x.defers),.sl .ext (List.map Zh.row x.panics)]:=rfl
theorem Zk.row_len (x:Zk):x.row.length=5:=rfl
def Zk.zero:Zk:=⟨0,0,[],[],[]⟩
abbrev Zk.av (x:Zk):AV:=.ag [.i .u8 x.status,.i .i64 x.key,.sl .ext (List.map Zg.row x.frames),.sl .ext (List.map Zq.row x.defers),.sl .ext (List.map Zh.row x.panics)]
structure Zu where
 outcome:Int
 failing:Int
 steps:Int
 routines:List Zk
def Zu.row (x:Zu):List AV:=[.i .u8 x.outcome,.i .i64 x.failing,.i .i64 x.steps,.sl .ext (List.map Zk.row x.routines)]
theorem Zu.row_eq (x:Zu):x.row=[.i .u8 x.outcome,.i .i64 x.failing,.i .i64 x.steps,.sl .ext (List.map Zk.row x.routines)]:=rfl
def Zu.zero:Zu:=⟨0,0,0,[]⟩
abbrev Zu.av (x:Zu):AV:=.ag [.i .u8 x.outcome,.i .i64 x.failing,.i .i64 x.steps,.sl .ext (List.map Zk.row x.routines)]
abbrev Zu.avo (x:Zu) (o:Zl):AV:=.ag [.i .u8 x.outcome,.i .i64 x.failing,.i .i64 x.steps,.sl o (List.map Zk.row x.routines)]
structure Ds where
 kind:Int
 g:Int
 k:Int
 key:Int
 name:List UInt8
def Ds.row (x:Ds):List AV:=[.i .u8 x.kind,.i .i64 x.g,.i .i64 x.k,.i .i64 x.key,.s x.name]
theorem Ds.row_eq (x:Ds):x.row=[.i .u8 x.kind,.i .i64 x.g,.i .i64 x.k,.i .i64 x.key,.s x.name]:=rfl
def Ds.zero:Ds:=⟨0,0,0,0,[]⟩
abbrev Ds.av (x:Ds):AV:=.ag [.i .u8 x.kind,.i .i64 x.g,.i .i64 x.k,.i .i64 x.key,.s x.name]
end Go.AM

/- Helpers of the packed texts (pack.py): short operations, short steps. -/
namespace Go.AM
open Go
theorem J {α:Sort _} {a:α}:a=a:=rfl
abbrev oI (d:Nat) (n:Int):AI:=⟨some d,.mv (.c (.i .i64 n)),none⟩
abbrev oU (d:Nat) (n:Int):AI:=⟨some d,.mv (.c (.i .u8 n)),none⟩
abbrev oT (d:Nat) (op:BinOp) (a b:Nat):AI:=⟨some d,.bin op (.t a) (.t b),none⟩
abbrev oV (d:Nat) (op:BinOp) (a:Nat) (n:Int):AI:=⟨some d,.bin op (.t a) (.c (.i .i64 n)),none⟩
abbrev oW (d:Nat) (op:BinOp) (a:Nat) (n:Int):AI:=⟨some d,.bin op (.t a) (.c (.i .u8 n)),none⟩
abbrev oK (d n a:Nat):AI:=⟨some d,.load n true (.t a),none⟩
abbrev oA (d a b:Nat):AI:=⟨some d,.pick (.t a) (.t b) (.c (.b false)),none⟩
abbrev oR (d a b:Nat):AI:=⟨some d,.pick (.t a) (.c (.b true)) (.t b),none⟩
abbrev ts:List Nat->List Zr
 | []=>[]
 | a::r=>.t a::ts r
abbrev oQ (d f:Nat) (l:List Nat):AI:=⟨some d,.call false f (ts l),none⟩
abbrev oX (d n a b:Nat):AI:=⟨some d,.iaL n (.t a) (.t b),none⟩
abbrev oJ (d a:Nat):AI:=⟨some d,.len false (.t a),none⟩
abbrev oH (d a:Nat):AI:=⟨some d,.len true (.t a),none⟩
abbrev oY (d n a:Nat):AI:=⟨some d,.box n (.t a),none⟩
abbrev oZ (d a:Nat):AI:=⟨some d,.un .not (.t a),none⟩
abbrev gT (g:Nat) (a:AI):AI:=⟨a.dst,a.op,some (g,true)⟩
abbrev gF (g:Nat) (a:AI):AI:=⟨a.dst,a.op,some (g,false)⟩
abbrev z8:AV:=.i .u8 0
abbrev z6:AV:=.i .i64 0
abbrev z7:AV:=.i .u64 0
abbrev zs:AV:=.s []
abbrev zl:AV:=.sl .full []
abbrev zb:AV:=.b false
abbrev Zk.cs (V:Zk):List AV:=[.i .u8 V.status,.i .i64 V.key,.sl .ext (List.map Zg.row V.frames),.sl .ext (List.map Zq.row V.defers),.sl .ext (List.map Zh.row V.panics)]
abbrev Zf.cs (V:Zf):List AV:=[.sl .ext (List.map Wu.row V.types),.sl .ext (List.map Zv V.texts),.sl .ext (List.map Yb.row V.funcs)]
abbrev Yb.cs (V:Yb):List AV:=[.s V.name,.i .i64 V.params,.i .i64 V.result,.sl .ext (List.map Yz.row V.slots),.sl .ext (List.map Jn.row V.code),.sl .ext (List.map Vg.row V.sizes),.sl .ext (List.map Vg.row V.lives)]
abbrev Ds.cs (V:Ds):List AV:=[.i .u8 V.kind,.i .i64 V.g,.i .i64 V.k,.i .i64 V.key,.s V.name]
abbrev Zb.cs (V:Zb):List AV:=[.i .u8 V.kind,.i .i64 V.int,.s V.text,.sl .ext (List.map Zb.row V.list),.b V.cut]
abbrev Zg.cs (V:Zg):List AV:=[.i .i64 V.func,.i .i64 V.pos,.i .u64 V.mode,.sl .ext (List.map Zz.row V.locals)]
abbrev Zu.cs (V:Zu):List AV:=[.i .u8 V.outcome,.i .i64 V.failing,.i .i64 V.steps,.sl .ext (List.map Zk.row V.routines)]
abbrev Zh.cs (V:Zh):List AV:=[.i .u64 V.tag,.i .u8 V.value.kind,.i .i64 V.value.int,.s V.value.text,.sl .ext (List.map Zb.row V.value.list),.b V.value.cut,.i .u64 V.flags]
abbrev sR (n:Nat) (r:List AI) (c:AC):AC:=.seq (.reg n r) c
section
variable {PG:Za} {d id base i:Nat} {σ:Sl} {st:St} {K:Sl->St->Prop} {r:List AI} {o o2 o3 o4:Option Nat} {p p2 p3 p4:Ww} {g g2 g3 g4:Nat}
theorem nT (hg:σ g=.b true) (h:WO PG d id base (i+1) r (Zw σ o (.tup [])) st K):WO PG d id base i (⟨o,p,some (g,false)⟩::r) σ st K:=Zge hg rfl h
theorem nF (hg:σ g=.b false) (h:WO PG d id base (i+1) r (Zw σ o (.tup [])) st K):WO PG d id base i (⟨o,p,some (g,true)⟩::r) σ st K:=Zge hg rfl h
theorem nT2 (hg:σ g=.b true) (hg2:Zw σ o (.tup []) g2=.b true) (h:WO PG d id base (i+1+1) r (Zw (Zw σ o (.tup [])) o2 (.tup [])) st K):WO PG d id base i (⟨o,p,some (g,false)⟩::⟨o2,p2,some (g2,false)⟩::r) σ st K:=nT hg (nT hg2 h)
theorem nF2 (hg:σ g=.b false) (hg2:Zw σ o (.tup []) g2=.b false) (h:WO PG d id base (i+1+1) r (Zw (Zw σ o (.tup [])) o2 (.tup [])) st K):WO PG d id base i (⟨o,p,some (g,true)⟩::⟨o2,p2,some (g2,true)⟩::r) σ st K:=nF hg (nF hg2 h)
theorem nT3 (hg:σ g=.b true) (hg2:Zw σ o (.tup []) g2=.b true) (hg3:Zw (Zw σ o (.tup [])) o2 (.tup []) g3=.b true) (h:WO PG d id base (i+1+1+1) r (Zw (Zw (Zw σ o (.tup [])) o2 (.tup [])) o3 (.tup [])) st K):WO PG d id base i (⟨o,p,some (g,false)⟩::⟨o2,p2,some (g2,false)⟩::⟨o3,p3,some (g3,false)⟩::r) σ st K:=nT hg (nT2 hg2 hg3 h)
theorem nF3 (hg:σ g=.b false) (hg2:Zw σ o (.tup []) g2=.b false) (hg3:Zw (Zw σ o (.tup [])) o2 (.tup []) g3=.b false) (h:WO PG d id base (i+1+1+1) r (Zw (Zw (Zw σ o (.tup [])) o2 (.tup [])) o3 (.tup [])) st K):WO PG d id base i (⟨o,p,some (g,true)⟩::⟨o2,p2,some (g2,true)⟩::⟨o3,p3,some (g3,true)⟩::r) σ st K:=nF hg (nF2 hg2 hg3 h)
theorem nT4 (hg:σ g=.b true) (hg2:Zw σ o (.tup []) g2=.b true) (hg3:Zw (Zw σ o (.tup [])) o2 (.tup []) g3=.b true) (hg4:Zw (Zw (Zw σ o (.tup [])) o2 (.tup [])) o3 (.tup []) g4=.b true) (h:WO PG d id base (i+1+1+1+1) r (Zw (Zw (Zw (Zw σ o (.tup [])) o2 (.tup [])) o3 (.tup [])) o4 (.tup [])) st K):WO PG d id base i (⟨o,p,some (g,false)⟩::⟨o2,p2,some (g2,false)⟩::⟨o3,p3,some (g3,false)⟩::⟨o4,p4,some (g4,false)⟩::r) σ st K:=nT hg (nT3 hg2 hg3 hg4 h)
theorem nF4 (hg:σ g=.b false) (hg2:Zw σ o (.tup []) g2=.b false) (hg3:Zw (Zw σ o (.tup [])) o2 (.tup []) g3=.b false) (hg4:Zw (Zw (Zw σ o (.tup [])) o2 (.tup [])) o3 (.tup []) g4=.b false) (h:WO PG d id base (i+1+1+1+1) r (Zw (Zw (Zw (Zw σ o (.tup [])) o2 (.tup [])) o3 (.tup [])) o4 (.tup [])) st K):WO PG d id base i (⟨o,p,some (g,true)⟩::⟨o2,p2,some (g2,true)⟩::⟨o3,p3,some (g3,true)⟩::⟨o4,p4,some (g4,true)⟩::r) σ st K:=nF hg (nF3 hg2 hg3 hg4 h)
end
end Go.AM
namespace Go.AM
open Go
/-! what a function returns, by shape -/
section
variable {α β γ:Type}
abbrev H1 (e:α->AV) (s:Nat) (Q:AE->Sl->St->Prop) (K:α->Prop):Prop:=∀⦃σ:Sl⦄ ⦃st:St⦄ ⦃a:α⦄,σ s=e a->K a->Q .ret σ st
abbrev H2 (e:α->AV) (f:β->AV) (s t:Nat) (Q:AE->Sl->St->Prop) (K:α->β->Prop):Prop:=∀⦃σ:Sl⦄ ⦃st:St⦄ ⦃a:α⦄ ⦃b:β⦄,σ s=e a->σ t=f b->K a b->Q .ret σ st
abbrev HL (e:α->List AV) (s:Nat) (Q:AE->Sl->St->Prop) (K:List α->Prop):Prop:=∀⦃σ:Sl⦄ ⦃st:St⦄ ⦃o:Zl⦄ ⦃a:List α⦄,σ s=.sl o (List.map e a)->K a->Q .ret σ st
abbrev HM (e:α->List AV) (f:β->AV) (s t:Nat) (Q:AE->Sl->St->Prop) (K:List α->β->Prop):Prop:=∀⦃σ:Sl⦄ ⦃st:St⦄ ⦃o:Zl⦄ ⦃a:List α⦄ ⦃b:β⦄,σ s=.sl o (List.map e a)->σ t=f b->K a b->Q .ret σ st
abbrev HF (d:Nat) (Zj:St) (e:α->AV) (s:Nat) (Q:AE->Sl->St->Prop) (K:α->Prop):Prop:=∀⦃σ:Sl⦄ ⦃st:St⦄ ⦃a:α⦄,σ s=e a->Fr d (d,0) Zj.bx Zj.ow st.bx st.ow->K a->Q .ret σ st
abbrev HD (d:Nat) (Zj:St) (kp:Zo) (vp:Nat) (B:γ->BC) (e:α->AV) (s:Nat) (Q:AE->Sl->St->Prop) (K:α->γ->Prop):Prop:=∀⦃σ:Sl⦄ ⦃st:St⦄ ⦃a:α⦄ ⦃b:γ⦄,σ s=e a->B b st.bx st.ow kp vp->Fr d kp Zj.bx Zj.ow st.bx st.ow->K a b->Q .ret σ st
variable {PG:Za} {f:Nat} {F:AF} {args:List AV} {s t:Nat}
abbrev Q1 (F:AF) (R:AV->Prop):AE->Sl->St->Prop:=Re 0 F.res fun r _=>∃v,r.strip=some v/\R v
theorem h1 {e:α->AV} {K:α->Prop} (hr:F.res=[.tmp s]) (he :∀a,(e a).strip=some (e a)):H1 e s (Q1 F fun v=>∃a,K a/\v=e a) K:=by
 intro σ st a h k
 exact ⟨e a,by simp only [hr,Xg,Ki,h],_,he a,a,k,rfl⟩
theorem h2 {e:α->AV} {g:β->AV} {K:α->β->Prop} (hr:F.res=[.tmp s,.tmp t]) (he :∀a b,(AV.tup [e a,g b]).strip=some (AV.tup [e a,g b])):H2 e g s t (Q1 F fun v=>∃a b,K a b/\v=.tup [e a,g b]) K:=by
 intro σ st a b h h' k
 exact ⟨.tup [e a,g b],by simp only [hr,Xg,Vc,Ki,h,h',Option.map_some],_,he a b,a,b,k,rfl⟩
theorem hL {e:α->List AV} {K:List α->Prop} (hr:F.res=[.tmp s]):HL e s (Q1 F fun v=>∃a,K a/\v=.sl .ext (List.map e a)) K:=by
 intro σ st o a h k
 exact ⟨.sl o (List.map e a),by simp only [hr,Xg,Ki,h],_,rfl,a,k,rfl⟩
theorem hM {e:α->List AV} {g:β->AV} {K:List α->β->Prop} (hr:F.res=[.tmp s,.tmp t]) (he :∀o a b,(AV.tup [.sl o (List.map e a),g b]).strip=some (AV.tup [.sl .ext (List.map e a),g b])):HM e g s t (Q1 F fun v=>∃a b,K a b/\v=.tup [.sl .ext (List.map e a),g b]) K:=by
 intro σ st o a b h h' k
 exact ⟨.tup [.sl o (List.map e a),g b],by simp only [hr,Xg,Vc,Ki,h,h',Option.map_some],_,he o a b,a,b,k,rfl⟩
theorem P1 {e:α->AV} {K:α->Prop} (hf:PG.fn f=some F) (hn:Nat.ble args.length F.nt=true) (w:W PG 0 F.body (Xz args) Zj (Q1 F fun v=>∃a,K a/\v=e a)) :∃a,K a/\Ze PG f args (e a):=by
 obtain ⟨v,hv,a,hk,rfl⟩:=Ze.of hf hn w
 exact ⟨a,hk,hv⟩
theorem P2 {e:α->β->AV} {K:α->β->Prop} (hf:PG.fn f=some F) (hn:Nat.ble args.length F.nt=true) (w:W PG 0 F.body (Xz args) Zj (Q1 F fun v=>∃a b,K a b/\v=e a b)) :∃a b,K a b/\Ze PG f args (e a b):=by
 obtain ⟨v,hv,a,b,hk,rfl⟩:=Ze.of hf hn w
 exact ⟨a,b,hk,hv⟩
theorem PF {e:α->AV} {K:α->Prop} (hf:PG.fn f=some F) (hn:Nat.ble args.length F.nt=true) (hr:F.res=[.tmp s]) (w :∀(d:Nat) (st:St) (Q:AE->Sl->St->Prop),HF d st e s Q K->W PG d F.body (Xz args) st Q):Ym PG f args fun r=>∃a,r=e a/\K a:=
 Ym.of hf hn fun d st=>w d st _ (by
  intro σ st' a h hf hk
  exact ⟨.inr rfl,e a,by simp only [hr,Xg,Ki,h],⟨a,rfl,hk⟩,hf⟩)
theorem PD {B0:BC} {B:γ->BC} {e:α->AV} {K:α->γ->Prop} (hf:PG.fn f=some F) (hn:Nat.ble (args.length+1) F.nt=true) (hr:F.res=[.tmp s]) (ho :∀b,Rf (B b)) (w :∀(d:Nat) (st:St) (kp:Zo) (vp:Nat),kp.1<d->B0 st.bx st.ow kp vp->∀(Q:AE->Sl->St->Prop),HD d st kp vp B e s Q K->W PG d F.body (Xz (.p kp vp 0::args)) st Q):Qk PG f B0 args (fun r b=>∃a,r=e a/\K a b) B:=
 Qk.of hf hn ho fun d st kp vp hkp hB=>w d st kp vp hkp hB _ (by
  intro σ st' a b h hb hf hk
  exact ⟨.inr rfl,e a,b,by simp only [hr,Xg,Ki,h],⟨a,rfl,hk⟩,hb,hf⟩)
end
end Go.AM
namespace Go.AM
open Go
/-! steps whose guards and bits are known -/
def Eo (a:AI) (σ:Sl):Option AV:=
 match a.guard with
 | some (g,w)=>match σ g with | .b b=>(match w,b with | true,false=>some (.tup []) | false,true=>some (.tup []) | _,_=>none) | .tup []=>some (.tup []) | _=>none
 | none=>match a.op with
  | .pick c x y=>match c.ev σ with | .b t=>(match (bif t then x else y).ev σ with | .b z=>some (.b z) | _=>none) | _=>none
  | .mv x=>match x.ev σ with | .b z=>some (.b z) | _=>none
  | _=>none
def skp:Nat->List AI->Sl->Nat->Option (List AI × Sl × Nat)
 | 0,ops,σ,i=>some (ops,σ,i)
 | n+1,a::r,σ,i=>match Eo a σ with | some v=>skp n r (Zw σ a.dst v) (i+1) | none=>none
 | _+1,[],_,_=>none
section
variable {PG:Za} {d id base i:Nat} {σ:Sl} {st:St} {K:Sl->St->Prop}
theorem Zzw {a:AI} {r:List AI} {v:AV} (hs:Eo a σ=some v) (h:WO PG d id base (i+1) r (Zw σ a.dst v) st K):WO PG d id base i (a::r) σ st K:=by
 obtain ⟨t,op,g⟩:=a
 cases g with
 | some gw=>
  obtain ⟨g,w⟩:=gw
  simp only [Eo] at hs
  split at hs
  ·rename_i b hg
   cases w<;>cases b<;>first | (cases hs;done) | (injection hs with hs;subst hs;exact Zge hg rfl h)
  ·rename_i hg
   injection hs with hs
   subst hs
   exact Zv0 hg h
  ·cases hs
 | none=>
  simp only [Eo] at hs
  split at hs
  ·rename_i c x y
   split at hs
   ·rename_i b hc
    split at hs
    ·rename_i z hz
     injection hs with hs
     subst hs
     cases b with
     | true=>exact Yjj hc hz h
     | false=>exact Yfs hc hz h
    ·cases hs
   ·cases hs
  ·rename_i x
   split at hs
   ·rename_i z hz
    injection hs with hs
    subst hs
    exact Ve hz h
   ·cases hs
  ·cases hs
theorem Ztm :∀(n:Nat) {ops ops':List AI} {σ σ':Sl} {i i':Nat},skp n ops σ i=some (ops',σ',i')->WO PG d id base i' ops' σ' st K->WO PG d id base i ops σ st K
 | 0,_,_,_,_,_,_,hs,h=>by
  injection hs with hs
  injection hs with h1 hs
  injection hs with h2 h3
  subst h1 h2 h3
  exact h
 | n+1,[],_,_,_,_,_,hs,_=>by cases hs
 | n+1,a::r,_,σ,_,_,_,hs,h=>by
  simp only [skp] at hs
  split at hs
  ·rename_i v hv
   exact Zzw hv (Ztm n hs h)
  ·cases hs
theorem z_ (n:Nat) {ops ops':List AI} {σ':Sl} {i':Nat} (hs:skp n ops σ i=some (ops',σ',i')) (h:WO PG d id base i' ops' σ' st K):WO PG d id base i ops σ st K:=Ztm n hs h
theorem Zp {Q:AE->Sl->St->Prop} (h:Q .ret σ st):WO PG d id base i [] σ st fun σ st=>W PG d .ret σ st Q:=Gc (W.ret h)
variable {x y z u:Zr} {v v2 v3 v4 w w2 w3 w4:AV}
theorem Wm (h:x.ev σ=v) (s:v.strip=some w):AV.strips (Vb σ [x])=some [w]:=sc h s sn
theorem Vq (h:x.ev σ=v) (h2:y.ev σ=v2) (s:(AV.strips [v,v2])=some [w,w2]):AV.strips (Vb σ [x,y])=some [w,w2]:=by
 rw [<- s];simp only [Vb,h,h2]
theorem sc3 (h:x.ev σ=v) (h2:y.ev σ=v2) (h3:z.ev σ=v3) (s:(AV.strips [v,v2,v3])=some [w,w2,w3]):AV.strips (Vb σ [x,y,z])=some [w,w2,w3]:=by
 rw [<- s];simp only [Vb,h,h2,h3]
theorem sc4 (h:x.ev σ=v) (h2:y.ev σ=v2) (h3:z.ev σ=v3) (h4:u.ev σ=v4) (s:(AV.strips [v,v2,v3,v4])=some [w,w2,w3,w4]):AV.strips (Vb σ [x,y,z,u])=some [w,w2,w3,w4]:=by
 rw [<- s];simp only [Vb,h,h2,h3,h4]
theorem x2 {α β:Type} {p:α->β->Prop} {c:Prop} (h :∃a b,p a b) (k :∀a b,p a b->c):c:=h.elim fun a h=>h.elim fun b h=>k a b h
theorem x1 {α:Type} {p:α->Prop} {c:Prop} (h :∃a,p a) (k :∀a,p a->c):c:=h.elim k
end
end Go.AM

/- Yf of the proof. -/
namespace Go.AM
open Go Go.RowKit
def HasC (T:Xo):Nat->TypeId->List AV->Prop
 | 0,_,_=>False
 | f+1,t,vsA=>match T t with
  | some i=>match i.kind with
   | .int k=>∃n,vsA=[.i k n]/\k.min<=n/\n<=k.max
   | .bool=>∃b,vsA=[.b b]
   | .str=>∃s,vsA=[.s s]/\s.length<=maxLen
   | .sl e=>∃rows,vsA=[.sl .ext rows]/\rows.length<=maxLen/\(∀r∈rows,HasC T f e r)/\∀j,T e=some j->∀r∈rows,r.length=j.size
   | .st fs=>∀x∈fs,∃j,T x.1=some j/\HasC T f x.1 ((vsA.drop x.2).take j.size)
   | _=>False
  | none=>False
def Eh (T:Xo):Nat->List (Nat × Nat)->Option Nat
 | off,[]=>some off
 | off,(t,o)::r=>match T t with
  | some i=>if o=off then Eh T (off+i.size) r else none
  | none=>none
def Sk (T:Xo) (L:List Nat) (t:Nat):Bool:=
 match T t with
 | some i=>match i.kind with
  | .int _ | .bool | .str=>i.size==1
  | .sl e=>L.contains e&&(match T e with | some j=>decide (0<j.size) | none=>false)
  | .st fs=>(fs.all fun x=>L.contains x.1)&&Eh T 0 fs==some i.size
  | _=>false
 | none=>false
def H0 (w:World):Hp:=fun g o=>match w.cell? ⟨g,o,none⟩ with | some v=>if v.oneCell' then some v else none | none=>none
theorem Yy5 {w:World} {g o:Nat} {v:Value} (h:w.cell? ⟨g,o,none⟩=some v) (h1:v.oneCell'=true):H0 w g o=some v:=by
 simp only [H0,h,h1,if_true]
theorem Xt0 {w:World} {g o:Nat} {v:Value} (h:H0 w g o=some v):w.cell? ⟨g,o,none⟩=some v/\v.oneCell'=true:=by
 unfold H0 at h
 split at h
 ·rename_i v' hv
  split at h
  ·rename_i h1;cases h;exact ⟨hv,h1⟩
  ·cases h
 ·cases h
def Hi (w:World) (vsA:List AV) (cs:List Value):Prop:=vsA.length=cs.length/\∀(j:Nat) a u,vsA[j]?=some a->cs[j]?=some u->Fz (H0 w) a u/\a.one=true
theorem Hi.one {w:World} {a:AV} {u:Value} (h:Fz (H0 w) a u) (h1:a.one=true):Hi w [a] [u]:=by
 refine ⟨rfl,fun j x y hx hy=>?_⟩
 cases j with
 | zero=>simp at hx hy;subst hx;subst hy;exact ⟨h,h1⟩
 | succ j=>simp at hx
theorem Hi.append {w:World} {vsA bs:List AV} {cs ds:List Value} (h:Hi w vsA cs) (k:Hi w bs ds):Hi w (vsA++bs) (cs++ds):=by
 refine ⟨by simp [h.1,k.1],fun j x y hx hy=>?_⟩
 rcases Nat.lt_or_ge j vsA.length with hj | hj
 ·rw [List.getElem?_append_left hj] at hx
  rw [List.getElem?_append_left (by rw [<- h.1];exact hj)] at hy
  exact h.2 j x y hx hy
 ·rw [List.getElem?_append_right hj] at hx
  rw [List.getElem?_append_right (by rw [<- h.1];exact hj),<- h.1] at hy
  exact k.2 _ x y hx hy
section
variable {H:Type} {enc:TypeId × Value->H} {P:Program} {T:Xo} {w:World} {base:Nat} {spare:Nat->Bool} {held:Bool} {L:List Nat}
theorem Zbm (hT:Js P T) {t:Nat} {i:TI} (h:T t=some i):P.cellsOf t=i.size:=by
 obtain ⟨ti,z,h1,h2,_⟩:=(hT t i h).info
 simp [Program.cellsOf,h1,h2]
theorem Zvq (hT:Js P T) {f:Nat} {cs:List Value}
  (ih :∀t,L.contains t=true->∀cs x,DataW.trod enc P w base spare held f t cs=some x->∃vsA,Hi w vsA cs/\HasC T f t vsA) :
  ∀(fs:List (Nat × Nat)) (fields:List Field) (off tot:Nat) xs,fields.map (fun g=>(g.type,g.offset))=fs->Eh T off fs=some tot->tot=cs.length->(fs.all fun x=>L.contains x.1)=true->
   fields.mapM (fun g=>DataW.trod enc P w base spare held f g.type ((cs.drop g.offset).take (P.cellsOf g.type)))=some xs->
   off<=tot/\∃vsA,Hi w vsA (cs.drop off)/\∀x∈fs,off<=x.2/\∃j,T x.1=some j/\HasC T f x.1 ((vsA.drop (x.2-off)).take j.size)
 | [],fields,off,tot,xs,hf,hc,ht,_,_=>by
  cases hc
  refine ⟨Nat.le_refl _,[],⟨by simp [ht],by simp⟩,by simp⟩
 | (t,o)::fs,[],off,tot,xs,hf,hc,ht,_,_=>by cases hf
 | (t,o)::fs,g::fields,off,tot,xs,hf,hc,ht,hL,hm=>by
  simp only [List.map_cons,List.cons.injEq,Prod.mk.injEq] at hf
  obtain ⟨⟨rfl,rfl⟩,hf⟩:=hf
  unfold Eh at hc
  split at hc
  case h_2=>cases hc
  rename_i i hi
  split at hc
  case isFalse=>cases hc
  rename_i ho
  simp only [List.all_cons,Bool.and_eq_true] at hL
  rw [List.mapM_cons] at hm
  simp only [Option.bind_eq_bind,Option.bind_eq_some_iff,Option.pure_def,Option.some.injEq] at hm
  obtain ⟨x,h1,ys,h2,_⟩:=hm
  obtain ⟨hle,bs,hb1,hb2⟩:=Zvq hT ih fs fields _ tot ys hf hc ht hL.2 h2
  rw [Zbm hT hi] at h1
  obtain ⟨vsA,ha1,ha2⟩:=ih _ hL.1 _ _ h1
  have hsz:vsA.length=i.size:=by rw [ha1.1];simp;omega
  refine ⟨by omega,vsA++bs,?_,?_⟩
  ·have:=ha1.append hb1
   rw [ho] at this
   have e:(cs.drop off).take i.size++cs.drop (off+i.size)=cs.drop off:=by
    rw [<- List.drop_drop,List.take_append_drop]
   rwa [e] at this
  ·intro y hy
   rcases List.mem_cons.1 hy with rfl | hy
   ·refine ⟨by simp [ho],i,hi,?_⟩
    simp only [ho,Nat.sub_self,List.drop_zero]
    rw [<- hsz,List.take_left]
    exact ha2
   ·obtain ⟨h3,j,h4,h5⟩:=hb2 y hy
    refine ⟨by omega,j,h4,?_⟩
    have e:y.2-off=vsA.length+(y.2-(off+i.size)):=by omega
    rw [e,<- List.drop_drop,List.drop_left]
    exact h5
theorem Pn {a:Addr} {n:Nat} {cs:List Value} (h:w.cells? base a n=some cs):cs.length=n/\∀(i:Nat),i<n->w.cell? (a.add i)=cs[i]?:=by
 unfold World.cells? at h
 split at h
 case isFalse=>cases h
 have hl:=mapM_some_length h
 simp at hl
 refine ⟨hl,fun i hi=>?_⟩
 exact mapM_some_get h i i (by simp [hi])
theorem Ypb {k:IntKind} {n:Int} (h:(Lit.int k n).wf=true):k.min<=n/\n<=k.max:=by
 simp only [Lit.wf,Bool.and_eq_true,decide_eq_true_eq] at h
 exact h
theorem Ynr {f t:Nat} {cs:List Value} {x:DataW H × List MemPlace} {k:IntKind} (hk:P.underlying t=some (.int k)) (h:DataW.trod enc P w base spare held (f+1) t cs=some x) :∃n,cs=[.int k n]/\k.min<=n/\n<=k.max:=by
 unfold DataW.trod at h
 rw [hk] at h
 split at h
 all_goals rename_i heq
 all_goals first | (injection heq with heq;cases heq;done) | skip
 ·injection heq with heq
  injection heq with heq
  subst heq
  split at h
  ·rename_i hc
   obtain ⟨rfl,hw⟩:=hc
   exact ⟨_,rfl,Ypb hw⟩
  ·cases h
 ·cases h
theorem Wa6 {f t:Nat} {cs:List Value} {x:DataW H × List MemPlace} (hk:P.underlying t=some .bool) (h:DataW.trod enc P w base spare held (f+1) t cs=some x) :∃b,cs=[.bool b]:=by
 unfold DataW.trod at h
 rw [hk] at h
 split at h
 all_goals rename_i heq
 all_goals first | (injection heq with heq;cases heq;done) | skip
 ·exact ⟨_,rfl⟩
 ·cases h
theorem Yrm {f t:Nat} {cs:List Value} {x:DataW H × List MemPlace} (hk:P.underlying t=some .string) (h:DataW.trod enc P w base spare held (f+1) t cs=some x) :∃s,cs=[.string s]/\s.size<=maxLen:=by
 unfold DataW.trod at h
 rw [hk] at h
 split at h
 all_goals rename_i heq
 all_goals first | (injection heq with heq;cases heq;done) | skip
 ·split at h
  ·exact ⟨_,rfl,by assumption⟩
  ·cases h
 ·cases h
theorem Yvb {f t e:Nat} {cs:List Value} {x:DataW H × List MemPlace} (hk:P.underlying t=some (.slice e)) (h:DataW.trod enc P w base spare held (f+1) t cs=some x):cs=[.slice none 0 0]\/
  ∃a len cap,cs=[.slice (some a) len cap]/\len<=cap/\cap<=maxLen/\∀i,i<len->∃cs' y,w.cells? base (a.add (i*P.cellsOf e)) (P.cellsOf e)=some cs'/\DataW.trod enc P w base spare held f e cs'=some y:=by
 unfold DataW.trod at h
 rw [hk] at h
 split at h
 all_goals rename_i heq
 all_goals first | (injection heq with heq;cases heq;done) | skip
 ·exact .inl rfl
 ·injection heq with heq
  injection heq with heq
  subst heq
  refine .inr ⟨_,_,_,rfl,?_⟩
  simp only at h
  split at h
  case isFalse=>cases h
  rename_i hc
  refine ⟨hc.2.1,hc.2.2,fun i hi=>?_⟩
  rw [Option.bind_eq_some_iff] at h
  obtain ⟨elems,h1,_⟩:=h
  have hl:=mapM_some_length h1
  simp at hl
  have:=mapM_some_get h1 i i (by simp [hi])
  rw [List.getElem?_eq_getElem (by omega),Option.bind_eq_some_iff] at this
  obtain ⟨cs',h2,h3⟩:=this
  exact ⟨cs',_,h2,h3⟩
 ·cases h
theorem Yve {f t:Nat} {fs:Array Field} {cs:List Value} {x:DataW H × List MemPlace} (hk:P.underlying t=some (.struct fs)) (h:DataW.trod enc P w base spare held (f+1) t cs=some x):cs.length=P.cellsOf t/\∃xs,fs.toList.mapM (fun g=>DataW.trod enc P w base spare held f g.type ((cs.drop g.offset).take (P.cellsOf g.type)))=some xs:=by
 unfold DataW.trod at h
 rw [hk] at h
 split at h
 all_goals rename_i heq
 all_goals first | (injection heq with heq;cases heq;done) | skip
 ·injection heq with heq
  injection heq with heq
  subst heq
  split at h
  case isFalse=>cases h
  rename_i hc
  rw [Option.map_eq_some_iff] at h
  obtain ⟨xs,h1,_⟩:=h
  exact ⟨hc,xs,h1⟩
 ·simp_all
theorem Zkr {a:Addr} {n:Nat} (h:(w.cell? (a.add n)).isSome=true):a.add n=⟨a.block,a.off+n,none⟩:=by
 unfold Addr.add at h ⊢
 split
 ·rename_i hn
  rw [if_pos hn] at h
  subst hn
  cases ha:a.spot with
  | none=>cases a;cases ha;rfl
  | some x=>
   simp only [World.cell?] at h
   split at h
   ·simp [ha] at h
   ·cases h
 ·rfl
theorem Whf (hT:Js P T) {f e:Nat} {j:TI} (hj:T e=some j) (hj0:0<j.size) (ih :∀cs x,DataW.trod enc P w base spare held f e cs=some x->∃vsA,Hi w vsA cs/\HasC T f e vsA) {a:Addr} {len cap:Nat} (h1:len<=cap)
  (h :∀i,i<len->∃cs' y,w.cells? base (a.add (i*P.cellsOf e)) (P.cellsOf e)=some cs'/\DataW.trod enc P w base spare held f e cs'=some y) :∃rows,Fz (H0 w) (.sl .ext rows) (.slice (some a) len cap)/\rows.length=len/\(∀r∈rows,HasC T f e r)/\∀r∈rows,r.length=j.size:=by
 rw [Zbm hT hj] at h
 have hr :∀i,∃vsA,i<len->∃cs',w.cells? base (a.add (i*j.size)) j.size=some cs'/\Hi w vsA cs'/\HasC T f e vsA:=by
  intro i
  by_cases hi:i<len
  ·obtain ⟨cs',y,h2,h3⟩:=h i hi
   obtain ⟨vsA,h4,h5⟩:=ih cs' y h3
   exact ⟨vsA,fun _=>⟨cs',h2,h4,h5⟩⟩
  ·exact ⟨[],fun h=>absurd h hi⟩
 obtain ⟨g,hg⟩:=Classical.axiomOfChoice hr
 have hrows :∀(i:Nat) row,((List.range len).map g)[i]?=some row->i<len/\row=g i:=by
  intro i row hi
  rw [List.getElem?_map] at hi
  by_cases hl:i<len
  ·rw [List.getElem?_range hl] at hi
   simp at hi
   exact ⟨hl,hi.symm⟩
  ·rw [List.getElem?_eq_none (by simp;omega)] at hi
   cases hi
 have addr :∀i o,i<len->o<j.size->∃v,w.cell? ⟨a.block,a.off+i*j.size+o,none⟩=some v/\∀x,(g i)[o]?=some x->Fz (H0 w) x v/\x.one=true:=by
  intro i o hi ho
  obtain ⟨cs',h2,h3,h4⟩:=hg i hi
  obtain ⟨h5,h6⟩:=Pn h2
  have h7:=h6 o ho
  have h8:cs'[o]?=some cs'[o]:=List.getElem?_eq_getElem (by omega)
  have hx:=h6 0 (by omega)
  rw [List.getElem?_eq_getElem (show 0<cs'.length by omega)] at hx
  have e0:(a.add (i*j.size)).add 0=a.add (i*j.size):=rfl
  rw [e0] at hx
  have e1:=Zkr (w:=w) (a:=a) (n:=i*j.size) (by rw [hx];rfl)
  rw [e1] at h7
  rw [h8] at h7
  have e2:=Zkr (w:=w) (a:=⟨a.block,a.off+i*j.size,none⟩) (n:=o) (by rw [h7];rfl)
  rw [e2] at h7
  exact ⟨_,h7,fun x hx=>h3.2 o x _ hx h8⟩
 refine ⟨(List.range len).map g,?_,by simp,?_,?_⟩
 ·have key:=Fz.sl (H:=H0 w) ((List.range len).map g) (some a) cap j.size a.block a.off (fun i o=>(w.cell? ⟨a.block,a.off+i*j.size+o,none⟩).getD undef) ?_ (by simpa using h1) ?_ ?_ ?_
  ·simpa using key
  ·intro hne
   have hl:0<len:=by
    rcases Nat.eq_zero_or_pos len with h | h
    ·subst h;exact absurd rfl hne
    ·exact h
   obtain ⟨cs',h2,h3,h4⟩:=hg 0 hl
   obtain ⟨h5,h6⟩:=Pn h2
   have hx:=h6 0 (by omega)
   rw [List.getElem?_eq_getElem (show 0<cs'.length by omega)] at hx
   have e0:(a.add (0*j.size)).add 0=a.add (0*j.size):=rfl
   rw [e0,Nat.zero_mul] at hx
   have e1:=Zkr (w:=w) (a:=a) (n:=0) (by rw [hx];rfl)
   have e2:a.add 0=a:=rfl
   rw [e2] at e1
   rw [e1]
  ·intro i row hi
   obtain ⟨hl,rfl⟩:=hrows i row hi
   obtain ⟨cs',h2,h3,h4⟩:=hg i hl
   rw [h3.1,(Pn h2).1]
  ·intro i row o x hi hx
   obtain ⟨hl,rfl⟩:=hrows i row hi
   obtain ⟨cs',h2,h3,h4⟩:=hg i hl
   have ho:o<j.size:=by
    have:=(List.getElem?_eq_some_iff.1 hx).1
    rw [h3.1,(Pn h2).1] at this
    exact this
   obtain ⟨v,h5,h6⟩:=addr i o hl ho
   rw [h5]
   exact Yy5 h5 (R.one (G:=⟨H0 w,fun _ _=>none,fun _ _=>none,fun _=>none,fun _=>none⟩) (.fz _ _ (h6 x hx).1) (h6 x hx).2)
  ·intro i row o x hi hx
   obtain ⟨hl,rfl⟩:=hrows i row hi
   obtain ⟨cs',h2,h3,h4⟩:=hg i hl
   have ho:o<j.size:=by
    have:=(List.getElem?_eq_some_iff.1 hx).1
    rw [h3.1,(Pn h2).1] at this
    exact this
   obtain ⟨v,h5,h6⟩:=addr i o hl ho
   simp only [h5,Option.getD_some]
   exact (h6 x hx).1
 ·intro r hr
  obtain ⟨i,hi,rfl⟩:=List.mem_map.1 hr
  obtain ⟨cs',h2,h3,h4⟩:=hg i (by simpa using hi)
  exact h4
 ·intro r hr
  obtain ⟨i,hi,rfl⟩:=List.mem_map.1 hr
  obtain ⟨cs',h2,h3,h4⟩:=hg i (by simpa using hi)
  rw [h3.1,(Pn h2).1]
theorem Yjc (hT:Js P T) (hL :∀t,L.contains t=true->Sk T L t=true) :∀(f t:Nat),L.contains t=true->∀cs x,DataW.trod enc P w base spare held f t cs=some x->∃vsA,Hi w vsA cs/\HasC T f t vsA
 | 0,t,_,cs,x,h=>by cases h
 | f+1,t,ht,cs,x,h=>by
  have hok:=hL t ht
  unfold Sk at hok
  split at hok
  case h_2=>cases hok
  rename_i i hi
  have hk:=(hT t i hi).kind
  have ih:=Yjc hT hL f
  have fin :∀{vsA},Hi w vsA cs->(match i.kind with
   | .int k=>∃n,vsA=[.i k n]/\k.min<=n/\n<=k.max
   | .bool=>∃b,vsA=[.b b]
   | .str=>∃s,vsA=[.s s]/\s.length<=maxLen
   | .sl e=>∃rows,vsA=[.sl .ext rows]/\rows.length<=maxLen/\(∀r∈rows,HasC T f e r)/\∀j,T e=some j->∀r∈rows,r.length=j.size
   | .st fs=>∀x∈fs,∃j,T x.1=some j/\HasC T f x.1 ((vsA.drop x.2).take j.size)
   | _=>False)->∃vsA,Hi w vsA cs/\HasC T (f+1) t vsA:=by
   intro vsA h1 h2
   refine ⟨vsA,h1,?_⟩
   unfold HasC
   rw [hi]
   exact h2
  revert hk hok fin
  generalize hkk:i.kind=kk
  cases kk with
  | int k=>
   intro hok hk fin
   obtain ⟨n,rfl,hn⟩:=Ynr hk h
   exact fin (.one (.i k n) rfl) ⟨n,rfl,hn⟩
  | bool=>
   intro hok hk fin
   obtain ⟨b,rfl⟩:=Wa6 hk h
   exact fin (.one (.b b) rfl) ⟨b,rfl⟩
  | str=>
   intro hok hk fin
   obtain ⟨s,rfl,hs⟩:=Yrm hk h
   refine fin (.one (a:=.s s.data.toList) ?_ rfl) ⟨_,rfl,by simpa using hs⟩
   have e:s=⟨s.data.toList.toArray⟩:=by simp
   have:=Fz.s (H:=H0 w) s.data.toList
   rwa [<- e] at this
  | sl e=>
   intro hok hk fin
   simp only [Bool.and_eq_true] at hok
   obtain ⟨hLe,hj⟩:=hok
   split at hj
   case h_2=>cases hj
   rename_i j hj'
   rcases Yvb hk h with rfl | ⟨a,len,cap,rfl,h1,h2,h3⟩
   ·refine fin (.one (a:=.sl .ext []) ?_ rfl) ⟨[],rfl,by simp,by simp,by simp⟩
    exact Fz.sl [] none 0 0 0 0 (fun _ _=>undef) (by simp) (by simp) (by simp) (by simp) (by simp)
   ·obtain ⟨rows,h4,h5,h6,h7⟩:=Whf hT hj' (of_decide_eq_true hj) (ih e hLe) h1 h3
    exact fin (.one h4 rfl) ⟨rows,rfl,by omega,h6,fun j' hj2=>by rw [hj'] at hj2;cases hj2;exact h7⟩
  | arr n e=>intro hok;cases hok
  | st fs=>
   intro hok hk fin
   simp only [Bool.and_eq_true] at hok
   obtain ⟨fields,h1,h2,_⟩:=hk
   obtain ⟨h3,xs,h4⟩:=Yve h1 h
   rw [Zbm hT hi] at h3
   have hc:Eh T 0 fs=some i.size:=by simpa using hok.2
   obtain ⟨_,vsA,h5,h6⟩:=Zvq hT ih fs fields.toList 0 i.size xs h2 hc h3.symm hok.1 h4
   rw [List.drop_zero] at h5
   refine fin h5 fun x hx=>?_
   obtain ⟨_,j,h7,h8⟩:=h6 x hx
   exact ⟨j,h7,by simpa using h8⟩
  | other=>intro hok;cases hok
  | ptr e=>intro hok;cases hok
  | uptr=>intro hok;cases hok
  | mp=>intro hok;cases hok
end
end Go.AM

/- Yf of the proof. -/
namespace Go.AM
open Go Go.RowKit Go.ChangeShapes Go.WideShapes
def Jv (T:Xo) (t:TypeId) (a:AV):Prop:=
 match T t with
 | some i=>match i.kind with
  | .st _=>∃f vsA,a=.ag vsA/\vsA.length=i.size/\HasC T f t vsA
  | _=>∃f,HasC T f t [a]
 | none=>False
def Zhh (T:Xo):List TypeId->List AV->Prop
 | [],[]=>True
 | t::ts,a::vsA=>Jv T t a/\Zhh T ts vsA
 | _,_=>False
section
variable {H:Type} {enc:TypeId × Value->H} {P:Program} {X:Cx} {W:World} {L:List Nat}
def G0 (X:Cx) (W:World):Gh:=⟨H0 W,fun _ _=>none,fun _ _=>none,X.fm,fun _=>none⟩
theorem Ynu (hgl:Bq X.fm W):Yo (G0 X W) W Zj W where
 bel:=⟨.refl _ _,hgl⟩
 ext:=fun g o v h=>Xt0 h
 bx:=by intro k ver cs g h;cases h
 inj:=by intro k k' ver ver' cs cs' g h;cases h
 ow:=by intro k ver n h;cases h
 owinj:=by intro k k' ver ver' n n' g cap size cap' size' h;cases h
 fresh:=fun k ver _=>⟨rfl,rfl⟩
 bxT:=by intro k ver cs g hb h;cases h
 owT:=by intro k ver n hb h;cases h
 mp:=by intro b l h;cases h
theorem Xvh (hT:Js P X.T) (hL :∀t,L.contains t=true->Sk X.T L t=true) {t:TypeId} (ht:L.contains t=true) {v:Value} {d:DataW H} {ps:List MemPlace} {b:Nat} {r:Reach} {held:Bool} {sp:Nat->Bool}
  (hval:Value.okWide P W r b t v) (hd:DataW.Trod enc P W 0 sp held t v d ps) :∃a,R (G0 X W) a v/\Jv X.T t a:=by
 obtain ⟨f,hf⟩:=hd
 obtain ⟨vsA,h1,h2⟩:=Yjc hT hL f t ht _ _ hf
 have hok:=hL t ht
 unfold Sk at hok
 split at hok
 case h_2=>cases hok
 rename_i i hi
 have hk:=(hT t i hi).kind
 have plain:(∀us,v≠.agg us)->(∀fs,i.kind≠.st fs)->vsA.length=1->∃a,R (G0 X W) a v/\Jv X.T t a:=by
  intro hv hst hlen
  have hc:v.cells.toList=[v]:=by
   cases v with
   | agg us=>exact absurd rfl (hv us)
   | _=>rfl
  match vsA,hlen with
  | [a],_=>
   rw [hc] at h1
   refine ⟨a,.fz _ _ (h1.2 0 a v rfl rfl).1,?_⟩
   unfold Jv
   rw [hi]
   have key :∀kk:TK,(∀fs,kk≠.st fs)->(match kk with | .st _=>∃f vsA,a=.ag vsA/\vsA.length=i.size/\HasC X.T f t vsA | _=>∃f,HasC X.T f t [a]):=by
    intro kk hk
    cases kk with
    | st fs=>exact absurd rfl (hk fs)
    | int k=>exact ⟨f,h2⟩
    | bool=>exact ⟨f,h2⟩
    | str=>exact ⟨f,h2⟩
    | sl e=>exact ⟨f,h2⟩
    | arr n e=>exact ⟨f,h2⟩
    | other=>exact ⟨f,h2⟩
    | ptr e=>exact ⟨f,h2⟩
    | uptr=>exact ⟨f,h2⟩
    | mp=>exact ⟨f,h2⟩
   exact key i.kind hst
 have one :∀{vsA:List AV},Hi W vsA v.cells.toList->(∀us,v≠.agg us)->vsA.length=1:=by
  intro vsA h hv
  rw [h.1]
  cases v with
  | agg us=>exact absurd rfl (hv us)
  | _=>rfl
 generalize hkk:i.kind=kk at hk hok
 cases kk with
 | int k=>
  obtain ⟨n,rfl⟩:=okWide_int hk hval
  exact plain (by intro us h;cases h) (by rw [hkk];intro fs h;cases h) (one h1 (by intro us h;cases h))
 | bool=>
  obtain ⟨n,rfl⟩:=okWide_bool hk hval
  exact plain (by intro us h;cases h) (by rw [hkk];intro fs h;cases h) (one h1 (by intro us h;cases h))
 | str=>
  obtain ⟨n,rfl⟩:=okWide_string hk hval
  exact plain (by intro us h;cases h) (by rw [hkk];intro fs h;cases h) (one h1 (by intro us h;cases h))
 | sl e=>
  obtain ⟨a,l,c,rfl⟩:=okWide_slice hk hval
  exact plain (by intro us h;cases h) (by rw [hkk];intro fs h;cases h) (one h1 (by intro us h;cases h))
 | st fs=>
  obtain ⟨fields,hu,_⟩:=hk
  obtain ⟨cs,rfl,hcs⟩:=okWide_struct hu hval
  refine ⟨.ag vsA,?_,?_⟩
  ·have hsz:vsA.length=cs.toList.length:=h1.1
   have e:Value.agg cs=.agg cs.toList.toArray:=by simp
   rw [e]
   exact .ag vsA cs.toList hsz fun j a u ha hu=>.fz _ _ (h1.2 j a u ha hu).1
  ·unfold Jv
   rw [hi]
   simp only [hkk]
   refine ⟨f,vsA,rfl,?_,h2⟩
   rw [h1.1]
   simp only [Value.cells]
   rw [<- Zbm hT hi,<- hcs]
   simp
 | arr n e=>simp at hok
 | other=>simp at hok
 | ptr e=>simp at hok
 | mp=>cases hok
 | uptr=>simp at hok
theorem Yic (hT:Js P X.T) (hL :∀t,L.contains t=true->Sk X.T L t=true) {b:Nat} {r:Reach} {held:Bool} {sp:Nat->Bool} :∀{ts:List TypeId} {vs:List Value} {ds:List (DataW H)} {ps:List MemPlace},(ts.all fun t=>L.contains t)=true->
  (∀(j:Nat) t v,ts[j]?=some t->vs[j]?=some v->Value.okWide P W r b t v)->DataW.TrodAll enc P W 0 sp held ts vs ds ps->∃vsA,Rs (G0 X W) vsA vs/\Zhh X.T ts vsA
 | [],vs,ds,ps,_,_,h=>by
  obtain ⟨rfl,rfl,rfl⟩:=trodAll_nil h
  exact ⟨[],⟨rfl,by simp⟩,trivial⟩
 | t::ts,vs,ds,ps,ht,hv,h=>by
  obtain ⟨v,vs1,d,ds1,p,q,rfl,rfl,rfl,h1,h2⟩:=trodAll_cons h
  simp only [List.all_cons,Bool.and_eq_true] at ht
  obtain ⟨a,h3,h4⟩:=Xvh hT hL ht.1 (hv 0 t v rfl rfl) h1
  obtain ⟨vsA,h5,h6⟩:=Yic hT hL ht.2 (fun j t v h1 h2=>hv (j+1) t v (by simpa using h1) (by simpa using h2)) h2
  refine ⟨a::vsA,⟨by simp [h5.1],fun j x u hx hu=>?_⟩,h4,h6⟩
  cases j with
  | zero=>simp at hx hu;subst hx;subst hu;exact h3
  | succ j=>exact h5.2 j x u (by simpa using hx) (by simpa using hu)
theorem Ycx (hl:laidOutB P=true) {W':World} (hb:Below W.heap.size W W') :∀{ts:List TypeId} {vs:List Value} {ds:List (DataW H)} {ps:List MemPlace},(ts.all fun t=>P.readableRec t&&decide (t<P.types.size))=true->
  DataW.TrodAll enc P W 0 (fun _=>true) true ts vs ds ps->(∀x∈ps,x.block<W.heap.size)->DataW.TrodAll enc P W' 0 (fun b=>decide (b<W.heap.size)) true ts vs ds ps
 | [],vs,ds,ps,_,h,_=>by
  obtain ⟨rfl,rfl,rfl⟩:=trodAll_nil h
  exact trodAll_mk0
 | t::ts,vs,ds,ps,ht,h,hps=>by
  obtain ⟨v,vs1,d,ds1,p,q,rfl,rfl,rfl,h1,h2⟩:=trodAll_cons h
  simp only [List.all_cons,Bool.and_eq_true,decide_eq_true_eq] at ht
  exact trodAll_cons_mk (Below.trod hl ht.1.1 ht.1.2 h1 hb fun x hx=>hps x (List.mem_append_left _ hx)) (Ycx hl hb ht.2 h2 fun x hx=>hps x (List.mem_append_right _ hx))
theorem Ydw :∀{ts:List TypeId} {vs:List Value} {ds:List (DataW H)} {ps:List MemPlace} {sp:Nat->Bool} {held:Bool},DataW.TrodAll enc P W 0 sp held ts vs ds ps->∀x∈ps,x.block<W.heap.size
 | [],vs,ds,ps,_,_,h=>by
  obtain ⟨rfl,rfl,rfl⟩:=trodAll_nil h
  simp
 | t::ts,vs,ds,ps,_,_,h=>by
  obtain ⟨v,vs1,d,ds1,p,q,rfl,rfl,rfl,h1,h2⟩:=trodAll_cons h
  intro x hx
  rcases List.mem_append.1 hx with hx | hx
  ·obtain ⟨m,hm⟩:=h1
   exact DataW.trod_lt m _ _ _ hm x hx
  ·exact Ydw h2 x hx
structure Yby (P:Program) (X:Cx) (PG:Za) (L:List Nat):Prop where
 T:Js P X.T
 mixed:P.follows .mixedOrders=true
 fns:Zjm P X PG.fn
 orac:Nm P X PG
 oracS:Zcy P X PG
 types :∀t,L.contains t=true->Sk X.T L t=true
theorem Yrz {PG:Za} (h:Yby P X PG L) {f c:Nat} (hfm:X.fm f=some c) {args:Array Value} (hen:(callFunc f args).run P W=.ok (.enter f args) W) {avs:List AV} (hR:Rs (G0 X W) avs args.toList) (hlaw:Ze PG c avs (.b true)) (hgl:Bq X.fm W:=by exact Bq.none (by kernel_rfl)) :
  Calls P f args W fun e W'=>e=.returned (.bool true)/\Below W.heap.size W W':=by
 obtain ⟨r,⟨st',n,hr⟩,hs⟩:=hlaw
 have hrb:r=.b true:=by
  cases r with
  | b x=>simpa [AV.strip] using hs
  | bf f cs=>simp [AV.strip] at hs
  | sl o rows=>simp [AV.strip] at hs
  | ag cs=>simp only [AV.strip] at hs;split at hs<;>cases hs
  | tup cs=>simp only [AV.strip] at hs;split at hs<;>cases hs
  | p k v o=>simp [AV.strip] at hs
  | fn f cap=>simp [AV.strip] at hs
  | i k n=>simp [AV.strip] at hs
  | s l=>simp [AV.strip] at hs
  | fp cs=>simp [AV.strip] at hs
  | np=>simp [AV.strip] at hs
  | nf=>simp [AV.strip] at hs
  | ni=>simp [AV.strip] at hs
  | u=>simp [AV.strip] at hs
  | mp=>simp [AV.strip] at hs
  | yl=>simp [AV.strip] at hs
 subst hrb
 have hg:=Ykw h.T h.mixed h.fns h.orac h.oracS n 0 c avs Zj _ st' hr f hfm (G0 X W) W W args.toList rfl (Ynu hgl) hR
 have ea:args.toList.toArray=args:=by simp
 rw [ea] at hg
 rcases hg with ⟨_,h2⟩ | ⟨v,w',h2,_⟩
 ·refine h2.mono fun e w' he=>?_
  cases e with
  | returned v=>
   obtain ⟨G',h3,h4⟩:=he
   exact ⟨by rw [h3.bool_inv],h4.rel.bel.bel⟩
  | panicked c=>exact he.elim
  | outgrown=>exact he.elim
 ·rw [hen] at h2
  cases h2
theorem Yc.of {f:Nat} {F:AF} {fn:Func} (h1:P.funcs[f]?=some fn) (h2:(fn.name== "runtime.NumGoroutine")=false) (h3:fn.body.bind (Uv { X with fz:=F.fz } F.nt)=some F.body) (h4:fn.ntmps=F.nt) (h5:Bw X fn.results.toList=some F.res) (h6:Nat.ble F.res.length 4=true):Yc P X f F:=by
 rw [Option.bind_eq_some_iff] at h3
 obtain ⟨code,h7,h8⟩:=h3
 exact ⟨fn,code,h1,h2,h7,h4,Zcj.of h8,h5,Nat.le_of_ble_eq_true h6⟩
theorem Yc.enters {f:Nat} {F:AF} (h:Yc P X f F) (args:Array Value) (w:World):(callFunc f args).run P w=.ok (.enter f args) w:=by
 obtain ⟨fn,code,h1,h2,h3,_⟩:=h.ok
 exact Lh h1 h2 h3 args
def Zpl (l:List (Nat × TI)):Xo:=fun t=>(l.find? fun x=>x.1==t).map (·.2)
theorem Xs2 {l:List (Nat × TI)} (h :∀x∈l,Kj P x.1 x.2):Js P (Zpl l):=by
 intro t i hi
 unfold Zpl at hi
 rw [Option.map_eq_some_iff] at hi
 obtain ⟨x,h1,rfl⟩:=hi
 have h2:=List.find?_some h1
 have h3:=List.mem_of_find?_eq_some h1
 have:x.1=t:=by simpa using h2
 rw [<- this]
 exact h x h3
def Mp (l:List (Nat × AF)):Nat->Option AF:=fun c=>(l.find? fun x=>x.1==c).map (·.2)
def Fv (l:List (Nat × Nat)):FM:=fun f=>(l.find? fun x=>x.1==f).map (·.2)
theorem Xei {fm:List (Nat × Nat)} {fs:List (Nat × AF)} (h :∀x∈fm,∀F,Mp fs x.2=some F->Yc P X x.1 F) (hX:X.fm=Fv fm):Zjm P X (Mp fs):=by
 intro f c F hf hc
 rw [hX] at hf
 unfold Fv at hf
 rw [Option.map_eq_some_iff] at hf
 obtain ⟨x,h1,rfl⟩:=hf
 have h2:=List.find?_some h1
 have h3:=List.mem_of_find?_eq_some h1
 have:x.1=f:=by simpa using h2
 rw [<- this]
 exact h x h3 F hc
theorem Xf6 {G:Gh} {w0 w:World} {st:St} {f:FuncId} {fn:Func} {d:Nat} (h1:P.funcs[f]?=some fn) (h2:(fn.name== "runtime.NumGoroutine")=false) (h3:fn.body.isNone=true) (h4:Extern.findNext fn=none) (h5:Extern.find fn=some Extern.BytealgIndexByte.indexByte)
  {s:List UInt8} {c:UInt8} {Yw:List Value} (hR:Yo G w0 st w) (hV:Rs G [.s s,.i .u8 (c.toNat:Int)] Yw):Bo P f Yw.toArray w fun v w'=>∃G',R G' (.i .i64 (Lib.indexByte s c)) v/\Vx G G' w0 st st w' d:=by
 have hlen:=hV.1
 match Yw,hlen with
 | [v1,v2],_=>
  have e1:=(hV.2 0 _ v1 rfl rfl).str_inv
  have e2:=(hV.2 1 _ v2 rfl rfl).int_inv
  subst e1;subst e2
  refine .inr ⟨.int .i64 (Lib.indexByte s c),w,?_,G,.fz _ _ (.i _ _),.refl hR⟩
  rw [run_callFunc_extern h1 h2 h3 h4 h5]
  have:=Lib.run_indexByteString (P:=P) ⟨s.toArray⟩ (c.toNat:Int) w
  rw [this]
  simp [Result.andThen]
end
end Go.AM
namespace Go.AM
open Go
theorem Kj.of {P:Program} {t:TypeId} {i:TI} {ti:TypeInfo} (h1:P.info? t=some ti) (h2:(Nat.beq ti.size i.size&&Nat.beq ti.bytes i.bytes)=true) (h3:(ti.zero.bind fun z=>if z.cells.size=i.size then Hq z.cells.toList else none)=some i.zero) (h4:i.kind.ok P t):Kj P t i:=by
 simp only [Bool.and_eq_true] at h2
 rw [Option.bind_eq_some_iff] at h3
 obtain ⟨z,h5,h6⟩:=h3
 split at h6
 ·rename_i h7
  exact ⟨⟨ti,z,h1,Nat.eq_of_beq_eq_true h2.1,Nat.eq_of_beq_eq_true h2.2,h5,h6,h7⟩,h4⟩
 ·cases h6
theorem TK.ok_st {P:Program} {t:TypeId} {fs:List (Nat × Nat)} (h:((P.underlying t).bind fun d=>match d with | .struct f=>if (!P.stoodInHeld t&&!P.eqGuardType P.depth t&&f.toList.all (fun f=>!(f.name== "_")))=true then some (f.toList.map fun f=>(f.type,f.offset)) else none | _=>none)=some fs):TK.ok P t (.st fs):=by
 rw [Option.bind_eq_some_iff] at h
 obtain ⟨d,h1,h2⟩:=h
 cases d with
 | struct f=>
  simp only at h2
  split at h2
  case isFalse=>cases h2
  rename_i h3
  simp only [Bool.and_eq_true,Bool.not_eq_true',List.all_eq_true] at h3
  simp only [Option.some.injEq] at h2
  exact ⟨f,h1,h2,h3.1.1,h3.1.2,h3.2⟩
 | _=>cases h2
end Go.AM

/- Yf of the proof. -/
namespace Go.AM
open Go Go.RowKit Go.ChangeShapes
section
variable {T:Xo} {t:TypeId} {a:AV} {i:TI}
theorem Jv.plain (hi:T t=some i) (hk :∀fs,i.kind≠.st fs) (h:Jv T t a) :∃f,HasC T f t [a]:=by
 unfold Jv at h
 rw [hi] at h
 obtain ⟨kk,s1,s2,s3⟩:=i
 simp only at hk
 cases kk with
 | st fs=>exact absurd rfl (hk fs)
 | int k=>simpa only using h
 | bool=>simpa only using h
 | str=>simpa only using h
 | sl e=>simpa only using h
 | arr n e=>simpa only using h
 | other=>simpa only using h
 | ptr e=>simpa only using h
 | uptr=>simpa only using h
 | mp=>simpa only using h
theorem HasC.int {f:Nat} {vsA:List AV} {k:IntKind} (hi:T t=some i) (hk:i.kind=.int k) (h:HasC T f t vsA) :∃n,vsA=[.i k n]/\k.min<=n/\n<=k.max:=by
 cases f with
 | zero=>exact h.elim
 | succ f=>
  unfold HasC at h
  rw [hi] at h
  simp only [hk] at h
  exact h
theorem HasC.bool {f:Nat} {vsA:List AV} (hi:T t=some i) (hk:i.kind=.bool) (h:HasC T f t vsA) :∃b,vsA=[.b b]:=by
 cases f with
 | zero=>exact h.elim
 | succ f=>
  unfold HasC at h
  rw [hi] at h
  simp only [hk] at h
  exact h
theorem HasC.str {f:Nat} {vsA:List AV} (hi:T t=some i) (hk:i.kind=.str) (h:HasC T f t vsA) :∃s,vsA=[.s s]/\s.length<=maxLen:=by
 cases f with
 | zero=>exact h.elim
 | succ f=>
  unfold HasC at h
  rw [hi] at h
  simp only [hk] at h
  exact h
theorem HasC.sl {f e:Nat} {vsA:List AV} (hi:T t=some i) (hk:i.kind=.sl e) (h:HasC T f t vsA) :∃g rows,f=g+1/\vsA=[.sl .ext rows]/\rows.length<=maxLen/\(∀r∈rows,HasC T g e r)/\∀j,T e=some j->∀r∈rows,r.length=j.size:=by
 cases f with
 | zero=>exact h.elim
 | succ f=>
  unfold HasC at h
  rw [hi] at h
  simp only [hk] at h
  obtain ⟨rows,h1,h2,h3⟩:=h
  exact ⟨f,rows,rfl,h1,h2,h3⟩
theorem HasC.st {f:Nat} {vsA:List AV} {fs:List (Nat × Nat)} (hi:T t=some i) (hk:i.kind=.st fs) (h:HasC T f t vsA) :∃g,f=g+1/\∀x∈fs,∃j,T x.1=some j/\HasC T g x.1 ((vsA.drop x.2).take j.size):=by
 cases f with
 | zero=>exact h.elim
 | succ f=>
  unfold HasC at h
  rw [hi] at h
  simp only [hk] at h
  exact ⟨f,rfl,h⟩
theorem Jv.int {k:IntKind} (hi:T t=some i) (hk:i.kind=.int k) (h:Jv T t a) :∃n,a=.i k n/\k.min<=n/\n<=k.max:=by
 obtain ⟨f,h⟩:=h.plain hi (by rw [hk];intro fs h;cases h)
 obtain ⟨n,h1,h2⟩:=h.int hi hk
 injection h1 with h1
 exact ⟨n,h1,h2⟩
theorem Jv.bool (hi:T t=some i) (hk:i.kind=.bool) (h:Jv T t a) :∃b,a=.b b:=by
 obtain ⟨f,h⟩:=h.plain hi (by rw [hk];intro fs h;cases h)
 obtain ⟨n,h1⟩:=h.bool hi hk
 injection h1 with h1
 exact ⟨n,h1⟩
theorem Jv.str (hi:T t=some i) (hk:i.kind=.str) (h:Jv T t a) :∃s,a=.s s/\s.length<=maxLen:=by
 obtain ⟨f,h⟩:=h.plain hi (by rw [hk];intro fs h;cases h)
 obtain ⟨n,h1,h2⟩:=h.str hi hk
 injection h1 with h1
 exact ⟨n,h1,h2⟩
end
theorem Uf {n:Int} (h:IntKind.i64.min<=n/\n<=IntKind.i64.max):-9223372036854775808<=n/\n<9223372036854775808:=by
 have h1:IntKind.i64.min = -9223372036854775808:=rfl
 have h2:IntKind.i64.max=9223372036854775807:=rfl
 omega
theorem Ac {n:Int} (h:IntKind.u8.min<=n/\n<=IntKind.u8.max):0<=n/\n<256:=by
 have h1:IntKind.u8.min=0:=rfl
 have h2:IntKind.u8.max=255:=rfl
 omega
def Zad (P:Program) (X:Cx) (fs:List (Nat × AF)):List (Nat × Nat)->Prop
 | []=>True
 | x::r=>(∀F,Mp fs x.2=some F->Yc P X x.1 F)/\Zad P X fs r
theorem Zad.all {P:Program} {X:Cx} {fs:List (Nat × AF)} :∀{l:List (Nat × Nat)},Zad P X fs l->∀x∈l,∀F,Mp fs x.2=some F->Yc P X x.1 F
 | [],_,_,hx=>by cases hx
 | y::l,h,x,hx=>by
  rcases List.mem_cons.1 hx with rfl | hx
  ·exact h.1
  ·exact Zad.all h.2 x hx
theorem Cs {l:List (Nat × Nat)} {f c:Nat} (h:Fv l f=some c):(f,c)∈l:=by
 unfold Fv at h
 rw [Option.map_eq_some_iff] at h
 obtain ⟨x,h1,rfl⟩:=h
 have h2:=List.find?_some h1
 have h3:=List.mem_of_find?_eq_some h1
 have:x.1=f:=by simpa using h2
 rw [<- this]
 exact h3
def Rt (k:Nat):Nat->List AV->Option AV:=fun c args=>
 if c=k then match args with
  | [.s s,.i .u8 n]=>if 0<=n/\n<256 then some (.i .i64 (Lib.indexByte s n.toNat.toUInt8)) else none
  | _=>none
 else none
theorem Xuj (k:Nat) (s:List UInt8) (c:UInt8):Rt k k [.s s,.i .u8 (c.toNat:Int)]=some (.i .i64 (Lib.indexByte s c)):=by
 have:=c.toNat_lt
 unfold Rt
 rw [if_pos rfl]
 simp only
 rw [if_pos ⟨by omega,by omega⟩]
 simp
theorem Yra {P:Program} {X:Cx} {fs:List (Nat × AF)} {k f0:Nat} {fn:Func} (hf :∀f,X.fm f=some k->f=f0) (h1:P.funcs[f0]?=some fn) (h2:(fn.name== "runtime.NumGoroutine")=false) (h3:fn.body.isNone=true) (h4:Extern.findNext fn=none) (h5:Extern.find fn=some Extern.BytealgIndexByte.indexByte):Nm P X { fn:=Mp fs,orac:=Rt k }:=by
 intro f c hfc _ args r hr G w0 st w Yw d _ hR hV
 simp only [Rt] at hr
 split at hr
 case isFalse=>cases hr
 rename_i hc
 subst hc
 have:=hf f hfc
 subst this
 split at hr
 case h_2=>cases hr
 rename_i s n
 split at hr
 case isFalse=>cases hr
 rename_i hn
 cases hr
 have e:n=((n.toNat.toUInt8).toNat:Int):=by
  have:(n.toNat.toUInt8).toNat=n.toNat:=by simp;omega
  omega
 have hV':Rs G [.s s,.i .u8 ((n.toNat.toUInt8).toNat:Int)] Yw:=by rw [<- e];exact hV
 exact Xf6 h1 h2 h3 h4 h5 hR hV'
section
variable {H:Type} {enc:TypeId × Value->H} {P:Program} {W:World}
theorem Zsb {held:Bool} {sp:Nat->Bool} :∀{ts:List TypeId} {vs:List Value} {ds:List (DataW H)} {ps:List MemPlace},DataW.TrodAll enc P W 0 sp held ts vs ds ps->ds.length=ts.length
 | [],vs,ds,ps,h=>by
  obtain ⟨rfl,rfl,rfl⟩:=trodAll_nil h
  rfl
 | t::ts,vs,ds,ps,h=>by
  obtain ⟨v,vs1,d,ds1,p,q,rfl,rfl,rfl,h1,h2⟩:=trodAll_cons h
  simp [Zsb h2]
theorem ds3 {α:Type} {ds:List α} (h:ds.length=3) :∃a b c,ds=[a,b,c]:=by match ds,h with | [a,b,c],_=>exact ⟨a,b,c,rfl⟩
end
theorem Wjk {α:Type} {x:α} {p:Prop} (h:(none:Option α)=some x):p:=by cases h
end Go.AM

/- Yf of the proof. -/
namespace Go.AM
open Go Go.RowKit Go.Shelf Go.Proofs
theorem TK.ok_other {P:Program} {t:TypeId} (h:(match P.underlying t with | none=>false | some (.struct _)=>false | some (.array _ _)=>false | some _=>true)=true):TK.ok P t .other:=by
 show∃d,P.underlying t=some d/\(match d with | .struct _ | .array _ _=>False | _=>True)
 split at h
 ·cases h
 ·cases h
 ·cases h
 ·rename_i d h1 h2 h3
  refine ⟨d,h3,?_⟩
  split
  ·exact absurd rfl (h1 _)
  ·exact absurd rfl (h2 _ _)
  ·trivial
def Nb:Nat->List AV->Option AV:=fun c args=>
 if c=146 then (match args with | [x]=>some x | _=>none) else Rt 48 c args
def Ik:Nat->List AV->St->Option (AV × St):=fun c args st=>if c=105 then Ck args st else none
theorem Xjl (s:List UInt8) (c:UInt8):Nb 48 [.s s,.i .u8 (c.toNat:Int)]=some (.i .i64 (Lib.indexByte s c)):=by
 unfold Nb
 rw [if_neg (by decide)]
 exact Xuj 48 s c
theorem Yr0 (args:List AV):Nb 105 args=none:=by
 unfold Nb Rt
 rw [if_neg (by decide),if_neg (by decide)]
theorem Wax (args:List AV) (st:St):Ik 105 args st=Ck args st:=rfl
section
variable {P:Program} {X:Cx}
theorem Yzn {fs:List (Nat × AF)} (h48:Nm P X { fn:=Mp fs,orac:=Rt 48 }) {f0:Nat} {fn:Func} (hf :∀f,X.fm f=some 146->f=f0) (h1:P.funcs[f0]?=some fn) (h2:(fn.name== "runtime.NumGoroutine")=false) (h3:fn.body.isNone=true) (h4:Extern.findNext fn=none) (h5:Extern.find fn=some Extern.AbiNoEscape.same):Nm P X ⟨Mp fs,Nb,Ik⟩:=by
 intro f c hfc hfn args r hr G w0 st w Yw d hG hR hV
 simp only [Nb] at hr
 split at hr
 ·rename_i hc
  subst hc
  have:=hf f hfc
  subst this
  split at hr
  case h_2=>cases hr
  rename_i x
  cases hr
  have hlen:=hV.1
  match Yw,hlen with
  | [v1],_=>
   refine .inr ⟨v1,w,?_,G,hV.2 0 _ v1 rfl rfl,.refl hR⟩
   rw [run_callFunc_extern h1 h2 h3 h4 h5]
   have:=Lib.run_noEscape (P:=P) w v1
   rw [this]
   simp [Result.andThen]
 ·exact h48 f c hfc hfn args r hr G w0 st w Yw d hG hR hV
theorem orsB_ok {fs:List (Nat × AF)} {ρ:Ren} (L:Lays.n169 P ρ) (E:Builder.Extra P ρ) (hf :∀f,X.fm f=some 105->f=ρ.f 169) (hb:X.fm 1000000000000=some (ρ.t 72+1000000000)) (he:X.fm 1000000000001=some (ρ.t 5+1000000000)) {fn:Func} {code:Code} (h1:P.funcs[ρ.f 169]?=some fn) (h2:(fn.name== "runtime.NumGoroutine")=false) (h3:fn.body=some code):Zcy P X ⟨Mp fs,Nb,Ik⟩:=by
 intro f c hfc _ args st r st' hr G w0 w Yw d hG hR hV
 simp only [Ik] at hr
 split at hr
 case isFalse=>cases hr
 rename_i hc
 subst hc
 have:=hf f hfc
 subst this
 have e1:Ul X.fm=ρ.t 72:=by unfold Ul;rw [hb];simp
 have e2:Du X.fm=ρ.t 5:=by unfold Du;rw [he];simp
 exact Xfi L E e1.symm e2.symm (fun args w=>Lh h1 h2 h3 args) hr hG hR hV
end
end Go.AM

/- Yf of the proof. -/
namespace Go.AM
open Go
abbrev Zc:=List UInt8
abbrev Dw:Zc:=[48,49,50,51,52,53,54,55,56,57,97,98,99,100,101,102]
theorem Ge:We=1099511627776:=rfl
theorem Wl:Qd=70368744177664:=rfl
theorem Mc {α:Type} {P:α->Int->Prop} (A:Nat->α) (n:Nat) (h1:P (A n) (n:Int)) (h2 :∀i:Nat,i<n->P (A (i+1)) ((i+1:Nat):Int)->P (A i) (i:Int)):P (A 0) 0:=by
 have key :∀m i:Nat,i+m=n->P (A i) (i:Int):=by
  intro m
  induction m with
  | zero=>intro i hi;simp only [Nat.add_zero] at hi;subst hi;exact h1
  | succ m ih=>intro i hi;exact h2 i (by omega) (ih (i+1) (by omega))
 exact key n 0 (by omega)
theorem Xok {P:Int->Prop} (n:Nat) (h1:P (n:Int)) (h2 :∀i:Nat,i<n->P ((i+1:Nat):Int)->P (i:Int)):P 0:=
 Mc (P:=fun _ i=>P i) (fun _=>()) n h1 h2
theorem Ml {i:Nat} (h:i<4611686018427387904):IntKind.i64.wrap ((i:Int)+1)=((i+1:Nat):Int):=by
 rw [Xq (by omega) (by omega)];omega
theorem Ht (i:Nat):((i:Int)).toNat=i:=rfl
def Kt (n:Nat):UInt8:=Dw.getD n 0
theorem Zjb {n:Nat} (h:n<16):Dw[n]?=some (Kt n):=by
 unfold Kt
 rw [List.getD_eq_getElem?_getD,List.getElem?_eq_getElem (by simpa using h)]
 rfl
def Jl (c:UInt8):Zc:=
 if c.toNat=34\/c.toNat=92 then [92,c] else if c.toNat=10 then [92,110] else if c.toNat<32\/126<c.toNat then [92,120,Kt (c.toNat / 16),Kt (c.toNat % 16)] else [c]
def Ka (s:Zc):Zc:=s.flatMap Jl
def quo (s:Zc):Zc:=34::(Ka s++[34])
theorem Zl9 (c:UInt8):1<=(Jl c).length/\(Jl c).length<=4:=by
 unfold Jl
 split
 ·exact ⟨by simp,by simp⟩
 ·split
  ·exact ⟨by simp,by simp⟩
  ·split<;>exact ⟨by simp,by simp⟩
theorem Zqk (s:Zc):(Ka s).length<=4*s.length:=by
 induction s with
 | nil=>exact Nat.le_refl _
 | cons c s ih=>
  have h:Ka (c::s)=Jl c++Ka s:=rfl
  rw [h,List.length_append,List.length_cons]
  have:=Zl9 c
  omega
theorem Bf (s:Zc):(quo s).length<=4*s.length+2:=by
 have:=Zqk s
 simp only [quo,List.length_cons,List.length_append,List.length_nil]
 omega
theorem Xyb {s:Zc} {i:Nat} (h:i<s.length):Ka (s.take (i+1))=Ka (s.take i)++Jl s[i]:=by
 rw [List.take_succ_eq_append_getElem h]
 simp only [Ka,List.flatMap_append,List.flatMap_cons,List.flatMap_nil,List.append_nil]
def ds (b:Nat):Nat->Nat->Zc
 | 0,_=>[]
 | f+1,n=>if n<b then [Kt n] else ds b f (n / b)++[Kt (n % b)]
theorem Pm (b:Nat) :∀f n,(ds b f n).length<=f
 | 0,_=>Nat.le_refl _
 | f+1,n=>by
  have:=Pm b f (n / b)
  unfold ds
  split
  ·simp
  ·simp;omega
def Jc (b n:Nat):Zc:=ds b 64 n
def Xa (n:Int):Zc:=if n<0 then 45::Jc 10 (-n).toNat else Jc 10 n.toNat
def Ms (s:Zc):Zc × Int:=if 400<s.length then ([],4) else (quo s,0)
def Dj (n:Nat) (l:List Zc):Bool:=l.any fun x=>decide (n<x.length)
theorem Zuc {n:Nat} {l:List Zc}:Dj n l=false ↔∀x∈l,x.length<=n:=by
 unfold Dj
 rw [List.any_eq_false]
 simp
def Jb (l:List Zc):Bool:=Dj 400 l||decide (64<l.length)
theorem Oo {n:Nat} (h:n<18446744073709551616):IntKind.u64.wrap (n:Int)=(n:Int):=Za2 (by omega) (by omega)
end Go.AM

/- Yf of the proof. -/
namespace Go.AM
open Go
def dv (b:Nat) (c:UInt8):Int:=Lib.indexByte (Dw.take b) c
theorem Zaa {b:Nat} (hb:b<=16) (c:UInt8):-1<=dv b c/\dv b c<b:=by
 have key :∀(l:Zc),-1<=Lib.indexByte l c/\(Lib.indexByte l c<l.length\/Lib.indexByte l c = -1):=by
  intro l
  induction l with
  | nil=>exact ⟨Int.le_refl _,.inr rfl⟩
  | cons x l ih=>
   unfold Lib.indexByte
   split
   ·simp
   ·split
    ·exact ⟨Int.le_refl _,.inr rfl⟩
    ·simp only [List.length_cons]
     omega
 have:=key (Dw.take b)
 unfold dv
 have hl:(Dw.take b).length=b:=by simp [hb]
 omega
theorem Wi0 :∀k:Fin 16,dv 16 (Kt k)=(k.val:Int):=by decide
theorem Zub (c:UInt8) :∀(l:Zc),0<=Lib.indexByte l c->l[(Lib.indexByte l c).toNat]?=some c
 | [],h=>absurd h (show ¬ (0:Int)<=-1 by decide)
 | x::l,h=>by
  have ih:=Zub c l
  unfold Lib.indexByte at h ⊢
  split
  ·rename_i hx
   have:x=c:=by simpa using hx
   subst this
   rfl
  ·rename_i hx
   rw [if_neg hx] at h
   split
   ·rename_i h1
    rw [if_pos h1] at h
    exact absurd h (by decide)
   ·rename_i h1
    rw [if_neg h1] at h
    have h2:=Lib.indexByte_ge l c
    have h3:Lib.indexByte l c≠-1:=by simpa using h1
    have h4:0<=Lib.indexByte l c:=by omega
    have h5:(Lib.indexByte l c+1).toNat=(Lib.indexByte l c).toNat+1:=by omega
    rw [h5,List.getElem?_cons_succ]
    exact ih h4
theorem Zwv {b:Nat} (c:UInt8) (h:0<=dv b c):c=Kt (dv b c).toNat:=by
 have h1:=Zub c (Dw.take b) h
 have h2:Dw[(dv b c).toNat]?=some c:=by
  have:=(List.getElem?_eq_some_iff.1 h1)
  obtain ⟨h3,h4⟩:=this
  rw [List.getElem_take] at h4
  exact List.getElem?_eq_some_iff.2 ⟨by rw [List.length_take] at h3;exact Nat.lt_of_lt_of_le h3 (Nat.min_le_right _ _),h4⟩
 unfold Kt
 rw [List.getD_eq_getElem?_getD,h2]
 rfl
def Yw (b:Nat) (s:Zc):Nat:=s.foldl (fun n c=>n*b+(dv b c).toNat) 0
def Dp (b:Nat) (s:Zc):Bool:=s.all fun c=>decide (0<=dv b c)
def Rm (b:Nat) (s:Zc):Bool:=decide (s=[])||!Dp b s||(decide (1<s.length)&&decide (s.head?=some 48))
def rd (b most:Nat) (s:Zc):Nat × Int:=if Rm b s=true then (0,12) else if most<Yw b s then (0,16) else (Yw b s,0)
theorem Yns {b:Nat} {s:Zc} {i:Nat} (h:i<s.length):Yw b (s.take (i+1))=Yw b (s.take i)*b+(dv b s[i]).toNat:=by
 unfold Yw
 rw [List.take_succ_eq_append_getElem h,List.foldl_append]
 rfl
theorem Xgk {b:Nat} {s:Zc} {i:Nat} (h:i<s.length):Dp b (s.take (i+1))=(Dp b (s.take i)&&decide (0<=dv b s[i])):=by
 unfold Dp
 rw [List.take_succ_eq_append_getElem h,List.all_append]
 simp
theorem Wi4 {b:Nat} {s:Zc} {i:Nat} (h:i<s.length) (hd:dv b s[i]<0):Dp b s=false:=by
 unfold Dp
 rw [List.all_eq_false]
 exact ⟨s[i],List.getElem_mem h,by simpa using hd⟩
theorem Yz8 {b most n d:Nat} (hb:0<b) (hd:d<=most):(most-d) / b<n↔most<n*b+d:=by
 rw [Nat.div_lt_iff_lt_mul hb]
 omega
def Th:Zc->Option (UInt8 × Zc)
 | a::b::r=>if 0<=dv 16 a/\0<=dv 16 b/\(16*dv 16 a+dv 16 b).toNat≠10/\((16*dv 16 a+dv 16 b).toNat<32\/126<(16*dv 16 a+dv 16 b).toNat) then some (UInt8.ofNat (16*dv 16 a+dv 16 b).toNat,r) else none
 | _=>none
def Di:Zc->Option (UInt8 × Zc)
 | []=>none
 | c::r=>if c.toNat=34\/c.toNat=92 then some (c,r) else if c.toNat=110 then some (10,r) else if c.toNat=120 then Th r else none
def one:Zc->Option (UInt8 × Zc)
 | []=>none
 | c::r=>if c.toNat=34\/c.toNat<32\/126<c.toNat then none else if c.toNat=92 then Di r else some (c,r)
theorem Dm {a b:UInt8} (h:a.toNat=b.toNat):a=b:=UInt8.toNat_inj.1 h
theorem Zsi {k:Nat} (h:k<16):dv 16 (Kt k)=(k:Int):=Wi0 ⟨k,h⟩
theorem Yur (c:UInt8) (r:Zc) (h:(Jl c++r).head?≠some 34):one (Jl c++r)=some (c,r):=by
 have hc:=c.toNat_lt
 unfold Jl at h ⊢
 split
 ·rename_i h1
  simp [one,Di,h1]
 ·split
  ·rename_i h1 h2
   have:c=10:=Dm h2
   subst this
   rfl
  ·split
   ·rename_i h1 h2 h3
    have e1:=Zsi (k:=c.toNat / 16) (by omega)
    have e2:=Zsi (k:=c.toNat % 16) (by omega)
    have e3:(16*((c.toNat / 16:Nat):Int)+((c.toNat % 16:Nat):Int)).toNat=c.toNat:=by omega
    simp only [List.cons_append,List.nil_append,one,Di,Th,e1,e2,e3]
    rw [if_neg (by decide),if_pos (by decide),if_neg (by decide),if_neg (by decide),if_pos (by decide),if_pos ⟨by omega,by omega,h2,h3⟩]
    simp
   ·rename_i h1 h2 h3
    simp only [List.cons_append,List.nil_append,one]
    rw [if_neg (by omega),if_neg (by omega)]
theorem Zk2 {s:Zc} {c:UInt8} {r:Zc} (h:one s=some (c,r)):s=Jl c++r:=by
 cases s with
 | nil=>cases h
 | cons x s=>
  simp only [one] at h
  split at h
  ·cases h
  rename_i h1
  split at h
  ·rename_i h2
   have hx:x=92:=Dm h2
   subst hx
   cases s with
   | nil=>cases h
   | cons y s=>
    simp only [Di] at h
    split at h
    ·rename_i h3
     cases h
     unfold Jl
     rw [if_pos h3]
     rfl
    ·split at h
     ·rename_i h3 h4
      cases h
      have hy:y=110:=Dm h4
      subst hy
      rfl
     ·split at h
      ·rename_i h3 h4 h5
       have hy:y=120:=Dm h5
       subst hy
       match s,h with
       | a::b::r',h=>
        simp only [Th] at h
        split at h
        ·rename_i h6
         obtain ⟨ha,hb,hv,hw⟩:=h6
         cases h
         have la:=Zaa (b:=16) (by omega) a
         have lb:=Zaa (b:=16) (by omega) b
         have hv256:(16*dv 16 a+dv 16 b).toNat<256:=by omega
         have en:(UInt8.ofNat (16*dv 16 a+dv 16 b).toNat).toNat=(16*dv 16 a+dv 16 b).toNat:=by
          simp;omega
         unfold Jl
         rw [en,if_neg (by omega),if_neg hv,if_pos hw]
         have e1:(16*dv 16 a+dv 16 b).toNat / 16=(dv 16 a).toNat:=by omega
         have e2:(16*dv 16 a+dv 16 b).toNat % 16=(dv 16 b).toNat:=by omega
         rw [e1,e2,<- Zwv a ha,<- Zwv b hb]
         rfl
        ·cases h
      ·cases h
  ·rename_i h2
   cases h
   unfold Jl
   rw [if_neg (by omega),if_neg (by omega),if_neg (by omega)]
   rfl
theorem Xn8 (c:UInt8):(Jl c).head?≠some 34:=by
 unfold Jl
 split
 ·simp
 ·split
  ·simp
  ·split
   ·simp
   ·rename_i h _ _
    simp
    intro he
    subst he
    exact h (.inl rfl)
theorem Ytr (c:UInt8):Jl c≠[]:=by
 intro h
 have:=(Zl9 c).1
 rw [h] at this
 simp at this
theorem Ykz (c:UInt8) (r:Zc):(Jl c++r).head?≠some 34:=by
 cases hc:Jl c with
 | nil=>exact absurd hc (Ytr c)
 | cons x l=>have:=Xn8 c;rw [hc] at this;simpa using this
theorem Yiy {s:Zc} {c:UInt8} {r:Zc}:one s=some (c,r)↔s=Jl c++r:=
 ⟨Zk2,fun h=>by subst h;exact Yur c r (Ykz c r)⟩
def Sx:Nat->Zc->Zc->Option (Zc × Zc)
 | 0,_,_=>none
 | n+1,out,s=>match s with
  | []=>none
  | c::r=>if c.toNat=34 then some (out,r) else match one (c::r) with
   | none=>none
   | some (x,r')=>Sx n (out++[x]) r'
def Mb:Zc->Option (Zc × Zc)
 | []=>none
 | c::r=>if c.toNat=34 then Sx (r.length+1) [] r else none
theorem Zx7 {s:Zc} {c:UInt8} {r:Zc} (h:one s=some (c,r)):r.length<s.length:=by
 have h1:=Zk2 h
 have h2:=(Zl9 c).1
 rw [h1,List.length_append]
 omega
theorem Ykt :∀(n:Nat) (out s x r:Zc),s.length<n->(Sx n out s=some (x,r) ↔∃y,x=out++y/\s=Ka y++34::r)
 | 0,_,_,_,_,h=>absurd h (Nat.not_lt_zero _)
 | n+1,out,[],x,r,h=>by
  refine ⟨fun h=>(by cases h),fun ⟨y,_,h2⟩=>?_⟩
  have:=congrArg List.length h2
  simp at this
 | n+1,out,c::s,x,r,h=>by
  unfold Sx
  simp only
  by_cases hc:c.toNat=34
  ·rw [if_pos hc]
   have hc':c=34:=Dm hc
   subst hc'
   refine ⟨fun h=>?_,fun ⟨y,h1,h2⟩=>?_⟩
   ·cases h
    exact ⟨[],by simp,rfl⟩
   ·cases y with
    | nil=>
     have h2:(34:UInt8)::s=34::r:=h2
     injection h2 with _ h2
     rw [h1,h2,List.append_nil]
    | cons a y=>
     have h2:(34:UInt8)::s=Jl a++Ka y++34::r:=h2
     rw [List.append_assoc] at h2
     have:=Ykz a (Ka y++34::r)
     rw [<- h2] at this
     exact absurd rfl this
  ·rw [if_neg hc]
   cases ho:one (c::s) with
   | none=>
    refine ⟨fun h=>(by cases h),fun ⟨y,h1,h2⟩=>?_⟩
    cases y with
    | nil=>
     have h2:c::s=34::r:=h2
     injection h2 with h2
     subst h2
     exact absurd rfl hc
    | cons a y=>
     have h2:c::s=Jl a++Ka y++34::r:=h2
     rw [List.append_assoc] at h2
     have:=Yiy.2 h2
     rw [ho] at this
     cases this
   | some p=>
    obtain ⟨a,r'⟩:=p
    simp only
    have hl:=Zx7 ho
    have ih:=Ykt n (out++[a]) r' x r (by simp at h hl;omega)
    rw [ih]
    have hs:=Zk2 ho
    refine ⟨fun ⟨y,h1,h2⟩=>⟨a::y,by rw [h1];simp,?_⟩,fun ⟨y,h1,h2⟩=>?_⟩
    ·rw [hs,h2]
     show _=Jl a++Ka y++34::r
     rw [List.append_assoc]
    ·cases y with
     | nil=>
      have h2:c::s=34::r:=h2
      injection h2 with h2
      subst h2
      exact absurd rfl hc
     | cons b y=>
      have h2:c::s=Jl b++Ka y++34::r:=h2
      rw [List.append_assoc] at h2
      have:=Yiy.2 h2
      rw [ho] at this
      cases this
      exact ⟨y,by rw [h1];simp,rfl⟩
theorem Ywx {s x r:Zc}:Mb s=some (x,r)↔s=quo x++r:=by
 cases s with
 | nil=>
  refine ⟨fun h=>(by cases h),fun h=>?_⟩
  have:=congrArg List.length h
  simp [quo] at this
 | cons c s=>
  simp only [Mb,quo]
  by_cases hc:c.toNat=34
  ·have hc':c=34:=Dm hc
   subst hc'
   rw [if_pos hc,Ykt _ _ _ _ _ (Nat.lt_succ_self _)]
   refine ⟨fun ⟨y,h1,h2⟩=>?_,fun h=>⟨x,by simp,?_⟩⟩
   ·simp only [List.nil_append] at h1
    subst h1
    rw [h2]
    simp
   ·simp only [List.cons_append,List.append_assoc,List.nil_append,List.cons.injEq,true_and] at h
    exact h
  ·rw [if_neg hc]
   refine ⟨fun h=>(by cases h),fun h=>?_⟩
   injection h with h
   subst h
   exact absurd rfl hc
def Wb (s:Zc):Int × Int:=
 if 2000<s.length then (0,4) else
 if s.take 1=[45] then
  if (rd 10 9223372036854775808 (s.drop 1)).2=0/\(rd 10 9223372036854775808 (s.drop 1)).1=0 then (0,12) else (-((rd 10 9223372036854775808 (s.drop 1)).1:Int),(rd 10 9223372036854775808 (s.drop 1)).2)
 else (((rd 10 9223372036854775807 s).1:Int),(rd 10 9223372036854775807 s).2)
theorem Zbj (b most:Nat) (s:Zc):(rd b most s).1<=most:=by
 unfold rd
 split
 ·exact Nat.zero_le _
 ·split
  ·exact Nat.zero_le _
  ·simp only;omega
theorem Xas {b most:Nat} {s:Zc} (h:(rd b most s).2≠0):(rd b most s).1=0:=by
 unfold rd at h ⊢
 split
 ·rfl
 ·rename_i h1
  rw [if_neg h1] at h
  split
  ·rfl
  ·rename_i h2
   rw [if_neg h2] at h
   exact absurd rfl h
def Nr (s:Zc):Zc × Int:=
 if 2000<s.length then ([],4) else
 match Mb s with
 | some (x,[])=>if 400<x.length then ([],4) else (x,0)
 | _=>([],12)
def Df (s:Zc):Zc × Zc × Bool:=match Mb s with | some (x,r)=>(x,r,true) | none=>([],[],false)
end Go.AM

/- Yf of the proof. -/
namespace Go.AM
open Go
theorem Xrh :∀b:Fin 17,∀k:Fin 16,k.val<b.val->dv b.val (Kt k.val)=(k.val:Int):=by decide
theorem Zjr {b k:Nat} (hb:b<=16) (hk:k<b):dv b (Kt k)=(k:Int):=Xrh ⟨b,by omega⟩ ⟨k,by omega⟩ hk
theorem Xle {k:Nat} (hk:k<16) (h:Kt k=48):k=0:=by
 have h1:=Zjr (b:=16) (Nat.le_refl _) hk
 rw [h] at h1
 have h2:dv 16 48=0:=rfl
 omega
theorem Whv (b:Nat) (s:Zc) (c:UInt8):Yw b (s++[c])=Yw b s*b+(dv b c).toNat:=by
 unfold Yw
 rw [List.foldl_append]
 rfl
theorem Yw0 (b:Nat) (s:Zc) (c:UInt8):Dp b (s++[c])=(Dp b s&&decide (0<=dv b c)):=by
 unfold Dp
 rw [List.all_append]
 simp
theorem Zjv {b:Nat} (hb:2<=b) (hb':b<=16) :∀f n,n<b ^ f->0<f->Yw b (ds b f n)=n/\Dp b (ds b f n)=true/\ds b f n≠[]/\((ds b f n).head?=some 48->n=0)/\(n=0->ds b f n=[48])
 | 0,_,_,h=>absurd h (Nat.lt_irrefl _)
 | f+1,n,h,_=>by
  unfold ds
  by_cases hn:n<b
  ·rw [if_pos hn]
   have hd:=Zjr hb' hn
   refine ⟨?_,?_,by simp,fun h1=>?_,fun h1=>by subst h1;rfl⟩
   ·show 0*b+(dv b (Kt n)).toNat=n
    omega
   ·show (decide (0<=dv b (Kt n))&&true)=true
    rw [hd]
    simp
   ·simp at h1
    exact Xle (by omega) h1
  ·rw [if_neg hn]
   have h1:n / b<b ^ f:=by
    rw [Nat.div_lt_iff_lt_mul (by omega)]
    rw [Nat.pow_succ] at h
    exact h
   have h2:0<f:=by
    rcases Nat.eq_zero_or_pos f with rfl | h
    ·simp at h1
     have:=Nat.div_pos (show b<=n by omega) (by omega)
     omega
    ·exact h
   obtain ⟨i1,i2,i3,i4,i5⟩:=Zjv hb hb' f (n / b) h1 h2
   have hr:n % b<b:=Nat.mod_lt _ (by omega)
   have hd:=Zjr hb' hr
   have hq:=Nat.div_pos (show b<=n by omega) (show 0<b by omega)
   refine ⟨?_,?_,by simp,fun h3=>?_,fun h3=>absurd h3 (by omega)⟩
   ·rw [Whv,i1,hd]
    have:=Nat.div_add_mod n b
    rw [Nat.mul_comm] at this
    omega
   ·rw [Yw0,i2,hd,Bool.true_and]
    exact decide_eq_true (Int.natCast_nonneg _)
   ·rw [List.head?_append] at h3
    cases hh:(ds b f (n / b)).head? with
    | none=>exact absurd (List.head?_eq_none_iff.1 hh) i3
    | some c=>
     rw [hh] at h3
     simp at h3
     subst h3
     have:=i4 hh
     omega
theorem Zt2 {b n:Nat} (hb:2<=b) (hn:n<18446744073709551616):n<b ^ 64:=
 Nat.lt_of_lt_of_le hn (Nat.pow_le_pow_left hb 64)
theorem Zyt {b most n:Nat} (hb:2<=b) (hb':b<=16) (hn:n<18446744073709551616) (hm:n<=most):rd b most (Jc b n)=(n,0):=by
 obtain ⟨h1,h2,h3,h4,h5⟩:=Zjv hb hb' 64 n (Zt2 hb hn) (by omega)
 have hbad:Rm b (Jc b n)=false:=by
  unfold Rm Jc
  rw [decide_eq_false h3,h2]
  simp only [Bool.false_or,Bool.not_true]
  by_cases h6:(ds b 64 n).head?=some 48
  ·rw [h5 (h4 h6)]
   rfl
  ·rw [decide_eq_false h6,Bool.and_false]
 unfold rd
 rw [if_neg (by rw [hbad];decide)]
 unfold Jc
 rw [h1,if_neg (by omega)]
theorem Lj {n:Int} (h1:-9223372036854775808<=n) (h2:n<9223372036854775808):Wb (Xa n)=(n,0):=by
 have hl:(Xa n).length<=65:=by
  unfold Xa
  split
  ·have:=Pm 10 64 (-n).toNat
   simp only [Jc,List.length_cons];omega
  ·have:=Pm 10 64 n.toNat
   simp only [Jc];omega
 unfold Wb
 rw [if_neg (by omega)]
 by_cases hn:n<0
 ·have e:Xa n=45::Jc 10 (-n).toNat:=by unfold Xa;rw [if_pos hn]
  have hr:=Zyt (b:=10) (most:=9223372036854775808) (n:=(-n).toNat) (by omega) (by omega) (by omega) (by omega)
  rw [e,if_pos (show List.take 1 (45::Jc 10 (-n).toNat)=[45] from rfl),List.drop_succ_cons,List.drop_zero,hr,if_neg (by simp only;omega)]
  simp only [Prod.mk.injEq,and_true]
  omega
 ·have e:Xa n=Jc 10 n.toNat:=by unfold Xa;rw [if_neg hn]
  have hr:=Zyt (b:=10) (most:=9223372036854775807) (n:=n.toNat) (by omega) (by omega) (by omega) (by omega)
  have h45:¬ (Jc 10 n.toNat).take 1=[45]:=by
   intro h
   obtain ⟨_,k2,k3,_⟩:=Zjv (b:=10) (by omega) (by omega) 64 n.toNat (Zt2 (by omega) (by omega)) (by omega)
   unfold Jc at h
   cases hd:ds 10 64 n.toNat with
   | nil=>exact k3 hd
   | cons c r=>
    rw [hd] at h k2
    simp at h
    subst h
    unfold Dp at k2
    simp only [List.all_cons,Bool.and_eq_true,decide_eq_true_eq] at k2
    exact absurd k2.1 (by decide)
  rw [e,if_neg h45,hr]
  simp only [Prod.mk.injEq,and_true]
  omega
theorem Ynd {s:Zc} (hs:s.length<=400):Nr (quo s)=(s,0):=by
 have hl:=Bf s
 unfold Nr
 rw [if_neg (by omega),Ywx.2 (show quo s=quo s++[] by simp)]
 simp only
 rw [if_neg (by omega)]
end Go.AM

/- Yf of the proof. -/
namespace Go.AM
open Go
theorem Zai {α:Type} {P:α->Int->Prop} (A:Nat->α) (n:Nat) (I:Nat->Prop) (h0:I 0) (h1:I n->P (A n) (n:Int)) (h2 :∀i:Nat,i<n->I i->(I (i+1)->P (A (i+1)) ((i+1:Nat):Int))->P (A i) (i:Int)):P (A 0) 0:=by
 have key :∀m i:Nat,i+m=n->I i->P (A i) (i:Int):=by
  intro m
  induction m with
  | zero=>intro i hi h;simp only [Nat.add_zero] at hi;subst hi;exact h1 h
  | succ m ih=>intro i hi h;exact h2 i (by omega) h fun h'=>ih (i+1) (by omega) h'
 exact key n 0 (by omega) h0
theorem Db {P:Int->Prop} (n:Nat) (I:Nat->Prop) (h0:I 0) (h1:I n->P (n:Int)) (h2 :∀i:Nat,i<n->I i->(I (i+1)->P ((i+1:Nat):Int))->P (i:Int)):P 0:=
 Zai (P:=fun _ i=>P i) (fun _=>()) n I h0 h1 h2
theorem Xm {α:Type} {l:List α} {i:Nat} (h:i<l.length):l[((i:Int)).toNat]?=some l[i]:=by rw [Ht,List.getElem?_eq_getElem h]
abbrev vz:Zb:=Zb.mk 0 0 [] [] false
theorem Zb.eta (v:Zb):v=Zb.mk v.kind v.int v.text v.list v.cut:=by cases v;rfl
@[simp] theorem Zb.kind_mk (k n:Int) (s:Zc) (l:List Zb) (c:Bool):(Zb.mk k n s l c).kind=k:=rfl
@[simp] theorem Zb.int_mk (k n:Int) (s:Zc) (l:List Zb) (c:Bool):(Zb.mk k n s l c).int=n:=rfl
@[simp] theorem Zb.text_mk (k n:Int) (s:Zc) (l:List Zb) (c:Bool):(Zb.mk k n s l c).text=s:=rfl
@[simp] theorem Zb.list_mk (k n:Int) (s:Zc) (l:List Zb) (c:Bool):(Zb.mk k n s l c).list=l:=rfl
@[simp] theorem Zb.cut_mk (k n:Int) (s:Zc) (l:List Zb) (c:Bool):(Zb.mk k n s l c).cut=c:=rfl
inductive Wf:Zb->Prop
 | mk {k n:Int} {s:Zc} {l:List Zb} {c:Bool} (hk:0<=k/\k<256) (hn:-9223372036854775808<=n/\n<9223372036854775808) (hl:l.length<=9223372036854775807) (h :∀x∈l,Wf x):Wf (.mk k n s l c)
theorem Wf.k {v:Zb} (h:Wf v):0<=v.kind/\v.kind<256:=by cases h;assumption
theorem Wf.n {v:Zb} (h:Wf v):-9223372036854775808<=v.int/\v.int<9223372036854775808:=by cases h;assumption
theorem Wf.l {v:Zb} (h:Wf v):v.list.length<=9223372036854775807:=by cases h;assumption
theorem Wf.e {v:Zb} (h:Wf v) :∀x∈v.list,Wf x:=by cases h;assumption
theorem Wf.zero:Wf vz:=.mk (by decide) (by decide) (by decide) (by simp)
mutual
def Zb.nodes:Zb->Nat
 | .mk _ _ _ l _=>1+Zb.nodesL l
def Zb.nodesL:List Zb->Nat
 | []=>0
 | v::l=>Zb.nodes v+Zb.nodesL l
end
theorem Zke (v:Zb):v.nodes=1+Zb.nodesL v.list:=by cases v;rw [Zb.nodes];rfl
theorem Zqh :∀l m:List Zb,Zb.nodesL (l++m)=Zb.nodesL l+Zb.nodesL m
 | [],m=>by simp [Zb.nodesL]
 | v::l,m=>by rw [List.cons_append,Zb.nodesL,Zb.nodesL,Zqh l m];omega
theorem Zzr {l:List Zb} {i:Nat} (h:i<l.length):Zb.nodesL (l.take (i+1))=Zb.nodesL (l.take i)+l[i].nodes:=by
 rw [List.take_succ_eq_append_getElem h,Zqh,Zb.nodesL,Zb.nodesL];rfl
theorem Zvc {l:List Zb} (i:Nat):Zb.nodesL (l.take i)<=Zb.nodesL l:=by
 have:=Zqh (l.take i) (l.drop i)
 rw [List.take_append_drop] at this
 omega
theorem Xdl (v:Zb):1<=v.nodes:=by rw [Zke];omega
theorem Ypu {l:List Zb} {v:Zb} (h:v∈l):v.nodes<=Zb.nodesL l:=by
 obtain ⟨i,hi,rfl⟩:=List.getElem_of_mem h
 have h1:=Zzr hi
 have h2:=Zvc (l:=l) (i+1)
 omega
mutual
/-- The number that the reference counts. -/
def rN:Zb->Nat
 | .mk _ _ _ l _=>Vn l 1
def Vn:List Zb->Nat->Nat
 | [],n=>n
 | v::l,n=>if n<=5000 then Vn l (n+rN v) else n
end
theorem Ylf (v:Zb):rN v=Vn v.list 1:=by cases v;rw [rN];rfl
def Sm:Nat->Zb->Prop
 | 0,_=>False
 | d+1,v=>v.list.length<=400/\∀x∈v.list,Sm d x
theorem Yfp {B:Nat} :∀(l:List Zb) (n:Nat),n<=5000+B->(∀x∈l,rN x<=B)->Vn l n<=5000+B
 | [],n,hn,_=>by rw [Vn];exact hn
 | v::l,n,hn,h=>by
  rw [Vn]
  split
  ·exact Yfp l _ (by have:=h v List.mem_cons_self;omega) fun x hx=>h x (List.mem_cons_of_mem _ hx)
  ·exact hn
theorem Ylz :∀{d:Nat} {v:Zb},Sm d v->rN v<=5001*d
 | 0,v,h=>h.elim
 | d+1,v,h=>by
  rw [Ylf]
  have:=Yfp (B:=5001*d) v.list 1 (by omega) fun x hx=>Ylz (h.2 x hx)
  omega
mutual
theorem Xdt :∀v:Zb,(v.nodes<=5000->rN v=v.nodes)/\(5000<v.nodes->5000<rN v)
 | .mk k n s l c=>by
  rw [rN,Zb.nodes]
  have:=Yhc l 1 (by omega)
  exact this
theorem Yhc :∀(l:List Zb) (n:Nat),n<=5000->(n+Zb.nodesL l<=5000->Vn l n=n+Zb.nodesL l)/\(5000<n+Zb.nodesL l->5000<Vn l n)
 | [],n,hn=>by rw [Vn,Zb.nodesL];omega
 | v::l,n,hn=>by
  rw [Vn,Zb.nodesL,if_pos hn]
  obtain ⟨h1,h2⟩:=Xdt v
  by_cases h:n+rN v<=5000
  ·obtain ⟨h3,h4⟩:=Yhc l (n+rN v) h
   have hv:v.nodes<=5000:=by
    rcases Nat.lt_or_ge 5000 v.nodes with h5 | h5
    ·have:=h2 h5;omega
    ·exact h5
   have:=h1 hv
   omega
  ·have h5:Vn l (n+rN v)=n+rN v:=by
    cases l with
    | nil=>rw [Vn]
    | cons w l=>rw [Vn,if_neg h]
   rw [h5]
   have:=Xdl v
   rcases Nat.lt_or_ge 5000 v.nodes with h6 | h6
   ·have:=h2 h6
    omega
   ·have:=h1 h6
    omega
end
def Hr:Nat->Zb->Bool
 | 0,_=>true
 | d+1,v=>decide (100<v.text.length)||decide (400<v.list.length)||v.list.any (Hr d)
def Dz (v:Zb):Bool:=Hr 14 v||decide (400<rN v)
theorem Yej :∀{d:Nat} {v:Zb},Hr d v=false->Sm d v
 | 0,v,h=>by cases h
 | d+1,v,h=>by
  simp only [Hr,Bool.or_eq_false_iff,decide_eq_false_iff_not,List.any_eq_false] at h
  exact ⟨by omega,fun x hx=>Yej (by simpa using h.2 x hx)⟩
def Qa (k n:Int) (tl ll c:Nat):Prop:=
 (k=1/\ll=0/\c=0/\tl=0/\(n=0\/n=1))\/(k=2/\ll=0/\c=0/\tl=0)\/(k=3/\ll=0/\c=0/\n=0/\tl<=64)\/
 (k=4/\n=0/\tl=0/\ll<=1/\(c=0\/ll=0))\/(k=5/\n=0/\tl=0/\ll<=8/\c=0)\/(k=6/\n=0/\tl=0/\ll<=16/\1<=ll/\c=0)\/(k=7/\n=0/\tl=0/\ll<=16/\(c=0\/ll=0))
instance (k n:Int) (tl ll c:Nat):Decidable (Qa k n tl ll c):=by unfold Qa;infer_instance
abbrev Zb.okh (v:Zb):Prop:=Qa v.kind v.int v.text.length v.list.length v.cut.toNat
def Ky:Nat->Zb->Bool
 | 0,_=>false
 | d+1,v=>decide v.okh&&v.list.all (Ky d)
theorem Mr {d:Nat} {v:Zb} (h:Ky d v=true):v.okh:=by
 cases d with
 | zero=>cases h
 | succ d=>simp only [Ky,Bool.and_eq_true,decide_eq_true_eq] at h;exact h.1
theorem Zeh {d:Nat} {v:Zb} (h:Ky (d+1) v=true) :∀x∈v.list,Ky d x=true:=by
 simp only [Ky,Bool.and_eq_true,List.all_eq_true] at h
 exact h.2
def Vh (v:Zb):Bool:=Ky 130 v&&decide (v.nodes<=5000)
def Qp (d:Nat) (v:Zb):Int × Bool:=if Ky d v=true/\v.nodes<=5000 then ((v.nodes:Int),true) else (0,false)
def Bp (v:Zb):Int:=if Vh v=true then 0 else 8
def Qu:Zc:=[116,114,117,101]
def Qc:Zc:=[102,97,108,115,101]
def Qt:Zc:=[110,105,108]
def Qv:Zc:=[38,46,46,46]
def Uk:Zc:=[60,46,46,46,62]
mutual
def Xd:Zb->Zc
 | .mk k n s l c=>if k=1 then (if n=1 then Qu else Qc) else if k=2 then Xa n else if k=3 then quo s else
   if k=5 then 123::(Yy l++[125]) else if k=6 then 91::(Yy l++[93]) else if k=7 then (if c=true then Uk else 60::(Yy l++[62])) else
   if c=true then Qv else if l.length=0 then Qt else 38::Yy l
def Yy:List Zb->Zc
 | []=>[]
 | v::l=>Xd v++Qw l
def Qw:List Zb->Zc
 | []=>[]
 | v::l=>44::32::(Xd v++Qw l)
end
theorem Sq (v:Zb):Xd v=if v.kind=1 then (if v.int=1 then Qu else Qc) else if v.kind=2 then Xa v.int else if v.kind=3 then quo v.text else
   if v.kind=5 then 123::(Yy v.list++[125]) else if v.kind=6 then 91::(Yy v.list++[93]) else if v.kind=7 then (if v.cut=true then Uk else 60::(Yy v.list++[62])) else
   if v.cut=true then Qv else if v.list.length=0 then Qt else 38::Yy v.list:=by cases v;rw [Xd];rfl
theorem Zpj :∀l m:List Zb,Qw (l++m)=Qw l++Qw m
 | [],m=>by simp [Qw]
 | v::l,m=>by rw [List.cons_append,Qw,Qw,Zpj l m];simp
theorem Xpm (l:List Zb) (v:Zb):Yy (l++[v])=Yy l++(if l.length>0 then [44,32] else [])++Xd v:=by
 cases l with
 | nil=>simp [Yy,Qw]
 | cons a l=>simp [Yy,Zpj,Qw]
theorem Xmm {l:List Zb} {i:Nat} (h:i<l.length):Yy (l.take (i+1))=Yy (l.take i)++(if i>0 then [44,32] else [])++Xd l[i]:=by
 rw [List.take_succ_eq_append_getElem h,Xpm]
 congr 2
 rw [List.length_take]
 congr 1
 rw [eq_iff_iff]
 omega
theorem Zmd (v:Zb):Yy [v]=Xd v:=by simp [Yy,Qw]
theorem Kx (n:Int):(Xa n).length<=65:=by
 unfold Xa
 split
 ·have:=Pm 10 64 (-n).toNat;simp only [List.length_cons,Jc];omega
 ·have:=Pm 10 64 n.toNat;simp only [Jc];omega
theorem Zn3 :∀{d:Nat} {v:Zb},Ky d v=true->(Xd v).length+2<=260*v.nodes
 | 0,v,h=>by cases h
 | d+1,v,h=>by
  have h1:=Mr h
  have h2:=Zeh h
  have hl :∀l:List Zb,(∀x∈l,Ky d x=true)->(Qw l).length<=260*Zb.nodesL l:=by
   intro l
   induction l with
   | nil=>intro _;simp [Qw]
   | cons x l ih=>
    intro hx
    have h3:=Zn3 (hx x List.mem_cons_self)
    have h4:=ih fun y hy=>hx y (List.mem_cons_of_mem _ hy)
    rw [Qw,Zb.nodesL]
    simp only [List.length_cons,List.length_append]
    omega
  have hs:(Yy v.list).length<=260*Zb.nodesL v.list:=by
   revert h2
   cases v.list with
   | nil=>intro _;simp [Yy]
   | cons x l=>
    intro hx
    have h3:=Zn3 (hx x List.mem_cons_self)
    have h4:=hl l fun y hy=>hx y (List.mem_cons_of_mem _ hy)
    rw [Yy,Zb.nodesL]
    simp only [List.length_append]
    omega
  have h5:=Kx v.int
  have h6:=Bf v.text
  rw [Zke,Sq]
  unfold Zb.okh Qa at h1
  repeat' split
  all_goals try simp only [Qu,Qc,Qt,Qv,Uk,List.length_cons,List.length_append,List.length_nil]
  all_goals omega
theorem Tz {v:Zb} (h:Vh v=true):(Xd v).length+2<=1300000:=by
 simp only [Vh,Bool.and_eq_true,decide_eq_true_eq] at h
 have:=Zn3 h.1
 omega
theorem Zml (b n:Nat):Jc b n≠[]:=by
 unfold Jc
 rw [show 64=63+1 from rfl,ds]
 split<;>simp
theorem Ywo (n:Int):Xa n≠[]:=by
 unfold Xa
 split
 ·simp
 ·exact Zml _ _
theorem Ydr (v:Zb):Xd v≠[]:=by
 rw [Sq]
 repeat' split
 all_goals first | exact Ywo _ | simp [Qu,Qc,Qt,Qv,Uk,quo]
end Go.AM

/- Yf of the proof. -/
namespace Go.AM
open Go Go.RowKit
section
variable {T:Xo}
theorem Zq8 {α:Type} {f:α->List AV} {p:α->Prop} :∀{rows:List (List AV)},(∀r∈rows,∃x,r=f x/\p x)->∃l:List α,rows=l.map f/\∀x∈l,p x
 | [],_=>⟨[],rfl,by simp⟩
 | r::rows,h=>by
  obtain ⟨x,rfl,hx⟩:=h r List.mem_cons_self
  obtain ⟨l,rfl,hl⟩:=Zq8 fun r hr=>h r (List.mem_cons_of_mem _ hr)
  exact ⟨x::l,rfl,fun y hy=>by rcases List.mem_cons.1 hy with rfl | hy;exact hx;exact hl y hy⟩
theorem Zae {f t t' off:Nat} {xs:List AV} {fs:List (Nat × Nat)} {i j:TI} (hi:T t=some i) (hk:i.kind=.st fs) (h:HasC T f t xs) (hf:((t',off):Nat × Nat)∈fs) (hj:T t'=some j) :∃g,f=g+1/\HasC T g t' ((xs.drop off).take j.size):=by
 obtain ⟨g,h1,h2⟩:=h.st hi hk
 obtain ⟨j',h3,h4⟩:=h2 _ hf
 rw [hj] at h3
 cases h3
 exact ⟨g,h1,h4⟩
structure Zsc (T:Xo) (t a b c d e:Nat):Prop where
 ht :∃i,T t=some i/\i.kind=.st [(a,0),(b,1),(c,2),(d,3),(e,4)]/\i.size=5
 ha :∃i,T a=some i/\i.kind=.int .u8/\i.size=1
 hb :∃i,T b=some i/\i.kind=.int .i64/\i.size=1
 hc :∃i,T c=some i/\i.kind=.str/\i.size=1
 hd :∃i,T d=some i/\i.kind=.sl t/\i.size=1
 he :∃i,T e=some i/\i.kind=.bool/\i.size=1
theorem HasC.val {t a b c d e:Nat} (V:Zsc T t a b c d e) :∀(f:Nat) (xs:List AV),xs.length=5->HasC T f t xs->∃v:Zb,xs=v.row/\Wf v:=by
 obtain ⟨it,ht,kt,st⟩:=V.ht
 obtain ⟨ia,ha,ka,sa⟩:=V.ha
 obtain ⟨ib,hb,kb,sb⟩:=V.hb
 obtain ⟨ic,hc,kc,sc⟩:=V.hc
 obtain ⟨id,hd,kd,sd⟩:=V.hd
 obtain ⟨ie,he,ke,se⟩:=V.he
 intro f
 induction f using Nat.strongRecOn with
 | _ f ih=>
 intro xs hl h
 obtain ⟨g,rfl,h1⟩:=Zae ht kt h (t':=a) (off:=0) (by simp) ha
 obtain ⟨g',e',h2⟩:=Zae ht kt h (t':=b) (off:=1) (by simp) hb;cases e'
 obtain ⟨g',e',h3⟩:=Zae ht kt h (t':=c) (off:=2) (by simp) hc;cases e'
 obtain ⟨g',e',h4⟩:=Zae ht kt h (t':=d) (off:=3) (by simp) hd;cases e'
 obtain ⟨g',e',h5⟩:=Zae ht kt h (t':=e) (off:=4) (by simp) he;cases e'
 rw [sa] at h1;rw [sb] at h2;rw [sc] at h3;rw [sd] at h4;rw [se] at h5
 match xs,hl with
 | [x0,x1,x2,x3,x4],_=>
  obtain ⟨n,e1,q1⟩:=h1.int ha ka
  obtain ⟨m,e2,q2⟩:=h2.int hb kb
  obtain ⟨s,e3,q3⟩:=h3.str hc kc
  obtain ⟨g2,rows,e4,e5,q4,q5,q6⟩:=h4.sl hd kd
  obtain ⟨z,e6⟩:=h5.bool he ke
  simp at e1 e2 e3 e5 e6
  subst e1;subst e2;subst e3;subst e5;subst e6
  have hr :∀r∈rows,∃v:Zb,r=v.row/\Wf v:=fun r hr=>ih g2 (by omega) r (by rw [q6 _ ht r hr,st]) (q5 r hr)
  obtain ⟨l,rfl,hl⟩:=Zq8 hr
  refine ⟨Zb.mk n m s l z,?_,.mk (Ac q1) (Uf q2) (by simpa [maxLen] using q4) hl⟩
  rw [Zb.row_eq]
  rfl
end
end Go.AM

/- Yf of the proof. -/
namespace Go.AM
open Go Go.RowKit
theorem Zbb {n:Int} (h:IntKind.u64.min<=n/\n<=IntKind.u64.max):0<=n/\n<18446744073709551616:=by
 have h1:IntKind.u64.min=0:=rfl
 have h2:IntKind.u64.max=18446744073709551615:=rfl
 omega
def Jp (T:Xo) (k:IntKind) (t:Nat):Prop:=∃i,T t=some i/\i.kind=.int k/\i.size=1
def IsB (T:Xo) (t:Nat):Prop:=∃i,T t=some i/\i.kind=.bool/\i.size=1
def Cv (T:Xo) (t:Nat):Prop:=∃i,T t=some i/\i.kind=.str/\i.size=1
def Gk (T:Xo) (t e:Nat):Prop:=∃i,T t=some i/\i.kind=.sl e/\i.size=1
def Px (T:Xo) (t:Nat):Prop:=∃a b c d e,Zsc T t a b c d e
def Gq (T:Xo) (t:Nat) (fs:List (Nat × Nat)) (n:Nat):Prop:=∃i,T t=some i/\i.kind=.st fs/\i.size=n
section
variable {T:Xo} {f t:Nat} {xs:List AV}
theorem HasC.isI {k:IntKind} (V:Jp T k t) (h:HasC T f t xs) :∃n,xs=[.i k n]/\k.min<=n/\n<=k.max:=by
 obtain ⟨i,h1,h2,_⟩:=V
 exact h.int h1 h2
theorem HasC.isB (V:IsB T t) (h:HasC T f t xs) :∃b,xs=[.b b]:=by
 obtain ⟨i,h1,h2,_⟩:=V
 exact h.bool h1 h2
theorem HasC.isS (V:Cv T t) (h:HasC T f t xs) :∃s,xs=[.s s]/\s.length<=maxLen:=by
 obtain ⟨i,h1,h2,_⟩:=V
 exact h.str h1 h2
theorem HasC.isL {e:Nat} (V:Gk T t e) {α:Type} {row:α->List AV} {p:α->Prop} {n:Nat} (ht :∃i,T e=some i/\i.size=n) (hp :∀g r,r.length=n->HasC T g e r->∃x,r=row x/\p x) (h:HasC T f t xs) :∃l:List α,xs=[.sl .ext (l.map row)]/\l.length<=maxLen/\∀x∈l,p x:=by
 obtain ⟨i,h1,h2,_⟩:=V
 obtain ⟨j,h3,h4⟩:=ht
 obtain ⟨g,rows,rfl,h5,h6,h7,h8⟩:=h.sl h1 h2
 obtain ⟨l,rfl,hl⟩:=Zq8 (f:=row) (p:=p) fun r hr=>hp g r (by rw [h8 _ h3 r hr,h4]) (h7 r hr)
 exact ⟨l,h5,by simpa using h6,hl⟩
theorem HasC.isT {fs:List (Nat × Nat)} {n:Nat} (V:Gq T t fs n) (h:HasC T f t xs) :∃g,f=g+1/\∀x∈fs,∀m,(∃j,T x.1=some j/\j.size=m)->HasC T g x.1 ((xs.drop x.2).take m):=by
 obtain ⟨i,h1,h2,_⟩:=V
 obtain ⟨g,h3,h4⟩:=h.st h1 h2
 refine ⟨g,h3,fun x hx m ⟨j,h5,h6⟩=>?_⟩
 obtain ⟨j',h7,h8⟩:=h4 x hx
 rw [h5] at h7
 cases h7
 rw [<- h6];exact h8
theorem Jz {k:IntKind} (V:Jp T k t) :∃j,T t=some j/\j.size=1:=⟨V.choose,V.choose_spec.1,V.choose_spec.2.2⟩
theorem szB (V:IsB T t) :∃j,T t=some j/\j.size=1:=⟨V.choose,V.choose_spec.1,V.choose_spec.2.2⟩
theorem szS (V:Cv T t) :∃j,T t=some j/\j.size=1:=⟨V.choose,V.choose_spec.1,V.choose_spec.2.2⟩
theorem Dd {e:Nat} (V:Gk T t e) :∃j,T t=some j/\j.size=1:=⟨V.choose,V.choose_spec.1,V.choose_spec.2.2⟩
theorem Mi {fs:List (Nat × Nat)} {n:Nat} (V:Gq T t fs n) :∃j,T t=some j/\j.size=n:=⟨V.choose,V.choose_spec.1,V.choose_spec.2.2⟩
theorem Zj3 (V:Px T t) :∃j,T t=some j/\j.size=5:=by
 obtain ⟨_,_,_,_,_,⟨i,h1,_,h2⟩,_⟩:=V
 exact ⟨i,h1,h2⟩
theorem HasC.isVal (V:Px T t) (f:Nat) (xs:List AV) (hl:xs.length=5) (h:HasC T f t xs) :∃v:Zb,xs=v.row/\Wf v:=by
 obtain ⟨_,_,_,_,_,V⟩:=V
 exact HasC.val V f xs hl h
theorem HasC.isStr (V:Cv T t) (f:Nat) (xs:List AV) (_:xs.length=1) (h:HasC T f t xs) :∃s,xs=Zv s/\s.length<=maxLen:=h.isS V
theorem Jv.isT {α:Type} {row:α->List AV} {p:α->Prop} {fs:List (Nat × Nat)} {n:Nat} {x:AV} (V:Gq T t fs n) (hp :∀g r,r.length=n->HasC T g t r->∃x,r=row x/\p x) (h:Jv T t x) :∃v:α,x=.ag (row v)/\p v:=by
 obtain ⟨i,hi,hk,hs⟩:=V
 unfold Jv at h
 rw [hi] at h
 simp only [hk] at h
 obtain ⟨f,xs,rfl,h1,h2⟩:=h
 obtain ⟨v,rfl,hv⟩:=hp f xs (by rw [h1,hs]) h2
 exact ⟨v,rfl,hv⟩
end
structure Zpx (x:Yz):Prop where
 name:x.name.length<=maxLen
 type:-9223372036854775808<=x.type/\x.type<9223372036854775808
def Oc (T:Xo) (t:Nat):Prop:=∃t0 t1,Gq T t [(t0,0),(t1,1)] 2/\Cv T t0/\Jp T .i64 t1
theorem Zz2 {T:Xo} {t:Nat} (V:Oc T t) :∃j,T t=some j/\j.size=2:=by
 obtain ⟨t0,t1,V,v0,v1⟩:=V
 exact Mi V
theorem HasC.isFld {T:Xo} {t:Nat} (V:Oc T t) (f:Nat) (xs:List AV) (hl:xs.length=2) (h:HasC T f t xs) :∃x:Yz,xs=x.row/\Zpx x:=by
 obtain ⟨t0,t1,V,v0,v1⟩:=V
 obtain ⟨g,rfl,hh⟩:=h.isT V
 have h0:=hh (t0,0) (by simp) 1 (szS v0)
 have h1:=hh (t1,1) (by simp) 1 (Jz v1)
 match xs,hl with
 | [x0,x1],_=>
  have h0:HasC T g t0 [x0]:=h0
  obtain ⟨a0,e,q0⟩:=h0.isS v0;cases e
  have h1:HasC T g t1 [x1]:=h1
  obtain ⟨a1,e,q1⟩:=h1.isI v1;cases e
  exact ⟨⟨a0,a1⟩,rfl,⟨q0,Uf q1⟩⟩
structure Zy1 (x:Jn):Prop where
 op:0<=x.op/\x.op<256
 a:-9223372036854775808<=x.a/\x.a<9223372036854775808
 b:-9223372036854775808<=x.b/\x.b<9223372036854775808
 c:-9223372036854775808<=x.c/\x.c<9223372036854775808
def Zej (T:Xo) (t:Nat):Prop:=∃t0 t1 t2 t3,Gq T t [(t0,0),(t1,1),(t2,2),(t3,3)] 4/\Jp T .u8 t0/\Jp T .i64 t1/\Jp T .i64 t2/\Jp T .i64 t3
theorem Wg1 {T:Xo} {t:Nat} (V:Zej T t) :∃j,T t=some j/\j.size=4:=by
 obtain ⟨t0,t1,t2,t3,V,v0,v1,v2,v3⟩:=V
 exact Mi V
theorem HasC.isIns {T:Xo} {t:Nat} (V:Zej T t) (f:Nat) (xs:List AV) (hl:xs.length=4) (h:HasC T f t xs) :∃x:Jn,xs=x.row/\Zy1 x:=by
 obtain ⟨t0,t1,t2,t3,V,v0,v1,v2,v3⟩:=V
 obtain ⟨g,rfl,hh⟩:=h.isT V
 have h0:=hh (t0,0) (by simp) 1 (Jz v0)
 have h1:=hh (t1,1) (by simp) 1 (Jz v1)
 have h2:=hh (t2,2) (by simp) 1 (Jz v2)
 have h3:=hh (t3,3) (by simp) 1 (Jz v3)
 match xs,hl with
 | [x0,x1,x2,x3],_=>
  have h0:HasC T g t0 [x0]:=h0
  obtain ⟨a0,e,q0⟩:=h0.isI v0;cases e
  have h1:HasC T g t1 [x1]:=h1
  obtain ⟨a1,e,q1⟩:=h1.isI v1;cases e
  have h2:HasC T g t2 [x2]:=h2
  obtain ⟨a2,e,q2⟩:=h2.isI v2;cases e
  have h3:HasC T g t3 [x3]:=h3
  obtain ⟨a3,e,q3⟩:=h3.isI v3;cases e
  exact ⟨⟨a0,a1,a2,a3⟩,rfl,⟨Ac q0,Uf q1,Uf q2,Uf q3⟩⟩
structure Zi9 (x:Vg):Prop where
 start:-9223372036854775808<=x.start/\x.start<9223372036854775808
 value:0<=x.value/\x.value<18446744073709551616
def Fi (T:Xo) (t:Nat):Prop:=∃t0 t1,Gq T t [(t0,0),(t1,1)] 2/\Jp T .i64 t0/\Jp T .u64 t1
theorem Ym6 {T:Xo} {t:Nat} (V:Fi T t) :∃j,T t=some j/\j.size=2:=by
 obtain ⟨t0,t1,V,v0,v1⟩:=V
 exact Mi V
theorem HasC.isRnn {T:Xo} {t:Nat} (V:Fi T t) (f:Nat) (xs:List AV) (hl:xs.length=2) (h:HasC T f t xs) :∃x:Vg,xs=x.row/\Zi9 x:=by
 obtain ⟨t0,t1,V,v0,v1⟩:=V
 obtain ⟨g,rfl,hh⟩:=h.isT V
 have h0:=hh (t0,0) (by simp) 1 (Jz v0)
 have h1:=hh (t1,1) (by simp) 1 (Jz v1)
 match xs,hl with
 | [x0,x1],_=>
  have h0:HasC T g t0 [x0]:=h0
  obtain ⟨a0,e,q0⟩:=h0.isI v0;cases e
  have h1:HasC T g t1 [x1]:=h1
  obtain ⟨a1,e,q1⟩:=h1.isI v1;cases e
  exact ⟨⟨a0,a1⟩,rfl,⟨Uf q0,Zbb q1⟩⟩
structure Zz9 (x:Wu):Prop where
 kind:0<=x.kind/\x.kind<256
 elem:-9223372036854775808<=x.elem/\x.elem<9223372036854775808
 len:-9223372036854775808<=x.len/\x.len<9223372036854775808
 fields:x.fields.length<=maxLen/\∀y∈x.fields,Zpx y
def Zb7 (T:Xo) (t:Nat):Prop:=∃t0 t1 t2 t3 e3,Gq T t [(t0,0),(t1,1),(t2,2),(t3,3)] 4/\Jp T .u8 t0/\Jp T .i64 t1/\Jp T .i64 t2/\Gk T t3 e3/\Oc T e3
theorem Xkn {T:Xo} {t:Nat} (V:Zb7 T t) :∃j,T t=some j/\j.size=4:=by
 obtain ⟨t0,t1,t2,t3,e3,V,v0,v1,v2,v3,w3⟩:=V
 exact Mi V
theorem HasC.isTyp {T:Xo} {t:Nat} (V:Zb7 T t) (f:Nat) (xs:List AV) (hl:xs.length=4) (h:HasC T f t xs) :∃x:Wu,xs=x.row/\Zz9 x:=by
 obtain ⟨t0,t1,t2,t3,e3,V,v0,v1,v2,v3,w3⟩:=V
 obtain ⟨g,rfl,hh⟩:=h.isT V
 have h0:=hh (t0,0) (by simp) 1 (Jz v0)
 have h1:=hh (t1,1) (by simp) 1 (Jz v1)
 have h2:=hh (t2,2) (by simp) 1 (Jz v2)
 have h3:=hh (t3,3) (by simp) 1 (Dd v3)
 match xs,hl with
 | [x0,x1,x2,x3],_=>
  have h0:HasC T g t0 [x0]:=h0
  obtain ⟨a0,e,q0⟩:=h0.isI v0;cases e
  have h1:HasC T g t1 [x1]:=h1
  obtain ⟨a1,e,q1⟩:=h1.isI v1;cases e
  have h2:HasC T g t2 [x2]:=h2
  obtain ⟨a2,e,q2⟩:=h2.isI v2;cases e
  have h3:HasC T g t3 [x3]:=h3
  obtain ⟨a3,e,q3⟩:=h3.isL v3 (Zz2 w3) (HasC.isFld w3);cases e
  exact ⟨⟨a0,a1,a2,a3⟩,rfl,⟨Ac q0,Uf q1,Uf q2,q3⟩⟩
structure Zsm (x:Yb):Prop where
 name:x.name.length<=maxLen
 params:-9223372036854775808<=x.params/\x.params<9223372036854775808
 result:-9223372036854775808<=x.result/\x.result<9223372036854775808
 slots:x.slots.length<=maxLen/\∀y∈x.slots,Zpx y
 code:x.code.length<=maxLen/\∀y∈x.code,Zy1 y
 sizes:x.sizes.length<=maxLen/\∀y∈x.sizes,Zi9 y
 lives:x.lives.length<=maxLen/\∀y∈x.lives,Zi9 y
def Zg1 (T:Xo) (t:Nat):Prop:=∃t0 t1 t2 t3 t4 t5 t6 e3 e4 e5 e6,Gq T t [(t0,0),(t1,1),(t2,2),(t3,3),(t4,4),(t5,5),(t6,6)] 7/\Cv T t0/\Jp T .i64 t1/\Jp T .i64 t2/\Gk T t3 e3/\Oc T e3/\Gk T t4 e4/\Zej T e4/\Gk T t5 e5/\Fi T e5/\Gk T t6 e6/\Fi T e6
theorem Yr7 {T:Xo} {t:Nat} (V:Zg1 T t) :∃j,T t=some j/\j.size=7:=by
 obtain ⟨t0,t1,t2,t3,t4,t5,t6,e3,e4,e5,e6,V,v0,v1,v2,v3,w3,v4,w4,v5,w5,v6,w6⟩:=V
 exact Mi V
theorem HasC.isFun {T:Xo} {t:Nat} (V:Zg1 T t) (f:Nat) (xs:List AV) (hl:xs.length=7) (h:HasC T f t xs) :∃x:Yb,xs=x.row/\Zsm x:=by
 obtain ⟨t0,t1,t2,t3,t4,t5,t6,e3,e4,e5,e6,V,v0,v1,v2,v3,w3,v4,w4,v5,w5,v6,w6⟩:=V
 obtain ⟨g,rfl,hh⟩:=h.isT V
 have h0:=hh (t0,0) (by simp) 1 (szS v0)
 have h1:=hh (t1,1) (by simp) 1 (Jz v1)
 have h2:=hh (t2,2) (by simp) 1 (Jz v2)
 have h3:=hh (t3,3) (by simp) 1 (Dd v3)
 have h4:=hh (t4,4) (by simp) 1 (Dd v4)
 have h5:=hh (t5,5) (by simp) 1 (Dd v5)
 have h6:=hh (t6,6) (by simp) 1 (Dd v6)
 match xs,hl with
 | [x0,x1,x2,x3,x4,x5,x6],_=>
  have h0:HasC T g t0 [x0]:=h0
  obtain ⟨a0,e,q0⟩:=h0.isS v0;cases e
  have h1:HasC T g t1 [x1]:=h1
  obtain ⟨a1,e,q1⟩:=h1.isI v1;cases e
  have h2:HasC T g t2 [x2]:=h2
  obtain ⟨a2,e,q2⟩:=h2.isI v2;cases e
  have h3:HasC T g t3 [x3]:=h3
  obtain ⟨a3,e,q3⟩:=h3.isL v3 (Zz2 w3) (HasC.isFld w3);cases e
  have h4:HasC T g t4 [x4]:=h4
  obtain ⟨a4,e,q4⟩:=h4.isL v4 (Wg1 w4) (HasC.isIns w4);cases e
  have h5:HasC T g t5 [x5]:=h5
  obtain ⟨a5,e,q5⟩:=h5.isL v5 (Ym6 w5) (HasC.isRnn w5);cases e
  have h6:HasC T g t6 [x6]:=h6
  obtain ⟨a6,e,q6⟩:=h6.isL v6 (Ym6 w6) (HasC.isRnn w6);cases e
  exact ⟨⟨a0,a1,a2,a3,a4,a5,a6⟩,rfl,⟨q0,Uf q1,Uf q2,q3,q4,q5,q6⟩⟩
structure Ztv (x:Zf):Prop where
 types:x.types.length<=maxLen/\∀y∈x.types,Zz9 y
 texts:x.texts.length<=maxLen/\∀s∈x.texts,s.length<=maxLen
 funcs:x.funcs.length<=maxLen/\∀y∈x.funcs,Zsm y
def Zg5 (T:Xo) (t:Nat):Prop:=∃t0 t1 t2 e0 e1 e2,Gq T t [(t0,0),(t1,1),(t2,2)] 3/\Gk T t0 e0/\Zb7 T e0/\Gk T t1 e1/\Cv T e1/\Gk T t2 e2/\Zg1 T e2
theorem HasC.isImg {T:Xo} {t:Nat} (V:Zg5 T t) (f:Nat) (xs:List AV) (hl:xs.length=3) (h:HasC T f t xs) :∃x:Zf,xs=x.row/\Ztv x:=by
 obtain ⟨t0,t1,t2,e0,e1,e2,V,v0,w0,v1,w1,v2,w2⟩:=V
 obtain ⟨g,rfl,hh⟩:=h.isT V
 have h0:=hh (t0,0) (by simp) 1 (Dd v0)
 have h1:=hh (t1,1) (by simp) 1 (Dd v1)
 have h2:=hh (t2,2) (by simp) 1 (Dd v2)
 match xs,hl with
 | [x0,x1,x2],_=>
  have h0:HasC T g t0 [x0]:=h0
  obtain ⟨a0,e,q0⟩:=h0.isL v0 (Xkn w0) (HasC.isTyp w0);cases e
  have h1:HasC T g t1 [x1]:=h1
  obtain ⟨a1,e,q1⟩:=h1.isL v1 (szS w1) (HasC.isStr w1);cases e
  have h2:HasC T g t2 [x2]:=h2
  obtain ⟨a2,e,q2⟩:=h2.isL v2 (Yr7 w2) (HasC.isFun w2);cases e
  exact ⟨⟨a0,a1,a2⟩,rfl,⟨q0,q1,q2⟩⟩
theorem Jv.isImg {T:Xo} {t:Nat} {x:AV} (V:Zg5 T t) (h:Jv T t x) :∃v:Zf,x=v.av/\Ztv v:=by
 have V0:=V
 obtain ⟨t0,t1,t2,e0,e1,e2,V,v0,w0,v1,w1,v2,w2⟩:=V0
 exact Jv.isT V (HasC.isImg ‹Zg5 T t›) h
structure Yfm (x:Zz):Prop where
 slot:-9223372036854775808<=x.slot/\x.slot<9223372036854775808
 value:Wf x.value
def Zb9 (T:Xo) (t:Nat):Prop:=∃t0 t1,Gq T t [(t0,0),(t1,1)] 6/\Jp T .i64 t0/\Px T t1
theorem Xxn {T:Xo} {t:Nat} (V:Zb9 T t) :∃j,T t=some j/\j.size=6:=by
 obtain ⟨t0,t1,V,v0,v1⟩:=V
 exact Mi V
theorem HasC.isLoc {T:Xo} {t:Nat} (V:Zb9 T t) (f:Nat) (xs:List AV) (hl:xs.length=6) (h:HasC T f t xs) :∃x:Zz,xs=x.row/\Yfm x:=by
 obtain ⟨t0,t1,V,v0,v1⟩:=V
 obtain ⟨g,rfl,hh⟩:=h.isT V
 have h0:=hh (t0,0) (by simp) 1 (Jz v0)
 have h1:=hh (t1,1) (by simp) 5 (Zj3 v1)
 match xs,hl with
 | [x0,x1,x2,x3,x4,x5],_=>
  have h0:HasC T g t0 [x0]:=h0
  obtain ⟨a0,e,q0⟩:=h0.isI v0;cases e
  have h1:HasC T g t1 [x1,x2,x3,x4,x5]:=h1
  obtain ⟨a1,e,q1⟩:=HasC.isVal v1 g _ rfl h1;rw [Zb.row_eq] at e;cases e
  exact ⟨⟨a0,a1⟩,rfl,⟨Uf q0,q1⟩⟩
structure Zyz (x:Zg):Prop where
 func:-9223372036854775808<=x.func/\x.func<9223372036854775808
 pos:-9223372036854775808<=x.pos/\x.pos<9223372036854775808
 mode:0<=x.mode/\x.mode<18446744073709551616
 locals:x.locals.length<=maxLen/\∀y∈x.locals,Yfm y
def Zcw (T:Xo) (t:Nat):Prop:=∃t0 t1 t2 t3 e3,Gq T t [(t0,0),(t1,1),(t2,2),(t3,3)] 4/\Jp T .i64 t0/\Jp T .i64 t1/\Jp T .u64 t2/\Gk T t3 e3/\Zb9 T e3
theorem Wc1 {T:Xo} {t:Nat} (V:Zcw T t) :∃j,T t=some j/\j.size=4:=by
 obtain ⟨t0,t1,t2,t3,e3,V,v0,v1,v2,v3,w3⟩:=V
 exact Mi V
theorem HasC.isFrm {T:Xo} {t:Nat} (V:Zcw T t) (f:Nat) (xs:List AV) (hl:xs.length=4) (h:HasC T f t xs) :∃x:Zg,xs=x.row/\Zyz x:=by
 obtain ⟨t0,t1,t2,t3,e3,V,v0,v1,v2,v3,w3⟩:=V
 obtain ⟨g,rfl,hh⟩:=h.isT V
 have h0:=hh (t0,0) (by simp) 1 (Jz v0)
 have h1:=hh (t1,1) (by simp) 1 (Jz v1)
 have h2:=hh (t2,2) (by simp) 1 (Jz v2)
 have h3:=hh (t3,3) (by simp) 1 (Dd v3)
 match xs,hl with
 | [x0,x1,x2,x3],_=>
  have h0:HasC T g t0 [x0]:=h0
  obtain ⟨a0,e,q0⟩:=h0.isI v0;cases e
  have h1:HasC T g t1 [x1]:=h1
  obtain ⟨a1,e,q1⟩:=h1.isI v1;cases e
  have h2:HasC T g t2 [x2]:=h2
  obtain ⟨a2,e,q2⟩:=h2.isI v2;cases e
  have h3:HasC T g t3 [x3]:=h3
  obtain ⟨a3,e,q3⟩:=h3.isL v3 (Xxn w3) (HasC.isLoc w3);cases e
  exact ⟨⟨a0,a1,a2,a3⟩,rfl,⟨Uf q0,Uf q1,Zbb q2,q3⟩⟩
structure Zt1 (x:Zh):Prop where
 tag:0<=x.tag/\x.tag<18446744073709551616
 value:Wf x.value
 flags:0<=x.flags/\x.flags<18446744073709551616
def Zg3 (T:Xo) (t:Nat):Prop:=∃t0 t1 t2,Gq T t [(t0,0),(t1,1),(t2,6)] 7/\Jp T .u64 t0/\Px T t1/\Jp T .u64 t2
theorem Xk8 {T:Xo} {t:Nat} (V:Zg3 T t) :∃j,T t=some j/\j.size=7:=by
 obtain ⟨t0,t1,t2,V,v0,v1,v2⟩:=V
 exact Mi V
theorem HasC.isPan {T:Xo} {t:Nat} (V:Zg3 T t) (f:Nat) (xs:List AV) (hl:xs.length=7) (h:HasC T f t xs) :∃x:Zh,xs=x.row/\Zt1 x:=by
 obtain ⟨t0,t1,t2,V,v0,v1,v2⟩:=V
 obtain ⟨g,rfl,hh⟩:=h.isT V
 have h0:=hh (t0,0) (by simp) 1 (Jz v0)
 have h1:=hh (t1,1) (by simp) 5 (Zj3 v1)
 have h2:=hh (t2,6) (by simp) 1 (Jz v2)
 match xs,hl with
 | [x0,x1,x2,x3,x4,x5,x6],_=>
  have h0:HasC T g t0 [x0]:=h0
  obtain ⟨a0,e,q0⟩:=h0.isI v0;cases e
  have h1:HasC T g t1 [x1,x2,x3,x4,x5]:=h1
  obtain ⟨a1,e,q1⟩:=HasC.isVal v1 g _ rfl h1;rw [Zb.row_eq] at e;cases e
  have h2:HasC T g t2 [x6]:=h2
  obtain ⟨a2,e,q2⟩:=h2.isI v2;cases e
  exact ⟨⟨a0,a1,a2⟩,rfl,⟨Zbb q0,q1,Zbb q2⟩⟩
structure Ya8 (x:Zq):Prop where
 frame:-9223372036854775808<=x.frame/\x.frame<9223372036854775808
 func:-9223372036854775808<=x.func/\x.func<9223372036854775808
 arg:Wf x.arg
def Zcr (T:Xo) (t:Nat):Prop:=∃t0 t1 t2 t3,Gq T t [(t0,0),(t1,1),(t2,2),(t3,3)] 8/\Jp T .i64 t0/\Jp T .i64 t1/\IsB T t2/\Px T t3
theorem Xl1 {T:Xo} {t:Nat} (V:Zcr T t) :∃j,T t=some j/\j.size=8:=by
 obtain ⟨t0,t1,t2,t3,V,v0,v1,v2,v3⟩:=V
 exact Mi V
theorem HasC.isDfr {T:Xo} {t:Nat} (V:Zcr T t) (f:Nat) (xs:List AV) (hl:xs.length=8) (h:HasC T f t xs) :∃x:Zq,xs=x.row/\Ya8 x:=by
 obtain ⟨t0,t1,t2,t3,V,v0,v1,v2,v3⟩:=V
 obtain ⟨g,rfl,hh⟩:=h.isT V
 have h0:=hh (t0,0) (by simp) 1 (Jz v0)
 have h1:=hh (t1,1) (by simp) 1 (Jz v1)
 have h2:=hh (t2,2) (by simp) 1 (szB v2)
 have h3:=hh (t3,3) (by simp) 5 (Zj3 v3)
 match xs,hl with
 | [x0,x1,x2,x3,x4,x5,x6,x7],_=>
  have h0:HasC T g t0 [x0]:=h0
  obtain ⟨a0,e,q0⟩:=h0.isI v0;cases e
  have h1:HasC T g t1 [x1]:=h1
  obtain ⟨a1,e,q1⟩:=h1.isI v1;cases e
  have h2:HasC T g t2 [x2]:=h2
  obtain ⟨a2,e⟩:=h2.isB v2;cases e
  have h3:HasC T g t3 [x3,x4,x5,x6,x7]:=h3
  obtain ⟨a3,e,q3⟩:=HasC.isVal v3 g _ rfl h3;rw [Zb.row_eq] at e;cases e
  exact ⟨⟨a0,a1,a2,a3⟩,rfl,⟨Uf q0,Uf q1,q3⟩⟩
structure Zok (x:Zk):Prop where
 status:0<=x.status/\x.status<256
 key:-9223372036854775808<=x.key/\x.key<9223372036854775808
 frames:x.frames.length<=maxLen/\∀y∈x.frames,Zyz y
 defers:x.defers.length<=maxLen/\∀y∈x.defers,Ya8 y
 panics:x.panics.length<=maxLen/\∀y∈x.panics,Zt1 y
def Zgj (T:Xo) (t:Nat):Prop:=∃t0 t1 t2 t3 t4 e2 e3 e4,Gq T t [(t0,0),(t1,1),(t2,2),(t3,3),(t4,4)] 5/\Jp T .u8 t0/\Jp T .i64 t1/\Gk T t2 e2/\Zcw T e2/\Gk T t3 e3/\Zcr T e3/\Gk T t4 e4/\Zg3 T e4
theorem Wd0 {T:Xo} {t:Nat} (V:Zgj T t) :∃j,T t=some j/\j.size=5:=by
 obtain ⟨t0,t1,t2,t3,t4,e2,e3,e4,V,v0,v1,v2,w2,v3,w3,v4,w4⟩:=V
 exact Mi V
theorem HasC.isRou {T:Xo} {t:Nat} (V:Zgj T t) (f:Nat) (xs:List AV) (hl:xs.length=5) (h:HasC T f t xs) :∃x:Zk,xs=x.row/\Zok x:=by
 obtain ⟨t0,t1,t2,t3,t4,e2,e3,e4,V,v0,v1,v2,w2,v3,w3,v4,w4⟩:=V
 obtain ⟨g,rfl,hh⟩:=h.isT V
 have h0:=hh (t0,0) (by simp) 1 (Jz v0)
 have h1:=hh (t1,1) (by simp) 1 (Jz v1)
 have h2:=hh (t2,2) (by simp) 1 (Dd v2)
 have h3:=hh (t3,3) (by simp) 1 (Dd v3)
 have h4:=hh (t4,4) (by simp) 1 (Dd v4)
 match xs,hl with
 | [x0,x1,x2,x3,x4],_=>
  have h0:HasC T g t0 [x0]:=h0
  obtain ⟨a0,e,q0⟩:=h0.isI v0;cases e
  have h1:HasC T g t1 [x1]:=h1
  obtain ⟨a1,e,q1⟩:=h1.isI v1;cases e
  have h2:HasC T g t2 [x2]:=h2
  obtain ⟨a2,e,q2⟩:=h2.isL v2 (Wc1 w2) (HasC.isFrm w2);cases e
  have h3:HasC T g t3 [x3]:=h3
  obtain ⟨a3,e,q3⟩:=h3.isL v3 (Xl1 w3) (HasC.isDfr w3);cases e
  have h4:HasC T g t4 [x4]:=h4
  obtain ⟨a4,e,q4⟩:=h4.isL v4 (Xk8 w4) (HasC.isPan w4);cases e
  exact ⟨⟨a0,a1,a2,a3,a4⟩,rfl,⟨Ac q0,Uf q1,q2,q3,q4⟩⟩
structure Zps (x:Zu):Prop where
 outcome:0<=x.outcome/\x.outcome<256
 failing:-9223372036854775808<=x.failing/\x.failing<9223372036854775808
 steps:-9223372036854775808<=x.steps/\x.steps<9223372036854775808
 routines:x.routines.length<=maxLen/\∀y∈x.routines,Zok y
def Zgf (T:Xo) (t:Nat):Prop:=∃t0 t1 t2 t3 e3,Gq T t [(t0,0),(t1,1),(t2,2),(t3,3)] 4/\Jp T .u8 t0/\Jp T .i64 t1/\Jp T .i64 t2/\Gk T t3 e3/\Zgj T e3
theorem HasC.isSta {T:Xo} {t:Nat} (V:Zgf T t) (f:Nat) (xs:List AV) (hl:xs.length=4) (h:HasC T f t xs) :∃x:Zu,xs=x.row/\Zps x:=by
 obtain ⟨t0,t1,t2,t3,e3,V,v0,v1,v2,v3,w3⟩:=V
 obtain ⟨g,rfl,hh⟩:=h.isT V
 have h0:=hh (t0,0) (by simp) 1 (Jz v0)
 have h1:=hh (t1,1) (by simp) 1 (Jz v1)
 have h2:=hh (t2,2) (by simp) 1 (Jz v2)
 have h3:=hh (t3,3) (by simp) 1 (Dd v3)
 match xs,hl with
 | [x0,x1,x2,x3],_=>
  have h0:HasC T g t0 [x0]:=h0
  obtain ⟨a0,e,q0⟩:=h0.isI v0;cases e
  have h1:HasC T g t1 [x1]:=h1
  obtain ⟨a1,e,q1⟩:=h1.isI v1;cases e
  have h2:HasC T g t2 [x2]:=h2
  obtain ⟨a2,e,q2⟩:=h2.isI v2;cases e
  have h3:HasC T g t3 [x3]:=h3
  obtain ⟨a3,e,q3⟩:=h3.isL v3 (Wd0 w3) (HasC.isRou w3);cases e
  exact ⟨⟨a0,a1,a2,a3⟩,rfl,⟨Ac q0,Uf q1,Uf q2,q3⟩⟩
theorem Jv.isSta {T:Xo} {t:Nat} {x:AV} (V:Zgf T t) (h:Jv T t x) :∃v:Zu,x=v.av/\Zps v:=by
 have V0:=V
 obtain ⟨t0,t1,t2,t3,e3,V,v0,v1,v2,v3,w3⟩:=V0
 exact Jv.isT V (HasC.isSta ‹Zgf T t›) h
end Go.AM

/- Helpers of the packed texts of a seat (pack.py, packk). -/
namespace Go.AM
open Go
section
variable {P:Program} {X:Cx}
theorem fK {f:Nat} {F:AF} {fn:Func} (h1:P.funcs[f]?=some fn) (h2:(fn.name== "runtime.NumGoroutine")=false:=by kernel_rfl) (h3:fn.body.bind (Uv { X with fz:=F.fz } F.nt)=some F.body:=by kernel_rfl) (h4:fn.ntmps=F.nt:=by kernel_rfl) (h5:Bw X fn.results.toList=some F.res:=by kernel_rfl) (h6:Nat.ble F.res.length 4=true:=by kernel_rfl):Yc P X f F:=Yc.of h1 h2 h3 h4 h5 h6
theorem fS {F0:AF} {x:Option AF} {p:AF->Prop} {r:Prop} (h:x=some F0) (ok:p F0) (k:r):(∀F,x=some F->p F)/\r:=
 ⟨fun F e=>(by
  rw [h] at e
  injection e with e
  subst e
  exact ok),k⟩
theorem fN {x:Option AF} {p:AF->Prop} {r:Prop} (h:x=none) (k:r):(∀F,x=some F->p F)/\r:=
 ⟨fun F e=>(by rw [h] at e;cases e),k⟩
theorem tK {t:TypeId} {i:TI} (ti:TypeInfo) (h4:i.kind.ok P t) (h1:P.info? t=some ti:=by kernel_rfl) (h2:(Nat.beq ti.size i.size&&Nat.beq ti.bytes i.bytes)=true:=by kernel_rfl) (h3:(ti.zero.bind fun z=>if z.cells.size=i.size then Hq z.cells.toList else none)=some i.zero:=by kernel_rfl):Kj P t i:=Kj.of h1 h2 h3 h4
theorem tC {x:Nat × TI} {l:List (Nat × TI)} (h:Kj P x.1 x.2) (k :∀x∈l,Kj P x.1 x.2) :∀y∈x::l,Kj P y.1 y.2:=by
 intro y hy
 rcases List.mem_cons.1 hy with rfl | hy
 ·exact h
 ·exact k y hy
theorem tN :∀y∈([]:List (Nat × TI)),Kj P y.1 y.2:=fun _ h=>by cases h
theorem kE {t:TypeId} {d:TypeDesc} (h:P.underlying t=some d:=by kernel_rfl):P.underlying t=some d:=h
theorem kS {t:TypeId} {fs:List (Nat × Nat)} (h:((P.underlying t).bind fun d=>match d with | .struct f=>if (!P.stoodInHeld t&&!P.eqGuardType P.depth t&&f.toList.all (fun f=>!(f.name== "_")))=true then some (f.toList.map fun f=>(f.type,f.offset)) else none | _=>none)=some fs:=by kernel_rfl):TK.ok P t (.st fs):=TK.ok_st h
theorem kO {t:TypeId} (h:(match P.underlying t with | none=>false | some (.struct _)=>false | some (.array _ _)=>false | some _=>true)=true:=by kernel_rfl):TK.ok P t .other:=TK.ok_other h
end
end Go.AM

/- Yf of the proof. -/
namespace Go.AM
open Go Go.RowKit
theorem Xev {w:World} {a:Addr} {v:Value} (h:w.cell? a=some v):a.block<w.heap.size:=by
 unfold World.cell? at h
 split at h
 ·rename_i hb;exact (Array.getElem?_eq_some_iff.1 hb).1
 ·cases h
variable {H:Type} {enc:TypeId × Value->H}
theorem Xip {a:Assume} {C:Checked} {os:Os} {f:FuncId} {fn:Func} {s:ChangeSpec} {conds:List PathCond} {apart fresh handsOn again:Bool} {X:World->Array Value->Prop}
  (own:ownKnob C.prog.godebug=none) (started:os.Started) (noInit:C.prog.inits.idxOf? f=none) (hfn:C.prog.funcs[f]?=some fn)
  (witness :∃(w:World) (tape:Tape) (i:Input),w.os=os/\(w.forCall tape i).Shaped C.prog/\i.vars=[]/\Input.okWide C.prog (w.forCall tape i) .any w.heap.size f i/\
   ((s.pre enc C.prog fn conds apart (w.forCall tape i).memory i.args/\X (w.forCall tape i).memory i.args)/\sizedMet enc C.prog fn (OpenSpec.ofChange s) apart (w.forCall tape i).memory i.args)/\a.holds C.prog (lone (Frame.enter C.prog f i.args .normal) [] (w.forCall tape i)))
  (contract :∀(W:World) (base:Nat) (args:Array Value) (ds gs:List (DataW H)) (before:List MemPlace),
   (∀(j:Nat) t v,fn.params[j]?=some t->args[j]?=some v->Value.okWide C.prog W .any base t v)->
   DataW.Whole enc C.prog fn.params.toList s.vars apart W args.toList ds gs before->
   W.ShapedOpen C.prog->
   Calls C.prog f args W fun e W'=>∃v,e=.returned v/\s.post enc C.prog fn apart fresh handsOn again W args v W') :
  ReturnsInHanded a C os f .any (fun w args=>(s.pre enc C.prog fn conds apart w args/\X w args)/\sizedMet enc C.prog fn (OpenSpec.ofChange s) apart w args) (s.post enc C.prog fn apart fresh handsOn again):=by
 refine returnsInHanded_of_calls own started noInit witness ?_
 intro w tape i _ hsh _ hok hpre _
 obtain ⟨_,_,_,fn',hfn',_,_,_,_,hval⟩:=hok
 have e:fn'=fn:=Option.some.inj (hfn'.symm.trans hfn)
 subst e
 obtain ⟨⟨⟨ds,gs,before,hw,_⟩,_⟩,_⟩:=hpre
 have hw':=DataW.Whole.of_heap (w':=w.forCall tape i) (by rfl) hw
 refine (contract (w.forCall tape i) w.heap.size i.args ds gs before hval hw' hsh).mono fun e W' ⟨v,he,hp⟩=>?_
 subst he
 exact ChangeSpec.post_blind hp
end Go.AM

/- Yf of the proof. -/
namespace Go.AM
open Go Go.RowKit Go.Shelf
def Zlj (f:Func):Code:=f.body.getD .skip
def Zgc (w:World) (L:List (List UInt8)) (e:Ending) (w':World):Prop:=
 ∃(l:List ByteArray) (cs:Array Value) (cap:Nat) (t:TypeId),e=.returned (.slice (some ⟨w.heap.size,0,none⟩) l.length cap)/\w'=w.alloc (.cells cs t)/\l.length<=cap/\(∀(q:Nat) x,l[q]?=some x->cs[q]?=some (.string x))/\l.map (·.data.toList)=L
theorem Ym0 {G:Gh} {w0 w:World} {st:St} {d:Nat} (hR:Yo G w0 st w) {l:List ByteArray} {cs:Array Value} {cap:Nat} {t:TypeId} (hcap:l.length<=cap) (hcs :∀(q:Nat) x,l[q]?=some x->cs[q]?=some (.string x)) :
  ∃G',R G' (.sl .ext ((l.map (·.data.toList)).map Zv)) (.slice (some ⟨w.heap.size,0,none⟩) l.length cap)/\Vx G G' w0 st st (w.alloc (.cells cs t)) d:=by
 have hlen:((l.map (·.data.toList)).map Zv).length=l.length:=by simp
 have hrow :∀(i:Nat) row,((l.map (·.data.toList)).map Zv)[i]?=some row->∃x,l[i]?=some x/\row=[.s x.data.toList]:=by
  intro i row h
  simp only [List.getElem?_map,Option.map_eq_some_iff] at h
  obtain ⟨y,⟨x,h1,rfl⟩,rfl⟩:=h
  exact ⟨x,h1,rfl⟩
 obtain ⟨h1,h2⟩:=Zmw (w1:=w) hR (rows:=(l.map (·.data.toList)).map Zv) (size:=1) (us:=fun i _=>.string (l.getD i ByteArray.empty)) (cs:=cs) (e:=t) (cap:=cap) (d:=d) (site:=0) (ver:=st.nx)
  (fun row h=>by
   obtain ⟨i,hi,rfl⟩:=List.mem_iff_getElem.1 h
   obtain ⟨x,_,e⟩:=hrow i _ (List.getElem?_eq_getElem hi)
   rw [e];rfl)
  (fun i row j a h1 h2=>by
   obtain ⟨x,hx,rfl⟩:=hrow i row h1
   cases j with
   | zero=>
    simp only [List.getElem?_cons_zero,Option.some.injEq] at h2
    subst h2
    have:l.getD i ByteArray.empty=x:=by simp [List.getD_eq_getElem?_getD,hx]
    rw [this]
    exact .s x.data.toList
   | succ j=>simp at h2)
  (fun i row j a h1 h2=>rfl)
  (fun q v hq=>by
   rw [Do] at hq
   split at hq
   ·rename_i hlt
    cases hq
    rw [hlen] at hlt
    have hq:q<l.length:=by omega
    rw [Nat.div_one,hcs q _ (List.getElem?_eq_getElem hq)]
    simp [List.getD_eq_getElem?_getD,List.getElem?_eq_getElem hq]
   ·cases hq) rfl (Below.refl _ _) (by rw [hlen];exact hcap)
 rw [hlen] at h1 h2
 exact ⟨_,.fz _ _ h2,(Vx.refl hR).step h1 (Nat.le_refl _)⟩
variable {P:Program} {ρ:Ren}
theorem Xu0 (L:Proofs.Lays.n146 P ρ) (hi9:(P.info? (ρ.t 9)).map (fun i=>(i.zero,i.size,i.bytes))=some (some (.string ByteArray.empty),1,16)) (s:List UInt8) (m:Int) (w:World) (hs:s.length<4294967281) (hm:w.cell? ⟨(ρ.g 1),0,none⟩=some (.int .i64 m)) :
  Calls P (ρ.f 146) #[.string ⟨s.toArray⟩,.string ⟨#[10]⟩] w (Zgc w (Lib.split s [10])):=by
 refine (Go.Proofs.Any.strings_Split L hi9 ⟨s.toArray⟩ ⟨#[10]⟩ m w hs hm (by decide)).mono fun e w' ⟨h1,h2⟩=>?_
 have hl:=Lib.splitB_all ⟨#[10]⟩ (by decide) 0 _ ⟨s.toArray⟩ rfl
 refine ⟨Lib.splitB ⟨#[10]⟩ 0 (Lib.countB ⟨s.toArray⟩ ⟨#[10]⟩) ⟨s.toArray⟩,_,_,_,by rw [h1,hl],h2,Nat.le_of_eq hl,fun q x hq=>?_,?_⟩
 ·simp only [List.getElem?_toArray,List.getElem?_map,hq,Option.map_some]
 ·rw [Lib.splitB_data];rfl
theorem Xt2 (L:Proofs.Lays.n147 P ρ) (hi9:(P.info? (ρ.t 9)).map (fun i=>(i.zero,i.size,i.bytes))=some (some (.string ByteArray.empty),1,16)) (s:List UInt8) (m:Int) (w:World) (hs:s.length<4294967281) (hm:w.cell? ⟨(ρ.g 1),0,none⟩=some (.int .i64 m)) :
  Calls P (ρ.f 147) #[.string ⟨s.toArray⟩,.string ⟨#[32]⟩,.int .i64 4] w (Zgc w (Lib.splitN s [32] 4)):=by
 refine (Go.Proofs.Any.strings_SplitN L hi9 ⟨s.toArray⟩ ⟨#[32]⟩ 4 m w hs hm (by decide) (by decide) (by decide)).mono fun e w' ⟨h1,h2⟩=>?_
 have hl:=Lib.splitB_length_le ⟨#[32]⟩ 0 (min 4 (s.length+1)-1) ⟨s.toArray⟩
 refine ⟨Lib.splitB ⟨#[32]⟩ 0 (min 4 (s.length+1)-1) ⟨s.toArray⟩,_,_,_,h1,h2,?_,fun q x hq=>?_,?_⟩
 ·show _<=min 4 (s.length+1)
  omega
 ·unfold Lib.cellsOf
  have hlt:q<(Lib.splitB ⟨#[32]⟩ 0 (min 4 (s.length+1)-1) ⟨s.toArray⟩).length:=by
   rcases Nat.lt_or_ge q (Lib.splitB ⟨#[32]⟩ 0 (min 4 (s.length+1)-1) ⟨s.toArray⟩).length with h | h
   ·exact h
   ·rw [List.getElem?_eq_none h] at hq;cases hq
  rw [List.getElem?_toArray,List.getElem?_append_left (by rw [List.length_map];exact hlt),List.getElem?_map]
  exact congrArg (Option.map Value.string) hq
 ·rw [Lib.splitB_data];rfl
def He:Nat->List AV->Option AV:=fun c args=>
 if c=304 then (match args with | [.s s,.s [10]]=>if s.length<=1000000000 then some (.sl .ext ((Lib.split s [10]).map Zv)) else none | _=>none)
 else if c=323 then (match args with | [.s s,.s [32],.i .i64 4]=>if s.length<=1000000000 then some (.sl .ext ((Lib.splitN s [32] 4).map Zv)) else none | _=>none)
 else if c=197 then (match args with | [.s s,.s p]=>if s.length<=1000000000 then some (.i .i64 (Lib.index s p)) else none | _=>none)
 else Nb c args
theorem Wga (s:List UInt8) (h:s.length<=1000000000):He 304 [.s s,.s [10]]=some (.sl .ext ((Lib.split s [10]).map Zv)):=by
 unfold He
 rw [if_pos rfl]
 simp only
 rw [if_pos h]
theorem Wde (s:List UInt8) (h:s.length<=1000000000):He 323 [.s s,.s [32],.i .i64 4]=some (.sl .ext ((Lib.splitN s [32] 4).map Zv)):=by
 unfold He
 rw [if_neg (by decide),if_pos rfl]
 simp only
 rw [if_pos h]
theorem We3 (s p:List UInt8) (h:s.length<=1000000000):He 197 [.s s,.s p]=some (.i .i64 (Lib.index s p)):=by
 unfold He
 rw [if_neg (by decide),if_neg (by decide),if_pos rfl]
 simp only
 rw [if_pos h]
theorem Xlc (s:List UInt8) (c:UInt8):He 48 [.s s,.i .u8 (c.toNat:Int)]=some (.i .i64 (Lib.indexByte s c)):=by
 unfold He
 rw [if_neg (by decide),if_neg (by decide),if_neg (by decide)]
 exact Xjl s c
theorem Ymm (k:Zo) (v:Nat):He 146 [.p k v 0]=some (.p k v 0):=rfl
theorem Yvr (args:List AV):He 105 args=none:=by
 unfold He
 rw [if_neg (by decide),if_neg (by decide),if_neg (by decide)]
 exact Yr0 args
variable {X:Cx} {fn:Nat->Option AF} {orc:Nat->List AV->St->Option (AV × St)}
theorem Xgi (hB:Nm P X ⟨fn,Nb,orc⟩) {f1 f2 f3 g:Nat} (hg:X.fm 1000000000004=some g)
  (h1 :∀f,X.fm f=some 304->f=f1) (e1 :∀args w,(callFunc f1 args).run P w=.ok (.enter f1 args) w)
  (c1 :∀(s:List UInt8) (m:Int) (w:World),s.length<4294967281->w.cell? ⟨g-1000000000,0,none⟩=some (.int .i64 m)->Calls P f1 #[.string ⟨s.toArray⟩,.string ⟨#[10]⟩] w (Zgc w (Lib.split s [10])))
  (h2 :∀f,X.fm f=some 323->f=f2) (e2 :∀args w,(callFunc f2 args).run P w=.ok (.enter f2 args) w)
  (c2 :∀(s:List UInt8) (m:Int) (w:World),s.length<4294967281->w.cell? ⟨g-1000000000,0,none⟩=some (.int .i64 m)->Calls P f2 #[.string ⟨s.toArray⟩,.string ⟨#[32]⟩,.int .i64 4] w (Zgc w (Lib.splitN s [32] 4)))
  (h3 :∀f,X.fm f=some 197->f=f3) (e3 :∀args w,(callFunc f3 args).run P w=.ok (.enter f3 args) w)
  (c3 :∀(s p:ByteArray) (m:Int) (w:World),s.size<4294967281->w.cell? ⟨g-1000000000,0,none⟩=some (.int .i64 m)->Calls P f3 #[.string s,.string p] w fun e w'=>e=.returned (.int .i64 (Lib.index s.data.toList p.data.toList))/\w'=w):Nm P X ⟨fn,He,orc⟩:=by
 intro f c hfc hn args r hr G w0 st w Yw d hG hR hV
 obtain ⟨_,m,hm⟩:=hR.bel.here.glob g (by rw [hG];exact hg)
 simp only [He] at hr
 split at hr
 ·rename_i hc
  subst hc
  obtain rfl:=h1 f hfc
  split at hr
  case h_2=>cases hr
  rename_i s
  split at hr
  case isFalse=>cases hr
  rename_i hs
  cases hr
  have hlen:=hV.1
  match Yw,hlen with
  | [u1,u2],_=>
   have k1:=(hV.2 0 _ u1 rfl rfl).str_inv
   have k2:=(hV.2 1 _ u2 rfl rfl).str_inv
   subst k1;subst k2
   refine .inl ⟨e1 _ _,(c1 s m w (by omega) hm).mono fun e w' he=>?_⟩
   obtain ⟨l,cs,cap,t,rfl,rfl,hcap,hcs,hl⟩:=he
   rw [<- hl]
   exact Ym0 hR hcap hcs
 split at hr
 ·rename_i hc
  subst hc
  obtain rfl:=h2 f hfc
  split at hr
  case h_2=>cases hr
  rename_i s
  split at hr
  case isFalse=>cases hr
  rename_i hs
  cases hr
  have hlen:=hV.1
  match Yw,hlen with
  | [u1,u2,u3],_=>
   have k1:=(hV.2 0 _ u1 rfl rfl).str_inv
   have k2:=(hV.2 1 _ u2 rfl rfl).str_inv
   have k3:=(hV.2 2 _ u3 rfl rfl).int_inv
   subst k1;subst k2;subst k3
   refine .inl ⟨e2 _ _,(c2 s m w (by omega) hm).mono fun e w' he=>?_⟩
   obtain ⟨l,cs,cap,t,rfl,rfl,hcap,hcs,hl⟩:=he
   rw [<- hl]
   exact Ym0 hR hcap hcs
 split at hr
 ·rename_i hc
  subst hc
  obtain rfl:=h3 f hfc
  split at hr
  case h_2=>cases hr
  rename_i s p
  split at hr
  case isFalse=>cases hr
  rename_i hs
  cases hr
  have hlen:=hV.1
  match Yw,hlen with
  | [u1,u2],_=>
   have k1:=(hV.2 0 _ u1 rfl rfl).str_inv
   have k2:=(hV.2 1 _ u2 rfl rfl).str_inv
   subst k1;subst k2
   refine .inl ⟨e3 _ _,(c3 ⟨s.toArray⟩ ⟨p.toArray⟩ m w (show s.length<_ by omega) hm).mono fun e w' he=>?_⟩
   obtain ⟨rfl,rfl⟩:=he
   exact ⟨G,.fz _ _ (.i _ _),.refl hR⟩
 ·exact hB f c hfc hn args r hr G w0 st w Yw d hG hR hV
end Go.AM

/- Yf of the proof. -/
namespace Go.AM
open Go
structure Dsk where
 image:Zf
 state:Zu
 query:Ds
 out:List (List UInt8)
def Zrz (ow:Xt) (o:Zl) (n:Nat):Prop:=
 match o with
 | .ext=>False
 | .full=>True
 | .id k v=>(lk ow k=some (v,n)/\0<n)/\Rq<=k.2/\k.2<Xu
theorem Zrz.app {ow:Xt} {o:Zl} {n:Nat} (h:Zrz ow o n):Jk ow o n:=by
 cases o with
 | ext=>exact h
 | full=>exact h
 | id k v=>exact h.1
abbrev Dsk.fix (m:Dsk):List AV:=[.sl .ext (List.map Wu.row m.image.types),.sl .ext (List.map Zv m.image.texts),.sl .ext (List.map Yb.row m.image.funcs),.i .u8 m.state.outcome,.i .i64 m.state.failing,.i .i64 m.state.steps,.sl .ext (List.map Zk.row m.state.routines),.i .u8 m.query.kind,.i .i64 m.query.g,.i .i64 m.query.k,.i .i64 m.query.key,.s m.query.name]
def Dk (m:Dsk):BC:=fun bx ow k v=>∃o,lk bx k=some (v,m.fix++[.sl o (List.map Zv m.out)])/\Zrz ow o m.out.length
theorem Dk.other {m:Dsk} {bx:Xw} {ow:Xt} {k q:Zo} {v:Nat} {a:Nat × List AV} (hn:q≠k) (h:Dk m bx ow k v):Dk m (Yx bx q a) ow k v:=by
 obtain ⟨o,h1,h2⟩:=h
 exact ⟨o,by rw [Gj hn];exact h1,h2⟩
theorem Dk.out {m:Dsk}:Rf (Dk m):=fun d bx ow k v hk ⟨o,h1,h2⟩=>⟨o,by rw [Av hk];exact h1,h2⟩
def Qe (S:List Nat) (d:Nat) (ow:Xt) (o:Zl) (n:Nat):Prop:=Jk ow o n/\∀k v,o=.id k v->k.1=d/\S.contains k.2=true
theorem Qe.full {S:List Nat} {d n:Nat} {ow:Xt}:Qe S d ow .full n:=⟨trivial,fun _ _ h=>by cases h⟩
theorem Qe.new {S:List Nat} {d n n' site:Nat} {ow ow':Xt} {o o':Zl} (h:Qe S d ow o n) (a:Jk ow' o' n') (he:Ko o'=Ko o\/Ko o'=some (d,site)) (hs:S.contains site=true):Qe S d ow' o' n':=by
 refine ⟨a,fun k v e=>?_⟩
 subst e
 rcases he with he | he
 ·cases o with
  | ext=>cases he
  | full=>cases he
  | id k' v'=>
   injection he with he
   subst he
   exact h.2 _ _ rfl
 ·injection he with he
  subst he
  exact ⟨rfl,hs⟩
theorem Qe.keep {S1 S2:List Nat} {d n n2 site:Nat} {ow ow':Xt} {o o2:Zl} (h2:Qe S2 d ow o2 n2) (h1:Qe S1 d ow o n) (hw :∀k,some k≠Ko o->k≠(d,site)->lk ow' k=lk ow k) (hs:S1.contains site=true) (hd:(S1.all fun x=>!S2.contains x)=true):Qe S2 d ow' o2 n2:=by
 refine ⟨?_,h2.2⟩
 have hn :∀x,S1.contains x=true->S2.contains x=false:=fun x hx=>by
  have:=List.all_eq_true.1 hd x (by simpa using hx)
  simpa using this
 cases o2 with
 | ext=>exact h2.1
 | full=>exact h2.1
 | id k v=>
  obtain ⟨e1,e2⟩:=h2.2 k v rfl
  obtain ⟨a1,a2⟩:=h2.1
  refine ⟨(hw k ?_ ?_).trans a1,a2⟩
  ·intro e
   cases o with
   | ext=>cases e
   | full=>cases e
   | id k' v'=>
    injection e with e
    subst e
    have:=hn _ (h1.2 _ _ rfl).2
    rw [e2] at this
    cases this
  ·rintro rfl
   have:=hn _ hs
   rw [e2] at this
   cases this
def Zxc {β:Type} (PG:Za) (f:Nat) (B:BC) (args:Zo->Nat->List AV) (KK:AV->β->Prop) (B':β->BC):Prop:=
 ∀d (st:St) (k:Zo) (v:Nat),k.1<d->B st.bx st.ow k v->∃r st' b,Fn PG d f (.p k v 0::args k v) st r st'/\KK r b/\B' b st'.bx st'.ow k v/\Fr d k st.bx st.ow st'.bx st'.ow
theorem Zxc.of {β:Type} {PG:Za} {f:Nat} {F:AF} {B:BC} {B':β->BC} {args:Zo->Nat->List AV} {KK:AV->β->Prop} (hf:PG.fn f=some F) (hn :∀k v,Nat.ble ((args k v).length+1) F.nt=true) (ho :∀b,Rf (B' b))
  (h :∀(d:Nat) (st:St) (k:Zo) (v:Nat),k.1<d->B st.bx st.ow k v->W PG d F.body (Xz (.p k v 0::args k v)) st fun e σ st'=>(e=.normal\/e=.ret)/\∃r b,Xg σ st' F.res=some r/\KK r b/\B' b st'.bx st'.ow k v/\Fr d k st.bx st.ow st'.bx st'.ow):Zxc PG f B args KK B':=by
 intro d st k v hk hB
 obtain ⟨r,st',h1,b,h2,h3,h4⟩:=Fn.of' (PG:=PG) (K:=fun r st'=>∃b,KK r b/\B' b st'.bx st'.ow k v/\Fr d k st.bx st.ow st'.bx st'.ow) hf (by simpa using Nat.le_of_ble_eq_true (hn k v)) ((h d st k v hk hB).mono fun e σ st' hq=>by
  obtain ⟨he,r,b,h1,h2,h3,h4⟩:=hq
  rcases he with rfl | rfl
  ·exact ⟨r,h1,b,h2,ho b d _ _ k v hk h3,h4.out⟩
  ·exact ⟨r,h1,b,h2,ho b d _ _ k v hk h3,h4.out⟩)
 exact ⟨r,st',b,h1,h2,h3,h4⟩
section
variable {PG:Za} {d id base i:Nat} {σ:Sl} {st:St} {K:Sl->St->Prop} {r:List AI} {t:Option Nat} {x y:Zr}
end
end Go.AM

/- The steps of the machine, found by a tactic (an argument's default): where the printed proof says nothing that the state does not. -/
namespace Go.AM
open Go
attribute [local irreducible] WO W
section
variable {PG:Za} {d id base i:Nat} {σ:Sl} {st:St} {K:Sl->St->Prop} {r:List AI} {t:Option Nat} {x y:Zr} {T A B:Prop}
theorem zuE {α:Type} {p:α->Prop} {c:Prop} (h :∃a,p a) (k :∀a,p a->c):c:=h.elim k
theorem Hg {op:BinOp} {a b v:AV} (hv:Xf op a b=some v) (h:WO PG d id base (i+1) r (Zw σ t v) st K) (hx:x.ev σ=a:=by first | exact J | assumption) (hy:y.ev σ=b:=by first | exact J | assumption):WO PG d id base i (⟨t,.bin op x y,none⟩::r) σ st K:=Ro hx hy hv h
theorem Yw7 {l m:List UInt8} (h:l.length+m.length<=We/\T) (k:T->WO PG d id base (i+1) r (Zw σ t (.s (l++m))) st K) (hx:x.ev σ=.s l:=by first | assumption | exact J) (hy:y.ev σ=.s m:=by first | assumption | exact J):WO PG d id base i (⟨t,.bin .add x y,none⟩::r) σ st K:=Ro hx hy (Vy h.1) (k h.2)
theorem Yap {op:BinOp} {k':IntKind} {a b:Int} {v:AV} (hv:b≠0->Xf op (.i k' a) (.i k' b)=some v) (h:b≠0/\T) (k:T->WO PG d id base (i+1) r (Zw σ t v) st K) (hx:x.ev σ=.i k' a:=by first | exact J | assumption) (hy:y.ev σ=.i k' b:=by first | exact J | assumption):WO PG d id base i (⟨t,.bin op x y,none⟩::r) σ st K:=Ro hx hy (hv h.1) (k h.2)
theorem zug {dst:Option Nat} {op:Ww} {g:Nat} {w:Bool} (h:WO PG d id base i (⟨dst,op,none⟩::r) σ st K) (hg:σ g=.b w:=by exact J):WO PG d id base i (⟨dst,op,some (g,w)⟩::r) σ st K:=Zui hg h
theorem zus {a:AI} {v:AV} (hs:Eo a σ=some v) (h:WO PG d id base (i+1) r (Zw σ a.dst v) st K):WO PG d id base i (a::r) σ st K:=Zzw hs h
theorem Yuj {dst:Option Nat} {op:Ww} {g:Nat} {w:Bool} {p:Prop} [Decidable p] (h:(p->A)/\(¬p->B)) (h1:A->WO PG d id base i (⟨dst,op,some (g,w)⟩::r) (up σ g (.b true)) st K) (h2:B->WO PG d id base i (⟨dst,op,some (g,w)⟩::r) (up σ g (.b false)) st K) (hg:σ g=.b (decide p):=by first | exact J | assumption):WO PG d id base i (⟨dst,op,some (g,w)⟩::r) σ st K:=Zk7 hg (fun z=>h1 (h.1 z)) fun z=>h2 (h.2 z)
theorem Wcn {dst:Option Nat} {op:Ww} {g:Nat} {w:Bool} {b:Bool} (h:(b=true->A)/\(b=false->B)) (h1:A->WO PG d id base i (⟨dst,op,some (g,w)⟩::r) (up σ g (.b true)) st K) (h2:B->WO PG d id base i (⟨dst,op,some (g,w)⟩::r) (up σ g (.b false)) st K) (hg:σ g=.b b:=by first | exact J | assumption):WO PG d id base i (⟨dst,op,some (g,w)⟩::r) σ st K:=Zky hg (fun z=>h1 (h.1 z)) fun z=>h2 (h.2 z)
theorem Yp9 {dst:Option Nat} {g:Nat} {p:Prop} [Decidable p] (h:(p->A)/\(¬p->B)) (h1:A->WO PG d id base i (⟨dst,.pick (.t g) x y,none⟩::r) (up σ g (.b true)) st K) (h2:B->WO PG d id base i (⟨dst,.pick (.t g) x y,none⟩::r) (up σ g (.b false)) st K) (hg:σ g=.b (decide p):=by first | exact J | assumption):WO PG d id base i (⟨dst,.pick (.t g) x y,none⟩::r) σ st K:=Zk7 hg (fun z=>h1 (h.1 z)) fun z=>h2 (h.2 z)
theorem Xtl {dst:Option Nat} {g:Nat} {b:Bool} (h:(b=true->A)/\(b=false->B)) (h1:A->WO PG d id base i (⟨dst,.pick (.t g) x y,none⟩::r) (up σ g (.b true)) st K) (h2:B->WO PG d id base i (⟨dst,.pick (.t g) x y,none⟩::r) (up σ g (.b false)) st K) (hg:σ g=.b b:=by first | exact J | assumption):WO PG d id base i (⟨dst,.pick (.t g) x y,none⟩::r) σ st K:=Zky hg (fun z=>h1 (h.1 z)) fun z=>h2 (h.2 z)
theorem zum {v:AV} (h:WO PG d id base (i+1) r (Zw σ t v) st K) (hx:x.ev σ=v:=by assumption):WO PG d id base i (⟨t,.mv x,none⟩::r) σ st K:=Ve hx h
theorem zun {a:Bool} (h:WO PG d id base (i+1) r (Zw σ t (.b (!a))) st K) (hx:x.ev σ=.b a:=by first | exact J | assumption):WO PG d id base i (⟨t,.un .not x,none⟩::r) σ st K:=Znx hx h
theorem Wdg {p:Prop} [Decidable p] (h:WO PG d id base (i+1) r (Zw σ t (.b (decide (¬p)))) st K) (hx:x.ev σ=.b (decide p):=by first | exact J | assumption):WO PG d id base i (⟨t,.un .not x,none⟩::r) σ st K:=Yal hx h
theorem Xae {k:IntKind} {n:Int} (h:WO PG d id base (i+1) r (Zw σ t (.i k (k.wrap (0-n)))) st K) (hx:x.ev σ=.i k n:=by first | exact J | assumption):WO PG d id base i (⟨t,.un .neg x,none⟩::r) σ st K:=Wii hx h
theorem Yzt {l:List UInt8} (h:WO PG d id base (i+1) r (Zw σ t (.i .i64 (l.length:Int))) st K) (hx:x.ev σ=.s l:=by first | exact J | assumption):WO PG d id base i (⟨t,.len true x,none⟩::r) σ st K:=Zmv hx h
theorem Xa5 {α:Type} {f:α->List AV} {l:List α} {o:Zl} (h:WO PG d id base (i+1) r (Zw σ t (.i .i64 (l.length:Int))) st K) (hx:x.ev σ=.sl o (l.map f):=by first | exact J | assumption):WO PG d id base i (⟨t,.len false x,none⟩::r) σ st K:=Zop hx h
theorem Xdf {k k':IntKind} {c:UInt8} (h:WO PG d id base (i+1) r (Zw σ t (.i k (c.toNat:Int))) st K) (hx:x.ev σ=.i k' (c.toNat:Int):=by first | exact J | assumption) (hk:(k != .i8)=true:=by exact J):WO PG d id base i (⟨t,.cvi k x,none⟩::r) σ st K:=Ymq hx hk h
theorem Xoj {k k':IntKind} {n:Int} (h:WO PG d id base (i+1) r (Zw σ t (.i k (k.wrap n))) st K) (hx:x.ev σ=.i k' n:=by first | exact J | assumption):WO PG d id base i (⟨t,.cvi k x,none⟩::r) σ st K:=An hx h
theorem Xrx {l:List UInt8} {o:Zl} (h:WO PG d id base (i+1) r (Zw σ t (.s l)) st K) (hx:x.ev σ=.sl o (l.map Ys):=by first | exact J | assumption):WO PG d id base i (⟨t,.b2s x,none⟩::r) σ st K:=Zj0 hx h
theorem Xdy {k:Nat} {vs:List AV} {v:AV} (h:WO PG d id base (i+1) r (Zw σ t v) st K) (hx:x.ev σ=.tup vs:=by first | exact J | assumption) (hv:vs[k]?=some v:=by exact J):WO PG d id base i (⟨t,.ext k x,none⟩::r) σ st K:=Ydp hx hv h
theorem Xbw {l:List UInt8} {k':IntKind} {n:Int} {A:UInt8->Prop} (h:0<=n/\∃c,l[n.toNat]?=some c/\A c) (k :∀c,l[n.toNat]?=some c/\A c->WO PG d id base (i+1) r (Zw σ t (.i .u8 (c.toNat:Int))) st K) (hx:x.ev σ=.s l:=by first | exact J | assumption) (hy:y.ev σ=.i k' n:=by first | exact J | assumption):WO PG d id base i (⟨t,.ixS x y,none⟩::r) σ st K:=h.2.elim fun _ e=>Gi hx hy h.1 e.1 (k _ e)
theorem Yxi {n o v:Nat} {agg:Bool} {k:Zo} {cs:List AV} {w:AV} (h:WO PG d id base (i+1) r (Zw σ t w) st K) (hx:x.ev σ=.p k v o:=by first | exact J | assumption) (hb:lk st.bx k=some (v,cs):=by repeat (first | assumption | exact Zi | refine Zt J ?_)) (hn:Nat.ble (o+n) cs.length=true:=by exact J) (hv:Qh agg ((cs.drop o).take n)=some w:=by exact J):WO PG d id base i (⟨t,.load n agg x,none⟩::r) σ st K:=Cl hx hb hn hv h
theorem Wdp {off o v:Nat} {k:Zo} (h:WO PG d id base (i+1) r (Zw σ t (.p k v (o+off))) st K) (hx:x.ev σ=.p k v o:=by first | exact J | assumption):WO PG d id base i (⟨t,.fad off x,none⟩::r) σ st K:=Np hx h
theorem Wcu {off:Nat} {cs:List AV} (h:WO PG d id base (i+1) r (Zw σ t (.fp (cs.drop off))) st K) (hx:x.ev σ=.fp cs:=by first | exact J | assumption):WO PG d id base i (⟨t,.fad off x,none⟩::r) σ st K:=Yly hx h
theorem Xz7 {n:Nat} {agg:Bool} {cs:List AV} {v:AV} (h:WO PG d id base (i+1) r (Zw σ t v) st K) (hx:x.ev σ=.fp cs:=by first | exact J | assumption) (hn:Nat.ble n cs.length=true:=by exact J) (hv:Qh agg (cs.take n)=some v:=by exact J):WO PG d id base i (⟨t,.load n agg x,none⟩::r) σ st K:=Yam hx hn hv h
theorem Wjg {n:Nat} {agg:Bool} {cs:List AV} {v:AV} (h:WO PG d id base (i+1) r (Zw σ t v) st K) (hx:x.ev σ=.fp cs:=by first | exact J | assumption) (hn:Nat.ble n cs.length=true:=by exact J) (hv:Qh agg (cs.take n)=some v:=by exact J):WO PG d id base i (⟨t,.ldf n agg x,none⟩::r) σ st K:=Lz hx hn hv h
theorem Xbz {o v:Nat} {k:Zo} (h:WO PG d id base (i+1) r (Zw σ t (.p k v o)) st K) (hx:x.ev σ=.p k v o:=by first | exact J | assumption):WO PG d id base i (⟨t,.nilc x,none⟩::r) σ st K:=Wh hx h
theorem Xk5 {cs:List AV} (h:WO PG d id base (i+1) r (Zw σ t (.fp cs)) st K) (hx:x.ev σ=.fp cs:=by first | exact J | assumption):WO PG d id base i (⟨t,.nilc x,none⟩::r) σ st K:=Xib hx h
theorem Ype {off n:Nat} {agg:Bool} {cs:List AV} {v:AV} (h:WO PG d id base (i+1) r (Zw σ t v) st K) (hx:x.ev σ=.ag cs:=by first | exact J | assumption) (hn:Nat.ble (off+n) cs.length=true:=by exact J) (hv:Qh agg ((cs.drop off).take n)=some v:=by exact J):WO PG d id base i (⟨t,.fld off n agg x,none⟩::r) σ st K:=Xe0 hx hn hv h
theorem Yqt {n:Nat} {v:AV} (h:WO PG d id base (i+1) r (Zw σ t (.p (d,id*4096+i) (base+i) 0)) { st with bx:=Yx st.bx (d,id*4096+i) (base+i,v.cells) } K) (hx:x.ev σ=v:=by first | assumption | exact J) (hn:(Nat.beq v.cells.length n&&v.cells.all AV.one)=true:=by exact J):WO PG d id base i (⟨t,.box n x,none⟩::r) σ st K:=Vs hx hn h
theorem Wfy {n:Nat} {v:AV} {cs:List AV} (h:WO PG d id base (i+1) r (Zw σ t (.fp cs)) st K) (hx:x.ev σ=v:=by first | assumption | exact J) (hn:Nat.beq v.cells.length n=true:=by exact J) (hs:Vi v.cells=some cs:=by exact J):WO PG d id base i (⟨t,.boxf n x,none⟩::r) σ st K:=Zck hx hn hs h
theorem Wia {α:Type} {f:α->List AV} {l:List α} {o:Zl} {size:Nat} {k':IntKind} {n:Int} {cs:α->List AV} {A:α->Prop} (h:0<=n/\∃c,l[n.toNat]?=some c/\A c) (k :∀c,l[n.toNat]?=some c/\A c->WO PG d id base (i+1) r (Zw σ t (.fp (cs c))) st K) (hx:x.ev σ=.sl o (l.map f):=by first | exact J | assumption) (hy:y.ev σ=.i k' n:=by first | exact J | assumption) (hf :∀c,f c=cs c:=by first | exact Zb.row_eq | exact Zz.row_eq | exact Zg.row_eq | exact Zh.row_eq | exact Zq.row_eq | exact Zk.row_eq | exact Yb.row_eq | exact Wu.row_eq | exact fun _=>J) (hs :∀c,(Nat.beq (cs c).length size&&Nat.blt 0 size)=true:=by exact fun _=>J):WO PG d id base i (⟨t,.iaL size x y,none⟩::r) σ st K:=h.2.elim fun c e=>Zhc hx hy h.1 e.1 (hf c) (hs c) (k c e)
theorem Xp0 {z:Zr} {l:List UInt8} {k':IntKind} {n:Int} (h:0<=n/\n.toNat<=l.length/\A) (k:A->WO PG d id base (i+1) r (Zw σ t (.s (l.drop n.toNat))) st K) (hx:x.ev σ=.s l:=by first | exact J | assumption) (hz:z.ev σ=.i k' n:=by first | exact J | assumption):WO PG d id base i (⟨t,.slS x (some z) none,none⟩::r) σ st K:=Gu hx hz h.1 h.2.1 (k h.2.2)
theorem Wjf {z:Zr} {l:List UInt8} {k':IntKind} {n:Int} (h:0<=n/\n.toNat<=l.length/\A) (k:A->WO PG d id base (i+1) r (Zw σ t (.s (l.take n.toNat))) st K) (hx:x.ev σ=.s l:=by first | exact J | assumption) (hz:z.ev σ=.i k' n:=by first | exact J | assumption):WO PG d id base i (⟨t,.slS x none (some z),none⟩::r) σ st K:=Mn hx hz h.1 h.2.1 (k h.2.2)
theorem Wew {z z':Zr} {l:List UInt8} {k1 k':IntKind} {n m:Int} (h:0<=n/\n<=m/\m.toNat<=l.length/\A) (k:A->WO PG d id base (i+1) r (Zw σ t (.s ((l.drop n.toNat).take (m.toNat-n.toNat)))) st K) (hx:x.ev σ=.s l:=by first | exact J | assumption) (hz:z.ev σ=.i k1 n:=by first | exact J | assumption) (hz':z'.ev σ=.i k' m:=by first | exact J | assumption):WO PG d id base i (⟨t,.slS x (some z) (some z'),none⟩::r) σ st K:=Xag hx hz hz' h.1 h.2.1 h.2.2.1 (k h.2.2.2)
theorem Yth {f:Nat} {args:List Zr} {vs:List AV} {v:AV} (h:Ze PG f vs v/\A) (k:A->WO PG d id base (i+1) r (Zw σ t v) st K) (hs:AV.strips (Vb σ args)=some vs:=by (repeat (refine sc (by first | assumption | exact J) (by exact J) ?_));exact sn):WO PG d id base i (⟨t,.call false f args,none⟩::r) σ st K:=Zyn hs h.1 (k h.2)
theorem Ysu {α:Type} {f:α->List AV} {a:α} {zero:List AV} {cs z:List AV} {v:AV} (h:WO PG d id base (i+1) r (Zw σ t (.sl .full (List.map f [a]))) st K) (hx:x.ev σ=v:=by first | assumption | exact J) (hc:Vi v.cells=some (f a):=by exact J) (hz:Vi zero=some z:=by exact J) (hn:(Nat.blt 0 z.length&&Nat.ble (1*z.length) 65536&&(Nat.beq (f a).length z.length))=true:=by exact J):WO PG d id base i (⟨t,.bslice zero 1 [(0,x)],none⟩::r) σ st K:=by
 simp only [Bool.and_eq_true] at hn
 exact Za5 hz (by simp only [Bool.and_eq_true];exact hn.1) (Wg hx hc (by simp only [Bool.and_eq_true];exact ⟨rfl,hn.2⟩) Vl) h
theorem Xc4 {α:Type} {f:α->List AV} {size bytes:Nat} {l m:List α} {o o2:Zl} (h:Qn (l.length+m.length) bytes/\A) (k :∀o' ow',Xe d ow' o' (l++m).length->A->WO PG d id base (i+1) r (Zw σ t (.sl o' ((l++m).map f))) ⟨st.nx,st.bx,ow'⟩ K) (hx:x.ev σ=.sl o (l.map f):=by first | assumption | exact J) (hy:y.ev σ=.sl o2 (m.map f):=by first | assumption | exact J) (ha:Xe d st.ow o l.length:=by first | assumption | exact Xe.full) (hf :∀a,(f a).length=size:=by first | exact fun _=>J | exact Zb.row_len) (hsz:Nat.blt 0 size=true:=by exact J) (hb:Nat.blt (id*4096+i) Xu=true:=by exact J) (hm:Nat.blt (id*4096+i) Rq=true:=by exact J):WO PG d id base i (⟨t,.app size bytes x y,none⟩::r) σ st K:=
 Qo hf hsz hx hy ha.1 h.1 hb fun o' ow' a _ on=>k o' ow' (Xe.mk a (Gr.app ha.2 hm on)) h.2
theorem Xyu {α:Type} {f:α->AV} {l:List α} {m:Nat} {k':IntKind} {n:Int} {A:α->Prop} (h:l.length=m/\0<=n/\∃c,l[n.toNat]?=some c/\A c) (k :∀c,l[n.toNat]?=some c/\A c->WO PG d id base (i+1) r (Zw σ t (f c)) st K) (hx:x.ev σ=.ag (l.map f):=by first | exact J | assumption) (hy:y.ev σ=.i k' n:=by first | exact J | assumption):WO PG d id base i (⟨t,.ixA m 1 false x y,none⟩::r) σ st K:=h.2.2.elim fun c e=>Tu h.1 hx hy h.2.1 e.1 (k c e)
theorem Xpp {m:Nat} {α:Type} {f:α->List AV} {l:List α} {o:Zl} {size:Nat} {k':IntKind} {n:Int} {c:α} {cs:List AV} (h:l[m]?=some c/\A) (k:A->WO PG d id base (i+1) r (Zw σ t (.fp cs)) st K) (hx:x.ev σ=.sl o (l.map f):=by first | exact J | assumption) (hy:y.ev σ=.i k' n:=by first | exact J | assumption) (h0:0<=n:=by decide) (hm:n.toNat=m:=by exact J) (hf:f c=cs:=by first | exact Zb.row_eq _ | exact Zz.row_eq _ | exact Zg.row_eq _ | exact Zh.row_eq _ | exact Zq.row_eq _ | exact Zk.row_eq _ | exact Yb.row_eq _ | exact Wu.row_eq _ | exact J) (hs:(Nat.beq cs.length size&&Nat.blt 0 size)=true:=by exact J):WO PG d id base i (⟨t,.iaL size x y,none⟩::r) σ st K:=Zhc hx hy h0 (hm ▸ h.1) hf hs (k h.2)
theorem Yuw {m:Nat} {l:List UInt8} {k':IntKind} {n:Int} {c:UInt8} (h:l[m]?=some c/\A) (k:A->WO PG d id base (i+1) r (Zw σ t (.i .u8 (c.toNat:Int))) st K) (hx:x.ev σ=.s l:=by first | exact J | assumption) (hy:y.ev σ=.i k' n:=by first | exact J | assumption) (h0:0<=n:=by decide) (hm:n.toNat=m:=by exact J):WO PG d id base i (⟨t,.ixS x y,none⟩::r) σ st K:=Gi hx hy h0 (hm ▸ h.1) (k h.2)
theorem Wja {zero:List AV} {parts:List (Nat × Nat × Zr)} {cs:List AV} (h:WO PG d id base (i+1) r (Zw σ t (.ag cs)) st K) (hp:Wq σ zero parts=some cs:=by (repeat (refine Yl (by first | assumption | exact J) (by exact J) ?_));exact Xn):WO PG d id base i (⟨t,.build zero parts,none⟩::r) σ st K:=Xv hp h
theorem Ysg {n o v:Nat} {k:Zo} {cs cs':List AV} {w:AV} (h:WO PG d id base (i+1) r (Zw σ t (.tup [])) { st with bx:=Yx st.bx k (v,cs') } K) (hx:x.ev σ=.p k v o:=by first | exact J | assumption) (hy:y.ev σ=w:=by first | assumption | exact J) (hb:lk st.bx k=some (v,cs):=by repeat (first | assumption | exact Zi | refine Zt J ?_)) (hn:(Nat.ble (o+n) cs.length&&Nat.beq w.cells.length n&&w.cells.all AV.one)=true:=by exact J) (hs:Uc cs o w.cells=cs':=by exact J) (hok:Me k w=true:=by first | rfl | exact Ih rfl):WO PG d id base i (⟨t,.store n x y,none⟩::r) σ st K:=Fq hx hb hy hn hs h hok
theorem Xmt {zero:List AV} (h:WO PG d id base (i+1) r (Zw σ t (.p (d,id*4096+i) (base+i) 0)) st K):WO PG d id base i (⟨t,.alloc zero,none⟩::r) σ st K:=Xs h
theorem Yu3 {z:Zr} {l:List UInt8} {k':IntKind} {n:Int} {m:Nat} (h:m<=l.length/\A) (k:A->WO PG d id base (i+1) r (Zw σ t (.s (l.drop m))) st K) (hx:x.ev σ=.s l:=by first | exact J | assumption) (hz:z.ev σ=.i k' n:=by first | exact J | assumption) (h0:0<=n:=by decide) (hm:n.toNat=m:=by exact J):WO PG d id base i (⟨t,.slS x (some z) none,none⟩::r) σ st K:=by
 subst hm
 exact Gu hx hz h0 h.1 (k h.2)
theorem Wer {z:Zr} {l:List UInt8} {k':IntKind} {n:Int} {m:Nat} (h:m<=l.length/\A) (k:A->WO PG d id base (i+1) r (Zw σ t (.s (l.take m))) st K) (hx:x.ev σ=.s l:=by first | exact J | assumption) (hz:z.ev σ=.i k' n:=by first | exact J | assumption) (h0:0<=n:=by decide) (hm:n.toNat=m:=by exact J):WO PG d id base i (⟨t,.slS x none (some z),none⟩::r) σ st K:=by
 subst hm
 exact Mn hx hz h0 h.1 (k h.2)
theorem Yh8 {op:BinOp} {k':IntKind} {a b:Int} {v:AV} (hv:b≠0->Xf op (.i k' a) (.i k' b)=some v) (h:WO PG d id base (i+1) r (Zw σ t v) st K) (hx:x.ev σ=.i k' a:=by first | exact J | assumption) (hy:y.ev σ=.i k' b:=by first | exact J | assumption) (hb:b≠0:=by decide):WO PG d id base i (⟨t,.bin op x y,none⟩::r) σ st K:=Ro hx hy (hv hb) h
theorem Yfu {op:BinOp} {k' k2:IntKind} {a b:Int} {v:AV} (hv:0<=b->Xf op (.i k' a) (.i k2 b)=some v) (h:WO PG d id base (i+1) r (Zw σ t v) st K) (hx:x.ev σ=.i k' a:=by first | exact J | assumption) (hy:y.ev σ=.i k2 b:=by first | exact J | assumption) (hb:0<=b:=by decide):WO PG d id base i (⟨t,.bin op x y,none⟩::r) σ st K:=Ro hx hy (hv hb) h
theorem Yrx {n:Int} {c:UInt8} (hc:UInt8.ofNat n.toNat=c) (h:WO PG d id base (i+1) r (Zw σ t (.sl .full (List.map Ys [c]))) st K) (hx:x.ev σ=.i .u8 n:=by first | exact J | assumption) (hn:n=(c.toNat:Int):=by decide):WO PG d id base i (⟨t,.bslice [.i .u8 0] 1 [(0,x)],none⟩::r) σ st K:=Za5 (z:=[.i .u8 0]) rfl rfl (Wg (Zvo hx hn) rfl rfl Vl) h
theorem Xfj {c:UInt8} (h:WO PG d id base (i+1) r (Zw σ t (.sl .full (List.map Ys [c]))) st K) (hx:x.ev σ=.i .u8 (c.toNat:Int):=by first | exact J | assumption):WO PG d id base i (⟨t,.bslice [.i .u8 0] 1 [(0,x)],none⟩::r) σ st K:=Za5 (z:=[.i .u8 0]) rfl rfl (Wg hx rfl rfl Vl) h
theorem Xq0 {n:Int} {c:UInt8} (hh:n=(c.toNat:Int)/\A) (h:A->WO PG d id base (i+1) r (Zw σ t (.sl .full (List.map Ys [c]))) st K) (hx:x.ev σ=.i .u8 n:=by first | exact J | assumption):WO PG d id base i (⟨t,.bslice [.i .u8 0] 1 [(0,x)],none⟩::r) σ st K:=Za5 (z:=[.i .u8 0]) rfl rfl (Wg (Zvo hx hh.1) rfl rfl Vl) (h hh.2)
theorem Wb8 {f:Nat} {args:List Zr} {vs:List AV} {o:Zl} {rows rows':List (List AV)} (h:PuA PG f rows vs rows'/\A) (k :∀o' st',Jk st'.ow o' rows'.length->A->WO PG d id base (i+1) r (Zw σ t (.sl o' rows')) st' K) (hs:Vb σ args=.sl o rows::vs:=by (repeat (refine Zy (by first | assumption | exact J) ?_));exact Yn) (ha:Jk st.ow o rows.length:=by first | exact Jk.full | assumption | simpa using Jk.full):WO PG d id base i (⟨t,.call true f args,none⟩::r) σ st K:=Wjh hs h.1 ha fun o' st' a=>k o' st' a h.2
end
section
variable {PG:Za} {d:Nat} {σ:Sl} {st:St} {Q:AE->Sl->St->Prop} {c:Zr} {a b:AC} {T A B:Prop}
theorem Xpa {p:Prop} [Decidable p] (h:(p->A)/\(¬p->B)) (h1:A->W PG d a σ st Q) (h2:B->W PG d b σ st Q) (hc:c.ev σ=.b (decide p):=by first | exact J | assumption):W PG d (.cond c a b) σ st Q:=Zwt hc (fun z=>h1 (h.1 z)) fun z=>h2 (h.2 z)
theorem Wgw {t:Bool} (h:(t=true->A)/\(t=false->B)) (h1:A->W PG d a σ st Q) (h2:B->W PG d b σ st Q) (hc:c.ev σ=.b t:=by first | exact J | assumption):W PG d (.cond c a b) σ st Q:=Zug hc (fun z=>h1 (h.1 z)) fun z=>h2 (h.2 z)
theorem Wh5 {id:Nat} {ops:List AI} {b:AC} (hn:Pj ops=true) (h :∀nx,WO PG d id st.nx 0 ops σ ⟨nx,st.bx,st.ow⟩ (fun σ st=>W PG d b σ st Q)):W PG d (.seq (.reg id ops) b) σ st Q:=q_ hn (fun {nx _}=>h nx)
theorem Xqb {id base i:Nat} (h:W PG d b σ st Q):WO PG d id base i [] σ st (fun σ st=>W PG d b σ st Q):=Gc h
theorem Ypc {id base i:Nat} (h:W PG d b σ st Q):WO PG d id base i [] σ st (fun σ st=>Zs PG d b Q .normal σ st):=Gc h
theorem Xh7 {id base i n:Nat} (h:W PG d b σ st Q):WO PG d id base i [] σ st (fun σ st=>Ya n (Zs PG d b Q) .normal σ st):=Gc h
theorem Xa2 (h:W PG d b σ st Q):W PG d .skip σ st (Zs PG d b Q):=W.skip h
theorem Xhu {n:Nat} (h:W PG d b σ st Q):W PG d .skip σ st (Ya n (Zs PG d b Q)):=W.skip h
end
theorem au {A P:Prop} (n:A) (h:A->P:=by
 intro n
 repeat' (first
  | refine zuE h (fun _ h=>?_)
  | refine Xqb ?_
  | refine Wh5 J (fun _=>?_)
  | refine zus J ?_
  | refine zug ?_
  | refine zum ?_
  | refine m_ ?_
  | refine Yxi ?_
  | refine Wdp ?_
  | refine Yth h (fun h=>?_)
  | refine Xdy ?_
  | refine Hg Xk ?_
  | refine Hg Wx ?_
  | refine Hg Jf ?_
  | refine Hg Vz ?_
  | refine Hg Vd ?_
  | refine Hg Pd ?_
  | refine Hg Gb ?_
  | refine Hg Zfk ?_
  | refine Hg Ns ?_
  | refine Hg Tg ?_
  | refine Xa5 ?_
  | refine Yzt ?_
  | refine Wdg ?_
  | refine zun ?_
  | refine Yuj h (fun h=>?_) (fun h=>?_)
  | refine Wcn h (fun h=>?_) (fun h=>?_)
  | refine Yp9 h (fun h=>?_) (fun h=>?_)
  | refine Xtl h (fun h=>?_) (fun h=>?_)
  | refine Wia h (fun _ h=>?_)<;>replace h:=h.2
  | refine Xz7 ?_
  | refine Wjg ?_
  | refine Wcu ?_
  | refine Xbz ?_
  | refine Xk5 ?_
  | refine Ype ?_
  | refine Yqt ?_
  | refine Wfy ?_
  | refine Xbw h (fun _ h=>?_)<;>replace h:=h.2
  | refine Yw7 h (fun h=>?_)
  | refine Xdf ?_
  | refine Xoj ?_
  | refine Xp0 h (fun h=>?_)
  | refine Wjf h (fun h=>?_)
  | refine Wew h (fun h=>?_)
  | refine Xrx ?_
  | refine Xae ?_
  | refine Xc4 h (fun _ _ _ h=>?_)
  | refine Yap Zly h (fun h=>?_)
  | refine Yap Zhv h (fun h=>?_)
  | refine Hg (Yp1 _ _ _) ?_
  | refine Hg (Yme _ _ _) ?_
  | refine Hg (Zfj _ _ _) ?_
  | refine Hg (Xhk _ _ _) ?_
  | refine Yh8 Zly ?_
  | refine Yh8 Zhv ?_
  | refine Yfu Ziw ?_
  | refine Yfu abin_shl' ?_
  | refine Xfj ?_
  | refine Xq0 h (fun h=>?_)
  | refine Yrx J ?_
  | refine Wb8 h (fun _ _ _ h=>?_)
  | refine Xyu h (fun _ h=>?_)<;>replace h:=h.2
  | refine Xpp h (fun h=>?_)
  | refine Yuw h (fun h=>?_)
  | refine Wja ?_
  | refine Ysg ?_
  | refine Xmt ?_
  | refine Ysu ?_
  | refine Yu3 h (fun h=>?_)
  | refine Wer h (fun h=>?_)
  | refine Ye4 J ?_
  | refine Ycl J ?_
  | refine Xpa h (fun h=>?_) (fun h=>?_)
  | refine Wgw h (fun h=>?_) (fun h=>?_)
  | refine Ypc ?_
  | refine Xh7 ?_
  | refine Xa2 ?_
  | refine Xhu ?_
  | (apply n;(any_goals exact h);all_goals (first | assumption | exact J | exact Xe.full | exact Fr.refl | ((repeat (first | assumption | exact Zi | refine Zt J ?_ | exact Fr.refl | refine Fr.box ?_));done)))
  | (apply n.1;(any_goals exact h);all_goals (first | assumption | exact J | exact Xe.full | exact Fr.refl | ((repeat (first | assumption | exact Zi | refine Zt J ?_ | exact Fr.refl | refine Fr.box ?_));done)))
  | (apply n.2;(any_goals exact h);all_goals (first | assumption | exact J | exact Xe.full | exact Fr.refl | ((repeat (first | assumption | exact Zi | refine Zt J ?_ | exact Fr.refl | refine Fr.box ?_));done)))
  | (apply n.2.1;(any_goals exact h);all_goals (first | assumption | exact J | exact Xe.full | exact Fr.refl | ((repeat (first | assumption | exact Zi | refine Zt J ?_ | exact Fr.refl | refine Fr.box ?_));done)))
  | (apply n.2.2;(any_goals exact h);all_goals (first | assumption | exact J | exact Xe.full | exact Fr.refl | ((repeat (first | assumption | exact Zi | refine Zt J ?_ | exact Fr.refl | refine Fr.box ?_));done)))
  | (refine W.ret ?_;apply hQ;(any_goals exact h);all_goals (first | assumption | exact J | exact Xe.full | exact Fr.refl | ((repeat (first | assumption | exact Zi | refine Zt J ?_ | exact Fr.refl | refine Fr.box ?_));done)))
  | refine W.seq ?_
  | refine W.reg0 J (fun _ _=>?_)
  | refine W.reg ?_
  | refine W.block ?_
  | refine W.exit ?_
  | (apply kP0;(any_goals exact h);all_goals (first | assumption | exact J | exact Xe.full | exact Fr.refl | ((repeat (first | assumption | exact Zi | refine Zt J ?_ | exact Fr.refl | refine Fr.box ?_));done)))
  | (apply kP1;(any_goals exact h);all_goals (first | assumption | exact J | exact Xe.full | exact Fr.refl | ((repeat (first | assumption | exact Zi | refine Zt J ?_ | exact Fr.refl | refine Fr.box ?_));done))))):P:=h n
end Go.AM

/- Yf of the proof. -/
namespace Go.AM
open Go
set_option linter.unusedVariables false
set_option linter.unusedSimpArgs false
set_option maxRecDepth 4000
set_option maxHeartbeats 2000000
attribute [local irreducible] Decidable.decide W WO Wq Ws
def Zta:List AI:=[oC 4 (.s []),oC 5 (.b false)]
def Yes:List AI:=[oM 6 0,oM 7 1,oQ 8 46 [6,7],oZ 9 8]
def Yh5:List AI:=[oM 10 0,oM 4 10,oC 5 (.b false)]
def Yfg:List AI:=[oM 11 0,oM 12 1,oH 13 12,oO 14 (.slS (.t 11) (some (.t 13)) none),oM 4 14,oC 5 (.b true)]
abbrev b42:AC:=(sR 0 Zta (.seq (sR 1 Yes (.cond (.t 9) (sR 2 Yh5 .ret) .skip)) (sR 3 Yfg .ret)))
def Zfh:AF:={ nt:=15,res:=[.tmp 4,.tmp 5],body:=b42 }
def Zji (PG:Za)(K:BS->Bool->Prop)(s0:BS)(prefix1:BS):Prop:=
  ∃c,Ze PG 46 [.s s0,.s prefix1] (.b c)/\((!c)=true->K s0 false)/\((!c)=false->0<=(prefix1.length:Int)/\(prefix1.length:Int).toNat<=s0.length/\K (s0.drop (prefix1.length:Int).toNat) true)
section
variable {PG:Za}{d:Nat}{Q:AE->Sl->St->Prop}{K:BS->Bool->Prop}(hQ:H2 AV.s AV.b 4 5 Q K){σ:Sl}{st:St}
include hQ
variable {s0 prefix1:BS}
variable (H0:σ 0=.s s0)(H1:σ 1=.s prefix1)
include H0 H1 in
theorem Yyb (h:Zji PG K s0 prefix1):W PG d (sR 0 Zta (.seq (sR 1 Yes (.cond (.t 9) (sR 2 Yh5 .ret) .skip)) (sR 3 Yfg .ret))) σ st Q:=
 au trivial
end
theorem p42 {PG:Za}(hf:PG.fn 42=some Zfh){s0:BS}{prefix1:BS}{K:BS->Bool->Prop}(h:Zji PG K s0 prefix1) :∃x0:BS,∃x1:Bool,K x0 x1/\Ze PG 42 [.s s0,.s prefix1] (.tup [.s x0,.b x1]):=
 P2 hf J (Yyb (h2 J fun _ _=>J) J J h)
def Yd2:List AI:=[oC 4 (.b false)]
def Zyh:List AI:=[oM 5 0,oH 6 5,oM 7 1,oH 8 7,oT 9 .geq 6 8,oM 10 9,gT 10 (oM 11 0),gT 10 (oM 12 1),gT 10 (oH 13 12),gT 10 (oO 14 (.slS (.t 11) none (some (.t 13)))),gT 10 (oM 15 1),gT 10 (oT 16 .eql 14 15),oA 17 10 16,oM 4 17]
abbrev b46:AC:=(sR 0 Yd2 (sR 1 Zyh .ret))
def Zdv:AF:={ nt:=18,res:=[.tmp 4],body:=b46 }
def Zh6 (PG:Za)(K:Bool->Prop)(s0:BS)(prefix1:BS):Prop:=
  ((s0.length:Int)>=(prefix1.length:Int)->0<=(prefix1.length:Int)/\(prefix1.length:Int).toNat<=s0.length/\K (decide ((s0.take (prefix1.length:Int).toNat)=prefix1)))/\(¬((s0.length:Int)>=(prefix1.length:Int))->K false)
section
variable {PG:Za}{d:Nat}{Q:AE->Sl->St->Prop}{K:Bool->Prop}(hQ:H1 AV.b 4 Q K){σ:Sl}{st:St}
include hQ
variable {s0 prefix1:BS}
variable (H0:σ 0=.s s0)(H1:σ 1=.s prefix1)
include H0 H1 in
theorem Yon (h:Zh6 PG K s0 prefix1):W PG d (sR 0 Yd2 (sR 1 Zyh .ret)) σ st Q:=
 au trivial
end
theorem p46 {PG:Za}(hf:PG.fn 46=some Zdv){s0:BS}{prefix1:BS}{K:Bool->Prop}(h:Zh6 PG K s0 prefix1) :∃x0:Bool,K x0/\Ze PG 46 [.s s0,.s prefix1] (.b x0):=
 P1 hf J (Yon (h1 J fun _=>J) J J h)
def Ykc:List AI:=[oC 4 (.s []),oC 5 (.b false)]
def Ydo:List AI:=[oM 6 0,oM 7 1,oQ 8 42 [6,7],oE 9 0 8,oE 10 1 8,oM 4 9,oM 5 10]
abbrev b36:AC:=(sR 0 Ykc (sR 1 Ydo .ret))
def Ze5:AF:={ nt:=11,res:=[.tmp 4,.tmp 5],body:=b36 }
def Zpa (PG:Za)(K:BS->Bool->Prop)(s0:BS)(prefix1:BS):Prop:=
  ∃c e,Ze PG 42 [.s s0,.s prefix1] (.tup [.s c,.b e])/\K c e
section
variable {PG:Za}{d:Nat}{Q:AE->Sl->St->Prop}{K:BS->Bool->Prop}(hQ:H2 AV.s AV.b 4 5 Q K){σ:Sl}{st:St}
include hQ
variable {s0 prefix1:BS}
variable (H0:σ 0=.s s0)(H1:σ 1=.s prefix1)
include H0 H1 in
theorem Wdf (h:Zpa PG K s0 prefix1):W PG d (sR 0 Ykc (sR 1 Ydo .ret)) σ st Q:=
 au trivial
end
theorem p36 {PG:Za}(hf:PG.fn 36=some Ze5){s0:BS}{prefix1:BS}{K:BS->Bool->Prop}(h:Zpa PG K s0 prefix1) :∃x0:BS,∃x1:Bool,K x0 x1/\Ze PG 36 [.s s0,.s prefix1] (.tup [.s x0,.b x1]):=
 P2 hf J (Wdf (h2 J fun _ _=>J) J J h)
def Yb9:List AI:=[oI 4 0]
def Ym5:List AI:=[oM 5 0,oM 6 1,oQ 7 47 [5,6],oM 4 7]
abbrev b43:AC:=(sR 0 Yb9 (sR 1 Ym5 .ret))
def Zd0:AF:={ nt:=8,res:=[.tmp 4],body:=b43 }
def Zrn (PG:Za)(K:Int->Prop)(s0:BS)(c1:Int):Prop:=
  ∃c,Ze PG 47 [.s s0,.i .u8 c1] (.i .i64 c)/\K c
section
variable {PG:Za}{d:Nat}{Q:AE->Sl->St->Prop}{K:Int->Prop}(hQ:H1 (AV.i .i64) 4 Q K){σ:Sl}{st:St}
include hQ
variable {s0:BS}{c1:Int}
variable (H0:σ 0=.s s0)(H1:σ 1=.i .u8 c1)
include H0 H1 in
theorem Xgf (h:Zrn PG K s0 c1):W PG d (sR 0 Yb9 (sR 1 Ym5 .ret)) σ st Q:=
 au trivial
end
theorem p43 {PG:Za}(hf:PG.fn 43=some Zd0){s0:BS}{c1:Int}{K:Int->Prop}(h:Zrn PG K s0 c1) :∃x0:Int,K x0/\Ze PG 43 [.s s0,.i .u8 c1] (.i .i64 x0):=
 P1 hf J (Xgf (h1 J fun _=>J) J J h)
def Zyr:List AI:=[oI 4 0]
def Yhd:List AI:=[oM 5 0,oM 6 1,oQ 7 48 [5,6],oM 4 7]
abbrev b47:AC:=(sR 0 Zyr (sR 1 Yhd .ret))
def Zcl:AF:={ nt:=8,res:=[.tmp 4],body:=b47 }
def Znu (PG:Za)(K:Int->Prop)(s0:BS)(c1:Int):Prop:=
  ∃c,Ze PG 48 [.s s0,.i .u8 c1] (.i .i64 c)/\K c
section
variable {PG:Za}{d:Nat}{Q:AE->Sl->St->Prop}{K:Int->Prop}(hQ:H1 (AV.i .i64) 4 Q K){σ:Sl}{st:St}
include hQ
variable {s0:BS}{c1:Int}
variable (H0:σ 0=.s s0)(H1:σ 1=.i .u8 c1)
include H0 H1 in
theorem Xfb (h:Znu PG K s0 c1):W PG d (sR 0 Zyr (sR 1 Yhd .ret)) σ st Q:=
 au trivial
end
theorem p47 {PG:Za}(hf:PG.fn 47=some Zcl){s0:BS}{c1:Int}{K:Int->Prop}(h:Znu PG K s0 c1) :∃x0:Int,K x0/\Ze PG 47 [.s s0,.i .u8 c1] (.i .i64 x0):=
 P1 hf J (Xfb (h1 J fun _=>J) J J h)
def Yjg:List AI:=[oC 2 (.s []),oI 3 0]
def Zty:List AI:=[oM 4 0,oH 5 4,oV 6 .gtr 5 400]
def Ztz:List AI:=[oC 2 (.s []),oI 3 4]
def Zxt:List AI:=[oM 7 0,oO 8 (.call true 30 [(.c (.sl .full [])),(.t 7)]),oO 9 (.b2s (.t 8)),oM 2 9,oI 3 0]
abbrev b11:AC:=(sR 0 Yjg (.seq (sR 1 Zty (.cond (.t 6) (sR 2 Ztz .ret) .skip)) (sR 3 Zxt .ret)))
def Zdm:AF:={ nt:=10,res:=[.tmp 2,.tmp 3],body:=b11 }
def Zj6 (PG:Za)(K:BS->Int->Prop)(s0:BS):Prop:=
  ((s0.length:Int)>400->K ([]:BS) 4)/\(¬((s0.length:Int)>400)->∃c,PuA PG 30 (List.map Ys ([]:BS)) [.s s0] (List.map Ys c)/\K c 0)
section
variable {PG:Za}{d:Nat}{Q:AE->Sl->St->Prop}{K:BS->Int->Prop}(hQ:H2 AV.s (AV.i .i64) 2 3 Q K){σ:Sl}{st:St}
include hQ
variable {s0:BS}
variable (H0:σ 0=.s s0)
include H0 in
theorem Xdq (h:Zj6 PG K s0):W PG d (sR 0 Yjg (.seq (sR 1 Zty (.cond (.t 6) (sR 2 Ztz .ret) .skip)) (sR 3 Zxt .ret))) σ st Q:=
 au trivial
end
theorem p11 {PG:Za}(hf:PG.fn 11=some Zdm){s0:BS}{K:BS->Int->Prop}(h:Zj6 PG K s0) :∃x0:BS,∃x1:Int,K x0 x1/\Ze PG 11 [.s s0] (.tup [.s x0,.i .i64 x1]):=
 P2 hf J (Xdq (h2 J fun _ _=>J) J h)
def Zur:List AI:=[oC 2 (.s [])]
def Yfn:List AI:=[oM 3 0,oV 4 .lss 3 0]
def Yek:List AI:=[oM 5 0,oO 6 (.cvi .u64 (.t 5)),oO 7 (.un .neg (.t 6)),oO 8 (.call false 34 [(.t 7),(.c (.i .u64 10))]),oB 9 .add (.c (.s [45])) (.t 8),oM 2 9]
def Zvt:List AI:=[oM 10 0,oO 11 (.cvi .u64 (.t 10)),oO 12 (.call false 34 [(.t 11),(.c (.i .u64 10))]),oM 2 12]
abbrev b15:AC:=(sR 0 Zur (.seq (sR 1 Yfn (.cond (.t 4) (sR 2 Yek .ret) .skip)) (sR 3 Zvt .ret)))
def Zdu:AF:={ nt:=13,res:=[.tmp 2],body:=b15 }
def Zr2 (PG:Za)(K:BS->Prop)(n0:Int):Prop:=
  (n0<0->∃c:BS,Ze PG 34 [.i .u64 (IntKind.u64.wrap (0-(IntKind.u64.wrap n0))),.i .u64 10] (.s c)/\([45]:BS).length+c.length<=We/\K (([45]:BS)++c))/\(¬(n0<0)->∃e,Ze PG 34 [.i .u64 (IntKind.u64.wrap n0),.i .u64 10] (.s e)/\K e)
section
variable {PG:Za}{d:Nat}{Q:AE->Sl->St->Prop}{K:BS->Prop}(hQ:H1 AV.s 2 Q K){σ:Sl}{st:St}
include hQ
variable {n0:Int}
variable (H0:σ 0=.i .i64 n0)
include H0 in
theorem Wha (h:Zr2 PG K n0):W PG d (sR 0 Zur (.seq (sR 1 Yfn (.cond (.t 4) (sR 2 Yek .ret) .skip)) (sR 3 Zvt .ret))) σ st Q:=
 au trivial
end
theorem p15 {PG:Za}(hf:PG.fn 15=some Zdu){n0:Int}{K:BS->Prop}(h:Zr2 PG K n0) :∃x0:BS,K x0/\Ze PG 15 [.i .i64 n0] (.s x0):=
 P1 hf J (Wha (h1 J fun _=>J) J h)
def Zw2:List AI:=[oI 2 0,oI 3 0]
def Ydf:List AI:=[oM 10 0,oH 11 10,oV 12 .gtr 11 2000]
def Ye6:List AI:=[oI 2 0,oI 3 4]
def Ygq:List AI:=[oM 14 0,oO 15 (.call false 36 [(.t 14),(.c (.s [45]))]),oM 13 15,oE 16 0 13,oE 17 1 13,oM 4 16,oM 5 17]
def Zzo:List AI:=[oM 18 5,oZ 19 18]
def Ztn:List AI:=[oM 21 0,oO 22 (.call false 37 [(.t 21),(.c (.i .u64 10)),(.c (.i .u64 9223372036854775807))]),oM 20 22,oE 23 0 20,oE 24 1 20,oM 6 23,oM 7 24]
def Zwe:List AI:=[oM 25 6,oO 26 (.cvi .i64 (.t 25)),oM 27 7,oM 2 26,oM 3 27]
def Ya6:List AI:=[oM 29 4,oO 30 (.call false 37 [(.t 29),(.c (.i .u64 10)),(.c (.i .u64 9223372036854775808))]),oM 28 30,oE 31 0 28,oE 32 1 28,oM 8 31,oM 9 32]
def Yky:List AI:=[oM 33 9,oV 34 .eql 33 0,oM 35 34,gT 35 (oM 36 8),gT 35 (oB 37 .eql (.t 36) (.c (.i .u64 0))),oA 38 35 37]
def Yhz:List AI:=[oI 9 12]
def Wch:List AI:=[oM 39 8,oO 40 (.un .neg (.t 39)),oO 41 (.cvi .i64 (.t 40)),oM 42 9,oM 2 41,oM 3 42]
abbrev Zk1:AC:=(sR 10 Wch .ret)
abbrev b21:AC:=(sR 0 Zw2 (.seq (sR 1 Ydf (.cond (.t 12) (sR 2 Ye6 .ret) .skip)) (sR 3 Ygq (.seq (sR 4 Zzo (.cond (.t 19) (sR 5 Ztn (sR 6 Zwe .ret)) .skip)) (sR 7 Ya6 (.seq (sR 8 Yky (.cond (.t 38) (.reg 9 Yhz) .skip)) Zk1))))))
def Zd6:AF:={ nt:=43,res:=[.tmp 2,.tmp 3],body:=b21 }
def Oy (PG:Za)(K:Int->Int->Prop)(n8:Int)(e9:Int):Prop:=
  K (IntKind.i64.wrap (IntKind.u64.wrap (0-n8))) e9
def Zoj (PG:Za)(K:Int->Int->Prop)(s0:BS):Prop:=
  ((s0.length:Int)>2000->K 0 4)/\(¬((s0.length:Int)>2000)->∃p j,Ze PG 36 [.s s0,.s ([45]:BS)] (.tup [.s p,.b j])/\((!j)=true->∃o k,Ze PG 37 [.s s0,.i .u64 10,.i .u64 9223372036854775807] (.tup [.i .u64 o,.i .i64 k])/\K (IntKind.i64.wrap o) k)/\((!j)=false->∃c e,Ze PG 37 [.s p,.i .u64 10,.i .u64 9223372036854775808] (.tup [.i .u64 c,.i .i64 e])/\(e=0->(c=0->Oy PG K c 12)/\(¬(c=0)->Oy PG K c e))/\(¬(e=0)->Oy PG K c e)))
section
variable {PG:Za}{d:Nat}{Q:AE->Sl->St->Prop}{K:Int->Int->Prop}(hQ:H2 (AV.i .i64) (AV.i .i64) 2 3 Q K){σ:Sl}{st:St}
include hQ
variable {n8 e9:Int}{s0:BS}
variable (H8:σ 8=.i .u64 n8)(H0:σ 0=.s s0)(H9:σ 9=.i .i64 e9)
include H8 H9 in
theorem Yuh (h:Oy PG K n8 e9):W PG d Zk1 σ st Q:=
 au trivial
include H0 in
theorem Wgg (h:Zoj PG K s0):W PG d (sR 0 Zw2 (.seq (sR 1 Ydf (.cond (.t 12) (sR 2 Ye6 .ret) .skip)) (sR 3 Ygq (.seq (sR 4 Zzo (.cond (.t 19) (sR 5 Ztn (sR 6 Zwe .ret)) .skip)) (sR 7 Ya6 (.seq (sR 8 Yky (.cond (.t 38) (.reg 9 Yhz) .skip)) Zk1)))))) σ st Q:=
 au @Yuh
end
theorem p21 {PG:Za}(hf:PG.fn 21=some Zd6){s0:BS}{K:Int->Int->Prop}(h:Zoj PG K s0) :∃x0:Int,∃x1:Int,K x0 x1/\Ze PG 21 [.s s0] (.tup [.i .i64 x0,.i .i64 x1]):=
 P2 hf J (Wgg (h2 J fun _ _=>J) J h)
def Yl2:List AI:=[oC 2 (.s []),oI 3 0]
def Yj5:List AI:=[oM 7 0,oH 8 7,oV 9 .gtr 8 2000]
def Zu8:List AI:=[oC 2 (.s []),oI 3 4]
def Ykf:List AI:=[oM 11 0,oQ 12 39 [11],oM 10 12,oE 13 0 10,oE 14 1 10,oE 15 2 10,oM 4 13,oM 5 14,oM 6 15]
def Zvm:List AI:=[oM 17 6,oZ 18 17,oM 19 18,gF 19 (oM 20 5),gF 19 (oB 21 .neq (.t 20) (.c (.s []))),oR 22 19 21,oM 16 22]
def Zxv:List AI:=[oC 2 (.s []),oI 3 12]
def Zt4:List AI:=[oM 24 4,oH 25 24,oV 26 .gtr 25 400,oM 23 26]
def Yix:List AI:=[oC 2 (.s []),oI 3 4]
def Zz4:List AI:=[oM 27 4,oM 2 27,oI 3 0]
abbrev b25:AC:=(sR 0 Yl2 (.seq (sR 1 Yj5 (.cond (.t 9) (sR 2 Zu8 .ret) .skip)) (sR 3 Ykf (.seq (.block 0 (sR 4 Zvm (.cond (.t 16) (sR 5 Zxv .ret) (sR 6 Zt4 (.cond (.t 23) (sR 7 Yix .ret) .skip))))) (sR 8 Zz4 .ret)))))
def Ze3:AF:={ nt:=28,res:=[.tmp 2,.tmp 3],body:=b25 }
def Zjy (PG:Za)(K:BS->Int->Prop)(s0:BS):Prop:=
  ((s0.length:Int)>2000->K ([]:BS) 4)/\(¬((s0.length:Int)>2000)->∃c:BS,∃e i,Ze PG 39 [.s s0] (.tup [.s c,.s e,.b i])/\((!i)=true->K ([]:BS) 12)/\((!i)=false->(e≠([]:BS)->K ([]:BS) 12)/\(¬(e≠([]:BS))->((c.length:Int)>400->K ([]:BS) 4)/\(¬((c.length:Int)>400)->K c 0))))
section
variable {PG:Za}{d:Nat}{Q:AE->Sl->St->Prop}{K:BS->Int->Prop}(hQ:H2 AV.s (AV.i .i64) 2 3 Q K){σ:Sl}{st:St}
include hQ
variable {s0:BS}
variable (H0:σ 0=.s s0)
include H0 in
theorem Xon (h:Zjy PG K s0):W PG d (sR 0 Yl2 (.seq (sR 1 Yj5 (.cond (.t 9) (sR 2 Zu8 .ret) .skip)) (sR 3 Ykf (.seq (.block 0 (sR 4 Zvm (.cond (.t 16) (sR 5 Zxv .ret) (sR 6 Zt4 (.cond (.t 23) (sR 7 Yix .ret) .skip))))) (sR 8 Zz4 .ret))))) σ st Q:=
 au trivial
end
theorem p25 {PG:Za}(hf:PG.fn 25=some Ze3){s0:BS}{K:BS->Int->Prop}(h:Zjy PG K s0) :∃x0:BS,∃x1:Int,K x0 x1/\Ze PG 25 [.s s0] (.tup [.s x0,.i .i64 x1]):=
 P2 hf J (Xon (h2 J fun _ _=>J) J h)
def Yjr:List AI:=[oC 4 (.sl .full [])]
def Wiu:List AI:=[oM 7 0,oO 8 (.bslice [z8] 1 [(0,(.c (.i .u8 34)))]),oO 9 (.app 1 1 (.t 7) (.t 8)),oM 0 9]
def Ysj:List AI:=[oM 10 1,oH 11 10,oI 12 0]
def Xjz:List AI:=[oT 13 .lss 12 11]
def Xuw:List AI:=[oM 14 12,oM 5 14]
def Xzt:List AI:=[oM 15 1,oM 16 5,oO 17 (.ixS (.t 15) (.t 16)),oM 6 17]
def Xwk:List AI:=[oM 23 6,oW 24 .eql 23 34,oM 25 24,gF 25 (oM 26 6),gF 25 (oW 27 .eql 26 92),oR 28 25 27,oM 22 28]
def Wfz:List AI:=[oM 29 0,oM 30 6,oO 31 (.bslice [z8] 2 [(0,(.c (.i .u8 92))),(1,(.t 30))]),oO 32 (.app 1 1 (.t 29) (.t 31)),oM 0 32]
def Xdw:List AI:=[oM 34 6,oW 35 .eql 34 10,oM 33 35]
def Yph:List AI:=[oM 36 0,oO 37 (.bslice [z8] 2 [(0,(.c (.i .u8 92))),(1,(.c (.i .u8 110)))]),oO 38 (.app 1 1 (.t 36) (.t 37)),oM 0 38]
def Yrd:List AI:=[oM 40 6,oW 41 .lss 40 32,oM 42 41,gF 42 (oM 43 6),gF 42 (oW 44 .gtr 43 126),oR 45 42 44,oM 39 45]
def Wir:List AI:=[oM 46 0,oM 47 6,oB 48 .shr (.t 47) (.c (.i .u64 4)),oO 49 (.ixS (.c (.s [48,49,50,51,52,53,54,55,56,57,97,98,99,100,101,102])) (.t 48)),oM 50 6,oW 51 .and 50 15,oO 52 (.ixS (.c (.s [48,49,50,51,52,53,54,55,56,57,97,98,99,100,101,102])) (.t 51)),oO 53 (.bslice [z8] 4 [(0,(.c (.i .u8 92))),(1,(.c (.i .u8 120))),(2,(.t 49)),(3,(.t 52))]),oO 54 (.app 1 1 (.t 46) (.t 53)),oM 0 54]
def Whb:List AI:=[oM 18 0,oM 19 6,oO 20 (.bslice [z8] 1 [(0,(.t 19))]),oO 21 (.app 1 1 (.t 18) (.t 20)),oM 0 21]
def Xe6:List AI:=[oV 55 .add 12 1,oM 12 55]
def Wds:List AI:=[oM 56 0,oO 57 (.bslice [z8] 1 [(0,(.c (.i .u8 34)))]),oO 58 (.app 1 1 (.t 56) (.t 57)),oM 4 58]
abbrev Yas:AC:=(.reg 13 Xe6)
abbrev Aq:AC:=(sR 3 Xjz (.seq (.cond (.t 13) .skip (.exit 0)) (.seq (.block 1 (sR 4 Xuw (sR 5 Xzt (.block 2 (sR 7 Xwk (.cond (.t 22) (.reg 8 Wfz) (sR 9 Xdw (.cond (.t 33) (.reg 10 Yph) (sR 11 Yrd (.cond (.t 39) (.reg 12 Wir) (.reg 6 Whb))))))))))) Yas)))
abbrev Oq:AC:=(sR 14 Wds .ret)
abbrev Zs1:AC:=(sR 1 Wiu (.seq (sR 2 Ysj (.block 0 (.loop Aq))) Oq))
abbrev b30:AC:=(sR 0 Yjr Zs1)
def Za8:AF:={ nt:=59,res:=[.tmp 4],body:=b30 }
abbrev H30 (Q:AE->Sl->St->Prop)(K:BS->Prop):Prop:=∀(σ:Sl)(st:St)(o0:Zl)(x0:BS),σ 4=.sl o0 (List.map Ys x0)->Jk st.ow o0 x0.length->K x0->Q .ret σ st
abbrev Yea (PG:Za)(d:Nat)(Q:AE->Sl->St->Prop)(s1:BS)(t11:Int)(b0:BS)(t12:Int):Prop:=
  ∀(σ:Sl)(st:St)(o_b0:Zl),σ 0=.sl o_b0 (List.map Ys b0)->σ 1=.s s1->σ 11=.i .i64 t11->σ 12=.i .i64 t12->Jk st.ow o_b0 b0.length->W PG d (.loop Aq) σ st (Ya 0 (Zs PG d Oq Q))
def Nz (PG:Za)(K:BS->Prop)(P0:BS->Int->Prop)(b0:BS)(s1:BS)(t11:Int)(t12:Int):Prop:=
  P0 b0 (IntKind.i64.wrap (t12+1))
def Zph (PG:Za)(K:BS->Prop)(b0:BS):Prop:=
  Qn (b0.length+[(34:UInt8)].length) 1/\K (b0++[(34:UInt8)])
def Zel (PG:Za)(K:BS->Prop)(P0:BS->Int->Prop)(b0:BS)(s1:BS)(t11:Int)(t12:Int):Prop:=
  (t12<t11->0<=t12/\∃c:UInt8,s1[(t12).toNat]?=some c/\((c.toNat:Int)=34->Qn (b0.length+[(92:UInt8),c].length) 1/\Nz PG K P0 (b0++[(92:UInt8),c]) s1 t11 t12)/\(¬((c.toNat:Int)=34)->((c.toNat:Int)=92->Qn (b0.length+[(92:UInt8),c].length) 1/\Nz PG K P0 (b0++[(92:UInt8),c]) s1 t11 t12)/\(¬((c.toNat:Int)=92)->((c.toNat:Int)=10->Qn (b0.length+[(92:UInt8),(110:UInt8)].length) 1/\Nz PG K P0 (b0++[(92:UInt8),(110:UInt8)]) s1 t11 t12)/\(¬((c.toNat:Int)=10)->((c.toNat:Int)<32->0<=(Iu .u8 (c.toNat:Int) 4)/\∃e,([48,49,50,51,52,53,54,55,56,57,97,98,99,100,101,102]:BS)[(Iu .u8 (c.toNat:Int) 4).toNat]?=some e/\0<=(Ux .u8 (c.toNat:Int) 15)/\∃i,([48,49,50,51,52,53,54,55,56,57,97,98,99,100,101,102]:BS)[(Ux .u8 (c.toNat:Int) 15).toNat]?=some i/\Qn (b0.length+[(92:UInt8),(120:UInt8),e,i].length) 1/\Nz PG K P0 (b0++[(92:UInt8),(120:UInt8),e,i]) s1 t11 t12)/\(¬((c.toNat:Int)<32)->((c.toNat:Int)>126->0<=(Iu .u8 (c.toNat:Int) 4)/\∃j,([48,49,50,51,52,53,54,55,56,57,97,98,99,100,101,102]:BS)[(Iu .u8 (c.toNat:Int) 4).toNat]?=some j/\0<=(Ux .u8 (c.toNat:Int) 15)/\∃k,([48,49,50,51,52,53,54,55,56,57,97,98,99,100,101,102]:BS)[(Ux .u8 (c.toNat:Int) 15).toNat]?=some k/\Qn (b0.length+[(92:UInt8),(120:UInt8),j,k].length) 1/\Nz PG K P0 (b0++[(92:UInt8),(120:UInt8),j,k]) s1 t11 t12)/\(¬((c.toNat:Int)>126)->Qn (b0.length+[c].length) 1/\Nz PG K P0 (b0++[c]) s1 t11 t12))))))/\(¬(t12<t11)->Zph PG K b0)
def Zqg (PG:Za)(K:BS->Prop)(b0:BS)(s1:BS):Prop:=
  Qn (b0.length+[(34:UInt8)].length) 1/\∀P0:BS->Int->Prop,(∀(b0:BS)(t12:Int),Zel PG K P0 b0 s1 (s1.length:Int) t12->P0 b0 t12)->P0 (b0++[(34:UInt8)]) 0
def Zk3 (PG:Za)(K:BS->Prop)(b0:BS)(s1:BS):Prop:=
  Zqg PG K b0 s1
section
variable {PG:Za}{d:Nat}{Q:AE->Sl->St->Prop}{K:BS->Prop}(hQ:H30 Q K){σ:Sl}{st:St}
include hQ
variable {b0 s1:BS}{t11 t12:Int}{P0:BS->Int->Prop}{o_b0:Zl}
variable (kP0 :∀(b0:BS)(t12:Int),P0 b0 t12->Yea PG d Q s1 t11 b0 t12)(H0:σ 0=.sl o_b0 (List.map Ys b0))(H1:σ 1=.s s1)(H11:σ 11=.i .i64 t11)(H12:σ 12=.i .i64 t12)(A0:Jk st.ow o_b0 b0.length)
include kP0 H0 H1 H11 H12 A0 in
theorem Pl (h:Nz PG K P0 b0 s1 t11 t12):W PG d Yas σ st (Zs PG d (.loop Aq) (Ya 0 (Zs PG d Oq Q))):=
 au trivial
include H0 A0 in
theorem Yr5 (h:Zph PG K b0):W PG d Oq σ st Q:=
 q_ J (Yi H0 (Vt (f:=Ys) (l:=[(34:UInt8)]) J J (Wg J J J Vl) J (Qo Rk J J J A0 h.1 J (fun _ _ c _ _=>Yi J (Zp (hQ _ _ _ _ J c h.2))))))
include kP0 H0 H1 H11 H12 A0 in
theorem Xhv (h:Zel PG K P0 b0 s1 t11 t12):W PG d Aq σ st (Zs PG d (.loop Aq) (Ya 0 (Zs PG d Oq Q))):=
 q_ J (b_ H12 H11 Wx (e_ (Zm (Yk J (fun p=>Yd (Zm (Yj (q_ J (m_ (m_ (e_ (q_ J (m_ (m_ ((h.1 p).2.elim fun q c=>Gi H1 H12 (h.1 p).1 c.1 (m_ (e_ (Yj (q_ J (Xh J (b_ J J Xk (Yt J (Yq (g:=25) J (fun e=>z_ 4 J (e_ (Yr J (W.reg0 J fun _ _=>Yi H0 (m_ (Vt (f:=Ys) (l:=[(92:UInt8),q]) J J (Wg J J J (Wg J J J Vl)) J (Qo Rk J J J A0 (c.2.1 e).1 J (fun _ _ a1 _ _=>Yi J (e_ (Pl hQ kP0 J H1 H11 H12 a1 (c.2.1 e).2)))))))))) (fun e=>Zd J (Xh J (Zd J (b_ J J Xk (z_ 2 J (e_ (Yk J (fun i=>W.reg0 J fun _ _=>Yi H0 (m_ (Vt (f:=Ys) (l:=[(92:UInt8),q]) J J (Wg J J J (Wg J J J Vl)) J (Qo Rk J J J A0 ((c.2.2 e).1 i).1 J (fun _ _ w _ _=>Yi J (e_ (Pl hQ kP0 J H1 H11 H12 w ((c.2.2 e).1 i).2))))))) (fun i=>q_ J (m_ (b_ J J Xk (m_ (e_ (Yk J (fun j=>W.reg0 J fun _ _=>Yi H0 (Vt (f:=Ys) (l:=[(92:UInt8),(110:UInt8)]) J J (Wg J J J (Wg J J J Vl)) J (Qo Rk J J J A0 (((c.2.2 e).2 i).1 j).1 J (fun _ _ x _ _=>Yi J (e_ (Pl hQ kP0 J H1 H11 H12 x (((c.2.2 e).2 i).1 j).2)))))) (fun j=>q_ J (Xh J (b_ J J Wx (Yt J (Yq (g:=42) J (fun k=>z_ 4 J (e_ (Yr J (W.reg0 J fun _ _=>Yi H0 (m_ (b_ J J (Ziw (by decide)) (((((c.2.2 e).2 i).2 j).1 k).2.elim fun a2 r=>Gi J J ((((c.2.2 e).2 i).2 j).1 k).1 r.1 (m_ (b_ J J (Zfj _ _ _) (r.2.2.elim fun a3 s=>Gi J J r.2.1 s.1 (Vt (f:=Ys) (l:=[(92:UInt8),(120:UInt8),a2,a3]) J J (Wg J J J (Wg J J J (Wg J J J (Wg J J J Vl)))) J (Qo Rk J J J A0 s.2.1 J (fun _ _ y _ _=>Yi J (e_ (Pl hQ kP0 J H1 H11 H12 y s.2.2))))))))))))))) (fun k=>Zd J (Xh J (Zd J (b_ J J Vz (z_ 2 J (e_ (Yk J (fun o=>W.reg0 J fun _ _=>Yi H0 (m_ (b_ J J (Ziw (by decide)) ((((((c.2.2 e).2 i).2 j).2 k).1 o).2.elim fun a4 u=>Gi J J (((((c.2.2 e).2 i).2 j).2 k).1 o).1 u.1 (m_ (b_ J J (Zfj _ _ _) (u.2.2.elim fun a5 v=>Gi J J u.2.1 v.1 (Vt (f:=Ys) (l:=[(92:UInt8),(120:UInt8),a4,a5]) J J (Wg J J J (Wg J J J (Wg J J J (Wg J J J Vl)))) J (Qo Rk J J J A0 v.2.1 J (fun _ _ z _ _=>Yi J (e_ (Pl hQ kP0 J H1 H11 H12 z v.2.2)))))))))))) (fun o=>W.reg0 J fun _ _=>Yi H0 (m_ (Vt (f:=Ys) (l:=[q]) J J (Wg J J J Vl) J (Qo Rk J J J A0 (((((c.2.2 e).2 i).2 j).2 k).2 o).1 J (fun _ _ a0 _ _=>Yi J (e_ (Pl hQ kP0 J H1 H11 H12 a0 (((((c.2.2 e).2 i).2 j).2 k).2 o).2))))))))))))))))))))))))))))))))))))))))))))))))))) (fun p=>Vr (Yr5 hQ H0 A0 (h.2 p)))))))
include H0 H1 A0 in
theorem Yw2 (h:Zqg PG K b0 s1):W PG d Zs1 σ st Q:=
 q_ J (Yi H0 (Vt (f:=Ys) (l:=[(34:UInt8)]) J J (Wg J J J Vl) J (Qo Rk J J J A0 h.1 J (fun _ _ c _ _=>Yi J (e_ (Zm (q_ J (m_ (Hf H1 (m_ (e_ (Yj (h.2 (Yea PG d Q s1 (s1.length:Int)) (fun _ _ hb _ _ _ H0 H1 H11 H12 A0=>W.loop (Xhv hQ (fun _ _ x=>x) H0 H1 H11 H12 A0 hb)) _ _ _ J H1 J J c)))))))))))))
include H0 H1 A0 in
theorem Yw9 (h:Zk3 PG K b0 s1):W PG d (sR 0 Yjr Zs1) σ st Q:=
 q_ J (Yi (f:=Ys) (l:=[]) J (e_ (Yw2 hQ H0 H1 A0 h)))
end
theorem p30 {PG:Za}(hf:PG.fn 30=some Za8){b0:BS}{s1:BS}{K:BS->Prop}(h:Zk3 PG K b0 s1):Tn PG 30 (List.map Ys b0) [.s s1] fun rows=>∃x:BS,K x/\rows=List.map Ys x:=
  Tn.of hf rfl fun d st o ha=>Yw9 (Q:=Re d _ (Zva _)) (fun σ st' o' x h2 ha' hk=>⟨.sl o' (List.map Ys x),by simp only [Za8,Xg,Ki,h2],_,_,rfl,by simpa using ha',⟨_,hk,rfl⟩⟩) rfl rfl (by simpa using ha) h
def Ya9:List AI:=[oC 4 (.s [])]
def Ygh:List AI:=[oO 5 (.alloc [z8,z8,z8,z8,z8,z8,z8,z8,z8,z8,z8,z8,z8,z8,z8,z8,z8,z8,z8,z8,z8,z8,z8,z8,z8,z8,z8,z8,z8,z8,z8,z8,z8,z8,z8,z8,z8,z8,z8,z8,z8,z8,z8,z8,z8,z8,z8,z8,z8,z8,z8,z8,z8,z8,z8,z8,z8,z8,z8,z8,z8,z8,z8,z8])]
def Yax:List AI:=[oI 6 64]
def Wdh:List AI:=[oM 7 6,oV 8 .sub 7 1,oM 6 8]
def Xuz:List AI:=[oM 9 6,oM 10 0,oM 11 1,oT 12 .rem 10 11,oO 13 (.ixS (.c (.s [48,49,50,51,52,53,54,55,56,57,97,98,99,100,101,102])) (.t 12)),oO 14 (.iaA 64 1 (.t 5) (.t 9)),oS 1 14 13]
def Xky:List AI:=[oM 15 0,oM 16 1,oT 17 .quo 15 16,oM 0 17]
def Xaw:List AI:=[oM 18 0,oB 19 .eql (.t 18) (.c (.i .u64 0))]
def Yug:List AI:=[oM 20 6,oO 21 (.slA 64 1 (.t 5) (some (.t 20)) none),oO 22 (.b2s (.t 21)),oM 4 22]
abbrev Fs:AC:=(.block 1 (sR 3 Wdh (sR 4 Xuz (sR 5 Xky (sR 6 Xaw (.cond (.t 19) (sR 7 Yug .ret) .skip))))))
abbrev b34:AC:=(sR 0 Ya9 (sR 1 Ygh (sR 2 Yax (.block 0 (.loop Fs)))))
def Zes:AF:={ nt:=23,res:=[.tmp 4],body:=b34 }
abbrev Yac (PG:Za)(d:Nat)(Q:AE->Sl->St->Prop)(base1:Int)(n0:Int)(at6:Int)(m4096:List (UInt8)):Prop:=
  ∀(σ:Sl)(st:St)(v4096:Nat),σ 0=.i .u64 n0->σ 1=.i .u64 base1->σ 5=.p (d,4096) v4096 0->σ 6=.i .i64 at6->lk st.bx (d,4096)=some (v4096,List.map c8 m4096)->W PG d (.loop Fs) σ st (Ya 0 Q)
def Zne (PG:Za)(K:BS->Prop)(P0:Int->Int->List (UInt8)->Prop)(n0:Int)(base1:Int)(at6:Int)(m4096:List (UInt8)):Prop:=
  base1≠0/\0<=((n0:Int).tmod base1)/\∃c,([48,49,50,51,52,53,54,55,56,57,97,98,99,100,101,102]:BS)[((n0:Int).tmod base1).toNat]?=some c/\0<=(IntKind.i64.wrap (at6-1))/\(IntKind.i64.wrap (at6-1)).toNat<64/\(IntKind.i64.wrap (at6-1)).toNat<m4096.length/\base1≠0/\((IntKind.u64.wrap ((n0:Int).tdiv base1))=0->(m4096.set ((IntKind.i64.wrap (at6-1)).toNat) c).length=64/\0<=(IntKind.i64.wrap (at6-1))/\(IntKind.i64.wrap (at6-1)).toNat<=64/\K ((m4096.set ((IntKind.i64.wrap (at6-1)).toNat) c).drop (IntKind.i64.wrap (at6-1)).toNat))/\(¬((IntKind.u64.wrap ((n0:Int).tdiv base1))=0)->P0 (IntKind.u64.wrap ((n0:Int).tdiv base1)) (IntKind.i64.wrap (at6-1)) (m4096.set ((IntKind.i64.wrap (at6-1)).toNat) c))
def Zkh (PG:Za)(K:BS->Prop)(n0:Int)(base1:Int):Prop:=
  ∀P0:Int->Int->List (UInt8)->Prop,(∀(n0:Int)(at6:Int)(m4096:List (UInt8)),Zne PG K P0 n0 base1 at6 m4096->P0 n0 at6 m4096)->P0 n0 64 (List.replicate 64 0)
section
variable {PG:Za}{d:Nat}{Q:AE->Sl->St->Prop}{K:BS->Prop}(hQ:H1 AV.s 4 Q K){σ:Sl}{st:St}
include hQ
variable {n0 base1 at6:Int}{m4096:List (UInt8)}{P0:Int->Int->List (UInt8)->Prop}{v4096:Nat}
variable (kP0 :∀(n0:Int)(at6:Int)(m4096:List (UInt8)),P0 n0 at6 m4096->Yac PG d Q base1 n0 at6 m4096)(H0:σ 0=.i .u64 n0)(H1:σ 1=.i .u64 base1)(H5:σ 5=.p (d,4096) v4096 0)(H6:σ 6=.i .i64 at6)(B4096:lk st.bx (d,4096)=some (v4096,List.map c8 m4096))
include kP0 H0 H1 H5 H6 B4096 in
theorem Xcc (h:Zne PG K P0 n0 base1 at6 m4096):W PG d Fs σ st (Zs PG d (.loop Fs) (Ya 0 Q)):=
 Yj (q_ J (m_ (b_ H6 J Pd (m_ (e_ (q_ J (m_ (m_ (m_ (b_ H0 H1 (Zhv h.1) (h.2.2.elim fun i c=>Gi J J h.2.1 c.1 (Wa8 H5 J c.2.1 c.2.2.1 (Xhn (f:=c8) (a:=i) Xgp J B4096 J c.2.2.2.1 (e_ (q_ J (m_ (m_ (b_ H0 H1 (Zly c.2.2.2.2.1) (m_ (e_ (q_ J (m_ (b_ J J Xk (e_ (Yk J (fun e=>q_ J (m_ (Yyp H5 Zi (c.2.2.2.2.2.1 e).1 J J (c.2.2.2.2.2.1 e).2.1 (c.2.2.2.2.2.1 e).2.2.1 (Zj0 J (m_ (Zp (hQ J (c.2.2.2.2.2.1 e).2.2.2))))))) (fun e=>Yd (kP0 _ _ _ (c.2.2.2.2.2.2 e) _ _ _ J H1 H5 J Zi)))))))))))))))))))))))))))
include H0 H1 in
theorem Yyr (h:Zkh PG K n0 base1):W PG d (sR 0 Ya9 (sR 1 Ygh (sR 2 Yax (.block 0 (.loop Fs))))) σ st Q:=
 q_ J (m_ (e_ (Zm (W.reg (Xs (e_ (q_ J (m_ (e_ (Yj (h (Yac PG d Q base1) (fun _ _ _ hb _ _ _ H0 H1 H5 H6 B4096=>W.loop (Xcc hQ (fun _ _ _ x=>x) H0 H1 H5 H6 B4096 hb)) _ _ _ H0 H1 J J (show lk _ (d,4096)=some (_,(List.map c8 (List.replicate 64 0):List AV)) from Zi))))))))))))
end
theorem p34 {PG:Za}(hf:PG.fn 34=some Zes){n0:Int}{base1:Int}{K:BS->Prop}(h:Zkh PG K n0 base1) :∃x0:BS,K x0/\Ze PG 34 [.i .u64 n0,.i .u64 base1] (.s x0):=
 P1 hf J (Yyr (h1 J fun _=>J) J J h)
def Yc8:List AI:=[oC 6 (.i .u64 0),oI 7 0]
def Yn9:List AI:=[oC 8 (.i .u64 0),oC 9 (.b false)]
def Xa1:List AI:=[oM 12 0,oH 13 12,oI 14 0]
def Wcg:List AI:=[oT 15 .lss 14 13]
def Xjb:List AI:=[oM 16 14,oM 10 16]
def Xi9:List AI:=[oM 17 1,oO 18 (.slS (.c (.s [48,49,50,51,52,53,54,55,56,57,97,98,99,100,101,102])) none (some (.t 17))),oM 19 0,oM 20 10,oO 21 (.ixS (.t 19) (.t 20)),oQ 22 43 [18,21],oM 11 22]
def Ynf:List AI:=[oM 23 11,oV 24 .lss 23 0,oM 25 24,gF 25 (oM 26 10),gF 25 (oV 27 .eql 26 1),gF 25 (oM 28 27),gT 28 (oM 29 0),gT 28 (oO 30 (.ixS (.t 29) (.c (.i .i64 0)))),gT 28 (oW 31 .eql 30 48),gF 25 (oA 32 28 31),oR 33 25 32]
def Yw8:List AI:=[oC 6 (.i .u64 0),oI 7 12]
def Xha:List AI:=[oM 34 9,oM 35 34,gF 35 (oM 36 8),gF 35 (oM 37 2),gF 35 (oM 38 11),gF 35 (oO 39 (.cvi .u64 (.t 38))),gF 35 (oT 40 .sub 37 39),gF 35 (oM 41 1),gF 35 (oT 42 .quo 40 41),gF 35 (oT 43 .gtr 36 42),oR 44 35 43,oM 9 44]
def Yt8:List AI:=[oM 45 9,oZ 46 45]
def Xef:List AI:=[oM 47 8,oM 48 1,oT 49 .mul 47 48,oM 50 11,oO 51 (.cvi .u64 (.t 50)),oT 52 .add 49 51,oM 8 52]
def Wea:List AI:=[oV 53 .add 14 1,oM 14 53]
def Ynt:List AI:=[oM 55 0,oB 56 .eql (.t 55) (.c (.s [])),oM 54 56]
def Xyd:List AI:=[oC 6 (.i .u64 0),oI 7 12]
def Wbd:List AI:=[oM 58 9,oM 57 58]
def Yoe:List AI:=[oC 6 (.i .u64 0),oI 7 16]
def Xz1:List AI:=[oM 59 8,oM 6 59,oI 7 0]
abbrev Zwi:AC:=(.reg 11 Wea)
abbrev Ie:AC:=(sR 3 Wcg (.seq (.cond (.t 15) .skip (.exit 0)) (.seq (.block 1 (sR 4 Xjb (sR 5 Xi9 (.seq (sR 6 Ynf (.cond (.t 33) (sR 7 Yw8 .ret) .skip)) (sR 8 Xha (sR 9 Yt8 (.cond (.t 46) (.reg 10 Xef) .skip))))))) Zwi)))
abbrev Ob:AC:=(.seq (.block 2 (sR 12 Ynt (.cond (.t 54) (sR 13 Xyd .ret) (sR 14 Wbd (.cond (.t 57) (sR 15 Yoe .ret) .skip))))) (sR 16 Xz1 .ret))
abbrev Yh1:AC:=(.seq (sR 2 Xa1 (.block 0 (.loop Ie))) Ob)
abbrev Zol:AC:=(sR 1 Yn9 Yh1)
abbrev b37:AC:=(sR 0 Yc8 Zol)
def Zc3:AF:={ nt:=60,res:=[.tmp 6,.tmp 7],body:=b37 }
abbrev Yb6 (PG:Za)(d:Nat)(Q:AE->Sl->St->Prop)(s0:BS)(base1:Int)(most2:Int)(t13:Int)(n8:Int)(far9:Bool)(t14:Int):Prop:=
  ∀(σ:Sl)(st:St),σ 0=.s s0->σ 1=.i .u64 base1->σ 2=.i .u64 most2->σ 8=.i .u64 n8->σ 9=.b far9->σ 13=.i .i64 t13->σ 14=.i .i64 t14->W PG d (.loop Ie) σ st (Ya 0 (Zs PG d Ob Q))
def Rj (PG:Za)(K:Int->Int->Prop)(P0:Int->Bool->Int->Prop)(s0:BS)(base1:Int)(most2:Int)(n8:Int)(far9:Bool)(t13:Int)(t14:Int):Prop:=
  P0 n8 far9 (IntKind.i64.wrap (t14+1))
def Zrw (PG:Za)(K:Int->Int->Prop)(s0:BS)(n8:Int)(far9:Bool):Prop:=
  (s0=([]:BS)->K 0 12)/\(¬(s0=([]:BS))->(far9=true->K 0 16)/\(far9=false->K n8 0))
def Zco (PG:Za)(K:Int->Int->Prop)(P0:Int->Bool->Int->Prop)(s0:BS)(base1:Int)(most2:Int)(n8:Int)(far9:Bool)(t13:Int)(t14:Int):Prop:=
  (t14<t13->0<=base1/\(base1).toNat<=([48,49,50,51,52,53,54,55,56,57,97,98,99,100,101,102]:BS).length/\0<=t14/\∃j:UInt8,s0[(t14).toNat]?=some j/\∃c,Ze PG 43 [.s (([48,49,50,51,52,53,54,55,56,57,97,98,99,100,101,102]:BS).take (base1).toNat),.i .u8 (j.toNat:Int)] (.i .i64 c)/\(c<0->K 0 12)/\(¬(c<0)->(t14=1->∃e:UInt8,s0[0]?=some e/\((e.toNat:Int)=48->K 0 12)/\(¬((e.toNat:Int)=48)->(far9=true->Rj PG K P0 s0 base1 most2 n8 true t13 t14)/\(far9=false->base1≠0/\(¬(n8>(IntKind.u64.wrap (((IntKind.u64.wrap (most2-(IntKind.u64.wrap c))):Int).tdiv base1)))->Rj PG K P0 s0 base1 most2 (IntKind.u64.wrap ((IntKind.u64.wrap (n8*base1))+(IntKind.u64.wrap c))) (decide (n8>(IntKind.u64.wrap (((IntKind.u64.wrap (most2-(IntKind.u64.wrap c))):Int).tdiv base1)))) t13 t14)/\(¬(¬(n8>(IntKind.u64.wrap (((IntKind.u64.wrap (most2-(IntKind.u64.wrap c))):Int).tdiv base1))))->Rj PG K P0 s0 base1 most2 n8 (decide (n8>(IntKind.u64.wrap (((IntKind.u64.wrap (most2-(IntKind.u64.wrap c))):Int).tdiv base1)))) t13 t14))))/\(¬(t14=1)->(far9=true->Rj PG K P0 s0 base1 most2 n8 true t13 t14)/\(far9=false->base1≠0/\(¬(n8>(IntKind.u64.wrap (((IntKind.u64.wrap (most2-(IntKind.u64.wrap c))):Int).tdiv base1)))->Rj PG K P0 s0 base1 most2 (IntKind.u64.wrap ((IntKind.u64.wrap (n8*base1))+(IntKind.u64.wrap c))) (decide (n8>(IntKind.u64.wrap (((IntKind.u64.wrap (most2-(IntKind.u64.wrap c))):Int).tdiv base1)))) t13 t14)/\(¬(¬(n8>(IntKind.u64.wrap (((IntKind.u64.wrap (most2-(IntKind.u64.wrap c))):Int).tdiv base1))))->Rj PG K P0 s0 base1 most2 n8 (decide (n8>(IntKind.u64.wrap (((IntKind.u64.wrap (most2-(IntKind.u64.wrap c))):Int).tdiv base1)))) t13 t14)))))/\(¬(t14<t13)->Zrw PG K s0 n8 far9)
def Zka (PG:Za)(K:Int->Int->Prop)(s0:BS)(base1:Int)(most2:Int)(n8:Int)(far9:Bool):Prop:=
  ∀P0:Int->Bool->Int->Prop,(∀(n8:Int)(far9:Bool)(t14:Int),Zco PG K P0 s0 base1 most2 n8 far9 (s0.length:Int) t14->P0 n8 far9 t14)->P0 n8 far9 0
def Zkd (PG:Za)(K:Int->Int->Prop)(s0:BS)(base1:Int)(most2:Int):Prop:=
  Zka PG K s0 base1 most2 0 false
def Zho (PG:Za)(K:Int->Int->Prop)(s0:BS)(base1:Int)(most2:Int):Prop:=
  Zkd PG K s0 base1 most2
section
variable {PG:Za}{d:Nat}{Q:AE->Sl->St->Prop}{K:Int->Int->Prop}(hQ:H2 (AV.i .u64) (AV.i .i64) 6 7 Q K){σ:Sl}{st:St}
include hQ
variable {s0:BS}{base1 most2 n8:Int}{far9:Bool}{t13 t14:Int}{P0:Int->Bool->Int->Prop}
variable (kP0 :∀(n8:Int)(far9:Bool)(t14:Int),P0 n8 far9 t14->Yb6 PG d Q s0 base1 most2 t13 n8 far9 t14)(H0:σ 0=.s s0)(H1:σ 1=.i .u64 base1)(H2:σ 2=.i .u64 most2)(H8:σ 8=.i .u64 n8)(H9:σ 9=.b far9)(H13:σ 13=.i .i64 t13)(H14:σ 14=.i .i64 t14)
include kP0 H0 H1 H2 H8 H9 H13 H14 in
theorem Xd6 (h:Rj PG K P0 s0 base1 most2 n8 far9 t13 t14):W PG d Zwi σ st (Zs PG d (.loop Ie) (Ya 0 (Zs PG d Ob Q))):=
 au trivial
include H0 H8 H9 in
theorem Xjw (h:Zrw PG K s0 n8 far9):W PG d Ob σ st Q:=
 au trivial
include kP0 H0 H1 H2 H8 H9 H13 H14 in
theorem Yu9 (h:Zco PG K P0 s0 base1 most2 n8 far9 t13 t14):W PG d Ie σ st (Zs PG d (.loop Ie) (Ya 0 (Zs PG d Ob Q))):=
 au (And.intro @Xd6 @Xjw)
include H0 H1 H2 H8 H9 in
theorem Xho (h:Zka PG K s0 base1 most2 n8 far9):W PG d Yh1 σ st Q:=
 Zm (q_ J (m_ (Hf H0 (m_ (e_ (Yj (h (Yb6 PG d Q s0 base1 most2 (s0.length:Int)) (fun _ _ _ hb _ _ H0 H1 H2 H8 H9 H13 H14=>W.loop (Yu9 hQ (fun _ _ _ x=>x) H0 H1 H2 H8 H9 H13 H14 hb)) _ _ H0 H1 H2 H8 H9 J J)))))))
include H0 H1 H2 in
theorem Ysh (h:Zkd PG K s0 base1 most2):W PG d Zol σ st Q:=
 au @Xho
include H0 H1 H2 in
theorem Ysn (h:Zho PG K s0 base1 most2):W PG d (sR 0 Yc8 Zol) σ st Q:=
 q_ J (m_ (m_ (e_ (Ysh hQ H0 H1 H2 h))))
end
theorem p37 {PG:Za}(hf:PG.fn 37=some Zc3){s0:BS}{base1:Int}{most2:Int}{K:Int->Int->Prop}(h:Zho PG K s0 base1 most2) :∃x0:Int,∃x1:Int,K x0 x1/\Ze PG 37 [.s s0,.i .u64 base1,.i .u64 most2] (.tup [.i .u64 x0,.i .i64 x1]):=
 P2 hf J (Ysn (h2 J fun _ _=>J) J J J h)
def Ya7:List AI:=[oC 2 (.s []),oC 3 (.s []),oC 4 (.b false)]
def Xb5:List AI:=[oM 11 0,oO 12 (.call false 36 [(.t 11),(.c (.s [34]))]),oM 10 12,oE 13 0 10,oE 14 1 10,oM 5 13,oM 6 14]
def Yts:List AI:=[oM 15 6,oZ 16 15]
def Xij:List AI:=[oC 2 (.s []),oC 3 (.s []),oC 4 (.b false)]
def Wae:List AI:=[oC 7 (.sl .full [])]
def Xfw:List AI:=[oM 17 5,oB 18 .neq (.t 17) (.c (.s []))]
def Xah:List AI:=[oM 19 5,oO 20 (.ixS (.t 19) (.c (.i .i64 0))),oM 8 20]
def Xwh:List AI:=[oM 21 5,oO 22 (.slS (.t 21) (some (.c (.i .i64 1))) none),oM 5 22]
def Xkg:List AI:=[oM 24 8,oW 25 .eql 24 34,oM 23 25]
def Yt4:List AI:=[oM 26 7,oO 27 (.b2s (.t 26)),oM 28 5,oM 2 27,oM 3 28,oC 4 (.b true)]
def Xwt:List AI:=[oM 30 8,oW 31 .lss 30 32,oM 32 31,gF 32 (oM 33 8),gF 32 (oW 34 .gtr 33 126),oR 35 32 34,oM 29 35]
def Xt7:List AI:=[oC 2 (.s []),oC 3 (.s []),oC 4 (.b false)]
def Yzw:List AI:=[oM 37 8,oW 38 .eql 37 92,oM 36 38]
def Xwj:List AI:=[oC 9 (.b false)]
def Xfp:List AI:=[oM 40 5,oQ 41 45 [40],oM 39 41,oE 42 0 39,oE 43 1 39,oE 44 2 39,oM 8 42,oM 5 43,oM 9 44]
def Yol:List AI:=[oM 45 9,oZ 46 45]
def Xgh:List AI:=[oC 2 (.s []),oC 3 (.s []),oC 4 (.b false)]
def Xor:List AI:=[oM 47 7,oM 48 8,oO 49 (.bslice [z8] 1 [(0,(.t 48))]),oO 50 (.app 1 1 (.t 47) (.t 49)),oM 7 50]
def Ysk:List AI:=[oC 2 (.s []),oC 3 (.s []),oC 4 (.b false)]
abbrev Zyc:AC:=(.reg 17 Xor)
abbrev Er:AC:=(.seq (sR 5 Xfw (.cond (.t 18) .skip (.exit 0))) (.block 1 (sR 6 Xah (sR 7 Xwh (.seq (.block 2 (sR 8 Xkg (.cond (.t 23) (sR 9 Yt4 .ret) (sR 10 Xwt (.cond (.t 29) (sR 11 Xt7 .ret) (sR 12 Yzw (.cond (.t 36) (sR 13 Xwj (sR 14 Xfp (sR 15 Yol (.cond (.t 46) (sR 16 Xgh .ret) .skip)))) .skip))))))) Zyc)))))
abbrev Ix:AC:=(sR 18 Ysk .ret)
abbrev Zjs:AC:=(sR 1 Xb5 (.seq (sR 2 Yts (.cond (.t 16) (sR 3 Xij .ret) .skip)) (sR 4 Wae (.seq (.block 0 (.loop Er)) Ix))))
abbrev b39:AC:=(sR 0 Ya7 Zjs)
def Ep:AF:={ nt:=51,res:=[.tmp 2,.tmp 3,.tmp 4],body:=b39 }
abbrev Da (Q:AE->Sl->St->Prop)(K:BS->BS->Bool->Prop):Prop:=∀(σ:Sl)(st:St)(x0:BS)(x1:BS)(x2:Bool),σ 2=.s x0->σ 3=.s x1->σ 4=.b x2->K x0 x1 x2->Q .ret σ st
abbrev Zth (PG:Za)(d:Nat)(Q:AE->Sl->St->Prop)(rest5:BS)(b7:BS):Prop:=
  ∀(σ:Sl)(st:St)(o_b7:Zl),σ 5=.s rest5->σ 7=.sl o_b7 (List.map Ys b7)->Xe d st.ow o_b7 b7.length->W PG d (.loop Er) σ st (Ya 0 (Zs PG d Ix Q))
def Ii (PG:Za)(K:BS->BS->Bool->Prop)(P0:BS->BS->Prop)(rest5:BS)(b7:BS)(c8:Int):Prop:=
  ∃c:UInt8,c8=(c.toNat:Int)/\Qn (b7.length+[c].length) 1/\P0 rest5 (b7++[c])
def Yds (PG:Za)(K:BS->BS->Bool->Prop) :Prop:=
  K ([]:BS) ([]:BS) false
def Znk (PG:Za)(K:BS->BS->Bool->Prop)(P0:BS->BS->Prop)(rest5:BS)(b7:BS):Prop:=
  (rest5≠([]:BS)->∃c:UInt8,rest5[0]?=some c/\1<=rest5.length/\((c.toNat:Int)=34->K b7 (rest5.drop 1) true)/\(¬((c.toNat:Int)=34)->((c.toNat:Int)<32->K ([]:BS) ([]:BS) false)/\(¬((c.toNat:Int)<32)->((c.toNat:Int)>126->K ([]:BS) ([]:BS) false)/\(¬((c.toNat:Int)>126)->((c.toNat:Int)=92->∃j k e,Ze PG 45 [.s (rest5.drop 1)] (.tup [.i .u8 j,.s k,.b e])/\((!e)=true->K ([]:BS) ([]:BS) false)/\((!e)=false->Ii PG K P0 k b7 j))/\(¬((c.toNat:Int)=92)->Ii PG K P0 (rest5.drop 1) b7 (c.toNat:Int))))))/\(¬(rest5≠([]:BS))->Yds PG K )
def Zm6 (PG:Za)(K:BS->BS->Bool->Prop)(s0:BS):Prop:=
  ∃e c,Ze PG 36 [.s s0,.s ([34]:BS)] (.tup [.s e,.b c])/\((!c)=true->K ([]:BS) ([]:BS) false)/\((!c)=false->∀P0:BS->BS->Prop,(∀(rest5:BS)(b7:BS),Znk PG K P0 rest5 b7->P0 rest5 b7)->P0 e ([]:BS))
def Zhq (PG:Za)(K:BS->BS->Bool->Prop)(s0:BS):Prop:=
  Zm6 PG K s0
section
variable {PG:Za}{d:Nat}{Q:AE->Sl->St->Prop}{K:BS->BS->Bool->Prop}(hQ:Da Q K){σ:Sl}{st:St}
include hQ
variable {rest5 b7:BS}{c8:Int}{P0:BS->BS->Prop}{o_b7:Zl}{s0:BS}
variable (kP0 :∀(rest5:BS)(b7:BS),P0 rest5 b7->Zth PG d Q rest5 b7)(H0:σ 0=.s s0)(H5:σ 5=.s rest5)(H7:σ 7=.sl o_b7 (List.map Ys b7))(H8:σ 8=.i .u8 c8)(A7:Xe d st.ow o_b7 b7.length)
include kP0 H5 H7 H8 A7 in
theorem Yb7 (h:Ii PG K P0 rest5 b7 c8):W PG d Zyc σ st (Ya 1 (Zs PG d (.loop Er) (Ya 0 (Zs PG d Ix Q)))):=
 au trivial
theorem Xeg (h:Yds PG K ):W PG d Ix σ st Q:=
 au trivial
include kP0 H5 H7 A7 in
theorem Xou (h:Znk PG K P0 rest5 b7):W PG d Er σ st (Zs PG d (.loop Er) (Ya 0 (Zs PG d Ix Q))):=
 Zm (q_ J (m_ (b_ H5 J Tg (e_ (Yk J (fun o=>Yd (Yj (q_ J (m_ ((h.1 o).elim fun _ c=>Gi H5 J (by decide) c.1 (m_ (e_ (q_ J (m_ (Gu H5 J (by decide) c.2.1 (m_ (e_ (Zm (Yj (q_ J (m_ (b_ J J Xk (m_ (e_ (Yk J (fun e=>q_ J (Yi H7 (Zj0 J (m_ (m_ (m_ (m_ (Zp (hQ _ _ _ _ _ J J J (c.2.2.1 e)))))))))) (fun e=>q_ J (Xh J (b_ J J Wx (Yt J (Yq (g:=32) J (fun i=>z_ 4 J (e_ (Yr J (q_ J (m_ (m_ (m_ (Zp (hQ _ _ _ _ _ J J J ((c.2.2.2 e).1 i)))))))))) (fun i=>Zd J (Xh J (Zd J (b_ J J Vz (z_ 2 J (e_ (Yk J (fun j=>q_ J (m_ (m_ (m_ (Zp (hQ _ _ _ _ _ J J J (((c.2.2.2 e).2 i).1 j))))))) (fun j=>q_ J (m_ (b_ J J Xk (m_ (e_ (Yk J (fun q=>q_ J (m_ (e_ (q_ J (m_ (x2 ((((c.2.2.2 e).2 i).2 j).1 q) fun _ _ r=>r.elim fun _ k=>Yg (Wm J J) k.1 (m_ (x_ J J (x_ J J (x_ J J (m_ (m_ (m_ (e_ (q_ J (m_ (Xx J (e_ (Xl J (fun p=>q_ J (m_ (m_ (m_ (Zp (hQ _ _ _ _ _ J J J (k.2.1 p))))))) (fun p=>Yd (Yb7 hQ kP0 J H7 J A7 (k.2.2 p)))))))))))))))))))))) (fun q=>Yd (Yb7 hQ kP0 J H7 J A7 ((((c.2.2.2 e).2 i).2 j).2 q))))))))))))))))))))))))))))))))))))))))) (fun o=>Vr (Xeg hQ (h.2 o))))))))
include H0 in
theorem Wgd (h:Zm6 PG K s0):W PG d Zjs σ st Q:=
 q_ J (m_ (x2 h fun _ _ c=>Yg (Vq H0 J J) c.1 (m_ (x_ J J (x_ J J (m_ (m_ (e_ (Zm (q_ J (m_ (Xx J (e_ (Xl J (fun e=>q_ J (m_ (m_ (m_ (Zp (hQ _ _ _ _ _ J J J (c.2.1 e))))))) (fun e=>Yd (q_ J (Yi (f:=Ys) (l:=[]) J (e_ (Zm (Yj ((c.2.2 e) (Zth PG d Q ) (fun _ _ hb _ _ _ H5 H7 A7=>W.loop (Xou hQ (fun _ _ x=>x) H5 H7 A7 hb)) _ _ _ J J Xe.full)))))))))))))))))))))
include H0 in
theorem Yv4 (h:Zhq PG K s0):W PG d (sR 0 Ya7 Zjs) σ st Q:=
 q_ J (m_ (m_ (m_ (e_ (Wgd hQ H0 h)))))
end
theorem p39 {PG:Za}(hf:PG.fn 39=some Ep){s0:BS}{K:BS->BS->Bool->Prop}(h:Zhq PG K s0) :∃x0:BS,∃x1:BS,∃x2:Bool,K x0 x1 x2/\Ze PG 39 [.s s0] (.tup [.s x0,.s x1,.b x2]):=by
  obtain ⟨v,hv,x0,x1,x2,hk,rfl⟩:=Ze.of (K:=fun v=>∃x0:BS,∃x1:BS,∃x2:Bool,K x0 x1 x2/\v=.tup [.s x0,.s x1,.b x2]) hf rfl (Yv4 (σ:=Xz [.s s0]) (fun σ st   x0 x1 x2 H2 H3 H4 hk=>⟨.tup [.s x0,.s x1,.b x2],by simp only [Ep,Xg,Vc,H2,H3,H4,Ki,Option.map_some],_,rfl,x0,x1,x2,hk,rfl⟩) rfl h)
  exact ⟨x0,x1,x2,hk,hv⟩
def Ybx:List AI:=[oU 2 0,oC 3 (.s []),oC 4 (.b false)]
def Xx9:List AI:=[oM 8 0,oB 9 .eql (.t 8) (.c (.s []))]
def Wcv:List AI:=[oU 2 0,oC 3 (.s []),oC 4 (.b false)]
def Ym9:List AI:=[oM 10 0,oO 11 (.ixS (.t 10) (.c (.i .i64 0)))]
def Yz5:List AI:=[oW 13 .eql 11 34,oM 12 13]
def Xwz:List AI:=[oW 14 .eql 11 92,oM 12 14]
def Wda:List AI:=[oM 15 0,oO 16 (.ixS (.t 15) (.c (.i .i64 0))),oM 17 0,oO 18 (.slS (.t 17) (some (.c (.i .i64 1))) none),oM 2 16,oM 3 18,oC 4 (.b true)]
def Wc9:List AI:=[oW 20 .eql 11 110,oM 19 20]
def Xgg:List AI:=[oM 21 0,oO 22 (.slS (.t 21) (some (.c (.i .i64 1))) none),oU 2 10,oM 3 22,oC 4 (.b true)]
def Xh6:List AI:=[oW 24 .eql 11 120,oM 23 24]
def Xch:List AI:=[oM 25 0,oH 26 25,oV 27 .lss 26 3]
def Xlw:List AI:=[oU 2 0,oC 3 (.s []),oC 4 (.b false)]
def Xp7:List AI:=[oM 28 0,oO 29 (.ixS (.t 28) (.c (.i .i64 1))),oO 30 (.call false 43 [(.c (.s [48,49,50,51,52,53,54,55,56,57,97,98,99,100,101,102])),(.t 29)]),oM 31 0,oO 32 (.ixS (.t 31) (.c (.i .i64 2))),oO 33 (.call false 43 [(.c (.s [48,49,50,51,52,53,54,55,56,57,97,98,99,100,101,102])),(.t 32)]),oM 5 30,oM 6 33]
def Yya:List AI:=[oM 34 5,oB 35 .mul (.c (.i .i64 16)) (.t 34),oM 36 6,oT 37 .add 35 36,oO 38 (.cvi .u8 (.t 37)),oM 7 38]
def Yrv:List AI:=[oM 39 7,oM 40 0,oO 41 (.slS (.t 40) (some (.c (.i .i64 3))) none),oM 42 5,oV 43 .geq 42 0,oM 44 43,gT 44 (oM 45 6),gT 44 (oV 46 .geq 45 0),oA 47 44 46,oM 48 47,gT 48 (oM 49 7),gT 48 (oW 50 .neq 49 10),oA 51 48 50,oM 52 51,gT 52 (oM 53 7),gT 52 (oW 54 .lss 53 32),gT 52 (oM 55 54),gF 55 (oM 56 7),gF 55 (oW 57 .gtr 56 126),gT 52 (oR 58 55 57),oA 59 52 58,oM 2 39,oM 3 41,oM 4 59]
def Zmt:List AI:=[oU 2 0,oC 3 (.s []),oC 4 (.b false)]
abbrev Zwf:AC:=(.cond (.t 12) (sR 6 Wda .ret) (sR 7 Wc9 (.cond (.t 19) (sR 8 Xgg .ret) (sR 9 Xh6 (.cond (.t 23) (.seq (sR 10 Xch (.cond (.t 27) (sR 11 Xlw .ret) .skip)) (sR 12 Xp7 (sR 13 Yya (sR 14 Yrv .ret)))) .skip)))))
abbrev Zt6:AC:=(.block 0 (.seq (sR 4 Yz5 (.cond (.t 12) .skip (.reg 5 Xwz))) Zwf))
abbrev Yfw:AC:=(.seq (sR 3 Ym9 Zt6) (sR 15 Zmt .ret))
abbrev Znh:AC:=(.seq (sR 1 Xx9 (.cond (.t 9) (sR 2 Wcv .ret) .skip)) Yfw)
abbrev b45:AC:=(sR 0 Ybx Znh)
def Es:AF:={ nt:=60,res:=[.tmp 2,.tmp 3,.tmp 4],body:=b45 }
abbrev Ga (Q:AE->Sl->St->Prop)(K:Int->BS->Bool->Prop):Prop:=∀(σ:Sl)(st:St)(x0:Int)(x1:BS)(x2:Bool),σ 2=.i .u8 x0->σ 3=.s x1->σ 4=.b x2->K x0 x1 x2->Q .ret σ st
def Ot (PG:Za)(K:Int->BS->Bool->Prop)(s0:BS)(t11:Int)(t12:Bool):Prop:=
  (t12=true->∃o:UInt8,s0[0]?=some o/\1<=s0.length/\K (o.toNat:Int) (s0.drop 1) true)/\(t12=false->(t11=110->1<=s0.length/\K 10 (s0.drop 1) true)/\(¬(t11=110)->(t11=120->((s0.length:Int)<3->K 0 ([]:BS) false)/\(¬((s0.length:Int)<3)->∃j:UInt8,s0[1]?=some j/\∃c,Ze PG 43 [.s ([48,49,50,51,52,53,54,55,56,57,97,98,99,100,101,102]:BS),.i .u8 (j.toNat:Int)] (.i .i64 c)/\∃k:UInt8,s0[2]?=some k/\∃e,Ze PG 43 [.s ([48,49,50,51,52,53,54,55,56,57,97,98,99,100,101,102]:BS),.i .u8 (k.toNat:Int)] (.i .i64 e)/\3<=s0.length/\(c>=0->(e>=0->((IntKind.u8.wrap (IntKind.i64.wrap ((IntKind.i64.wrap (16*c))+e)))≠10->((IntKind.u8.wrap (IntKind.i64.wrap ((IntKind.i64.wrap (16*c))+e)))<32->K (IntKind.u8.wrap (IntKind.i64.wrap ((IntKind.i64.wrap (16*c))+e))) (s0.drop 3) true)/\(¬((IntKind.u8.wrap (IntKind.i64.wrap ((IntKind.i64.wrap (16*c))+e)))<32)->K (IntKind.u8.wrap (IntKind.i64.wrap ((IntKind.i64.wrap (16*c))+e))) (s0.drop 3) (decide ((IntKind.u8.wrap (IntKind.i64.wrap ((IntKind.i64.wrap (16*c))+e)))>126))))/\(¬((IntKind.u8.wrap (IntKind.i64.wrap ((IntKind.i64.wrap (16*c))+e)))≠10)->K (IntKind.u8.wrap (IntKind.i64.wrap ((IntKind.i64.wrap (16*c))+e))) (s0.drop 3) false))/\(¬(e>=0)->K (IntKind.u8.wrap (IntKind.i64.wrap ((IntKind.i64.wrap (16*c))+e))) (s0.drop 3) false))/\(¬(c>=0)->K (IntKind.u8.wrap (IntKind.i64.wrap ((IntKind.i64.wrap (16*c))+e))) (s0.drop 3) false)))/\(¬(t11=120)->K 0 ([]:BS) false)))
def Zns (PG:Za)(K:Int->BS->Bool->Prop)(s0:BS)(t11:Int):Prop:=
  (t11=34->Ot PG K s0 t11 (decide (t11=34)))/\(¬(t11=34)->Ot PG K s0 t11 (decide (t11=92)))
def Zqx (PG:Za)(K:Int->BS->Bool->Prop)(s0:BS):Prop:=
  ∃c:UInt8,s0[0]?=some c/\Zns PG K s0 (c.toNat:Int)
def Zrt (PG:Za)(K:Int->BS->Bool->Prop)(s0:BS):Prop:=
  (s0=([]:BS)->K 0 ([]:BS) false)/\(¬(s0=([]:BS))->Zqx PG K s0)
def Zr5 (PG:Za)(K:Int->BS->Bool->Prop)(s0:BS):Prop:=
  Zrt PG K s0
section
variable {PG:Za}{d:Nat}{Q:AE->Sl->St->Prop}{K:Int->BS->Bool->Prop}(hQ:Ga Q K){σ:Sl}{st:St}
include hQ
variable {s0:BS}{t11:Int}{t12:Bool}
variable (H0:σ 0=.s s0)(H11:σ 11=.i .u8 t11)(H12:σ 12=.b t12)
include H0 H11 H12 in
theorem Xil (h:Ot PG K s0 t11 t12):W PG d Zwf σ st (Ya 0 (Zs PG d (sR 15 Zmt .ret) Q)):=
 au trivial
include H0 H11 in
theorem Xsd (h:Zns PG K s0 t11):W PG d Zt6 σ st (Zs PG d (sR 15 Zmt .ret) Q):=
 au @Xil
include H0 in
theorem Xgq (h:Zqx PG K s0):W PG d Yfw σ st Q:=
 au @Xsd
include H0 in
theorem Xm3 (h:Zrt PG K s0):W PG d Znh σ st Q:=
 au @Xgq
include H0 in
theorem Wip (h:Zr5 PG K s0):W PG d (sR 0 Ybx Znh) σ st Q:=
 au @Xm3
end
theorem p45 {PG:Za}(hf:PG.fn 45=some Es){s0:BS}{K:Int->BS->Bool->Prop}(h:Zr5 PG K s0) :∃x0:Int,∃x1:BS,∃x2:Bool,K x0 x1 x2/\Ze PG 45 [.s s0] (.tup [.i .u8 x0,.s x1,.b x2]):=by
  obtain ⟨v,hv,x0,x1,x2,hk,rfl⟩:=Ze.of (K:=fun v=>∃x0:Int,∃x1:BS,∃x2:Bool,K x0 x1 x2/\v=.tup [.i .u8 x0,.s x1,.b x2]) hf rfl (Wip (σ:=Xz [.s s0]) (fun σ st   x0 x1 x2 H2 H3 H4 hk=>⟨.tup [.i .u8 x0,.s x1,.b x2],by simp only [Es,Xg,Vc,H2,H3,H4,Ki,Option.map_some],_,rfl,x0,x1,x2,hk,rfl⟩) rfl h)
  exact ⟨x0,x1,x2,hk,hv⟩
end Go.AM
