/- Parts of the proof: U38f, U38g, U38h, U39a, U39b, U39c, U39d, U39e, U40a, U40b. -/
import Derived.Test.YtheacfnopahmjaaGreatDoorG2
import Derived.Test.YtheacfnopahmjaaGreatDoorG1
set_option linter.all false
namespace Go.AM
open Go
set_option maxRecDepth 4000
set_option maxHeartbeats 2000000
attribute [local irreducible] Decidable.decide W WO Ve Vd
variable{PG:Zb}{d:Nat}{Q:Q0}{U:Sl}{st:St}
abbrev H81(Q:Q0)(K:Bool->Prop):Prop:=∀(U:Sl)(st:St)(aa:Bool),U 2=.b aa->K aa->Q .ret U st
section
variable{K:Bool->Prop}(hQ:H81 Q K)
end
abbrev xy:AC:= (.seq (sR 8 [oM 38 5,oF 39 3 4,oL 40 39,oJ 41 40,oT 42 .lss 38 41]<|cD 42 .skip<|.exit 2)<|.seq (.block 3<|sR 10 [oF 45 3 4,oL 46 45,oM 47 5,oX 48 2 46 47,oF 49 0 48,oL 50 49,oH 51 50,oV 52 .gtr 51 40]<|cD 52 (sR 11 [oC 2<|.b true] .ret) .skip)<|.reg 9 [oM 43 5,oV 44 .add 43 1,oM 5 44])
abbrev Yd0:AC:= (sR 7 [oI 5 0]<|.block 2<|.loop xy)
abbrev qf:AC:= (.reg 3 [oM 15 3,oV 16 .add 15 1,oM 3 16])
abbrev Yje:AC:= (.seq (.block 1<|sR 4 [oF 17 2 1,oL 18 17,oM 19 3,oX 20 7 18 19,oK 21 7 20,oO 4<|.alloc pS,oS 7 4 21]<|.seq (sR 5 [oF 22 0 4,oL 23 22,oH 24 23,oV 25 .gtr 24 40,oM 26 25,gF 26<|oF 27 3 4,gF 26<|oL 28 27,gF 26<|oJ 29 28,gF 26<|oV 30 .gtr 29 30,oR 31 26 30,oM 32 31,gF 32<|oF 33 4 4,gF 32<|oL 34 33,gF 32<|oJ 35 34,gF 32<|oV 36 .gtr 35 300,oR 37 32 36]<|cD 37 (sR 6 [oC 2<|.b true] .ret) .skip) Yd0) qf)
abbrev Rw:AC:= (.seq (sR 2 [oM 6 3,oF 7 2 1,oL 8 7,oJ 9 8,oT 10 .lss 6 9,oM 11 10,gT 11<|oM 12 3,gT 11<|oV 13 .leq 12 40,oA 14 11 13]<|cD 14 .skip<|.exit 0) Yje)
abbrev Rv:AC:= (sR 12 [oF 53 2 1,oL 54 53,oJ 55 54,oV 56 .gtr 55 40,oM 2 56] .ret)
abbrev b79:AC:= (sR 0 [oY 1 3 0,oC 2<|.b false]<|.seq (sR 1 [oI 3 0]<|.block 0<|.loop Rw) Rv)
def sN:AF:= { nt:=57,res:=[.tmp 2],body:=b79 }
abbrev Ygv(PG:Zb)(d:Nat)(Q:Q0)(i3:Int)(m0:Zd):Prop:=
  ∀(U:Sl)(st:St)(v0:Nat),U 1=.p (d,0) v0 0->U 3=.i .i64 i3->lk st.bx (d,0)=some (v0,Zd.cs m0)->W PG d (.loop Rw) U st (Zs 0 (Zk PG d Rv Q))
abbrev Yei(PG:Zb)(d:Nat)(Q:Q0)(i3 k5:Int)(m0:Zd)(dh:Zz):Prop:=
  ∀(U:Sl)(st:St)(v0 iz:Nat),U 1=.p (d,0) v0 0->U 3=.i .i64 i3->U 4=.p (d,16389) iz 0->U 5=.i .i64 k5->lk st.bx (d,0)=some (v0,Zd.cs m0)->lk st.bx (d,16389)=some (iz,Zz.cs dh)->W PG d (.loop xy) U st (Zs 2 (Zs 1 (Zk PG d qf (Zk PG d (.loop Rw) (Zs 0 (Zk PG d Rv Q))))))
def IC(PG:Zb)(K:Bool->Prop)(P0:Int->Zd->Prop)(i3:Int)(m0:Zd):Prop:=
  P0 (IntKind.i64.wrap (i3+1)) m0
section
variable(PG:Zb)(K:Bool->Prop)
def tu(P1:Int->Zd->Zz->Prop)(P0:Int->Zd->Prop)(i3 k5:Int)(m0:Zd)(dh:Zz):Prop:=
  (k5<(dh.slots.length:Int)->0<=k5/\∃c:Xt,dh.slots[(k5).toNat]?=some c/\((c.name.length:Int)>40->K true)/\(¬((c.name.length:Int)>40)->P1 (IntKind.i64.wrap (k5+1)) m0 dh))/\(¬(k5<(dh.slots.length:Int))->IC PG K P0 i3 m0)
def IB(P0:Int->Zd->Prop)(i3:Int)(m0:Zd)(dh:Zz):Prop:=
  ∀P1:Int->Zd->Zz->Prop,(∀(k5:Int)(m0:Zd)(dh:Zz),tu PG K P1 P0 i3 k5 m0 dh->P1 k5 m0 dh)->P1 0 m0 dh
def IA(P0:Int->Zd->Prop)(i3:Int)(m0:Zd):Prop:=
  0<=i3/\∃c:Zz,m0.funcs[(i3).toNat]?=some c/\((c.name.length:Int)>40->K true)/\(¬((c.name.length:Int)>40)->((c.slots.length:Int)>30->K true)/\(¬((c.slots.length:Int)>30)->((c.code.length:Int)>300->K true)/\(¬((c.code.length:Int)>300)->IB PG K P0 i3 m0 c)))
def Ih(PG:Zb)(K:Bool->Prop)(m0:Zd):Prop:=
  K (decide ((m0.funcs.length:Int)>40))
def tr(P0:Int->Zd->Prop)(i3:Int)(m0:Zd):Prop:=
  (i3<(m0.funcs.length:Int)->(i3<=40->IA PG K P0 i3 m0)/\(¬(i3<=40)->Ih PG K m0))/\(¬(i3<(m0.funcs.length:Int))->Ih PG K m0)
def H_(m0:Zd):Prop:=
  ∀P0:Int->Zd->Prop,(∀(i3:Int)(m0:Zd),tr PG K P0 i3 m0->P0 i3 m0)->P0 0 m0
end
section
variable{K:Bool->Prop}(hQ:H1 AV.b 2 Q K)
variable{i3:Int}{m0:Zd}{P0:Int->Zd->Prop}{v0:Nat}{k5:Int}{dh:Zz}{P1:Int->Zd->Zz->Prop}{iz:Nat}
variable(bZ :∀(k5:Int)(m0:Zd)(dh:Zz),P1 k5 m0 dh->Yei PG d Q i3 k5 m0 dh)(H0:U 0=m0.av)(aD :∀(i3:Int)(m0:Zd),P0 i3 m0->Ygv PG d Q i3 m0)(H1:U 1=.p (d,0) v0 0)(H3:U 3=.i .i64 i3)(H4:U 4=.p (d,16389) iz 0)(H5:U 5=.i .i64 k5)(B0:lk st.bx (d,0)=some (v0,Zd.cs m0))(ja:lk st.bx (d,16389)=some (iz,Zz.cs dh))
include hQ aD H1 H3 B0 in
theorem Xp6(h:IC PG K P0 i3 m0):W PG d qf U st (Zk PG d (.loop Rw) (Zs 0 (Zk PG d Rv Q))):=
 au trivial
include hQ bZ aD H1 H3 H4 H5 B0 ja in
theorem Xjy(h:tu PG K P1 P0 i3 k5 m0 dh):W PG d xy U st (Zk PG d (.loop xy) (Zs 2 (Zs 1 (Zk PG d qf (Zk PG d (.loop Rw) (Zs 0 (Zk PG d Rv Q))))))):=
 au @Xp6
def Wc3(h:IB PG K P0 i3 m0 dh):W PG d Yd0 U st (Zs 1 (Zk PG d qf (Zk PG d (.loop Rw) (Zs 0 (Zk PG d Rv Q))))):=
 q_ J<|m_<|e_<|Yg<|h (Yei PG d Q i3) (fun _ _ _ hb _ _ _ _ H1 H3 H4 H5 B0 ja=>W.loop<|Xjy hQ (fun _ _ _ x=>x) aD H1 H3 H4 H5 B0 ja hb) _ _ _ _ H1 H3 H4 J B0 ja
def Ywk(h:IA PG K P0 i3 m0):W PG d Yje U st (Zk PG d (.loop Rw) (Zs 0 (Zk PG d Rv Q))):=
 Zl<|Yg<|Zl<|W.reg<|f_ H1<|l_ J (Zm J B0) J J<|m_<|h.2.elim fun o c=>Xy J H3 h.1 c.1 (Zz.row_eq o) J<|Xx J J J<|Xl<|Zy J (show lk _ (d,16389)=some (_,PN)from Zj) J J J<|e_<|Zl<|q_ J<|f_ J<|l_ J Zj J J<|Qb J<|b_ J J Jd<|Yt J<|Xe (g:=26) J (fun e=>z_ 11 J<|e_<|Xh J<|q_ J<|m_<|Zu<|hQ J<|c.2.1 e)<|fun e=>Zg J<|f_ J<|Zg J<|l_ J Zj J J<|Zg J<|Xq J<|Zg J<|b_ J J Jd<|z_ 2 J<|Xe (g:=32) J (fun j=>z_ 5 J<|e_<|Xh J<|q_ J<|m_<|Zu<|hQ J<|(c.2.2 e).1 j)<|fun j=>Zg J<|f_ J<|Zg J<|l_ J Zj J J<|Zg J<|Xq J<|Zg J<|b_ J J Jd<|Vt J J<|e_<|Yi J (fun k=>q_ J<|m_<|Zu<|hQ J<|((c.2.2 e).2 j).1 k)<|fun k=>Ya<|Wc3 hQ aD H1 H3 J (Zm J<|Zm J B0) Zj<|((c.2.2 e).2 j).2 k
include hQ H1 B0 in
theorem Xqy(h:Ih PG K m0):W PG d Rv U st Q:=
 au trivial
include hQ aD H1 H3 B0 in
theorem Yzh(h:tr PG K P0 i3 m0):W PG d Rw U st (Zk PG d (.loop Rw) (Zs 0 (Zk PG d Rv Q))):=
 au<|And.intro @Ywk @Xqy
def Xbv(h:H_ PG K m0):W PG d b79 U st Q:=
 q_ J<|Jw H0 J<|m_<|e_<|Zl<|q_ J<|m_<|e_<|Yg<|h (Ygv PG d Q ) (fun _ _ hb _ _ _ H1 H3 B0=>W.loop<|Yzh hQ (fun _ _ x=>x) H1 H3 B0 hb) _ _ _ J J Zj
end
def p79{PG:Zb}(hf:PG.fn 79=some sN){m0:Zd}{K:Bool->Prop}(h:H_ PG K m0):∃aa:Bool,K aa/\Ze PG 79 [m0.av] (.b aa):=
 P1 hf J<|Xbv (h1 J fun _=>J) J h
abbrev H80(Q:Q0)(K:Bool->Prop):Prop:=∀(U:Sl)(st:St)(aa:Bool),U 2=.b aa->K aa->Q .ret U st
section
variable{K:Bool->Prop}(hQ:H80 Q K)
end
abbrev H83(Q:Q0)(K:LB->Int->Prop):Prop:=∀(U:Sl)(st:St)(o0:Zr)(aa:LB)(ae:Int),U 6=.sl o0 (List.map Zv aa)->U 7=.i .i64 ae->K aa ae->Q .ret U st
section
variable{K:LB->Int->Prop}(hQ:H83 Q K)
end
abbrev xz:AC:= (.seq (sR 7 [oM 54 6,oF 55 3 5,oL 56 55,oJ 57 56,oT 58 .lss 54 57]<|cD 58 .skip<|.exit 0)<|.seq (.block 1<|sR 9 [oF 61 3 5,oL 62 61,oM 63 6,oX 64 2 62 63,oF 65 0 64,oL 66 65,oH 67 66,oV 68 .gtr 67 16]<|cD 68 (sR 10 [oI 4 8] .ret) .skip)<|.reg 8 [oM 59 6,oV 60 .add 59 1,oM 6 60])
abbrev xJ:AC:= (.seq (sR 12 [oM 69 7,oF 70 3 3,oL 71 70,oJ 72 71,oT 73 .lss 69 72]<|cD 73 .skip<|.exit 2)<|.seq (.block 3<|sR 14 [oF 76 3 3,oL 77 76,oM 78 7,oX 79 6 77 78,oK 80 6 79,oO 8<|.alloc eU,oS 6 8 80]<|sR 15 [oF 81 0 8,oL 82 81,oV 83 .lss 82 0,oM 84 83,gF 84<|oF 85 0 8,gF 84<|oL 86 85,gF 84<|oF 87 3 5,gF 84<|oL 88 87,gF 84<|oJ 89 88,gF 84<|oT 90 .geq 86 89,oR 91 84 90,oM 92 91,gF 92<|oM 93 7,gF 92<|oV 94 .gtr 93 0,gF 92<|oM 95 94,gT 95<|oF 96 3 3,gT 95<|oL 97 96,gT 95<|oM 98 7,gT 95<|oV 99 .sub 98 1,gT 95<|oX 100 6 97 99,gT 95<|oF 101 0 100,gT 95<|oL 102 101,gT 95<|oF 103 0 8,gT 95<|oL 104 103,gT 95<|oT 105 .geq 102 104,gF 92<|oA 106 95 105,oR 107 92 106,oM 108 107,gF 108<|oF 109 1 8,gF 108<|oK 110 5 109,gF 108<|oQ 111 77 [110],gF 108<|oV 112 .neq 111 0,oR 113 108 112]<|cD 113 (sR 16 [oI 4 8] .ret) .skip)<|.reg 13 [oM 74 7,oV 75 .add 74 1,oM 7 75])
abbrev xK:AC:= (sR 17 [oI 4 0] .ret)
abbrev xL:AC:= (.seq (sR 11 [oI 7 0]<|.block 2<|.loop xJ) xK)
abbrev Yqc:AC:= (.seq (sR 6 [oI 6 0]<|.block 0<|.loop xz) xL)
abbrev Ykm:AC:= (.seq (sR 4 [oF 31 3 5,oL 32 31,oJ 33 32,oV 34 .gtr 33 16,oM 35 34,gF 35<|oF 36 0 5,gF 35<|oL 37 36,gF 35<|oH 38 37,gF 35<|oV 39 .gtr 38 16,oR 40 35 39,oM 41 40,gF 41<|oF 42 1 3,gF 41<|oL 43 42,gF 41<|oV 44 .lss 43 0,oR 45 41 44,oM 46 45,gF 46<|oF 47 1 3,gF 46<|oL 48 47,gF 46<|oF 49 4 5,gF 46<|oL 50 49,gF 46<|oJ 51 50,gF 46<|oT 52 .geq 48 51,oR 53 46 52]<|cD 53 (sR 5 [oI 4 8] .ret) .skip) Yqc)
abbrev Ys8:AC:= (sR 3 [oF 25 2 2,oL 26 25,oF 27 0 3,oL 28 27,oX 29 7 26 28,oK 30 7 29,oO 5<|.alloc pS,oS 7 5 30] Ykm)
abbrev Yni:AC:= (.seq (sR 1 [oF 9 0 3,oL 10 9,oV 11 .lss 10 0,oM 12 11,gF 12<|oF 13 0 3,gF 12<|oL 14 13,gF 12<|oF 15 2 2,gF 12<|oL 16 15,gF 12<|oJ 17 16,gF 12<|oT 18 .geq 14 17,oR 19 12 18,oM 20 19,gF 20<|oF 21 2 3,gF 20<|oL 22 21,gF 20<|oB 23 .gtr (.t 22)<|.c<|.i .u64 3,oR 24 20 23]<|cD 24 (sR 2 [oI 4 8] .ret) .skip) Ys8)
abbrev b87:AC:= (sR 0 [oY 2 3 0,oY 3 4 1,oI 4 0] Yni)
def sQ:AF:= { nt:=114,res:=[.tmp 4],body:=b87 }
abbrev You(PG:Zb)(d:Nat)(Q:Q0)(i6:Int)(m1:Zf)(aq:Zz):Prop:=
  ∀(U:Sl)(st:St)(v1 ek:Nat),U 3=.p (d,1) v1 0->U 5=.p (d,12294) ek 0->U 6=.i .i64 i6->lk st.bx (d,1)=some (v1,Zf.cs m1)->lk st.bx (d,12294)=some (ek,Zz.cs aq)->W PG d (.loop xz) U st (Zs 0 (Zk PG d xL Q))
abbrev Yt3(PG:Zb)(d:Nat)(Q:Q0)(i7:Int)(m1:Zf)(aq:Zz):Prop:=
  ∀(U:Sl)(st:St)(v1 ek:Nat),U 3=.p (d,1) v1 0->U 5=.p (d,12294) ek 0->U 7=.i .i64 i7->lk st.bx (d,1)=some (v1,Zf.cs m1)->lk st.bx (d,12294)=some (ek,Zz.cs aq)->W PG d (.loop xJ) U st (Zs 2 (Zk PG d xK Q))
def HJ(PG:Zb)(K:Int->Prop):Prop:=
  K 0
section
variable(PG:Zb)(K:Int->Prop)
def tk(P1:Int->Zf->Zz->Prop)(i7:Int)(m1:Zf)(aq:Zz):Prop:=
  (i7<(m1.locals.length:Int)->0<=i7/\∃c:Zx,m1.locals[(i7).toNat]?=some c/\(c.slot<0->K 8)/\(¬(c.slot<0)->(c.slot>=(aq.slots.length:Int)->K 8)/\(¬(c.slot>=(aq.slots.length:Int))->(i7>0->0<=(IntKind.i64.wrap (i7-1))/\∃e:Zx,m1.locals[(IntKind.i64.wrap (i7-1)).toNat]?=some e/\(e.slot>=c.slot->K 8)/\(¬(e.slot>=c.slot)->∃k,Ze PG 77 [c.value.av] (.i .i64 k)/\(k≠0->K 8)/\(¬(k≠0)->P1 (IntKind.i64.wrap (i7+1)) m1 aq)))/\(¬(i7>0)->∃j,Ze PG 77 [c.value.av] (.i .i64 j)/\(j≠0->K 8)/\(¬(j≠0)->P1 (IntKind.i64.wrap (i7+1)) m1 aq)))))/\(¬(i7<(m1.locals.length:Int))->HJ PG K )
def HI(m1:Zf)(aq:Zz):Prop:=
  ∀P1:Int->Zf->Zz->Prop,(∀(i7:Int)(m1:Zf)(aq:Zz),tk PG K P1 i7 m1 aq->P1 i7 m1 aq)->P1 0 m1 aq
def tj(P0:Int->Zf->Zz->Prop)(i6:Int)(m1:Zf)(aq:Zz):Prop:=
  (i6<(aq.slots.length:Int)->0<=i6/\∃c:Xt,aq.slots[(i6).toNat]?=some c/\((c.name.length:Int)>16->K 8)/\(¬((c.name.length:Int)>16)->P0 (IntKind.i64.wrap (i6+1)) m1 aq))/\(¬(i6<(aq.slots.length:Int))->HI PG K m1 aq)
def HH(m1:Zf)(aq:Zz):Prop:=
  ∀P0:Int->Zf->Zz->Prop,(∀(i6:Int)(m1:Zf)(aq:Zz),tj PG K P0 i6 m1 aq->P0 i6 m1 aq)->P0 0 m1 aq
def HG(m1:Zf)(aq:Zz):Prop:=
  ((aq.slots.length:Int)>16->K 8)/\(¬((aq.slots.length:Int)>16)->((aq.name.length:Int)>16->K 8)/\(¬((aq.name.length:Int)>16)->(m1.pos<0->K 8)/\(¬(m1.pos<0)->(m1.pos>=(aq.code.length:Int)->K 8)/\(¬(m1.pos>=(aq.code.length:Int))->HH PG K m1 aq))))
def HE(m0:Zd)(m1:Zf):Prop:=
  0<=m1.func/\∃c,m0.funcs[(m1.func).toNat]?=some c/\HG PG K m1 c
def HC(m0:Zd)(m1:Zf):Prop:=
  (m1.func<0->K 8)/\(¬(m1.func<0)->(m1.func>=(m0.funcs.length:Int)->K 8)/\(¬(m1.func>=(m0.funcs.length:Int))->(m1.mode>3->K 8)/\(¬(m1.mode>3)->HE PG K m0 m1)))
def HB(m0:Zd)(x1:Zf):Prop:=
  HC PG K m0 x1
end
section
variable{K:Int->Prop}(hQ:H1 (AV.i .i64) 4 Q K)
variable{i7:Int}{m1:Zf}{aq:Zz}{P1:Int->Zf->Zz->Prop}{v1 ek:Nat}{i6:Int}{P0:Int->Zf->Zz->Prop}{m0:Zd}{v0:Nat}{x1:Zf}
variable(bZ :∀(i7:Int)(m1:Zf)(aq:Zz),P1 i7 m1 aq->Yt3 PG d Q i7 m1 aq)(aD :∀(i6:Int)(m1:Zf)(aq:Zz),P0 i6 m1 aq->You PG d Q i6 m1 aq)(H2:U 2=.p (d,0) v0 0)(H0:U 0=m0.av)(H3:U 3=.p (d,1) v1 0)(H1:U 1=x1.av)(H5:U 5=.p (d,12294) ek 0)(B0:lk st.bx (d,0)=some (v0,Zd.cs m0))(H7:U 7=.i .i64 i7)(H6:U 6=.i .i64 i6)(B1:lk st.bx (d,1)=some (v1,Zf.cs m1))(cq:lk st.bx (d,12294)=some (ek,Zz.cs aq))
include hQ in
theorem Xrh(h:HJ PG K):W PG d xK U st Q:=
 au trivial
include hQ bZ H3 H5 H7 B1 cq in
theorem Xqv(h:tk PG K P1 i7 m1 aq):W PG d xJ U st (Zk PG d (.loop xJ) (Zs 2 (Zk PG d xK Q))):=
 au @Xrh
def Xv4(h:HI PG K m1 aq):W PG d xL U st Q:=
 Zl<|q_ J<|m_<|e_<|Yg<|h (Yt3 PG d Q ) (fun _ _ _ hb _ _ _ _ H3 H5 H7 B1 cq=>W.loop<|Xqv hQ (fun _ _ _ x=>x) H3 H5 H7 B1 cq hb) _ _ _ _ H3 H5 J B1 cq
include hQ aD H3 H5 H6 B1 cq in
theorem Yyv(h:tj PG K P0 i6 m1 aq):W PG d xz U st (Zk PG d (.loop xz) (Zs 0 (Zk PG d xL Q))):=
 au @Xv4
def Xp7(h:HH PG K m1 aq):W PG d Yqc U st Q:=
 Zl<|q_ J<|m_<|e_<|Yg<|h (You PG d Q ) (fun _ _ _ hb _ _ _ _ H3 H5 H6 B1 cq=>W.loop<|Yyv hQ (fun _ _ _ x=>x) H3 H5 H6 B1 cq hb) _ _ _ _ H3 H5 J B1 cq
include hQ H3 H5 B1 cq in
theorem Xfh(h:HG PG K m1 aq):W PG d Ykm U st Q:=
 au @Xp7
include hQ H2 H3 B0 B1 in
theorem Xcp(h:HE PG K m0 m1):W PG d Ys8 U st Q:=
 au @Xfh
include hQ H2 H3 B0 B1 in
theorem Xti(h:HC PG K m0 m1):W PG d Yni U st Q:=
 au @Xcp
include hQ H0 H1 in
theorem Yxg(h:HB PG K m0 x1):W PG d b87 U st Q:=
 au @Xti
end
def p87{PG:Zb}(hf:PG.fn 87=some sQ){m0:Zd}{x1:Zf}{K:Int->Prop}(h:HB PG K m0 x1):∃aa:Int,K aa/\Ze PG 87 [m0.av,x1.av] (.i .i64 aa):=
 P1 hf J<|Yxg (h1 J fun _=>J) J J h
abbrev xM:AC:= (.seq (sR 4 [oM 41 9,oF 42 3 5,oL 43 42,oJ 44 43,oT 45 .lss 41 44]<|cD 45 .skip<|.exit 0)<|.seq (.block 1<|sR 6 [oF 48 3 5,oL 49 48,oM 50 9,oX 51 6 49 50,oK 52 6 51,oO 10<|.alloc eU,oS 6 10 52]<|.reg 7 [oM 53 8,oF 54 0 10,oL 55 54,oQ 56 137 [55],oB 57 .add (.c<|.s [32,32])<|.t 56,oB 58 .add (.t 57)<|.c<|.s [32],oF 59 3 7,oL 60 59,oF 61 0 10,oL 62 61,oX 63 2 60 62,oF 64 0 63,oL 65 64,oQ 66 31 [65],oT 67 .add 58 66,oB 68 .add (.t 67)<|.c<|.s [32,61,32],oF 69 1 10,oK 70 5 69,oQ 71 106 [70],oT 72 .add 68 71,oO 73<|.bslice [zs] 1 [(0,(.t 72))],oO 74<|.app 1 16 (.t 53)<|.t 73,oM 8 74])<|.reg 5 [oM 46 9,oV 47 .add 46 1,oM 9 47])
abbrev xN:AC:= (sR 8 [oM 75 8,oM 6 75] .ret)
abbrev Yis:AC:= (sR 2 [oM 17 1,oQ 18 137 [17],oB 19 .add (.c<|.s [35])<|.t 18,oB 20 .add (.t 19)<|.c<|.s [32],oF 21 0 5,oL 22 21,oQ 23 137 [22],oT 24 .add 20 23,oB 25 .add (.t 24)<|.c<|.s [32],oF 26 0 7,oL 27 26,oQ 28 31 [27],oT 29 .add 25 28,oB 30 .add (.t 29)<|.c<|.s mo,oF 31 1 5,oL 32 31,oQ 33 137 [32],oT 34 .add 30 33,oB 35 .add (.t 34)<|.c<|.s [32],oF 36 2 5,oL 37 36,oQ 38 138 [37],oT 39 .add 35 38,oO 40<|.bslice [zs] 1 [(0,(.t 39))],oM 8 40]<|.seq (sR 3 [oI 9 0]<|.block 0<|.loop xM) xN)
abbrev Ynx:AC:= (sR 1 [oF 11 2 3,oL 12 11,oF 13 0 5,oL 14 13,oX 15 7 12 14,oK 16 7 15,oO 7<|.alloc pS,oS 7 7 16] Yis)
abbrev Yft:AC:= (sR 0 [oY 3 3 0,oY 5 4 2,oC 6<|.sl .full []] Ynx)
def sV:AF:= { nt:=76,res:=[.tmp 6],body:=Yft }
abbrev Yqw(PG:Zb)(d:Nat)(Q:Q0)(bp:LB)(i9:Int)(m1:Zf)(fc:Zz):Prop:=
  ∀(U:Sl)(st:St)(da:Zr)(v1 jp:Nat),U 5=.p (d,1) v1 0->U 7=.p (d,4102) jp 0->U 8=.sl da (List.map Zv bp)->U 9=.i .i64 i9->Yo d st.ow da bp.length->lk st.bx (d,1)=some (v1,Zf.cs m1)->lk st.bx (d,4102)=some (jp,Zz.cs fc)->W PG d (.loop xM) U st (Zs 0 (Zk PG d xN Q))
def HW(PG:Zb)(K:LB->Prop)(bp:LB):Prop:=
  K bp
section
variable(PG:Zb)(K:LB->Prop)
def tp(P0:LB->Int->Zf->Zz->Prop)(bp:LB)(i9:Int)(m1:Zf)(fc:Zz):Prop:=
  (i9<(m1.locals.length:Int)->0<=i9/\∃j:Zx,m1.locals[(i9).toNat]?=some j/\∃c:BS,Ze PG 137 [.i .i64 j.slot] (.s c)/\([32,32]:BS).length+c.length<=Yj/\(([32,32]:BS)++c).length+([32]:BS).length<=Yj/\0<=j.slot/\∃o:Xt,fc.slots[(j.slot).toNat]?=some o/\∃e:BS,Ze PG 31 [.s o.name] (.s e)/\((([32,32]:BS)++c)++([32]:BS)).length+e.length<=Yj/\(((([32,32]:BS)++c)++([32]:BS))++e).length+([32,61,32]:BS).length<=Yj/\∃k:BS,Ze PG 106 [j.value.av] (.s k)/\((((([32,32]:BS)++c)++([32]:BS))++e)++([32,61,32]:BS)).length+k.length<=Yj/\Ju (bp.length+[(((((([32,32]:BS)++c)++([32]:BS))++e)++([32,61,32]:BS))++k)].length) 16/\P0 (bp++[(((((([32,32]:BS)++c)++([32]:BS))++e)++([32,61,32]:BS))++k)]) (IntKind.i64.wrap (i9+1)) m1 fc)/\(¬(i9<(m1.locals.length:Int))->HW PG K bp)
def HV(k1:Int)(m1:Zf)(fc:Zz):Prop:=
  ∃c:BS,Ze PG 137 [.i .i64 k1] (.s c)/\([35]:BS).length+c.length<=Yj/\(([35]:BS)++c).length+([32]:BS).length<=Yj/\∃e:BS,Ze PG 137 [.i .i64 m1.func] (.s e)/\((([35]:BS)++c)++([32]:BS)).length+e.length<=Yj/\(((([35]:BS)++c)++([32]:BS))++e).length+([32]:BS).length<=Yj/\∃j:BS,Ze PG 31 [.s fc.name] (.s j)/\((((([35]:BS)++c)++([32]:BS))++e)++([32]:BS)).length+j.length<=Yj/\(((((([35]:BS)++c)++([32]:BS))++e)++([32]:BS))++j).length+([32,97,116,32]:BS).length<=Yj/\∃k:BS,Ze PG 137 [.i .i64 m1.pos] (.s k)/\((((((([35]:BS)++c)++([32]:BS))++e)++([32]:BS))++j)++([32,97,116,32]:BS)).length+k.length<=Yj/\(((((((([35]:BS)++c)++([32]:BS))++e)++([32]:BS))++j)++([32,97,116,32]:BS))++k).length+([32]:BS).length<=Yj/\∃o:BS,Ze PG 138 [.i .u64 m1.mode] (.s o)/\((((((((([35]:BS)++c)++([32]:BS))++e)++([32]:BS))++j)++([32,97,116,32]:BS))++k)++([32]:BS)).length+o.length<=Yj/\∀P0:LB->Int->Zf->Zz->Prop,(∀(bp:LB)(i9:Int)(m1:Zf)(fc:Zz),tp PG K P0 bp i9 m1 fc->P0 bp i9 m1 fc)->P0 [(((((((((([35]:BS)++c)++([32]:BS))++e)++([32]:BS))++j)++([32,97,116,32]:BS))++k)++([32]:BS))++o)] 0 m1 fc
def HU(k1:Int)(m0:Zd)(m1:Zf):Prop:=
  0<=m1.func/\∃c,m0.funcs[(m1.func).toNat]?=some c/\HV PG K k1 m1 c
def HT(m0:Zd)(k1:Int)(x2:Zf):Prop:=
  HU PG K k1 m0 x2
end
section
variable{K:LB->Prop}(hQ:HL Zv 6 Q K)
variable{bp:LB}{da:Zr}{i9:Int}{m1:Zf}{fc:Zz}{P0:LB->Int->Zf->Zz->Prop}{v1 jp:Nat}{k1:Int}{m0:Zd}{v0:Nat}{x2:Zf}
variable(aD :∀(bp:LB)(i9:Int)(m1:Zf)(fc:Zz),P0 bp i9 m1 fc->Yqw PG d Q bp i9 m1 fc)(H0:U 0=m0.av)(H1:U 1=.i .i64 k1)(H3:U 3=.p (d,0) v0 0)(H2:U 2=x2.av)(H5:U 5=.p (d,1) v1 0)(H7:U 7=.p (d,4102) jp 0)(B0:lk st.bx (d,0)=some (v0,Zd.cs m0))(H8:U 8=.sl da (List.map Zv bp))(H9:U 9=.i .i64 i9)(A8:Yo d st.ow da bp.length)(B1:lk st.bx (d,1)=some (v1,Zf.cs m1))(it:lk st.bx (d,4102)=some (jp,Zz.cs fc))
include hQ H8 A8 in
theorem Xtb(h:HW PG K bp):W PG d xN U st Q:=
 au trivial
def Wav(h:tp PG K P0 bp i9 m1 fc):W PG d xM U st (Zk PG d (.loop xM) (Zs 0 (Zk PG d xN Q))):=
 Zl<|q_ J<|m_<|f_ H5<|l_ J B1 J J<|Xq J<|b_ H9 J Wp<|e_<|Yi J (fun k=>Ya<|Zl<|Yg<|Zl<|W.reg<|f_ H5<|l_ J (Zm J B1) J J<|m_<|(h.1 k).2.elim fun r o=>Xy J H9 (h.1 k).1 o.1 (Zx.row_eq r) J<|Xx J J J<|Xl<|Zy J (show lk _ (d,24581)=some (_,iN)from Zj) J J J<|e_<|W.reg0 J fun _ _=>Yf H8<|f_ J<|l_ J Zj J J<|o.2.elim fun x c=>Yh (Xu J J) c.1<|b_ J J (Xp c.2.1)<|b_ J J (Xp c.2.2.1)<|f_ H7<|l_ J (Zm J<|Zm J it) J J<|f_ J<|l_ J Zj J J<|c.2.2.2.2.elim fun u p=>Xy J J c.2.2.2.1 p.1 (Xt.row_eq u) J<|Do J<|Xx J J J<|p.2.elim fun y j=>Yh (Xu J J) j.1<|b_ J J (Xp j.2.1)<|b_ J J (Xp j.2.2.1)<|f_ J<|l_ J Zj J J<|j.2.2.2.elim fun w e=>Yh (Xu J J) e.1<|b_ J J (Xp e.2.1)<|Wr (f:=Zv) (l:=[(((((([32,32]:BS)++x)++([32]:BS))++y)++([32,61,32]:BS))++w)]) J J (Yl J J J Wi) J<|Jq Bs J J J A8.1 e.2.2.1 J<|fun _ _ q _ v=>Yf J<|e_<|W.reg0 J fun _ _=>m_<|b_ H9 J Vp<|m_<|e_<|aD _ _ _ _ e.2.2.2 _ _ _ _ _ H5 H7 J J (Yo.mk q<|Qy.app A8.2 J v) (Zm J<|Zm J B1)<|Zm J<|Zm J it)<|fun k=>Vg<|Xtb hQ H8 A8<|h.2 k
def Xnt(h:HV PG K k1 m1 fc):W PG d Yis U st Q:=
 q_ J<|m_<|h.elim fun o c=>Yh (Xu H1 J) c.1<|b_ J J (Xp c.2.1)<|b_ J J (Xp c.2.2.1)<|f_ H5<|l_ J B1 J J<|c.2.2.2.elim fun p e=>Yh (Xu J J) e.1<|b_ J J (Xp e.2.1)<|b_ J J (Xp e.2.2.1)<|f_ H7<|l_ J it J J<|e.2.2.2.elim fun q i=>Yh (Xu J J) i.1<|b_ J J (Xp i.2.1)<|b_ J J (Xp i.2.2.1)<|f_ H5<|l_ J B1 J J<|i.2.2.2.elim fun r j=>Yh (Xu J J) j.1<|b_ J J (Xp j.2.1)<|b_ J J (Xp j.2.2.1)<|f_ H5<|l_ J B1 J J<|j.2.2.2.elim fun s k=>Yh (Xu J J) k.1<|b_ J J (Xp k.2.1)<|Wr (f:=Zv) (l:=[(((((((((([35]:BS)++o)++([32]:BS))++p)++([32]:BS))++q)++(mo:BS))++r)++([32]:BS))++s)]) J J (Yl J J J Wi) J<|Yf J<|e_<|Zl<|q_ J<|m_<|e_<|Yg<|k.2.2 (Yqw PG d Q ) (fun _ _ _ _ hb _ _ _ _ _ H5 H7 H8 H9 A8 B1 it=>W.loop<|Wav hQ (fun _ _ _ _ x=>x) H5 H7 H8 H9 A8 B1 it hb) _ _ _ _ _ H5 H7 J J Yo.full B1 it
def Xva(h:HU PG K k1 m0 m1):W PG d Ynx U st Q:=
 Zl<|W.reg<|f_ H3<|l_ J (Zm J B0) J J<|f_ H5<|l_ J (Zm J B1) J J<|h.2.elim fun e c=>Xy J J h.1 c.1 (Zz.row_eq e) J<|Xx J J J<|Xl<|Zy J (show lk _ (d,4102)=some (_,PN)from Zj) J J J<|e_<|Xnt hQ H1 H5 J (Zm J<|Zm J B1) Zj c.2
include hQ H0 H1 H2 in
theorem Xwj(h:HT PG K m0 k1 x2):W PG d Yft U st Q:=
 au @Xva
def Yw9(hf:PG.fn 114=some sV)(h:HT PG K m0 k1 x2):∃aa:LB,K aa/\Ze PG 114 [m0.av,.i .i64 k1,x2.av] (.sl .ext (List.map Zv aa)):=
 P1 hf J<|Xwj (hL J) J J J h
end
abbrev Ynt:AC:= (sR 0 [oC 2<|.s []]<|sR 1 [oM 3 0,oQ 4 16 [3],oM 2 4] .ret)
def s7:AF:= { nt:=5,res:=[.tmp 2],body:=Ynt }
section
variable(PG:Zb)(K:BS->Prop)
def GK(n0:Int):Prop:=
  ∃c,Ze PG 16 [.i .i64 n0] (.s c)/\K c
end
section
variable{K:BS->Prop}(hQ:H1 AV.s 2 Q K)
variable{n0:Int}
variable(H0:U 0=.i .i64 n0)
include hQ H0 in
theorem Xne(h:GK PG K n0):W PG d Ynt U st Q:=
 au trivial
def Xyq(hf:PG.fn 137=some s7)(h:GK PG K n0):∃aa:BS,K aa/\Ze PG 137 [.i .i64 n0] (.s aa):=
 P1 hf J<|Xne (h1 J fun _=>J) J h
end
abbrev Yl1:AC:= (sR 0 [oC 2<|.s []]<|sR 1 [oO 4<|.bslice [zs] 4 [(0,(.c<|.s [99,97,108,108])),(1,(.c<|.s [100,101,102,101,114])),(2,(.c<|.s j_)),(3,(.c<|.s k_))],oM 3 4]<|sR 2 [oM 5 3,oM 6 0,oX 7 1 5 6,oL 8 7,oM 2 8] .ret)
def s9:AF:= { nt:=9,res:=[.tmp 2],body:=Yl1 }
def GN(PG:Zb)(K:BS->Prop)(m0:Int):Prop:=
  0<=m0/\∃c,[([99,97,108,108]:BS),([100,101,102,101,114]:BS),([112,97,110,105,99]:BS),([101,120,105,116]:BS)][(m0).toNat]?=some c/\K c
section
variable{K:BS->Prop}(hQ:H1 AV.s 2 Q K)
variable{m0:Int}
variable(H0:U 0=.i .u64 m0)
def Yy6(h:GN PG K m0):W PG d Yl1 U st Q:=
 q_ J<|m_<|e_<|q_ J<|Wr (f:=Zv) (l:=[([99,97,108,108]:BS),([100,101,102,101,114]:BS),(j_:BS),(k_:BS)]) J J (Yl J J J<|Yl J J J<|Yl J J J<|Yl J J J Wi) J<|Yf J<|e_<|q_ J<|Yf J<|m_<|h.2.elim fun _ c=>Xy J H0 h.1 c.1 J J<|Xx J J J<|m_<|Zu<|hQ J c.2
def Xni(hf:PG.fn 138=some s9)(h:GN PG K m0):∃aa:BS,K aa/\Ze PG 138 [.i .u64 m0] (.s aa):=
 P1 hf J<|Yy6 (h1 J fun _=>J) J h
end
abbrev b88:AC:= (sR 0 [oY 2 4 0,oY 3 4 1,oC 4<|.b false]<|sR 1 [oF 5 0 2,oL 6 5,oF 7 0 3,oL 8 7,oT 9 .eql 6 8,oM 10 9,gT 10<|oF 11 1 2,gT 10<|oL 12 11,gT 10<|oF 13 1 3,gT 10<|oL 14 13,gT 10<|oT 15 .eql 12 14,oA 16 10 15,oM 17 16,gT 17<|oF 18 2 2,gT 17<|oL 19 18,gT 17<|oF 20 2 3,gT 17<|oL 21 20,gT 17<|oT 22 .eql 19 21,oA 23 17 22,oM 24 23,gT 24<|oF 25 3 2,gT 24<|oL 26 25,gT 24<|oF 27 3 3,gT 24<|oL 28 27,gT 24<|oQ 29 124 [26,28],oA 30 24 29,oM 4 30] .ret)
def sS:AF:= { nt:=31,res:=[.tmp 4],body:=b88 }
section
variable(PG:Zb)(K:Bool->Prop)
def HZ(a0 b1:Zf):Prop:=
  (a0.func=b1.func->(a0.pos=b1.pos->(a0.mode=b1.mode->∃c,Ze PG 124 [.sl .ext (List.map Zx.row a0.locals),.sl .ext (List.map Zx.row b1.locals)] (.b c)/\K c)/\(¬(a0.mode=b1.mode)->K false))/\(¬(a0.pos=b1.pos)->K false))/\(¬(a0.func=b1.func)->K false)
end
section
variable{K:Bool->Prop}(hQ:H1 AV.b 4 Q K)
variable{a0 b1:Zf}
variable(H0:U 0=a0.av)(H1:U 1=b1.av)
include hQ H0 H1 in
theorem Xl5(h:HZ PG K a0 b1):W PG d b88 U st Q:=
 au trivial
def p88(hf:PG.fn 88=some sS)(h:HZ PG K a0 b1):∃aa:Bool,K aa/\Ze PG 88 [a0.av,b1.av] (.b aa):=
 P1 hf J<|Xl5 (h1 J fun _=>J) J J h
end
abbrev xO:AC:= (.seq (sR 4 [oM 11 5,oM 12 0,oJ 13 12,oT 14 .lss 11 13]<|cD 14 .skip<|.exit 0)<|.seq (.block 1<|sR 6 [oM 17 0,oM 18 5,oX 19 6 17 18,oF 20 0 19,oL 21 20,oM 22 1,oM 23 5,oX 24 6 22 23,oF 25 0 24,oL 26 25,oT 27 .neq 21 26,oM 28 27,gF 28<|oM 29 0,gF 28<|oM 30 5,gF 28<|oX 31 6 29 30,gF 28<|oF 32 1 31,gF 28<|oK 33 5 32,gF 28<|oM 34 1,gF 28<|oM 35 5,gF 28<|oX 36 6 34 35,gF 28<|oF 37 1 36,gF 28<|oK 38 5 37,gF 28<|oQ 39 78 [33,38],gF 28<|oZ 40 39,oR 41 28 40]<|cD 41 (sR 7 [oC 4<|.b false] .ret) .skip)<|.reg 5 [oM 15 5,oV 16 .add 15 1,oM 5 16])
abbrev xP:AC:= (sR 8 [oC 4<|.b true] .ret)
abbrev Yfv:AC:= (sR 0 [oC 4<|.b false]<|.seq (sR 1 [oM 6 0,oJ 7 6,oM 8 1,oJ 9 8,oT 10 .neq 7 9]<|cD 10 (sR 2 [oC 4<|.b false] .ret) .skip)<|.seq (sR 3 [oI 5 0]<|.block 0<|.loop xO) xP)
def s6:AF:= { nt:=42,res:=[.tmp 4],body:=Yfv }
abbrev Yp5(PG:Zb)(d:Nat)(Q:Q0)(a0 b1:List Zx)(i5:Int):Prop:=
  ∀(U:Sl)(st:St)(jb jc:Zr),U 0=.sl jb (List.map Zx.row a0)->U 1=.sl jc (List.map Zx.row b1)->U 5=.i .i64 i5->W PG d (.loop xO) U st (Zs 0 (Zk PG d xP Q))
def HY(PG:Zb)(K:Bool->Prop):Prop:=
  K true
section
variable(PG:Zb)(K:Bool->Prop)
def tq(P0:Int->Prop)(a0 b1:List Zx)(i5:Int):Prop:=
  (i5<(a0.length:Int)->0<=i5/\∃i:Zx,a0[(i5).toNat]?=some i/\0<=i5/\∃c:Zx,b1[(i5).toNat]?=some c/\(i.slot≠c.slot->K false)/\(¬(i.slot≠c.slot)->0<=i5/\∃k:Zx,a0[(i5).toNat]?=some k/\0<=i5/\∃j:Zx,b1[(i5).toNat]?=some j/\∃e,Ze PG 78 [k.value.av,j.value.av] (.b e)/\((!e)=true->K false)/\((!e)=false->P0 (IntKind.i64.wrap (i5+1)))))/\(¬(i5<(a0.length:Int))->HY PG K )
def HX(a0 b1:List Zx):Prop:=
  ((a0.length:Int)≠(b1.length:Int)->K false)/\(¬((a0.length:Int)≠(b1.length:Int))->∀P0:Int->Prop,(∀(i5:Int),tq PG K P0 a0 b1 i5->P0 i5)->P0 0)
end
section
variable{K:Bool->Prop}(hQ:H1 AV.b 4 Q K)
variable{a0 b1:List Zx}{i5:Int}{P0:Int->Prop}{jb jc:Zr}
variable(aD :∀(i5:Int),P0 i5->Yp5 PG d Q a0 b1 i5)(H0:U 0=.sl jb (List.map Zx.row a0))(H1:U 1=.sl jc (List.map Zx.row b1))(H5:U 5=.i .i64 i5)
include hQ in
theorem Xm7(h:HY PG K):W PG d xP U st Q:=
 au trivial
include hQ aD H0 H1 H5 in
theorem Xon(h:tq PG K P0 a0 b1 i5):W PG d xO U st (Zk PG d (.loop xO) (Zs 0 (Zk PG d xP Q))):=
 au @Xm7
def Xqk(h:HX PG K a0 b1):W PG d Yfv U st Q:=
 q_ J<|m_<|e_<|Zl<|q_ J<|Yf H0<|Xq J<|Yf H1<|Xq J<|b_ J J Vr<|e_<|Yi J (fun c=>q_ J<|m_<|Zu<|hQ J<|h.1 c)<|fun c=>Ya<|Zl<|q_ J<|m_<|e_<|Yg<|(h.2 c) (Yp5 PG d Q a0 b1) (fun _ hb _ _ _ _ H0 H1 H5=>W.loop<|Xon hQ (fun _ x=>x) H0 H1 H5 hb) _ _ _ _ H0 H1 J
def Xow(hf:PG.fn 124=some s6)(h:HX PG K a0 b1):∃aa:Bool,K aa/\Ze PG 124 [.sl .ext (List.map Zx.row a0),.sl .ext (List.map Zx.row b1)] (.b aa):=
 P1 hf J<|Xqk (h1 J fun _=>J) J J h
end
end Go.AM

namespace Go.AM
open Go
set_option maxRecDepth 4000
set_option maxHeartbeats 2000000
attribute [local irreducible] Decidable.decide W WO Ve Vd
variable{PG:Zb}{d:Nat}{Q:Q0}{U:Sl}{st:St}{Zp:St}
abbrev xQ:AC:= (.seq (sR 4 [oM 18 7,oM 19 1,oJ 20 19,oT 21 .lss 18 20]<|cD 21 .skip<|.exit 0)<|.seq (.block 1<|sR 6 [oM 24 1,oM 25 7,oX 26 1 24 25,oL 27 26,oH 28 27,oV 29 .gtr 28 1400060]<|cD 29 (sR 7 [oO 30<|.build cQ [],oI 4 0,oS 4 5 30,oI 6 4] .ret) .skip)<|.reg 5 [oM 22 7,oV 23 .add 22 1,oM 7 23])
abbrev xR:AC:= (.seq (sR 14 [oM 47 11,oM 48 1,oJ 49 48,oT 50 .lss 47 49]<|cD 50 .skip<|.exit 2)<|.seq (.block 3<|sR 16 [oF 54 2 2,oL 55 54,oF 56 0 9,oL 57 56,oX 58 7 55 57,oK 59 7 58,oM 60 1,oM 61 11,oX 62 1 60 61,oL 63 62,oQ 64 121 [59,63],oM 53 64,oE 65 0 53,oE 66 1 53,oO 12<|.alloc eU,oS 6 12 65,oM 13 66]<|.seq (sR 17 [oM 67 13,oZ 68 67]<|cD 68 (sR 18 [oO 69<|.build cQ [],oI 4 0,oS 4 5 69,oI 6 12] .ret) .skip)<|.reg 19 [oF 70 3 9,oL 71 70,oK 72 6 12,oO 73<|.bslice eU 1 [(0,(.t 72))],oO 74<|.app 6 72 (.t 71)<|.t 73,oF 75 3 9,oS 1 75 74])<|.reg 15 [oM 51 11,oV 52 .add 51 1,oM 11 52])
abbrev Ymw:AC:= (cD 88 (sR 21 [oO 89<|.build cQ [],oI 4 0,oS 4 5 89,oI 6 12] .ret) .skip)
abbrev QW:AC:= (sR 22 [oM 90 8,oK 91 4 9,oM 4 90,oS 4 5 91,oI 6 0] .ret)
abbrev xS:AC:= (.seq (sR 20 [oK 76 3 2,oK 77 4 9,oQ 78 87 [76,77],oV 79 .neq 78 0,oM 80 79,gF 80<|oK 81 3 2,gF 80<|oM 82 8,gF 80<|oK 83 4 9,gF 80<|oQ 84 114 [81,82,83],gF 80<|oM 85 1,gF 80<|oQ 86 29 [84,85],gF 80<|oZ 87 86,oR 88 80 87] Ymw) QW)
abbrev Yg4:AC:= (.seq (sR 11 [oM 44 10,oZ 45 44]<|cD 45 (sR 12 [oO 46<|.build cQ [],oI 4 0,oS 4 5 46,oI 6 12] .ret) .skip)<|.seq (sR 13 [oI 11 1]<|.block 2<|.loop xR) xS)
abbrev Ybb:AC:= (sR 10 [oK 36 3 2,oM 37 1,oO 38<|.iaL 1 (.t 37)<|.c<|.i .i64 0,oL 39 38,oP 40 120 [36,39],oM 35 40,oE 41 0 35,oE 42 1 35,oE 43 2 35,oO 9<|.alloc cQ,oM 8 41,oS 4 9 42,oM 10 43] Yg4)
abbrev xT:AC:= (.seq (sR 8 [oM 31 1,oJ 32 31,oV 33 .eql 32 0]<|cD 33 (sR 9 [oO 34<|.build cQ [],oI 4 0,oS 4 5 34,oI 6 12] .ret) .skip) Ybb)
abbrev Yf1:AC:= (.seq (sR 3 [oI 7 0]<|.block 0<|.loop xQ) xT)
abbrev Yrd:AC:= (.seq (sR 1 [oM 14 1,oJ 15 14,oV 16 .gtr 15 17]<|cD 16 (sR 2 [oO 17<|.build cQ [],oI 4 0,oS 4 5 17,oI 6 4] .ret) .skip) Yf1)
abbrev b85:AC:= (sR 0 [oY 2 3 0,oI 4 0,oO 5<|.alloc cQ,oI 6 0] Yrd)
def Ij:AF:= { nt:=92,res:=[.tmp 4,.cell 5 4 true,.tmp 6],body:=b85 }
abbrev H85(Q:Q0)(K:Int->Zf->Int->Prop):Prop:=∀(U:Sl)(st:St)(k1:Zt)(v1:Nat)(jv:Zr)(aa:Int)(ae:Zf)(be:Int),U 4=.i .i64 aa->U 5=.p k1 v1 0->lk st.bx k1=some (v1,Zf.co jv ae)->U 6=.i .i64 be->K aa ae be->Q .ret U st
abbrev Yoe(PG:Zb)(d:Nat)(Q:Q0)(l1:LB)(i7:Int)(m0:Zd)(m2:Zf):Prop:=
  ∀(U:Sl)(st:St)(jl gn:Zr)(v0 v2:Nat),U 1=.sl jl (List.map Zv l1)->U 2=.p (d,0) v0 0->U 5=.p (d,2) v2 0->U 7=.i .i64 i7->lk st.bx (d,0)=some (v0,Zd.cs m0)->lk st.bx (d,2)=some (v2,Zf.co gn m2)->W PG d (.loop xQ) U st (Zs 0 (Zk PG d xT Q))
abbrev Yms(PG:Zb)(d:Nat)(Q:Q0)(l1:LB)(k8 i11:Int)(m0:Zd)(m2 bw:Zf):Prop:=
  ∀(U:Sl)(st:St)(jl gn gc:Zr)(v0 v2 jh:Nat),U 1=.sl jl (List.map Zv l1)->U 2=.p (d,0) v0 0->U 5=.p (d,2) v2 0->U 8=.i .i64 k8->U 9=.p (d,40969) jh 0->U 11=.i .i64 i11->Yo d st.ow gc bw.locals.length->lk st.bx (d,0)=some (v0,Zd.cs m0)->lk st.bx (d,2)=some (v2,Zf.co gn m2)->lk st.bx (d,40969)=some (jh,Zf.co gc bw)->W PG d (.loop xR) U st (Zs 2 (Zk PG d xS Q))
def JS(PG:Zb)(K:Int->Zf->Int->Prop)(k8:Int)(m2 bw:Zf):Prop:=
  K k8 bw 0
section
variable(PG:Zb)(K:Int->Zf->Int->Prop)
def Ot(k8:Int)(t88:Bool)(m2 bw:Zf):Prop:=
  (t88=true->K 0 (Zf.mk 0 0 0 ([]:List Zx)) 12)/\(t88=false->JS PG K k8 m2 bw)
def JR(l1:LB)(k8:Int)(m0:Zd)(m2 bw:Zf):Prop:=
  ∃c,Ze PG 87 [m0.av,bw.av] (.i .i64 c)/\(c≠0->Ot PG K k8 true m2 bw)/\(¬(c≠0)->∃j,Ze PG 114 [m0.av,.i .i64 k8,bw.av] (.sl .ext (List.map Zv j))/\∃e,Ze PG 29 [.sl .ext (List.map Zv j),.sl .ext (List.map Zv l1)] (.b e)/\Ot PG K k8 (!e) m2 bw)
def tP(P1:Int->Zd->Zf->Zf->Prop)(l1:LB)(k8 i11:Int)(m0:Zd)(m2 bw:Zf):Prop:=
  (i11<(l1.length:Int)->0<=bw.func/\∃j:Zz,m0.funcs[(bw.func).toNat]?=some j/\0<=i11/\∃i,l1[(i11).toNat]?=some i/\∃e:Zx,∃c,Ze PG 121 [j.av,.s i] (.tup [e.av,.b c])/\((!c)=true->K 0 (Zf.mk 0 0 0 ([]:List Zx)) 12)/\((!c)=false->Ju (bw.locals.length+[e].length) 72/\P1 (IntKind.i64.wrap (i11+1)) m0 m2 (Zf.mk bw.func bw.pos bw.mode (bw.locals++[e]))))/\(¬(i11<(l1.length:Int))->JR PG K l1 k8 m0 m2 bw)
def JQ(l1:LB)(k8:Int)(ik:Bool)(m0:Zd)(m2 bw:Zf):Prop:=
  ((!ik)=true->K 0 (Zf.mk 0 0 0 ([]:List Zx)) 12)/\((!ik)=false->∀P1:Int->Zd->Zf->Zf->Prop,(∀(i11:Int)(m0:Zd)(m2 bw:Zf),tP PG K P1 l1 k8 i11 m0 m2 bw->P1 i11 m0 m2 bw)->P1 1 m0 m2 bw)
def JP(l1:LB)(m0:Zd)(m2:Zf):Prop:=
  ∃k,l1[0]?=some k/\∃e,∃c:Zf,∃j,(Ym PG 120 [m0.av,.s k] (fun r=>r=.tup [.i .i64 e,c.avo .full,.b j]))/\JQ PG K l1 e j m0 m2 c
def JO(l1:LB)(m0:Zd)(m2:Zf):Prop:=
  ((l1.length:Int)=0->K 0 (Zf.mk 0 0 0 ([]:List Zx)) 12)/\(¬((l1.length:Int)=0)->JP PG K l1 m0 m2)
def tO(P0:Int->Zd->Zf->Prop)(l1:LB)(i7:Int)(m0:Zd)(m2:Zf):Prop:=
  (i7<(l1.length:Int)->0<=i7/\∃c:BS,l1[(i7).toNat]?=some c/\((c.length:Int)>1400060->K 0 (Zf.mk 0 0 0 ([]:List Zx)) 4)/\(¬((c.length:Int)>1400060)->P0 (IntKind.i64.wrap (i7+1)) m0 m2))/\(¬(i7<(l1.length:Int))->JO PG K l1 m0 m2)
def JN(l1:LB)(m0:Zd)(m2:Zf):Prop:=
  ∀P0:Int->Zd->Zf->Prop,(∀(i7:Int)(m0:Zd)(m2:Zf),tO PG K P0 l1 i7 m0 m2->P0 i7 m0 m2)->P0 0 m0 m2
def JM(l1:LB)(m0:Zd)(m2:Zf):Prop:=
  ((l1.length:Int)>17->K 0 (Zf.mk 0 0 0 ([]:List Zx)) 4)/\(¬((l1.length:Int)>17)->JN PG K l1 m0 m2)
def JL(m0:Zd)(l1:LB):Prop:=
  JM PG K l1 m0 (Zf.mk 0 0 0 ([]:List Zx))
end
section
variable{K:Int->Zf->Int->Prop}(hQ:H85 Q K)
variable{k8:Int}{m2 bw:Zf}{gn gc:Zr}{v2 jh:Nat}{t88:Bool}{l1:LB}{m0:Zd}{jl:Zr}{v0:Nat}{i11:Int}{P1:Int->Zd->Zf->Zf->Prop}{ik:Bool}{i7:Int}{P0:Int->Zd->Zf->Prop}
variable(bZ :∀(i11:Int)(m0:Zd)(m2 bw:Zf),P1 i11 m0 m2 bw->Yms PG d Q l1 k8 i11 m0 m2 bw)(aD :∀(i7:Int)(m0:Zd)(m2:Zf),P0 i7 m0 m2->Yoe PG d Q l1 i7 m0 m2)(H0:U 0=m0.av)(H1:U 1=.sl jl (List.map Zv l1))(H2:U 2=.p (d,0) v0 0)(H5:U 5=.p (d,2) v2 0)(H8:U 8=.i .i64 k8)(H7:U 7=.i .i64 i7)(H9:U 9=.p (d,40969) jh 0)(H88:U 88=.b t88)(H11:U 11=.i .i64 i11)(aH:U 10=.b ik)(dz:Yo d st.ow gc bw.locals.length)(B0:lk st.bx (d,0)=some (v0,Zd.cs m0))(B2:lk st.bx (d,2)=some (v2,Zf.co gn m2))(eh:lk st.bx (d,40969)=some (jh,Zf.co gc bw))
include hQ H5 H8 H9 dz B2 eh in
theorem Xzh(h:JS PG K k8 m2 bw):W PG d QW U st Q:=
 au trivial
include hQ H5 H8 H9 H88 dz B2 eh in
theorem Yec(h:Ot PG K k8 t88 m2 bw):W PG d Ymw U st (Zk PG d QW Q):=
 au @Xzh
def Yxz(h:JR PG K l1 k8 m0 m2 bw):W PG d xS U st Q:=
 Zl<|q_ J<|l_ H2 B0 J J<|l_ H9 eh J J<|h.elim fun _ c=>Yh (Wk J J J) c.1<|b_ J J Vr<|Yt J<|Xe (g:=80) J (fun e=>z_ 8 J<|e_<|Yec hQ H5 H8 H9 J dz B2 eh<|c.2.1 e)<|fun e=>Zg J<|l_ H2 B0 J J<|Zg J<|Wc H8<|Zg J<|l_ H9 eh J J<|Zg J<|(c.2.2 e).elim fun _ i=>Yh (Iz J J J J) i.1<|Zg J<|Yf H1<|Zg J<|i.2.elim fun _ j=>Yh (Wk J J J) j.1<|Zg J<|Wa J<|Vt J J<|e_<|Yec hQ H5 H8 H9 J dz B2 eh j.2
def Xgw(h:tP PG K P1 l1 k8 i11 m0 m2 bw):W PG d xR U st (Zk PG d (.loop xR) (Zs 2 (Zk PG d xS Q))):=
 Zl<|q_ J<|m_<|Yf H1<|Xq J<|b_ H11 J Wp<|e_<|Yi J (fun e=>Ya<|Zl<|Yg<|Zl<|W.reg<|f_ H2<|l_ J (Zm J B0) J J<|f_ H9<|l_ J (Zm J eh) J J<|(h.1 e).2.elim fun q k=>Xy J J (h.1 e).1 k.1 (Zz.row_eq q) J<|Xx J J J<|Yf H1<|m_<|k.2.2.elim fun _ o=>Xy J H11 k.2.1 o.1 J J<|Xx J J J<|x2 o.2 fun u _ c=>Yh (Wk J J J) c.1<|m_<|x_ J J<|x_ J J<|Xl<|Zy J (show lk _ (d,65550)=some (_,iN)from Zj) J J J<|m_<|e_<|Zl<|q_ J<|m_<|Wa J<|e_<|Xw J (fun j=>q_ J<|Xb Yu<|m_<|Zy H5 (Zm J<|Zm J B2) J J J<|m_<|Zu<|hQ _ _ _ _ _ _ _ _ J H5 Zj J<|c.2.1 j)<|fun j=>Ya<|W.reg0 J fun _ _=>f_ H9<|l_ J (Zm J<|Zm J eh) J J<|l_ J Zj J J<|Wr (f:=Zx.row) (l:=[u]) J J (Yl J J J Wi) (by simp only[jB,yK,Zx.row_eq];rfl)<|Jq Zx.row_len J J J dz.1 (c.2.2 j).1 J<|fun _ _ p _ r=>f_ H9<|Zy J (Zm J<|Zm J eh) J J J<|e_<|W.reg0 J fun _ _=>m_<|b_ H11 J Vp<|m_<|e_<|bZ _ _ _ _ (c.2.2 j).2 _ _ _ _ _ _ _ _ H1 H2 H5 H8 H9 J (Yo.mk p<|Qy.app dz.2 J r) (Zm J<|Zm J<|Zm J B0) (Zm J<|Zm J<|Zm J B2) Zj)<|fun e=>Vg<|Yxz hQ H1 H2 H5 H8 H9 dz B0 B2 eh<|h.2 e
def Yx5(h:JQ PG K l1 k8 ik m0 m2 bw):W PG d Yg4 U st Q:=
 Zl<|q_ J<|m_<|Wa aH<|e_<|Xw J (fun c=>q_ J<|Xb Yu<|m_<|Zy H5 B2 J J J<|m_<|Zu<|hQ _ _ _ _ _ _ _ _ J H5 Zj J<|h.1 c)<|fun c=>Ya<|Zl<|q_ J<|m_<|e_<|Yg<|(h.2 c) (Yms PG d Q l1 k8) (fun _ _ _ _ hb _ _ _ _ _ _ _ _ H1 H2 H5 H8 H9 H11 dz B0 B2 eh=>W.loop<|Xgw hQ (fun _ _ _ _ x=>x) H1 H2 H5 H8 H9 H11 dz B0 B2 eh hb) _ _ _ _ _ _ _ _ H1 H2 H5 H8 H9 J dz B0 B2 eh
def Xot(h:JP PG K l1 m0 m2):W PG d Ybb U st Q:=
 Zl<|W.reg<|l_ H2 (Zm J B0) J J<|Yf H1<|h.elim fun _ e=>Xy J J (by decide) e.1 J J<|Xx J J J<|x2 e.2 fun _ _ k=>k.elim fun _ j=>Gm (Ye J<|Ye J Yw) (j.1)<|fun _ c=>m_<|x_ J J<|x_ J J<|x_ J J<|Xl<|m_<|Zy J ((c.1 (d,40969) (kG d) Kv).trans<|show lk _ (d,40969)=some (_,lW)from Zj) J J J<|m_<|e_<|Yx5 hQ H1 H2 H5 J J J Yo.full (Zm J<|(c.1 (d,0) (kG d) Kv).trans<|Zm J B0) (Zm J<|(c.1 (d,2) (kG d) Kv).trans<|Zm J B2) Zj j.2
def Xjd(h:JO PG K l1 m0 m2):W PG d xT U st Q:=
 Zl<|q_ J<|Yf H1<|Xq J<|b_ J J Xf<|e_<|Yi J (fun c=>q_ J<|Xb Yu<|m_<|Zy H5 B2 J J J<|m_<|Zu<|hQ _ _ _ _ _ _ _ _ J H5 Zj J<|h.1 c)<|fun c=>Ya<|Xot hQ H1 H2 H5 B0 B2<|h.2 c
include hQ aD H1 H2 H5 H7 B0 B2 in
theorem Xrg(h:tO PG K P0 l1 i7 m0 m2):W PG d xQ U st (Zk PG d (.loop xQ) (Zs 0 (Zk PG d xT Q))):=
 au @Xjd
def Xhp(h:JN PG K l1 m0 m2):W PG d Yf1 U st Q:=
 Zl<|q_ J<|m_<|e_<|Yg<|h (Yoe PG d Q l1) (fun _ _ _ hb _ _ _ _ _ _ H1 H2 H5 H7 B0 B2=>W.loop<|Xrg hQ (fun _ _ _ x=>x) H1 H2 H5 H7 B0 B2 hb) _ _ _ _ _ _ H1 H2 H5 J B0 B2
include hQ H1 H2 H5 B0 B2 in
theorem Xxx(h:JM PG K l1 m0 m2):W PG d Yrd U st Q:=
 au @Xhp
include hQ H0 H1 in
theorem Xp8(h:JL PG K m0 l1):W PG d b85 U st Q:=
 au @Xxx
theorem p85(hf:PG.fn 85=some Ij)(h:JL PG K m0 l1):∃aa:Int,∃ae:Zf,∃be:Int,K aa ae be/\Ze PG 85 [m0.av,.sl .ext (List.map Zv l1)] (.tup [.i .i64 aa,ae.av,.i .i64 be]):=by
  obtain⟨v,hv,aa,ae,be,hk,rfl⟩:=Ze.of (K:=fun v=>∃aa:Int,∃ae:Zf,∃be:Int,K aa ae be/\v=.tup [.i .i64 aa,ae.av,.i .i64 be]) hf rfl (Xp8 (U:=Wg [m0.av,.sl .ext (List.map Zv l1)]) (fun U st k1 v1 jv aa ae be H4 H5 mc H6 hk=>⟨.tup [.i .i64 aa,ae.avo jv,.i .i64 be],by simp only[Ij,Xj,Wz,H4,Jc (n:=4) H5 mc rfl,H6,Km,kK],_,rfl,aa,ae,be,hk,rfl⟩) rfl rfl h)
  exact⟨aa,ae,be,hk,hv⟩
end
abbrev Yun:AC:= (cD 53 (sR 9 [oK 54 4 7,oI 4 0,oS 4 5 54,oC 6<|.b false] .ret) .skip)
abbrev Ysm:AC:= (cD 88 (sR 13 [oK 89 4 7,oI 4 0,oS 4 5 89,oC 6<|.b false] .ret) .skip)
abbrev xU:AC:= (.seq (sR 15 [oM 90 14,oB 91 .lss (.t 90)<|.c<|.i .u64 4]<|cD 91 .skip<|.exit 0)<|.seq (.block 1<|sR 17 [oM 94 1,oM 95 14,oQ 96 138 [95],oB 97 .add (.c<|.s [32])<|.t 96,oT 98 .eql 94 97]<|cD 98 (sR 18 [oM 99 9,oM 100 11,oM 101 13,oM 102 14,oO 103<|.build cQ [(0,1,(.t 100)),(1,1,(.t 101)),(2,1,(.t 102))],oM 4 99,oS 4 5 103,oC 6<|.b true] .ret) .skip)<|.reg 16 [oM 92 14,oB 93 .add (.t 92)<|.c<|.i .u64 1,oM 14 93])
abbrev xV:AC:= (sR 19 [oK 104 4 7,oI 4 0,oS 4 5 104,oC 6<|.b false] .ret)
abbrev QX:AC:= (.seq (sR 14 [oC 14<|.i .u64 0]<|.block 0<|.loop xU) xV)
abbrev QY:AC:= (sR 10 [oM 56 1,oF 57 2 2,oL 58 57,oM 59 11,oX 60 7 58 59,oF 61 0 60,oL 62 61,oQ 63 31 [62],oB 64 .add (.c<|.s [32])<|.t 63,oB 65 .add (.t 64)<|.c<|.s mo,oQ 66 142 [56,65],oM 55 66,oE 67 0 55,oE 68 1 55,oM 1 67,oM 8 68]<|sR 11 [oM 70 1,oF 71 2 2,oL 72 71,oM 73 11,oX 74 7 72 73,oF 75 4 74,oL 76 75,oJ 77 76,oV 78 .sub 77 1,oQ 79 143 [70,78],oM 69 79,oE 80 0 69,oE 81 1 69,oE 82 2 69,oM 13 80,oM 1 81,oM 10 82]<|.seq (sR 12 [oM 83 8,oZ 84 83,oM 85 84,gF 85<|oM 86 10,gF 85<|oZ 87 86,oR 88 85 87] Ysm) QX)
abbrev Yu0:AC:= (.seq (sR 8 [oM 44 8,oZ 45 44,oM 46 45,gF 46<|oM 47 10,gF 46<|oZ 48 47,oR 49 46 48,oM 50 49,gF 50<|oM 51 12,gF 50<|oZ 52 51,oR 53 50 52] Yun) QY)
abbrev Yra:AC:= (sR 7 [oM 35 1,oF 36 2 2,oL 37 36,oJ 38 37,oV 39 .sub 38 1,oQ 40 143 [35,39],oM 34 40,oE 41 0 34,oE 42 1 34,oE 43 2 34,oM 11 41,oM 1 42,oM 12 43] Yu0)
abbrev Ynj:AC:= (sR 6 [oM 30 1,oO 31<|.call false 142 [(.t 30),(.c<|.s [32])],oM 29 31,oE 32 0 29,oE 33 1 29,oM 1 32,oM 10 33] Yra)
abbrev Yjx:AC:= (sR 5 [oM 24 1,oO 25<|.call false 143 [(.t 24),(.c<|.i .i64 169)],oM 23 25,oE 26 0 23,oE 27 1 23,oE 28 2 23,oM 9 26,oM 1 27,oM 8 28] Ynj)
abbrev Ye0:AC:= (.seq (sR 3 [oM 20 8,oZ 21 20]<|cD 21 (sR 4 [oK 22 4 7,oI 4 0,oS 4 5 22,oC 6<|.b false] .ret) .skip) Yjx)
abbrev Ytv:AC:= (sR 2 [oM 16 1,oO 17<|.call false 142 [(.t 16),(.c<|.s [35])],oM 15 17,oE 18 0 15,oE 19 1 15,oM 1 18,oM 8 19] Ye0)
abbrev Yjm:AC:= (sR 1 [oO 7<|.alloc cQ] Ytv)
abbrev Yfr:AC:= (sR 0 [oY 2 3 0,oI 4 0,oO 5<|.alloc cQ,oC 6<|.b false] Yjm)
def Ef:AF:= { nt:=105,res:=[.tmp 4,.cell 5 4 true,.tmp 6],body:=Yfr }
abbrev Xkw(d:Nat)(Zp:St)(Q:Q0)(K:Int->Zf->Bool->Prop):Prop:=∀(U:Sl)(st:St)(k1:Zt)(v1:Nat)(aa:Int)(ae:Zf)(be:Bool),U 4=.i .i64 aa->U 5=.p k1 v1 0->lk st.bx k1=some (v1,Zf.co .full ae)->U 6=.b be->Fr d (d,0) Zp.bx Zp.ow st.bx st.ow->K aa ae be->Q .ret U st
abbrev Yoo(PG:Zb)(d:Nat)(Q:Q0)(Zp:St)(s1:BS)(k9 f11 ip i14:Int)(m2 af:Zf):Prop:=
  ∀(U:Sl)(st:St)(v2 dp:Nat),U 1=.s s1->U 5=.p (d,2) v2 0->U 7=.p (d,4096) dp 0->U 9=.i .i64 k9->U 11=.i .i64 f11->U 13=.i .i64 ip->U 14=.i .u64 i14->lk st.bx (d,2)=some (v2,Zf.co .full m2)->lk st.bx (d,4096)=some (dp,Zf.co .full af)->Fr d (d,0) Zp.bx Zp.ow st.bx st.ow->W PG d (.loop xU) U st (Zs 0 (Zk PG d xV Q))
def I6(PG:Zb)(K:Int->Zf->Bool->Prop)(m2 af:Zf):Prop:=
  K 0 af false
section
variable(PG:Zb)(K:Int->Zf->Bool->Prop)
def tI(P0:Int->Zf->Zf->Prop)(s1:BS)(k9 f11 ip i14:Int)(m2 af:Zf):Prop:=
  (i14<4->∃c:BS,Ze PG 138 [.i .u64 i14] (.s c)/\([32]:BS).length+c.length<=Yj/\(s1=(([32]:BS)++c)->K k9 (Zf.mk f11 ip i14 ([]:List Zx)) true)/\(¬(s1=(([32]:BS)++c))->P0 (IntKind.u64.wrap (i14+1)) m2 af))/\(¬(i14<4)->I6 PG K m2 af)
def I5(s1:BS)(k9 f11 ip:Int)(m2 af:Zf):Prop:=
  ∀P0:Int->Zf->Zf->Prop,(∀(i14:Int)(m2 af:Zf),tI PG K P0 s1 k9 f11 ip i14 m2 af->P0 i14 m2 af)->P0 0 m2 af
def tH(s1:BS)(k9 f11 ip:Int)(t88:Bool)(m2 af:Zf):Prop:=
  (t88=true->K 0 af false)/\(t88=false->I5 PG K s1 k9 f11 ip m2 af)
def I4(s1:BS)(k9 f11:Int)(m0:Zd)(m2 af:Zf):Prop:=
  0<=f11/\∃r:Zz,m0.funcs[(f11).toNat]?=some r/\∃c:BS,Ze PG 31 [.s r.name] (.s c)/\([32]:BS).length+c.length<=Yj/\(([32]:BS)++c).length+([32,97,116,32]:BS).length<=Yj/\∃p k,Ze PG 142 [.s s1,.s ((([32]:BS)++c)++([32,97,116,32]:BS))] (.tup [.s p,.b k])/\0<=f11/\∃o:Zz,m0.funcs[(f11).toNat]?=some o/\∃j e q,Ze PG 143 [.s p,.i .i64 (IntKind.i64.wrap ((o.code.length:Int)-1))] (.tup [.i .i64 j,.s e,.b q])/\((!k)=true->tH PG K e k9 f11 j true m2 af)/\((!k)=false->tH PG K e k9 f11 j (!q) m2 af)
def og(s1:BS)(k9 f11:Int)(t53:Bool)(m0:Zd)(m2 af:Zf):Prop:=
  (t53=true->K 0 af false)/\(t53=false->I4 PG K s1 k9 f11 m0 m2 af)
def I3(s1:BS)(bS:Bool)(k9:Int)(js:Bool)(f11:Int)(kc:Bool)(m0:Zd)(m2 af:Zf):Prop:=
  ((!bS)=true->og PG K s1 k9 f11 true m0 m2 af)/\((!bS)=false->((!js)=true->og PG K s1 k9 f11 true m0 m2 af)/\((!js)=false->og PG K s1 k9 f11 (!kc) m0 m2 af))
def I2(s1:BS)(bS:Bool)(k9:Int)(js:Bool)(m0:Zd)(m2 af:Zf):Prop:=
  ∃c j e,Ze PG 143 [.s s1,.i .i64 (IntKind.i64.wrap ((m0.funcs.length:Int)-1))] (.tup [.i .i64 c,.s j,.b e])/\I3 PG K j bS k9 js c e m0 m2 af
def I1(s1:BS)(bS:Bool)(k9:Int)(m0:Zd)(m2 af:Zf):Prop:=
  ∃c e,Ze PG 142 [.s s1,.s ([32]:BS)] (.tup [.s c,.b e])/\I2 PG K c bS k9 e m0 m2 af
def I0(s1:BS)(m0:Zd)(m2 af:Zf):Prop:=
  ∃c j e,Ze PG 143 [.s s1,.i .i64 169] (.tup [.i .i64 c,.s j,.b e])/\I1 PG K j e c m0 m2 af
def IZ(s1:BS)(bS:Bool)(m0:Zd)(m2 af:Zf):Prop:=
  ((!bS)=true->K 0 af false)/\((!bS)=false->I0 PG K s1 m0 m2 af)
def IY(s1:BS)(m0:Zd)(m2 af:Zf):Prop:=
  ∃c e,Ze PG 142 [.s s1,.s ([35]:BS)] (.tup [.s c,.b e])/\IZ PG K c e m0 m2 af
def IX(s1:BS)(m0:Zd)(m2:Zf):Prop:=
  IY PG K s1 m0 m2 (Zf.mk 0 0 0 ([]:List Zx))
def IW(m0:Zd)(s1:BS):Prop:=
  IX PG K s1 m0 (Zf.mk 0 0 0 ([]:List Zx))
end
section
variable{K:Int->Zf->Bool->Prop}(hQ:Xkw d Zp Q K)
variable{m2 af:Zf}{v2 dp:Nat}{s1:BS}{k9 f11 ip i14:Int}{P0:Int->Zf->Zf->Prop}{t88:Bool}{m0:Zd}{v0:Nat}{t53 bS js kc:Bool}
variable(aD :∀(i14:Int)(m2 af:Zf),P0 i14 m2 af->Yoo PG d Q Zp s1 k9 f11 ip i14 m2 af)(H0:U 0=m0.av)(H1:U 1=.s s1)(H2:U 2=.p (d,0) v0 0)(H5:U 5=.p (d,2) v2 0)(H7:U 7=.p (d,4096) dp 0)(H8:U 8=.b bS)(H9:U 9=.i .i64 k9)(aH:U 10=.b js)(H11:U 11=.i .i64 f11)(d_:U 13=.i .i64 ip)(QJ:U 53=.b t53)(bT:U 12=.b kc)(eV:U 14=.i .u64 i14)(H88:U 88=.b t88)(B0:lk st.bx (d,0)=some (v0,Zd.cs m0))(B2:lk st.bx (d,2)=some (v2,Zf.co .full m2))(bh:lk st.bx (d,4096)=some (dp,Zf.co .full af))(FR:Fr d (d,0) Zp.bx Zp.ow st.bx st.ow)
include hQ H5 H7 B2 bh FR in
theorem Ywq(h:I6 PG K m2 af):W PG d xV U st Q:=
 au trivial
def Wcb(h:tI PG K P0 s1 k9 f11 ip i14 m2 af):W PG d xU U st (Zk PG d (.loop xU) (Zs 0 (Zk PG d xV Q))):=
 Zl<|q_ J<|m_<|b_ eV J Wp<|e_<|Yi J (fun e=>Ya<|Zl<|Yg<|q_ J<|m_<|m_<|(h.1 e).elim fun _ c=>Yh (Xu eV J) c.1<|b_ J J (Xp c.2.1)<|b_ H1 J Bf<|e_<|Yi J (fun i=>q_ J<|m_<|m_<|m_<|m_<|Xb (Yr H11 J<|Yr d_ J<|Yr eV J Yu)<|m_<|Zy H5 B2 J J J<|m_<|Zu<|hQ _ _ _ _ _ _ _ H9 H5 Zj J (Fr.box FR)<|c.2.2.1 i)<|fun i=>Ya<|W.reg0 J fun _ _=>m_<|b_ eV J Vp<|m_<|e_<|aD _ _ _ (c.2.2.2 i) _ _ _ _ H1 H5 H7 H9 H11 d_ J B2 bh FR)<|fun e=>Vg<|Ywq hQ H5 H7 B2 bh FR<|h.2 e
def Xse(h:I5 PG K s1 k9 f11 ip m2 af):W PG d QX U st Q:=
 Zl<|q_ J<|m_<|e_<|Yg<|h (Yoo PG d Q Zp s1 k9 f11 ip) (fun _ _ _ hb _ _ _ _ H1 H5 H7 H9 H11 d_ eV B2 bh FR=>W.loop<|Wcb hQ (fun _ _ _ x=>x) H1 H5 H7 H9 H11 d_ eV B2 bh FR hb) _ _ _ _ H1 H5 H7 H9 H11 d_ J B2 bh FR
include hQ H1 H5 H7 H9 H11 d_ H88 B2 bh FR in
theorem Yf9(h:tH PG K s1 k9 f11 ip t88 m2 af):W PG d Ysm U st (Zk PG d QX Q):=
 au @Xse
def Xk6(h:I4 PG K s1 k9 f11 m0 m2 af):W PG d QY U st Q:=
 q_ J<|m_<|f_ H2<|l_ J B0 J J<|m_<|h.2.elim fun p k=>Xy J H11 h.1 k.1 (Zz.row_eq p) J<|Do J<|Xx J J J<|k.2.elim fun _ c=>Yh (Xu J J) c.1<|b_ J J (Xp c.2.1)<|b_ J J (Xp c.2.2.1)<|x2 c.2.2.2 fun _ _ i=>Yh (Wk H1 J J) i.1<|m_<|x_ J J<|x_ J J<|m_<|m_<|e_<|q_ J<|m_<|f_ H2<|l_ J B0 J J<|m_<|i.2.2.elim fun q o=>Xy J H11 i.2.1 o.1 (Zz.row_eq q) J<|Do J<|Xx J J J<|Xq J<|b_ J J Ms<|x2 o.2 fun _ _ r=>r.elim fun _ e=>Yh (Wk J J J) e.1<|m_<|x_ J J<|x_ J J<|x_ J J<|m_<|m_<|m_<|e_<|Zl<|q_ J<|Yt J<|Wa J<|Yt J<|Ql (g:=85) J (fun j=>z_ 3 J<|e_<|Yf9 hQ J H5 H7 H9 H11 J J B2 bh FR<|e.2.1 j)<|fun j=>Zg J<|Yt J<|Zg J<|Wa J<|Vt J J<|e_<|Yf9 hQ J H5 H7 H9 H11 J J B2 bh FR<|e.2.2 j
def QZ(h:og PG K s1 k9 f11 t53 m0 m2 af):W PG d Yun U st (Zk PG d QY Q):=
 Xw QJ (fun c=>q_ J<|l_ H7 bh J J<|m_<|Zy H5 B2 J J J<|m_<|Zu<|hQ _ _ _ _ _ _ _ J H5 Zj J (Fr.box FR)<|h.1 c)<|fun c=>Ya<|Xk6 hQ H1 H2 H5 H7 H9 H11 B0 B2 bh FR<|h.2 c
def Xpx(h:I3 PG K s1 bS k9 js f11 kc m0 m2 af):W PG d Yu0 U st Q:=
 Zl<|q_ J<|Yt H8<|Wa J<|Yt J<|Ql (g:=46) J (fun c=>z_ 7 J<|e_<|QZ hQ H1 H2 H5 H7 H9 H11 J B0 B2 bh FR<|h.1 c)<|fun c=>Zg J<|Yt aH<|Zg J<|Wa J<|z_ 2 J<|Ql (g:=50) J (fun e=>z_ 3 J<|e_<|QZ hQ H1 H2 H5 H7 H9 H11 J B0 B2 bh FR<|(h.2 c).1 e)<|fun e=>Zg J<|Yt bT<|Zg J<|Wa J<|Vt J J<|e_<|QZ hQ H1 H2 H5 H7 H9 H11 J B0 B2 bh FR<|(h.2 c).2 e
include hQ H1 H2 H5 H7 H8 H9 aH B0 B2 bh FR in
theorem Xl0(h:I2 PG K s1 bS k9 js m0 m2 af):W PG d Yra U st Q:=
 au @Xpx
def Xz7(h:I1 PG K s1 bS k9 m0 m2 af):W PG d Ynj U st Q:=
 q_ J<|m_<|x2 h fun _ _ c=>Yh (Wk H1 J J) c.1<|m_<|x_ J J<|x_ J J<|m_<|m_<|e_<|Xl0 hQ J H2 H5 H7 H8 H9 J B0 B2 bh FR c.2
def Wa5(h:I0 PG K s1 m0 m2 af):W PG d Yjx U st Q:=
 q_ J<|m_<|x2 h fun _ _ e=>e.elim fun _ c=>Yh (Wk H1 J J) c.1<|m_<|x_ J J<|x_ J J<|x_ J J<|m_<|m_<|m_<|e_<|Xz7 hQ J H2 H5 H7 J J B0 B2 bh FR c.2
def Xno(h:IZ PG K s1 bS m0 m2 af):W PG d Ye0 U st Q:=
 Zl<|q_ J<|m_<|Wa H8<|e_<|Xw J (fun c=>q_ J<|l_ H7 bh J J<|m_<|Zy H5 B2 J J J<|m_<|Zu<|hQ _ _ _ _ _ _ _ J H5 Zj J (Fr.box FR)<|h.1 c)<|fun c=>Ya<|Wa5 hQ H1 H2 H5 H7 B0 B2 bh FR<|h.2 c
include hQ H1 H2 H5 H7 B0 B2 bh FR in
theorem Xnb(h:IY PG K s1 m0 m2 af):W PG d Ytv U st Q:=
 au @Xno
def Xo0(h:IX PG K s1 m0 m2):W PG d Yjm U st Q:=
 Zl<|W.reg<|Xl<|e_<|Xnb (af:=(Zf.mk 0 0 0 ([]:List Zx))) hQ H1 H2 H5 J (Zm J B0) (Zm J B2) (show lk _ (d,4096)=some (_,lW)from Zj) (Fr.box FR) h
def Xjg(h:IW PG K m0 s1):W PG d Yfr U st Q:=
 Zl<|W.reg<|Jw H0 J<|m_<|Xl<|m_<|e_<|Xo0 (m2:=(Zf.mk 0 0 0 ([]:List Zx))) hQ H1 J J Zj (Zm J<|show lk _ (d,2)=some (_,lW)from Zj) (Fr.box<|Fr.box FR) h
def Xjo(hf:PG.fn 120=some Ef)(h:IW PG K m0 s1):Ym PG 120 [m0.av,.s s1] (fun r=>∃aa:Int,∃ae:Zf,∃be:Bool,(r=.tup [.i .i64 aa,ae.avo .full,.b be])/\K aa ae be):=
  Ym.of hf rfl fun d st=>Xjg (Zp:=st) (Q:=fun e U aA=>(e=.normal\/e=.ret)/\∃r,Xj U aA Ef.res=some r/\_/\Fr d (d,0) st.bx st.ow aA.bx aA.ow) (fun U aA k1 v1  aa ae be H4 H5 mc H6 hf hk=>⟨.inr rfl,.tup [.i .i64 aa,ae.avo .full,.b be],by simp only[Ef,Xj,Wz,H4,Jc (n:=4) H5 mc rfl,H6,Km,kK],⟨aa,ae,be,rfl,hk⟩,hf⟩) (U:=Wg [m0.av,.s s1]) rfl rfl Fr.refl h
end
abbrev Ygu:AC:= (sR 5 [oM 34 1,oF 35 3 2,oL 36 35,oM 37 7,oX 38 2 36 37,oF 39 0 38,oL 40 39,oQ 41 31 [40],oB 42 .add (.c<|.s [32])<|.t 41,oB 43 .add (.t 42)<|.c<|.s [32,61,32],oQ 44 142 [34,43],oM 33 44,oE 45 0 33,oE 46 1 33,oM 1 45,oM 6 46]<|sR 6 [oM 48 1,oQ 49 75 [48],oM 47 49,oE 50 0 47,oE 51 1 47,oO 9<|.alloc aX,oS 5 9 50,oM 10 51]<|sR 7 [oM 52 7,oK 53 5 9,oO 54<|.build eU [(0,1,(.t 52)),(1,5,(.t 53))],oM 55 6,oM 56 55,gT 56<|oM 57 10,gT 56<|oV 58 .eql 57 0,oA 59 56 58,oS 6 4 54,oM 5 59] .ret)
abbrev Yqk:AC:= (sR 1 [oM 12 1,oO 13<|.call false 142 [(.t 12),(.c<|.s [32,32])],oM 11 13,oE 14 0 11,oE 15 1 11,oM 1 14,oM 6 15]<|sR 2 [oM 17 1,oF 18 3 2,oL 19 18,oJ 20 19,oV 21 .sub 20 1,oQ 22 143 [17,21],oM 16 22,oE 23 0 16,oE 24 1 16,oE 25 2 16,oM 7 23,oM 1 24,oM 8 25]<|.seq (sR 3 [oM 26 6,oZ 27 26,oM 28 27,gF 28<|oM 29 8,gF 28<|oZ 30 29,oR 31 28 30]<|cD 31 (sR 4 [oO 32<|.build eU [],oS 6 4 32,oC 5<|.b false] .ret) .skip) Ygu)
abbrev Ytk:AC:= (sR 0 [oY 2 7 0,oO 4<|.alloc eU,oC 5<|.b false] Yqk)
def od:AF:= { nt:=60,res:=[.cell 4 6 true,.tmp 5],body:=Ytk }
abbrev Xsa(Q:Q0)(K:Zx->Bool->Prop):Prop:=∀(U:Sl)(st:St)(k0:Zt)(v0:Nat)(cc:Zr)(aa:Zx)(ae:Bool),U 4=.p k0 v0 0->lk st.bx k0=some (v0,Zx.co cc aa)->U 5=.b ae->K aa ae->Q .ret U st
section
variable(PG:Zb)(K:Zx->Bool->Prop)
def I9(s1:BS)(i7:Int)(m0:Zz)(m1:Zx):Prop:=
  0<=i7/\∃p:Xt,m0.slots[(i7).toNat]?=some p/\∃c:BS,Ze PG 31 [.s p.name] (.s c)/\([32]:BS).length+c.length<=Yj/\(([32]:BS)++c).length+([32,61,32]:BS).length<=Yj/\∃k j,Ze PG 142 [.s s1,.s ((([32]:BS)++c)++([32,61,32]:BS))] (.tup [.s k,.b j])/\∃e:Za,∃o,Ze PG 75 [.s k] (.tup [e.av,.i .i64 o])/\(j=true->K (Zx.mk i7 e) (decide (o=0)))/\(j=false->K (Zx.mk i7 e) false)
def I8(s1:BS)(m0:Zz)(m1:Zx):Prop:=
  ∃o c,Ze PG 142 [.s s1,.s ([32,32]:BS)] (.tup [.s o,.b c])/\∃k j e,Ze PG 143 [.s o,.i .i64 (IntKind.i64.wrap ((m0.slots.length:Int)-1))] (.tup [.i .i64 k,.s j,.b e])/\((!c)=true->K (Zx.mk 0 (Za.mk 0 0 [] ([]:List Za) false)) false)/\((!c)=false->((!e)=true->K (Zx.mk 0 (Za.mk 0 0 [] ([]:List Za) false)) false)/\((!e)=false->I9 PG K j k m0 m1))
def I7(f0:Zz)(s1:BS):Prop:=
  I8 PG K s1 f0 (Zx.mk 0 (Za.mk 0 0 [] ([]:List Za) false))
end
section
variable{K:Zx->Bool->Prop}(hQ:Xsa Q K)
variable{s1:BS}{i7:Int}{m0:Zz}{m1:Zx}{ju:Zr}{v0 v1:Nat}{f0:Zz}
variable(H0:U 0=f0.av)(H1:U 1=.s s1)(H2:U 2=.p (d,0) v0 0)(H4:U 4=.p (d,1) v1 0)(H7:U 7=.i .i64 i7)(B0:lk st.bx (d,0)=some (v0,Zz.cs m0))(B1:lk st.bx (d,1)=some (v1,Zx.co ju m1))
def Xn7(h:I9 PG K s1 i7 m0 m1):W PG d Ygu U st Q:=
 q_ J<|m_<|f_ H2<|l_ J B0 J J<|m_<|h.2.elim fun p k=>Xy J H7 h.1 k.1 (Xt.row_eq p) J<|Do J<|Xx J J J<|k.2.elim fun _ c=>Yh (Xu J J) c.1<|b_ J J (Xp c.2.1)<|b_ J J (Xp c.2.2.1)<|x2 c.2.2.2 fun _ _ o=>Yh (Wk H1 J J) o.1<|m_<|x_ J J<|x_ J J<|m_<|m_<|e_<|Zl<|W.reg<|m_<|x2 o.2 fun _ _ e=>Yh (Xu J J) e.1<|m_<|x_ J J<|x_ J J<|Xl<|Zy J (show lk _ (d,24581)=some (_,cS)from Zj) J J J<|m_<|e_<|q_ J<|Wc H7<|l_ J Zj J J<|Xb (Yr J J<|Yr J J Yu)<|z_ 2 J<|Ql (g:=56) J (fun j=>Zg J<|Wc J<|Zg J<|b_ J J Xf<|Gz J J<|Zy H4 (Zm J<|Zm J B1) J J J<|Yt J<|Zu<|hQ _ _ _ _ _ _ _ H4 Zj J<|e.2.1 j)<|fun j=>z_ 3 J<|Zy H4 (Zm J<|Zm J B1) J J J<|Yt J<|Zu<|hQ _ _ _ _ _ _ _ H4 Zj J<|e.2.2 j
def Xpl(h:I8 PG K s1 m0 m1):W PG d Yqk U st Q:=
 q_ J<|m_<|x2 h fun _ _ j=>Yh (Wk H1 J J) j.1<|m_<|x_ J J<|x_ J J<|m_<|m_<|e_<|q_ J<|m_<|f_ H2<|l_ J B0 J J<|Xq J<|b_ J J Ms<|x2 j.2 fun _ _ k=>k.elim fun _ c=>Yh (Wk J J J) c.1<|m_<|x_ J J<|x_ J J<|x_ J J<|m_<|m_<|m_<|e_<|Zl<|q_ J<|Yt J<|Wa J<|Yt J<|Ql (g:=28) J (fun e=>z_ 3 J<|e_<|Xh J<|q_ J<|Xb Yu<|Zy H4 B1 J J J<|m_<|Zu<|hQ _ _ _ _ _ _ _ H4 Zj J<|c.2.1 e)<|fun e=>Zg J<|Yt J<|Zg J<|Wa J<|Vt J J<|e_<|Xw J (fun i=>q_ J<|Xb Yu<|Zy H4 B1 J J J<|m_<|Zu<|hQ _ _ _ _ _ _ _ H4 Zj J<|(c.2.2 e).1 i)<|fun i=>Ya<|Xn7 hQ J H2 H4 J B0 B1<|(c.2.2 e).2 i
def Yvs(h:I7 PG K f0 s1):W PG d Ytk U st Q:=
 Zl<|W.reg<|Jw H0 J<|Xl<|m_<|e_<|Xpl (m1:=(Zx.mk 0<|Za.mk 0 0 [] ([]:List Za) false)) hQ H1 J J Zj (Zm J<|show lk _ (d,1)=some (_,iN)from Zj) h
theorem Xaf(hf:PG.fn 121=some od)(h:I7 PG K f0 s1):∃aa:Zx,∃ae:Bool,K aa ae/\Ze PG 121 [f0.av,.s s1] (.tup [aa.av,.b ae]):=by
  obtain⟨v,hv,aa,ae,hk,rfl⟩:=Ze.of (K:=fun v=>∃aa:Zx,∃ae:Bool,K aa ae/\v=.tup [aa.av,.b ae]) hf rfl (Yvs (U:=Wg [f0.av,.s s1]) (fun U st k0 v0 cc aa ae H4 gU H5 hk=>⟨.tup [aa.avo cc,.b ae],by simp only[od,Xj,Wz,Jc (n:=6) H4 gU rfl,H5,Km,kK],_,rfl,aa,ae,hk,rfl⟩) rfl rfl h)
  exact⟨aa,ae,hk,hv⟩
end
abbrev Ypa:AC:= (sR 0 [oC 4<|.s [],oC 5<|.b false]<|.seq (sR 1 [oM 6 0,oM 7 1,oQ 8 132 [6,7],oZ 9 8]<|cD 9 (sR 2 [oC 4<|.s [],oC 5<|.b false] .ret) .skip)<|sR 3 [oM 10 0,oM 11 1,oH 12 11,oO 13<|.slS (.t 10) (some<|.t 12) none,oM 4 13,oC 5<|.b true] .ret)
def tv:AF:= { nt:=14,res:=[.tmp 4,.tmp 5],body:=Ypa }
section
variable(PG:Zb)(K:BS->Bool->Prop)
def IT(s0 ck:BS):Prop:=
  ∃c,Ze PG 132 [.s s0,.s ck] (.b c)/\((!c)=true->K ([]:BS) false)/\((!c)=false->0<=(ck.length:Int)/\(ck.length:Int).toNat<=s0.length/\K (s0.drop (ck.length:Int).toNat) true)
end
section
variable{K:BS->Bool->Prop}(hQ:H2 AV.s AV.b 4 5 Q K)
variable{s0 ck:BS}
variable(H0:U 0=.s s0)(H1:U 1=.s ck)
include hQ H0 H1 in
theorem Yxh(h:IT PG K s0 ck):W PG d Ypa U st Q:=
 au trivial
def Xja(hf:PG.fn 142=some tv)(h:IT PG K s0 ck):∃aa:BS,∃ae:Bool,K aa ae/\Ze PG 142 [.s s0,.s ck] (.tup [.s aa,.b ae]):=
 P2 hf J<|Yxh (h2 J fun _ _=>J) J J h
end
abbrev Yp1:AC:= (sR 0 [oI 4 0,oC 5<|.s [],oC 6<|.b false]<|sR 1 [oM 10 0,oQ 11 135 [10],oM 7 11]<|sR 2 [oM 13 0,oM 14 7,oO 15<|.slS (.t 13) none<|some<|.t 14,oQ 16 22 [15],oM 12 16,oE 17 0 12,oE 18 1 12,oM 8 17,oM 9 18]<|sR 3 [oM 19 8,oM 20 0,oM 21 7,oO 22<|.slS (.t 20) (some<|.t 21) none,oM 23 9,oV 24 .eql 23 0,oM 25 24,gT 25<|oM 26 8,gT 25<|oV 27 .geq 26 0,oA 28 25 27,oM 29 28,gT 29<|oM 30 8,gT 29<|oM 31 1,gT 29<|oT 32 .leq 30 31,oA 33 29 32,oM 4 19,oM 5 22,oM 6 33] .ret)
def oe:AF:= { nt:=34,res:=[.tmp 4,.tmp 5,.tmp 6],body:=Yp1 }
abbrev Yvf(Q:Q0)(K:Int->BS->Bool->Prop):Prop:=∀(U:Sl)(st:St)(aa:Int)(ae:BS)(be:Bool),U 4=.i .i64 aa->U 5=.s ae->U 6=.b be->K aa ae be->Q .ret U st
section
variable(PG:Zb)(K:Int->BS->Bool->Prop)
def IU(s0:BS)(iq:Int):Prop:=
  ∃c,Ze PG 135 [.s s0] (.i .i64 c)/\0<=c/\(c).toNat<=s0.length/\∃e j,Ze PG 22 [.s (s0.take (c).toNat)] (.tup [.i .i64 e,.i .i64 j])/\0<=c/\(c).toNat<=s0.length/\(j=0->(e>=0->K e (s0.drop (c).toNat) (decide (e<=iq)))/\(¬(e>=0)->K e (s0.drop (c).toNat) false))/\(¬(j=0)->K e (s0.drop (c).toNat) false)
end
section
variable{K:Int->BS->Bool->Prop}(hQ:Yvf Q K)
variable{s0:BS}{iq:Int}
variable(H0:U 0=.s s0)(H1:U 1=.i .i64 iq)
include hQ H0 H1 in
theorem Yxc(h:IU PG K s0 iq):W PG d Yp1 U st Q:=
 au trivial
theorem Xmx(hf:PG.fn 143=some oe)(h:IU PG K s0 iq):∃aa:Int,∃ae:BS,∃be:Bool,K aa ae be/\Ze PG 143 [.s s0,.i .i64 iq] (.tup [.i .i64 aa,.s ae,.b be]):=by
  obtain⟨v,hv,aa,ae,be,hk,rfl⟩:=Ze.of (K:=fun v=>∃aa:Int,∃ae:BS,∃be:Bool,K aa ae be/\v=.tup [.i .i64 aa,.s ae,.b be]) hf rfl (Yxc (U:=Wg [.s s0,.i .i64 iq]) (fun U st   aa ae be H4 H5 H6 hk=>⟨.tup [.i .i64 aa,.s ae,.b be],by simp only[oe,Xj,Wz,H4,H5,H6,Kq,kK],_,rfl,aa,ae,be,hk,rfl⟩) rfl rfl h)
  exact⟨aa,ae,be,hk,hv⟩
end
end Go.AM

namespace Go.AM
open Go
set_option maxRecDepth 4000
attribute [local irreducible] WO Ve Vd
variable{PG:Zb}{d:Nat}{Q:Q0}{U:Sl}{st:St}{Zp:St}
abbrev H67(Q:Q0)(K:Bool->Prop):Prop:=∀(U:Sl)(st:St)(aa:Bool),U 8=.b aa->K aa->Q .ret U st
section
variable{K:Bool->Prop}(hQ:H67 Q K)
end
abbrev H69(Q:Q0)(K:Bool->Prop):Prop:=∀(U:Sl)(st:St)(aa:Bool),U 4=.b aa->K aa->Q .ret U st
section
variable{K:Bool->Prop}(hQ:H69 Q K)
end
abbrev H70(Q:Q0)(K:Bool->Prop):Prop:=∀(U:Sl)(st:St)(aa:Bool),U 4=.b aa->K aa->Q .ret U st
section
variable{K:Bool->Prop}(hQ:H70 Q K)
end
abbrev H89(d:Nat)(Zp:St)(Q:Q0)(K:Za->Prop):Prop:=∀(U:Sl)(st:St)(k0:Zt)(v0:Nat)(aa:Za),U 4=.p k0 v0 0->lk st.bx k0=some (v0,Za.co .full aa)->Fr d (d,0) Zp.bx Zp.ow st.bx st.ow->K aa->Q .ret U st
section
variable{K:Za->Prop}(hQ:H89 d Zp Q K)
end
abbrev H90(Q:Q0)(K:Za->Prop):Prop:=∀(U:Sl)(st:St)(k0:Zt)(v0:Nat)(cc:Zr)(aa:Za),U 0=.p k0 v0 0->lk st.bx k0=some (v0,Za.co cc aa)->K aa->Q .ret U st
section
variable{K:Za->Prop}(hQ:H90 Q K)
end
abbrev H91(Q:Q0)(K:Bool->Prop):Prop:=∀(U:Sl)(st:St)(aa:Bool),U 4=.b aa->K aa->Q .ret U st
section
variable{K:Bool->Prop}(hQ:H91 Q K)
end
abbrev H92(Q:Q0)(K:Za->Prop):Prop:=∀(U:Sl)(st:St)(k0:Zt)(v0:Nat)(cc:Zr)(aa:Za),U 2=.p k0 v0 0->lk st.bx k0=some (v0,Za.co cc aa)->K aa->Q .ret U st
section
variable{K:Za->Prop}(hQ:H92 Q K)
end
abbrev H93(Q:Q0)(K:Za->Prop):Prop:=∀(U:Sl)(st:St)(k0:Zt)(v0:Nat)(cc:Zr)(aa:Za),U 2=.p k0 v0 0->lk st.bx k0=some (v0,Za.co cc aa)->K aa->Q .ret U st
section
variable{K:Za->Prop}(hQ:H93 Q K)
end
abbrev H98(Q:Q0)(K:Bool->Prop):Prop:=∀(U:Sl)(st:St)(aa:Bool),U 2=.b aa->K aa->Q .ret U st
section
variable{K:Bool->Prop}(hQ:H98 Q K)
end
abbrev H99(Q:Q0)(K:Zd->Prop):Prop:=∀(U:Sl)(st:St)(k0:Zt)(v0:Nat)(cc kh ki:Zr)(aa:Zd),U 0=.p k0 v0 0->lk st.bx k0=some (v0,Zd.co cc kh ki aa)->K aa->Q .ret U st
section
variable{K:Zd->Prop}(hQ:H99 Q K)
end
abbrev Lo(Q:Q0)(K:Bool->Prop):Prop:=∀(U:Sl)(st:St)(aa:Bool),U 0=.b aa->K aa->Q .ret U st
section
variable{K:Bool->Prop}(hQ:Lo Q K)
end
abbrev Wa8(Q:Q0)(K:Za->Prop):Prop:=∀(U:Sl)(st:St)(k0:Zt)(v0:Nat)(cc:Zr)(aa:Za),U 0=.p k0 v0 0->lk st.bx k0=some (v0,Za.co cc aa)->K aa->Q .ret U st
section
variable{K:Za->Prop}(hQ:Wa8 Q K)
end
end Go.AM

namespace Go.AM
open Go
set_option maxRecDepth 4000
set_option maxHeartbeats 2000000
attribute [local irreducible] Decidable.decide W WO Ve Vd
variable{PG:Zb}{d:Nat}{Q:Q0}{U:Sl}{st:St}
abbrev Yef:AC:= (sR 0 [oO 0<|.alloc [zs,zs,zs,zs]]<|sR 1 [oO 1<|.build [zs,zs,zs,zs] [(1,1,(.c<|.s wi)),(2,1,(.c<|.s wk)),(3,1,(.c<|.s wj))],oS 4 0 1] .ret)
def Om:AF:= { nt:=2,res:=[.cell 0 4 true],body:=Yef }
abbrev Xxy(Q:Q0)(K:LB->Prop):Prop:=∀(U:Sl)(st:St)(k0:Zt)(v0:Nat)(aa:LB),U 0=.p k0 v0 0->lk st.bx k0=some (v0,List.map AV.s aa)->aa.length=4->K aa->Q .ret U st
def Ypw(PG:Zb)(K:LB->Prop):Prop:=
  K [[],([102,97,117,108,116,32,49,58,32,100,105,118,105,115,105,111,110,32,98,121,32,122,101,114,111]:BS),([102,97,117,108,116,32,50,58,32,110,105,108,32,112,111,105,110,116,101,114]:BS),([102,97,117,108,116,32,51,58,32,111,117,116,32,111,102,32,114,97,110,103,101]:BS)]
section
variable{K:LB->Prop}(hQ:Xxy Q K)
def Ywf(h:Ypw PG K):W PG d Yef U st Q:=
 Zl<|W.reg<|Xl<|e_<|q_ J<|Ao (f:=AV.s) (l:=[[],(wi:BS),(wk:BS),(wj:BS)]) (Yr J J<|Yr J J<|Yr J J Yu) J<|Ac (f:=AV.s) (fun _=>J) J (show lk _ (d,0)=some (_,(List.map AV.s (List.replicate 4 ([]:BS)):List AV))from Zj) (by simp) J J<|Zu<|hQ _ _ _ _ _ J Zj (by simp) h
theorem Xm4(hf:PG.fn 178=some Om)(h:Ypw PG K):∃aa:LB,K aa/\Ze PG 178 [] (.ag (List.map AV.s aa)):=by
  obtain⟨v,hv,aa,hk,rfl⟩:=Ze.of (K:=fun v=>∃aa:LB,K aa/\v=.ag (List.map AV.s aa)) hf rfl (Ywf (U:=Wg []) (fun U st k0 v0  aa H0 ma mb hk=>⟨.ag (List.map AV.s aa),by simp only[Om,Xj,Wz,Jc (n:=4) H0 ma (by simpa using mb),Km,kK],_,wE AV.s (fun _=>rfl) _,aa,hk,rfl⟩)  h)
  exact⟨aa,hk,hv⟩
end
abbrev Yqn:AC:= (sR 0 [oO 0<|.alloc [z8,z8,z8,z8,z8]]<|sR 1 [oO 1<|.build [z8,z8,z8,z8,z8] [(1,1,(.c<|.i .u8 2)),(2,1,(.c<|.i .u8 1)),(3,1,(.c<|.i .u8 3)),(4,1,(.c<|.i .u8 2))],oS 5 0 1] .ret)
def ot:AF:= { nt:=2,res:=[.cell 0 5 true],body:=Yqn }
abbrev Xpv(Q:Q0)(K:BS->Prop):Prop:=∀(U:Sl)(st:St)(k0:Zt)(v0:Nat)(aa:BS),U 0=.p k0 v0 0->lk st.bx k0=some (v0,List.map c8 aa)->aa.length=5->K aa->Q .ret U st
def Yr9(PG:Zb)(K:BS->Prop):Prop:=
  K [0,(2:UInt8),(1:UInt8),(3:UInt8),(2:UInt8)]
section
variable{K:BS->Prop}(hQ:Xpv Q K)
def Xqu(h:Yr9 PG K):W PG d Yqn U st Q:=
 Zl<|W.reg<|Xl<|e_<|q_ J<|Ao (f:=c8) (l:=[0,(2:UInt8),(1:UInt8),(3:UInt8),(2:UInt8)]) (Yr J J<|Yr J J<|Yr J J<|Yr J J Yu) J<|Ac (f:=c8) (fun _=>J) J (show lk _ (d,0)=some (_,(List.map c8 (List.replicate 5 (0:UInt8)):List AV))from Zj) (by simp) J J<|Zu<|hQ _ _ _ _ _ J Zj (by simp) h
theorem Yzo(hf:PG.fn 183=some ot)(h:Yr9 PG K):∃aa:BS,K aa/\Ze PG 183 [] (.ag (List.map c8 aa)):=by
  obtain⟨v,hv,aa,hk,rfl⟩:=Ze.of (K:=fun v=>∃aa:BS,K aa/\v=.ag (List.map c8 aa)) hf rfl (Xqu (U:=Wg []) (fun U st k0 v0  aa H0 ma mb hk=>⟨.ag (List.map c8 aa),by simp only[ot,Xj,Wz,Jc (n:=5) H0 ma (by simpa using mb),Km,kK],_,wE c8 (fun _=>rfl) _,aa,hk,rfl⟩)  h)
  exact⟨aa,hk,hv⟩
end
abbrev Yeq:AC:= (sR 0 [oC 4<|.b false]<|sR 1 [oM 5 0,oH 6 5,oM 7 1,oH 8 7,oT 9 .geq 6 8,oM 10 9,gT 10<|oM 11 0,gT 10<|oM 12 0,gT 10<|oH 13 12,gT 10<|oM 14 1,gT 10<|oH 15 14,gT 10<|oT 16 .sub 13 15,gT 10<|oO 17<|.slS (.t 11) (some<|.t 16) none,gT 10<|oM 18 1,gT 10<|oT 19 .eql 17 18,oA 20 10 19,oM 4 20] .ret)
def tX:AF:= { nt:=21,res:=[.tmp 4],body:=Yeq }
def JT(PG:Zb)(K:Bool->Prop)(s0 bv:BS):Prop:=
  ((s0.length:Int)>=(bv.length:Int)->0<=(IntKind.i64.wrap ((s0.length:Int)-(bv.length:Int)))/\(IntKind.i64.wrap ((s0.length:Int)-(bv.length:Int))).toNat<=s0.length/\K (decide ((s0.drop (IntKind.i64.wrap ((s0.length:Int)-(bv.length:Int))).toNat)=bv)))/\(¬((s0.length:Int)>=(bv.length:Int))->K false)
section
variable{K:Bool->Prop}(hQ:H1 AV.b 4 Q K)
variable{s0 bv:BS}
variable(H0:U 0=.s s0)(H1:U 1=.s bv)
include hQ H0 H1 in
theorem Xy6(h:JT PG K s0 bv):W PG d Yeq U st Q:=
 au trivial
def Xy8(hf:PG.fn 191=some tX)(h:JT PG K s0 bv):∃aa:Bool,K aa/\Ze PG 191 [.s s0,.s bv] (.b aa):=
 P1 hf J<|Xy6 (h1 J fun _=>J) J J h
end
abbrev Xx5(Q:Q0)(K:Bool->Prop):Prop:=∀(U:Sl)(st:St)(aa:Bool),U 4=.b aa->K aa->Q .ret U st
section
variable{K:Bool->Prop}(hQ:Xx5 Q K)
end
abbrev Yl6:AC:= (sR 0 [oC 4<|.s [],oC 5<|.b false]<|.seq (sR 1 [oM 6 0,oM 7 1,oQ 8 191 [6,7],oZ 9 8]<|cD 9 (sR 2 [oM 10 0,oM 4 10,oC 5<|.b false] .ret) .skip)<|sR 3 [oM 11 0,oM 12 0,oH 13 12,oM 14 1,oH 15 14,oT 16 .sub 13 15,oO 17<|.slS (.t 11) none<|some<|.t 16,oM 4 17,oC 5<|.b true] .ret)
def tW:AF:= { nt:=18,res:=[.tmp 4,.tmp 5],body:=Yl6 }
section
variable(PG:Zb)(K:BS->Bool->Prop)
def JU(s0 bv:BS):Prop:=
  ∃c,Ze PG 191 [.s s0,.s bv] (.b c)/\((!c)=true->K s0 false)/\((!c)=false->0<=(IntKind.i64.wrap ((s0.length:Int)-(bv.length:Int)))/\(IntKind.i64.wrap ((s0.length:Int)-(bv.length:Int))).toNat<=s0.length/\K (s0.take (IntKind.i64.wrap ((s0.length:Int)-(bv.length:Int))).toNat) true)
end
section
variable{K:BS->Bool->Prop}(hQ:H2 AV.s AV.b 4 5 Q K)
variable{s0 bv:BS}
variable(H0:U 0=.s s0)(H1:U 1=.s bv)
include hQ H0 H1 in
theorem Xvq(h:JU PG K s0 bv):W PG d Yl6 U st Q:=
 au trivial
def Xqg(hf:PG.fn 190=some tW)(h:JU PG K s0 bv):∃aa:BS,∃ae:Bool,K aa ae/\Ze PG 190 [.s s0,.s bv] (.tup [.s aa,.b ae]):=
 P2 hf J<|Xvq (h2 J fun _ _=>J) J J h
end
abbrev Yer:AC:= (sR 0 [oC 4<|.s [],oC 5<|.b false]<|sR 1 [oM 6 0,oM 7 1,oQ 8 190 [6,7],oE 9 0 8,oE 10 1 8,oM 4 9,oM 5 10] .ret)
def tU:AF:= { nt:=11,res:=[.tmp 4,.tmp 5],body:=Yer }
section
variable(PG:Zb)(K:BS->Bool->Prop)
def JX(s0 bv:BS):Prop:=
  ∃c e,Ze PG 190 [.s s0,.s bv] (.tup [.s c,.b e])/\K c e
end
section
variable{K:BS->Bool->Prop}(hQ:H2 AV.s AV.b 4 5 Q K)
variable{s0 bv:BS}
variable(H0:U 0=.s s0)(H1:U 1=.s bv)
include hQ H0 H1 in
theorem Yy2(h:JX PG K s0 bv):W PG d Yer U st Q:=
 au trivial
def Wdo(hf:PG.fn 180=some tU)(h:JX PG K s0 bv):∃aa:BS,∃ae:Bool,K aa ae/\Ze PG 180 [.s s0,.s bv] (.tup [.s aa,.b ae]):=
 P2 hf J<|Yy2 (h2 J fun _ _=>J) J J h
end
abbrev Yl7:AC:= (sR 3 [oM 23 0,oM 24 0,oH 25 24,oM 26 1,oH 27 26,oT 28 .sub 25 27,oO 29<|.slS (.t 23) none<|some<|.t 28,oM 4 29,oC 5<|.b true] .ret)
abbrev Yq6:AC:= (sR 0 [oC 4<|.s [],oC 5<|.b false]<|.seq (sR 1 [oM 6 0,oH 7 6,oM 8 1,oH 9 8,oT 10 .lss 7 9,oM 11 10,gF 11<|oM 12 0,gF 11<|oM 13 0,gF 11<|oH 14 13,gF 11<|oM 15 1,gF 11<|oH 16 15,gF 11<|oT 17 .sub 14 16,gF 11<|oO 18<|.slS (.t 12) (some<|.t 17) none,gF 11<|oM 19 1,gF 11<|oT 20 .neq 18 19,oR 21 11 20]<|cD 21 (sR 2 [oM 22 0,oM 4 22,oC 5<|.b false] .ret) .skip) Yl7)
def tV:AF:= { nt:=30,res:=[.tmp 4,.tmp 5],body:=Yq6 }
def JZ(PG:Zb)(K:BS->Bool->Prop)(s0 gf:BS):Prop:=
  0<=(IntKind.i64.wrap ((s0.length:Int)-(gf.length:Int)))/\(IntKind.i64.wrap ((s0.length:Int)-(gf.length:Int))).toNat<=s0.length/\K (s0.take (IntKind.i64.wrap ((s0.length:Int)-(gf.length:Int))).toNat) true
section
variable(PG:Zb)(K:BS->Bool->Prop)
def JY(s0 gf:BS):Prop:=
  ((s0.length:Int)<(gf.length:Int)->K s0 false)/\(¬((s0.length:Int)<(gf.length:Int))->0<=(IntKind.i64.wrap ((s0.length:Int)-(gf.length:Int)))/\(IntKind.i64.wrap ((s0.length:Int)-(gf.length:Int))).toNat<=s0.length/\((s0.drop (IntKind.i64.wrap ((s0.length:Int)-(gf.length:Int))).toNat)≠gf->K s0 false)/\(¬((s0.drop (IntKind.i64.wrap ((s0.length:Int)-(gf.length:Int))).toNat)≠gf)->JZ PG K s0 gf))
end
section
variable{K:BS->Bool->Prop}(hQ:H2 AV.s AV.b 4 5 Q K)
variable{s0 gf:BS}
variable(H0:U 0=.s s0)(H1:U 1=.s gf)
include hQ H0 H1 in
theorem Xqt(h:JZ PG K s0 gf):W PG d Yl7 U st Q:=
 au trivial
include hQ H0 H1 in
theorem Xfy(h:JY PG K s0 gf):W PG d Yq6 U st Q:=
 au @Xqt
def Xnc(hf:PG.fn 182=some tV)(h:JY PG K s0 gf):∃aa:BS,∃ae:Bool,K aa ae/\Ze PG 182 [.s s0,.s gf] (.tup [.s aa,.b ae]):=
 P2 hf J<|Xfy (h2 J fun _ _=>J) J J h
end
abbrev Yut:AC:= (sR 10 [oF 67 1 1,oK 68 5 67,oQ 69 76 [68],oM 2 69] .ret)
abbrev Ycw:AC:= (.seq (sR 8 [oF 46 6 1,oL 47 46,oB 48 .andNot (.t 47)<|.c<|.i .u64 5,oB 49 .neq (.t 48)<|.c<|.i .u64 0,oM 50 49,gF 50<|oF 51 0 1,gF 50<|oL 52 51,gF 50<|oB 53 .eql (.t 52)<|.c<|.i .u64 4,gF 50<|oM 54 53,gT 54<|oF 55 1 1,gT 54<|oF 56 1 55,gT 54<|oL 57 56,gT 54<|oV 58 .lss 57 1,gT 54<|oM 59 58,gF 59<|oF 60 1 1,gF 59<|oF 61 1 60,gF 59<|oL 62 61,gF 59<|oV 63 .gtr 62 3,gT 54<|oR 64 59 63,gF 50<|oA 65 54 64,oR 66 50 65]<|cD 66 (sR 9 [oI 2 8] .ret) .skip) Yut)
abbrev Ygs:AC:= (.seq (sR 3 [oF 17 0 1,oL 18 17,oB 19 .eql (.t 18)<|.c<|.i .u64 0]<|cD 19 (sR 4 [oF 20 1 1,oK 21 5 20,oO 3<|.alloc aX,oS 5 3 21]<|.seq (sR 5 [oF 22 1 3,oL 23 22,oV 24 .neq 23 0,oM 25 24,gF 25<|oF 26 2 3,gF 25<|oL 27 26,gF 25<|oB 28 .neq (.t 27)<|.c<|.s [],oR 29 25 28,oM 30 29,gF 30<|oF 31 3 3,gF 30<|oL 32 31,gF 30<|oJ 33 32,gF 30<|oV 34 .gtr 33 0,oR 35 30 34,oM 36 35,gF 36<|oF 37 4 3,gF 36<|oL 38 37,oR 39 36 38,oM 40 39,gF 40<|oF 41 6 1,gF 40<|oL 42 41,gF 40<|oB 43 .andNot (.t 42)<|.c<|.i .u64 4,gF 40<|oB 44 .neq (.t 43)<|.c<|.i .u64 2,oR 45 40 44]<|cD 45 (sR 6 [oI 2 8] .ret) .skip)<|sR 7 [oI 2 0] .ret) .skip) Ycw)
abbrev Yte:AC:= (.seq (sR 1 [oF 4 0 1,oL 5 4,oB 6 .gtr (.t 5)<|.c<|.i .u64 4,oM 7 6,gF 7<|oF 8 1 1,gF 7<|oF 9 0 8,gF 7<|oL 10 9,gF 7<|oQ 11 183 [],gF 7<|oF 12 0 1,gF 7<|oL 13 12,gF 7<|oO 14<|.ixA 5 1 false (.t 11)<|.t 13,gF 7<|oT 15 .neq 10 14,oR 16 7 15]<|cD 16 (sR 2 [oI 2 8] .ret) .skip) Ygs)
abbrev Yu4:AC:= (sR 0 [oY 1 7 0,oI 2 0] Yte)
def tR:AF:= { nt:=70,res:=[.tmp 2],body:=Yu4 }
section
variable(PG:Zb)(K:Int->Prop)
def Ow(m0:Zh):Prop:=
  ∃c,Ze PG 76 [m0.value.av] (.i .i64 c)/\K c
def J4(m0:Zh):Prop:=
  ((Ap .u64 m0.flags 5)≠0->K 8)/\(¬((Ap .u64 m0.flags 5)≠0)->(m0.tag=4->(m0.value.int<1->K 8)/\(¬(m0.value.int<1)->(m0.value.int>3->K 8)/\(¬(m0.value.int>3)->Ow PG K m0)))/\(¬(m0.tag=4)->Ow PG K m0))
def J3(m0:Zh):Prop:=
  (m0.tag=0->(m0.value.int≠0->K 8)/\(¬(m0.value.int≠0)->(m0.value.text≠([]:BS)->K 8)/\(¬(m0.value.text≠([]:BS))->((m0.value.list.length:Int)>0->K 8)/\(¬((m0.value.list.length:Int)>0)->(m0.value.cut=true->K 8)/\(m0.value.cut=false->((Ap .u64 m0.flags 4)≠2->K 8)/\(¬((Ap .u64 m0.flags 4)≠2)->K 0))))))/\(¬(m0.tag=0)->J4 PG K m0)
def J2(m0:Zh):Prop:=
  (m0.tag>4->K 8)/\(¬(m0.tag>4)->∃e:BS,Ze PG 183 [] (.ag (List.map c8 e))/\e.length=5/\0<=m0.tag/\∃c:UInt8,(e:List (UInt8))[(m0.tag).toNat]?=some c/\(m0.value.kind≠(c.toNat:Int)->K 8)/\(¬(m0.value.kind≠(c.toNat:Int))->J3 PG K m0))
def J1(p0:Zh):Prop:=
  J2 PG K p0
end
section
variable{K:Int->Prop}(hQ:H1 (AV.i .i64) 2 Q K)
variable{m0:Zh}{v0:Nat}{p0:Zh}
variable(H1:U 1=.p (d,0) v0 0)(H0:U 0=p0.av)(B0:lk st.bx (d,0)=some (v0,Zh.cs m0))
include hQ H1 B0 in
theorem Yzk(h:Ow PG K m0):W PG d Yut U st Q:=
 au trivial
include hQ H1 B0 in
theorem Xq5(h:J4 PG K m0):W PG d Ycw U st Q:=
 au @Yzk
include hQ H1 B0 in
theorem Yyt(h:J3 PG K m0):W PG d Ygs U st Q:=
 au @Xq5
include hQ H1 B0 in
theorem Yw7(h:J2 PG K m0):W PG d Yte U st Q:=
 au @Yyt
include hQ H0 in
theorem Xy4(h:J1 PG K p0):W PG d Yu4 U st Q:=
 au @Yw7
def Xpa(hf:PG.fn 158=some tR)(h:J1 PG K p0):∃aa:Int,K aa/\Ze PG 158 [p0.av] (.i .i64 aa):=
 P1 hf J<|Xy4 (h1 J fun _=>J) J h
end
abbrev Yog:AC:= (.seq (sR 10 [oM 78 3,oZ 79 78]<|cD 79 (sR 11 [oI 2 8] .ret) .skip)<|sR 12 [oI 2 0] .ret)
abbrev Yiz:AC:= (.seq (sR 8 [oF 62 0 1,oL 63 62,oB 64 .eql (.t 63)<|.c<|.i .u64 4]<|cD 64 (.reg 9 [oM 65 3,oM 66 65,gT 66<|oF 67 1 1,gT 66<|oF 68 1 67,gT 66<|oL 69 68,gT 66<|oV 70 .geq 69 1,oA 71 66 70,oM 72 71,gT 72<|oF 73 1 1,gT 72<|oF 74 1 73,gT 72<|oL 75 74,gT 72<|oV 76 .leq 75 3,oA 77 72 76,oM 3 77]) .skip) Yog)
abbrev Yup:AC:= (.seq (sR 5 [oF 24 0 1,oL 25 24,oB 26 .eql (.t 25)<|.c<|.i .u64 0]<|cD 26 (.reg 6 [oF 27 1 1,oK 28 5 27,oO 29<|.build aX [],oQ 30 78 [28,29],oM 31 30,gT 31<|oF 32 6 1,gT 31<|oL 33 32,gT 31<|oB 34 .eql (.t 33)<|.c<|.i .u64 2,gT 31<|oM 35 34,gF 35<|oF 36 6 1,gF 35<|oL 37 36,gF 35<|oB 38 .eql (.t 37)<|.c<|.i .u64 6,gT 31<|oR 39 35 38,oA 40 31 39,oM 3 40])<|.reg 7 [oM 41 3,oM 42 41,gT 42<|oF 43 6 1,gT 42<|oL 44 43,gT 42<|oB 45 .eql (.t 44)<|.c<|.i .u64 0,gT 42<|oM 46 45,gF 46<|oF 47 6 1,gF 46<|oL 48 47,gF 46<|oB 49 .eql (.t 48)<|.c<|.i .u64 1,gT 42<|oR 50 46 49,gT 42<|oM 51 50,gF 51<|oF 52 6 1,gF 51<|oL 53 52,gF 51<|oB 54 .eql (.t 53)<|.c<|.i .u64 4,gT 42<|oR 55 51 54,gT 42<|oM 56 55,gF 56<|oF 57 6 1,gF 56<|oL 58 57,gF 56<|oB 59 .eql (.t 58)<|.c<|.i .u64 5,gT 42<|oR 60 56 59,oA 61 42 60,oM 3 61]) Yiz)
abbrev Yh6:AC:= (.seq (sR 3 [oF 10 0 1,oL 11 10,oB 12 .gtr (.t 11)<|.c<|.i .u64 4,oM 13 12,gF 13<|oF 14 1 1,gF 13<|oF 15 0 14,gF 13<|oL 16 15,gF 13<|oM 17 4,gF 13<|oF 18 0 1,gF 13<|oL 19 18,gF 13<|oX 20 1 17 19,gF 13<|oL 21 20,gF 13<|oT 22 .neq 16 21,oR 23 13 22]<|cD 23 (sR 4 [oI 2 8] .ret) .skip) Yup)
abbrev Ysh:AC:= (sR 2 [oO 9<|.bslice [z8] 5 [(0,(.c<|.i .u8 0)),(1,(.c<|.i .u8 2)),(2,(.c<|.i .u8 1)),(3,(.c<|.i .u8 3)),(4,(.c<|.i .u8 2))],oM 4 9] Yh6)
abbrev Yol:AC:= (sR 1 [oF 5 1 1,oK 6 5 5,oQ 7 77 [6],oV 8 .eql 7 0,oM 3 8] Ysh)
abbrev Ysw:AC:= (sR 0 [oY 1 7 0,oI 2 0] Yol)
def tS:AF:= { nt:=80,res:=[.tmp 2],body:=Ysw }
def Cj(PG:Zb)(K:Int->Prop)(dQ:Bool):Prop:=
  ((!dQ)=true->K 8)/\((!dQ)=false->K 0)
section
variable(PG:Zb)(K:Int->Prop)
def Mr(dQ:Bool)(m0:Zh):Prop:=
  (m0.tag=4->(dQ=true->(m0.value.int>=1->Cj PG K (decide (m0.value.int<=3)))/\(¬(m0.value.int>=1)->Cj PG K false))/\(dQ=false->Cj PG K false))/\(¬(m0.tag=4)->Cj PG K dQ)
def J9(dQ:Bool)(m0:Zh):Prop:=
  (m0.tag=0->∃c,Ze PG 78 [m0.value.av,.ag [.i .u8 0,.i .i64 0,.s [],.sl .ext (List.map Za.row ([]:List Za)),.b false]] (.b c)/\(c=true->(m0.flags=2->Mr PG K true m0)/\(¬(m0.flags=2)->Mr PG K (decide (m0.flags=6)) m0))/\(c=false->Mr PG K false m0))/\(¬(m0.tag=0)->(dQ=true->(m0.flags=0->Mr PG K true m0)/\(¬(m0.flags=0)->(m0.flags=1->Mr PG K true m0)/\(¬(m0.flags=1)->(m0.flags=4->Mr PG K true m0)/\(¬(m0.flags=4)->Mr PG K (decide (m0.flags=5)) m0))))/\(dQ=false->Mr PG K false m0))
def J8(dQ:Bool)(jd:BS)(m0:Zh):Prop:=
  (m0.tag>4->K 8)/\(¬(m0.tag>4)->0<=m0.tag/\∃c:UInt8,jd[(m0.tag).toNat]?=some c/\(m0.value.kind≠(c.toNat:Int)->K 8)/\(¬(m0.value.kind≠(c.toNat:Int))->J9 PG K dQ m0))
def J7(dQ:Bool)(m0:Zh):Prop:=
  J8 PG K dQ [(0:UInt8),(2:UInt8),(1:UInt8),(3:UInt8),(2:UInt8)] m0
def J6(m0:Zh):Prop:=
  ∃c,Ze PG 77 [m0.value.av] (.i .i64 c)/\J7 PG K (decide (c=0)) m0
def J5(p0:Zh):Prop:=
  J6 PG K p0
end
section
variable{K:Int->Prop}(hQ:H1 (AV.i .i64) 2 Q K)
variable{dQ:Bool}{m0:Zh}{v0:Nat}{jd:BS}{jq:Zr}{p0:Zh}
variable(H1:U 1=.p (d,0) v0 0)(H0:U 0=p0.av)(H3:U 3=.b dQ)(H4:U 4=.sl jq (List.map Yx jd))(A4:Yo d st.ow jq jd.length)(B0:lk st.bx (d,0)=some (v0,Zh.cs m0))
include hQ H3 in
theorem Xd7(h:Cj PG K dQ):W PG d Yog U st Q:=
 au trivial
include hQ H1 H3 B0 in
theorem Xvr(h:Mr PG K dQ m0):W PG d Yiz U st Q:=
 au @Xd7
include hQ H1 H3 B0 in
theorem Wcv(h:J9 PG K dQ m0):W PG d Yup U st Q:=
 au @Xvr
include hQ H1 H3 H4 A4 B0 in
theorem Xa8(h:J8 PG K dQ jd m0):W PG d Yh6 U st Q:=
 au @Wcv
def Xr4(h:J7 PG K dQ m0):W PG d Ysh U st Q:=
 q_ J<|Wr (f:=Yx) (l:=[(0:UInt8),(2:UInt8),(1:UInt8),(3:UInt8),(2:UInt8)]) J J (Yl J J J<|Yl J J J<|Yl J J J<|Yl J J J<|Yl J J J Wi) J<|Yf J<|e_<|Xa8 hQ H1 H3 J Yo.full B0 h
def Xnn(h:J6 PG K m0):W PG d Yol U st Q:=
 q_ J<|f_ H1<|l_ J B0 J J<|h.elim fun _ c=>Yh (Xu J J) c.1<|b_ J J Xf<|m_<|e_<|Xr4 hQ H1 J B0 c.2
def Xdo(h:J5 PG K p0):W PG d Ysw U st Q:=
 q_ J<|Jw H0 J<|m_<|e_<|Xnn hQ J Zj h
def Xul(hf:PG.fn 159=some tS)(h:J5 PG K p0):∃aa:Int,K aa/\Ze PG 159 [p0.av] (.i .i64 aa):=
 P1 hf J<|Xdo (h1 J fun _=>J) J h
end
abbrev Ykg:AC:= (sR 10 [oM 31 3,oM 2 31] .ret)
abbrev Ytb:AC:= (.seq (sR 8 [oF 26 6 1,oL 27 26,oB 28 .geq (.t 27)<|.c<|.i .u64 4]<|cD 28 (.reg 9 [oM 29 3,oB 30 .add (.t 29)<|.c<|.s wx,oM 3 30]) .skip) Ykg)
abbrev Yg1:AC:= (.seq (sR 6 [oF 20 6 1,oL 21 20,oB 22 .rem (.t 21)<|.c<|.i .u64 2,oB 23 .eql (.t 22)<|.c<|.i .u64 1]<|cD 23 (.reg 7 [oM 24 3,oB 25 .add (.t 24)<|.c<|.s wm,oM 3 25]) .skip) Ytb)
abbrev Ytr:AC:= (sR 0 [oY 1 7 0,oC 2<|.s []]<|sR 1 [oC 3<|.s k_]<|.seq (sR 2 [oF 4 0 1,oL 5 4,oB 6 .eql (.t 5)<|.c<|.i .u64 4]<|cD 6 (.reg 3 [oO 7<|.bslice [zs] 4 [(0,(.c<|.s [])),(1,(.c<|.s wi)),(2,(.c<|.s wk)),(3,(.c<|.s wj))],oF 8 1 1,oF 9 1 8,oL 10 9,oX 11 1 7 10,oL 12 11,oM 3 12])<|sR 4 [oF 13 0 1,oL 14 13,oB 15 .neq (.t 14)<|.c<|.i .u64 0]<|cD 15 (.reg 5 [oF 16 1 1,oK 17 5 16,oQ 18 106 [17],oB 19 .add (.c<|.s wA)<|.t 18,oM 3 19]) .skip) Yg1)
def tT:AF:= { nt:=32,res:=[.tmp 2],body:=Ytr }
def ua(PG:Zb)(K:BS->Prop)(s3:BS):Prop:=
  K s3
section
variable(PG:Zb)(K:BS->Prop)
def t_(s3:BS)(m0:Zh):Prop:=
  (m0.flags>=4->s3.length+([32,97,98,111,114,116,101,100]:BS).length<=Yj/\ua PG K (s3++([32,97,98,111,114,116,101,100]:BS)))/\(¬(m0.flags>=4)->ua PG K s3)
def Lz(s3:BS)(m0:Zh):Prop:=
  (((m0.flags:Int).tmod 2)=1->s3.length+([32,114,101,99,111,118,101,114,101,100]:BS).length<=Yj/\t_ PG K (s3++([32,114,101,99,111,118,101,114,101,100]:BS)) m0)/\(¬(((m0.flags:Int).tmod 2)=1)->t_ PG K s3 m0)
def J_(p0:Zh):Prop:=
  (p0.tag=4->0<=p0.value.int/\∃e,[([]:BS),([102,97,117,108,116,32,49,58,32,100,105,118,105,115,105,111,110,32,98,121,32,122,101,114,111]:BS),([102,97,117,108,116,32,50,58,32,110,105,108,32,112,111,105,110,116,101,114]:BS),([102,97,117,108,116,32,51,58,32,111,117,116,32,111,102,32,114,97,110,103,101]:BS)][(p0.value.int).toNat]?=some e/\Lz PG K e p0)/\(¬(p0.tag=4)->(p0.tag≠0->∃c:BS,Ze PG 106 [p0.value.av] (.s c)/\([112,97,110,105,99,32]:BS).length+c.length<=Yj/\Lz PG K (([112,97,110,105,99,32]:BS)++c) p0)/\(¬(p0.tag≠0)->Lz PG K ([101,120,105,116]:BS) p0))
end
section
variable{K:BS->Prop}(hQ:H1 AV.s 2 Q K)
variable{s3:BS}{m0:Zh}{v0:Nat}{p0:Zh}
variable(H1:U 1=.p (d,0) v0 0)(H0:U 0=p0.av)(H3:U 3=.s s3)(B0:lk st.bx (d,0)=some (v0,Zh.cs m0))
include hQ H3 in
theorem Xku(h:ua PG K s3):W PG d Ykg U st Q:=
 au trivial
include hQ H1 H3 B0 in
theorem Ywo(h:t_ PG K s3 m0):W PG d Ytb U st Q:=
 au @Xku
include hQ H1 H3 B0 in
theorem Q2(h:Lz PG K s3 m0):W PG d Yg1 U st Q:=
 au @Ywo
def Xeq(h:J_ PG K p0):W PG d Ytr U st Q:=
 q_ J<|Jw H0 J<|m_<|e_<|q_ J<|m_<|e_<|Zl<|q_ J<|f_ J<|l_ J Zj J J<|b_ J J Xf<|e_<|Yi J (fun c=>W.reg0 J fun _ _=>Wr (f:=Zv) (l:=[([]:BS),(wi:BS),(wk:BS),(wj:BS)]) J J (Yl J J J<|Yl J J J<|Yl J J J<|Yl J J J Wi) J<|f_ J<|f_ J<|l_ J Zj J J<|(h.1 c).2.elim fun _ j=>Xy J J (h.1 c).1 j.1 J J<|Xx J J J<|m_<|e_<|Q2 hQ J J Zj j.2)<|fun c=>q_ J<|f_ J<|l_ J Zj J J<|b_ J J Vr<|e_<|Yi J (fun i=>W.reg0 J fun _ _=>f_ J<|l_ J Zj J J<|((h.2 c).1 i).elim fun _ e=>Yh (Xu J J) e.1<|b_ J J (Xp e.2.1)<|m_<|e_<|Q2 hQ J J Zj e.2.2)<|fun i=>Ya<|Q2 hQ J J Zj<|(h.2 c).2 i
def Xnj(hf:PG.fn 179=some tT)(h:J_ PG K p0):∃aa:BS,K aa/\Ze PG 179 [p0.av] (.s aa):=
 P1 hf J<|Xeq (h1 J fun _=>J) J h
end
abbrev Ye1:AC:= (sR 17 [oM 47 5,oM 2 47,oI 3 0] .ret)
abbrev Yhr:AC:= (.seq (sR 15 [oF 41 6 1,oL 42 41,oB 43 .and (.t 42)<|.c<|.i .u64 4,oB 44 .neq (.t 43)<|.c<|.i .u64 0]<|cD 44 (.reg 16 [oM 45 5,oB 46 .add (.t 45)<|.c<|.s wx,oM 5 46]) .skip) Ye1)
abbrev Yjh:AC:= (.seq (sR 13 [oF 35 6 1,oL 36 35,oB 37 .and (.t 36)<|.c<|.i .u64 1,oB 38 .neq (.t 37)<|.c<|.i .u64 0]<|cD 38 (.reg 14 [oM 39 5,oB 40 .add (.t 39)<|.c<|.s wm,oM 5 40]) .skip) Yhr)
abbrev Ys7:AC:= (sR 0 [oY 1 7 0,oC 2<|.s [],oI 3 0]<|.seq (sR 1 [oK 8 7 1,oQ 9 158 [8],oM 4 9]<|sR 2 [oM 10 4,oV 11 .neq 10 0]<|cD 11 (sR 3 [oM 12 4,oC 2<|.s [],oM 3 12] .ret) .skip)<|sR 4 [oC 5<|.s k_]<|.seq (sR 5 [oF 13 0 1,oL 14 13]<|.block 0<|sR 10 [oB 27 .eql (.t 14)<|.c<|.i .u64 0,oM 26 27]<|cD 26 .skip<|sR 11 [oB 29 .eql (.t 14)<|.c<|.i .u64 4,oM 28 29]<|cD 28 (.reg 12 [oQ 30 178 [],oF 31 1 1,oF 32 1 31,oL 33 32,oO 34<|.ixA 4 1 false (.t 30)<|.t 33,oM 5 34])<|sR 6 [oF 16 1 1,oK 17 5 16,oQ 18 72 [17],oM 15 18,oE 19 0 15,oE 20 1 15,oM 6 19,oM 7 20]<|.seq (sR 7 [oM 21 7,oV 22 .neq 21 0]<|cD 22 (sR 8 [oM 23 7,oC 2<|.s [],oM 3 23] .ret) .skip)<|.reg 9 [oM 24 6,oB 25 .add (.c<|.s wA)<|.t 24,oM 5 25]) Yjh)
def tQ:AF:= { nt:=48,res:=[.tmp 2,.tmp 3],body:=Ys7 }
def uc(PG:Zb)(K:BS->Int->Prop)(s5:BS):Prop:=
  K s5 0
section
variable(PG:Zb)(K:BS->Int->Prop)
def ub(s5:BS)(m0:Zh):Prop:=
  ((Ho .u64 m0.flags 4)≠0->s5.length+([32,97,98,111,114,116,101,100]:BS).length<=Yj/\uc PG K (s5++([32,97,98,111,114,116,101,100]:BS)))/\(¬((Ho .u64 m0.flags 4)≠0)->uc PG K s5)
def Ei(s5:BS)(m0:Zh):Prop:=
  ((Ho .u64 m0.flags 1)≠0->s5.length+([32,114,101,99,111,118,101,114,101,100]:BS).length<=Yj/\ub PG K (s5++([32,114,101,99,111,118,101,114,101,100]:BS)) m0)/\(¬((Ho .u64 m0.flags 1)≠0)->ub PG K s5 m0)
def KA(p0:Zh):Prop:=
  ∃c,Ze PG 158 [p0.av] (.i .i64 c)/\(c≠0->K ([]:BS) c)/\(¬(c≠0)->(p0.tag=0->Ei PG K ([101,120,105,116]:BS) p0)/\(¬(p0.tag=0)->(p0.tag=4->∃k:LB,Ze PG 178 [] (.ag (List.map AV.s k))/\k.length=4/\0<=p0.value.int/\∃o,(k:LB)[(p0.value.int).toNat]?=some o/\Ei PG K o p0)/\(¬(p0.tag=4)->∃j:BS,∃e,Ze PG 72 [p0.value.av] (.tup [.s j,.i .i64 e])/\(e≠0->K ([]:BS) e)/\(¬(e≠0)->([112,97,110,105,99,32]:BS).length+j.length<=Yj/\Ei PG K (([112,97,110,105,99,32]:BS)++j) p0))))
end
section
variable{K:BS->Int->Prop}(hQ:H2 AV.s (AV.i .i64) 2 3 Q K)
variable{s5:BS}{m0:Zh}{v0:Nat}{p0:Zh}
variable(H1:U 1=.p (d,0) v0 0)(H0:U 0=p0.av)(H5:U 5=.s s5)(B0:lk st.bx (d,0)=some (v0,Zh.cs m0))
include hQ H5 in
theorem Ywc(h:uc PG K s5):W PG d Ye1 U st Q:=
 au trivial
include hQ H1 H5 B0 in
theorem Xvx(h:ub PG K s5 m0):W PG d Yhr U st Q:=
 au @Ywc
include hQ H1 H5 B0 in
theorem Yve(h:Ei PG K s5 m0):W PG d Yjh U st Q:=
 au @Xvx
include hQ H0 in
theorem Xhh(h:KA PG K p0):W PG d Ys7 U st Q:=
 au @Yve
def Xqd(hf:PG.fn 154=some tQ)(h:KA PG K p0):∃aa:BS,∃ae:Int,K aa ae/\Ze PG 154 [p0.av] (.tup [.s aa,.i .i64 ae]):=
 P2 hf J<|Xhh (h2 J fun _ _=>J) J h
end
abbrev Xp3(Q:Q0)(K:BS->Int->Prop):Prop:=∀(U:Sl)(st:St)(aa:BS)(ae:Int),U 2=.s aa->U 3=.i .i64 ae->K aa ae->Q .ret U st
section
variable{K:BS->Int->Prop}(hQ:Xp3 Q K)
end
end Go.AM

namespace Go.AM
open Go
set_option maxRecDepth 4000
variable{PG:Zb}{d:Nat}{Q:Q0}{U:Sl}{st:St}
def Xk7: (IntKind.i64 != IntKind.i8)=true:=rfl
set_option maxHeartbeats 2000000
attribute [local irreducible] Decidable.decide W WO Ve Vd
def Ykx:List AI:=[oV 30 .add 16 1,oM 16 30]
def Ylc:List AI:=[oV 61 .add 45 1,oM 45 61]
abbrev Ycp:AC:= (cD 26 (sR 7 [oM 27 4,oO 28<|.build aX [(0,1,(.c<|.i .u8 2)),(1,1,(.t 27))],oO 29<|.build dI [(0,1,(.c<|.i .u64 4)),(1,5,(.t 28))],oS 7 2 29,oC 3<|.b true] .ret) .skip)
abbrev qg:AC:= (sR 4 [oV 17 .lss 16 4]<|.seq (cD 17 .skip<|.exit 0)<|.seq (.block 1<|sR 5 [oM 18 16,oO 19<|.ixA 4 1 false (.t 15)<|.t 16,oM 4 18,oM 5 19]<|sR 6 [oM 20 4,oV 21 .gtr 20 0,oM 22 21,gT 22<|oM 23 5,gT 22<|oM 24 0,gT 22<|oT 25 .eql 23 24,oA 26 22 25] Ycp)<|.reg 8 Ykx)
abbrev Ylh:AC:= (cD 56 (sR 17 [oM 57 10,oO 58<|.cvi .u64<|.t 57,oK 59 5 8,oO 60<|.build dI [(0,1,(.t 58)),(1,5,(.t 59))],oS 7 2 60,oC 3<|.b true] .ret) .skip)
abbrev qh:AC:= (sR 14 [oV 46 .lss 45 5]<|.seq (cD 46 .skip<|.exit 2)<|.seq (.block 3<|sR 15 [oM 47 45,oO 48<|.ixA 5 1 false (.t 44)<|.t 45,oM 10 47,oM 11 48]<|sR 16 [oM 49 9,oV 50 .eql 49 0,oM 51 50,gT 51<|oM 52 11,gT 51<|oF 53 0 8,gT 51<|oL 54 53,gT 51<|oT 55 .eql 52 54,oA 56 51 55] Ylh)<|.reg 18 Ylc)
abbrev Ox:AC:= (sR 19 [oO 62<|.build dI [],oS 7 2 62,oC 3<|.b false] .ret)
abbrev Ip:AC:= (sR 9 [oM 32 0,oO 33<|.call false 36 [(.t 32),(.c<|.s wA)],oM 31 33,oE 34 0 31,oE 35 1 31,oM 6 34,oM 7 35]<|.seq (sR 10 [oM 36 7,oZ 37 36]<|cD 37 (sR 11 [oO 38<|.build dI [],oS 7 2 38,oC 3<|.b false] .ret) .skip)<|sR 12 [oM 40 6,oQ 41 74 [40],oM 39 41,oE 42 0 39,oE 43 1 39,oO 8<|.alloc aX,oS 5 8 42,oM 9 43]<|.seq (sR 13 [oQ 44 183 [],oI 45 0]<|.block 2<|.loop qh) Ox)
abbrev Yug:AC:= (.seq (sR 3 [oQ 15 178 [],oI 16 0]<|.block 0<|.loop qg) Ip)
abbrev Yn9:AC:= (.seq (sR 1 [oM 12 0,oB 13 .eql (.t 12)<|.c<|.s k_]<|cD 13 (sR 2 [oO 14<|.build dI [(6,1,(.c<|.i .u64 2))],oS 7 2 14,oC 3<|.b true] .ret) .skip) Yug)
abbrev Yrv:AC:= (sR 0 [oO 2<|.alloc dI,oC 3<|.b false] Yn9)
def oz:AF:= { nt:=63,res:=[.cell 2 7 true,.tmp 3],body:=Yrv }
abbrev Xfq(Q:Q0)(K:Zh->Bool->Prop):Prop:=∀(U:Sl)(st:St)(k0:Zt)(v0:Nat)(cc:Zr)(aa:Zh)(ae:Bool),U 2=.p k0 v0 0->lk st.bx k0=some (v0,Zh.co cc aa)->U 3=.b ae->K aa ae->Q .ret U st
abbrev Yiq(PG:Zb)(d:Nat)(Q:Q0)(s0:BS)(t15:LB)(t16:Int)(m0:Zh):Prop:=
  ∀(U:Sl)(st:St)(gk:Zr)(v0:Nat),U 0=.s s0->U 2=.p (d,0) v0 0->U 15=.ag (List.map AV.s t15)->U 16=.i .i64 t16->lk st.bx (d,0)=some (v0,Zh.co gk m0)->W PG d (.loop qg) U st (Zs 0 (Zk PG d Ip Q))
def o5(PG:Zb)(K:Zh->Bool->Prop)(P0:Int->Zh->Prop)(s0:BS)(n4:Int)(t15:LB)(t16:Int)(t26:Bool)(m0:Zh):Prop:=
  (t26=true->K (Zh.mk 4 (Za.mk 2 n4 [] ([]:List Za) false) 0) true)/\(t26=false->P0 (IntKind.i64.wrap (t16+1)) m0)
abbrev Yhp(PG:Zb)(d:Nat)(Q:Q0)(e9:Int)(t44:List (UInt8))(t45:Int)(m0:Zh)(dg:Za):Prop:=
  ∀(U:Sl)(st:St)(gk:Zr)(v0 iv:Nat),U 2=.p (d,0) v0 0->U 8=.p (d,49157) iv 0->U 9=.i .i64 e9->U 44=.ag (List.map c8 t44)->U 45=.i .i64 t45->lk st.bx (d,0)=some (v0,Zh.co gk m0)->lk st.bx (d,49157)=some (iv,Za.cs dg)->W PG d (.loop qh) U st (Zs 2 (Zk PG d Ox Q))
def o6(PG:Zb)(K:Zh->Bool->Prop)(P1:Int->Zh->Za->Prop)(e9 kb:Int)(t44:List (UInt8))(t45:Int)(t56:Bool)(m0:Zh)(dg:Za):Prop:=
  (t56=true->K (Zh.mk (IntKind.u64.wrap kb) dg 0) true)/\(t56=false->P1 (IntKind.i64.wrap (t45+1)) m0 dg)
def ug(PG:Zb)(K:Zh->Bool->Prop)(m0:Zh):Prop:=
  K (Zh.mk 0 (Za.mk 0 0 [] ([]:List Za) false) 0) false
section
variable(PG:Zb)(K:Zh->Bool->Prop)
def Ly(P1:Int->Zh->Za->Prop)(e9:Int)(t44:List (UInt8))(t45:Int)(m0:Zh)(dg:Za):Prop:=
  (t45<5->t44.length=5/\0<=t45/\∃c:UInt8,(t44:List (UInt8))[(t45).toNat]?=some c/\(e9=0->o6 PG K P1 e9 t45 t44 t45 (decide ((c.toNat:Int)=dg.kind)) m0 dg)/\(¬(e9=0)->o6 PG K P1 e9 t45 t44 t45 false m0 dg))/\(¬(t45<5)->ug PG K m0)
def KI(s0:BS)(m0:Zh):Prop:=
  ∃o c,Ze PG 36 [.s s0,.s ([112,97,110,105,99,32]:BS)] (.tup [.s o,.b c])/\((!c)=true->K (Zh.mk 0 (Za.mk 0 0 [] ([]:List Za) false) 0) false)/\((!c)=false->∃e:Za,∃k,Ze PG 74 [.s o] (.tup [e.av,.i .i64 k])/\∃j,Ze PG 183 [] (.ag (List.map c8 j))/\∀P1:Int->Zh->Za->Prop,(∀(t45:Int)(m0:Zh)(dg:Za),Ly PG K P1 k j t45 m0 dg->P1 t45 m0 dg)->P1 0 m0 e)
def uf(P0:Int->Zh->Prop)(s0:BS)(t15:LB)(t16:Int)(m0:Zh):Prop:=
  (t16<4->t15.length=4/\0<=t16/\∃c,(t15:LB)[(t16).toNat]?=some c/\(t16>0->o5 PG K P0 s0 t16 t15 t16 (decide (c=s0)) m0)/\(¬(t16>0)->o5 PG K P0 s0 t16 t15 t16 false m0))/\(¬(t16<4)->KI PG K s0 m0)
def KH(s0:BS)(m0:Zh):Prop:=
  ∃c,Ze PG 178 [] (.ag (List.map AV.s c))/\∀P0:Int->Zh->Prop,(∀(t16:Int)(m0:Zh),uf PG K P0 s0 c t16 m0->P0 t16 m0)->P0 0 m0
def KG(s0:BS)(m0:Zh):Prop:=
  (s0=([101,120,105,116]:BS)->K (Zh.mk 0 (Za.mk 0 0 [] ([]:List Za) false) 2) true)/\(¬(s0=([101,120,105,116]:BS))->KH PG K s0 m0)
def KF(s0:BS):Prop:=
  KG PG K s0 (Zh.mk 0 (Za.mk 0 0 [] ([]:List Za) false) 0)
end
section
variable{K:Zh->Bool->Prop}(hQ:Xfq Q K)
variable{s0:BS}{n4:Int}{t15:LB}{t16:Int}{t26:Bool}{m0:Zh}{P0:Int->Zh->Prop}{gk:Zr}{v0:Nat}{e9 kb:Int}{t44:List (UInt8)}{t45:Int}{t56:Bool}{dg:Za}{P1:Int->Zh->Za->Prop}{iv:Nat}
variable(aD :∀(t16:Int)(m0:Zh),P0 t16 m0->Yiq PG d Q s0 t15 t16 m0)(bZ :∀(t45:Int)(m0:Zh)(dg:Za),P1 t45 m0 dg->Yhp PG d Q e9 t44 t45 m0 dg)(H0:U 0=.s s0)(H2:U 2=.p (d,0) v0 0)(H4:U 4=.i .i64 n4)(H8:U 8=.p (d,49157) iv 0)(H15:U 15=.ag (List.map AV.s t15))(H9:U 9=.i .i64 e9)(H16:U 16=.i .i64 t16)(aH:U 10=.i .i64 kb)(H26:U 26=.b t26)(H44:U 44=.ag (List.map c8 t44))(Hk:U 45=.i .i64 t45)(mq:U 56=.b t56)(B0:lk st.bx (d,0)=some (v0,Zh.co gk m0))(gl:lk st.bx (d,49157)=some (iv,Za.cs dg))
def Yic(h:o5 PG K P0 s0 n4 t15 t16 t26 m0):W PG d Ycp U st (Zs 1 (Zk PG d (.reg 8 Ykx) (Zk PG d (.loop qg) (Zs 0 (Zk PG d Ip Q))))):=
 Xw H26 (fun c=>q_ J<|m_<|Xb (Yr J J<|Yr H4 J Yu)<|Xb (Yr J J<|Yr J J Yu)<|Zy H2 B0 J J J<|m_<|Zu<|hQ _ _ _ _ _ _ _ H2 Zj J<|h.1 c)<|fun c=>Ya<|W.reg0 J fun _ _=>b_ H16 J Vp<|m_<|e_<|aD _ _ (h.2 c) _ _ _ _ H0 H2 H15 J B0
def Yj8(h:o6 PG K P1 e9 kb t44 t45 t56 m0 dg):W PG d Ylh U st (Zs 3 (Zk PG d (.reg 18 Ylc) (Zk PG d (.loop qh) (Zs 2 (Zk PG d Ox Q))))):=
 Xw mq (fun c=>q_ J<|m_<|Ls aH<|l_ H8 gl J J<|Xb (Yr J J<|Yr J J Yu)<|Zy H2 B0 J J J<|m_<|Zu<|hQ _ _ _ _ _ _ _ H2 Zj J<|h.1 c)<|fun c=>Ya<|W.reg0 J fun _ _=>b_ Hk J Vp<|m_<|e_<|bZ _ _ _ (h.2 c) _ _ _ _ _ H2 H8 H9 H44 J B0 gl
include hQ H2 B0 in
theorem Xs9(h:ug PG K m0):W PG d Ox U st Q:=
 au trivial
def Xsg(h:Ly PG K P1 e9 t44 t45 m0 dg):W PG d qh U st (Zk PG d (.loop qh) (Zs 2 (Zk PG d Ox Q))):=
 q_ J<|b_ Hk J Wp<|e_<|Zl<|Yi J (fun c=>Ya<|Zl<|Yg<|q_ J<|m_<|(h.1 c).2.2.elim fun _ e=>Cy (f:=c8) (h.1 c).1 H44 Hk (h.1 c).2.1 e.1<|m_<|m_<|e_<|q_ J<|Wc H9<|b_ J J Xf<|Yt J<|Xe (g:=51) J (fun i=>Zg J<|Wc J<|Zg J<|f_ H8<|Zg J<|l_ J gl J J<|Zg J<|b_ J J Xf<|Gz J J<|e_<|Yj8 hQ bZ H2 H8 H9 Hk H44 Hk J B0 gl<|e.2.1 i)<|fun i=>z_ 5 J<|e_<|Yj8 hQ bZ H2 H8 H9 Hk H44 Hk J B0 gl<|e.2.2 i)<|fun c=>Vg<|Xs9 hQ H2 B0<|h.2 c
include hQ H0 H2 B0 in
theorem Xhg(h:KI PG K s0 m0):W PG d Ip U st Q:=
 q_ J<|m_<|x2 h fun _ _ c=>Yh (Wk H0 J J) c.1<|m_<|x_ J J<|x_ J J<|m_<|m_<|e_<|Zl<|q_ J<|m_<|Wa J<|e_<|Xw J (fun e=>q_ J<|Xb Yu<|Zy H2 B0 J J J<|m_<|Zu<|hQ _ _ _ _ _ _ _ H2 Zj J<|c.2.1 e)<|fun e=>Ya<|Zl<|W.reg<|m_<|x2 (c.2.2 e) fun _ o j=>Yh (Xu J J) j.1<|m_<|x_ J J<|x_ J J<|Xl<|Zy J (show lk _ (d,49157)=some (_,cS)from Zj) J J J<|m_<|e_<|Zl<|q_ J<|j.2.elim fun p k=>Yh sn k.1<|m_<|e_<|Yg<|k.2 (Yhp PG d Q o p) (fun _ _ _ hb _ _ _ _ _ H2 H8 H9 H44 Hk B0 gl=>W.loop<|Xsg hQ (fun _ _ _ x=>x) H2 H8 H9 H44 Hk B0 gl hb) _ _ _ _ _ H2 J J J J (Zm J<|Zm J B0) Zj
def Wa3(h:uf PG K P0 s0 t15 t16 m0):W PG d qg U st (Zk PG d (.loop qg) (Zs 0 (Zk PG d Ip Q))):=
 q_ J<|b_ H16 J Wp<|e_<|Zl<|Yi J (fun c=>Ya<|Zl<|Yg<|q_ J<|m_<|(h.1 c).2.2.elim fun _ e=>Cy (f:=AV.s) (h.1 c).1 H15 H16 (h.1 c).2.1 e.1<|m_<|m_<|e_<|q_ J<|Wc H16<|b_ J J Jd<|Yt J<|Xe (g:=22) J (fun i=>Zg J<|Ki J<|Zg J<|Ki H0<|Zg J<|b_ J J Bf<|Gz J J<|e_<|Yic hQ aD H0 H2 H16 H15 H16 J B0<|e.2.1 i)<|fun i=>z_ 4 J<|e_<|Yic hQ aD H0 H2 H16 H15 H16 J B0<|e.2.2 i)<|fun c=>Vg<|Xhg hQ H0 H2 B0<|h.2 c
def Xd4(h:KH PG K s0 m0):W PG d Yug U st Q:=
 Zl<|q_ J<|h.elim fun e c=>Yh sn c.1<|m_<|e_<|Yg<|c.2 (Yiq PG d Q s0 e) (fun _ _ hb _ _ _ _ H0 H2 H15 H16 B0=>W.loop<|Wa3 hQ (fun _ _ x=>x) H0 H2 H15 H16 B0 hb) _ _ _ _ H0 H2 J J B0
def Xsl(h:KG PG K s0 m0):W PG d Yn9 U st Q:=
 Zl<|q_ J<|m_<|b_ H0 J Bf<|e_<|Yi J (fun c=>q_ J<|Xb (Yr J J Yu)<|Zy H2 B0 J J J<|m_<|Zu<|hQ _ _ _ _ _ _ _ H2 Zj J<|h.1 c)<|fun c=>Ya<|Xd4 hQ H0 H2 B0<|h.2 c
include hQ H0 in
theorem Wcg(h:KF PG K s0):W PG d Yrv U st Q:=
 au @Xsl
theorem Xu5(hf:PG.fn 181=some oz)(h:KF PG K s0):∃aa:Zh,∃ae:Bool,K aa ae/\Ze PG 181 [.s s0] (.tup [aa.av,.b ae]):=by
  obtain⟨v,hv,aa,ae,hk,rfl⟩:=Ze.of (K:=fun v=>∃aa:Zh,∃ae:Bool,K aa ae/\v=.tup [aa.av,.b ae]) hf rfl (Wcg (U:=Wg [.s s0]) (fun U st k0 v0 cc aa ae H2 dT H3 hk=>⟨.tup [aa.avo cc,.b ae],by simp only[oz,Xj,Wz,Jc (n:=7) H2 dT rfl,H3,Km,kK],_,rfl,aa,ae,hk,rfl⟩) rfl h)
  exact⟨aa,ae,hk,hv⟩
end
abbrev Ydt:AC:= (.seq (sR 10 [oM 38 8,oZ 39 38,oM 40 39,gF 40<|oK 41 7 7,gF 40<|oQ 42 158 [41],gF 40<|oV 43 .neq 42 0,oR 44 40 43]<|cD 44 (sR 11 [oO 45<|.build dI [],oS 7 2 45,oI 3 12] .ret) .skip)<|sR 12 [oK 46 7 7,oS 7 2 46,oI 3 0] .ret)
abbrev Yh8:AC:= (.seq (sR 8 [oM 33 5]<|cD 33 (.reg 9 [oF 34 6 7,oL 35 34,oB 36 .or (.t 35)<|.c<|.i .u64 4,oF 37 6 7,oS 1 37 36]) .skip) Ydt)
abbrev Yq7:AC:= (sR 0 [oO 2<|.alloc dI,oI 3 0]<|.seq (sR 1 [oM 9 0,oH 10 9,oV 11 .gtr 10 2000]<|cD 11 (sR 2 [oO 12<|.build dI [],oS 7 2 12,oI 3 4] .ret) .skip)<|sR 3 [oM 14 0,oO 15<|.call false 180 [(.t 14),(.c<|.s wx)],oM 13 15,oE 16 0 13,oE 17 1 13,oM 4 16,oM 5 17]<|sR 4 [oM 19 4,oO 20<|.call false 180 [(.t 19),(.c<|.s wm)],oM 18 20,oE 21 0 18,oE 22 1 18,oM 4 21,oM 6 22]<|sR 5 [oM 24 4,oQ 25 181 [24],oM 23 25,oE 26 0 23,oE 27 1 23,oO 7<|.alloc dI,oS 7 7 26,oM 8 27]<|.seq (sR 6 [oM 28 6]<|cD 28 (.reg 7 [oF 29 6 7,oL 30 29,oB 31 .or (.t 30)<|.c<|.i .u64 1,oF 32 6 7,oS 1 32 31]) .skip) Yh8)
def Od:AF:= { nt:=47,res:=[.cell 2 7 true,.tmp 3],body:=Yq7 }
abbrev Yz8(Q:Q0)(K:Zh->Int->Prop):Prop:=∀(U:Sl)(st:St)(k0:Zt)(v0:Nat)(cc:Zr)(aa:Zh)(ae:Int),U 2=.p k0 v0 0->lk st.bx k0=some (v0,Zh.co cc aa)->U 3=.i .i64 ae->K aa ae->Q .ret U st
section
variable(PG:Zb)(K:Zh->Int->Prop)
def Aw(bS:Bool)(m0 fq:Zh):Prop:=
  ((!bS)=true->K (Zh.mk 0 (Za.mk 0 0 [] ([]:List Za) false) 0) 12)/\((!bS)=false->∃c,Ze PG 158 [fq.av] (.i .i64 c)/\(c≠0->K (Zh.mk 0 (Za.mk 0 0 [] ([]:List Za) false) 0) 12)/\(¬(c≠0)->K fq 0))
def o7(bi bS:Bool)(m0 fq:Zh):Prop:=
  (bi=true->Aw PG K bS m0 (Zh.mk fq.tag fq.value (It .u64 fq.flags 4)))/\(bi=false->Aw PG K bS m0 fq)
def KJ(s0:BS):Prop:=
  ((s0.length:Int)>2000->K (Zh.mk 0 (Za.mk 0 0 [] ([]:List Za) false) 0) 4)/\(¬((s0.length:Int)>2000)->∃o e,Ze PG 180 [.s s0,.s ([32,97,98,111,114,116,101,100]:BS)] (.tup [.s o,.b e])/\∃k j,Ze PG 180 [.s o,.s ([32,114,101,99,111,118,101,114,101,100]:BS)] (.tup [.s k,.b j])/\∃c:Zh,∃i,Ze PG 181 [.s k] (.tup [c.av,.b i])/\(j=true->o7 PG K e i (Zh.mk 0 (Za.mk 0 0 [] ([]:List Za) false) 0) (Zh.mk c.tag c.value (It .u64 c.flags 1)))/\(j=false->o7 PG K e i (Zh.mk 0 (Za.mk 0 0 [] ([]:List Za) false) 0) c))
end
section
variable{K:Zh->Int->Prop}(hQ:Yz8 Q K)
variable{bS:Bool}{m0 fq:Zh}{gk:Zr}{v0 ke:Nat}{bi:Bool}{s0:BS}
variable(H2:U 2=.p (d,0) v0 0)(H0:U 0=.s s0)(H5:U 5=.b bi)(H7:U 7=.p (d,20485) ke 0)(H8:U 8=.b bS)(B0:lk st.bx (d,0)=some (v0,Zh.co gk m0))(kf:lk st.bx (d,20485)=some (ke,Zh.cs fq))
include hQ H2 H7 H8 B0 kf in
theorem Xnd(h:Aw PG K bS m0 fq):W PG d Ydt U st Q:=
 au trivial
include hQ H2 H5 H7 H8 B0 kf in
theorem Xw3(h:o7 PG K bi bS m0 fq):W PG d Yh8 U st Q:=
 au @Xnd
include hQ H0 in
theorem Xkx(h:KJ PG K s0):W PG d Yq7 U st Q:=
 au @Xw3
theorem Yxt(hf:PG.fn 156=some Od)(h:KJ PG K s0):∃aa:Zh,∃ae:Int,K aa ae/\Ze PG 156 [.s s0] (.tup [aa.av,.i .i64 ae]):=by
  obtain⟨v,hv,aa,ae,hk,rfl⟩:=Ze.of (K:=fun v=>∃aa:Zh,∃ae:Int,K aa ae/\v=.tup [aa.av,.i .i64 ae]) hf rfl (Xkx (U:=Wg [.s s0]) (fun U st k0 v0 cc aa ae H2 dT H3 hk=>⟨.tup [aa.avo cc,.i .i64 ae],by simp only[Od,Xj,Wz,Jc (n:=7) H2 dT rfl,H3,Km,kK],_,rfl,aa,ae,hk,rfl⟩) rfl h)
  exact⟨aa,ae,hk,hv⟩
end
abbrev Yns:AC:= (cD 45 (sR 13 [oM 55 4,oO 56<|.slS (.t 55) (some<|.c<|.i .i64 6) none,oQ 57 75 [56],oM 54 57,oE 58 0 54,oE 59 1 54,oO 8<|.alloc aX,oS 5 8 58,oM 9 59]<|.seq (sR 14 [oM 60 9,oV 61 .neq 60 0]<|cD 61 (sR 15 [oO 62<|.build dI [],oS 7 2 62,oI 3 12] .ret) .skip)<|sR 16 [oK 63 5 8,oF 64 1 7,oS 5 64 63]<|.reg 17 [oO 65<|.bslice [z7] 8 [(0,(.c<|.i .u64 9)),(1,(.c<|.i .u64 2)),(2,(.c<|.i .u64 1)),(3,(.c<|.i .u64 3)),(4,(.c<|.i .u64 9)),(5,(.c<|.i .u64 9)),(6,(.c<|.i .u64 9)),(7,(.c<|.i .u64 9))],oF 66 0 8,oL 67 66,oX 68 1 65 67,oL 69 68,oF 70 0 7,oS 1 70 69])<|sR 6 [oO 24<|.build dI [],oS 7 2 24,oI 3 12] .ret)
abbrev Yrb:AC:= (cD 29 (sR 10 [oF 38 0 7,⟨none,.store 1 (.t 38)<|.c<|.i .u64 4,none⟩]<|.reg 11 [oM 39 4,oO 40<|.ixS (.t 39)<|.c<|.i .i64 6,oO 41<|.cvi .i64<|.t 40,oV 42 .sub 41 48,oO 43<|.build aX [(0,1,(.c<|.i .u8 2)),(1,1,(.t 42))],oF 44 1 7,oS 5 44 43])<|sR 12 [oM 46 4,oH 47 46,oV 48 .gtr 47 6,oM 49 48,gT 49<|oM 50 4,gT 49<|oO 51<|.slS (.t 50) none<|some<|.c<|.i .i64 6,gT 49<|oB 52 .eql (.t 51)<|.c<|.s wA,oA 53 49 52,oM 45 53] Yns)
abbrev Ygk:AC:= (.seq (sR 22 [oK 81 7 7,oQ 82 159 [81],oV 83 .neq 82 0,oM 84 83,gF 84<|oK 85 7 7,gF 84<|oQ 86 179 [85],gF 84<|oM 87 0,gF 84<|oT 88 .neq 86 87,oR 89 84 88]<|cD 89 (sR 23 [oO 90<|.build dI [],oS 7 2 90,oI 3 12] .ret) .skip)<|sR 24 [oK 91 7 7,oS 7 2 91,oI 3 0] .ret)
abbrev Yrf:AC:= (.seq (sR 20 [oM 76 5]<|cD 76 (.reg 21 [oF 77 6 7,oL 78 77,oB 79 .add (.t 78)<|.c<|.i .u64 4,oF 80 6 7,oS 1 80 79]) .skip) Ygk)
abbrev xW:AC:= (.seq (sR 18 [oM 71 6]<|cD 71 (.reg 19 [oF 72 6 7,oL 73 72,oB 74 .add (.t 73)<|.c<|.i .u64 1,oF 75 6 7,oS 1 75 74]) .skip) Yrf)
abbrev Yo7:AC:= (.seq (.block 0<|sR 7 [oM 26 4,oB 27 .eql (.t 26)<|.c<|.s k_,oM 25 27]<|cD 25 (.reg 8 [oF 28 6 7,⟨none,.store 1 (.t 28)<|.c<|.i .u64 2,none⟩])<|sR 9 [oM 30 4,oH 31 30,oV 32 .gtr 31 6,oM 33 32,gT 33<|oM 34 4,gT 33<|oO 35<|.slS (.t 34) none<|some<|.c<|.i .i64 6,gT 33<|oB 36 .eql (.t 35)<|.c<|.s [102,97,117,108,116,32],oA 37 33 36,oM 29 37] Yrb) xW)
abbrev Yot:AC:= (sR 5 [oO 7<|.alloc dI] Yo7)
abbrev Ylf:AC:= (sR 4 [oM 20 4,oO 21<|.call false 182 [(.t 20),(.c<|.s wm)],oM 19 21,oE 22 0 19,oE 23 1 19,oM 4 22,oM 6 23] Yot)
abbrev Yo1:AC:= (sR 3 [oM 15 0,oO 16<|.call false 182 [(.t 15),(.c<|.s wx)],oM 14 16,oE 17 0 14,oE 18 1 14,oM 4 17,oM 5 18] Ylf)
abbrev Ymg:AC:= (.seq (sR 1 [oM 10 0,oH 11 10,oV 12 .gtr 11 2000]<|cD 12 (sR 2 [oO 13<|.build dI [],oS 7 2 13,oI 3 4] .ret) .skip) Yo1)
abbrev Yjl:AC:= (sR 0 [oO 2<|.alloc dI,oI 3 0] Ymg)
def oy:AF:= { nt:=92,res:=[.cell 2 7 true,.tmp 3],body:=Yjl }
abbrev Yz7(Q:Q0)(K:Zh->Int->Prop):Prop:=∀(U:Sl)(st:St)(k0:Zt)(v0:Nat)(cc:Zr)(aa:Zh)(ae:Int),U 2=.p k0 v0 0->lk st.bx k0=some (v0,Zh.co cc aa)->U 3=.i .i64 ae->K aa ae->Q .ret U st
section
variable(PG:Zb)(K:Zh->Int->Prop)
def o8(s0:BS)(m0 bq:Zh):Prop:=
  ∃e,Ze PG 159 [bq.av] (.i .i64 e)/\(e≠0->K (Zh.mk 0 (Za.mk 0 0 [] ([]:List Za) false) 0) 12)/\(¬(e≠0)->∃c,Ze PG 179 [bq.av] (.s c)/\(c≠s0->K (Zh.mk 0 (Za.mk 0 0 [] ([]:List Za) false) 0) 12)/\(¬(c≠s0)->K bq 0))
def uh(s0:BS)(bi:Bool)(m0 bq:Zh):Prop:=
  (bi=true->o8 PG K s0 m0 (Zh.mk bq.tag bq.value (IntKind.u64.wrap (bq.flags+4))))/\(bi=false->o8 PG K s0 m0 bq)
def Lu(s0:BS)(bi bu:Bool)(m0 bq:Zh):Prop:=
  (bu=true->uh PG K s0 bi m0 (Zh.mk bq.tag bq.value (IntKind.u64.wrap (bq.flags+1))))/\(bu=false->uh PG K s0 bi m0 bq)
def o_(s0 cr:BS)(bi bu t45:Bool)(m0 bq:Zh):Prop:=
  (t45=true->6<=cr.length/\∃c:Za,∃e,Ze PG 75 [.s (cr.drop 6)] (.tup [c.av,.i .i64 e])/\(e≠0->K (Zh.mk 0 (Za.mk 0 0 [] ([]:List Za) false) 0) 12)/\(¬(e≠0)->0<=c.kind/\∃j,[9,2,1,3,9,9,9,9][(c.kind).toNat]?=some j/\Lu PG K s0 bi bu m0 (Zh.mk j c bq.flags)))/\(t45=false->K (Zh.mk 0 (Za.mk 0 0 [] ([]:List Za) false) 0) 12)
def pa(s0 cr:BS)(bi bu t29:Bool)(m0 bq:Zh):Prop:=
  (t29=true->∃c:UInt8,cr[6]?=some c/\Lu PG K s0 bi bu m0 (Zh.mk 4 (Za.mk 2 (IntKind.i64.wrap ((c.toNat:Int)-48)) [] ([]:List Za) false) bq.flags))/\(t29=false->((cr.length:Int)>6->6<=cr.length/\o_ PG K s0 cr bi bu (decide ((cr.take 6)=([112,97,110,105,99,32]:BS))) m0 bq)/\(¬((cr.length:Int)>6)->o_ PG K s0 cr bi bu false m0 bq))
def KQ(s0 cr:BS)(bi bu:Bool)(m0 bq:Zh):Prop:=
  (cr=([101,120,105,116]:BS)->Lu PG K s0 bi bu m0 (Zh.mk bq.tag bq.value 2))/\(¬(cr=([101,120,105,116]:BS))->((cr.length:Int)>6->6<=cr.length/\pa PG K s0 cr bi bu (decide ((cr.take 6)=([102,97,117,108,116,32]:BS))) m0 bq)/\(¬((cr.length:Int)>6)->pa PG K s0 cr bi bu false m0 bq))
def KP(s0 cr:BS)(bi bu:Bool)(m0:Zh):Prop:=
  KQ PG K s0 cr bi bu m0 (Zh.mk 0 (Za.mk 0 0 [] ([]:List Za) false) 0)
def KO(s0 cr:BS)(bi:Bool)(m0:Zh):Prop:=
  ∃c e,Ze PG 182 [.s cr,.s ([32,114,101,99,111,118,101,114,101,100]:BS)] (.tup [.s c,.b e])/\KP PG K s0 c bi e m0
def KN(s0:BS)(m0:Zh):Prop:=
  ∃c e,Ze PG 182 [.s s0,.s ([32,97,98,111,114,116,101,100]:BS)] (.tup [.s c,.b e])/\KO PG K s0 c e m0
def KM(s0:BS)(m0:Zh):Prop:=
  ((s0.length:Int)>2000->K (Zh.mk 0 (Za.mk 0 0 [] ([]:List Za) false) 0) 4)/\(¬((s0.length:Int)>2000)->KN PG K s0 m0)
def KL(s0:BS):Prop:=
  KM PG K s0 (Zh.mk 0 (Za.mk 0 0 [] ([]:List Za) false) 0)
end
section
variable{K:Zh->Int->Prop}(hQ:Yz7 Q K)
variable{s0:BS}{m0 bq:Zh}{gk iw:Zr}{v0 kg:Nat}{bi bu:Bool}{cr:BS}{t45 t29:Bool}
variable(H0:U 0=.s s0)(H2:U 2=.p (d,0) v0 0)(H4:U 4=.s cr)(H5:U 5=.b bi)(H6:U 6=.b bu)(H7:U 7=.p (d,20480) kg 0)(Hk:U 45=.b t45)(H29:U 29=.b t29)(gm:Yo d st.ow iw bq.value.list.length)(B0:lk st.bx (d,0)=some (v0,Zh.co gk m0))(eu:lk st.bx (d,20480)=some (kg,Zh.co iw bq))
include hQ H0 H2 H7 B0 eu in
theorem Xej(h:o8 PG K s0 m0 bq):W PG d Ygk U st Q:=
 au trivial
include hQ H0 H2 H5 H7 B0 eu in
theorem Wdf(h:uh PG K s0 bi m0 bq):W PG d Yrf U st Q:=
 au @Xej
include hQ H0 H2 H5 H6 H7 B0 eu in
theorem Q3(h:Lu PG K s0 bi bu m0 bq):W PG d xW U st Q:=
 au @Wdf
def Ydr(h:o_ PG K s0 cr bi bu t45 m0 bq):W PG d Yns U st (Zs 0 (Zk PG d xW Q)):=
 Xw Hk (fun e=>Zl<|W.reg<|m_<|Jo H4 J (by decide) (h.1 e).1<|x2 (h.1 e).2 fun p _ c=>Yh (Xu J J) c.1<|m_<|x_ J J<|x_ J J<|Xl<|Zy J (show lk _ (d,53254)=some (_,cS)from Zj) J J J<|m_<|e_<|Zl<|q_ J<|m_<|b_ J J Vr<|e_<|Yi J (fun j=>q_ J<|Xb Yu<|Zy H2 (Zm J<|Zm J B0) J J J<|m_<|Zu<|hQ _ _ _ _ _ _ _ H2 Zj J<|c.2.1 j)<|fun j=>Ya<|q_ J<|l_ J Zj J J<|f_ H7<|Zy J (Zm J<|Zm J eu) J J J<|e_<|W.reg0 J fun _ _=>Wr (f:=(Wbi .u64)) (l:=[9,2,1,3,9,9,9,9]) J J (Yl J J J<|Yl J J J<|Yl J J J<|Yl J J J<|Yl J J J<|Yl J J J<|Yl J J J<|Yl J J J Wi) J<|f_ J<|l_ J (Zm J Zj) J J<|(c.2.2 j).2.elim fun o k=>Xy J J (c.2.2 j).1 k.1 J J<|Xx J J J<|f_ H7<|Zy J Zj J J J<|e_<|Q3 (bq:=(Zh.mk o p bq.flags)) hQ H0 H2 H5 H6 H7 (Zm J<|Zm J<|Zm J<|Zm J B0) Zj k.2)<|fun e=>q_ J<|Xb Yu<|Zy H2 B0 J J J<|m_<|Zu<|hQ _ _ _ _ _ _ _ H2 Zj J<|h.2 e
def Yus(h:pa PG K s0 cr bi bu t29 m0 bq):W PG d Yrb U st (Zs 0 (Zk PG d xW Q)):=
 Xw H29 (fun c=>q_ J<|f_ H7<|Zy J eu J J J<|e_<|W.reg0 J fun _ _=>m_<|(h.1 c).elim fun j i=>Qj H4 J (by decide) i.1<|ZG J Xk7<|b_ J J Ms<|Xb (Yr J J<|Yr J J Yu)<|f_ H7<|Zy J Zj J J J<|e_<|Q3 (bq:=(Zh.mk 4 (Za.mk 2 (IntKind.i64.wrap<|(j.toNat:Int)-48) [] ([]:List Za) false) bq.flags)) hQ H0 H2 H5 H6 H7 (Zm J<|Zm J B0) Zj i.2)<|fun c=>q_ J<|Ki H4<|Qb J<|b_ J J Jd<|Yt J<|Xe (g:=49) J (fun e=>Zg J<|Ki H4<|Zg J<|Bc J J (by decide) ((h.2 c).1 e).1<|Zg J<|b_ J J Bf<|z_ 2 J<|e_<|Ydr hQ H0 H2 H4 H5 H6 H7 J B0 eu ((h.2 c).1 e).2)<|fun e=>z_ 5 J<|e_<|Ydr hQ H0 H2 H4 H5 H6 H7 J B0 eu<|(h.2 c).2 e
def Xco(h:KQ PG K s0 cr bi bu m0 bq):W PG d Yo7 U st Q:=
 Zl<|Yg<|q_ J<|m_<|b_ H4 J Bf<|m_<|e_<|Yi J (fun c=>W.reg0 J fun _ _=>f_ H7<|Zy J eu J J J<|e_<|Q3 (bq:=(Zh.mk bq.tag bq.value 2)) hQ H0 H2 H5 H6 H7 (Zm J B0) Zj<|h.1 c)<|fun c=>q_ J<|Ki H4<|Qb J<|b_ J J Jd<|Yt J<|Xe (g:=33) J (fun e=>Zg J<|Ki H4<|Zg J<|Bc J J (by decide) ((h.2 c).1 e).1<|Zg J<|b_ J J Bf<|z_ 2 J<|e_<|Yus hQ H0 H2 H4 H5 H6 H7 J B0 eu ((h.2 c).1 e).2)<|fun e=>z_ 5 J<|e_<|Yus hQ H0 H2 H4 H5 H6 H7 J B0 eu<|(h.2 c).2 e
include hQ H0 H2 H4 H5 H6 B0 in
theorem Xe9(h:KP PG K s0 cr bi bu m0):W PG d Yot U st Q:=
 au @Xco
include hQ H0 H2 H4 H5 B0 in
theorem Xgd(h:KO PG K s0 cr bi m0):W PG d Ylf U st Q:=
 au @Xe9
def Ywl(h:KN PG K s0 m0):W PG d Yo1 U st Q:=
 q_ J<|m_<|x2 h fun _ _ c=>Yh (Wk H0 J J) c.1<|m_<|x_ J J<|x_ J J<|m_<|m_<|e_<|Xgd hQ H0 H2 J J B0 c.2
def Yx3(h:KM PG K s0 m0):W PG d Ymg U st Q:=
 Zl<|q_ J<|m_<|Qb H0<|b_ J J Jd<|e_<|Yi J (fun c=>q_ J<|Xb Yu<|Zy H2 B0 J J J<|m_<|Zu<|hQ _ _ _ _ _ _ _ H2 Zj J<|h.1 c)<|fun c=>Ya<|Ywl hQ H0 H2 B0<|h.2 c
include hQ H0 in
theorem Wbq(h:KL PG K s0):W PG d Yjl U st Q:=
 au @Yx3
theorem Xiy(hf:PG.fn 157=some oy)(h:KL PG K s0):∃aa:Zh,∃ae:Int,K aa ae/\Ze PG 157 [.s s0] (.tup [aa.av,.i .i64 ae]):=by
  obtain⟨v,hv,aa,ae,hk,rfl⟩:=Ze.of (K:=fun v=>∃aa:Zh,∃ae:Int,K aa ae/\v=.tup [aa.av,.i .i64 ae]) hf rfl (Wbq (U:=Wg [.s s0]) (fun U st k0 v0 cc aa ae H2 dT H3 hk=>⟨.tup [aa.avo cc,.i .i64 ae],by simp only[oy,Xj,Wz,Jc (n:=7) H2 dT rfl,H3,Km,kK],_,rfl,aa,ae,hk,rfl⟩) rfl h)
  exact⟨aa,ae,hk,hv⟩
end
abbrev Yf5:AC:= (sR 0 [oY 2 7 0,oY 3 7 1,oC 4<|.b false]<|sR 1 [oF 5 0 2,oL 6 5,oF 7 0 3,oL 8 7,oT 9 .eql 6 8,oM 10 9,gT 10<|oF 11 6 2,gT 10<|oL 12 11,gT 10<|oF 13 6 3,gT 10<|oL 14 13,gT 10<|oT 15 .eql 12 14,oA 16 10 15,oM 17 16,gT 17<|oF 18 1 2,gT 17<|oK 19 5 18,gT 17<|oF 20 1 3,gT 17<|oK 21 5 20,gT 17<|oQ 22 78 [19,21],oA 23 17 22,oM 4 23] .ret)
def ud:AF:= { nt:=24,res:=[.tmp 4],body:=Yf5 }
section
variable(PG:Zb)(K:Bool->Prop)
def KE(a0 b1:Zh):Prop:=
  (a0.tag=b1.tag->(a0.flags=b1.flags->∃c,Ze PG 78 [a0.value.av,b1.value.av] (.b c)/\K c)/\(¬(a0.flags=b1.flags)->K false))/\(¬(a0.tag=b1.tag)->K false)
end
section
variable{K:Bool->Prop}(hQ:H1 AV.b 4 Q K)
variable{a0 b1:Zh}
variable(H0:U 0=a0.av)(H1:U 1=b1.av)
include hQ H0 H1 in
theorem Yyg(h:KE PG K a0 b1):W PG d Yf5 U st Q:=
 au trivial
def Wbf(hf:PG.fn 160=some ud)(h:KE PG K a0 b1):∃aa:Bool,K aa/\Ze PG 160 [a0.av,b1.av] (.b aa):=
 P1 hf J<|Yyg (h1 J fun _=>J) J J h
end
abbrev Xuv(Q:Q0)(K:Bool->Prop):Prop:=∀(U:Sl)(st:St)(aa:Bool),U 4=.b aa->K aa->Q .ret U st
section
variable{K:Bool->Prop}(hQ:Xuv Q K)
end
end Go.AM

namespace Go.AM
open Go
set_option maxRecDepth 4000
set_option maxHeartbeats 2000000
attribute [local irreducible] Decidable.decide W WO Ve Vd
variable{PG:Zb}{d:Nat}{Q:Q0}{U:Sl}{st:St}{Zp:St}
abbrev Xm5(Q:Q0)(K:Int->Prop):Prop:=∀(U:Sl)(st:St)(aa:Int),U 2=.i .i64 aa->K aa->Q .ret U st
section
variable{K:Int->Prop}(hQ:Xm5 Q K)
end
abbrev xX:AC:= (.seq (sR 4 [oM 8 3,oM 9 0,oJ 10 9,oT 11 .lss 8 10]<|cD 11 .skip<|.exit 0)<|.seq (.block 1<|sR 6 [oM 14 0,oM 15 3,oX 16 7 14 15,oK 17 7 16,oQ 18 159 [17],oM 4 18]<|sR 7 [oM 19 4,oV 20 .neq 19 0]<|cD 20 (sR 8 [oM 21 4,oM 2 21] .ret) .skip)<|.reg 5 [oM 12 3,oV 13 .add 12 1,oM 3 13])
abbrev xY:AC:= (sR 9 [oI 2 0] .ret)
abbrev Yib:AC:= (sR 0 [oI 2 0]<|.seq (sR 1 [oM 5 0,oJ 6 5,oV 7 .gtr 6 410]<|cD 7 (sR 2 [oI 2 4] .ret) .skip)<|.seq (sR 3 [oI 3 0]<|.block 0<|.loop xX) xY)
def ui:AF:= { nt:=22,res:=[.tmp 2],body:=Yib }
abbrev Yuf(PG:Zb)(d:Nat)(Q:Q0)(l0:List Zh)(i3:Int):Prop:=
  ∀(U:Sl)(st:St)(jz:Zr),U 0=.sl jz (List.map Zh.row l0)->U 3=.i .i64 i3->W PG d (.loop xX) U st (Zs 0 (Zk PG d xY Q))
def KT(PG:Zb)(K:Int->Prop):Prop:=
  K 0
section
variable(PG:Zb)(K:Int->Prop)
def uk(P0:Int->Prop)(l0:List Zh)(i3:Int):Prop:=
  (i3<(l0.length:Int)->0<=i3/\∃e:Zh,l0[(i3).toNat]?=some e/\∃c,Ze PG 159 [e.av] (.i .i64 c)/\(c≠0->K c)/\(¬(c≠0)->P0 (IntKind.i64.wrap (i3+1))))/\(¬(i3<(l0.length:Int))->KT PG K )
def KS(l0:List Zh):Prop:=
  ((l0.length:Int)>410->K 4)/\(¬((l0.length:Int)>410)->∀P0:Int->Prop,(∀(i3:Int),uk PG K P0 l0 i3->P0 i3)->P0 0)
end
section
variable{K:Int->Prop}(hQ:H1 (AV.i .i64) 2 Q K)
variable{l0:List Zh}{i3:Int}{P0:Int->Prop}{jz:Zr}
variable(aD :∀(i3:Int),P0 i3->Yuf PG d Q l0 i3)(H0:U 0=.sl jz (List.map Zh.row l0))(H3:U 3=.i .i64 i3)
include hQ in
theorem Xq1(h:KT PG K):W PG d xY U st Q:=
 au trivial
include hQ aD H0 H3 in
theorem Xw4(h:uk PG K P0 l0 i3):W PG d xX U st (Zk PG d (.loop xX) (Zs 0 (Zk PG d xY Q))):=
 au @Xq1
def Xdi(h:KS PG K l0):W PG d Yib U st Q:=
 q_ J<|m_<|e_<|Zl<|q_ J<|Yf H0<|Xq J<|b_ J J Jd<|e_<|Yi J (fun c=>q_ J<|m_<|Zu<|hQ J<|h.1 c)<|fun c=>Ya<|Zl<|q_ J<|m_<|e_<|Yg<|(h.2 c) (Yuf PG d Q l0) (fun _ hb _ _ _ H0 H3=>W.loop<|Xw4 hQ (fun _ x=>x) H0 H3 hb) _ _ _ H0 J
def Xip(hf:PG.fn 163=some ui)(h:KS PG K l0):∃aa:Int,K aa/\Ze PG 163 [.sl .ext (List.map Zh.row l0)] (.i .i64 aa):=
 P1 hf J<|Xdi (h1 J fun _=>J) J h
end
abbrev Yy4(Q:Q0)(K:Int->Int->Prop):Prop:=∀(U:Sl)(st:St)(aa ae:Int),U 2=.i .i64 aa->U 3=.i .i64 ae->K aa ae->Q .ret U st
section
variable{K:Int->Int->Prop}(hQ:Yy4 Q K)
end
abbrev Xmu:AC:= (.seq (sR 5 [oM 11 5,oM 12 0,oJ 13 12,oT 14 .lss 11 13]<|cD 14 .skip<|.exit 0)<|.seq (.block 1<|sR 7 [oM 17 0,oM 18 5,oX 19 7 17 18,oF 20 6 19,oL 21 20,oB 22 .eql (.t 21)<|.c<|.i .u64 0]<|cD 22 (sR 8 [oM 23 5,oM 2 23,oI 3 0] .ret) .skip)<|.reg 6 [oM 15 5,oV 16 .add 15 1,oM 5 16])
abbrev Xc6:AC:= (sR 9 [oI 2 0,oI 3 6] .ret)
abbrev Xag:AC:= (sR 0 [oI 2 0,oI 3 0]<|.seq (sR 1 [oM 6 0,oQ 7 163 [6],oM 4 7]<|sR 2 [oM 8 4,oV 9 .neq 8 0]<|cD 9 (sR 3 [oM 10 4,oI 2 0,oM 3 10] .ret) .skip)<|.seq (sR 4 [oI 5 0]<|.block 0<|.loop Xmu) Xc6)
def W8:AF:= { nt:=24,res:=[.tmp 2,.tmp 3],body:=Xag }
abbrev Xat(Q:Q0)(K:Int->Int->Prop):Prop:=∀(U:Sl)(st:St)(aa ae:Int),U 2=.i .i64 aa->U 3=.i .i64 ae->K aa ae->Q .ret U st
section
variable{K:Int->Int->Prop}(hQ:Xat Q K)
end
abbrev xZ:AC:= (.seq (sR 4 [oM 11 5,oM 12 0,oJ 13 12,oT 14 .lss 11 13]<|cD 14 .skip<|.exit 0)<|.seq (.block 1<|sR 6 [oM 17 0,oM 18 5,oX 19 7 17 18,oK 20 7 19,oM 21 1,oM 22 5,oX 23 7 21 22,oK 24 7 23,oQ 25 160 [20,24],oZ 26 25]<|cD 26 (sR 7 [oC 4<|.b false] .ret) .skip)<|.reg 5 [oM 15 5,oV 16 .add 15 1,oM 5 16])
abbrev x7:AC:= (sR 8 [oC 4<|.b true] .ret)
abbrev Yn2:AC:= (sR 0 [oC 4<|.b false]<|.seq (sR 1 [oM 6 0,oJ 7 6,oM 8 1,oJ 9 8,oT 10 .neq 7 9]<|cD 10 (sR 2 [oC 4<|.b false] .ret) .skip)<|.seq (sR 3 [oI 5 0]<|.block 0<|.loop xZ) x7)
def uj:AF:= { nt:=27,res:=[.tmp 4],body:=Yn2 }
abbrev Yoh(PG:Zb)(d:Nat)(Q:Q0)(a0 b1:List Zh)(i5:Int):Prop:=
  ∀(U:Sl)(st:St)(jb jc:Zr),U 0=.sl jb (List.map Zh.row a0)->U 1=.sl jc (List.map Zh.row b1)->U 5=.i .i64 i5->W PG d (.loop xZ) U st (Zs 0 (Zk PG d x7 Q))
def N5(PG:Zb)(K:Bool->Prop):Prop:=
  K true
section
variable(PG:Zb)(K:Bool->Prop)
def vC(P0:Int->Prop)(a0 b1:List Zh)(i5:Int):Prop:=
  (i5<(a0.length:Int)->0<=i5/\∃i:Zh,a0[(i5).toNat]?=some i/\0<=i5/\∃e:Zh,b1[(i5).toNat]?=some e/\∃c,Ze PG 160 [i.av,e.av] (.b c)/\((!c)=true->K false)/\((!c)=false->P0 (IntKind.i64.wrap (i5+1))))/\(¬(i5<(a0.length:Int))->N5 PG K )
def N4(a0 b1:List Zh):Prop:=
  ((a0.length:Int)≠(b1.length:Int)->K false)/\(¬((a0.length:Int)≠(b1.length:Int))->∀P0:Int->Prop,(∀(i5:Int),vC PG K P0 a0 b1 i5->P0 i5)->P0 0)
end
section
variable{K:Bool->Prop}(hQ:H1 AV.b 4 Q K)
variable{a0 b1:List Zh}{i5:Int}{P0:Int->Prop}{jb jc:Zr}
variable(aD :∀(i5:Int),P0 i5->Yoh PG d Q a0 b1 i5)(H0:U 0=.sl jb (List.map Zh.row a0))(H1:U 1=.sl jc (List.map Zh.row b1))(H5:U 5=.i .i64 i5)
include hQ in
theorem Xx3(h:N5 PG K):W PG d x7 U st Q:=
 au trivial
include hQ aD H0 H1 H5 in
theorem Yz2(h:vC PG K P0 a0 b1 i5):W PG d xZ U st (Zk PG d (.loop xZ) (Zs 0 (Zk PG d x7 Q))):=
 au @Xx3
def Was(h:N4 PG K a0 b1):W PG d Yn2 U st Q:=
 q_ J<|m_<|e_<|Zl<|q_ J<|Yf H0<|Xq J<|Yf H1<|Xq J<|b_ J J Vr<|e_<|Yi J (fun c=>q_ J<|m_<|Zu<|hQ J<|h.1 c)<|fun c=>Ya<|Zl<|q_ J<|m_<|e_<|Yg<|(h.2 c) (Yoh PG d Q a0 b1) (fun _ hb _ _ _ _ H0 H1 H5=>W.loop<|Yz2 hQ (fun _ x=>x) H0 H1 H5 hb) _ _ _ _ H0 H1 J
def Xt1(hf:PG.fn 170=some uj)(h:N4 PG K a0 b1):∃aa:Bool,K aa/\Ze PG 170 [.sl .ext (List.map Zh.row a0),.sl .ext (List.map Zh.row b1)] (.b aa):=
 P1 hf J<|Was (h1 J fun _=>J) J J h
end
abbrev Xuf(Q:Q0)(K:Bool->Prop):Prop:=∀(U:Sl)(st:St)(aa:Bool),U 2=.b aa->K aa->Q .ret U st
section
variable{K:Bool->Prop}(hQ:Xuf Q K)
end
abbrev Wb9(Q:Q0)(K:BS->Int->Prop):Prop:=∀(U:Sl)(st:St)(aa:BS)(ae:Int),U 2=.s aa->U 3=.i .i64 ae->K aa ae->Q .ret U st
section
variable{K:BS->Int->Prop}(hQ:Wb9 Q K)
end
abbrev Yvq(Q:Q0)(K:BS->Int->Prop):Prop:=∀(U:Sl)(st:St)(aa:BS)(ae:Int),U 2=.s aa->U 3=.i .i64 ae->K aa ae->Q .ret U st
section
variable{K:BS->Int->Prop}(hQ:Yvq Q K)
end
abbrev Xws(Q:Q0)(K:Bool->Prop):Prop:=∀(U:Sl)(st:St)(aa:Bool),U 4=.b aa->K aa->Q .ret U st
section
variable{K:Bool->Prop}(hQ:Xws Q K)
end
abbrev Xzv(Q:Q0)(K:Za->Prop):Prop:=∀(U:Sl)(st:St)(k0:Zt)(v0:Nat)(cc:Zr)(aa:Za),U 2=.p k0 v0 0->lk st.bx k0=some (v0,Za.co cc aa)->K aa->Q .ret U st
section
variable{K:Za->Prop}(hQ:Xzv Q K)
end
abbrev Xvu(Q:Q0)(K:Za->Prop):Prop:=∀(U:Sl)(st:St)(k0:Zt)(v0:Nat)(cc:Zr)(aa:Za),U 0=.p k0 v0 0->lk st.bx k0=some (v0,Za.co cc aa)->K aa->Q .ret U st
section
variable{K:Za->Prop}(hQ:Xvu Q K)
end
abbrev Xcf(Q:Q0)(K:Za->Prop):Prop:=∀(U:Sl)(st:St)(k0:Zt)(v0:Nat)(cc:Zr)(aa:Za),U 2=.p k0 v0 0->lk st.bx k0=some (v0,Za.co cc aa)->K aa->Q .ret U st
section
variable{K:Za->Prop}(hQ:Xcf Q K)
end
abbrev Xv6(Q:Q0)(K:Bool->Prop):Prop:=∀(U:Sl)(st:St)(aa:Bool),U 2=.b aa->K aa->Q .ret U st
section
variable{K:Bool->Prop}(hQ:Xv6 Q K)
end
abbrev Xvm(d:Nat)(Zp:St)(Q:Q0)(K:List Zh->Prop):Prop:=∀(U:Sl)(st:St)(aa:List Zh),U 0=.sl .full (List.map Zh.row aa)->Fr d (d,0) Zp.bx Zp.ow st.bx st.ow->K aa->Q .ret U st
section
variable{K:List Zh->Prop}(hQ:Xvm d Zp Q K)
end
abbrev Xfw(Q:Q0)(K:Bool->Prop):Prop:=∀(U:Sl)(st:St)(aa:Bool),U 0=.b aa->K aa->Q .ret U st
section
variable{K:Bool->Prop}(hQ:Xfw Q K)
end
end Go.AM

namespace Go.AM
open Go
set_option maxRecDepth 4000
attribute [local irreducible] WO Ve Vd
variable{PG:Zb}{d:Nat}{Q:Q0}{U:Sl}{st:St}
abbrev Xpn(Q:Q0)(K:Bool->Prop):Prop:=∀(U:Sl)(st:St)(aa:Bool),U 4=.b aa->K aa->Q .ret U st
section
variable{K:Bool->Prop}(hQ:Xpn Q K)
end
abbrev Xl6(Q:Q0)(K:Bool->Prop):Prop:=∀(U:Sl)(st:St)(aa:Bool),U 2=.b aa->K aa->Q .ret U st
section
variable{K:Bool->Prop}(hQ:Xl6 Q K)
end
end Go.AM

namespace Go.AM
open Go
set_option maxRecDepth 4000
attribute [local irreducible] WO Ve Vd
variable{PG:Zb}{d:Nat}{Q:Q0}{U:Sl}{st:St}
abbrev Ysy:AC:= (.reg 5 [oM 11 6,oV 12 .add 11 1,oM 6 12])
abbrev Oo:AC:= (.seq (sR 4 [oM 7 6,oM 8 0,oH 9 8,oT 10 .lss 7 9]<|cD 10 .skip<|.exit 0)<|.seq (.block 1<|sR 6 [oM 13 0,oM 14 6,oO 15<|.ixS (.t 13)<|.t 14,oW 16 .eql 15 10]<|cD 16 (sR 7 [oM 17 4,oM 18 0,oM 19 5,oM 20 6,oO 21<|.slS (.t 18) (some<|.t 19)<|some<|.t 20,oO 22<|.bslice [zs] 1 [(0,(.t 21))],oO 23<|.app 1 16 (.t 17)<|.t 22,oM 4 23]<|.reg 8 [oM 24 6,oV 25 .add 24 1,oM 5 25]) .skip) Ysy)
abbrev qi:AC:= (sR 9 [oM 26 4,oM 27 5,oM 28 0,oH 29 28,oT 30 .eql 27 29,oM 2 26,oM 3 30] .ret)
abbrev Ypp:AC:= (sR 0 [oC 2<|.sl .full [],oC 3<|.b false]<|sR 1 [oC 4<|.sl .full []]<|sR 2 [oI 5 0]<|.seq (sR 3 [oI 6 0]<|.block 0<|.loop Oo) qi)
def Lf:AF:= { nt:=31,res:=[.tmp 2,.tmp 3],body:=Ypp }
abbrev Yts(PG:Zb)(d:Nat)(Q:Q0)(s0:BS)(fy:LB)(dd i6:Int):Prop:=
  ∀(U:Sl)(st:St)(jg:Zr),U 0=.s s0->U 4=.sl jg (List.map Zv fy)->U 5=.i .i64 dd->U 6=.i .i64 i6->Yo d st.ow jg fy.length->W PG d (.loop Oo) U st (Zs 0 (Zk PG d qi Q))
def pd(PG:Zb)(K:LB->Bool->Prop)(P0:LB->Int->Int->Prop)(s0:BS)(fy:LB)(dd i6:Int):Prop:=
  P0 fy dd (IntKind.i64.wrap (i6+1))
def KV(PG:Zb)(K:LB->Bool->Prop)(s0:BS)(fy:LB)(dd:Int):Prop:=
  K fy (decide (dd=(s0.length:Int)))
section
variable(PG:Zb)(K:LB->Bool->Prop)
def um(P0:LB->Int->Int->Prop)(s0:BS)(fy:LB)(dd i6:Int):Prop:=
  (i6<(s0.length:Int)->0<=i6/\∃c:UInt8,s0[(i6).toNat]?=some c/\((c.toNat:Int)=10->0<=dd/\dd<=i6/\(i6).toNat<=s0.length/\Ju (fy.length+[((s0.drop (dd).toNat).take ((i6).toNat-(dd).toNat))].length) 16/\pd PG K P0 s0 (fy++[((s0.drop (dd).toNat).take ((i6).toNat-(dd).toNat))]) (IntKind.i64.wrap (i6+1)) i6)/\(¬((c.toNat:Int)=10)->pd PG K P0 s0 fy dd i6))/\(¬(i6<(s0.length:Int))->KV PG K s0 fy dd)
def KU(s0:BS):Prop:=
  ∀P0:LB->Int->Int->Prop,(∀(fy:LB)(dd i6:Int),um PG K P0 s0 fy dd i6->P0 fy dd i6)->P0 ([]:LB) 0 0
end
section
variable{K:LB->Bool->Prop}(hQ:HM Zv AV.b 2 3 Q K)
variable{s0:BS}{fy:LB}{dd i6:Int}{P0:LB->Int->Int->Prop}{jg:Zr}
variable(aD :∀(fy:LB)(dd i6:Int),P0 fy dd i6->Yts PG d Q s0 fy dd i6)(H0:U 0=.s s0)(H4:U 4=.sl jg (List.map Zv fy))(H5:U 5=.i .i64 dd)(H6:U 6=.i .i64 i6)(A4:Yo d st.ow jg fy.length)
def Yr3(h:pd PG K P0 s0 fy dd i6):W PG d Ysy U st (Zk PG d (.loop Oo) (Zs 0 (Zk PG d qi Q))):=
 W.reg0 J fun _ _=>m_<|b_ H6 J Vp<|m_<|e_<|aD _ _ _ h _ _ _ H0 H4 H5 J A4
def Xug(h:KV PG K s0 fy dd):W PG d qi U st Q:=
 q_ J<|Yf H4<|m_<|m_<|Qb H0<|b_ H5 J Xf<|Yf J<|m_<|Zu<|hQ J J h
def Xbq(h:um PG K P0 s0 fy dd i6):W PG d Oo U st (Zk PG d (.loop Oo) (Zs 0 (Zk PG d qi Q))):=
 Zl<|q_ J<|m_<|m_<|Qb H0<|b_ H6 J Wp<|e_<|Yi J (fun i=>Ya<|Zl<|Yg<|q_ J<|m_<|m_<|(h.1 i).2.elim fun _ c=>Qj H0 H6 (h.1 i).1 c.1<|b_ J J Xf<|e_<|Yi J (fun e=>q_ J<|Yf H4<|m_<|m_<|m_<|Fc H0 H5 H6 (c.2.1 e).1 (c.2.1 e).2.1 (c.2.1 e).2.2.1<|Wr (f:=Zv) (l:=[((s0.drop (dd).toNat).take<|(i6).toNat-(dd).toNat)]) J J (Yl J J J Wi) J<|Jq Bs J J J A4.1 (c.2.1 e).2.2.2.1 J<|fun _ _ j _ k=>Yf J<|e_<|W.reg0 J fun _ _=>m_<|b_ H6 J Vp<|m_<|e_<|Yr3 aD H0 J J H6 (Yo.mk j<|Qy.app A4.2 J k) (c.2.1 e).2.2.2.2)<|fun e=>Ya<|Yr3 aD H0 H4 H5 H6 A4<|c.2.2 e)<|fun i=>Vg<|Xug hQ H0 H4 H5<|h.2 i
def Xjl(h:KU PG K s0):W PG d Ypp U st Q:=
 q_ J<|Yf (f:=Zv) (l:=[]) J<|m_<|e_<|q_ J<|Yf (f:=Zv) (l:=[]) J<|e_<|q_ J<|m_<|e_<|Zl<|q_ J<|m_<|e_<|Yg<|h (Yts PG d Q s0) (fun _ _ _ hb _ _ _ H0 H4 H5 H6 A4=>W.loop<|Xbq hQ (fun _ _ _ x=>x) H0 H4 H5 H6 A4 hb) _ _ _ H0 J J J Yo.full
def Xik(hf:PG.fn 177=some Lf)(h:KU PG K s0):∃aa:LB,∃ae:Bool,K aa ae/\Ze PG 177 [.s s0] (.tup [.sl .ext (List.map Zv aa),.b ae]):=
 P2 hf J<|Xjl (hM J fun _ _ _=>J) J h
end
abbrev Xvt(Q:Q0)(K:List Zh->Int->Prop):Prop:=∀(U:Sl)(st:St)(o0:Zr)(aa:List Zh)(ae:Int),U 2=.sl o0 (List.map Zh.row aa)->U 3=.i .i64 ae->K aa ae->Q .ret U st
section
variable{K:List Zh->Int->Prop}(hQ:Xvt Q K)
end
abbrev Yx8(Q:Q0)(K:BS->Prop):Prop:=∀(U:Sl)(st:St)(aa:BS),U 4=.s aa->K aa->Q .ret U st
section
variable{K:BS->Prop}(hQ:Yx8 Q K)
end
abbrev Xca(Q:Q0)(K:BS->Prop):Prop:=∀(U:Sl)(st:St)(aa:BS),U 4=.s aa->K aa->Q .ret U st
section
variable{K:BS->Prop}(hQ:Xca Q K)
end
abbrev Xyh(Q:Q0)(K:Bool->Prop):Prop:=∀(U:Sl)(st:St)(aa:Bool),U 4=.b aa->K aa->Q .ret U st
section
variable{K:Bool->Prop}(hQ:Xyh Q K)
end
abbrev Wds(Q:Q0)(K:Bool->Prop):Prop:=∀(U:Sl)(st:St)(aa:Bool),U 4=.b aa->K aa->Q .ret U st
section
variable{K:Bool->Prop}(hQ:Wds Q K)
end
end Go.AM

namespace Go.AM
open Go
set_option maxRecDepth 4000
set_option maxHeartbeats 2000000
attribute [local irreducible] Decidable.decide W WO Ve Vd
variable{PG:Zb}{d:Nat}{Q:Q0}{U:Sl}{st:St}{Zp:St}
abbrev Yrx:AC:= (sR 0 [oO 0<|.alloc [zs,zs,zs,zs,zs,zs,zs,zs,zs]]<|sR 1 [oO 1<|.build [zs,zs,zs,zs,zs,zs,zs,zs,zs] [(1,1,(.c<|.s wz)),(2,1,(.c<|.s j_)),(3,1,(.c<|.s wu)),(4,1,(.c<|.s [115,116,97,99,107])),(5,1,(.c<|.s [104,101,97,112])),(6,1,(.c<|.s wq)),(7,1,(.c<|.s wB)),(8,1,(.c<|.s wy))],oS 9 0 1] .ret)
def pe:AF:= { nt:=2,res:=[.cell 0 9 true],body:=Yrx }
abbrev Xbp(Q:Q0)(K:LB->Prop):Prop:=∀(U:Sl)(st:St)(k0:Zt)(v0:Nat)(aa:LB),U 0=.p k0 v0 0->lk st.bx k0=some (v0,List.map AV.s aa)->aa.length=9->K aa->Q .ret U st
def KY(PG:Zb)(K:LB->Prop):Prop:=
  K [[],([110,111,114,109,97,108]:BS),([112,97,110,105,99]:BS),([100,101,97,100,108,111,99,107]:BS),([115,116,97,99,107]:BS),([104,101,97,112]:BS),([114,111,117,116,105,110,101,115]:BS),([115,116,101,112,115]:BS),([115,99,114,105,112,116]:BS)]
section
variable{K:LB->Prop}(hQ:Xbp Q K)
def Xo1(h:KY PG K):W PG d Yrx U st Q:=
 Zl<|W.reg<|Xl<|e_<|q_ J<|Ao (f:=AV.s) (l:=[[],(wz:BS),(j_:BS),(wu:BS),([115,116,97,99,107]:BS),([104,101,97,112]:BS),(wq:BS),(wB:BS),(wy:BS)]) (Yr J J<|Yr J J<|Yr J J<|Yr J J<|Yr J J<|Yr J J<|Yr J J<|Yr J J Yu) J<|Ac (f:=AV.s) (fun _=>J) J (show lk _ (d,0)=some (_,(List.map AV.s (List.replicate 9 ([]:BS)):List AV))from Zj) (by simp) J J<|Zu<|hQ _ _ _ _ _ J Zj (by simp) h
theorem Xza(hf:PG.fn 215=some pe)(h:KY PG K):∃aa:LB,K aa/\Ze PG 215 [] (.ag (List.map AV.s aa)):=by
  obtain⟨v,hv,aa,hk,rfl⟩:=Ze.of (K:=fun v=>∃aa:LB,K aa/\v=.ag (List.map AV.s aa)) hf rfl (Xo1 (U:=Wg []) (fun U st k0 v0  aa H0 ma mb hk=>⟨.ag (List.map AV.s aa),by simp only[pe,Xj,Wz,Jc (n:=9) H0 ma (by simpa using mb),Km,kK],_,wE AV.s (fun _=>rfl) _,aa,hk,rfl⟩)  h)
  exact⟨aa,hk,hv⟩
end
abbrev Yif:AC:= (sR 0 [oC 2<|.s []]<|sR 1 [oM 3 0,oQ 4 15 [3],oM 2 4] .ret)
def ux:AF:= { nt:=5,res:=[.tmp 2],body:=Yif }
section
variable(PG:Zb)(K:BS->Prop)
def K0(n0:Int):Prop:=
  ∃c,Ze PG 15 [.i .i64 n0] (.s c)/\K c
end
section
variable{K:BS->Prop}(hQ:H1 AV.s 2 Q K)
variable{n0:Int}
variable(H0:U 0=.i .i64 n0)
include hQ H0 in
theorem Xi0(h:K0 PG K n0):W PG d Yif U st Q:=
 au trivial
def Xih(hf:PG.fn 216=some ux)(h:K0 PG K n0):∃aa:BS,K aa/\Ze PG 216 [.i .i64 n0] (.s aa):=
 P1 hf J<|Xi0 (h1 J fun _=>J) J h
end
abbrev Ybd:AC:= (sR 0 [oC 0<|.sl .full []]<|sR 1 [oO 1<|.bslice [zs] 9 [(0,(.c<|.s [])),(1,(.c<|.s wz)),(2,(.c<|.s j_)),(3,(.c<|.s wu)),(4,(.c<|.s [115,116,97,99,107])),(5,(.c<|.s [104,101,97,112])),(6,(.c<|.s wq)),(7,(.c<|.s wB)),(8,(.c<|.s wy))],oM 0 1] .ret)
def uD:AF:= { nt:=2,res:=[.tmp 0],body:=Ybd }
def KZ(PG:Zb)(K:LB->Prop):Prop:=
  K [([]:BS),([110,111,114,109,97,108]:BS),([112,97,110,105,99]:BS),([100,101,97,100,108,111,99,107]:BS),([115,116,97,99,107]:BS),([104,101,97,112]:BS),([114,111,117,116,105,110,101,115]:BS),([115,116,101,112,115]:BS),([115,99,114,105,112,116]:BS)]
section
variable{K:LB->Prop}(hQ:HL Zv 0 Q K)
def Xw7(h:KZ PG K):W PG d Ybd U st Q:=
 q_ J<|Yf (f:=Zv) (l:=[]) J<|e_<|q_ J<|Wr (f:=Zv) (l:=[([]:BS),(wz:BS),(j_:BS),(wu:BS),([115,116,97,99,107]:BS),([104,101,97,112]:BS),(wq:BS),(wB:BS),(wy:BS)]) J J (Yl J J J<|Yl J J J<|Yl J J J<|Yl J J J<|Yl J J J<|Yl J J J<|Yl J J J<|Yl J J J<|Yl J J J Wi) J<|Yf J<|Zu<|hQ J h
def Xjj(hf:PG.fn 223=some uD)(h:KZ PG K):∃aa:LB,K aa/\Ze PG 223 [] (.sl .ext (List.map Zv aa)):=
 P1 hf J<|Xw7 (hL J)  h
end
abbrev Yjw:AC:= (sR 0 [oC 2<|.s []]<|sR 1 [oM 3 0,oQ 4 16 [3],oM 2 4] .ret)
def uG:AF:= { nt:=5,res:=[.tmp 2],body:=Yjw }
section
variable(PG:Zb)(K:BS->Prop)
def K1(n0:Int):Prop:=
  ∃c,Ze PG 16 [.i .i64 n0] (.s c)/\K c
end
section
variable{K:BS->Prop}(hQ:H1 AV.s 2 Q K)
variable{n0:Int}
variable(H0:U 0=.i .i64 n0)
include hQ H0 in
theorem Xq6(h:K1 PG K n0):W PG d Yjw U st Q:=
 au trivial
def Xnw(hf:PG.fn 226=some uG)(h:K1 PG K n0):∃aa:BS,K aa/\Ze PG 226 [.i .i64 n0] (.s aa):=
 P1 hf J<|Xq6 (h1 J fun _=>J) J h
end
abbrev Xuh(Q:Q0)(K:BS->Int->Prop):Prop:=∀(U:Sl)(st:St)(aa:BS)(ae:Int),U 2=.s aa->U 3=.i .i64 ae->K aa ae->Q .ret U st
section
variable{K:BS->Int->Prop}(hQ:Xuh Q K)
end
abbrev Xfv(Q:Q0)(K:BS->Int->Prop):Prop:=∀(U:Sl)(st:St)(aa:BS)(ae:Int),U 2=.s aa->U 3=.i .i64 ae->K aa ae->Q .ret U st
section
variable{K:BS->Int->Prop}(hQ:Xfv Q K)
end
abbrev Yuo:AC:= (sR 0 [oU 2 0,oI 3 0]<|sR 1 [oQ 6 215 [],oO 4<|.alloc [zs,zs,zs,zs,zs,zs,zs,zs,zs],oS 9 4 6]<|sR 2 [oO 7<|.slA 9 1 (.t 4) none none,oM 8 0,oQ 9 141 [7,8],oM 5 9]<|.seq (sR 3 [oM 10 5,oV 11 .lss 10 1]<|cD 11 (sR 4 [oU 2 0,oI 3 12] .ret) .skip)<|sR 5 [oM 12 5,oO 13<|.cvi .u8<|.t 12,oM 2 13,oI 3 0] .ret)
def ur:AF:= { nt:=14,res:=[.tmp 2,.tmp 3],body:=Yuo }
section
variable(PG:Zb)(K:Int->Int->Prop)
def K2(s0:BS):Prop:=
  ∃c:LB,Ze PG 215 [] (.ag (List.map AV.s c))/\c.length=9/\c.length=9/\∃e,Ze PG 141 [.sl .ext (List.map Zv c),.s s0] (.i .i64 e)/\(e<1->K 0 12)/\(¬(e<1)->K (IntKind.u8.wrap e) 0)
end
section
variable{K:Int->Int->Prop}(hQ:H2 (AV.i .u8) (AV.i .i64) 2 3 Q K)
variable{s0:BS}
variable(H0:U 0=.s s0)
def Xmv(h:K2 PG K s0):W PG d Yuo U st Q:=
 q_ J<|m_<|m_<|e_<|Zl<|W.reg<|h.elim fun _ c=>Yh sn c.1<|Xl<|Ac (f:=AV.s) (fun _=>J) J (show lk _ (d,4097)=some (_,(List.map AV.s (List.replicate 9 ([]:BS)):List AV))from Zj) (by simp) J c.2.1<|e_<|q_ J<|Ygf J Zj c.2.2.1 J<|m_<|c.2.2.2.elim fun _ e=>Yh (Wk J H0 J) e.1<|m_<|e_<|Zl<|q_ J<|m_<|b_ J J Wp<|e_<|Yi J (fun i=>q_ J<|m_<|m_<|Zu<|hQ J J<|e.2.1 i)<|fun i=>Ya<|q_ J<|m_<|Ls J<|m_<|m_<|Zu<|hQ J J<|e.2.2 i
def Xxl(hf:PG.fn 211=some ur)(h:K2 PG K s0):∃aa:Int,∃ae:Int,K aa ae/\Ze PG 211 [.s s0] (.tup [.i .u8 aa,.i .i64 ae]):=
 P2 hf J<|Xmv (h2 J fun _ _=>J) J h
end
abbrev x8:AC:= (.seq (sR 2 [oM 5 4,oV 6 .leq 5 8]<|cD 6 .skip<|.exit 0)<|.seq (.block 1<|sR 4 [oQ 9 223 [],oM 10 4,oX 11 1 9 10,oL 12 11,oM 13 0,oT 14 .eql 12 13]<|cD 14 (sR 5 [oM 15 4,oO 16<|.cvi .u8<|.t 15,oM 2 16,oI 3 0] .ret) .skip)<|.reg 3 [oM 7 4,oV 8 .add 7 1,oM 4 8])
abbrev x9:AC:= (sR 6 [oU 2 0,oI 3 12] .ret)
abbrev Ycr:AC:= (sR 0 [oU 2 0,oI 3 0]<|.seq (sR 1 [oI 4 1]<|.block 0<|.loop x8) x9)
def uu:AF:= { nt:=17,res:=[.tmp 2,.tmp 3],body:=Ycr }
abbrev Ycm(PG:Zb)(d:Nat)(Q:Q0)(s0:BS)(n4:Int):Prop:=
  ∀(U:Sl)(st:St),U 0=.s s0->U 4=.i .i64 n4->W PG d (.loop x8) U st (Zs 0 (Zk PG d x9 Q))
def K5(PG:Zb)(K:Int->Int->Prop):Prop:=
  K 0 12
section
variable(PG:Zb)(K:Int->Int->Prop)
def uU(P0:Int->Prop)(s0:BS)(n4:Int):Prop:=
  (n4<=8->∃e,Ze PG 223 [] (.sl .ext (List.map Zv e))/\0<=n4/\∃c,e[(n4).toNat]?=some c/\(c=s0->K (IntKind.u8.wrap n4) 0)/\(¬(c=s0)->P0 (IntKind.i64.wrap (n4+1))))/\(¬(n4<=8)->K5 PG K )
def K4(s0:BS):Prop:=
  ∀P0:Int->Prop,(∀(n4:Int),uU PG K P0 s0 n4->P0 n4)->P0 1
end
section
variable{K:Int->Int->Prop}(hQ:H2 (AV.i .u8) (AV.i .i64) 2 3 Q K)
variable{s0:BS}{n4:Int}{P0:Int->Prop}
variable(aD :∀(n4:Int),P0 n4->Ycm PG d Q s0 n4)(H0:U 0=.s s0)(H4:U 4=.i .i64 n4)
include hQ in
theorem Xri(h:K5 PG K):W PG d x9 U st Q:=
 au trivial
include hQ aD H0 H4 in
theorem Wci(h:uU PG K P0 s0 n4):W PG d x8 U st (Zk PG d (.loop x8) (Zs 0 (Zk PG d x9 Q))):=
 au @Xri
def Xut(h:K4 PG K s0):W PG d Ycr U st Q:=
 q_ J<|m_<|m_<|e_<|Zl<|q_ J<|m_<|e_<|Yg<|h (Ycm PG d Q s0) (fun _ hb _ _ H0 H4=>W.loop<|Wci hQ (fun _ x=>x) H0 H4 hb) _ _ H0 J
def Xeg(hf:PG.fn 212=some uu)(h:K4 PG K s0):∃aa:Int,∃ae:Int,K aa ae/\Ze PG 212 [.s s0] (.tup [.i .u8 aa,.i .i64 ae]):=
 P2 hf J<|Xut (h2 J fun _ _=>J) J h
end
abbrev ya:AC:= (sR 2 [oT 9 .lss 8 7]<|.seq (cD 9 .skip<|.exit 0)<|.seq (.block 1<|sR 3 [oM 10 8,oM 5 10]<|sR 4 [oM 11 1,oM 12 0,oM 13 5,oX 14 5 12 13,oK 15 5 14,oO 16<|.callv (.t 11) [(.t 15)]]<|cD 16 (sR 5 [oM 17 5,oM 4 17] .ret) .skip)<|.reg 6 [oV 18 .add 8 1,oM 8 18])
abbrev yb:AC:= (sR 7 [oI 4<|-1] .ret)
abbrev Yv3:AC:= (sR 0 [oI 4 0]<|.seq (sR 1 [oM 6 0,oJ 7 6,oI 8 0]<|.block 0<|.loop ya) yb)
def uQ:AF:= { nt:=19,res:=[.tmp 4],body:=Yv3 }
abbrev Ylq(PG:Zb)(d:Nat)(Q:Q0)(Zp:St)(s0:List Zi)(f1:Nat × List AV)(t7 t8:Int):Prop:=
  ∀(U:Sl)(st:St)(cj:Zr),U 0=.sl cj (List.map Zi.row s0)->U 1=.fn f1.1 f1.2->U 7=.i .i64 t7->U 8=.i .i64 t8->Fr d (d,0) Zp.bx Zp.ow st.bx st.ow->W PG d (.loop ya) U st (Zs 0 (Zk PG d yb Q))
def K7(PG:Zb)(K:Int->Prop):Prop:=
  K (-1)
section
variable(PG:Zb)(K:Int->Prop)
def pg(P0:Int->Prop)(s0:List Zi)(f1:Nat × List AV)(t7 t8:Int):Prop:=
  (t8<t7->0<=t8/\∃e:Zi,s0[(t8).toNat]?=some e/\∃c,(Ym PG f1.1 ([e.av]++f1.2) (fun r=>r=.b c))/\(c=true->K t8)/\(c=false->P0 (IntKind.i64.wrap (t8+1))))/\(¬(t8<t7)->K7 PG K )
def K6(s0:List Zi)(f1:Nat × List AV):Prop:=
  ∀P0:Int->Prop,(∀(t8:Int),pg PG K P0 s0 f1 (s0.length:Int) t8->P0 t8)->P0 0
end
section
variable{K:Int->Prop}(hQ:HF d Zp (AV.i .i64) 4 Q K)
variable{s0:List Zi}{f1:Nat × List AV}{t7 t8:Int}{P0:Int->Prop}{cj:Zr}
variable(aD :∀(t8:Int),P0 t8->Ylq PG d Q Zp s0 f1 t7 t8)(H0:U 0=.sl cj (List.map Zi.row s0))(H1:U 1=.fn f1.1 f1.2)(H7:U 7=.i .i64 t7)(H8:U 8=.i .i64 t8)(FR:Fr d (d,0) Zp.bx Zp.ow st.bx st.ow)
include hQ FR in
theorem Xk3(h:K7 PG K):W PG d yb U st Q:=
 au trivial
def Xlk(h:pg PG K P0 s0 f1 t7 t8):W PG d ya U st (Zk PG d (.loop ya) (Zs 0 (Zk PG d yb Q))):=
 q_ J<|b_ H8 H7 Wp<|e_<|Zl<|Yi J (fun c=>Ya<|Zl<|Yg<|q_ J<|m_<|m_<|e_<|q_ J<|m_<|Yf H0<|m_<|(h.1 c).2.elim fun o j=>Xy J H8 (h.1 c).1 j.1 (Zi.row_eq o) J<|Xx J J J<|j.2.elim fun _ e=>Fk H1 (Ye J Yw) (e.1)<|fun _ k=>e_<|Xw J (fun i=>q_ J<|m_<|m_<|Zu<|hQ H8 (Fr.raw FR k)<|e.2.1 i)<|fun i=>Ya<|W.reg0 J fun _ _=>b_ H8 J Vp<|m_<|e_<|aD _ (e.2.2 i) _ _ _ H0 H1 H7 J<|Fr.raw FR k)<|fun c=>Vg<|Xk3 hQ FR<|h.2 c
def Wdj(h:K6 PG K s0 f1):W PG d Yv3 U st Q:=
 q_ J<|m_<|e_<|Zl<|q_ J<|Yf H0<|Xq J<|m_<|e_<|Yg<|h (Ylq PG d Q Zp s0 f1 (s0.length:Int)) (fun _ hb _ _ _ H0 H1 H7 H8 FR=>W.loop<|Xlk hQ (fun _ x=>x) H0 H1 H7 H8 FR hb) _ _ _ H0 H1 J J FR
def Xli(hf:PG.fn 236=some uQ)(h:K6 PG K s0 f1)(cj:Zr):Ym PG 236 [.sl cj (List.map Zi.row s0),.fn f1.1 f1.2] (fun r=>∃aa:Int,(r=.i .i64 aa)/\K aa):=
 PF hf J J fun d st Q q=>Wdj q J J Fr.refl h
end
abbrev yc:AC:= (sR 2 [oT 9 .lss 8 7]<|.seq (cD 9 .skip<|.exit 0)<|.seq (.block 1<|sR 3 [oM 10 8,oM 5 10]<|sR 4 [oM 11 1,oM 12 0,oM 13 5,oX 14 4 12 13,oK 15 4 14,oO 16<|.callv (.t 11) [(.t 15)]]<|cD 16 (sR 5 [oM 17 5,oM 4 17] .ret) .skip)<|.reg 6 [oV 18 .add 8 1,oM 8 18])
abbrev yd:AC:= (sR 7 [oI 4<|-1] .ret)
abbrev Ye3:AC:= (sR 0 [oI 4 0]<|.seq (sR 1 [oM 6 0,oJ 7 6,oI 8 0]<|.block 0<|.loop yc) yd)
def uR:AF:= { nt:=19,res:=[.tmp 4],body:=Ye3 }
abbrev Yld(PG:Zb)(d:Nat)(Q:Q0)(Zp:St)(s0:List Zf)(f1:Nat × List AV)(t7 t8:Int):Prop:=
  ∀(U:Sl)(st:St)(cj:Zr),U 0=.sl cj (List.map Zf.row s0)->U 1=.fn f1.1 f1.2->U 7=.i .i64 t7->U 8=.i .i64 t8->Fr d (d,0) Zp.bx Zp.ow st.bx st.ow->W PG d (.loop yc) U st (Zs 0 (Zk PG d yd Q))
def K_(PG:Zb)(K:Int->Prop):Prop:=
  K (-1)
section
variable(PG:Zb)(K:Int->Prop)
def ph(P0:Int->Prop)(s0:List Zf)(f1:Nat × List AV)(t7 t8:Int):Prop:=
  (t8<t7->0<=t8/\∃e:Zf,s0[(t8).toNat]?=some e/\∃c,(Ym PG f1.1 ([e.av]++f1.2) (fun r=>r=.b c))/\(c=true->K t8)/\(c=false->P0 (IntKind.i64.wrap (t8+1))))/\(¬(t8<t7)->K_ PG K )
def K9(s0:List Zf)(f1:Nat × List AV):Prop:=
  ∀P0:Int->Prop,(∀(t8:Int),ph PG K P0 s0 f1 (s0.length:Int) t8->P0 t8)->P0 0
end
section
variable{K:Int->Prop}(hQ:HF d Zp (AV.i .i64) 4 Q K)
variable{s0:List Zf}{f1:Nat × List AV}{t7 t8:Int}{P0:Int->Prop}{cj:Zr}
variable(aD :∀(t8:Int),P0 t8->Yld PG d Q Zp s0 f1 t7 t8)(H0:U 0=.sl cj (List.map Zf.row s0))(H1:U 1=.fn f1.1 f1.2)(H7:U 7=.i .i64 t7)(H8:U 8=.i .i64 t8)(FR:Fr d (d,0) Zp.bx Zp.ow st.bx st.ow)
include hQ FR in
theorem Xcw(h:K_ PG K):W PG d yd U st Q:=
 au trivial
def Xrl(h:ph PG K P0 s0 f1 t7 t8):W PG d yc U st (Zk PG d (.loop yc) (Zs 0 (Zk PG d yd Q))):=
 q_ J<|b_ H8 H7 Wp<|e_<|Zl<|Yi J (fun c=>Ya<|Zl<|Yg<|q_ J<|m_<|m_<|e_<|q_ J<|m_<|Yf H0<|m_<|(h.1 c).2.elim fun o j=>Xy J H8 (h.1 c).1 j.1 (Zf.row_eq o) J<|Xx J J J<|j.2.elim fun _ e=>Fk H1 (Ye J Yw) (e.1)<|fun _ k=>e_<|Xw J (fun i=>q_ J<|m_<|m_<|Zu<|hQ H8 (Fr.raw FR k)<|e.2.1 i)<|fun i=>Ya<|W.reg0 J fun _ _=>b_ H8 J Vp<|m_<|e_<|aD _ (e.2.2 i) _ _ _ H0 H1 H7 J<|Fr.raw FR k)<|fun c=>Vg<|Xcw hQ FR<|h.2 c
def Wcw(h:K9 PG K s0 f1):W PG d Ye3 U st Q:=
 q_ J<|m_<|e_<|Zl<|q_ J<|Yf H0<|Xq J<|m_<|e_<|Yg<|h (Yld PG d Q Zp s0 f1 (s0.length:Int)) (fun _ hb _ _ _ H0 H1 H7 H8 FR=>W.loop<|Xrl hQ (fun _ x=>x) H0 H1 H7 H8 FR hb) _ _ _ H0 H1 J J FR
def Xwq(hf:PG.fn 237=some uR)(h:K9 PG K s0 f1)(cj:Zr):Ym PG 237 [.sl cj (List.map Zf.row s0),.fn f1.1 f1.2] (fun r=>∃aa:Int,(r=.i .i64 aa)/\K aa):=
 PF hf J J fun d st Q q=>Wcw q J J Fr.refl h
end
abbrev ye:AC:= (sR 2 [oT 9 .lss 8 7]<|.seq (cD 9 .skip<|.exit 0)<|.seq (.block 1<|sR 3 [oM 10 8,oM 5 10]<|sR 4 [oM 11 1,oM 12 0,oM 13 5,oX 14 8 12 13,oK 15 8 14,oO 16<|.callv (.t 11) [(.t 15)]]<|cD 16 (sR 5 [oM 17 5,oM 4 17] .ret) .skip)<|.reg 6 [oV 18 .add 8 1,oM 8 18])
abbrev yf:AC:= (sR 7 [oI 4<|-1] .ret)
abbrev Yke:AC:= (sR 0 [oI 4 0]<|.seq (sR 1 [oM 6 0,oJ 7 6,oI 8 0]<|.block 0<|.loop ye) yf)
def uS:AF:= { nt:=19,res:=[.tmp 4],body:=Yke }
abbrev Yez(PG:Zb)(d:Nat)(Q:Q0)(Zp:St)(s0:List Zq)(f1:Nat × List AV)(t7 t8:Int):Prop:=
  ∀(U:Sl)(st:St)(cj:Zr),U 0=.sl cj (List.map Zq.row s0)->U 1=.fn f1.1 f1.2->U 7=.i .i64 t7->U 8=.i .i64 t8->Fr d (d,0) Zp.bx Zp.ow st.bx st.ow->W PG d (.loop ye) U st (Zs 0 (Zk PG d yf Q))
def LD(PG:Zb)(K:Int->Prop):Prop:=
  K (-1)
section
variable(PG:Zb)(K:Int->Prop)
def Az(P0:Int->Prop)(s0:List Zq)(f1:Nat × List AV)(t7 t8:Int):Prop:=
  (t8<t7->0<=t8/\∃e:Zq,s0[(t8).toNat]?=some e/\∃c,(Ym PG f1.1 ([e.av]++f1.2) (fun r=>r=.b c))/\(c=true->K t8)/\(c=false->P0 (IntKind.i64.wrap (t8+1))))/\(¬(t8<t7)->LD PG K )
def LC(s0:List Zq)(f1:Nat × List AV):Prop:=
  ∀P0:Int->Prop,(∀(t8:Int),Az PG K P0 s0 f1 (s0.length:Int) t8->P0 t8)->P0 0
end
section
variable{K:Int->Prop}(hQ:HF d Zp (AV.i .i64) 4 Q K)
variable{s0:List Zq}{f1:Nat × List AV}{t7 t8:Int}{P0:Int->Prop}{cj:Zr}
variable(aD :∀(t8:Int),P0 t8->Yez PG d Q Zp s0 f1 t7 t8)(H0:U 0=.sl cj (List.map Zq.row s0))(H1:U 1=.fn f1.1 f1.2)(H7:U 7=.i .i64 t7)(H8:U 8=.i .i64 t8)(FR:Fr d (d,0) Zp.bx Zp.ow st.bx st.ow)
include hQ FR in
theorem Xj6(h:LD PG K):W PG d yf U st Q:=
 au trivial
def Xma(h:Az PG K P0 s0 f1 t7 t8):W PG d ye U st (Zk PG d (.loop ye) (Zs 0 (Zk PG d yf Q))):=
 q_ J<|b_ H8 H7 Wp<|e_<|Zl<|Yi J (fun c=>Ya<|Zl<|Yg<|q_ J<|m_<|m_<|e_<|q_ J<|m_<|Yf H0<|m_<|(h.1 c).2.elim fun o j=>Xy J H8 (h.1 c).1 j.1 (Zq.row_eq o) J<|Xx J J J<|j.2.elim fun _ e=>Fk H1 (Ye J Yw) (e.1)<|fun _ k=>e_<|Xw J (fun i=>q_ J<|m_<|m_<|Zu<|hQ H8 (Fr.raw FR k)<|e.2.1 i)<|fun i=>Ya<|W.reg0 J fun _ _=>b_ H8 J Vp<|m_<|e_<|aD _ (e.2.2 i) _ _ _ H0 H1 H7 J<|Fr.raw FR k)<|fun c=>Vg<|Xj6 hQ FR<|h.2 c
def Xlf(h:LC PG K s0 f1):W PG d Yke U st Q:=
 q_ J<|m_<|e_<|Zl<|q_ J<|Yf H0<|Xq J<|m_<|e_<|Yg<|h (Yez PG d Q Zp s0 f1 (s0.length:Int)) (fun _ hb _ _ _ H0 H1 H7 H8 FR=>W.loop<|Xma hQ (fun _ x=>x) H0 H1 H7 H8 FR hb) _ _ _ H0 H1 J J FR
def Xuu(hf:PG.fn 238=some uS)(h:LC PG K s0 f1)(cj:Zr):Ym PG 238 [.sl cj (List.map Zq.row s0),.fn f1.1 f1.2] (fun r=>∃aa:Int,(r=.i .i64 aa)/\K aa):=
 PF hf J J fun d st Q q=>Xlf q J J Fr.refl h
end
abbrev yg:AC:= (sR 2 [oT 9 .lss 8 7]<|.seq (cD 9 .skip<|.exit 0)<|.seq (.block 1<|sR 3 [oM 10 8,oM 5 10]<|sR 4 [oM 11 1,oM 12 0,oM 13 5,oX 14 7 12 13,oK 15 7 14,oO 16<|.callv (.t 11) [(.t 15)]]<|cD 16 (sR 5 [oM 17 5,oM 4 17] .ret) .skip)<|.reg 6 [oV 18 .add 8 1,oM 8 18])
abbrev yh:AC:= (sR 7 [oI 4<|-1] .ret)
abbrev Yk9:AC:= (sR 0 [oI 4 0]<|.seq (sR 1 [oM 6 0,oJ 7 6,oI 8 0]<|.block 0<|.loop yg) yh)
def uT:AF:= { nt:=19,res:=[.tmp 4],body:=Yk9 }
abbrev Ydk(PG:Zb)(d:Nat)(Q:Q0)(Zp:St)(s0:List Zh)(f1:Nat × List AV)(t7 t8:Int):Prop:=
  ∀(U:Sl)(st:St)(cj:Zr),U 0=.sl cj (List.map Zh.row s0)->U 1=.fn f1.1 f1.2->U 7=.i .i64 t7->U 8=.i .i64 t8->Fr d (d,0) Zp.bx Zp.ow st.bx st.ow->W PG d (.loop yg) U st (Zs 0 (Zk PG d yh Q))
def LH(PG:Zb)(K:Int->Prop):Prop:=
  K (-1)
section
variable(PG:Zb)(K:Int->Prop)
def pj(P0:Int->Prop)(s0:List Zh)(f1:Nat × List AV)(t7 t8:Int):Prop:=
  (t8<t7->0<=t8/\∃e:Zh,s0[(t8).toNat]?=some e/\∃c,(Ym PG f1.1 ([e.av]++f1.2) (fun r=>r=.b c))/\(c=true->K t8)/\(c=false->P0 (IntKind.i64.wrap (t8+1))))/\(¬(t8<t7)->LH PG K )
def LG(s0:List Zh)(f1:Nat × List AV):Prop:=
  ∀P0:Int->Prop,(∀(t8:Int),pj PG K P0 s0 f1 (s0.length:Int) t8->P0 t8)->P0 0
end
section
variable{K:Int->Prop}(hQ:HF d Zp (AV.i .i64) 4 Q K)
variable{s0:List Zh}{f1:Nat × List AV}{t7 t8:Int}{P0:Int->Prop}{cj:Zr}
variable(aD :∀(t8:Int),P0 t8->Ydk PG d Q Zp s0 f1 t7 t8)(H0:U 0=.sl cj (List.map Zh.row s0))(H1:U 1=.fn f1.1 f1.2)(H7:U 7=.i .i64 t7)(H8:U 8=.i .i64 t8)(FR:Fr d (d,0) Zp.bx Zp.ow st.bx st.ow)
include hQ FR in
theorem Xlm(h:LH PG K):W PG d yh U st Q:=
 au trivial
def Xoz(h:pj PG K P0 s0 f1 t7 t8):W PG d yg U st (Zk PG d (.loop yg) (Zs 0 (Zk PG d yh Q))):=
 q_ J<|b_ H8 H7 Wp<|e_<|Zl<|Yi J (fun c=>Ya<|Zl<|Yg<|q_ J<|m_<|m_<|e_<|q_ J<|m_<|Yf H0<|m_<|(h.1 c).2.elim fun o j=>Xy J H8 (h.1 c).1 j.1 (Zh.row_eq o) J<|Xx J J J<|j.2.elim fun _ e=>Fk H1 (Ye J Yw) (e.1)<|fun _ k=>e_<|Xw J (fun i=>q_ J<|m_<|m_<|Zu<|hQ H8 (Fr.raw FR k)<|e.2.1 i)<|fun i=>Ya<|W.reg0 J fun _ _=>b_ H8 J Vp<|m_<|e_<|aD _ (e.2.2 i) _ _ _ H0 H1 H7 J<|Fr.raw FR k)<|fun c=>Vg<|Xlm hQ FR<|h.2 c
def Xf7(h:LG PG K s0 f1):W PG d Yk9 U st Q:=
 q_ J<|m_<|e_<|Zl<|q_ J<|Yf H0<|Xq J<|m_<|e_<|Yg<|h (Ydk PG d Q Zp s0 f1 (s0.length:Int)) (fun _ hb _ _ _ H0 H1 H7 H8 FR=>W.loop<|Xoz hQ (fun _ x=>x) H0 H1 H7 H8 FR hb) _ _ _ H0 H1 J J FR
def Xkb(hf:PG.fn 239=some uT)(h:LG PG K s0 f1)(cj:Zr):Ym PG 239 [.sl cj (List.map Zh.row s0),.fn f1.1 f1.2] (fun r=>∃aa:Int,(r=.i .i64 aa)/\K aa):=
 PF hf J J fun d st Q q=>Xf7 q J J Fr.refl h
end
abbrev Yea:AC:= (sR 0 [oC 4<|.b false]<|sR 1 [oM 5 0,oM 6 1,oP 7 236 [5,6],oV 8 .geq 7 0,oM 4 8] .ret)
def uE:AF:= { nt:=9,res:=[.tmp 4],body:=Yea }
section
variable(PG:Zb)(K:Bool->Prop)
def K8(s0:List Zi)(f1:Nat × List AV):Prop:=
  ∃c,(∀e:Zr,Ym PG 236 [.sl e (List.map Zi.row s0),.fn f1.1 f1.2] (fun r=>r=.i .i64 c))/\K (decide (c>=0))
end
section
variable{K:Bool->Prop}(hQ:HF d Zp AV.b 4 Q K)
variable{s0:List Zi}{f1:Nat × List AV}{cj:Zr}
variable(H0:U 0=.sl cj (List.map Zi.row s0))(H1:U 1=.fn f1.1 f1.2)(FR:Fr d (d,0) Zp.bx Zp.ow st.bx st.ow)
def Yvp(h:K8 PG K s0 f1):W PG d Yea U st Q:=
 q_ J<|m_<|e_<|q_ J<|Yf H0<|m_<|h.elim fun _ c=>Gm (Ye J<|Ye H1 Yw) (c.1 _)<|fun _ e=>b_ J J Ha<|m_<|Zu<|hQ J (Fr.raw FR e) c.2
def Yw2(hf:PG.fn 224=some uE)(h:K8 PG K s0 f1)(cj:Zr):Ym PG 224 [.sl cj (List.map Zi.row s0),.fn f1.1 f1.2] (fun r=>∃aa:Bool,(r=.b aa)/\K aa):=
 PF hf J J fun d st Q q=>Yvp q J J Fr.refl h
end
abbrev Yt9:AC:= (sR 0 [oC 4<|.b false]<|sR 1 [oM 5 0,oM 6 1,oP 7 237 [5,6],oV 8 .geq 7 0,oM 4 8] .ret)
def uH:AF:= { nt:=9,res:=[.tmp 4],body:=Yt9 }
section
variable(PG:Zb)(K:Bool->Prop)
def LA(s0:List Zf)(f1:Nat × List AV):Prop:=
  ∃c,(∀e:Zr,Ym PG 237 [.sl e (List.map Zf.row s0),.fn f1.1 f1.2] (fun r=>r=.i .i64 c))/\K (decide (c>=0))
end
section
variable{K:Bool->Prop}(hQ:HF d Zp AV.b 4 Q K)
variable{s0:List Zf}{f1:Nat × List AV}{cj:Zr}
variable(H0:U 0=.sl cj (List.map Zf.row s0))(H1:U 1=.fn f1.1 f1.2)(FR:Fr d (d,0) Zp.bx Zp.ow st.bx st.ow)
def Xau(h:LA PG K s0 f1):W PG d Yt9 U st Q:=
 q_ J<|m_<|e_<|q_ J<|Yf H0<|m_<|h.elim fun _ c=>Gm (Ye J<|Ye H1 Yw) (c.1 _)<|fun _ e=>b_ J J Ha<|m_<|Zu<|hQ J (Fr.raw FR e) c.2
def Xmn(hf:PG.fn 227=some uH)(h:LA PG K s0 f1)(cj:Zr):Ym PG 227 [.sl cj (List.map Zf.row s0),.fn f1.1 f1.2] (fun r=>∃aa:Bool,(r=.b aa)/\K aa):=
 PF hf J J fun d st Q q=>Xau q J J Fr.refl h
end
abbrev Yf4:AC:= (sR 0 [oC 4<|.b false]<|sR 1 [oM 5 0,oM 6 1,oP 7 238 [5,6],oV 8 .geq 7 0,oM 4 8] .ret)
def uJ:AF:= { nt:=9,res:=[.tmp 4],body:=Yf4 }
section
variable(PG:Zb)(K:Bool->Prop)
def LF(s0:List Zq)(f1:Nat × List AV):Prop:=
  ∃c,(∀e:Zr,Ym PG 238 [.sl e (List.map Zq.row s0),.fn f1.1 f1.2] (fun r=>r=.i .i64 c))/\K (decide (c>=0))
end
section
variable{K:Bool->Prop}(hQ:HF d Zp AV.b 4 Q K)
variable{s0:List Zq}{f1:Nat × List AV}{cj:Zr}
variable(H0:U 0=.sl cj (List.map Zq.row s0))(H1:U 1=.fn f1.1 f1.2)(FR:Fr d (d,0) Zp.bx Zp.ow st.bx st.ow)
def Xzy(h:LF PG K s0 f1):W PG d Yf4 U st Q:=
 q_ J<|m_<|e_<|q_ J<|Yf H0<|m_<|h.elim fun _ c=>Gm (Ye J<|Ye H1 Yw) (c.1 _)<|fun _ e=>b_ J J Ha<|m_<|Zu<|hQ J (Fr.raw FR e) c.2
def Xua(hf:PG.fn 229=some uJ)(h:LF PG K s0 f1)(cj:Zr):Ym PG 229 [.sl cj (List.map Zq.row s0),.fn f1.1 f1.2] (fun r=>∃aa:Bool,(r=.b aa)/\K aa):=
 PF hf J J fun d st Q q=>Xzy q J J Fr.refl h
end
abbrev Yrw:AC:= (sR 0 [oC 4<|.b false]<|sR 1 [oM 5 0,oM 6 1,oP 7 239 [5,6],oV 8 .geq 7 0,oM 4 8] .ret)
def uM:AF:= { nt:=9,res:=[.tmp 4],body:=Yrw }
section
variable(PG:Zb)(K:Bool->Prop)
def LI(s0:List Zh)(f1:Nat × List AV):Prop:=
  ∃c,(∀e:Zr,Ym PG 239 [.sl e (List.map Zh.row s0),.fn f1.1 f1.2] (fun r=>r=.i .i64 c))/\K (decide (c>=0))
end
section
variable{K:Bool->Prop}(hQ:HF d Zp AV.b 4 Q K)
variable{s0:List Zh}{f1:Nat × List AV}{cj:Zr}
variable(H0:U 0=.sl cj (List.map Zh.row s0))(H1:U 1=.fn f1.1 f1.2)(FR:Fr d (d,0) Zp.bx Zp.ow st.bx st.ow)
def Xrr(h:LI PG K s0 f1):W PG d Yrw U st Q:=
 q_ J<|m_<|e_<|q_ J<|Yf H0<|m_<|h.elim fun _ c=>Gm (Ye J<|Ye H1 Yw) (c.1 _)<|fun _ e=>b_ J J Ha<|m_<|Zu<|hQ J (Fr.raw FR e) c.2
def Xsj(hf:PG.fn 232=some uM)(h:LI PG K s0 f1)(cj:Zr):Ym PG 232 [.sl cj (List.map Zh.row s0),.fn f1.1 f1.2] (fun r=>∃aa:Bool,(r=.b aa)/\K aa):=
 PF hf J J fun d st Q q=>Xrr q J J Fr.refl h
end
end Go.AM

namespace Go.AM
open Go
set_option maxRecDepth 4000
set_option maxHeartbeats 2000000
attribute [local irreducible] Decidable.decide W WO Ve Vd
variable{PG:Zb}{d:Nat}{Q:Q0}{U:Sl}{st:St}{Zp:St}
abbrev Ym6:AC:= (sR 0 [oY 2 4 0,oC 3<|.b false]<|sR 1 [oK 4 3 1,oK 5 4 2,oQ 6 86 [4,5],oV 7 .neq 6 0,oM 3 7] .ret)
def uI:AF:= { nt:=8,res:=[.tmp 3],body:=Ym6 }
section
variable(PG:Zb)(K:Bool->Prop)
def LQ(y0:Zf)(t1:Zd):Prop:=
  ∃c,Ze PG 86 [t1.av,y0.av] (.i .i64 c)/\K (decide (c≠0))
end
section
variable{K:Bool->Prop}(hQ:HF d Zp AV.b 3 Q K)
variable{y0:Zf}{t1:Zd}
variable(H0:U 0=y0.av)(H1:U 1=.fp (Zd.co .ext .ext .ext t1))(FR:Fr d (d,0) Zp.bx Zp.ow st.bx st.ow)
include hQ H0 H1 FR in
theorem Xhx(h:LQ PG K y0 t1):W PG d Ym6 U st Q:=
 au trivial
def Xbz(hf:PG.fn 228=some uI)(h:LQ PG K y0 t1):Ym PG 228 [y0.av,.fp [.sl .ext (List.map Vv.row t1.types),.sl .ext (List.map Zv t1.texts),.sl .ext (List.map Zz.row t1.funcs)]] (fun r=>∃aa:Bool,(r=.b aa)/\K aa):=
 PF hf J J fun d st Q q=>Xhx q J J Fr.refl h
end
abbrev Ysz:AC:= (sR 0 [oY 3 8 0,oC 4<|.b false]<|sR 1 [oK 5 3 1,oL 6 2,oK 7 8 3,oQ 8 231 [5,6,7],oZ 9 8,oM 4 9] .ret)
def uK:AF:= { nt:=10,res:=[.tmp 4],body:=Ysz }
section
variable(PG:Zb)(K:Bool->Prop)
def LR(y0:Zq)(t1:Zd)(t2:Int):Prop:=
  ∃c,Ze PG 231 [t1.av,.i .i64 t2,y0.av] (.b c)/\K (!c)
end
section
variable{K:Bool->Prop}(hQ:HF d Zp AV.b 4 Q K)
variable{y0:Zq}{t1:Zd}{t2:Int}
variable(H0:U 0=y0.av)(H1:U 1=.fp (Zd.co .ext .ext .ext t1))(H2:U 2=.fp [.i .i64 t2])(FR:Fr d (d,0) Zp.bx Zp.ow st.bx st.ow)
include hQ H0 H1 H2 FR in
theorem Yxr(h:LR PG K y0 t1 t2):W PG d Ysz U st Q:=
 au trivial
def Xmc(hf:PG.fn 230=some uK)(h:LR PG K y0 t1 t2):Ym PG 230 [y0.av,.fp [.sl .ext (List.map Vv.row t1.types),.sl .ext (List.map Zv t1.texts),.sl .ext (List.map Zz.row t1.funcs)],.fp [.i .i64 t2]] (fun r=>∃aa:Bool,(r=.b aa)/\K aa):=
 PF hf J J fun d st Q q=>Yxr q J J J Fr.refl h
end
abbrev Yq1:AC:= (sR 0 [oY 1 7 0,oC 2<|.b false]<|sR 1 [oK 3 7 1,oQ 4 158 [3],oV 5 .neq 4 0,oM 2 5] .ret)
def uN:AF:= { nt:=6,res:=[.tmp 2],body:=Yq1 }
section
variable(PG:Zb)(K:Bool->Prop)
def LS(y0:Zh):Prop:=
  ∃c,Ze PG 158 [y0.av] (.i .i64 c)/\K (decide (c≠0))
end
section
variable{K:Bool->Prop}(hQ:HF d Zp AV.b 2 Q K)
variable{y0:Zh}
variable(H0:U 0=y0.av)(FR:Fr d (d,0) Zp.bx Zp.ow st.bx st.ow)
include hQ H0 FR in
theorem Xf3(h:LS PG K y0):W PG d Yq1 U st Q:=
 au trivial
def Xuj(hf:PG.fn 233=some uN)(h:LS PG K y0):Ym PG 233 [y0.av] (fun r=>∃aa:Bool,(r=.b aa)/\K aa):=
 PF hf J J fun d st Q q=>Xf3 q J Fr.refl h
end
def Yhx:List AI:=[oC 6 (.b false)]
abbrev Yku:AC:= (cD 73 (sR 10 [oF 77 3 5,oK 78 5 77,oQ 79 76 [78],oV 80 .eql 79 0,oM 6 80] .ret) .skip)
abbrev Yjj:AC:= (.seq (sR 6 [oF 70 3 5,oF 71 0 70,oL 72 71]<|.block 0<|.seq (sR 7 [oW 74 .eql 72 1,oM 73 74]<|cD 73 .skip<|sR 8 [oW 75 .eql 72 2,oM 73 75]<|cD 73 .skip<|.reg 9 [oW 76 .eql 72 4,oM 73 76]) Yku)<|sR 11 Yhx .ret)
abbrev Yok:AC:= (.seq (sR 3 [oF 41 2 5,oL 42 41,oZ 43 42]<|cD 43 (sR 4 [oF 44 3 5,oK 45 5 44,oO 7<|.alloc aX,oS 5 7 45]<|sR 5 [oF 46 0 7,oL 47 46,oW 48 .eql 47 0,oM 49 48,gT 49<|oF 50 1 7,gT 49<|oL 51 50,gT 49<|oV 52 .eql 51 0,oA 53 49 52,oM 54 53,gT 54<|oF 55 2 7,gT 54<|oL 56 55,gT 54<|oB 57 .eql (.t 56)<|.c<|.s [],oA 58 54 57,oM 59 58,gT 59<|oF 60 3 7,gT 59<|oL 61 60,gT 59<|oJ 62 61,gT 59<|oV 63 .eql 62 0,oA 64 59 63,oM 65 64,gT 65<|oF 66 4 7,gT 65<|oL 67 66,gT 65<|oZ 68 67,oA 69 65 68,oM 6 69] .ret) .skip) Yjj)
abbrev Ynn:AC:= (.seq (sR 1 [oF 8 0 5,oL 9 8,oV 10 .lss 9 0,oM 11 10,gF 11<|oF 12 0 5,gF 11<|oL 13 12,gF 11<|oM 14 1,gF 11<|oT 15 .geq 13 14,oR 16 11 15,oM 17 16,gF 17<|oF 18 1 5,gF 17<|oL 19 18,gF 17<|oV 20 .lss 19 0,oR 21 17 20,oM 22 21,gF 22<|oF 23 1 5,gF 22<|oL 24 23,gF 22<|oF 25 2 3,gF 22<|oL 26 25,gF 22<|oJ 27 26,gF 22<|oT 28 .geq 24 27,oR 29 22 28,oM 30 29,gF 30<|oF 31 2 3,gF 30<|oL 32 31,gF 30<|oF 33 1 5,gF 30<|oL 34 33,gF 30<|oX 35 7 32 34,gF 30<|oF 36 0 35,gF 30<|oL 37 36,gF 30<|oH 38 37,gF 30<|oV 39 .gtr 38 16,oR 40 30 39]<|cD 40 (sR 2 [oC 6<|.b false] .ret) .skip) Yok)
abbrev Ye7:AC:= (sR 0 [oY 3 3 0,oY 5 8 2,oC 6<|.b false] Ynn)
def uL:AF:= { nt:=81,res:=[.tmp 6],body:=Ye7 }
section
variable(PG:Zb)(K:Bool->Prop)
def Ax(t73:Bool)(m1:Zq):Prop:=
  (t73=true->∃c,Ze PG 76 [m1.arg.av] (.i .i64 c)/\K (decide (c=0)))/\(t73=false->K false)
def LM(m1:Zq):Prop:=
  (m1.arg.kind=1->Ax PG K (decide (m1.arg.kind=1)) m1)/\(¬(m1.arg.kind=1)->(m1.arg.kind=2->Ax PG K (decide (m1.arg.kind=2)) m1)/\(¬(m1.arg.kind=2)->Ax PG K (decide (m1.arg.kind=4)) m1))
def LL(m1:Zq):Prop:=
  ((!m1.hasArg)=true->(m1.arg.kind=0->(m1.arg.int=0->(m1.arg.text=([]:BS)->((m1.arg.list.length:Int)=0->K (!m1.arg.cut))/\(¬((m1.arg.list.length:Int)=0)->K false))/\(¬(m1.arg.text=([]:BS))->K false))/\(¬(m1.arg.int=0)->K false))/\(¬(m1.arg.kind=0)->K false))/\((!m1.hasArg)=false->LM PG K m1)
def LK(ei:Int)(m0:Zd)(m1:Zq):Prop:=
  (m1.frame<0->K false)/\(¬(m1.frame<0)->(m1.frame>=ei->K false)/\(¬(m1.frame>=ei)->(m1.func<0->K false)/\(¬(m1.func<0)->(m1.func>=(m0.funcs.length:Int)->K false)/\(¬(m1.func>=(m0.funcs.length:Int))->0<=m1.func/\∃c:Zz,m0.funcs[(m1.func).toNat]?=some c/\((c.name.length:Int)>16->K false)/\(¬((c.name.length:Int)>16)->LL PG K m1)))))
def LJ(m0:Zd)(ei:Int)(d2:Zq):Prop:=
  LK PG K ei m0 d2
end
section
variable{K:Bool->Prop}(hQ:H1 AV.b 6 Q K)
variable{t73:Bool}{m1:Zq}{v1:Nat}{ei:Int}{m0:Zd}{v0:Nat}{d2:Zq}
variable(H0:U 0=m0.av)(H1:U 1=.i .i64 ei)(H3:U 3=.p (d,0) v0 0)(H2:U 2=d2.av)(H5:U 5=.p (d,1) v1 0)(H73:U 73=.b t73)(B0:lk st.bx (d,0)=some (v0,Zd.cs m0))(B1:lk st.bx (d,1)=some (v1,Zq.co .ext m1))
include hQ H5 H73 B1 in
theorem Xln(h:Ax PG K t73 m1):W PG d Yku U st (Zs 0 (Zk PG d (sR 11 Yhx .ret) Q)):=
 au trivial
include hQ H5 B1 in
theorem Xla(h:LM PG K m1):W PG d Yjj U st Q:=
 au @Xln
include hQ H5 B1 in
theorem Xdf(h:LL PG K m1):W PG d Yok U st Q:=
 au @Xla
include hQ H1 H3 H5 B0 B1 in
theorem Wc1(h:LK PG K ei m0 m1):W PG d Ynn U st Q:=
 au @Xdf
include hQ H0 H1 H2 in
theorem Xz0(h:LJ PG K m0 ei d2):W PG d Ye7 U st Q:=
 au @Wc1
def Xzx(hf:PG.fn 231=some uL)(h:LJ PG K m0 ei d2):∃aa:Bool,K aa/\Ze PG 231 [m0.av,.i .i64 ei,d2.av] (.b aa):=
 P1 hf J<|Xz0 (h1 J fun _=>J) J J J h
end
abbrev Yj7:AC:= (sR 7 [oF 36 1 3,oL 37 36,oV 38 .neq 37 0]<|cD 38 (sR 8 [oC 4<|.b false] .ret) .skip)
abbrev Ygt:AC:= (sR 11 [oF 53 2 3,oL 54 53,oO 55<|.mkfn 228 [(.t 2)],oP 56 227 [54,55],oZ 57 56,oM 58 57,gT 58<|oF 59 3 3,gT 58<|oL 60 59,gT 58<|oO 61<|.mkfz 230 [(.t 2)] (.t 5) [],gT 58<|oP 62 229 [60,61],gT 58<|oZ 63 62,oA 64 58 63,oM 65 64,gT 65<|oF 66 4 3,gT 65<|oL 67 66,gT 65<|oO 68<|.call true 232 [(.t 67),(.c<|.fn 233 [])],gT 65<|oZ 69 68,oA 70 65 69,oM 4 70] .ret)
abbrev Q4:AC:= (.seq (.seq (sR 9 [oL 39 5,oV 40 .lss 39 1,oM 41 40,gF 41<|oL 42 5,gF 41<|oV 43 .gtr 42 170,oR 44 41 43,oM 45 44,gF 45<|oM 46 6,gF 45<|oV 47 .gtr 46 410,oR 48 45 47,oM 49 48,gF 49<|oM 50 7,gF 49<|oV 51 .gtr 50 410,oR 52 49 51]<|cD 52 (sR 10 [oC 4<|.b false] .ret) .skip) Ygt)<|.exit 0)
abbrev qj:AC:= (sR 12 [oC 4<|.b false] .ret)
abbrev Yuq:AC:= (sR 1 [oF 8 2 3,oO 9<|.ldf 1 false<|.t 8,oJ 10 9,oF 11 3 3,oO 12<|.ldf 1 false<|.t 11,oJ 13 12,oF 14 4 3,oO 15<|.ldf 1 false<|.t 14,oJ 16 15,oO 5<|.alloc [z6],oS 1 5 10,oM 6 13,oM 7 16]<|.seq (sR 2 [oF 17 0 3,oL 18 17]<|.block 0<|.seq (.block 3<|.seq (.block 2<|.seq (.block 1<|.seq (.seq (sR 3 [oW 20 .eql 18 3,oM 19 20]<|cD 19 (.exit 1) .skip)<|.seq (sR 4 [oW 22 .eql 18 1,oM 21 22]<|cD 21 (.exit 2) .skip)<|sR 5 [oW 24 .eql 18 2,oM 23 24]<|cD 23 (.exit 3) .skip)<|.exit 0)<|.seq (sR 6 [oL 25 5,oM 26 6,oT 27 .add 25 26,oM 28 7,oT 29 .add 27 28,oV 30 .eql 29 0,oM 31 30,gT 31<|oF 32 1 3,gT 31<|oL 33 32,gT 31<|oV 34 .eql 33 0,oA 35 31 34,oM 4 35] .ret)<|.exit 0) Yj7) Q4) qj)
abbrev Yn6:AC:= (sR 0 [oO 2<|.boxf 3<|.t 0,oO 3<|.boxf 5<|.t 1,oC 4<|.b false] Yuq)
def uz:AF:= { nt:=71,res:=[.tmp 4],fz:=[2,3,1000005],body:=Yn6 }
section
variable(PG:Zb)(K:Bool->Prop)
def LX(il:List Vv)(im:LB)(io:List Zz)(gp ij:Int)(gr:List Zf)(gt:List Zq)(gx:List Zh)(ge:Int):Prop:=
  ∃c,(∀k:Zr,Ym PG 227 [.sl k (List.map Zf.row gr),.fn 228 [.fp [.sl .ext (List.map Vv.row il),.sl .ext (List.map Zv im),.sl .ext (List.map Zz.row io)]]] (fun r=>r=.b c))/\((!c)=true->∃e,(∀o:Zr,Ym PG 229 [.sl o (List.map Zq.row gt),.fn 230 [.fp [.sl .ext (List.map Vv.row il),.sl .ext (List.map Zv im),.sl .ext (List.map Zz.row io)],.fp [.i .i64 ge]]] (fun r=>r=.b e))/\((!e)=true->∃j,(∀p:Zr,Ym PG 232 [.sl p (List.map Zh.row gx),.fn 233 []] (fun r=>r=.b j))/\K (!j))/\((!e)=false->K false))/\((!c)=false->K false)
def pk(il:List Vv)(im:LB)(io:List Zz)(gp ij:Int)(gr:List Zf)(gt:List Zq)(gx:List Zh)(d6 p7 ge:Int):Prop:=
  (ge<1->K false)/\(¬(ge<1)->(ge>170->K false)/\(¬(ge>170)->(d6>410->K false)/\(¬(d6>410)->(p7>410->K false)/\(¬(p7>410)->LX PG K il im io gp ij gr gt gx ge))))
def LY(il:List Vv)(im:LB)(io:List Zz)(gp ij:Int)(gr:List Zf)(gt:List Zq)(gx:List Zh)(d6 p7 ge:Int):Prop:=
  (ij≠0->K false)/\(¬(ij≠0)->pk PG K il im io gp ij gr gt gx d6 p7 ge)
def LZ(PG:Zb)(K:Bool->Prop):Prop:=
  K false
def LW(il:List Vv)(im:LB)(io:List Zz)(gp ij:Int)(gr:List Zf)(gt:List Zq)(gx:List Zh):Prop:=
  (gp=3->((IntKind.i64.wrap ((IntKind.i64.wrap ((gr.length:Int)+(gt.length:Int)))+(gx.length:Int)))=0->K (decide (ij=0)))/\(¬((IntKind.i64.wrap ((IntKind.i64.wrap ((gr.length:Int)+(gt.length:Int)))+(gx.length:Int)))=0)->K false))/\(¬(gp=3)->(gp=1->LY PG K il im io gp ij gr gt gx (gt.length:Int) (gx.length:Int) (gr.length:Int))/\(¬(gp=1)->(gp=2->pk PG K il im io gp ij gr gt gx (gt.length:Int) (gx.length:Int) (gr.length:Int))/\(¬(gp=2)->LZ PG K )))
def LV(m0:Zd)(x1:Zi):Prop:=
  LW PG K m0.types m0.texts m0.funcs x1.status x1.key x1.frames x1.defers x1.panics
end
section
variable{K:Bool->Prop}(hQ:H1 AV.b 4 Q K)
variable{il:List Vv}{im:LB}{io:List Zz}{gp ij:Int}{gr:List Zf}{gt:List Zq}{gx:List Zh}{ge:Int}{lq:Nat}{d6 p7:Int}{m0:Zd}{x1:Zi}
variable(H2:U 2=.fp [.sl .ext (List.map Vv.row il),.sl .ext (List.map Zv im),.sl .ext (List.map Zz.row io)])(H0:U 0=m0.av)(H3:U 3=.fp [.i .u8 gp,.i .i64 ij,.sl .ext (List.map Zf.row gr),.sl .ext (List.map Zq.row gt),.sl .ext (List.map Zh.row gx)])(H1:U 1=x1.av)(H5:U 5=.p (d,4105) lq 0)(H6:U 6=.i .i64 d6)(H7:U 7=.i .i64 p7)(jf:lk st.bx (d,4105)=some (lq,[.i .i64 ge]))
def Xxa(h:LX PG K il im io gp ij gr gt gx ge):W PG d Ygt U st (Zk PG d (.exit 0) (Zs 0 (Zk PG d qj Q))):=
 q_ J<|Do H3<|Xx J J J<|OP (Ye H2 Yw)<|h.elim fun _ e=>Gm (Ye J<|Ye J Yw) (e.1 _)<|fun _ o=>Wa J<|Yt J<|Ql (g:=58) J (fun j=>Zg J<|Do H3<|Zg J<|Xx J J J<|Zg J<|Xyl (Tr.symm.trans<|Ye H2 Yw) H5 (Tr.symm.trans Yw) ((o.1 (d,4105) (kG d) Kv).trans jf) J<|Zg J<|(e.2.1 j).elim fun _ c=>Gm (Ye J<|Ye J Yw) (c.1 _)<|fun _ _=>Zg J<|Wa J<|z_ 2 J<|Ql (g:=65) J (fun i=>Zg J<|Do H3<|Zg J<|Xx J J J<|Zg J<|(c.2.1 i).elim fun _ k=>Gm (Ye J<|Ye J Yw) (k.1 _)<|fun _ _=>Zg J<|Wa J<|z_ 2 J<|Zu<|hQ J k.2)<|fun i=>z_ 6 J<|Zu<|hQ J<|c.2.2 i)<|fun j=>z_ 13 J<|Zu<|hQ J<|e.2.2 j
def Yon(h:pk PG K il im io gp ij gr gt gx d6 p7 ge):W PG d Q4 U st (Zs 0 (Zk PG d qj Q)):=
 Zl<|Zl<|q_ J<|l_ H5 jf J J<|b_ J J Wp<|Yt J<|Xe (g:=41) J (fun c=>z_ 11 J<|e_<|Xh J<|q_ J<|m_<|Zu<|hQ J<|h.1 c)<|fun c=>Zg J<|l_ H5 jf J J<|Zg J<|b_ J J Jd<|z_ 2 J<|Xe (g:=45) J (fun e=>z_ 7 J<|e_<|Xh J<|q_ J<|m_<|Zu<|hQ J<|(h.2 c).1 e)<|fun e=>Zg J<|Wc H6<|Zg J<|b_ J J Jd<|z_ 2 J<|Xe (g:=49) J (fun i=>z_ 3 J<|e_<|Xh J<|q_ J<|m_<|Zu<|hQ J<|((h.2 c).2 e).1 i)<|fun i=>Zg J<|Wc H7<|Zg J<|b_ J J Jd<|Vt J J<|e_<|Yi J (fun j=>q_ J<|m_<|Zu<|hQ J<|(((h.2 c).2 e).2 i).1 j)<|fun j=>Ya<|Xxa hQ H2 H3 H5 jf<|(((h.2 c).2 e).2 i).2 j
include hQ H2 H3 H5 H6 H7 jf in
theorem Xzl(h:LY PG K il im io gp ij gr gt gx d6 p7 ge):W PG d Yj7 U st (Zs 3 (Zk PG d Q4 (Zs 0 (Zk PG d qj Q)))):=
 au @Yon
include hQ in
theorem Xwa(h:LZ PG K):W PG d qj U st Q:=
 au trivial
include hQ H2 H3 in
theorem Xpm(h:LW PG K il im io gp ij gr gt gx):W PG d Yuq U st Q:=
 au<|And.intro @Xzl (And.intro @Yon @Xwa)
include hQ H0 H1 in
theorem Xu8(h:LV PG K m0 x1):W PG d Yn6 U st Q:=
 au @Xpm
def Xs8(hf:PG.fn 219=some uz)(h:LV PG K m0 x1):∃aa:Bool,K aa/\Ze PG 219 [m0.av,x1.av] (.b aa):=
 P1 hf J<|Xu8 (h1 J fun _=>J) J J h
end
abbrev Yjv:AC:= (sR 0 [oY 2 5 0,oC 3<|.b false]<|sR 1 [oK 4 3 1,oK 5 5 2,oQ 6 219 [4,5],oZ 7 6,oM 3 7] .ret)
def uF:AF:= { nt:=8,res:=[.tmp 3],body:=Yjv }
section
variable(PG:Zb)(K:Bool->Prop)
def L6(x0:Zi)(t1:Zd):Prop:=
  ∃c,Ze PG 219 [t1.av,x0.av] (.b c)/\K (!c)
end
section
variable{K:Bool->Prop}(hQ:HF d Zp AV.b 3 Q K)
variable{x0:Zi}{t1:Zd}
variable(H0:U 0=x0.av)(H1:U 1=.fp (Zd.co .ext .ext .ext t1))(FR:Fr d (d,0) Zp.bx Zp.ow st.bx st.ow)
include hQ H0 H1 FR in
theorem Xft(h:L6 PG K x0 t1):W PG d Yjv U st Q:=
 au trivial
def Xp1(hf:PG.fn 225=some uF)(h:L6 PG K x0 t1):Ym PG 225 [x0.av,.fp [.sl .ext (List.map Vv.row t1.types),.sl .ext (List.map Zv t1.texts),.sl .ext (List.map Zz.row t1.funcs)]] (fun r=>∃aa:Bool,(r=.b aa)/\K aa):=
 PF hf J J fun d st Q q=>Xft q J J Fr.refl h
end
abbrev Ygp:AC:= (sR 0 [oO 2<|.boxf 3<|.t 0,oY 3 4 1,oI 4 0]<|sR 1 [oF 6 3 3,oL 7 6,oJ 8 7,oM 5 8]<|.seq (sR 2 [oF 9 0 3,oL 10 9,oW 11 .lss 10 1,oM 12 11,gF 12<|oF 13 0 3,gF 12<|oL 14 13,gF 12<|oW 15 .gtr 14 8,oR 16 12 15,oM 17 16,gF 17<|oF 18 2 3,gF 17<|oL 19 18,gF 17<|oV 20 .lss 19 0,oR 21 17 20,oM 22 21,gF 22<|oF 23 2 3,gF 22<|oL 24 23,gF 22<|oV 25 .gtr 24 5000,oR 26 22 25,oM 27 26,gF 27<|oM 28 5,gF 27<|oV 29 .gtr 28 16,oR 30 27 29,oM 31 30,gF 31<|oF 32 1 3,gF 31<|oL 33 32,gF 31<|oV 34 .lss 33<|-1,oR 35 31 34,oM 36 35,gF 36<|oF 37 1 3,gF 36<|oL 38 37,gF 36<|oM 39 5,gF 36<|oT 40 .geq 38 39,oR 41 36 40,oM 42 41,gF 42<|oF 43 3 3,gF 42<|oL 44 43,gF 42<|oO 45<|.mkfn 225 [(.t 2)],gF 42<|oP 46 224 [44,45],oR 47 42 46]<|cD 47 (sR 3 [oI 4 8] .ret) .skip)<|sR 4 [oI 4 0] .ret)
def uv:AF:= { nt:=48,res:=[.tmp 4],fz:=[2],body:=Ygp }
section
variable(PG:Zb)(K:Int->Prop)
def L7(m0:Zd)(s1:Zo):Prop:=
  (s1.outcome<1->K 8)/\(¬(s1.outcome<1)->(s1.outcome>8->K 8)/\(¬(s1.outcome>8)->(s1.steps<0->K 8)/\(¬(s1.steps<0)->(s1.steps>5000->K 8)/\(¬(s1.steps>5000)->((s1.routines.length:Int)>16->K 8)/\(¬((s1.routines.length:Int)>16)->(s1.failing<(-1)->K 8)/\(¬(s1.failing<(-1))->(s1.failing>=(s1.routines.length:Int)->K 8)/\(¬(s1.failing>=(s1.routines.length:Int))->∃c,(∀e:Zr,Ym PG 224 [.sl e (List.map Zi.row s1.routines),.fn 225 [.fp [.sl .ext (List.map Vv.row m0.types),.sl .ext (List.map Zv m0.texts),.sl .ext (List.map Zz.row m0.funcs)]]] (fun r=>r=.b c))/\(c=true->K 8)/\(c=false->K 0))))))))
end
section
variable{K:Int->Prop}(hQ:H1 (AV.i .i64) 4 Q K)
variable{m0:Zd}{s1:Zo}
variable(H0:U 0=m0.av)(H1:U 1=s1.av)
def Xdm(h:L7 PG K m0 s1):W PG d Ygp U st Q:=
 q_ J<|ZK H0 J J<|Jw H1 J<|m_<|e_<|q_ J<|f_ J<|l_ J Zj J J<|Xq J<|m_<|e_<|Zl<|q_ J<|f_ J<|l_ J Zj J J<|b_ J J Wp<|Yt J<|Xe (g:=12) J (fun c=>z_ 35 J<|e_<|Xh J<|q_ J<|m_<|Zu<|hQ J<|h.1 c)<|fun c=>Zg J<|f_ J<|Zg J<|l_ J Zj J J<|Zg J<|b_ J J Jd<|z_ 2 J<|Xe (g:=17) J (fun e=>z_ 30 J<|e_<|Xh J<|q_ J<|m_<|Zu<|hQ J<|(h.2 c).1 e)<|fun e=>Zg J<|f_ J<|Zg J<|l_ J Zj J J<|Zg J<|b_ J J Wp<|z_ 2 J<|Xe (g:=22) J (fun i=>z_ 25 J<|e_<|Xh J<|q_ J<|m_<|Zu<|hQ J<|((h.2 c).2 e).1 i)<|fun i=>Zg J<|f_ J<|Zg J<|l_ J Zj J J<|Zg J<|b_ J J Jd<|z_ 2 J<|Xe (g:=27) J (fun j=>z_ 20 J<|e_<|Xh J<|q_ J<|m_<|Zu<|hQ J<|(((h.2 c).2 e).2 i).1 j)<|fun j=>Zg J<|Wc J<|Zg J<|b_ J J Jd<|z_ 2 J<|Xe (g:=31) J (fun k=>z_ 16 J<|e_<|Xh J<|q_ J<|m_<|Zu<|hQ J<|((((h.2 c).2 e).2 i).2 j).1 k)<|fun k=>Zg J<|f_ J<|Zg J<|l_ J Zj J J<|Zg J<|b_ J J Wp<|z_ 2 J<|Xe (g:=36) J (fun o=>z_ 11 J<|e_<|Xh J<|q_ J<|m_<|Zu<|hQ J<|(((((h.2 c).2 e).2 i).2 j).2 k).1 o)<|fun o=>Zg J<|f_ J<|Zg J<|l_ J Zj J J<|Zg J<|Wc J<|Zg J<|b_ J J Ha<|z_ 2 J<|Xe (g:=42) J (fun r=>z_ 5 J<|e_<|Xh J<|q_ J<|m_<|Zu<|hQ J<|((((((h.2 c).2 e).2 i).2 j).2 k).2 o).1 r)<|fun r=>Zg J<|f_ J<|Zg J<|l_ J Zj J J<|Zg J<|OP (Ye J Yw)<|Zg J<|(((((((h.2 c).2 e).2 i).2 j).2 k).2 o).2 r).elim fun _ p=>Gm (Ye J<|Ye J Yw) (p.1 _)<|fun _ _=>Vt J J<|e_<|Xw J (fun q=>q_ J<|m_<|Zu<|hQ J<|p.2.1 q)<|fun q=>Ya<|q_ J<|m_<|Zu<|hQ J<|p.2.2 q
def Xed(hf:PG.fn 213=some uv)(h:L7 PG K m0 s1):∃aa:Int,K aa/\Ze PG 213 [m0.av,s1.av] (.i .i64 aa):=
 P1 hf J<|Xdm (h1 J fun _=>J) J J h
end
abbrev Ysq:AC:= (.seq (sR 3 [oF 41 2 5,oL 42 41,oZ 43 42]<|cD 43 (sR 4 [oF 44 3 5,oK 45 5 44,oO 46<|.build aX [],oQ 47 78 [45,46],oM 6 47] .ret) .skip)<|sR 5 [oF 48 3 5,oF 49 0 48,oL 50 49,oM 7 50]<|sR 6 [oM 51 7,oW 52 .eql 51 1,oM 53 52,gF 53<|oM 54 7,gF 53<|oW 55 .eql 54 2,oR 56 53 55,oM 57 56,gF 57<|oM 58 7,gF 57<|oW 59 .eql 58 4,oR 60 57 59,oM 61 60,gT 61<|oF 62 3 5,gT 61<|oK 63 5 62,gT 61<|oQ 64 77 [63],gT 61<|oV 65 .eql 64 0,oA 66 61 65,oM 6 66] .ret)
abbrev Yma:AC:= (.seq (sR 1 [oF 8 0 5,oL 9 8,oV 10 .lss 9 0,oM 11 10,gF 11<|oF 12 0 5,gF 11<|oL 13 12,gF 11<|oM 14 1,gF 11<|oT 15 .geq 13 14,oR 16 11 15,oM 17 16,gF 17<|oF 18 1 5,gF 17<|oL 19 18,gF 17<|oV 20 .lss 19 0,oR 21 17 20,oM 22 21,gF 22<|oF 23 1 5,gF 22<|oL 24 23,gF 22<|oF 25 2 3,gF 22<|oL 26 25,gF 22<|oJ 27 26,gF 22<|oT 28 .geq 24 27,oR 29 22 28,oM 30 29,gF 30<|oF 31 2 3,gF 30<|oL 32 31,gF 30<|oF 33 1 5,gF 30<|oL 34 33,gF 30<|oX 35 7 32 34,gF 30<|oF 36 0 35,gF 30<|oL 37 36,gF 30<|oH 38 37,gF 30<|oV 39 .gtr 38 16,oR 40 30 39]<|cD 40 (sR 2 [oC 6<|.b false] .ret) .skip) Ysq)
abbrev Yel:AC:= (sR 0 [oY 3 3 0,oY 5 8 2,oC 6<|.b false] Yma)
def uP:AF:= { nt:=67,res:=[.tmp 6],body:=Yel }
section
variable(PG:Zb)(K:Bool->Prop)
def LP(m1:Zq):Prop:=
  ((!m1.hasArg)=true->∃k,Ze PG 78 [m1.arg.av,.ag [.i .u8 0,.i .i64 0,.s [],.sl .ext (List.map Za.row ([]:List Za)),.b false]] (.b k)/\K k)/\((!m1.hasArg)=false->(m1.arg.kind=1->∃j,Ze PG 77 [m1.arg.av] (.i .i64 j)/\K (decide (j=0)))/\(¬(m1.arg.kind=1)->(m1.arg.kind=2->∃c,Ze PG 77 [m1.arg.av] (.i .i64 c)/\K (decide (c=0)))/\(¬(m1.arg.kind=2)->(m1.arg.kind=4->∃e,Ze PG 77 [m1.arg.av] (.i .i64 e)/\K (decide (e=0)))/\(¬(m1.arg.kind=4)->K false))))
def LO(gq:Int)(m0:Zd)(m1:Zq):Prop:=
  (m1.frame<0->K false)/\(¬(m1.frame<0)->(m1.frame>=gq->K false)/\(¬(m1.frame>=gq)->(m1.func<0->K false)/\(¬(m1.func<0)->(m1.func>=(m0.funcs.length:Int)->K false)/\(¬(m1.func>=(m0.funcs.length:Int))->0<=m1.func/\∃c:Zz,m0.funcs[(m1.func).toNat]?=some c/\((c.name.length:Int)>16->K false)/\(¬((c.name.length:Int)>16)->LP PG K m1)))))
def LN(m0:Zd)(gq:Int)(d2:Zq):Prop:=
  LO PG K gq m0 d2
end
section
variable{K:Bool->Prop}(hQ:H1 AV.b 6 Q K)
variable{m1:Zq}{v1:Nat}{gq:Int}{m0:Zd}{v0:Nat}{d2:Zq}
variable(H0:U 0=m0.av)(H1:U 1=.i .i64 gq)(H3:U 3=.p (d,0) v0 0)(H2:U 2=d2.av)(H5:U 5=.p (d,1) v1 0)(B0:lk st.bx (d,0)=some (v0,Zd.cs m0))(B1:lk st.bx (d,1)=some (v1,Zq.co .ext m1))
include hQ H5 B1 in
theorem Xwi(h:LP PG K m1):W PG d Ysq U st Q:=
 au trivial
include hQ H1 H3 H5 B0 B1 in
theorem Xv3(h:LO PG K gq m0 m1):W PG d Yma U st Q:=
 au @Xwi
include hQ H0 H1 H2 in
theorem Yvt(h:LN PG K m0 gq d2):W PG d Yel U st Q:=
 au @Xv3
def Xef(hf:PG.fn 235=some uP)(h:LN PG K m0 gq d2):∃aa:Bool,K aa/\Ze PG 235 [m0.av,.i .i64 gq,d2.av] (.b aa):=
 P1 hf J<|Yvt (h1 J fun _=>J) J J J h
end
abbrev yi:AC:= (.seq (sR 8 [oM 66 5,oF 67 2 3,oL 68 67,oJ 69 68,oT 70 .lss 66 69]<|cD 70 .skip<|.exit 0)<|.seq (.block 1<|sR 10 [oK 73 3 2,oF 74 2 3,oL 75 74,oM 76 5,oX 77 4 75 76,oK 78 4 77,oQ 79 87 [73,78],oV 80 .neq 79 0]<|cD 80 (sR 11 [oC 4<|.b false] .ret) .skip)<|.reg 9 [oM 71 5,oV 72 .add 71 1,oM 5 72])
abbrev yj:AC:= (.seq (sR 13 [oM 81 6,oF 82 3 3,oL 83 82,oJ 84 83,oT 85 .lss 81 84]<|cD 85 .skip<|.exit 2)<|.seq (.block 3<|sR 15 [oK 88 3 2,oF 89 2 3,oL 90 89,oJ 91 90,oF 92 3 3,oL 93 92,oM 94 6,oX 95 8 93 94,oK 96 8 95,oQ 97 235 [88,91,96],oZ 98 97]<|cD 98 (sR 16 [oC 4<|.b false] .ret) .skip)<|.reg 14 [oM 86 6,oV 87 .add 86 1,oM 6 87])
abbrev yk:AC:= (sR 17 [oC 4<|.b true] .ret)
abbrev ym:AC:= (.seq (sR 12 [oI 6 0]<|.block 2<|.loop yj) yk)
abbrev Yj2:AC:= (.seq (sR 7 [oI 5 0]<|.block 0<|.loop yi) ym)
abbrev Ysg:AC:= (.seq (sR 5 [oF 44 2 3,oL 45 44,oJ 46 45,oV 47 .lss 46 1,oM 48 47,gF 48<|oF 49 2 3,gF 48<|oL 50 49,gF 48<|oJ 51 50,gF 48<|oV 52 .gtr 51 170,oR 53 48 52,oM 54 53,gF 54<|oF 55 3 3,gF 54<|oL 56 55,gF 54<|oJ 57 56,gF 54<|oV 58 .gtr 57 410,oR 59 54 58,oM 60 59,gF 60<|oF 61 4 3,gF 60<|oL 62 61,gF 60<|oQ 63 163 [62],gF 60<|oV 64 .neq 63 0,oR 65 60 64]<|cD 65 (sR 6 [oC 4<|.b false] .ret) .skip) Yj2)
abbrev Ypy:AC:= (.seq (sR 3 [oF 31 0 3,oL 32 31,oW 33 .neq 32 2,oM 34 33,gT 34<|oF 35 0 3,gT 34<|oL 36 35,gT 34<|oW 37 .neq 36 1,gT 34<|oM 38 37,gF 38<|oF 39 1 3,gF 38<|oL 40 39,gF 38<|oV 41 .neq 40 0,gT 34<|oR 42 38 41,oA 43 34 42]<|cD 43 (sR 4 [oC 4<|.b false] .ret) .skip) Ysg)
abbrev Yof:AC:= (.seq (sR 1 [oF 7 0 3,oL 8 7,oW 9 .eql 8 3]<|cD 9 (sR 2 [oF 10 2 3,oL 11 10,oJ 12 11,oV 13 .eql 12 0,oM 14 13,gT 14<|oF 15 3 3,gT 14<|oL 16 15,gT 14<|oJ 17 16,gT 14<|oV 18 .eql 17 0,oA 19 14 18,oM 20 19,gT 20<|oF 21 4 3,gT 20<|oL 22 21,gT 20<|oJ 23 22,gT 20<|oV 24 .eql 23 0,oA 25 20 24,oM 26 25,gT 26<|oF 27 1 3,gT 26<|oL 28 27,gT 26<|oV 29 .eql 28 0,oA 30 26 29,oM 4 30] .ret) .skip) Ypy)
abbrev Yoa:AC:= (sR 0 [oY 2 3 0,oY 3 5 1,oC 4<|.b false] Yof)
def uB:AF:= { nt:=99,res:=[.tmp 4],body:=Yoa }
abbrev Yhc(PG:Zb)(d:Nat)(Q:Q0)(i5:Int)(m0:Zd)(m1:Zi):Prop:=
  ∀(U:Sl)(st:St)(v0 v1:Nat),U 2=.p (d,0) v0 0->U 3=.p (d,1) v1 0->U 5=.i .i64 i5->lk st.bx (d,0)=some (v0,Zd.cs m0)->lk st.bx (d,1)=some (v1,Zi.cs m1)->W PG d (.loop yi) U st (Zs 0 (Zk PG d ym Q))
abbrev Yrn(PG:Zb)(d:Nat)(Q:Q0)(i6:Int)(m0:Zd)(m1:Zi):Prop:=
  ∀(U:Sl)(st:St)(v0 v1:Nat),U 2=.p (d,0) v0 0->U 3=.p (d,1) v1 0->U 6=.i .i64 i6->lk st.bx (d,0)=some (v0,Zd.cs m0)->lk st.bx (d,1)=some (v1,Zi.cs m1)->W PG d (.loop yj) U st (Zs 2 (Zk PG d yk Q))
def L4(PG:Zb)(K:Bool->Prop):Prop:=
  K true
section
variable(PG:Zb)(K:Bool->Prop)
def uY(P1:Int->Zd->Zi->Prop)(i6:Int)(m0:Zd)(m1:Zi):Prop:=
  (i6<(m1.defers.length:Int)->0<=i6/\∃e:Zq,m1.defers[(i6).toNat]?=some e/\∃c,Ze PG 235 [m0.av,.i .i64 (m1.frames.length:Int),e.av] (.b c)/\((!c)=true->K false)/\((!c)=false->P1 (IntKind.i64.wrap (i6+1)) m0 m1))/\(¬(i6<(m1.defers.length:Int))->L4 PG K )
def L3(m0:Zd)(m1:Zi):Prop:=
  ∀P1:Int->Zd->Zi->Prop,(∀(i6:Int)(m0:Zd)(m1:Zi),uY PG K P1 i6 m0 m1->P1 i6 m0 m1)->P1 0 m0 m1
def uX(P0:Int->Zd->Zi->Prop)(i5:Int)(m0:Zd)(m1:Zi):Prop:=
  (i5<(m1.frames.length:Int)->0<=i5/\∃e:Zf,m1.frames[(i5).toNat]?=some e/\∃c,Ze PG 87 [m0.av,e.av] (.i .i64 c)/\(c≠0->K false)/\(¬(c≠0)->P0 (IntKind.i64.wrap (i5+1)) m0 m1))/\(¬(i5<(m1.frames.length:Int))->L3 PG K m0 m1)
def L2(m0:Zd)(m1:Zi):Prop:=
  ∀P0:Int->Zd->Zi->Prop,(∀(i5:Int)(m0:Zd)(m1:Zi),uX PG K P0 i5 m0 m1->P0 i5 m0 m1)->P0 0 m0 m1
def pn(m0:Zd)(m1:Zi):Prop:=
  ((m1.frames.length:Int)<1->K false)/\(¬((m1.frames.length:Int)<1)->((m1.frames.length:Int)>170->K false)/\(¬((m1.frames.length:Int)>170)->((m1.defers.length:Int)>410->K false)/\(¬((m1.defers.length:Int)>410)->∃c,Ze PG 163 [.sl .ext (List.map Zh.row m1.panics)] (.i .i64 c)/\(c≠0->K false)/\(¬(c≠0)->L2 PG K m0 m1))))
def L5(m0:Zd)(m1:Zi):Prop:=
  (m1.status≠2->(m1.status≠1->K false)/\(¬(m1.status≠1)->(m1.key≠0->K false)/\(¬(m1.key≠0)->pn PG K m0 m1)))/\(¬(m1.status≠2)->pn PG K m0 m1)
def L1(m0:Zd)(m1:Zi):Prop:=
  (m1.status=3->((m1.frames.length:Int)=0->((m1.defers.length:Int)=0->((m1.panics.length:Int)=0->K (decide (m1.key=0)))/\(¬((m1.panics.length:Int)=0)->K false))/\(¬((m1.defers.length:Int)=0)->K false))/\(¬((m1.frames.length:Int)=0)->K false))/\(¬(m1.status=3)->L5 PG K m0 m1)
def L0(m0:Zd)(x1:Zi):Prop:=
  L1 PG K m0 x1
end
section
variable{K:Bool->Prop}(hQ:H1 AV.b 4 Q K)
variable{i6:Int}{m0:Zd}{m1:Zi}{P1:Int->Zd->Zi->Prop}{v0 v1:Nat}{i5:Int}{P0:Int->Zd->Zi->Prop}{x1:Zi}
variable(bZ :∀(i6:Int)(m0:Zd)(m1:Zi),P1 i6 m0 m1->Yrn PG d Q i6 m0 m1)(aD :∀(i5:Int)(m0:Zd)(m1:Zi),P0 i5 m0 m1->Yhc PG d Q i5 m0 m1)(H0:U 0=m0.av)(H2:U 2=.p (d,0) v0 0)(H1:U 1=x1.av)(H3:U 3=.p (d,1) v1 0)(H6:U 6=.i .i64 i6)(H5:U 5=.i .i64 i5)(B0:lk st.bx (d,0)=some (v0,Zd.cs m0))(B1:lk st.bx (d,1)=some (v1,Zi.cs m1))
include hQ in
theorem Xh4(h:L4 PG K):W PG d yk U st Q:=
 au trivial
include hQ bZ H2 H3 H6 B0 B1 in
theorem Xhi(h:uY PG K P1 i6 m0 m1):W PG d yj U st (Zk PG d (.loop yj) (Zs 2 (Zk PG d yk Q))):=
 au @Xh4
def Yxu(h:L3 PG K m0 m1):W PG d ym U st Q:=
 Zl<|q_ J<|m_<|e_<|Yg<|h (Yrn PG d Q ) (fun _ _ _ hb _ _ _ _ H2 H3 H6 B0 B1=>W.loop<|Xhi hQ (fun _ _ _ x=>x) H2 H3 H6 B0 B1 hb) _ _ _ _ H2 H3 J B0 B1
include hQ aD H2 H3 H5 B0 B1 in
theorem Waf(h:uX PG K P0 i5 m0 m1):W PG d yi U st (Zk PG d (.loop yi) (Zs 0 (Zk PG d ym Q))):=
 au @Yxu
def Xdy(h:L2 PG K m0 m1):W PG d Yj2 U st Q:=
 Zl<|q_ J<|m_<|e_<|Yg<|h (Yhc PG d Q ) (fun _ _ _ hb _ _ _ _ H2 H3 H5 B0 B1=>W.loop<|Waf hQ (fun _ _ _ x=>x) H2 H3 H5 B0 B1 hb) _ _ _ _ H2 H3 J B0 B1
include hQ H2 H3 B0 B1 in
theorem Xzc(h:pn PG K m0 m1):W PG d Ysg U st Q:=
 au @Xdy
include hQ H2 H3 B0 B1 in
theorem Xer(h:L5 PG K m0 m1):W PG d Ypy U st Q:=
 au @Xzc
include hQ H2 H3 B0 B1 in
theorem Yxp(h:L1 PG K m0 m1):W PG d Yof U st Q:=
 au @Xer
include hQ H0 H1 in
theorem Yvo(h:L0 PG K m0 x1):W PG d Yoa U st Q:=
 au @Yxp
end
def Xun{PG:Zb}(hf:PG.fn 221=some uB){m0:Zd}{x1:Zi}{K:Bool->Prop}(h:L0 PG K m0 x1):∃aa:Bool,K aa/\Ze PG 221 [m0.av,x1.av] (.b aa):=
 P1 hf J<|Yvo (h1 J fun _=>J) J J h
abbrev yn:AC:= (.seq (sR 4 [oM 43 5,oF 44 3 3,oL 45 44,oJ 46 45,oT 47 .lss 43 46]<|cD 47 .skip<|.exit 0)<|.seq (.block 1<|sR 6 [oK 50 3 2,oF 51 3 3,oL 52 51,oM 53 5,oX 54 5 52 53,oK 55 5 54,oQ 56 221 [50,55],oZ 57 56]<|cD 57 (sR 7 [oI 4 8] .ret) .skip)<|.reg 5 [oM 48 5,oV 49 .add 48 1,oM 5 49])
abbrev yo:AC:= (sR 8 [oI 4 0] .ret)
abbrev Ydz:AC:= (.seq (sR 3 [oI 5 0]<|.block 0<|.loop yn) yo)
abbrev Yk4:AC:= (sR 0 [oY 2 3 0,oY 3 4 1,oI 4 0]<|.seq (sR 1 [oF 6 0 3,oL 7 6,oW 8 .lss 7 1,oM 9 8,gF 9<|oF 10 0 3,gF 9<|oL 11 10,gF 9<|oW 12 .gtr 11 8,oR 13 9 12,oM 14 13,gF 14<|oF 15 2 3,gF 14<|oL 16 15,gF 14<|oV 17 .lss 16 0,oR 18 14 17,oM 19 18,gF 19<|oF 20 2 3,gF 19<|oL 21 20,gF 19<|oV 22 .gtr 21 5000,oR 23 19 22,oM 24 23,gF 24<|oF 25 3 3,gF 24<|oL 26 25,gF 24<|oJ 27 26,gF 24<|oV 28 .gtr 27 16,oR 29 24 28,oM 30 29,gF 30<|oF 31 1 3,gF 30<|oL 32 31,gF 30<|oV 33 .lss 32<|-1,oR 34 30 33,oM 35 34,gF 35<|oF 36 1 3,gF 35<|oL 37 36,gF 35<|oF 38 3 3,gF 35<|oL 39 38,gF 35<|oJ 40 39,gF 35<|oT 41 .geq 37 40,oR 42 35 41]<|cD 42 (sR 2 [oI 4 8] .ret) .skip) Ydz)
def uw:AF:= { nt:=58,res:=[.tmp 4],body:=Yk4 }
abbrev Yoj(PG:Zb)(d:Nat)(Q:Q0)(i5:Int)(m0:Zd)(m1:Zo):Prop:=
  ∀(U:Sl)(st:St)(v0 v1:Nat),U 2=.p (d,0) v0 0->U 3=.p (d,1) v1 0->U 5=.i .i64 i5->lk st.bx (d,0)=some (v0,Zd.cs m0)->lk st.bx (d,1)=some (v1,Zo.cs m1)->W PG d (.loop yn) U st (Zs 0 (Zk PG d yo Q))
def L_(PG:Zb)(K:Int->Prop):Prop:=
  K 0
section
variable(PG:Zb)(K:Int->Prop)
def uZ(P0:Int->Zd->Zo->Prop)(i5:Int)(m0:Zd)(m1:Zo):Prop:=
  (i5<(m1.routines.length:Int)->0<=i5/\∃e:Zi,m1.routines[(i5).toNat]?=some e/\∃c,Ze PG 221 [m0.av,e.av] (.b c)/\((!c)=true->K 8)/\((!c)=false->P0 (IntKind.i64.wrap (i5+1)) m0 m1))/\(¬(i5<(m1.routines.length:Int))->L_ PG K )
def L9(m0:Zd)(m1:Zo):Prop:=
  ∀P0:Int->Zd->Zo->Prop,(∀(i5:Int)(m0:Zd)(m1:Zo),uZ PG K P0 i5 m0 m1->P0 i5 m0 m1)->P0 0 m0 m1
def L8(m0:Zd)(s1:Zo):Prop:=
  (s1.outcome<1->K 8)/\(¬(s1.outcome<1)->(s1.outcome>8->K 8)/\(¬(s1.outcome>8)->(s1.steps<0->K 8)/\(¬(s1.steps<0)->(s1.steps>5000->K 8)/\(¬(s1.steps>5000)->((s1.routines.length:Int)>16->K 8)/\(¬((s1.routines.length:Int)>16)->(s1.failing<(-1)->K 8)/\(¬(s1.failing<(-1))->(s1.failing>=(s1.routines.length:Int)->K 8)/\(¬(s1.failing>=(s1.routines.length:Int))->L9 PG K m0 s1)))))))
end
section
variable{K:Int->Prop}(hQ:H1 (AV.i .i64) 4 Q K)
variable{i5:Int}{m0:Zd}{m1:Zo}{P0:Int->Zd->Zo->Prop}{v0 v1:Nat}{s1:Zo}
variable(aD :∀(i5:Int)(m0:Zd)(m1:Zo),P0 i5 m0 m1->Yoj PG d Q i5 m0 m1)(H0:U 0=m0.av)(H2:U 2=.p (d,0) v0 0)(H1:U 1=s1.av)(H3:U 3=.p (d,1) v1 0)(H5:U 5=.i .i64 i5)(B0:lk st.bx (d,0)=some (v0,Zd.cs m0))(B1:lk st.bx (d,1)=some (v1,Zo.cs m1))
include hQ in
theorem Xmr(h:L_ PG K):W PG d yo U st Q:=
 au trivial
include hQ aD H2 H3 H5 B0 B1 in
theorem Xet(h:uZ PG K P0 i5 m0 m1):W PG d yn U st (Zk PG d (.loop yn) (Zs 0 (Zk PG d yo Q))):=
 au @Xmr
def Xo7(h:L9 PG K m0 m1):W PG d Ydz U st Q:=
 Zl<|q_ J<|m_<|e_<|Yg<|h (Yoj PG d Q ) (fun _ _ _ hb _ _ _ _ H2 H3 H5 B0 B1=>W.loop<|Xet hQ (fun _ _ _ x=>x) H2 H3 H5 B0 B1 hb) _ _ _ _ H2 H3 J B0 B1
include hQ H0 H1 in
theorem Xkt(h:L8 PG K m0 s1):W PG d Yk4 U st Q:=
 au @Xo7
def Xlu(hf:PG.fn 214=some uw)(h:L8 PG K m0 s1):∃aa:Int,K aa/\Ze PG 214 [m0.av,s1.av] (.i .i64 aa):=
 P1 hf J<|Xkt (h1 J fun _=>J) J J h
end
end Go.AM
