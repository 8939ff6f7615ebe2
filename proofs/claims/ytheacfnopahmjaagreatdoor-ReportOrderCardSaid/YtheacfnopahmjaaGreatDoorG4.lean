/- Parts of the proof: U38f, U38g, U38h, U39a, U39b, U39c, U39d, U39e, U40a, U40b, U40c, U40d, U40e. -/
import Derived.Test.YtheacfnopahmjaaGreatDoorG2
set_option linter.all false
/- Yg of the proof. -/
namespace Go.AM
open Go
set_option linter.unusedVariables false
set_option linter.unusedSimpArgs false
set_option maxRecDepth 4000
set_option maxHeartbeats 2000000
attribute [local irreducible] Decidable.decide W WO Ww Wx
abbrev H81 (Q:AE->Sl->St->Prop)(K:Bool->Prop):Prop:=∀(σ:Sl)(st:St)(res0:Bool),σ 2=.b res0->K res0->Q .ret σ st
section
variable {PG:Za}{d:Nat}{Q:AE->Sl->St->Prop}{K:Bool->Prop}(hQ:H81 Q K){σ:Sl}{st:St}
include hQ
end
def Yfl:List AI:=[oY 1 3 0,oC 2 (.b false)]
def Yq9:List AI:=[oI 3 0]
def Wjn:List AI:=[oM 6 3,oF 7 2 1,oL 8 7,oJ 9 8,oT 10 .lss 6 9,oM 11 10,gT 11 (oM 12 3),gT 11 (oV 13 .leq 12 40),oA 14 11 13]
def Wrl:List AI:=[oF 17 2 1,oL 18 17,oM 19 3,oX 20 7 18 19,oK 21 7 20,oO 4 (.alloc [zs,z6,z6,zl,zl,zl,zl]),oS 7 4 21]
def Xlr:List AI:=[oF 22 0 4,oL 23 22,oH 24 23,oV 25 .gtr 24 40,oM 26 25,gF 26 (oF 27 3 4),gF 26 (oL 28 27),gF 26 (oJ 29 28),gF 26 (oV 30 .gtr 29 30),oR 31 26 30,oM 32 31,gF 32 (oF 33 4 4),gF 32 (oL 34 33),gF 32 (oJ 35 34),gF 32 (oV 36 .gtr 35 300),oR 37 32 36]
def Wed:List AI:=[oC 2 (.b true)]
def Xrn:List AI:=[oI 5 0]
def Wr5:List AI:=[oM 38 5,oF 39 3 4,oL 40 39,oJ 41 40,oT 42 .lss 38 41]
def Xkw:List AI:=[oF 45 3 4,oL 46 45,oM 47 5,oX 48 2 46 47,oF 49 0 48,oL 50 49,oH 51 50,oV 52 .gtr 51 40]
def Xqm:List AI:=[oC 2 (.b true)]
def Wf1:List AI:=[oM 43 5,oV 44 .add 43 1,oM 5 44]
def Xl4:List AI:=[oM 15 3,oV 16 .add 15 1,oM 3 16]
def Xxx:List AI:=[oF 53 2 1,oL 54 53,oJ 55 54,oV 56 .gtr 55 40,oM 2 56]
abbrev Zf3:AC:=(.seq (sR 8 Wr5 (.cond (.t 42) .skip (.exit 2))) (.seq (.block 3 (sR 10 Xkw (.cond (.t 52) (sR 11 Xqm .ret) .skip))) (.reg 9 Wf1)))
abbrev Yjb:AC:=(sR 7 Xrn (.block 2 (.loop Zf3)))
abbrev Ad:AC:=(.reg 3 Xl4)
abbrev Zyh:AC:=(.seq (.block 1 (sR 4 Wrl (.seq (sR 5 Xlr (.cond (.t 37) (sR 6 Wed .ret) .skip)) Yjb))) Ad)
abbrev Mb:AC:=(.seq (sR 2 Wjn (.cond (.t 14) .skip (.exit 0))) Zyh)
abbrev Nb:AC:=(sR 12 Xxx .ret)
abbrev b79:AC:=(sR 0 Yfl (.seq (sR 1 Yq9 (.block 0 (.loop Mb))) Nb))
def Zee:AF:={ nt:=57,res:=[.tmp 2],body:=b79 }
abbrev Yqf (PG:Za)(d:Nat)(Q:AE->Sl->St->Prop)(i3:Int)(m0:Ze):Prop:=
  ∀(σ:Sl)(st:St)(v0:Nat),σ 1=.p (d,0) v0 0->σ 3=.i .i64 i3->lk st.bx (d,0)=some (v0,Ze.cs m0)->W PG d (.loop Mb) σ st (Zw 0 (Zl PG d Nb Q))
abbrev Ypj (PG:Za)(d:Nat)(Q:AE->Sl->St->Prop)(i3:Int)(k5:Int)(m0:Ze)(m16389:Zz):Prop:=
  ∀(σ:Sl)(st:St) (v0 v16389:Nat),σ 1=.p (d,0) v0 0->σ 3=.i .i64 i3->σ 4=.p (d,16389) v16389 0->σ 5=.i .i64 k5->lk st.bx (d,0)=some (v0,Ze.cs m0)->lk st.bx (d,16389)=some (v16389,Zz.cs m16389)->W PG d (.loop Zf3) σ st (Zw 2 (Zw 1 (Zl PG d Ad (Zl PG d (.loop Mb) (Zw 0 (Zl PG d Nb Q))))))
def Zpd (PG:Za)(K:Bool->Prop)(P0:Int->Ze->Prop)(i3:Int)(m0:Ze):Prop:=
  P0 (IntKind.i64.wrap (i3+1)) m0
def Zcn (PG:Za)(K:Bool->Prop)(P1:Int->Ze->Zz->Prop)(P0:Int->Ze->Prop)(i3:Int)(k5:Int)(m0:Ze)(m16389:Zz):Prop:=
  (k5<(m16389.slots.length:Int)->0<=k5/\∃c:Xd,m16389.slots[(k5).toNat]?=some c/\((c.name.length:Int)>40->K true)/\(¬((c.name.length:Int)>40)->P1 (IntKind.i64.wrap (k5+1)) m0 m16389))/\(¬(k5<(m16389.slots.length:Int))->Zpd PG K P0 i3 m0)
def Zpk (PG:Za)(K:Bool->Prop)(P0:Int->Ze->Prop)(i3:Int)(m0:Ze)(m16389:Zz):Prop:=
  ∀P1:Int->Ze->Zz->Prop,(∀(k5:Int)(m0:Ze)(m16389:Zz),Zcn PG K P1 P0 i3 k5 m0 m16389->P1 k5 m0 m16389)->P1 0 m0 m16389
def Zqx (PG:Za)(K:Bool->Prop)(P0:Int->Ze->Prop)(i3:Int)(m0:Ze):Prop:=
  0<=i3/\∃c:Zz,m0.funcs[(i3).toNat]?=some c/\((c.name.length:Int)>40->K true)/\(¬((c.name.length:Int)>40)->((c.slots.length:Int)>30->K true)/\(¬((c.slots.length:Int)>30)->((c.code.length:Int)>300->K true)/\(¬((c.code.length:Int)>300)->Zpk PG K P0 i3 m0 c)))
def Ex (PG:Za)(K:Bool->Prop)(m0:Ze):Prop:=
  K (decide ((m0.funcs.length:Int)>40))
def Zgb (PG:Za)(K:Bool->Prop)(P0:Int->Ze->Prop)(i3:Int)(m0:Ze):Prop:=
  (i3<(m0.funcs.length:Int)->(i3<=40->Zqx PG K P0 i3 m0)/\(¬(i3<=40)->Ex PG K m0))/\(¬(i3<(m0.funcs.length:Int))->Ex PG K m0)
def Zq7 (PG:Za)(K:Bool->Prop)(m0:Ze):Prop:=
  ∀P0:Int->Ze->Prop,(∀(i3:Int)(m0:Ze),Zgb PG K P0 i3 m0->P0 i3 m0)->P0 0 m0
section
variable {PG:Za}{d:Nat}{Q:AE->Sl->St->Prop}{K:Bool->Prop}(hQ:H1 AV.b 2 Q K){σ:Sl}{st:St}
include hQ
variable {i3:Int}{m0:Ze}{P0:Int->Ze->Prop}{v0:Nat}{k5:Int}{m16389:Zz}{P1:Int->Ze->Zz->Prop}{v16389:Nat}
variable (kP1 :∀(k5:Int)(m0:Ze)(m16389:Zz),P1 k5 m0 m16389->Ypj PG d Q i3 k5 m0 m16389)(H0:σ 0=m0.av) (kP0 :∀(i3:Int)(m0:Ze),P0 i3 m0->Yqf PG d Q i3 m0)(H1:σ 1=.p (d,0) v0 0)(H3:σ 3=.i .i64 i3)(H4:σ 4=.p (d,16389) v16389 0)(H5:σ 5=.i .i64 k5)(B0:lk st.bx (d,0)=some (v0,Ze.cs m0))(B16389:lk st.bx (d,16389)=some (v16389,Zz.cs m16389))
include kP0 H1 H3 B0 in
theorem Yxl (h:Zpd PG K P0 i3 m0):W PG d Ad σ st (Zl PG d (.loop Mb) (Zw 0 (Zl PG d Nb Q))):=
 au trivial
include kP1 kP0 H1 H3 H4 H5 B0 B16389 in
theorem Wpe (h:Zcn PG K P1 P0 i3 k5 m0 m16389):W PG d Zf3 σ st (Zl PG d (.loop Zf3) (Zw 2 (Zw 1 (Zl PG d Ad (Zl PG d (.loop Mb) (Zw 0 (Zl PG d Nb Q))))))):=
 au @Yxl
include kP0 H1 H3 H4 B0 B16389 in
theorem Xu3 (h:Zpk PG K P0 i3 m0 m16389):W PG d Yjb σ st (Zw 1 (Zl PG d Ad (Zl PG d (.loop Mb) (Zw 0 (Zl PG d Nb Q))))):=
 q_ J (m_ (e_ (Yh (h (Ypj PG d Q i3) (fun _ _ _ hb _ _ _ _ H1 H3 H4 H5 B0 B16389=>W.loop (Wpe hQ (fun _ _ _ x=>x) kP0 H1 H3 H4 H5 B0 B16389 hb)) _ _ _ _ H1 H3 H4 J B0 B16389))))
include kP0 H1 H3 B0 in
theorem Xcb (h:Zqx PG K P0 i3 m0):W PG d Zyh σ st (Zl PG d (.loop Mb) (Zw 0 (Zl PG d Nb Q))):=
 Zk (Yh (Zk (W.reg (f_ H1 (l_ J (Zs J B0) J J (m_ (h.2.elim fun o c=>Wq J H3 h.1 c.1 (Zz.row_eq o) J (Xk J J J (Xy (Ye J (show lk _ (d,16389)=some (_,([.s [],.i .i64 0,.i .i64 0,.sl .full (List.map Xd.row ([]:List Xd)),.sl .full (List.map Jx.row ([]:List Jx)),.sl .full (List.map Vq.row ([]:List Vq)),.sl .full (List.map Vq.row ([]:List Vq))]:List AV)) from Zj) J J J (e_ (Zk (q_ J (f_ J (l_ J Zj J J (Dl J (b_ J J Vt (Yq J (Ym (g:=26) J (fun e=>z_ 11 J (e_ (Yl J (q_ J (m_ (Zo (hQ J (c.2.1 e)))))))) (fun e=>Zc J (f_ J (Zc J (l_ J Zj J J (Zc J (Yo J (Zc J (b_ J J Vt (z_ 2 J (Ym (g:=32) J (fun j=>z_ 5 J (e_ (Yl J (q_ J (m_ (Zo (hQ J ((c.2.2 e).1 j)))))))) (fun j=>Zc J (f_ J (Zc J (l_ J Zj J J (Zc J (Yo J (Zc J (b_ J J Vt (Vf J J (e_ (Yj J (fun k=>q_ J (m_ (Zo (hQ J (((c.2.2 e).2 j).1 k))))) (fun k=>Yc (Xu3 hQ kP0 H1 H3 J (Zs J (Zs J B0)) Zj (((c.2.2 e).2 j).2 k)))))))))))))))))))))))))))))))))))))))))))
include H1 B0 in
theorem Xzy (h:Ex PG K m0):W PG d Nb σ st Q:=
 au trivial
include kP0 H1 H3 B0 in
theorem Xvw (h:Zgb PG K P0 i3 m0):W PG d Mb σ st (Zl PG d (.loop Mb) (Zw 0 (Zl PG d Nb Q))):=
 au (And.intro @Xcb @Xzy)
include H0 in
theorem Yx7 (h:Zq7 PG K m0):W PG d (sR 0 Yfl (.seq (sR 1 Yq9 (.block 0 (.loop Mb))) Nb)) σ st Q:=
 q_ J (Vx H0 J (m_ (e_ (Zk (q_ J (m_ (e_ (Yh (h (Yqf PG d Q ) (fun _ _ hb _ _ _ H1 H3 B0=>W.loop (Xvw hQ (fun _ _ x=>x) H1 H3 B0 hb)) _ _ _ J J Zj)))))))))
end
theorem p79 {PG:Za}(hf:PG.fn 79=some Zee){m0:Ze}{K:Bool->Prop}(h:Zq7 PG K m0) :∃res0:Bool,K res0/\Zf PG 79 [m0.av] (.b res0):=
 P1 hf J (Yx7 (h1 J fun _=>J) J h)
def Ymw:List AI:=[oY 1 4 0,oC 2 (.b false)]
def Yo3:List AI:=[oI 3 0]
def Yy2:List AI:=[oM 4 3,oF 5 3 1,oL 6 5,oJ 7 6,oT 8 .lss 4 7,oM 9 8,gT 9 (oM 10 3),gT 9 (oV 11 .leq 10 20),oA 12 9 11]
def Yum:List AI:=[oF 15 3 1,oL 16 15,oM 17 3,oX 18 6 16 17,oF 19 1 18,oK 20 5 19,oQ 21 71 [20]]
def Xtw:List AI:=[oC 2 (.b true)]
def Wms:List AI:=[oM 13 3,oV 14 .add 13 1,oM 3 14]
def Xql:List AI:=[oF 22 3 1,oL 23 22,oJ 24 23,oV 25 .gtr 24 20,oM 2 25]
abbrev Yix:AC:=(.seq (.block 1 (sR 4 Yum (.cond (.t 21) (sR 5 Xtw .ret) .skip))) (.reg 3 Wms))
abbrev Lk:AC:=(.seq (sR 2 Yy2 (.cond (.t 12) .skip (.exit 0))) Yix)
abbrev Li:AC:=(sR 6 Xql .ret)
abbrev b80:AC:=(sR 0 Ymw (.seq (sR 1 Yo3 (.block 0 (.loop Lk))) Li))
def Zgl:AF:={ nt:=26,res:=[.tmp 2],body:=b80 }
abbrev Zyw (PG:Za)(d:Nat)(Q:AE->Sl->St->Prop)(i3:Int)(m0:Zg):Prop:=
  ∀(σ:Sl)(st:St)(v0:Nat),σ 1=.p (d,0) v0 0->σ 3=.i .i64 i3->lk st.bx (d,0)=some (v0,Zg.cs m0)->W PG d (.loop Lk) σ st (Zw 0 (Zl PG d Li Q))
def Zmw (PG:Za)(K:Bool->Prop)(P0:Int->Zg->Prop)(i3:Int)(m0:Zg):Prop:=
  0<=i3/\∃e:Yb,m0.locals[(i3).toNat]?=some e/\∃c,Zf PG 71 [e.value.av] (.b c)/\(c=true->K true)/\(c=false->P0 (IntKind.i64.wrap (i3+1)) m0)
def Zau (PG:Za)(K:Bool->Prop)(m0:Zg):Prop:=
  K (decide ((m0.locals.length:Int)>20))
def Zf4 (PG:Za)(K:Bool->Prop)(P0:Int->Zg->Prop)(i3:Int)(m0:Zg):Prop:=
  (i3<(m0.locals.length:Int)->(i3<=20->Zmw PG K P0 i3 m0)/\(¬(i3<=20)->Zau PG K m0))/\(¬(i3<(m0.locals.length:Int))->Zau PG K m0)
def Zst (PG:Za)(K:Bool->Prop)(x0:Zg):Prop:=
  ∀P0:Int->Zg->Prop,(∀(i3:Int)(m0:Zg),Zf4 PG K P0 i3 m0->P0 i3 m0)->P0 0 x0
section
variable {PG:Za}{d:Nat}{Q:AE->Sl->St->Prop}{K:Bool->Prop}(hQ:H1 AV.b 2 Q K){σ:Sl}{st:St}
include hQ
variable {i3:Int}{m0:Zg}{P0:Int->Zg->Prop}{v0:Nat}{x0:Zg}
variable (kP0 :∀(i3:Int)(m0:Zg),P0 i3 m0->Zyw PG d Q i3 m0)(H0:σ 0=x0.av)(H1:σ 1=.p (d,0) v0 0)(H3:σ 3=.i .i64 i3)(B0:lk st.bx (d,0)=some (v0,Zg.cs m0))
include kP0 H1 H3 B0 in
theorem Xad (h:Zmw PG K P0 i3 m0):W PG d Yix σ st (Zl PG d (.loop Lk) (Zw 0 (Zl PG d Li Q))):=
 au trivial
include H1 B0 in
theorem Yrt (h:Zau PG K m0):W PG d Li σ st Q:=
 au trivial
include kP0 H1 H3 B0 in
theorem Wan (h:Zf4 PG K P0 i3 m0):W PG d Lk σ st (Zl PG d (.loop Lk) (Zw 0 (Zl PG d Li Q))):=
 au (And.intro @Xad @Yrt)
include H0 in
theorem Xaq (h:Zst PG K x0):W PG d (sR 0 Ymw (.seq (sR 1 Yo3 (.block 0 (.loop Lk))) Li)) σ st Q:=
 q_ J (Vx H0 J (m_ (e_ (Zk (q_ J (m_ (e_ (Yh (h (Zyw PG d Q ) (fun _ _ hb _ _ _ H1 H3 B0=>W.loop (Wan hQ (fun _ _ x=>x) H1 H3 B0 hb)) _ _ _ J J Zj)))))))))
end
theorem p80 {PG:Za}(hf:PG.fn 80=some Zgl){x0:Zg}{K:Bool->Prop}(h:Zst PG K x0) :∃res0:Bool,K res0/\Zf PG 80 [x0.av] (.b res0):=
 P1 hf J (Xaq (h1 J fun _=>J) J h)
abbrev H83 (Q:AE->Sl->St->Prop)(K:LB->Int->Prop):Prop:=∀(σ:Sl)(st:St)(o0:Zn)(res0:LB)(res1:Int),σ 6=.sl o0 (List.map Zv res0)->σ 7=.i .i64 res1->K res0 res1->Q .ret σ st
section
variable {PG:Za}{d:Nat}{Q:AE->Sl->St->Prop}{K:LB->Int->Prop}(hQ:H83 Q K){σ:Sl}{st:St}
include hQ
end
def Ybb:List AI:=[oY 2 3 0,oY 3 4 1,oI 4 0]
def Xk7:List AI:=[oF 9 0 3,oL 10 9,oV 11 .lss 10 0,oM 12 11,gF 12 (oF 13 0 3),gF 12 (oL 14 13),gF 12 (oF 15 2 2),gF 12 (oL 16 15),gF 12 (oJ 17 16),gF 12 (oT 18 .geq 14 17),oR 19 12 18,oM 20 19,gF 20 (oF 21 2 3),gF 20 (oL 22 21),gF 20 (oB 23 .gtr (.t 22) (.c (.i .u64 3))),oR 24 20 23]
def Wcd:List AI:=[oI 4 8]
def Ytg:List AI:=[oF 25 2 2,oL 26 25,oF 27 0 3,oL 28 27,oX 29 7 26 28,oK 30 7 29,oO 5 (.alloc [zs,z6,z6,zl,zl,zl,zl]),oS 7 5 30]
def Wda:List AI:=[oF 31 3 5,oL 32 31,oJ 33 32,oV 34 .gtr 33 16,oM 35 34,gF 35 (oF 36 0 5),gF 35 (oL 37 36),gF 35 (oH 38 37),gF 35 (oV 39 .gtr 38 16),oR 40 35 39,oM 41 40,gF 41 (oF 42 1 3),gF 41 (oL 43 42),gF 41 (oV 44 .lss 43 0),oR 45 41 44,oM 46 45,gF 46 (oF 47 1 3),gF 46 (oL 48 47),gF 46 (oF 49 4 5),gF 46 (oL 50 49),gF 46 (oJ 51 50),gF 46 (oT 52 .geq 48 51),oR 53 46 52]
def Xar:List AI:=[oI 4 8]
def Ywm:List AI:=[oI 6 0]
def Xd2:List AI:=[oM 54 6,oF 55 3 5,oL 56 55,oJ 57 56,oT 58 .lss 54 57]
def Yw7:List AI:=[oF 61 3 5,oL 62 61,oM 63 6,oX 64 2 62 63,oF 65 0 64,oL 66 65,oH 67 66,oV 68 .gtr 67 16]
def Wlv:List AI:=[oI 4 8]
def Yx3:List AI:=[oM 59 6,oV 60 .add 59 1,oM 6 60]
def Xbc:List AI:=[oI 7 0]
def Wsi:List AI:=[oM 69 7,oF 70 3 3,oL 71 70,oJ 72 71,oT 73 .lss 69 72]
def Xdq:List AI:=[oF 76 3 3,oL 77 76,oM 78 7,oX 79 6 77 78,oK 80 6 79,oO 8 (.alloc [z6,z8,z6,zs,zl,zb]),oS 6 8 80]
def Xlb:List AI:=[oF 81 0 8,oL 82 81,oV 83 .lss 82 0,oM 84 83,gF 84 (oF 85 0 8),gF 84 (oL 86 85),gF 84 (oF 87 3 5),gF 84 (oL 88 87),gF 84 (oJ 89 88),gF 84 (oT 90 .geq 86 89),oR 91 84 90,oM 92 91,gF 92 (oM 93 7),gF 92 (oV 94 .gtr 93 0),gF 92 (oM 95 94),gT 95 (oF 96 3 3),gT 95 (oL 97 96),gT 95 (oM 98 7),gT 95 (oV 99 .sub 98 1),gT 95 (oX 100 6 97 99),gT 95 (oF 101 0 100),gT 95 (oL 102 101),gT 95 (oF 103 0 8),gT 95 (oL 104 103),gT 95 (oT 105 .geq 102 104),gF 92 (oA 106 95 105),oR 107 92 106,oM 108 107,gF 108 (oF 109 1 8),gF 108 (oK 110 5 109),gF 108 (oQ 111 77 [110]),gF 108 (oV 112 .neq 111 0),oR 113 108 112]
def Wcz:List AI:=[oI 4 8]
def Xdx:List AI:=[oM 74 7,oV 75 .add 74 1,oM 7 75]
def Xe0:List AI:=[oI 4 0]
abbrev Zfl:AC:=(.seq (sR 7 Xd2 (.cond (.t 58) .skip (.exit 0))) (.seq (.block 1 (sR 9 Yw7 (.cond (.t 68) (sR 10 Wlv .ret) .skip))) (.reg 8 Yx3)))
abbrev Zfj:AC:=(.seq (sR 12 Wsi (.cond (.t 73) .skip (.exit 2))) (.seq (.block 3 (sR 14 Xdq (sR 15 Xlb (.cond (.t 113) (sR 16 Wcz .ret) .skip)))) (.reg 13 Xdx)))
abbrev Zd3:AC:=(sR 17 Xe0 .ret)
abbrev Zew:AC:=(.seq (sR 11 Xbc (.block 2 (.loop Zfj))) Zd3)
abbrev Yls:AC:=(.seq (sR 6 Ywm (.block 0 (.loop Zfl))) Zew)
abbrev Zwe:AC:=(.seq (sR 4 Wda (.cond (.t 53) (sR 5 Xar .ret) .skip)) Yls)
abbrev Ybi:AC:=(sR 3 Ytg Zwe)
abbrev Zvk:AC:=(.seq (sR 1 Xk7 (.cond (.t 24) (sR 2 Wcd .ret) .skip)) Ybi)
abbrev b87:AC:=(sR 0 Ybb Zvk)
def Zix:AF:={ nt:=114,res:=[.tmp 4],body:=b87 }
abbrev Ybd (PG:Za)(d:Nat)(Q:AE->Sl->St->Prop)(i6:Int)(m1:Zg)(m12294:Zz):Prop:=
  ∀(σ:Sl)(st:St) (v1 v12294:Nat),σ 3=.p (d,1) v1 0->σ 5=.p (d,12294) v12294 0->σ 6=.i .i64 i6->lk st.bx (d,1)=some (v1,Zg.cs m1)->lk st.bx (d,12294)=some (v12294,Zz.cs m12294)->W PG d (.loop Zfl) σ st (Zw 0 (Zl PG d Zew Q))
abbrev Ynu (PG:Za)(d:Nat)(Q:AE->Sl->St->Prop)(i7:Int)(m1:Zg)(m12294:Zz):Prop:=
  ∀(σ:Sl)(st:St) (v1 v12294:Nat),σ 3=.p (d,1) v1 0->σ 5=.p (d,12294) v12294 0->σ 7=.i .i64 i7->lk st.bx (d,1)=some (v1,Zg.cs m1)->lk st.bx (d,12294)=some (v12294,Zz.cs m12294)->W PG d (.loop Zfj) σ st (Zw 2 (Zl PG d Zd3 Q))
def Zsm (PG:Za)(K:Int->Prop) :Prop:=
  K 0
def Zi8 (PG:Za)(K:Int->Prop)(P1:Int->Zg->Zz->Prop)(i7:Int)(m1:Zg)(m12294:Zz):Prop:=
  (i7<(m1.locals.length:Int)->0<=i7/\∃c:Yb,m1.locals[(i7).toNat]?=some c/\(c.slot<0->K 8)/\(¬(c.slot<0)->(c.slot>=(m12294.slots.length:Int)->K 8)/\(¬(c.slot>=(m12294.slots.length:Int))->(i7>0->0<=(IntKind.i64.wrap (i7-1))/\∃k:Yb,m1.locals[(IntKind.i64.wrap (i7-1)).toNat]?=some k/\(k.slot>=c.slot->K 8)/\(¬(k.slot>=c.slot)->∃e,Zf PG 77 [c.value.av] (.i .i64 e)/\(e≠0->K 8)/\(¬(e≠0)->P1 (IntKind.i64.wrap (i7+1)) m1 m12294)))/\(¬(i7>0)->∃j,Zf PG 77 [c.value.av] (.i .i64 j)/\(j≠0->K 8)/\(¬(j≠0)->P1 (IntKind.i64.wrap (i7+1)) m1 m12294)))))/\(¬(i7<(m1.locals.length:Int))->Zsm PG K )
def Zpp (PG:Za)(K:Int->Prop)(m1:Zg)(m12294:Zz):Prop:=
  ∀P1:Int->Zg->Zz->Prop,(∀(i7:Int)(m1:Zg)(m12294:Zz),Zi8 PG K P1 i7 m1 m12294->P1 i7 m1 m12294)->P1 0 m1 m12294
def Zhk (PG:Za)(K:Int->Prop)(P0:Int->Zg->Zz->Prop)(i6:Int)(m1:Zg)(m12294:Zz):Prop:=
  (i6<(m12294.slots.length:Int)->0<=i6/\∃c:Xd,m12294.slots[(i6).toNat]?=some c/\((c.name.length:Int)>16->K 8)/\(¬((c.name.length:Int)>16)->P0 (IntKind.i64.wrap (i6+1)) m1 m12294))/\(¬(i6<(m12294.slots.length:Int))->Zpp PG K m1 m12294)
def Zkf (PG:Za)(K:Int->Prop)(m1:Zg)(m12294:Zz):Prop:=
  ∀P0:Int->Zg->Zz->Prop,(∀(i6:Int)(m1:Zg)(m12294:Zz),Zhk PG K P0 i6 m1 m12294->P0 i6 m1 m12294)->P0 0 m1 m12294
def Zma (PG:Za)(K:Int->Prop)(m1:Zg)(m12294:Zz):Prop:=
  ((m12294.slots.length:Int)>16->K 8)/\(¬((m12294.slots.length:Int)>16)->((m12294.name.length:Int)>16->K 8)/\(¬((m12294.name.length:Int)>16)->(m1.pos<0->K 8)/\(¬(m1.pos<0)->(m1.pos>=(m12294.code.length:Int)->K 8)/\(¬(m1.pos>=(m12294.code.length:Int))->Zkf PG K m1 m12294))))
def Zll (PG:Za)(K:Int->Prop)(m0:Ze)(m1:Zg):Prop:=
  0<=m1.func/\∃c,m0.funcs[(m1.func).toNat]?=some c/\Zma PG K m1 c
def Zqh (PG:Za)(K:Int->Prop)(m0:Ze)(m1:Zg):Prop:=
  (m1.func<0->K 8)/\(¬(m1.func<0)->(m1.func>=(m0.funcs.length:Int)->K 8)/\(¬(m1.func>=(m0.funcs.length:Int))->(m1.mode>3->K 8)/\(¬(m1.mode>3)->Zll PG K m0 m1)))
def Znt (PG:Za)(K:Int->Prop)(m0:Ze)(x1:Zg):Prop:=
  Zqh PG K m0 x1
section
variable {PG:Za}{d:Nat}{Q:AE->Sl->St->Prop}{K:Int->Prop}(hQ:H1 (AV.i .i64) 4 Q K){σ:Sl}{st:St}
include hQ
variable {i7:Int}{m1:Zg}{m12294:Zz}{P1:Int->Zg->Zz->Prop}{v1 v12294:Nat}{i6:Int}{P0:Int->Zg->Zz->Prop}{m0:Ze}{v0:Nat}{x1:Zg}
variable (kP1 :∀(i7:Int)(m1:Zg)(m12294:Zz),P1 i7 m1 m12294->Ynu PG d Q i7 m1 m12294) (kP0 :∀(i6:Int)(m1:Zg)(m12294:Zz),P0 i6 m1 m12294->Ybd PG d Q i6 m1 m12294)(H2:σ 2=.p (d,0) v0 0)(H0:σ 0=m0.av)(H3:σ 3=.p (d,1) v1 0)(H1:σ 1=x1.av)(H5:σ 5=.p (d,12294) v12294 0)(B0:lk st.bx (d,0)=some (v0,Ze.cs m0))(H7:σ 7=.i .i64 i7)(H6:σ 6=.i .i64 i6)(B1:lk st.bx (d,1)=some (v1,Zg.cs m1))(B12294:lk st.bx (d,12294)=some (v12294,Zz.cs m12294))
theorem Yz5 (h:Zsm PG K ):W PG d Zd3 σ st Q:=
 au trivial
include kP1 H3 H5 H7 B1 B12294 in
theorem Wrc (h:Zi8 PG K P1 i7 m1 m12294):W PG d Zfj σ st (Zl PG d (.loop Zfj) (Zw 2 (Zl PG d Zd3 Q))):=
 au @Yz5
include H3 H5 B1 B12294 in
theorem Wdo (h:Zpp PG K m1 m12294):W PG d Zew σ st Q:=
 Zk (q_ J (m_ (e_ (Yh (h (Ynu PG d Q ) (fun _ _ _ hb _ _ _ _ H3 H5 H7 B1 B12294=>W.loop (Wrc hQ (fun _ _ _ x=>x) H3 H5 H7 B1 B12294 hb)) _ _ _ _ H3 H5 J B1 B12294)))))
include kP0 H3 H5 H6 B1 B12294 in
theorem Xx6 (h:Zhk PG K P0 i6 m1 m12294):W PG d Zfl σ st (Zl PG d (.loop Zfl) (Zw 0 (Zl PG d Zew Q))):=
 au @Wdo
include H3 H5 B1 B12294 in
theorem Xo4 (h:Zkf PG K m1 m12294):W PG d Yls σ st Q:=
 Zk (q_ J (m_ (e_ (Yh (h (Ybd PG d Q ) (fun _ _ _ hb _ _ _ _ H3 H5 H6 B1 B12294=>W.loop (Xx6 hQ (fun _ _ _ x=>x) H3 H5 H6 B1 B12294 hb)) _ _ _ _ H3 H5 J B1 B12294)))))
include H3 H5 B1 B12294 in
theorem Xhg (h:Zma PG K m1 m12294):W PG d Zwe σ st Q:=
 au @Xo4
include H2 H3 B0 B1 in
theorem Ytw (h:Zll PG K m0 m1):W PG d Ybi σ st Q:=
 au @Xhg
include H2 H3 B0 B1 in
theorem Wfq (h:Zqh PG K m0 m1):W PG d Zvk σ st Q:=
 au @Ytw
include H0 H1 in
theorem Wp4 (h:Znt PG K m0 x1):W PG d (sR 0 Ybb Zvk) σ st Q:=
 au @Wfq
end
theorem p87 {PG:Za}(hf:PG.fn 87=some Zix){m0:Ze}{x1:Zg}{K:Int->Prop}(h:Znt PG K m0 x1) :∃res0:Int,K res0/\Zf PG 87 [m0.av,x1.av] (.i .i64 res0):=
 P1 hf J (Wp4 (h1 J fun _=>J) J J h)
abbrev Wit (Q:AE->Sl->St->Prop)(K:LB->Prop):Prop:=∀(σ:Sl)(st:St)(o0:Zn)(res0:LB),σ 6=.sl o0 (List.map Zv res0)->K res0->Q .ret σ st
section
variable {PG:Za}{d:Nat}{Q:AE->Sl->St->Prop}{K:LB->Prop}(hQ:Wit Q K){σ:Sl}{st:St}
include hQ
end
abbrev Xmr (Q:AE->Sl->St->Prop)(K:BS->Prop):Prop:=∀(σ:Sl)(st:St)(res0:BS),σ 2=.s res0->K res0->Q .ret σ st
section
variable {PG:Za}{d:Nat}{Q:AE->Sl->St->Prop}{K:BS->Prop}(hQ:Xmr Q K){σ:Sl}{st:St}
include hQ
end
def Xfx:List AI:=[oC 2 (.s [])]
def Xyo:List AI:=[oO 4 (.bslice [zs] 4 [(0,(.c (.s [99,97,108,108]))),(1,(.c (.s [100,101,102,101,114]))),(2,(.c (.s [112,97,110,105,99]))),(3,(.c (.s [101,120,105,116])))]),oM 3 4]
def Yyx:List AI:=[oM 5 3,oM 6 0,oX 7 1 5 6,oL 8 7,oM 2 8]
abbrev Wq4:AC:=(sR 0 Xfx (sR 1 Xyo (sR 2 Yyx .ret)))
def Zoa:AF:={ nt:=9,res:=[.tmp 2],body:=Wq4 }
abbrev Xyi (Q:AE->Sl->St->Prop)(K:BS->Prop):Prop:=∀(σ:Sl)(st:St)(res0:BS),σ 2=.s res0->K res0->Q .ret σ st
section
variable {PG:Za}{d:Nat}{Q:AE->Sl->St->Prop}{K:BS->Prop}(hQ:Xyi Q K){σ:Sl}{st:St}
include hQ
end
def Yo9:List AI:=[oY 2 4 0,oY 3 4 1,oC 4 (.b false)]
def Yhg:List AI:=[oF 5 0 2,oL 6 5,oF 7 0 3,oL 8 7,oT 9 .eql 6 8,oM 10 9,gT 10 (oF 11 1 2),gT 10 (oL 12 11),gT 10 (oF 13 1 3),gT 10 (oL 14 13),gT 10 (oT 15 .eql 12 14),oA 16 10 15,oM 17 16,gT 17 (oF 18 2 2),gT 17 (oL 19 18),gT 17 (oF 20 2 3),gT 17 (oL 21 20),gT 17 (oT 22 .eql 19 21),oA 23 17 22,oM 24 23,gT 24 (oF 25 3 2),gT 24 (oL 26 25),gT 24 (oF 27 3 3),gT 24 (oL 28 27),gT 24 (oQ 29 124 [26,28]),oA 30 24 29,oM 4 30]
abbrev b88:AC:=(sR 0 Yo9 (sR 1 Yhg .ret))
def Zh0:AF:={ nt:=31,res:=[.tmp 4],body:=b88 }
def Zns (PG:Za)(K:Bool->Prop)(a0:Zg)(b1:Zg):Prop:=
  (a0.func=b1.func->(a0.pos=b1.pos->(a0.mode=b1.mode->∃c,Zf PG 124 [.sl .ext (List.map Yb.row a0.locals),.sl .ext (List.map Yb.row b1.locals)] (.b c)/\K c)/\(¬(a0.mode=b1.mode)->K false))/\(¬(a0.pos=b1.pos)->K false))/\(¬(a0.func=b1.func)->K false)
section
variable {PG:Za}{d:Nat}{Q:AE->Sl->St->Prop}{K:Bool->Prop}(hQ:H1 AV.b 4 Q K){σ:Sl}{st:St}
include hQ
variable {a0 b1:Zg}
variable (H0:σ 0=a0.av)(H1:σ 1=b1.av)
include H0 H1 in
theorem Xh3 (h:Zns PG K a0 b1):W PG d (sR 0 Yo9 (sR 1 Yhg .ret)) σ st Q:=
 au trivial
end
theorem p88 {PG:Za}(hf:PG.fn 88=some Zh0){a0:Zg}{b1:Zg}{K:Bool->Prop}(h:Zns PG K a0 b1) :∃res0:Bool,K res0/\Zf PG 88 [a0.av,b1.av] (.b res0):=
 P1 hf J (Xh3 (h1 J fun _=>J) J J h)
def Zxf:List AI:=[oC 4 (.b false)]
def Ymb:List AI:=[oM 6 0,oJ 7 6,oM 8 1,oJ 9 8,oT 10 .neq 7 9]
def Yqa:List AI:=[oC 4 (.b false)]
def Yay:List AI:=[oI 5 0]
def Xjh:List AI:=[oM 11 5,oM 12 0,oJ 13 12,oT 14 .lss 11 13]
def Xss:List AI:=[oM 17 0,oM 18 5,oX 19 6 17 18,oF 20 0 19,oL 21 20,oM 22 1,oM 23 5,oX 24 6 22 23,oF 25 0 24,oL 26 25,oT 27 .neq 21 26,oM 28 27,gF 28 (oM 29 0),gF 28 (oM 30 5),gF 28 (oX 31 6 29 30),gF 28 (oF 32 1 31),gF 28 (oK 33 5 32),gF 28 (oM 34 1),gF 28 (oM 35 5),gF 28 (oX 36 6 34 35),gF 28 (oF 37 1 36),gF 28 (oK 38 5 37),gF 28 (oQ 39 78 [33,38]),gF 28 (oZ 40 39),oR 41 28 40]
def Yz4:List AI:=[oC 4 (.b false)]
def Xn9:List AI:=[oM 15 5,oV 16 .add 15 1,oM 5 16]
def Wb8:List AI:=[oC 4 (.b true)]
abbrev Aw:AC:=(.seq (sR 4 Xjh (.cond (.t 14) .skip (.exit 0))) (.seq (.block 1 (sR 6 Xss (.cond (.t 41) (sR 7 Yz4 .ret) .skip))) (.reg 5 Xn9)))
abbrev Zbi:AC:=(sR 8 Wb8 .ret)
abbrev Yy3:AC:=(sR 0 Zxf (.seq (sR 1 Ymb (.cond (.t 10) (sR 2 Yqa .ret) .skip)) (.seq (sR 3 Yay (.block 0 (.loop Aw))) Zbi)))
def Zdv:AF:={ nt:=42,res:=[.tmp 4],body:=Yy3 }
abbrev Zvy (PG:Za)(d:Nat)(Q:AE->Sl->St->Prop)(a0:List Yb)(b1:List Yb)(i5:Int):Prop:=
  ∀(σ:Sl)(st:St) (o_a0 o_b1:Zn),σ 0=.sl o_a0 (List.map Yb.row a0)->σ 1=.sl o_b1 (List.map Yb.row b1)->σ 5=.i .i64 i5->W PG d (.loop Aw) σ st (Zw 0 (Zl PG d Zbi Q))
def Zl8 (PG:Za)(K:Bool->Prop) :Prop:=
  K true
def Zg5 (PG:Za)(K:Bool->Prop)(P0:Int->Prop)(a0:List Yb)(b1:List Yb)(i5:Int):Prop:=
  (i5<(a0.length:Int)->0<=i5/\∃i:Yb,a0[(i5).toNat]?=some i/\0<=i5/\∃c:Yb,b1[(i5).toNat]?=some c/\(i.slot≠c.slot->K false)/\(¬(i.slot≠c.slot)->0<=i5/\∃j:Yb,a0[(i5).toNat]?=some j/\0<=i5/\∃k:Yb,b1[(i5).toNat]?=some k/\∃e,Zf PG 78 [j.value.av,k.value.av] (.b e)/\((!e)=true->K false)/\((!e)=false->P0 (IntKind.i64.wrap (i5+1)))))/\(¬(i5<(a0.length:Int))->Zl8 PG K )
def Zu4 (PG:Za)(K:Bool->Prop)(a0:List Yb)(b1:List Yb):Prop:=
  ((a0.length:Int)≠(b1.length:Int)->K false)/\(¬((a0.length:Int)≠(b1.length:Int))->∀P0:Int->Prop,(∀(i5:Int),Zg5 PG K P0 a0 b1 i5->P0 i5)->P0 0)
section
variable {PG:Za}{d:Nat}{Q:AE->Sl->St->Prop}{K:Bool->Prop}(hQ:H1 AV.b 4 Q K){σ:Sl}{st:St}
include hQ
variable {a0 b1:List Yb}{i5:Int}{P0:Int->Prop}{o_a0 o_b1:Zn}
variable (kP0 :∀(i5:Int),P0 i5->Zvy PG d Q a0 b1 i5)(H0:σ 0=.sl o_a0 (List.map Yb.row a0))(H1:σ 1=.sl o_b1 (List.map Yb.row b1))(H5:σ 5=.i .i64 i5)
theorem Xy4 (h:Zl8 PG K ):W PG d Zbi σ st Q:=
 au trivial
include kP0 H0 H1 H5 in
theorem Xa1 (h:Zg5 PG K P0 a0 b1 i5):W PG d Aw σ st (Zl PG d (.loop Aw) (Zw 0 (Zl PG d Zbi Q))):=
 au @Xy4
include H0 H1 in
theorem Xbp (h:Zu4 PG K a0 b1):W PG d (sR 0 Zxf (.seq (sR 1 Ymb (.cond (.t 10) (sR 2 Yqa .ret) .skip)) (.seq (sR 3 Yay (.block 0 (.loop Aw))) Zbi))) σ st Q:=
 q_ J (m_ (e_ (Zk (q_ J (Yf H0 (Yo J (Yf H1 (Yo J (b_ J J Ws (e_ (Yj J (fun c=>q_ J (m_ (Zo (hQ J (h.1 c))))) (fun c=>Yc (Zk (q_ J (m_ (e_ (Yh ((h.2 c) (Zvy PG d Q a0 b1) (fun _ hb _ _ _ _ H0 H1 H5=>W.loop (Xa1 hQ (fun _ x=>x) H0 H1 H5 hb)) _ _ _ _ H0 H1 J))))))))))))))))))
end
theorem Wp1 {PG:Za}(hf:PG.fn 124=some Zdv){a0:List Yb}{b1:List Yb}{K:Bool->Prop}(h:Zu4 PG K a0 b1) :∃res0:Bool,K res0/\Zf PG 124 [.sl .ext (List.map Yb.row a0),.sl .ext (List.map Yb.row b1)] (.b res0):=
 P1 hf J (Xbp (h1 J fun _=>J) J J h)
end Go.AM

/- Yg of the proof. -/
namespace Go.AM
open Go
set_option linter.unusedVariables false
set_option linter.unusedSimpArgs false
set_option maxRecDepth 4000
attribute [local irreducible] WO Ww Wx
abbrev H85 (Q:AE->Sl->St->Prop)(K:Int->Zg->Int->Prop):Prop:=∀(σ:Sl)(st:St)(k1:Zq)(v1:Nat)(o1_0:Zn)(res0:Int)(res1:Zg)(res2:Int),σ 4=.i .i64 res0->σ 5=.p k1 v1 0->lk st.bx k1=some (v1,[.i .i64 res1.func,.i .i64 res1.pos,.i .u64 res1.mode,.sl o1_0 (List.map Yb.row res1.locals)])->σ 6=.i .i64 res2->K res0 res1 res2->Q .ret σ st
section
variable {PG:Za}{d:Nat}{Q:AE->Sl->St->Prop}{K:Int->Zg->Int->Prop}(hQ:H85 Q K){σ:Sl}{st:St}
include hQ
end
abbrev Xpd (d:Nat)(Zm:St)(Q:AE->Sl->St->Prop)(K:Int->Zg->Bool->Prop):Prop:=∀(σ:Sl)(st:St)(k1:Zq)(v1:Nat)(res0:Int)(res1:Zg)(res2:Bool),σ 4=.i .i64 res0->σ 5=.p k1 v1 0->lk st.bx k1=some (v1,[.i .i64 res1.func,.i .i64 res1.pos,.i .u64 res1.mode,.sl .full (List.map Yb.row res1.locals)])->σ 6=.b res2->Fr d (d,0) Zm.bx Zm.ow st.bx st.ow->K res0 res1 res2->Q .ret σ st
section
variable {PG:Za}{d:Nat}{Q:AE->Sl->St->Prop}{K:Int->Zg->Bool->Prop}{Zm:St}(hQ:Xpd d Zm Q K){σ:Sl}{st:St}
include hQ
end
abbrev Wg9 (Q:AE->Sl->St->Prop)(K:Yb->Bool->Prop):Prop:=∀(σ:Sl)(st:St)(k0:Zq)(v0:Nat)(o0_0:Zn)(res0:Yb)(res1:Bool),σ 4=.p k0 v0 0->lk st.bx k0=some (v0,[.i .i64 res0.slot,.i .u8 res0.value.kind,.i .i64 res0.value.int,.s res0.value.text,.sl o0_0 (List.map Zb.row res0.value.list),.b res0.value.cut])->σ 5=.b res1->K res0 res1->Q .ret σ st
section
variable {PG:Za}{d:Nat}{Q:AE->Sl->St->Prop}{K:Yb->Bool->Prop}(hQ:Wg9 Q K){σ:Sl}{st:St}
include hQ
end
abbrev Wmb (Q:AE->Sl->St->Prop)(K:BS->Bool->Prop):Prop:=∀(σ:Sl)(st:St)(res0:BS)(res1:Bool),σ 4=.s res0->σ 5=.b res1->K res0 res1->Q .ret σ st
section
variable {PG:Za}{d:Nat}{Q:AE->Sl->St->Prop}{K:BS->Bool->Prop}(hQ:Wmb Q K){σ:Sl}{st:St}
include hQ
end
def Wfl:List AI:=[oI 4 0,oC 5 (.s []),oC 6 (.b false)]
def Wfm:List AI:=[oM 10 0,oQ 11 135 [10],oM 7 11]
def Wbh:List AI:=[oM 13 0,oM 14 7,oO 15 (.slS (.t 13) none (some (.t 14))),oQ 16 22 [15],oM 12 16,oE 17 0 12,oE 18 1 12,oM 8 17,oM 9 18]
def Wik:List AI:=[oM 19 8,oM 20 0,oM 21 7,oO 22 (.slS (.t 20) (some (.t 21)) none),oM 23 9,oV 24 .eql 23 0,oM 25 24,gT 25 (oM 26 8),gT 25 (oV 27 .geq 26 0),oA 28 25 27,oM 29 28,gT 29 (oM 30 8),gT 29 (oM 31 1),gT 29 (oT 32 .leq 30 31),oA 33 29 32,oM 4 19,oM 5 22,oM 6 33]
abbrev Wk1:AC:=(sR 0 Wfl (sR 1 Wfm (sR 2 Wbh (sR 3 Wik .ret))))
def Zpl:AF:={ nt:=34,res:=[.tmp 4,.tmp 5,.tmp 6],body:=Wk1 }
abbrev Xsi (Q:AE->Sl->St->Prop)(K:Int->BS->Bool->Prop):Prop:=∀(σ:Sl)(st:St)(res0:Int)(res1:BS)(res2:Bool),σ 4=.i .i64 res0->σ 5=.s res1->σ 6=.b res2->K res0 res1 res2->Q .ret σ st
section
variable {PG:Za}{d:Nat}{Q:AE->Sl->St->Prop}{K:Int->BS->Bool->Prop}(hQ:Xsi Q K){σ:Sl}{st:St}
include hQ
end
end Go.AM

/- Yg of the proof. -/
namespace Go.AM
open Go
set_option linter.unusedVariables false
set_option linter.unusedSimpArgs false
set_option maxRecDepth 4000
attribute [local irreducible] WO Ww Wx
abbrev H67 (Q:AE->Sl->St->Prop)(K:Bool->Prop):Prop:=∀(σ:Sl)(st:St)(res0:Bool),σ 8=.b res0->K res0->Q .ret σ st
section
variable {PG:Za}{d:Nat}{Q:AE->Sl->St->Prop}{K:Bool->Prop}(hQ:H67 Q K){σ:Sl}{st:St}
include hQ
end
abbrev H69 (Q:AE->Sl->St->Prop)(K:Bool->Prop):Prop:=∀(σ:Sl)(st:St)(res0:Bool),σ 4=.b res0->K res0->Q .ret σ st
section
variable {PG:Za}{d:Nat}{Q:AE->Sl->St->Prop}{K:Bool->Prop}(hQ:H69 Q K){σ:Sl}{st:St}
include hQ
end
abbrev H70 (Q:AE->Sl->St->Prop)(K:Bool->Prop):Prop:=∀(σ:Sl)(st:St)(res0:Bool),σ 4=.b res0->K res0->Q .ret σ st
section
variable {PG:Za}{d:Nat}{Q:AE->Sl->St->Prop}{K:Bool->Prop}(hQ:H70 Q K){σ:Sl}{st:St}
include hQ
end
abbrev H89 (d:Nat)(Zm:St)(Q:AE->Sl->St->Prop)(K:Zb->Prop):Prop:=∀(σ:Sl)(st:St)(k0:Zq)(v0:Nat)(res0:Zb),σ 4=.p k0 v0 0->lk st.bx k0=some (v0,[.i .u8 res0.kind,.i .i64 res0.int,.s res0.text,.sl .full (List.map Zb.row res0.list),.b res0.cut])->Fr d (d,0) Zm.bx Zm.ow st.bx st.ow->K res0->Q .ret σ st
section
variable {PG:Za}{d:Nat}{Q:AE->Sl->St->Prop}{K:Zb->Prop}{Zm:St}(hQ:H89 d Zm Q K){σ:Sl}{st:St}
include hQ
end
abbrev H90 (Q:AE->Sl->St->Prop)(K:Zb->Prop):Prop:=∀(σ:Sl)(st:St)(k0:Zq)(v0:Nat)(o0_0:Zn)(res0:Zb),σ 0=.p k0 v0 0->lk st.bx k0=some (v0,[.i .u8 res0.kind,.i .i64 res0.int,.s res0.text,.sl o0_0 (List.map Zb.row res0.list),.b res0.cut])->K res0->Q .ret σ st
section
variable {PG:Za}{d:Nat}{Q:AE->Sl->St->Prop}{K:Zb->Prop}(hQ:H90 Q K){σ:Sl}{st:St}
include hQ
end
abbrev H91 (Q:AE->Sl->St->Prop)(K:Bool->Prop):Prop:=∀(σ:Sl)(st:St)(res0:Bool),σ 4=.b res0->K res0->Q .ret σ st
section
variable {PG:Za}{d:Nat}{Q:AE->Sl->St->Prop}{K:Bool->Prop}(hQ:H91 Q K){σ:Sl}{st:St}
include hQ
end
abbrev H92 (Q:AE->Sl->St->Prop)(K:Zb->Prop):Prop:=∀(σ:Sl)(st:St)(k0:Zq)(v0:Nat)(o0_0:Zn)(res0:Zb),σ 2=.p k0 v0 0->lk st.bx k0=some (v0,[.i .u8 res0.kind,.i .i64 res0.int,.s res0.text,.sl o0_0 (List.map Zb.row res0.list),.b res0.cut])->K res0->Q .ret σ st
section
variable {PG:Za}{d:Nat}{Q:AE->Sl->St->Prop}{K:Zb->Prop}(hQ:H92 Q K){σ:Sl}{st:St}
include hQ
end
abbrev H93 (Q:AE->Sl->St->Prop)(K:Zb->Prop):Prop:=∀(σ:Sl)(st:St)(k0:Zq)(v0:Nat)(o0_0:Zn)(res0:Zb),σ 2=.p k0 v0 0->lk st.bx k0=some (v0,[.i .u8 res0.kind,.i .i64 res0.int,.s res0.text,.sl o0_0 (List.map Zb.row res0.list),.b res0.cut])->K res0->Q .ret σ st
section
variable {PG:Za}{d:Nat}{Q:AE->Sl->St->Prop}{K:Zb->Prop}(hQ:H93 Q K){σ:Sl}{st:St}
include hQ
end
abbrev H98 (Q:AE->Sl->St->Prop)(K:Bool->Prop):Prop:=∀(σ:Sl)(st:St)(res0:Bool),σ 2=.b res0->K res0->Q .ret σ st
section
variable {PG:Za}{d:Nat}{Q:AE->Sl->St->Prop}{K:Bool->Prop}(hQ:H98 Q K){σ:Sl}{st:St}
include hQ
end
abbrev H99 (Q:AE->Sl->St->Prop)(K:Ze->Prop):Prop:=∀(σ:Sl)(st:St)(k0:Zq)(v0:Nat) (o0_0 o0_1 o0_2:Zn)(res0:Ze),σ 0=.p k0 v0 0->lk st.bx k0=some (v0,[.sl o0_0 (List.map Wz.row res0.types),.sl o0_1 (List.map Zv res0.texts),.sl o0_2 (List.map Zz.row res0.funcs)])->K res0->Q .ret σ st
section
variable {PG:Za}{d:Nat}{Q:AE->Sl->St->Prop}{K:Ze->Prop}(hQ:H99 Q K){σ:Sl}{st:St}
include hQ
end
abbrev Tg (Q:AE->Sl->St->Prop)(K:Bool->Prop):Prop:=∀(σ:Sl)(st:St)(res0:Bool),σ 0=.b res0->K res0->Q .ret σ st
section
variable {PG:Za}{d:Nat}{Q:AE->Sl->St->Prop}{K:Bool->Prop}(hQ:Tg Q K){σ:Sl}{st:St}
include hQ
end
abbrev Xaa (Q:AE->Sl->St->Prop)(K:Zb->Prop):Prop:=∀(σ:Sl)(st:St)(k0:Zq)(v0:Nat)(o0_0:Zn)(res0:Zb),σ 0=.p k0 v0 0->lk st.bx k0=some (v0,[.i .u8 res0.kind,.i .i64 res0.int,.s res0.text,.sl o0_0 (List.map Zb.row res0.list),.b res0.cut])->K res0->Q .ret σ st
section
variable {PG:Za}{d:Nat}{Q:AE->Sl->St->Prop}{K:Zb->Prop}(hQ:Xaa Q K){σ:Sl}{st:St}
include hQ
end
end Go.AM

/- Yg of the proof. -/
namespace Go.AM
open Go
set_option linter.unusedVariables false
set_option linter.unusedSimpArgs false
set_option maxRecDepth 4000
set_option maxHeartbeats 2000000
attribute [local irreducible] Decidable.decide W WO Ww Wx
def Yel:List AI:=[oO 0 (.alloc [zs,zs,zs,zs])]
def Ycb:List AI:=[oO 1 (.build [zs,zs,zs,zs] [(1,1,(.c (.s [102,97,117,108,116,32,49,58,32,100,105,118,105,115,105,111,110,32,98,121,32,122,101,114,111]))),(2,1,(.c (.s [102,97,117,108,116,32,50,58,32,110,105,108,32,112,111,105,110,116,101,114]))),(3,1,(.c (.s [102,97,117,108,116,32,51,58,32,111,117,116,32,111,102,32,114,97,110,103,101])))]),oS 4 0 1]
abbrev Xut:AC:=(sR 0 Yel (sR 1 Ycb .ret))
def Zay:AF:={ nt:=2,res:=[.cell 0 4 true],body:=Xut }
abbrev Xqy (Q:AE->Sl->St->Prop)(K:LB->Prop):Prop:=∀(σ:Sl)(st:St)(k0:Zq)(v0:Nat)(res0:LB),σ 0=.p k0 v0 0->lk st.bx k0=some (v0,List.map AV.s res0)->res0.length=4->K res0->Q .ret σ st
def Yk6 (PG:Za)(K:LB->Prop) :Prop:=
  K [[],([102,97,117,108,116,32,49,58,32,100,105,118,105,115,105,111,110,32,98,121,32,122,101,114,111]:BS),([102,97,117,108,116,32,50,58,32,110,105,108,32,112,111,105,110,116,101,114]:BS),([102,97,117,108,116,32,51,58,32,111,117,116,32,111,102,32,114,97,110,103,101]:BS)]
section
variable {PG:Za}{d:Nat}{Q:AE->Sl->St->Prop}{K:LB->Prop}(hQ:Xqy Q K){σ:Sl}{st:St}
include hQ
theorem Xcq (h:Yk6 PG K ):W PG d (sR 0 Yel (sR 1 Ycb .ret)) σ st Q:=
 Zk (W.reg (Xy (e_ (q_ J (Lv (f:=AV.s) (l:=[[],([102,97,117,108,116,32,49,58,32,100,105,118,105,115,105,111,110,32,98,121,32,122,101,114,111]:BS),([102,97,117,108,116,32,50,58,32,110,105,108,32,112,111,105,110,116,101,114]:BS),([102,97,117,108,116,32,51,58,32,111,117,116,32,111,102,32,114,97,110,103,101]:BS)]) (Yn J J (Yn J J (Yn J J Xr))) J (Pz (f:=AV.s) (fun _=>J) J (show lk _ (d,0)=some (_,(List.map AV.s (List.replicate 4 ([]:BS)):List AV)) from Zj) (by simp) J J (Zo (hQ _ _ _ _ _ J Zj (by simp) h))))))))
end
theorem Wd1 {PG:Za}(hf:PG.fn 178=some Zay)  {K:LB->Prop}(h:Yk6 PG K ) :∃res0:LB,K res0/\Zf PG 178 [] (.ag (List.map AV.s res0)):=by
  obtain ⟨v,hv,res0,hk,rfl⟩:=Zf.of (K:=fun v=>∃res0:LB,K res0/\v=.ag (List.map AV.s res0)) hf rfl (Xcq (σ:=Wh []) (fun σ st k0 v0  res0 H0 HB0 HL0 hk=>⟨.ag (List.map AV.s res0),by simp only [Zay,Xm,Vk,Jz (n:=4) H0 HB0 (by simpa using HL0),Qb,Option.map_some],_,Zhg AV.s (fun _=>rfl) _,res0,hk,rfl⟩)  h)
  exact ⟨res0,hk,hv⟩
def Zz7:List AI:=[oO 0 (.alloc [z8,z8,z8,z8,z8])]
def Ypg:List AI:=[oO 1 (.build [z8,z8,z8,z8,z8] [(1,1,(.c (.i .u8 2))),(2,1,(.c (.i .u8 1))),(3,1,(.c (.i .u8 3))),(4,1,(.c (.i .u8 2)))]),oS 5 0 1]
abbrev Wpc:AC:=(sR 0 Zz7 (sR 1 Ypg .ret))
def Iw:AF:={ nt:=2,res:=[.cell 0 5 true],body:=Wpc }
abbrev Xj6 (Q:AE->Sl->St->Prop)(K:BS->Prop):Prop:=∀(σ:Sl)(st:St)(k0:Zq)(v0:Nat)(res0:BS),σ 0=.p k0 v0 0->lk st.bx k0=some (v0,List.map c8 res0)->res0.length=5->K res0->Q .ret σ st
def Yeu (PG:Za)(K:BS->Prop) :Prop:=
  K [0,(2:UInt8),(1:UInt8),(3:UInt8),(2:UInt8)]
section
variable {PG:Za}{d:Nat}{Q:AE->Sl->St->Prop}{K:BS->Prop}(hQ:Xj6 Q K){σ:Sl}{st:St}
include hQ
theorem Xjz (h:Yeu PG K ):W PG d (sR 0 Zz7 (sR 1 Ypg .ret)) σ st Q:=
 Zk (W.reg (Xy (e_ (q_ J (Lv (f:=c8) (l:=[0,(2:UInt8),(1:UInt8),(3:UInt8),(2:UInt8)]) (Yn J J (Yn J J (Yn J J (Yn J J Xr)))) J (Pz (f:=c8) (fun _=>J) J (show lk _ (d,0)=some (_,(List.map c8 (List.replicate 5 (0:UInt8)):List AV)) from Zj) (by simp) J J (Zo (hQ _ _ _ _ _ J Zj (by simp) h))))))))
end
theorem Wk3 {PG:Za}(hf:PG.fn 183=some Iw)  {K:BS->Prop}(h:Yeu PG K ) :∃res0:BS,K res0/\Zf PG 183 [] (.ag (List.map c8 res0)):=by
  obtain ⟨v,hv,res0,hk,rfl⟩:=Zf.of (K:=fun v=>∃res0:BS,K res0/\v=.ag (List.map c8 res0)) hf rfl (Xjz (σ:=Wh []) (fun σ st k0 v0  res0 H0 HB0 HL0 hk=>⟨.ag (List.map c8 res0),by simp only [Iw,Xm,Vk,Jz (n:=5) H0 HB0 (by simpa using HL0),Qb,Option.map_some],_,Zhg c8 (fun _=>rfl) _,res0,hk,rfl⟩)  h)
  exact ⟨res0,hk,hv⟩
def Yr0:List AI:=[oC 4 (.b false)]
def Zy4:List AI:=[oM 5 0,oH 6 5,oM 7 1,oH 8 7,oT 9 .geq 6 8,oM 10 9,gT 10 (oM 11 0),gT 10 (oM 12 0),gT 10 (oH 13 12),gT 10 (oM 14 1),gT 10 (oH 15 14),gT 10 (oT 16 .sub 13 15),gT 10 (oO 17 (.slS (.t 11) (some (.t 16)) none)),gT 10 (oM 18 1),gT 10 (oT 19 .eql 17 18),oA 20 10 19,oM 4 20]
abbrev Xbo:AC:=(sR 0 Yr0 (sR 1 Zy4 .ret))
def Zhm:AF:={ nt:=21,res:=[.tmp 4],body:=Xbo }
def Zu8 (PG:Za)(K:Bool->Prop)(s0:BS)(suffix1:BS):Prop:=
  ((s0.length:Int)>=(suffix1.length:Int)->0<=(IntKind.i64.wrap ((s0.length:Int)-(suffix1.length:Int)))/\(IntKind.i64.wrap ((s0.length:Int)-(suffix1.length:Int))).toNat<=s0.length/\K (decide ((s0.drop (IntKind.i64.wrap ((s0.length:Int)-(suffix1.length:Int))).toNat)=suffix1)))/\(¬((s0.length:Int)>=(suffix1.length:Int))->K false)
section
variable {PG:Za}{d:Nat}{Q:AE->Sl->St->Prop}{K:Bool->Prop}(hQ:H1 AV.b 4 Q K){σ:Sl}{st:St}
include hQ
variable {s0 suffix1:BS}
variable (H0:σ 0=.s s0)(H1:σ 1=.s suffix1)
include H0 H1 in
theorem Yzw (h:Zu8 PG K s0 suffix1):W PG d (sR 0 Yr0 (sR 1 Zy4 .ret)) σ st Q:=
 au trivial
end
theorem Wae {PG:Za}(hf:PG.fn 191=some Zhm){s0:BS}{suffix1:BS}{K:Bool->Prop}(h:Zu8 PG K s0 suffix1) :∃res0:Bool,K res0/\Zf PG 191 [.s s0,.s suffix1] (.b res0):=
 P1 hf J (Yzw (h1 J fun _=>J) J J h)
abbrev Xvy (Q:AE->Sl->St->Prop)(K:Bool->Prop):Prop:=∀(σ:Sl)(st:St)(res0:Bool),σ 4=.b res0->K res0->Q .ret σ st
section
variable {PG:Za}{d:Nat}{Q:AE->Sl->St->Prop}{K:Bool->Prop}(hQ:Xvy Q K){σ:Sl}{st:St}
include hQ
end
def Yn3:List AI:=[oC 4 (.s []),oC 5 (.b false)]
def Yao:List AI:=[oM 6 0,oM 7 1,oQ 8 191 [6,7],oZ 9 8]
def Zyr:List AI:=[oM 10 0,oM 4 10,oC 5 (.b false)]
def Zzu:List AI:=[oM 11 0,oM 12 0,oH 13 12,oM 14 1,oH 15 14,oT 16 .sub 13 15,oO 17 (.slS (.t 11) none (some (.t 16))),oM 4 17,oC 5 (.b true)]
abbrev Wo5:AC:=(sR 0 Yn3 (.seq (sR 1 Yao (.cond (.t 9) (sR 2 Zyr .ret) .skip)) (sR 3 Zzu .ret)))
def Zdf:AF:={ nt:=18,res:=[.tmp 4,.tmp 5],body:=Wo5 }
def Zlt (PG:Za)(K:BS->Bool->Prop)(s0:BS)(suffix1:BS):Prop:=
  ∃c,Zf PG 191 [.s s0,.s suffix1] (.b c)/\((!c)=true->K s0 false)/\((!c)=false->0<=(IntKind.i64.wrap ((s0.length:Int)-(suffix1.length:Int)))/\(IntKind.i64.wrap ((s0.length:Int)-(suffix1.length:Int))).toNat<=s0.length/\K (s0.take (IntKind.i64.wrap ((s0.length:Int)-(suffix1.length:Int))).toNat) true)
section
variable {PG:Za}{d:Nat}{Q:AE->Sl->St->Prop}{K:BS->Bool->Prop}(hQ:H2 AV.s AV.b 4 5 Q K){σ:Sl}{st:St}
include hQ
variable {s0 suffix1:BS}
variable (H0:σ 0=.s s0)(H1:σ 1=.s suffix1)
include H0 H1 in
theorem Xtq (h:Zlt PG K s0 suffix1):W PG d (sR 0 Yn3 (.seq (sR 1 Yao (.cond (.t 9) (sR 2 Zyr .ret) .skip)) (sR 3 Zzu .ret))) σ st Q:=
 au trivial
end
theorem Xaz {PG:Za}(hf:PG.fn 190=some Zdf){s0:BS}{suffix1:BS}{K:BS->Bool->Prop}(h:Zlt PG K s0 suffix1) :∃res0:BS,∃res1:Bool,K res0 res1/\Zf PG 190 [.s s0,.s suffix1] (.tup [.s res0,.b res1]):=
 P2 hf J (Xtq (h2 J fun _ _=>J) J J h)
def Yah:List AI:=[oC 4 (.s []),oC 5 (.b false)]
def Yez:List AI:=[oM 6 0,oM 7 1,oQ 8 190 [6,7],oE 9 0 8,oE 10 1 8,oM 4 9,oM 5 10]
abbrev Xnc:AC:=(sR 0 Yah (sR 1 Yez .ret))
def Zde:AF:={ nt:=11,res:=[.tmp 4,.tmp 5],body:=Xnc }
def Zjj (PG:Za)(K:BS->Bool->Prop)(s0:BS)(suffix1:BS):Prop:=
  ∃e c,Zf PG 190 [.s s0,.s suffix1] (.tup [.s e,.b c])/\K e c
section
variable {PG:Za}{d:Nat}{Q:AE->Sl->St->Prop}{K:BS->Bool->Prop}(hQ:H2 AV.s AV.b 4 5 Q K){σ:Sl}{st:St}
include hQ
variable {s0 suffix1:BS}
variable (H0:σ 0=.s s0)(H1:σ 1=.s suffix1)
include H0 H1 in
theorem Xos (h:Zjj PG K s0 suffix1):W PG d (sR 0 Yah (sR 1 Yez .ret)) σ st Q:=
 au trivial
end
theorem Ysm {PG:Za}(hf:PG.fn 180=some Zde){s0:BS}{suffix1:BS}{K:BS->Bool->Prop}(h:Zjj PG K s0 suffix1) :∃res0:BS,∃res1:Bool,K res0 res1/\Zf PG 180 [.s s0,.s suffix1] (.tup [.s res0,.b res1]):=
 P2 hf J (Xos (h2 J fun _ _=>J) J J h)
abbrev Yw8 (Q:AE->Sl->St->Prop)(K:BS->Bool->Prop):Prop:=∀(σ:Sl)(st:St)(res0:BS)(res1:Bool),σ 4=.s res0->σ 5=.b res1->K res0 res1->Q .ret σ st
section
variable {PG:Za}{d:Nat}{Q:AE->Sl->St->Prop}{K:BS->Bool->Prop}(hQ:Yw8 Q K){σ:Sl}{st:St}
include hQ
end
def Yqb:List AI:=[oY 1 7 0,oI 2 0]
def Xs0:List AI:=[oF 4 0 1,oL 5 4,oB 6 .gtr (.t 5) (.c (.i .u64 4)),oM 7 6,gF 7 (oF 8 1 1),gF 7 (oF 9 0 8),gF 7 (oL 10 9),gF 7 (oQ 11 183 []),gF 7 (oF 12 0 1),gF 7 (oL 13 12),gF 7 (oO 14 (.ixA 5 1 false (.t 11) (.t 13))),gF 7 (oT 15 .neq 10 14),oR 16 7 15]
def Wko:List AI:=[oI 2 8]
def Xgy:List AI:=[oF 17 0 1,oL 18 17,oB 19 .eql (.t 18) (.c (.i .u64 0))]
def Xm4:List AI:=[oF 20 1 1,oK 21 5 20,oO 3 (.alloc [z8,z6,zs,zl,zb]),oS 5 3 21]
def Xna:List AI:=[oF 22 1 3,oL 23 22,oV 24 .neq 23 0,oM 25 24,gF 25 (oF 26 2 3),gF 25 (oL 27 26),gF 25 (oB 28 .neq (.t 27) (.c (.s []))),oR 29 25 28,oM 30 29,gF 30 (oF 31 3 3),gF 30 (oL 32 31),gF 30 (oJ 33 32),gF 30 (oV 34 .gtr 33 0),oR 35 30 34,oM 36 35,gF 36 (oF 37 4 3),gF 36 (oL 38 37),oR 39 36 38,oM 40 39,gF 40 (oF 41 6 1),gF 40 (oL 42 41),gF 40 (oB 43 .andNot (.t 42) (.c (.i .u64 4))),gF 40 (oB 44 .neq (.t 43) (.c (.i .u64 2))),oR 45 40 44]
def Wni:List AI:=[oI 2 8]
def Xq0:List AI:=[oI 2 0]
def Wie:List AI:=[oF 46 6 1,oL 47 46,oB 48 .andNot (.t 47) (.c (.i .u64 5)),oB 49 .neq (.t 48) (.c (.i .u64 0)),oM 50 49,gF 50 (oF 51 0 1),gF 50 (oL 52 51),gF 50 (oB 53 .eql (.t 52) (.c (.i .u64 4))),gF 50 (oM 54 53),gT 54 (oF 55 1 1),gT 54 (oF 56 1 55),gT 54 (oL 57 56),gT 54 (oV 58 .lss 57 1),gT 54 (oM 59 58),gF 59 (oF 60 1 1),gF 59 (oF 61 1 60),gF 59 (oL 62 61),gF 59 (oV 63 .gtr 62 3),gT 54 (oR 64 59 63),gF 50 (oA 65 54 64),oR 66 50 65]
def Xh5:List AI:=[oI 2 8]
def Yro:List AI:=[oF 67 1 1,oK 68 5 67,oQ 69 76 [68],oM 2 69]
abbrev Yl4:AC:=(sR 10 Yro .ret)
abbrev Yng:AC:=(.seq (sR 8 Wie (.cond (.t 66) (sR 9 Xh5 .ret) .skip)) Yl4)
abbrev Yoa:AC:=(.seq (sR 3 Xgy (.cond (.t 19) (sR 4 Xm4 (.seq (sR 5 Xna (.cond (.t 45) (sR 6 Wni .ret) .skip)) (sR 7 Xq0 .ret))) .skip)) Yng)
abbrev Zle:AC:=(.seq (sR 1 Xs0 (.cond (.t 16) (sR 2 Wko .ret) .skip)) Yoa)
abbrev Wa8:AC:=(sR 0 Yqb Zle)
def Zbu:AF:={ nt:=70,res:=[.tmp 2],body:=Wa8 }
def Zao (PG:Za)(K:Int->Prop)(m0:Zh):Prop:=
  ∃c,Zf PG 76 [m0.value.av] (.i .i64 c)/\K c
def Zp4 (PG:Za)(K:Int->Prop)(m0:Zh):Prop:=
  ((Pt .u64 m0.flags 5)≠0->K 8)/\(¬((Pt .u64 m0.flags 5)≠0)->(m0.tag=4->(m0.value.int<1->K 8)/\(¬(m0.value.int<1)->(m0.value.int>3->K 8)/\(¬(m0.value.int>3)->Zao PG K m0)))/\(¬(m0.tag=4)->Zao PG K m0))
def Zsz (PG:Za)(K:Int->Prop)(m0:Zh):Prop:=
  (m0.tag=0->(m0.value.int≠0->K 8)/\(¬(m0.value.int≠0)->(m0.value.text≠([]:BS)->K 8)/\(¬(m0.value.text≠([]:BS))->((m0.value.list.length:Int)>0->K 8)/\(¬((m0.value.list.length:Int)>0)->(m0.value.cut=true->K 8)/\(m0.value.cut=false->((Pt .u64 m0.flags 4)≠2->K 8)/\(¬((Pt .u64 m0.flags 4)≠2)->K 0))))))/\(¬(m0.tag=0)->Zp4 PG K m0)
def Zv0 (PG:Za)(K:Int->Prop)(m0:Zh):Prop:=
  (m0.tag>4->K 8)/\(¬(m0.tag>4)->∃c:BS,Zf PG 183 [] (.ag (List.map c8 c))/\c.length=5/\0<=m0.tag/\∃e:UInt8,(c:List (UInt8))[(m0.tag).toNat]?=some e/\(m0.value.kind≠(e.toNat:Int)->K 8)/\(¬(m0.value.kind≠(e.toNat:Int))->Zsz PG K m0))
def Zo4 (PG:Za)(K:Int->Prop)(p0:Zh):Prop:=
  Zv0 PG K p0
section
variable {PG:Za}{d:Nat}{Q:AE->Sl->St->Prop}{K:Int->Prop}(hQ:H1 (AV.i .i64) 2 Q K){σ:Sl}{st:St}
include hQ
variable {m0:Zh}{v0:Nat}{p0:Zh}
variable (H1:σ 1=.p (d,0) v0 0)(H0:σ 0=p0.av)(B0:lk st.bx (d,0)=some (v0,Zh.cs m0))
include H1 B0 in
theorem Xrk (h:Zao PG K m0):W PG d Yl4 σ st Q:=
 au trivial
include H1 B0 in
theorem Xur (h:Zp4 PG K m0):W PG d Yng σ st Q:=
 au @Xrk
include H1 B0 in
theorem Wep (h:Zsz PG K m0):W PG d Yoa σ st Q:=
 au @Xur
include H1 B0 in
theorem Wow (h:Zv0 PG K m0):W PG d Zle σ st Q:=
 au @Wep
include H0 in
theorem Ytc (h:Zo4 PG K p0):W PG d (sR 0 Yqb Zle) σ st Q:=
 au @Wow
end
theorem Wi3 {PG:Za}(hf:PG.fn 158=some Zbu){p0:Zh}{K:Int->Prop}(h:Zo4 PG K p0) :∃res0:Int,K res0/\Zf PG 158 [p0.av] (.i .i64 res0):=
 P1 hf J (Ytc (h1 J fun _=>J) J h)
def Yn1:List AI:=[oY 1 7 0,oI 2 0]
def Xaf:List AI:=[oF 5 1 1,oK 6 5 5,oQ 7 77 [6],oV 8 .eql 7 0,oM 3 8]
def Yv7:List AI:=[oO 9 (.bslice [z8] 5 [(0,(.c (.i .u8 0))),(1,(.c (.i .u8 2))),(2,(.c (.i .u8 1))),(3,(.c (.i .u8 3))),(4,(.c (.i .u8 2)))]),oM 4 9]
def Xgw:List AI:=[oF 10 0 1,oL 11 10,oB 12 .gtr (.t 11) (.c (.i .u64 4)),oM 13 12,gF 13 (oF 14 1 1),gF 13 (oF 15 0 14),gF 13 (oL 16 15),gF 13 (oM 17 4),gF 13 (oF 18 0 1),gF 13 (oL 19 18),gF 13 (oX 20 1 17 19),gF 13 (oL 21 20),gF 13 (oT 22 .neq 16 21),oR 23 13 22]
def Xdz:List AI:=[oI 2 8]
def Xf5:List AI:=[oF 24 0 1,oL 25 24,oB 26 .eql (.t 25) (.c (.i .u64 0))]
def Xj5:List AI:=[oF 27 1 1,oK 28 5 27,oO 29 (.build [z8,z6,zs,zl,zb] []),oQ 30 78 [28,29],oM 31 30,gT 31 (oF 32 6 1),gT 31 (oL 33 32),gT 31 (oB 34 .eql (.t 33) (.c (.i .u64 2))),gT 31 (oM 35 34),gF 35 (oF 36 6 1),gF 35 (oL 37 36),gF 35 (oB 38 .eql (.t 37) (.c (.i .u64 6))),gT 31 (oR 39 35 38),oA 40 31 39,oM 3 40]
def Wt4:List AI:=[oM 41 3,oM 42 41,gT 42 (oF 43 6 1),gT 42 (oL 44 43),gT 42 (oB 45 .eql (.t 44) (.c (.i .u64 0))),gT 42 (oM 46 45),gF 46 (oF 47 6 1),gF 46 (oL 48 47),gF 46 (oB 49 .eql (.t 48) (.c (.i .u64 1))),gT 42 (oR 50 46 49),gT 42 (oM 51 50),gF 51 (oF 52 6 1),gF 51 (oL 53 52),gF 51 (oB 54 .eql (.t 53) (.c (.i .u64 4))),gT 42 (oR 55 51 54),gT 42 (oM 56 55),gF 56 (oF 57 6 1),gF 56 (oL 58 57),gF 56 (oB 59 .eql (.t 58) (.c (.i .u64 5))),gT 42 (oR 60 56 59),oA 61 42 60,oM 3 61]
def Yry:List AI:=[oF 62 0 1,oL 63 62,oB 64 .eql (.t 63) (.c (.i .u64 4))]
def Yuj:List AI:=[oM 65 3,oM 66 65,gT 66 (oF 67 1 1),gT 66 (oF 68 1 67),gT 66 (oL 69 68),gT 66 (oV 70 .geq 69 1),oA 71 66 70,oM 72 71,gT 72 (oF 73 1 1),gT 72 (oF 74 1 73),gT 72 (oL 75 74),gT 72 (oV 76 .leq 75 3),oA 77 72 76,oM 3 77]
def Xi4:List AI:=[oM 78 3,oZ 79 78]
def Wbt:List AI:=[oI 2 8]
def Xmf:List AI:=[oI 2 0]
abbrev Zyj:AC:=(.seq (sR 10 Xi4 (.cond (.t 79) (sR 11 Wbt .ret) .skip)) (sR 12 Xmf .ret))
abbrev Ynx:AC:=(.seq (sR 8 Yry (.cond (.t 64) (.reg 9 Yuj) .skip)) Zyj)
abbrev Yf1:AC:=(.seq (sR 5 Xf5 (.cond (.t 26) (.reg 6 Xj5) (.reg 7 Wt4))) Ynx)
abbrev Zwc:AC:=(.seq (sR 3 Xgw (.cond (.t 23) (sR 4 Xdz .ret) .skip)) Yf1)
abbrev Zz9:AC:=(sR 2 Yv7 Zwc)
abbrev Zks:AC:=(sR 1 Xaf Zz9)
abbrev Wri:AC:=(sR 0 Yn1 Zks)
def Zcl:AF:={ nt:=80,res:=[.tmp 2],body:=Wri }
def Tr (PG:Za)(K:Int->Prop)(ok3:Bool):Prop:=
  ((!ok3)=true->K 8)/\((!ok3)=false->K 0)
def Bq (PG:Za)(K:Int->Prop)(ok3:Bool)(m0:Zh):Prop:=
  (m0.tag=4->(ok3=true->(m0.value.int>=1->Tr PG K (decide (m0.value.int<=3)))/\(¬(m0.value.int>=1)->Tr PG K false))/\(ok3=false->Tr PG K false))/\(¬(m0.tag=4)->Tr PG K ok3)
def Zt6 (PG:Za)(K:Int->Prop)(ok3:Bool)(m0:Zh):Prop:=
  (m0.tag=0->∃c,Zf PG 78 [m0.value.av,.ag [.i .u8 0,.i .i64 0,.s [],.sl .ext (List.map Zb.row ([]:List Zb)),.b false]] (.b c)/\(c=true->(m0.flags=2->Bq PG K true m0)/\(¬(m0.flags=2)->Bq PG K (decide (m0.flags=6)) m0))/\(c=false->Bq PG K false m0))/\(¬(m0.tag=0)->(ok3=true->(m0.flags=0->Bq PG K true m0)/\(¬(m0.flags=0)->(m0.flags=1->Bq PG K true m0)/\(¬(m0.flags=1)->(m0.flags=4->Bq PG K true m0)/\(¬(m0.flags=4)->Bq PG K (decide (m0.flags=5)) m0))))/\(ok3=false->Bq PG K false m0))
def Zol (PG:Za)(K:Int->Prop)(ok3:Bool)(kinds4:BS)(m0:Zh):Prop:=
  (m0.tag>4->K 8)/\(¬(m0.tag>4)->0<=m0.tag/\∃c:UInt8,kinds4[(m0.tag).toNat]?=some c/\(m0.value.kind≠(c.toNat:Int)->K 8)/\(¬(m0.value.kind≠(c.toNat:Int))->Zt6 PG K ok3 m0))
def Zq2 (PG:Za)(K:Int->Prop)(ok3:Bool)(m0:Zh):Prop:=
  Zol PG K ok3 [(0:UInt8),(2:UInt8),(1:UInt8),(3:UInt8),(2:UInt8)] m0
def Zpo (PG:Za)(K:Int->Prop)(m0:Zh):Prop:=
  ∃c,Zf PG 77 [m0.value.av] (.i .i64 c)/\Zq2 PG K (decide (c=0)) m0
def Zo8 (PG:Za)(K:Int->Prop)(p0:Zh):Prop:=
  Zpo PG K p0
section
variable {PG:Za}{d:Nat}{Q:AE->Sl->St->Prop}{K:Int->Prop}(hQ:H1 (AV.i .i64) 2 Q K){σ:Sl}{st:St}
include hQ
variable {ok3:Bool}{m0:Zh}{v0:Nat}{kinds4:BS}{o_kinds4:Zn}{p0:Zh}
variable (H1:σ 1=.p (d,0) v0 0)(H0:σ 0=p0.av)(H3:σ 3=.b ok3)(H4:σ 4=.sl o_kinds4 (List.map Yu kinds4))(A4:Xe d st.ow o_kinds4 kinds4.length)(B0:lk st.bx (d,0)=some (v0,Zh.cs m0))
include H3 in
theorem Xn5 (h:Tr PG K ok3):W PG d Zyj σ st Q:=
 au trivial
include H1 H3 B0 in
theorem Xk0 (h:Bq PG K ok3 m0):W PG d Ynx σ st Q:=
 au @Xn5
include H1 H3 B0 in
theorem Xk9 (h:Zt6 PG K ok3 m0):W PG d Yf1 σ st Q:=
 au @Xk0
include H1 H3 H4 A4 B0 in
theorem Wnt (h:Zol PG K ok3 kinds4 m0):W PG d Zwc σ st Q:=
 au @Xk9
include H1 H3 B0 in
theorem Wk9 (h:Zq2 PG K ok3 m0):W PG d Zz9 σ st Q:=
 q_ J (Ja (f:=Yu) (l:=[(0:UInt8),(2:UInt8),(1:UInt8),(3:UInt8),(2:UInt8)]) J J (Xw J J J (Xw J J J (Xw J J J (Xw J J J (Xw J J J Vn))))) J (Yf J (e_ (Wnt hQ H1 H3 J Xe.full B0 h))))
include H1 B0 in
theorem Wm3 (h:Zpo PG K m0):W PG d Zks σ st Q:=
 q_ J (f_ H1 (l_ J B0 J J (h.elim fun _ c=>Yi (Wr J J) c.1 (b_ J J Xo (m_ (e_ (Wk9 hQ H1 J B0 c.2)))))))
include H0 in
theorem Xtb (h:Zo8 PG K p0):W PG d (sR 0 Yn1 Zks) σ st Q:=
 q_ J (Vx H0 J (m_ (e_ (Wm3 hQ J Zj h))))
end
theorem Yxt {PG:Za}(hf:PG.fn 159=some Zcl){p0:Zh}{K:Int->Prop}(h:Zo8 PG K p0) :∃res0:Int,K res0/\Zf PG 159 [p0.av] (.i .i64 res0):=
 P1 hf J (Xtb (h1 J fun _=>J) J h)
abbrev Xvc (Q:AE->Sl->St->Prop)(K:BS->Prop):Prop:=∀(σ:Sl)(st:St)(res0:BS),σ 2=.s res0->K res0->Q .ret σ st
section
variable {PG:Za}{d:Nat}{Q:AE->Sl->St->Prop}{K:BS->Prop}(hQ:Xvc Q K){σ:Sl}{st:St}
include hQ
end
def Yqh:List AI:=[oY 1 7 0,oC 2 (.s []),oI 3 0]
def Ybv:List AI:=[oK 8 7 1,oQ 9 158 [8],oM 4 9]
def Zxv:List AI:=[oM 10 4,oV 11 .neq 10 0]
def Ydu:List AI:=[oM 12 4,oC 2 (.s []),oM 3 12]
def Zx8:List AI:=[oC 5 (.s [101,120,105,116])]
def Zy3:List AI:=[oF 13 0 1,oL 14 13]
def Yav:List AI:=[oB 27 .eql (.t 14) (.c (.i .u64 0)),oM 26 27]
def Yad:List AI:=[oB 29 .eql (.t 14) (.c (.i .u64 4)),oM 28 29]
def Yl2:List AI:=[oQ 30 178 [],oF 31 1 1,oF 32 1 31,oL 33 32,oO 34 (.ixA 4 1 false (.t 30) (.t 33)),oM 5 34]
def Yqi:List AI:=[oF 16 1 1,oK 17 5 16,oQ 18 72 [17],oM 15 18,oE 19 0 15,oE 20 1 15,oM 6 19,oM 7 20]
def Ym9:List AI:=[oM 21 7,oV 22 .neq 21 0]
def Ypx:List AI:=[oM 23 7,oC 2 (.s []),oM 3 23]
def Yd8:List AI:=[oM 24 6,oB 25 .add (.c (.s [112,97,110,105,99,32])) (.t 24),oM 5 25]
def Xyh:List AI:=[oF 35 6 1,oL 36 35,oB 37 .and (.t 36) (.c (.i .u64 1)),oB 38 .neq (.t 37) (.c (.i .u64 0))]
def Xhu:List AI:=[oM 39 5,oB 40 .add (.t 39) (.c (.s [32,114,101,99,111,118,101,114,101,100])),oM 5 40]
def Xnj:List AI:=[oF 41 6 1,oL 42 41,oB 43 .and (.t 42) (.c (.i .u64 4)),oB 44 .neq (.t 43) (.c (.i .u64 0))]
def Yve:List AI:=[oM 45 5,oB 46 .add (.t 45) (.c (.s [32,97,98,111,114,116,101,100])),oM 5 46]
def Xd4:List AI:=[oM 47 5,oM 2 47,oI 3 0]
abbrev Ycn:AC:=(sR 17 Xd4 .ret)
abbrev Zyl:AC:=(.seq (sR 15 Xnj (.cond (.t 44) (.reg 16 Yve) .skip)) Ycn)
abbrev Zub:AC:=(.seq (sR 13 Xyh (.cond (.t 38) (.reg 14 Xhu) .skip)) Zyl)
abbrev Xqi:AC:=(sR 0 Yqh (.seq (sR 1 Ybv (sR 2 Zxv (.cond (.t 11) (sR 3 Ydu .ret) .skip))) (sR 4 Zx8 (.seq (sR 5 Zy3 (.block 0 (sR 10 Yav (.cond (.t 26) .skip (sR 11 Yad (.cond (.t 28) (.reg 12 Yl2) (sR 6 Yqi (.seq (sR 7 Ym9 (.cond (.t 22) (sR 8 Ypx .ret) .skip)) (.reg 9 Yd8))))))))) Zub))))
def Zfi:AF:={ nt:=48,res:=[.tmp 2,.tmp 3],body:=Xqi }
def Zek (PG:Za)(K:BS->Int->Prop)(s5:BS):Prop:=
  K s5 0
def Zcb (PG:Za)(K:BS->Int->Prop)(s5:BS)(m0:Zh):Prop:=
  ((Gl .u64 m0.flags 4)≠0->s5.length+([32,97,98,111,114,116,101,100]:BS).length<=We/\Zek PG K (s5++([32,97,98,111,114,116,101,100]:BS)))/\(¬((Gl .u64 m0.flags 4)≠0)->Zek PG K s5)
def Ph (PG:Za)(K:BS->Int->Prop)(s5:BS)(m0:Zh):Prop:=
  ((Gl .u64 m0.flags 1)≠0->s5.length+([32,114,101,99,111,118,101,114,101,100]:BS).length<=We/\Zcb PG K (s5++([32,114,101,99,111,118,101,114,101,100]:BS)) m0)/\(¬((Gl .u64 m0.flags 1)≠0)->Zcb PG K s5 m0)
def Zjx (PG:Za)(K:BS->Int->Prop)(p0:Zh):Prop:=
  ∃c,Zf PG 158 [p0.av] (.i .i64 c)/\(c≠0->K ([]:BS) c)/\(¬(c≠0)->(p0.tag=0->Ph PG K ([101,120,105,116]:BS) p0)/\(¬(p0.tag=0)->(p0.tag=4->∃j:LB,Zf PG 178 [] (.ag (List.map AV.s j))/\j.length=4/\0<=p0.value.int/\∃o,(j:LB)[(p0.value.int).toNat]?=some o/\Ph PG K o p0)/\(¬(p0.tag=4)->∃k:BS,∃e,Zf PG 72 [p0.value.av] (.tup [.s k,.i .i64 e])/\(e≠0->K ([]:BS) e)/\(¬(e≠0)->([112,97,110,105,99,32]:BS).length+k.length<=We/\Ph PG K (([112,97,110,105,99,32]:BS)++k) p0))))
section
variable {PG:Za}{d:Nat}{Q:AE->Sl->St->Prop}{K:BS->Int->Prop}(hQ:H2 AV.s (AV.i .i64) 2 3 Q K){σ:Sl}{st:St}
include hQ
variable {s5:BS}{m0:Zh}{v0:Nat}{p0:Zh}
variable (H1:σ 1=.p (d,0) v0 0)(H0:σ 0=p0.av)(H5:σ 5=.s s5)(B0:lk st.bx (d,0)=some (v0,Zh.cs m0))
include H5 in
theorem Xvj (h:Zek PG K s5):W PG d Ycn σ st Q:=
 au trivial
include H1 H5 B0 in
theorem Xpb (h:Zcb PG K s5 m0):W PG d Zyl σ st Q:=
 au @Xvj
include H1 H5 B0 in
theorem Wa9 (h:Ph PG K s5 m0):W PG d Zub σ st Q:=
 au @Xpb
include H0 in
theorem Wlf (h:Zjx PG K p0):W PG d (sR 0 Yqh (.seq (sR 1 Ybv (sR 2 Zxv (.cond (.t 11) (sR 3 Ydu .ret) .skip))) (sR 4 Zx8 (.seq (sR 5 Zy3 (.block 0 (sR 10 Yav (.cond (.t 26) .skip (sR 11 Yad (.cond (.t 28) (.reg 12 Yl2) (sR 6 Yqi (.seq (sR 7 Ym9 (.cond (.t 22) (sR 8 Ypx .ret) .skip)) (.reg 9 Yd8))))))))) Zub)))) σ st Q:=
 au @Wa9
end
theorem Xu7 {PG:Za}(hf:PG.fn 154=some Zfi){p0:Zh}{K:BS->Int->Prop}(h:Zjx PG K p0) :∃res0:BS,∃res1:Int,K res0 res1/\Zf PG 154 [p0.av] (.tup [.s res0,.i .i64 res1]):=
 P2 hf J (Wlf (h2 J fun _ _=>J) J h)
abbrev Ytz (Q:AE->Sl->St->Prop)(K:BS->Int->Prop):Prop:=∀(σ:Sl)(st:St)(res0:BS)(res1:Int),σ 2=.s res0->σ 3=.i .i64 res1->K res0 res1->Q .ret σ st
section
variable {PG:Za}{d:Nat}{Q:AE->Sl->St->Prop}{K:BS->Int->Prop}(hQ:Ytz Q K){σ:Sl}{st:St}
include hQ
end
end Go.AM

/- Yg of the proof. -/
namespace Go.AM
open Go
set_option linter.unusedVariables false
set_option linter.unusedSimpArgs false
set_option maxRecDepth 4000
set_option maxHeartbeats 2000000
attribute [local irreducible] Decidable.decide W WO Ww Wx
def Ye9:List AI:=[oO 2 (.alloc [z7,z8,z6,zs,zl,zb,z7]),oC 3 (.b false)]
def Xqg:List AI:=[oM 12 0,oB 13 .eql (.t 12) (.c (.s [101,120,105,116]))]
def Xjn:List AI:=[oO 14 (.build [z7,z8,z6,zs,zl,zb,z7] [(6,1,(.c (.i .u64 2)))]),oS 7 2 14,oC 3 (.b true)]
def Ytd:List AI:=[oQ 15 178 [],oI 16 0]
def Wsr:List AI:=[oV 17 .lss 16 4]
def Whf:List AI:=[oM 18 16,oO 19 (.ixA 4 1 false (.t 15) (.t 16)),oM 4 18,oM 5 19]
def Xzt:List AI:=[oM 20 4,oV 21 .gtr 20 0,oM 22 21,gT 22 (oM 23 5),gT 22 (oM 24 0),gT 22 (oT 25 .eql 23 24),oA 26 22 25]
def Xjd:List AI:=[oM 27 4,oO 28 (.build [z8,z6,zs,zl,zb] [(0,1,(.c (.i .u8 2))),(1,1,(.t 27))]),oO 29 (.build [z7,z8,z6,zs,zl,zb,z7] [(0,1,(.c (.i .u64 4))),(1,5,(.t 28))]),oS 7 2 29,oC 3 (.b true)]
def Yc6:List AI:=[oV 30 .add 16 1,oM 16 30]
def Xno:List AI:=[oM 32 0,oO 33 (.call false 36 [(.t 32),(.c (.s [112,97,110,105,99,32]))]),oM 31 33,oE 34 0 31,oE 35 1 31,oM 6 34,oM 7 35]
def Xfo:List AI:=[oM 36 7,oZ 37 36]
def Wmk:List AI:=[oO 38 (.build [z7,z8,z6,zs,zl,zb,z7] []),oS 7 2 38,oC 3 (.b false)]
def Wq9:List AI:=[oM 40 6,oQ 41 74 [40],oM 39 41,oE 42 0 39,oE 43 1 39,oO 8 (.alloc [z8,z6,zs,zl,zb]),oS 5 8 42,oM 9 43]
def Wph:List AI:=[oQ 44 183 [],oI 45 0]
def Wdj:List AI:=[oV 46 .lss 45 5]
def Wnf:List AI:=[oM 47 45,oO 48 (.ixA 5 1 false (.t 44) (.t 45)),oM 10 47,oM 11 48]
def Xz1:List AI:=[oM 49 9,oV 50 .eql 49 0,oM 51 50,gT 51 (oM 52 11),gT 51 (oF 53 0 8),gT 51 (oL 54 53),gT 51 (oT 55 .eql 52 54),oA 56 51 55]
def Wd0:List AI:=[oM 57 10,oO 58 (.cvi .u64 (.t 57)),oK 59 5 8,oO 60 (.build [z7,z8,z6,zs,zl,zb,z7] [(0,1,(.t 58)),(1,5,(.t 59))]),oS 7 2 60,oC 3 (.b true)]
def Yje:List AI:=[oV 61 .add 45 1,oM 45 61]
def Yzq:List AI:=[oO 62 (.build [z7,z8,z6,zs,zl,zb,z7] []),oS 7 2 62,oC 3 (.b false)]
abbrev Zyi:AC:=(.cond (.t 26) (sR 7 Xjd .ret) .skip)
abbrev Iv:AC:=(sR 4 Wsr (.seq (.cond (.t 17) .skip (.exit 0)) (.seq (.block 1 (sR 5 Whf (sR 6 Xzt Zyi))) (.reg 8 Yc6))))
abbrev Zyt:AC:=(.cond (.t 56) (sR 17 Wd0 .ret) .skip)
abbrev Zae:AC:=(sR 14 Wdj (.seq (.cond (.t 46) .skip (.exit 2)) (.seq (.block 3 (sR 15 Wnf (sR 16 Xz1 Zyt))) (.reg 18 Yje))))
abbrev Zbc:AC:=(sR 19 Yzq .ret)
abbrev Zax:AC:=(sR 9 Xno (.seq (sR 10 Xfo (.cond (.t 37) (sR 11 Wmk .ret) .skip)) (sR 12 Wq9 (.seq (sR 13 Wph (.block 2 (.loop Zae))) Zbc))))
abbrev Zxa:AC:=(.seq (sR 3 Ytd (.block 0 (.loop Iv))) Zax)
abbrev Zmc:AC:=(.seq (sR 1 Xqg (.cond (.t 13) (sR 2 Xjn .ret) .skip)) Zxa)
abbrev Xce:AC:=(sR 0 Ye9 Zmc)
def Et:AF:={ nt:=63,res:=[.cell 2 7 true,.tmp 3],body:=Xce }
abbrev Xae (Q:AE->Sl->St->Prop)(K:Zh->Bool->Prop):Prop:=∀(σ:Sl)(st:St)(k0:Zq)(v0:Nat)(o0_0:Zn)(res0:Zh)(res1:Bool),σ 2=.p k0 v0 0->lk st.bx k0=some (v0,[.i .u64 res0.tag,.i .u8 res0.value.kind,.i .i64 res0.value.int,.s res0.value.text,.sl o0_0 (List.map Zb.row res0.value.list),.b res0.value.cut,.i .u64 res0.flags])->σ 3=.b res1->K res0 res1->Q .ret σ st
abbrev Ydp (PG:Za)(d:Nat)(Q:AE->Sl->St->Prop)(s0:BS)(t15:LB)(t16:Int)(m0:Zh):Prop:=
  ∀(σ:Sl)(st:St)(o_m0_4:Zn)(v0:Nat),σ 0=.s s0->σ 2=.p (d,0) v0 0->σ 15=.ag (List.map AV.s t15)->σ 16=.i .i64 t16->lk st.bx (d,0)=some (v0,[.i .u64 m0.tag,.i .u8 m0.value.kind,.i .i64 m0.value.int,.s m0.value.text,.sl o_m0_4 (List.map Zb.row m0.value.list),.b m0.value.cut,.i .u64 m0.flags])->W PG d (.loop Iv) σ st (Zw 0 (Zl PG d Zax Q))
def Zac (PG:Za)(K:Zh->Bool->Prop)(P0:Int->Zh->Prop)(s0:BS)(n4:Int)(t15:LB)(t16:Int)(t26:Bool)(m0:Zh):Prop:=
  (t26=true->K (Zh.mk 4 (Zb.mk 2 n4 [] ([]:List Zb) false) 0) true)/\(t26=false->P0 (IntKind.i64.wrap (t16+1)) m0)
abbrev Ynl (PG:Za)(d:Nat)(Q:AE->Sl->St->Prop)(e9:Int)(t44:List (UInt8))(t45:Int)(m0:Zh)(m49157:Zb):Prop:=
  ∀(σ:Sl)(st:St)(o_m0_4:Zn) (v0 v49157:Nat),σ 2=.p (d,0) v0 0->σ 8=.p (d,49157) v49157 0->σ 9=.i .i64 e9->σ 44=.ag (List.map c8 t44)->σ 45=.i .i64 t45->lk st.bx (d,0)=some (v0,[.i .u64 m0.tag,.i .u8 m0.value.kind,.i .i64 m0.value.int,.s m0.value.text,.sl o_m0_4 (List.map Zb.row m0.value.list),.b m0.value.cut,.i .u64 m0.flags])->lk st.bx (d,49157)=some (v49157,Zb.cs m49157)->W PG d (.loop Zae) σ st (Zw 2 (Zl PG d Zbc Q))
def Zb9 (PG:Za)(K:Zh->Bool->Prop)(P1:Int->Zh->Zb->Prop)(e9:Int)(tag10:Int)(t44:List (UInt8))(t45:Int)(t56:Bool)(m0:Zh)(m49157:Zb):Prop:=
  (t56=true->K (Zh.mk (IntKind.u64.wrap tag10) m49157 0) true)/\(t56=false->P1 (IntKind.i64.wrap (t45+1)) m0 m49157)
def Zep (PG:Za)(K:Zh->Bool->Prop)(m0:Zh):Prop:=
  K (Zh.mk 0 (Zb.mk 0 0 [] ([]:List Zb) false) 0) false
def Fc (PG:Za)(K:Zh->Bool->Prop)(P1:Int->Zh->Zb->Prop)(e9:Int)(t44:List (UInt8))(t45:Int)(m0:Zh)(m49157:Zb):Prop:=
  (t45<5->t44.length=5/\0<=t45/\∃c:UInt8,(t44:List (UInt8))[(t45).toNat]?=some c/\(e9=0->Zb9 PG K P1 e9 t45 t44 t45 (decide ((c.toNat:Int)=m49157.kind)) m0 m49157)/\(¬(e9=0)->Zb9 PG K P1 e9 t45 t44 t45 false m0 m49157))/\(¬(t45<5)->Zep PG K m0)
def Zkk (PG:Za)(K:Zh->Bool->Prop)(s0:BS)(m0:Zh):Prop:=
  ∃k c,Zf PG 36 [.s s0,.s ([112,97,110,105,99,32]:BS)] (.tup [.s k,.b c])/\((!c)=true->K (Zh.mk 0 (Zb.mk 0 0 [] ([]:List Zb) false) 0) false)/\((!c)=false->∃e:Zb,∃j,Zf PG 74 [.s k] (.tup [e.av,.i .i64 j])/\∃o,Zf PG 183 [] (.ag (List.map c8 o))/\∀P1:Int->Zh->Zb->Prop,(∀(t45:Int)(m0:Zh)(m49157:Zb),Fc PG K P1 j o t45 m0 m49157->P1 t45 m0 m49157)->P1 0 m0 e)
def Zd6 (PG:Za)(K:Zh->Bool->Prop)(P0:Int->Zh->Prop)(s0:BS)(t15:LB)(t16:Int)(m0:Zh):Prop:=
  (t16<4->t15.length=4/\0<=t16/\∃c,(t15:LB)[(t16).toNat]?=some c/\(t16>0->Zac PG K P0 s0 t16 t15 t16 (decide (c=s0)) m0)/\(¬(t16>0)->Zac PG K P0 s0 t16 t15 t16 false m0))/\(¬(t16<4)->Zkk PG K s0 m0)
def Zpv (PG:Za)(K:Zh->Bool->Prop)(s0:BS)(m0:Zh):Prop:=
  ∃c,Zf PG 178 [] (.ag (List.map AV.s c))/\∀P0:Int->Zh->Prop,(∀(t16:Int)(m0:Zh),Zd6 PG K P0 s0 c t16 m0->P0 t16 m0)->P0 0 m0
def Zpz (PG:Za)(K:Zh->Bool->Prop)(s0:BS)(m0:Zh):Prop:=
  (s0=([101,120,105,116]:BS)->K (Zh.mk 0 (Zb.mk 0 0 [] ([]:List Zb) false) 2) true)/\(¬(s0=([101,120,105,116]:BS))->Zpv PG K s0 m0)
def Zn2 (PG:Za)(K:Zh->Bool->Prop)(s0:BS):Prop:=
  Zpz PG K s0 (Zh.mk 0 (Zb.mk 0 0 [] ([]:List Zb) false) 0)
section
variable {PG:Za}{d:Nat}{Q:AE->Sl->St->Prop}{K:Zh->Bool->Prop}(hQ:Xae Q K){σ:Sl}{st:St}
include hQ
variable {s0:BS}{n4:Int}{t15:LB}{t16:Int}{t26:Bool}{m0:Zh}{P0:Int->Zh->Prop}{o_m0_4:Zn}{v0:Nat}{e9 tag10:Int}{t44:List (UInt8)}{t45:Int}{t56:Bool}{m49157:Zb}{P1:Int->Zh->Zb->Prop}{v49157:Nat}
variable (kP0 :∀(t16:Int)(m0:Zh),P0 t16 m0->Ydp PG d Q s0 t15 t16 m0) (kP1 :∀(t45:Int)(m0:Zh)(m49157:Zb),P1 t45 m0 m49157->Ynl PG d Q e9 t44 t45 m0 m49157)(H0:σ 0=.s s0)(H2:σ 2=.p (d,0) v0 0)(H4:σ 4=.i .i64 n4)(H8:σ 8=.p (d,49157) v49157 0)(H15:σ 15=.ag (List.map AV.s t15))(H9:σ 9=.i .i64 e9)(Ht:σ 16=.i .i64 t16)(H10:σ 10=.i .i64 tag10)(Tm:σ 26=.b t26)(Gf:σ 44=.ag (List.map c8 t44))(Dj:σ 45=.i .i64 t45)(H56:σ 56=.b t56)(B0:lk st.bx (d,0)=some (v0,[.i .u64 m0.tag,.i .u8 m0.value.kind,.i .i64 m0.value.int,.s m0.value.text,.sl o_m0_4 (List.map Zb.row m0.value.list),.b m0.value.cut,.i .u64 m0.flags]))(B49157:lk st.bx (d,49157)=some (v49157,Zb.cs m49157))
include kP0 H0 H2 H4 H15 Ht Tm B0 in
theorem Ykq (h:Zac PG K P0 s0 n4 t15 t16 t26 m0):W PG d Zyi σ st (Zw 1 (Zl PG d (.reg 8 Yc6) (Zl PG d (.loop Iv) (Zw 0 (Zl PG d Zax Q))))):=
 Xs Tm (fun c=>q_ J (m_ (Wb (Yn J J (Yn H4 J Xr)) (Wb (Yn J J (Yn J J Xr)) (Ye H2 B0 J J J (m_ (Zo (hQ _ _ _ _ _ _ _ H2 Zj J (h.1 c))))))))) (fun c=>Yc (W.reg0 J fun _ _=>b_ Ht J Vd (m_ (e_ (kP0 _ _ (h.2 c) _ _ _ _ H0 H2 H15 J B0)))))
include kP1 H2 H8 H9 H10 Gf Dj H56 B0 B49157 in
theorem Zvt (h:Zb9 PG K P1 e9 tag10 t44 t45 t56 m0 m49157):W PG d Zyt σ st (Zw 3 (Zl PG d (.reg 18 Yje) (Zl PG d (.loop Zae) (Zw 2 (Zl PG d Zbc Q))))):=
 Xs H56 (fun c=>q_ J (m_ (Zb8 H10 (l_ H8 B49157 J J (Wb (Yn J J (Yn J J Xr)) (Ye H2 B0 J J J (m_ (Zo (hQ _ _ _ _ _ _ _ H2 Zj J (h.1 c)))))))))) (fun c=>Yc (W.reg0 J fun _ _=>b_ Dj J Vd (m_ (e_ (kP1 _ _ _ (h.2 c) _ _ _ _ _ H2 H8 H9 Gf J B0 B49157)))))
include H2 B0 in
theorem Wib (h:Zep PG K m0):W PG d Zbc σ st Q:=
 au trivial
include kP1 H2 H8 H9 Gf Dj B0 B49157 in
theorem Xbn (h:Fc PG K P1 e9 t44 t45 m0 m49157):W PG d Zae σ st (Zl PG d (.loop Zae) (Zw 2 (Zl PG d Zbc Q))):=
 q_ J (b_ Dj J Wn (e_ (Zk (Yj J (fun c=>Yc (Zk (Yh (q_ J (m_ ((h.1 c).2.2.elim fun _ e=>Tl (f:=c8) (h.1 c).1 Gf Dj (h.1 c).2.1 e.1 (m_ (m_ (e_ (q_ J (Xa H9 (b_ J J Xo (Yq J (Ym (g:=51) J (fun i=>Zc J (Xa J (Zc J (f_ H8 (Zc J (l_ J B49157 J J (Zc J (b_ J J Xo (Hr J J (e_ (Zvt hQ kP1 H2 H8 H9 Dj Gf Dj J B0 B49157 (e.2.1 i)))))))))))) (fun i=>z_ 5 J (e_ (Zvt hQ kP1 H2 H8 H9 Dj Gf Dj J B0 B49157 (e.2.2 i)))))))))))))))))) (fun c=>Vm (Wib hQ H2 B0 (h.2 c)))))))
include H0 H2 B0 in
theorem Xch (h:Zkk PG K s0 m0):W PG d Zax σ st Q:=
 q_ J (m_ (x2 h fun _ _ c=>Yi (Je H0 J J) c.1 (m_ (x_ J J (x_ J J (m_ (m_ (e_ (Zk (q_ J (m_ (Xx J (e_ (Xs J (fun e=>q_ J (Wb Xr (Ye H2 B0 J J J (m_ (Zo (hQ _ _ _ _ _ _ _ H2 Zj J (c.2.1 e))))))) (fun e=>Yc (Zk (W.reg (m_ (x2 (c.2.2 e) fun _ o j=>Yi (Wr J J) j.1 (m_ (x_ J J (x_ J J (Xy (Ye J (show lk _ (d,49157)=some (_,([.i .u8 0,.i .i64 0,.s [],.sl .full (List.map Zb.row ([]:List Zb)),.b false]:List AV)) from Zj) J J J (m_ (e_ (Zk (q_ J (j.2.elim fun p k=>Yi sn k.1 (m_ (e_ (Yh (k.2 (Ynl PG d Q o p) (fun _ _ _ hb _ _ _ _ _ H2 H8 H9 Gf Dj B0 B49157=>W.loop (Xbn hQ (fun _ _ _ x=>x) H2 H8 H9 Gf Dj B0 B49157 hb)) _ _ _ _ _ H2 J J J J (Zs J (Zs J B0)) Zj)))))))))))))))))))))))))))))))))
include kP0 H0 H2 H15 Ht B0 in
theorem Yzb (h:Zd6 PG K P0 s0 t15 t16 m0):W PG d Iv σ st (Zl PG d (.loop Iv) (Zw 0 (Zl PG d Zax Q))):=
 q_ J (b_ Ht J Wn (e_ (Zk (Yj J (fun c=>Yc (Zk (Yh (q_ J (m_ ((h.1 c).2.2.elim fun _ e=>Tl (f:=AV.s) (h.1 c).1 H15 Ht (h.1 c).2.1 e.1 (m_ (m_ (e_ (q_ J (Xa Ht (b_ J J Vt (Yq J (Ym (g:=22) J (fun i=>Zc J (He J (Zc J (He H0 (Zc J (b_ J J Sp (Hr J J (e_ (Ykq hQ kP0 H0 H2 Ht H15 Ht J B0 (e.2.1 i)))))))))) (fun i=>z_ 4 J (e_ (Ykq hQ kP0 H0 H2 Ht H15 Ht J B0 (e.2.2 i)))))))))))))))))) (fun c=>Vm (Xch hQ H0 H2 B0 (h.2 c)))))))
include H0 H2 B0 in
theorem Wop (h:Zpv PG K s0 m0):W PG d Zxa σ st Q:=
 Zk (q_ J (h.elim fun e c=>Yi sn c.1 (m_ (e_ (Yh (c.2 (Ydp PG d Q s0 e) (fun _ _ hb _ _ _ _ H0 H2 H15 Ht B0=>W.loop (Yzb hQ (fun _ _ x=>x) H0 H2 H15 Ht B0 hb)) _ _ _ _ H0 H2 J J B0))))))
include H0 H2 B0 in
theorem Wez (h:Zpz PG K s0 m0):W PG d Zmc σ st Q:=
 Zk (q_ J (m_ (b_ H0 J Sp (e_ (Yj J (fun c=>q_ J (Wb (Yn J J Xr) (Ye H2 B0 J J J (m_ (Zo (hQ _ _ _ _ _ _ _ H2 Zj J (h.1 c))))))) (fun c=>Yc (Wop hQ H0 H2 B0 (h.2 c))))))))
include H0 in
theorem Xee (h:Zn2 PG K s0):W PG d (sR 0 Ye9 Zmc) σ st Q:=
 au @Wez
end
theorem Xlq {PG:Za}(hf:PG.fn 181=some Et){s0:BS}{K:Zh->Bool->Prop}(h:Zn2 PG K s0) :∃res0:Zh,∃res1:Bool,K res0 res1/\Zf PG 181 [.s s0] (.tup [res0.av,.b res1]):=by
  obtain ⟨v,hv,res0,res1,hk,rfl⟩:=Zf.of (K:=fun v=>∃res0:Zh,∃res1:Bool,K res0 res1/\v=.tup [res0.av,.b res1]) hf rfl (Xee (σ:=Wh [.s s0]) (fun σ st k0 v0 o0_0 res0 res1 H2 HB2 H3 hk=>⟨.tup [res0.avo o0_0,.b res1],by simp only [Et,Xm,Vk,Jz (n:=7) H2 HB2 rfl,H3,Qb,Option.map_some],_,rfl,res0,res1,hk,rfl⟩) rfl h)
  exact ⟨res0,res1,hk,hv⟩
def Zyx:List AI:=[oO 2 (.alloc [z7,z8,z6,zs,zl,zb,z7]),oI 3 0]
def Ycm:List AI:=[oM 9 0,oH 10 9,oV 11 .gtr 10 2000]
def Yba:List AI:=[oO 12 (.build [z7,z8,z6,zs,zl,zb,z7] []),oS 7 2 12,oI 3 4]
def Ymq:List AI:=[oM 14 0,oO 15 (.call false 180 [(.t 14),(.c (.s [32,97,98,111,114,116,101,100]))]),oM 13 15,oE 16 0 13,oE 17 1 13,oM 4 16,oM 5 17]
def Yji:List AI:=[oM 19 4,oO 20 (.call false 180 [(.t 19),(.c (.s [32,114,101,99,111,118,101,114,101,100]))]),oM 18 20,oE 21 0 18,oE 22 1 18,oM 4 21,oM 6 22]
def Zy5:List AI:=[oM 24 4,oQ 25 181 [24],oM 23 25,oE 26 0 23,oE 27 1 23,oO 7 (.alloc [z7,z8,z6,zs,zl,zb,z7]),oS 7 7 26,oM 8 27]
def Yot:List AI:=[oM 28 6]
def Zzl:List AI:=[oF 29 6 7,oL 30 29,oB 31 .or (.t 30) (.c (.i .u64 1)),oF 32 6 7,oS 1 32 31]
def Xcx:List AI:=[oM 33 5]
def Xrq:List AI:=[oF 34 6 7,oL 35 34,oB 36 .or (.t 35) (.c (.i .u64 4)),oF 37 6 7,oS 1 37 36]
def Yul:List AI:=[oM 38 8,oZ 39 38,oM 40 39,gF 40 (oK 41 7 7),gF 40 (oQ 42 158 [41]),gF 40 (oV 43 .neq 42 0),oR 44 40 43]
def Xgx:List AI:=[oO 45 (.build [z7,z8,z6,zs,zl,zb,z7] []),oS 7 2 45,oI 3 12]
def Xs8:List AI:=[oK 46 7 7,oS 7 2 46,oI 3 0]
abbrev Yqd:AC:=(.seq (sR 10 Yul (.cond (.t 44) (sR 11 Xgx .ret) .skip)) (sR 12 Xs8 .ret))
abbrev Zmd:AC:=(.seq (sR 8 Xcx (.cond (.t 33) (.reg 9 Xrq) .skip)) Yqd)
abbrev Wn0:AC:=(sR 0 Zyx (.seq (sR 1 Ycm (.cond (.t 11) (sR 2 Yba .ret) .skip)) (sR 3 Ymq (sR 4 Yji (sR 5 Zy5 (.seq (sR 6 Yot (.cond (.t 28) (.reg 7 Zzl) .skip)) Zmd))))))
def Em:AF:={ nt:=47,res:=[.cell 2 7 true,.tmp 3],body:=Wn0 }
abbrev Xia (Q:AE->Sl->St->Prop)(K:Zh->Int->Prop):Prop:=∀(σ:Sl)(st:St)(k0:Zq)(v0:Nat)(o0_0:Zn)(res0:Zh)(res1:Int),σ 2=.p k0 v0 0->lk st.bx k0=some (v0,[.i .u64 res0.tag,.i .u8 res0.value.kind,.i .i64 res0.value.int,.s res0.value.text,.sl o0_0 (List.map Zb.row res0.value.list),.b res0.value.cut,.i .u64 res0.flags])->σ 3=.i .i64 res1->K res0 res1->Q .ret σ st
def Pg (PG:Za)(K:Zh->Int->Prop)(ok8:Bool)(m0:Zh)(m20485:Zh):Prop:=
  ((!ok8)=true->K (Zh.mk 0 (Zb.mk 0 0 [] ([]:List Zb) false) 0) 12)/\((!ok8)=false->∃c,Zf PG 158 [m20485.av] (.i .i64 c)/\(c≠0->K (Zh.mk 0 (Zb.mk 0 0 [] ([]:List Zb) false) 0) 12)/\(¬(c≠0)->K m20485 0))
def Eh (PG:Za)(K:Zh->Int->Prop)(aborted5:Bool)(ok8:Bool)(m0:Zh)(m20485:Zh):Prop:=
  (aborted5=true->Pg PG K ok8 m0 (Zh.mk m20485.tag m20485.value (bOr .u64 m20485.flags 4)))/\(aborted5=false->Pg PG K ok8 m0 m20485)
def Zov (PG:Za)(K:Zh->Int->Prop)(s0:BS):Prop:=
  ((s0.length:Int)>2000->K (Zh.mk 0 (Zb.mk 0 0 [] ([]:List Zb) false) 0) 4)/\(¬((s0.length:Int)>2000)->∃o e,Zf PG 180 [.s s0,.s ([32,97,98,111,114,116,101,100]:BS)] (.tup [.s o,.b e])/\∃k i,Zf PG 180 [.s o,.s ([32,114,101,99,111,118,101,114,101,100]:BS)] (.tup [.s k,.b i])/\∃c:Zh,∃j,Zf PG 181 [.s k] (.tup [c.av,.b j])/\(i=true->Eh PG K e j (Zh.mk 0 (Zb.mk 0 0 [] ([]:List Zb) false) 0) (Zh.mk c.tag c.value (bOr .u64 c.flags 1)))/\(i=false->Eh PG K e j (Zh.mk 0 (Zb.mk 0 0 [] ([]:List Zb) false) 0) c))
section
variable {PG:Za}{d:Nat}{Q:AE->Sl->St->Prop}{K:Zh->Int->Prop}(hQ:Xia Q K){σ:Sl}{st:St}
include hQ
variable {ok8:Bool}{m0 m20485:Zh}{o_m0_4:Zn}{v0 v20485:Nat}{aborted5:Bool}{s0:BS}
variable (H2:σ 2=.p (d,0) v0 0)(H0:σ 0=.s s0)(H5:σ 5=.b aborted5)(H7:σ 7=.p (d,20485) v20485 0)(H8:σ 8=.b ok8)(B0:lk st.bx (d,0)=some (v0,[.i .u64 m0.tag,.i .u8 m0.value.kind,.i .i64 m0.value.int,.s m0.value.text,.sl o_m0_4 (List.map Zb.row m0.value.list),.b m0.value.cut,.i .u64 m0.flags]))(B20485:lk st.bx (d,20485)=some (v20485,Zh.cs m20485))
include H2 H7 H8 B0 B20485 in
theorem Whv (h:Pg PG K ok8 m0 m20485):W PG d Yqd σ st Q:=
 au trivial
include H2 H5 H7 H8 B0 B20485 in
theorem Yux (h:Eh PG K aborted5 ok8 m0 m20485):W PG d Zmd σ st Q:=
 au @Whv
include H0 in
theorem Ywt (h:Zov PG K s0):W PG d (sR 0 Zyx (.seq (sR 1 Ycm (.cond (.t 11) (sR 2 Yba .ret) .skip)) (sR 3 Ymq (sR 4 Yji (sR 5 Zy5 (.seq (sR 6 Yot (.cond (.t 28) (.reg 7 Zzl) .skip)) Zmd)))))) σ st Q:=
 au @Yux
end
theorem Yub {PG:Za}(hf:PG.fn 156=some Em){s0:BS}{K:Zh->Int->Prop}(h:Zov PG K s0) :∃res0:Zh,∃res1:Int,K res0 res1/\Zf PG 156 [.s s0] (.tup [res0.av,.i .i64 res1]):=by
  obtain ⟨v,hv,res0,res1,hk,rfl⟩:=Zf.of (K:=fun v=>∃res0:Zh,∃res1:Int,K res0 res1/\v=.tup [res0.av,.i .i64 res1]) hf rfl (Ywt (σ:=Wh [.s s0]) (fun σ st k0 v0 o0_0 res0 res1 H2 HB2 H3 hk=>⟨.tup [res0.avo o0_0,.i .i64 res1],by simp only [Em,Xm,Vk,Jz (n:=7) H2 HB2 rfl,H3,Qb,Option.map_some],_,rfl,res0,res1,hk,rfl⟩) rfl h)
  exact ⟨res0,res1,hk,hv⟩
abbrev Xb7 (Q:AE->Sl->St->Prop)(K:Zh->Int->Prop):Prop:=∀(σ:Sl)(st:St)(k0:Zq)(v0:Nat)(o0_0:Zn)(res0:Zh)(res1:Int),σ 2=.p k0 v0 0->lk st.bx k0=some (v0,[.i .u64 res0.tag,.i .u8 res0.value.kind,.i .i64 res0.value.int,.s res0.value.text,.sl o0_0 (List.map Zb.row res0.value.list),.b res0.value.cut,.i .u64 res0.flags])->σ 3=.i .i64 res1->K res0 res1->Q .ret σ st
section
variable {PG:Za}{d:Nat}{Q:AE->Sl->St->Prop}{K:Zh->Int->Prop}(hQ:Xb7 Q K){σ:Sl}{st:St}
include hQ
end
def Ybc:List AI:=[oY 2 7 0,oY 3 7 1,oC 4 (.b false)]
def Zw1:List AI:=[oF 5 0 2,oL 6 5,oF 7 0 3,oL 8 7,oT 9 .eql 6 8,oM 10 9,gT 10 (oF 11 6 2),gT 10 (oL 12 11),gT 10 (oF 13 6 3),gT 10 (oL 14 13),gT 10 (oT 15 .eql 12 14),oA 16 10 15,oM 17 16,gT 17 (oF 18 1 2),gT 17 (oK 19 5 18),gT 17 (oF 20 1 3),gT 17 (oK 21 5 20),gT 17 (oQ 22 78 [19,21]),oA 23 17 22,oM 4 23]
abbrev Yva:AC:=(sR 0 Ybc (sR 1 Zw1 .ret))
def Zej:AF:={ nt:=24,res:=[.tmp 4],body:=Yva }
def Zqs (PG:Za)(K:Bool->Prop)(a0:Zh)(b1:Zh):Prop:=
  (a0.tag=b1.tag->(a0.flags=b1.flags->∃c,Zf PG 78 [a0.value.av,b1.value.av] (.b c)/\K c)/\(¬(a0.flags=b1.flags)->K false))/\(¬(a0.tag=b1.tag)->K false)
section
variable {PG:Za}{d:Nat}{Q:AE->Sl->St->Prop}{K:Bool->Prop}(hQ:H1 AV.b 4 Q K){σ:Sl}{st:St}
include hQ
variable {a0 b1:Zh}
variable (H0:σ 0=a0.av)(H1:σ 1=b1.av)
include H0 H1 in
theorem Ytq (h:Zqs PG K a0 b1):W PG d (sR 0 Ybc (sR 1 Zw1 .ret)) σ st Q:=
 au trivial
end
theorem Yuc {PG:Za}(hf:PG.fn 160=some Zej){a0:Zh}{b1:Zh}{K:Bool->Prop}(h:Zqs PG K a0 b1) :∃res0:Bool,K res0/\Zf PG 160 [a0.av,b1.av] (.b res0):=
 P1 hf J (Ytq (h1 J fun _=>J) J J h)
abbrev Wh4 (Q:AE->Sl->St->Prop)(K:Bool->Prop):Prop:=∀(σ:Sl)(st:St)(res0:Bool),σ 4=.b res0->K res0->Q .ret σ st
section
variable {PG:Za}{d:Nat}{Q:AE->Sl->St->Prop}{K:Bool->Prop}(hQ:Wh4 Q K){σ:Sl}{st:St}
include hQ
end
end Go.AM

/- Yg of the proof. -/
namespace Go.AM
open Go
set_option linter.unusedVariables false
set_option linter.unusedSimpArgs false
set_option maxRecDepth 4000
set_option maxHeartbeats 2000000
attribute [local irreducible] Decidable.decide W WO Ww Wx
abbrev Wnq (Q:AE->Sl->St->Prop)(K:Int->Prop):Prop:=∀(σ:Sl)(st:St)(res0:Int),σ 2=.i .i64 res0->K res0->Q .ret σ st
section
variable {PG:Za}{d:Nat}{Q:AE->Sl->St->Prop}{K:Int->Prop}(hQ:Wnq Q K){σ:Sl}{st:St}
include hQ
end
def Zvw:List AI:=[oI 2 0]
def Yaq:List AI:=[oM 5 0,oJ 6 5,oV 7 .gtr 6 410]
def Zzr:List AI:=[oI 2 4]
def Ykx:List AI:=[oI 3 0]
def Ywz:List AI:=[oM 8 3,oM 9 0,oJ 10 9,oT 11 .lss 8 10]
def Wcs:List AI:=[oM 14 0,oM 15 3,oX 16 7 14 15,oK 17 7 16,oQ 18 159 [17],oM 4 18]
def Xfl:List AI:=[oM 19 4,oV 20 .neq 19 0]
def Weu:List AI:=[oM 21 4,oM 2 21]
def Wqr:List AI:=[oM 12 3,oV 13 .add 12 1,oM 3 13]
def Xbr:List AI:=[oI 2 0]
abbrev Oa:AC:=(.seq (sR 4 Ywz (.cond (.t 11) .skip (.exit 0))) (.seq (.block 1 (sR 6 Wcs (sR 7 Xfl (.cond (.t 20) (sR 8 Weu .ret) .skip)))) (.reg 5 Wqr)))
abbrev Ay:AC:=(sR 9 Xbr .ret)
abbrev Xw3:AC:=(sR 0 Zvw (.seq (sR 1 Yaq (.cond (.t 7) (sR 2 Zzr .ret) .skip)) (.seq (sR 3 Ykx (.block 0 (.loop Oa))) Ay)))
def Zhd:AF:={ nt:=22,res:=[.tmp 2],body:=Xw3 }
abbrev Yfx (PG:Za)(d:Nat)(Q:AE->Sl->St->Prop)(l0:List Zh)(i3:Int):Prop:=
  ∀(σ:Sl)(st:St)(o_l0:Zn),σ 0=.sl o_l0 (List.map Zh.row l0)->σ 3=.i .i64 i3->W PG d (.loop Oa) σ st (Zw 0 (Zl PG d Ay Q))
def Zp6 (PG:Za)(K:Int->Prop) :Prop:=
  K 0
def Zia (PG:Za)(K:Int->Prop)(P0:Int->Prop)(l0:List Zh)(i3:Int):Prop:=
  (i3<(l0.length:Int)->0<=i3/\∃e:Zh,l0[(i3).toNat]?=some e/\∃c,Zf PG 159 [e.av] (.i .i64 c)/\(c≠0->K c)/\(¬(c≠0)->P0 (IntKind.i64.wrap (i3+1))))/\(¬(i3<(l0.length:Int))->Zp6 PG K )
def Zo0 (PG:Za)(K:Int->Prop)(l0:List Zh):Prop:=
  ((l0.length:Int)>410->K 4)/\(¬((l0.length:Int)>410)->∀P0:Int->Prop,(∀(i3:Int),Zia PG K P0 l0 i3->P0 i3)->P0 0)
section
variable {PG:Za}{d:Nat}{Q:AE->Sl->St->Prop}{K:Int->Prop}(hQ:H1 (AV.i .i64) 2 Q K){σ:Sl}{st:St}
include hQ
variable {l0:List Zh}{i3:Int}{P0:Int->Prop}{o_l0:Zn}
variable (kP0 :∀(i3:Int),P0 i3->Yfx PG d Q l0 i3)(H0:σ 0=.sl o_l0 (List.map Zh.row l0))(H3:σ 3=.i .i64 i3)
theorem Woo (h:Zp6 PG K ):W PG d Ay σ st Q:=
 au trivial
include kP0 H0 H3 in
theorem Xmy (h:Zia PG K P0 l0 i3):W PG d Oa σ st (Zl PG d (.loop Oa) (Zw 0 (Zl PG d Ay Q))):=
 au @Woo
include H0 in
theorem Ywq (h:Zo0 PG K l0):W PG d (sR 0 Zvw (.seq (sR 1 Yaq (.cond (.t 7) (sR 2 Zzr .ret) .skip)) (.seq (sR 3 Ykx (.block 0 (.loop Oa))) Ay))) σ st Q:=
 q_ J (m_ (e_ (Zk (q_ J (Yf H0 (Yo J (b_ J J Vt (e_ (Yj J (fun c=>q_ J (m_ (Zo (hQ J (h.1 c))))) (fun c=>Yc (Zk (q_ J (m_ (e_ (Yh ((h.2 c) (Yfx PG d Q l0) (fun _ hb _ _ _ H0 H3=>W.loop (Xmy hQ (fun _ x=>x) H0 H3 hb)) _ _ _ H0 J))))))))))))))))
end
theorem Xm8 {PG:Za}(hf:PG.fn 163=some Zhd){l0:List Zh}{K:Int->Prop}(h:Zo0 PG K l0) :∃res0:Int,K res0/\Zf PG 163 [.sl .ext (List.map Zh.row l0)] (.i .i64 res0):=
 P1 hf J (Ywq (h1 J fun _=>J) J h)
abbrev Wpg (Q:AE->Sl->St->Prop)(K:Int->Int->Prop):Prop:=∀(σ:Sl)(st:St)(res0:Int)(res1:Int),σ 2=.i .i64 res0->σ 3=.i .i64 res1->K res0 res1->Q .ret σ st
section
variable {PG:Za}{d:Nat}{Q:AE->Sl->St->Prop}{K:Int->Int->Prop}(hQ:Wpg Q K){σ:Sl}{st:St}
include hQ
end
def Wo3:List AI:=[oI 2 0,oI 3 0]
def Yxk:List AI:=[oM 6 0,oQ 7 163 [6],oM 4 7]
def Wp8:List AI:=[oM 8 4,oV 9 .neq 8 0]
def Wsf:List AI:=[oM 10 4,oI 2 0,oM 3 10]
def Wr6:List AI:=[oI 5 0]
def Wia:List AI:=[oM 11 5,oM 12 0,oJ 13 12,oT 14 .lss 11 13]
def Wk5:List AI:=[oM 17 0,oM 18 5,oX 19 7 17 18,oF 20 6 19,oL 21 20,oB 22 .eql (.t 21) (.c (.i .u64 0))]
def Xug:List AI:=[oM 23 5,oM 2 23,oI 3 0]
def Xtc:List AI:=[oM 15 5,oV 16 .add 15 1,oM 5 16]
def Xpw:List AI:=[oI 2 0,oI 3 6]
abbrev Xjb:AC:=(.seq (sR 5 Wia (.cond (.t 14) .skip (.exit 0))) (.seq (.block 1 (sR 7 Wk5 (.cond (.t 22) (sR 8 Xug .ret) .skip))) (.reg 6 Xtc)))
abbrev Xsq:AC:=(sR 9 Xpw .ret)
abbrev Xbk:AC:=(sR 0 Wo3 (.seq (sR 1 Yxk (sR 2 Wp8 (.cond (.t 9) (sR 3 Wsf .ret) .skip))) (.seq (sR 4 Wr6 (.block 0 (.loop Xjb))) Xsq)))
def Yqp:AF:={ nt:=24,res:=[.tmp 2,.tmp 3],body:=Xbk }
abbrev Wah (Q:AE->Sl->St->Prop)(K:Int->Int->Prop):Prop:=∀(σ:Sl)(st:St)(res0:Int)(res1:Int),σ 2=.i .i64 res0->σ 3=.i .i64 res1->K res0 res1->Q .ret σ st
section
variable {PG:Za}{d:Nat}{Q:AE->Sl->St->Prop}{K:Int->Int->Prop}(hQ:Wah Q K){σ:Sl}{st:St}
include hQ
end
def Yjt:List AI:=[oC 4 (.b false)]
def Yhy:List AI:=[oM 6 0,oJ 7 6,oM 8 1,oJ 9 8,oT 10 .neq 7 9]
def Zya:List AI:=[oC 4 (.b false)]
def Yma:List AI:=[oI 5 0]
def Yvb:List AI:=[oM 11 5,oM 12 0,oJ 13 12,oT 14 .lss 11 13]
def Yx8:List AI:=[oM 17 0,oM 18 5,oX 19 7 17 18,oK 20 7 19,oM 21 1,oM 22 5,oX 23 7 21 22,oK 24 7 23,oQ 25 160 [20,24],oZ 26 25]
def Ytv:List AI:=[oC 4 (.b false)]
def Wm6:List AI:=[oM 15 5,oV 16 .add 15 1,oM 5 16]
def Xfj:List AI:=[oC 4 (.b true)]
abbrev Is:AC:=(.seq (sR 4 Yvb (.cond (.t 14) .skip (.exit 0))) (.seq (.block 1 (sR 6 Yx8 (.cond (.t 26) (sR 7 Ytv .ret) .skip))) (.reg 5 Wm6)))
abbrev Es:AC:=(sR 8 Xfj .ret)
abbrev Wcr:AC:=(sR 0 Yjt (.seq (sR 1 Yhy (.cond (.t 10) (sR 2 Zya .ret) .skip)) (.seq (sR 3 Yma (.block 0 (.loop Is))) Es)))
def Zi2:AF:={ nt:=27,res:=[.tmp 4],body:=Wcr }
abbrev Yja (PG:Za)(d:Nat)(Q:AE->Sl->St->Prop)(a0:List Zh)(b1:List Zh)(i5:Int):Prop:=
  ∀(σ:Sl)(st:St) (o_a0 o_b1:Zn),σ 0=.sl o_a0 (List.map Zh.row a0)->σ 1=.sl o_b1 (List.map Zh.row b1)->σ 5=.i .i64 i5->W PG d (.loop Is) σ st (Zw 0 (Zl PG d Es Q))
def Zm9 (PG:Za)(K:Bool->Prop) :Prop:=
  K true
def Zei (PG:Za)(K:Bool->Prop)(P0:Int->Prop)(a0:List Zh)(b1:List Zh)(i5:Int):Prop:=
  (i5<(a0.length:Int)->0<=i5/\∃e:Zh,a0[(i5).toNat]?=some e/\0<=i5/\∃i:Zh,b1[(i5).toNat]?=some i/\∃c,Zf PG 160 [e.av,i.av] (.b c)/\((!c)=true->K false)/\((!c)=false->P0 (IntKind.i64.wrap (i5+1))))/\(¬(i5<(a0.length:Int))->Zm9 PG K )
def Zsa (PG:Za)(K:Bool->Prop)(a0:List Zh)(b1:List Zh):Prop:=
  ((a0.length:Int)≠(b1.length:Int)->K false)/\(¬((a0.length:Int)≠(b1.length:Int))->∀P0:Int->Prop,(∀(i5:Int),Zei PG K P0 a0 b1 i5->P0 i5)->P0 0)
section
variable {PG:Za}{d:Nat}{Q:AE->Sl->St->Prop}{K:Bool->Prop}(hQ:H1 AV.b 4 Q K){σ:Sl}{st:St}
include hQ
variable {a0 b1:List Zh}{i5:Int}{P0:Int->Prop}{o_a0 o_b1:Zn}
variable (kP0 :∀(i5:Int),P0 i5->Yja PG d Q a0 b1 i5)(H0:σ 0=.sl o_a0 (List.map Zh.row a0))(H1:σ 1=.sl o_b1 (List.map Zh.row b1))(H5:σ 5=.i .i64 i5)
theorem Xv7 (h:Zm9 PG K ):W PG d Es σ st Q:=
 au trivial
include kP0 H0 H1 H5 in
theorem Yyp (h:Zei PG K P0 a0 b1 i5):W PG d Is σ st (Zl PG d (.loop Is) (Zw 0 (Zl PG d Es Q))):=
 au @Xv7
include H0 H1 in
theorem Xuy (h:Zsa PG K a0 b1):W PG d (sR 0 Yjt (.seq (sR 1 Yhy (.cond (.t 10) (sR 2 Zya .ret) .skip)) (.seq (sR 3 Yma (.block 0 (.loop Is))) Es))) σ st Q:=
 q_ J (m_ (e_ (Zk (q_ J (Yf H0 (Yo J (Yf H1 (Yo J (b_ J J Ws (e_ (Yj J (fun c=>q_ J (m_ (Zo (hQ J (h.1 c))))) (fun c=>Yc (Zk (q_ J (m_ (e_ (Yh ((h.2 c) (Yja PG d Q a0 b1) (fun _ hb _ _ _ _ H0 H1 H5=>W.loop (Yyp hQ (fun _ x=>x) H0 H1 H5 hb)) _ _ _ _ H0 H1 J))))))))))))))))))
end
theorem Xfm {PG:Za}(hf:PG.fn 170=some Zi2){a0:List Zh}{b1:List Zh}{K:Bool->Prop}(h:Zsa PG K a0 b1) :∃res0:Bool,K res0/\Zf PG 170 [.sl .ext (List.map Zh.row a0),.sl .ext (List.map Zh.row b1)] (.b res0):=
 P1 hf J (Xuy (h1 J fun _=>J) J J h)
def Ypv:List AI:=[oC 2 (.b false)]
def Yn7:List AI:=[oM 4 0,oJ 5 4,oV 6 .gtr 5 20,oM 7 6,gT 7 (oM 8 0),gT 7 (oJ 9 8),gT 7 (oV 10 .leq 9 410),oA 11 7 10,oM 12 11,gF 12 (oM 13 0),gF 12 (oJ 14 13),gF 12 (oV 15 .gtr 14 420),oR 16 12 15]
def Yim:List AI:=[oC 2 (.b true)]
def Yz0:List AI:=[oI 3 0]
def Ysu:List AI:=[oM 17 3,oM 18 0,oJ 19 18,oT 20 .lss 17 19]
def Wbn:List AI:=[oM 23 0,oM 24 3,oX 25 7 23 24,oF 26 1 25,oK 27 5 26,oQ 28 71 [27]]
def Xao:List AI:=[oC 2 (.b true)]
def Xsr:List AI:=[oM 21 3,oV 22 .add 21 1,oM 3 22]
def Wfa:List AI:=[oC 2 (.b false)]
abbrev Zff:AC:=(.seq (sR 4 Ysu (.cond (.t 20) .skip (.exit 0))) (.seq (.block 1 (sR 6 Wbn (.cond (.t 28) (sR 7 Xao .ret) .skip))) (.reg 5 Xsr)))
abbrev Zhr:AC:=(sR 8 Wfa .ret)
abbrev Zp1:AC:=(.seq (sR 3 Yz0 (.block 0 (.loop Zff))) Zhr)
abbrev Ys9:AC:=(sR 0 Ypv (.seq (sR 1 Yn7 (.cond (.t 16) (sR 2 Yim .ret) .skip)) Zp1))
def Zf5:AF:={ nt:=29,res:=[.tmp 2],body:=Ys9 }
abbrev Yq1 (PG:Za)(d:Nat)(Q:AE->Sl->St->Prop)(l0:List Zh)(i3:Int):Prop:=
  ∀(σ:Sl)(st:St)(o_l0:Zn),σ 0=.sl o_l0 (List.map Zh.row l0)->σ 3=.i .i64 i3->W PG d (.loop Zff) σ st (Zw 0 (Zl PG d Zhr Q))
def Zj6 (PG:Za)(K:Bool->Prop) :Prop:=
  K false
def Zh7 (PG:Za)(K:Bool->Prop)(P0:Int->Prop)(l0:List Zh)(i3:Int):Prop:=
  (i3<(l0.length:Int)->0<=i3/\∃e:Zh,l0[(i3).toNat]?=some e/\∃c,Zf PG 71 [e.value.av] (.b c)/\(c=true->K true)/\(c=false->P0 (IntKind.i64.wrap (i3+1))))/\(¬(i3<(l0.length:Int))->Zj6 PG K )
def Oy (PG:Za)(K:Bool->Prop)(l0:List Zh):Prop:=
  ∀P0:Int->Prop,(∀(i3:Int),Zh7 PG K P0 l0 i3->P0 i3)->P0 0
def Zq5 (PG:Za)(K:Bool->Prop)(l0:List Zh):Prop:=
  ((l0.length:Int)>20->((l0.length:Int)<=410->K true)/\(¬((l0.length:Int)<=410)->((l0.length:Int)>420->K true)/\(¬((l0.length:Int)>420)->Oy PG K l0)))/\(¬((l0.length:Int)>20)->((l0.length:Int)>420->K true)/\(¬((l0.length:Int)>420)->Oy PG K l0))
section
variable {PG:Za}{d:Nat}{Q:AE->Sl->St->Prop}{K:Bool->Prop}(hQ:H1 AV.b 2 Q K){σ:Sl}{st:St}
include hQ
variable {l0:List Zh}{i3:Int}{P0:Int->Prop}{o_l0:Zn}
variable (kP0 :∀(i3:Int),P0 i3->Yq1 PG d Q l0 i3)(H0:σ 0=.sl o_l0 (List.map Zh.row l0))(H3:σ 3=.i .i64 i3)
theorem Xy2 (h:Zj6 PG K ):W PG d Zhr σ st Q:=
 au trivial
include kP0 H0 H3 in
theorem Xef (h:Zh7 PG K P0 l0 i3):W PG d Zff σ st (Zl PG d (.loop Zff) (Zw 0 (Zl PG d Zhr Q))):=
 au @Xy2
include H0 in
theorem Ysf (h:Oy PG K l0):W PG d Zp1 σ st Q:=
 Zk (q_ J (m_ (e_ (Yh (h (Yq1 PG d Q l0) (fun _ hb _ _ _ H0 H3=>W.loop (Xef hQ (fun _ x=>x) H0 H3 hb)) _ _ _ H0 J)))))
include H0 in
theorem Ytr (h:Zq5 PG K l0):W PG d (sR 0 Ypv (.seq (sR 1 Yn7 (.cond (.t 16) (sR 2 Yim .ret) .skip)) Zp1)) σ st Q:=
 au @Ysf
end
theorem Wbb {PG:Za}(hf:PG.fn 162=some Zf5){l0:List Zh}{K:Bool->Prop}(h:Zq5 PG K l0) :∃res0:Bool,K res0/\Zf PG 162 [.sl .ext (List.map Zh.row l0)] (.b res0):=
 P1 hf J (Ytr (h1 J fun _=>J) J h)
abbrev Wes (Q:AE->Sl->St->Prop)(K:BS->Int->Prop):Prop:=∀(σ:Sl)(st:St)(res0:BS)(res1:Int),σ 2=.s res0->σ 3=.i .i64 res1->K res0 res1->Q .ret σ st
section
variable {PG:Za}{d:Nat}{Q:AE->Sl->St->Prop}{K:BS->Int->Prop}(hQ:Wes Q K){σ:Sl}{st:St}
include hQ
end
abbrev Wfh (Q:AE->Sl->St->Prop)(K:BS->Int->Prop):Prop:=∀(σ:Sl)(st:St)(res0:BS)(res1:Int),σ 2=.s res0->σ 3=.i .i64 res1->K res0 res1->Q .ret σ st
section
variable {PG:Za}{d:Nat}{Q:AE->Sl->St->Prop}{K:BS->Int->Prop}(hQ:Wfh Q K){σ:Sl}{st:St}
include hQ
end
abbrev Wnr (Q:AE->Sl->St->Prop)(K:Bool->Prop):Prop:=∀(σ:Sl)(st:St)(res0:Bool),σ 4=.b res0->K res0->Q .ret σ st
section
variable {PG:Za}{d:Nat}{Q:AE->Sl->St->Prop}{K:Bool->Prop}(hQ:Wnr Q K){σ:Sl}{st:St}
include hQ
end
abbrev Xnw (Q:AE->Sl->St->Prop)(K:Zb->Prop):Prop:=∀(σ:Sl)(st:St)(k0:Zq)(v0:Nat)(o0_0:Zn)(res0:Zb),σ 2=.p k0 v0 0->lk st.bx k0=some (v0,[.i .u8 res0.kind,.i .i64 res0.int,.s res0.text,.sl o0_0 (List.map Zb.row res0.list),.b res0.cut])->K res0->Q .ret σ st
section
variable {PG:Za}{d:Nat}{Q:AE->Sl->St->Prop}{K:Zb->Prop}(hQ:Xnw Q K){σ:Sl}{st:St}
include hQ
end
abbrev Wga (Q:AE->Sl->St->Prop)(K:Zb->Prop):Prop:=∀(σ:Sl)(st:St)(k0:Zq)(v0:Nat)(o0_0:Zn)(res0:Zb),σ 0=.p k0 v0 0->lk st.bx k0=some (v0,[.i .u8 res0.kind,.i .i64 res0.int,.s res0.text,.sl o0_0 (List.map Zb.row res0.list),.b res0.cut])->K res0->Q .ret σ st
section
variable {PG:Za}{d:Nat}{Q:AE->Sl->St->Prop}{K:Zb->Prop}(hQ:Wga Q K){σ:Sl}{st:St}
include hQ
end
abbrev Wdz (Q:AE->Sl->St->Prop)(K:Zb->Prop):Prop:=∀(σ:Sl)(st:St)(k0:Zq)(v0:Nat)(o0_0:Zn)(res0:Zb),σ 2=.p k0 v0 0->lk st.bx k0=some (v0,[.i .u8 res0.kind,.i .i64 res0.int,.s res0.text,.sl o0_0 (List.map Zb.row res0.list),.b res0.cut])->K res0->Q .ret σ st
section
variable {PG:Za}{d:Nat}{Q:AE->Sl->St->Prop}{K:Zb->Prop}(hQ:Wdz Q K){σ:Sl}{st:St}
include hQ
end
abbrev Xmj (Q:AE->Sl->St->Prop)(K:Bool->Prop):Prop:=∀(σ:Sl)(st:St)(res0:Bool),σ 2=.b res0->K res0->Q .ret σ st
section
variable {PG:Za}{d:Nat}{Q:AE->Sl->St->Prop}{K:Bool->Prop}(hQ:Xmj Q K){σ:Sl}{st:St}
include hQ
end
abbrev Xnu (d:Nat)(Zm:St)(Q:AE->Sl->St->Prop)(K:List Zh->Prop):Prop:=∀(σ:Sl)(st:St)(res0:List Zh),σ 0=.sl .full (List.map Zh.row res0)->Fr d (d,0) Zm.bx Zm.ow st.bx st.ow->K res0->Q .ret σ st
section
variable {PG:Za}{d:Nat}{Q:AE->Sl->St->Prop}{K:List Zh->Prop}{Zm:St}(hQ:Xnu d Zm Q K){σ:Sl}{st:St}
include hQ
end
abbrev Xir (Q:AE->Sl->St->Prop)(K:Bool->Prop):Prop:=∀(σ:Sl)(st:St)(res0:Bool),σ 0=.b res0->K res0->Q .ret σ st
section
variable {PG:Za}{d:Nat}{Q:AE->Sl->St->Prop}{K:Bool->Prop}(hQ:Xir Q K){σ:Sl}{st:St}
include hQ
end
end Go.AM

/- Yg of the proof. -/
namespace Go.AM
open Go
set_option linter.unusedVariables false
set_option linter.unusedSimpArgs false
set_option maxRecDepth 4000
attribute [local irreducible] WO Ww Wx
abbrev Wl3 (Q:AE->Sl->St->Prop)(K:Bool->Prop):Prop:=∀(σ:Sl)(st:St)(res0:Bool),σ 4=.b res0->K res0->Q .ret σ st
section
variable {PG:Za}{d:Nat}{Q:AE->Sl->St->Prop}{K:Bool->Prop}(hQ:Wl3 Q K){σ:Sl}{st:St}
include hQ
end
abbrev Xg3 (Q:AE->Sl->St->Prop)(K:Bool->Prop):Prop:=∀(σ:Sl)(st:St)(res0:Bool),σ 2=.b res0->K res0->Q .ret σ st
section
variable {PG:Za}{d:Nat}{Q:AE->Sl->St->Prop}{K:Bool->Prop}(hQ:Xg3 Q K){σ:Sl}{st:St}
include hQ
end
end Go.AM

/- Yg of the proof. -/
namespace Go.AM
open Go
set_option linter.unusedVariables false
set_option linter.unusedSimpArgs false
set_option maxRecDepth 4000
attribute [local irreducible] WO Ww Wx
def Yju:List AI:=[oC 2 (.sl .full []),oC 3 (.b false)]
def Zwy:List AI:=[oC 4 (.sl .full [])]
def Yev:List AI:=[oI 5 0]
def Yp9:List AI:=[oI 6 0]
def Xlx:List AI:=[oM 7 6,oM 8 0,oH 9 8,oT 10 .lss 7 9]
def Xjg:List AI:=[oM 13 0,oM 14 6,oO 15 (.ixS (.t 13) (.t 14)),oW 16 .eql 15 10]
def Yy0:List AI:=[oM 17 4,oM 18 0,oM 19 5,oM 20 6,oO 21 (.slS (.t 18) (some (.t 19)) (some (.t 20))),oO 22 (.bslice [zs] 1 [(0,(.t 21))]),oO 23 (.app 1 16 (.t 17) (.t 22)),oM 4 23]
def Xyb:List AI:=[oM 24 6,oV 25 .add 24 1,oM 5 25]
def Xt8:List AI:=[oM 11 6,oV 12 .add 11 1,oM 6 12]
def Xgp:List AI:=[oM 26 4,oM 27 5,oM 28 0,oH 29 28,oT 30 .eql 27 29,oM 2 26,oM 3 30]
abbrev Yex:AC:=(.reg 5 Xt8)
abbrev Lt:AC:=(.seq (sR 4 Xlx (.cond (.t 10) .skip (.exit 0))) (.seq (.block 1 (sR 6 Xjg (.cond (.t 16) (sR 7 Yy0 (.reg 8 Xyb)) .skip))) Yex))
abbrev Fo:AC:=(sR 9 Xgp .ret)
abbrev Wg4:AC:=(sR 0 Yju (sR 1 Zwy (sR 2 Yev (.seq (sR 3 Yp9 (.block 0 (.loop Lt))) Fo))))
def Tw:AF:={ nt:=31,res:=[.tmp 2,.tmp 3],body:=Wg4 }
abbrev Yqq (PG:Za)(d:Nat)(Q:AE->Sl->St->Prop)(s0:BS)(out4:LB)(from5:Int)(i6:Int):Prop:=
  ∀(σ:Sl)(st:St)(o_out4:Zn),σ 0=.s s0->σ 4=.sl o_out4 (List.map Zv out4)->σ 5=.i .i64 from5->σ 6=.i .i64 i6->Xe d st.ow o_out4 out4.length->W PG d (.loop Lt) σ st (Zw 0 (Zl PG d Fo Q))
def Iz (PG:Za)(K:LB->Bool->Prop)(P0:LB->Int->Int->Prop)(s0:BS)(out4:LB)(from5:Int)(i6:Int):Prop:=
  P0 out4 from5 (IntKind.i64.wrap (i6+1))
def Zsk (PG:Za)(K:LB->Bool->Prop)(s0:BS)(out4:LB)(from5:Int):Prop:=
  K out4 (decide (from5=(s0.length:Int)))
def Ze4 (PG:Za)(K:LB->Bool->Prop)(P0:LB->Int->Int->Prop)(s0:BS)(out4:LB)(from5:Int)(i6:Int):Prop:=
  (i6<(s0.length:Int)->0<=i6/\∃c:UInt8,s0[(i6).toNat]?=some c/\((c.toNat:Int)=10->0<=from5/\from5<=i6/\(i6).toNat<=s0.length/\Qn (out4.length+[((s0.drop (from5).toNat).take ((i6).toNat-(from5).toNat))].length) 16/\Iz PG K P0 s0 (out4++[((s0.drop (from5).toNat).take ((i6).toNat-(from5).toNat))]) (IntKind.i64.wrap (i6+1)) i6)/\(¬((c.toNat:Int)=10)->Iz PG K P0 s0 out4 from5 i6))/\(¬(i6<(s0.length:Int))->Zsk PG K s0 out4 from5)
def Ztf (PG:Za)(K:LB->Bool->Prop)(s0:BS):Prop:=
  ∀P0:LB->Int->Int->Prop,(∀(out4:LB)(from5:Int)(i6:Int),Ze4 PG K P0 s0 out4 from5 i6->P0 out4 from5 i6)->P0 ([]:LB) 0 0
section
variable {PG:Za}{d:Nat}{Q:AE->Sl->St->Prop}{K:LB->Bool->Prop}(hQ:HM Zv AV.b 2 3 Q K){σ:Sl}{st:St}
include hQ
variable {s0:BS}{out4:LB}{from5 i6:Int}{P0:LB->Int->Int->Prop}{o_out4:Zn}
variable (kP0 :∀(out4:LB)(from5:Int)(i6:Int),P0 out4 from5 i6->Yqq PG d Q s0 out4 from5 i6)(H0:σ 0=.s s0)(H4:σ 4=.sl o_out4 (List.map Zv out4))(H5:σ 5=.i .i64 from5)(H6:σ 6=.i .i64 i6)(A4:Xe d st.ow o_out4 out4.length)
include kP0 H0 H4 H5 H6 A4 in
theorem Yaw (h:Iz PG K P0 s0 out4 from5 i6):W PG d Yex σ st (Zl PG d (.loop Lt) (Zw 0 (Zl PG d Fo Q))):=
 W.reg0 J fun _ _=>m_ (b_ H6 J Vd (m_ (e_ (kP0 _ _ _ h _ _ _ H0 H4 H5 J A4))))
include H0 H4 H5 A4 in
theorem Wm7 (h:Zsk PG K s0 out4 from5):W PG d Fo σ st Q:=
 q_ J (Yf H4 (m_ (m_ (Dl H0 (b_ H5 J Xo (Yf J (m_ (Zo (hQ J J h)))))))))
include kP0 H0 H4 H5 H6 A4 in
theorem Ysi (h:Ze4 PG K P0 s0 out4 from5 i6):W PG d Lt σ st (Zl PG d (.loop Lt) (Zw 0 (Zl PG d Fo Q))):=
 Zk (q_ J (m_ (m_ (Dl H0 (b_ H6 J Wn (e_ (Yj J (fun i=>Yc (Zk (Yh (q_ J (m_ (m_ ((h.1 i).2.elim fun _ c=>Uw H0 H6 (h.1 i).1 c.1 (b_ J J Xo (e_ (Yj J (fun e=>q_ J (Yf H4 (m_ (m_ (m_ (Yik H0 H5 H6 (c.2.1 e).1 (c.2.1 e).2.1 (c.2.1 e).2.2.1 (Ja (f:=Zv) (l:=[((s0.drop (from5).toNat).take ((i6).toNat-(from5).toNat))]) J J (Xw J J J Vn) J (Qk Nh J J J A4.1 (c.2.1 e).2.2.2.1 J (fun _ _ j _ k=>Yf J (e_ (W.reg0 J fun _ _=>m_ (b_ H6 J Vd (m_ (e_ (Yaw hQ kP0 H0 J J H6 (Xe.mk j (Gi.app A4.2 J k)) (c.2.1 e).2.2.2.2))))))))))))))) (fun e=>Yc (Yaw hQ kP0 H0 H4 H5 H6 A4 (c.2.2 e))))))))))))) (fun i=>Vm (Wm7 hQ H0 H4 H5 A4 (h.2 i))))))))))
include H0 in
theorem Wpp (h:Ztf PG K s0):W PG d (sR 0 Yju (sR 1 Zwy (sR 2 Yev (.seq (sR 3 Yp9 (.block 0 (.loop Lt))) Fo)))) σ st Q:=
 q_ J (Yf (f:=Zv) (l:=[]) J (m_ (e_ (q_ J (Yf (f:=Zv) (l:=[]) J (e_ (q_ J (m_ (e_ (Zk (q_ J (m_ (e_ (Yh (h (Yqq PG d Q s0) (fun _ _ _ hb _ _ _ H0 H4 H5 H6 A4=>W.loop (Ysi hQ (fun _ _ _ x=>x) H0 H4 H5 H6 A4 hb)) _ _ _ H0 J J J Xe.full)))))))))))))))
end
theorem Xf4 {PG:Za}(hf:PG.fn 177=some Tw){s0:BS}{K:LB->Bool->Prop}(h:Ztf PG K s0) :∃res0:LB,∃res1:Bool,K res0 res1/\Zf PG 177 [.s s0] (.tup [.sl .ext (List.map Zv res0),.b res1]):=
 P2 hf J (Wpp (hM J fun _ _ _=>J) J h)
abbrev Wli (Q:AE->Sl->St->Prop)(K:List Zh->Int->Prop):Prop:=∀(σ:Sl)(st:St)(o0:Zn)(res0:List Zh)(res1:Int),σ 2=.sl o0 (List.map Zh.row res0)->σ 3=.i .i64 res1->K res0 res1->Q .ret σ st
section
variable {PG:Za}{d:Nat}{Q:AE->Sl->St->Prop}{K:List Zh->Int->Prop}(hQ:Wli Q K){σ:Sl}{st:St}
include hQ
end
abbrev Woj (Q:AE->Sl->St->Prop)(K:BS->Prop):Prop:=∀(σ:Sl)(st:St)(res0:BS),σ 4=.s res0->K res0->Q .ret σ st
section
variable {PG:Za}{d:Nat}{Q:AE->Sl->St->Prop}{K:BS->Prop}(hQ:Woj Q K){σ:Sl}{st:St}
include hQ
end
abbrev Yw6 (Q:AE->Sl->St->Prop)(K:BS->Prop):Prop:=∀(σ:Sl)(st:St)(res0:BS),σ 4=.s res0->K res0->Q .ret σ st
section
variable {PG:Za}{d:Nat}{Q:AE->Sl->St->Prop}{K:BS->Prop}(hQ:Yw6 Q K){σ:Sl}{st:St}
include hQ
end
abbrev Wiu (Q:AE->Sl->St->Prop)(K:Bool->Prop):Prop:=∀(σ:Sl)(st:St)(res0:Bool),σ 4=.b res0->K res0->Q .ret σ st
section
variable {PG:Za}{d:Nat}{Q:AE->Sl->St->Prop}{K:Bool->Prop}(hQ:Wiu Q K){σ:Sl}{st:St}
include hQ
end
abbrev Xah (Q:AE->Sl->St->Prop)(K:Bool->Prop):Prop:=∀(σ:Sl)(st:St)(res0:Bool),σ 4=.b res0->K res0->Q .ret σ st
section
variable {PG:Za}{d:Nat}{Q:AE->Sl->St->Prop}{K:Bool->Prop}(hQ:Xah Q K){σ:Sl}{st:St}
include hQ
end
end Go.AM

/- Yg of the proof. -/
namespace Go.AM
open Go
set_option linter.unusedVariables false
set_option linter.unusedSimpArgs false
set_option maxRecDepth 4000
set_option maxHeartbeats 2000000
attribute [local irreducible] Decidable.decide W WO Ww Wx
def Yhe:List AI:=[oO 0 (.alloc [zs,zs,zs,zs,zs,zs,zs,zs,zs])]
def Yq6:List AI:=[oO 1 (.build [zs,zs,zs,zs,zs,zs,zs,zs,zs] [(1,1,(.c (.s [110,111,114,109,97,108]))),(2,1,(.c (.s [112,97,110,105,99]))),(3,1,(.c (.s [100,101,97,100,108,111,99,107]))),(4,1,(.c (.s [115,116,97,99,107]))),(5,1,(.c (.s [104,101,97,112]))),(6,1,(.c (.s [114,111,117,116,105,110,101,115]))),(7,1,(.c (.s [115,116,101,112,115]))),(8,1,(.c (.s [115,99,114,105,112,116])))]),oS 9 0 1]
abbrev Wgs:AC:=(sR 0 Yhe (sR 1 Yq6 .ret))
def Zav:AF:={ nt:=2,res:=[.cell 0 9 true],body:=Wgs }
abbrev Xdb (Q:AE->Sl->St->Prop)(K:LB->Prop):Prop:=∀(σ:Sl)(st:St)(k0:Zq)(v0:Nat)(res0:LB),σ 0=.p k0 v0 0->lk st.bx k0=some (v0,List.map AV.s res0)->res0.length=9->K res0->Q .ret σ st
def Zt7 (PG:Za)(K:LB->Prop) :Prop:=
  K [[],([110,111,114,109,97,108]:BS),([112,97,110,105,99]:BS),([100,101,97,100,108,111,99,107]:BS),([115,116,97,99,107]:BS),([104,101,97,112]:BS),([114,111,117,116,105,110,101,115]:BS),([115,116,101,112,115]:BS),([115,99,114,105,112,116]:BS)]
section
variable {PG:Za}{d:Nat}{Q:AE->Sl->St->Prop}{K:LB->Prop}(hQ:Xdb Q K){σ:Sl}{st:St}
include hQ
theorem Wc8 (h:Zt7 PG K ):W PG d (sR 0 Yhe (sR 1 Yq6 .ret)) σ st Q:=
 Zk (W.reg (Xy (e_ (q_ J (Lv (f:=AV.s) (l:=[[],([110,111,114,109,97,108]:BS),([112,97,110,105,99]:BS),([100,101,97,100,108,111,99,107]:BS),([115,116,97,99,107]:BS),([104,101,97,112]:BS),([114,111,117,116,105,110,101,115]:BS),([115,116,101,112,115]:BS),([115,99,114,105,112,116]:BS)]) (Yn J J (Yn J J (Yn J J (Yn J J (Yn J J (Yn J J (Yn J J (Yn J J Xr)))))))) J (Pz (f:=AV.s) (fun _=>J) J (show lk _ (d,0)=some (_,(List.map AV.s (List.replicate 9 ([]:BS)):List AV)) from Zj) (by simp) J J (Zo (hQ _ _ _ _ _ J Zj (by simp) h))))))))
end
theorem Yt0 {PG:Za}(hf:PG.fn 215=some Zav)  {K:LB->Prop}(h:Zt7 PG K ) :∃res0:LB,K res0/\Zf PG 215 [] (.ag (List.map AV.s res0)):=by
  obtain ⟨v,hv,res0,hk,rfl⟩:=Zf.of (K:=fun v=>∃res0:LB,K res0/\v=.ag (List.map AV.s res0)) hf rfl (Wc8 (σ:=Wh []) (fun σ st k0 v0  res0 H0 HB0 HL0 hk=>⟨.ag (List.map AV.s res0),by simp only [Zav,Xm,Vk,Jz (n:=9) H0 HB0 (by simpa using HL0),Qb,Option.map_some],_,Zhg AV.s (fun _=>rfl) _,res0,hk,rfl⟩)  h)
  exact ⟨res0,hk,hv⟩
def Ymp:List AI:=[oC 2 (.s [])]
def Ymo:List AI:=[oM 3 0,oQ 4 15 [3],oM 2 4]
abbrev Wqq:AC:=(sR 0 Ymp (sR 1 Ymo .ret))
def Zea:AF:={ nt:=5,res:=[.tmp 2],body:=Wqq }
def Zvb (PG:Za)(K:BS->Prop)(n0:Int):Prop:=
  ∃c,Zf PG 15 [.i .i64 n0] (.s c)/\K c
section
variable {PG:Za}{d:Nat}{Q:AE->Sl->St->Prop}{K:BS->Prop}(hQ:H1 AV.s 2 Q K){σ:Sl}{st:St}
include hQ
variable {n0:Int}
variable (H0:σ 0=.i .i64 n0)
include H0 in
theorem Xjx (h:Zvb PG K n0):W PG d (sR 0 Ymp (sR 1 Ymo .ret)) σ st Q:=
 au trivial
end
theorem Wja {PG:Za}(hf:PG.fn 216=some Zea){n0:Int}{K:BS->Prop}(h:Zvb PG K n0) :∃res0:BS,K res0/\Zf PG 216 [.i .i64 n0] (.s res0):=
 P1 hf J (Xjx (h1 J fun _=>J) J h)
abbrev Xze (Q:AE->Sl->St->Prop)(K:LB->Prop):Prop:=∀(σ:Sl)(st:St)(o0:Zn)(res0:LB),σ 0=.sl o0 (List.map Zv res0)->K res0->Q .ret σ st
section
variable {PG:Za}{d:Nat}{Q:AE->Sl->St->Prop}{K:LB->Prop}(hQ:Xze Q K){σ:Sl}{st:St}
include hQ
end
abbrev Xrm (Q:AE->Sl->St->Prop)(K:BS->Prop):Prop:=∀(σ:Sl)(st:St)(res0:BS),σ 2=.s res0->K res0->Q .ret σ st
section
variable {PG:Za}{d:Nat}{Q:AE->Sl->St->Prop}{K:BS->Prop}(hQ:Xrm Q K){σ:Sl}{st:St}
include hQ
end
abbrev Wl4 (Q:AE->Sl->St->Prop)(K:BS->Int->Prop):Prop:=∀(σ:Sl)(st:St)(res0:BS)(res1:Int),σ 2=.s res0->σ 3=.i .i64 res1->K res0 res1->Q .ret σ st
section
variable {PG:Za}{d:Nat}{Q:AE->Sl->St->Prop}{K:BS->Int->Prop}(hQ:Wl4 Q K){σ:Sl}{st:St}
include hQ
end
abbrev Xba (Q:AE->Sl->St->Prop)(K:BS->Int->Prop):Prop:=∀(σ:Sl)(st:St)(res0:BS)(res1:Int),σ 2=.s res0->σ 3=.i .i64 res1->K res0 res1->Q .ret σ st
section
variable {PG:Za}{d:Nat}{Q:AE->Sl->St->Prop}{K:BS->Int->Prop}(hQ:Xba Q K){σ:Sl}{st:St}
include hQ
end
def Ygs:List AI:=[oU 2 0,oI 3 0]
def Yit:List AI:=[oQ 6 215 [],oO 4 (.alloc [zs,zs,zs,zs,zs,zs,zs,zs,zs]),oS 9 4 6]
def Yek:List AI:=[oO 7 (.slA 9 1 (.t 4) none none),oM 8 0,oQ 9 141 [7,8],oM 5 9]
def Yi9:List AI:=[oM 10 5,oV 11 .lss 10 1]
def Yfy:List AI:=[oU 2 0,oI 3 12]
def Yod:List AI:=[oM 12 5,oO 13 (.cvi .u8 (.t 12)),oM 2 13,oI 3 0]
abbrev Xx0:AC:=(sR 0 Ygs (sR 1 Yit (sR 2 Yek (.seq (sR 3 Yi9 (.cond (.t 11) (sR 4 Yfy .ret) .skip)) (sR 5 Yod .ret)))))
def Zf0:AF:={ nt:=14,res:=[.tmp 2,.tmp 3],body:=Xx0 }
def Zkc (PG:Za)(K:Int->Int->Prop)(s0:BS):Prop:=
  ∃c:LB,Zf PG 215 [] (.ag (List.map AV.s c))/\c.length=9/\c.length=9/\∃e,Zf PG 141 [.sl .ext (List.map Zv c),.s s0] (.i .i64 e)/\(e<1->K 0 12)/\(¬(e<1)->K (IntKind.u8.wrap e) 0)
section
variable {PG:Za}{d:Nat}{Q:AE->Sl->St->Prop}{K:Int->Int->Prop}(hQ:H2 (AV.i .u8) (AV.i .i64) 2 3 Q K){σ:Sl}{st:St}
include hQ
variable {s0:BS}
variable (H0:σ 0=.s s0)
include H0 in
theorem Yvm (h:Zkc PG K s0):W PG d (sR 0 Ygs (sR 1 Yit (sR 2 Yek (.seq (sR 3 Yi9 (.cond (.t 11) (sR 4 Yfy .ret) .skip)) (sR 5 Yod .ret))))) σ st Q:=
 q_ J (m_ (m_ (e_ (Zk (W.reg (h.elim fun _ c=>Yi sn c.1 (Xy (Pz (f:=AV.s) (fun _=>J) J (show lk _ (d,4097)=some (_,(List.map AV.s (List.replicate 9 ([]:BS)):List AV)) from Zj) (by simp) J c.2.1 (e_ (q_ J (Zzg J Zj c.2.2.1 J (m_ (c.2.2.2.elim fun _ e=>Yi (Je J H0 J) e.1 (m_ (e_ (Zk (q_ J (m_ (b_ J J Wn (e_ (Yj J (fun i=>q_ J (m_ (m_ (Zo (hQ J J (e.2.1 i)))))) (fun i=>Yc (q_ J (m_ (Zb8 J (m_ (m_ (Zo (hQ J J (e.2.2 i))))))))))))))))))))))))))))))
end
theorem Xh2 {PG:Za}(hf:PG.fn 211=some Zf0){s0:BS}{K:Int->Int->Prop}(h:Zkc PG K s0) :∃res0:Int,∃res1:Int,K res0 res1/\Zf PG 211 [.s s0] (.tup [.i .u8 res0,.i .i64 res1]):=
 P2 hf J (Yvm (h2 J fun _ _=>J) J h)
abbrev Wc9 (Q:AE->Sl->St->Prop)(K:Int->Int->Prop):Prop:=∀(σ:Sl)(st:St)(res0:Int)(res1:Int),σ 2=.i .u8 res0->σ 3=.i .i64 res1->K res0 res1->Q .ret σ st
section
variable {PG:Za}{d:Nat}{Q:AE->Sl->St->Prop}{K:Int->Int->Prop}(hQ:Wc9 Q K){σ:Sl}{st:St}
include hQ
end
def Yn6:List AI:=[oI 4 0]
def Yeh:List AI:=[oM 6 0,oJ 7 6,oI 8 0]
def Whr:List AI:=[oT 9 .lss 8 7]
def Xho:List AI:=[oM 10 8,oM 5 10]
def Yv8:List AI:=[oM 11 1,oM 12 0,oM 13 5,oX 14 5 12 13,oK 15 5 14,oO 16 (.callv (.t 11) [(.t 15)])]
def Xmq:List AI:=[oM 17 5,oM 4 17]
def Xkh:List AI:=[oV 18 .add 8 1,oM 8 18]
def Wj4:List AI:=[oI 4 (-1)]
abbrev Ie:AC:=(sR 2 Whr (.seq (.cond (.t 9) .skip (.exit 0)) (.seq (.block 1 (sR 3 Xho (sR 4 Yv8 (.cond (.t 16) (sR 5 Xmq .ret) .skip)))) (.reg 6 Xkh))))
abbrev Zaq:AC:=(sR 7 Wj4 .ret)
abbrev Yuu:AC:=(sR 0 Yn6 (.seq (sR 1 Yeh (.block 0 (.loop Ie))) Zaq))
def Ziu:AF:={ nt:=19,res:=[.tmp 4],body:=Yuu }
abbrev Zxg (PG:Za)(d:Nat)(Q:AE->Sl->St->Prop)(Zm:St)(s0:List Zi)(f1:Nat × List AV)(t7:Int)(t8:Int):Prop:=
  ∀(σ:Sl)(st:St)(o_s0:Zn),σ 0=.sl o_s0 (List.map Zi.row s0)->σ 1=.fn f1.1 f1.2->σ 7=.i .i64 t7->σ 8=.i .i64 t8->Fr d (d,0) Zm.bx Zm.ow st.bx st.ow->W PG d (.loop Ie) σ st (Zw 0 (Zl PG d Zaq Q))
def Zme (PG:Za)(K:Int->Prop) :Prop:=
  K (-1)
def Zbe (PG:Za)(K:Int->Prop)(P0:Int->Prop)(s0:List Zi)(f1:Nat × List AV)(t7:Int)(t8:Int):Prop:=
  (t8<t7->0<=t8/\∃e:Zi,s0[(t8).toNat]?=some e/\∃c,(Yp PG f1.1 ([e.av]++f1.2) (fun r=>r=.b c))/\(c=true->K t8)/\(c=false->P0 (IntKind.i64.wrap (t8+1))))/\(¬(t8<t7)->Zme PG K )
def Znm (PG:Za)(K:Int->Prop)(s0:List Zi)(f1:Nat × List AV):Prop:=
  ∀P0:Int->Prop,(∀(t8:Int),Zbe PG K P0 s0 f1 (s0.length:Int) t8->P0 t8)->P0 0
section
variable {PG:Za}{d:Nat}{Q:AE->Sl->St->Prop}{K:Int->Prop}{Zm:St}(hQ:HF d Zm (AV.i .i64) 4 Q K){σ:Sl}{st:St}
include hQ
variable {s0:List Zi}{f1:Nat × List AV}{t7 t8:Int}{P0:Int->Prop}{o_s0:Zn}
variable (kP0 :∀(t8:Int),P0 t8->Zxg PG d Q Zm s0 f1 t7 t8)(H0:σ 0=.sl o_s0 (List.map Zi.row s0))(H1:σ 1=.fn f1.1 f1.2)(H7:σ 7=.i .i64 t7)(H8:σ 8=.i .i64 t8)(FR:Fr d (d,0) Zm.bx Zm.ow st.bx st.ow)
include FR in
theorem Xco (h:Zme PG K ):W PG d Zaq σ st Q:=
 au trivial
include kP0 H0 H1 H7 H8 FR in
theorem Xl0 (h:Zbe PG K P0 s0 f1 t7 t8):W PG d Ie σ st (Zl PG d (.loop Ie) (Zw 0 (Zl PG d Zaq Q))):=
 q_ J (b_ H8 H7 Wn (e_ (Zk (Yj J (fun c=>Yc (Zk (Yh (q_ J (m_ (m_ (e_ (q_ J (m_ (Yf H0 (m_ ((h.1 c).2.elim fun o j=>Wq J H8 (h.1 c).1 j.1 (Zi.row_eq o) J (Xk J J J (j.2.elim fun _ e=>Ll H1 (Ya J Yr) (e.1) (fun _ k=>e_ (Xs J (fun i=>q_ J (m_ (m_ (Zo (hQ H8 (Fr.raw FR k) (e.2.1 i)))))) (fun i=>Yc (W.reg0 J fun _ _=>b_ H8 J Vd (m_ (e_ (kP0 _ (e.2.2 i) _ _ _ H0 H1 H7 J (Fr.raw FR k)))))))))))))))))))))) (fun c=>Vm (Xco hQ FR (h.2 c)))))))
include H0 H1 FR in
theorem Wpo (h:Znm PG K s0 f1):W PG d (sR 0 Yn6 (.seq (sR 1 Yeh (.block 0 (.loop Ie))) Zaq)) σ st Q:=
 q_ J (m_ (e_ (Zk (q_ J (Yf H0 (Yo J (m_ (e_ (Yh (h (Zxg PG d Q Zm s0 f1 (s0.length:Int)) (fun _ hb _ _ _ H0 H1 H7 H8 FR=>W.loop (Xl0 hQ (fun _ x=>x) H0 H1 H7 H8 FR hb)) _ _ _ H0 H1 J J FR))))))))))
end
theorem Wrk {PG:Za}(hf:PG.fn 236=some Ziu){s0:List Zi}{f1:Nat × List AV}{K:Int->Prop}(h:Znm PG K s0 f1)(o_s0:Zn):Yp PG 236 [.sl o_s0 (List.map Zi.row s0),.fn f1.1 f1.2] (fun r=>∃res0:Int,(r=.i .i64 res0)/\K res0):=
 PF hf J J fun d st Q q=>Wpo q J J Fr.refl h
def Yme:List AI:=[oI 4 0]
def Zyq:List AI:=[oM 6 0,oJ 7 6,oI 8 0]
def Xcn:List AI:=[oT 9 .lss 8 7]
def Xua:List AI:=[oM 10 8,oM 5 10]
def Xau:List AI:=[oM 11 1,oM 12 0,oM 13 5,oX 14 4 12 13,oK 15 4 14,oO 16 (.callv (.t 11) [(.t 15)])]
def Yrw:List AI:=[oM 17 5,oM 4 17]
def Wrx:List AI:=[oV 18 .add 8 1,oM 8 18]
def Xlm:List AI:=[oI 4 (-1)]
abbrev On:AC:=(sR 2 Xcn (.seq (.cond (.t 9) .skip (.exit 0)) (.seq (.block 1 (sR 3 Xua (sR 4 Xau (.cond (.t 16) (sR 5 Yrw .ret) .skip)))) (.reg 6 Wrx))))
abbrev Zbb:AC:=(sR 7 Xlm .ret)
abbrev Xfy:AC:=(sR 0 Yme (.seq (sR 1 Zyq (.block 0 (.loop On))) Zbb))
def Zcd:AF:={ nt:=19,res:=[.tmp 4],body:=Xfy }
abbrev Yed (PG:Za)(d:Nat)(Q:AE->Sl->St->Prop)(Zm:St)(s0:List Zg)(f1:Nat × List AV)(t7:Int)(t8:Int):Prop:=
  ∀(σ:Sl)(st:St)(o_s0:Zn),σ 0=.sl o_s0 (List.map Zg.row s0)->σ 1=.fn f1.1 f1.2->σ 7=.i .i64 t7->σ 8=.i .i64 t8->Fr d (d,0) Zm.bx Zm.ow st.bx st.ow->W PG d (.loop On) σ st (Zw 0 (Zl PG d Zbb Q))
def Zs7 (PG:Za)(K:Int->Prop) :Prop:=
  K (-1)
def Ov (PG:Za)(K:Int->Prop)(P0:Int->Prop)(s0:List Zg)(f1:Nat × List AV)(t7:Int)(t8:Int):Prop:=
  (t8<t7->0<=t8/\∃e:Zg,s0[(t8).toNat]?=some e/\∃c,(Yp PG f1.1 ([e.av]++f1.2) (fun r=>r=.b c))/\(c=true->K t8)/\(c=false->P0 (IntKind.i64.wrap (t8+1))))/\(¬(t8<t7)->Zs7 PG K )
def Zt4 (PG:Za)(K:Int->Prop)(s0:List Zg)(f1:Nat × List AV):Prop:=
  ∀P0:Int->Prop,(∀(t8:Int),Ov PG K P0 s0 f1 (s0.length:Int) t8->P0 t8)->P0 0
section
variable {PG:Za}{d:Nat}{Q:AE->Sl->St->Prop}{K:Int->Prop}{Zm:St}(hQ:HF d Zm (AV.i .i64) 4 Q K){σ:Sl}{st:St}
include hQ
variable {s0:List Zg}{f1:Nat × List AV}{t7 t8:Int}{P0:Int->Prop}{o_s0:Zn}
variable (kP0 :∀(t8:Int),P0 t8->Yed PG d Q Zm s0 f1 t7 t8)(H0:σ 0=.sl o_s0 (List.map Zg.row s0))(H1:σ 1=.fn f1.1 f1.2)(H7:σ 7=.i .i64 t7)(H8:σ 8=.i .i64 t8)(FR:Fr d (d,0) Zm.bx Zm.ow st.bx st.ow)
include FR in
theorem Xfi (h:Zs7 PG K ):W PG d Zbb σ st Q:=
 au trivial
include kP0 H0 H1 H7 H8 FR in
theorem Yt8 (h:Ov PG K P0 s0 f1 t7 t8):W PG d On σ st (Zl PG d (.loop On) (Zw 0 (Zl PG d Zbb Q))):=
 q_ J (b_ H8 H7 Wn (e_ (Zk (Yj J (fun c=>Yc (Zk (Yh (q_ J (m_ (m_ (e_ (q_ J (m_ (Yf H0 (m_ ((h.1 c).2.elim fun o j=>Wq J H8 (h.1 c).1 j.1 (Zg.row_eq o) J (Xk J J J (j.2.elim fun _ e=>Ll H1 (Ya J Yr) (e.1) (fun _ k=>e_ (Xs J (fun i=>q_ J (m_ (m_ (Zo (hQ H8 (Fr.raw FR k) (e.2.1 i)))))) (fun i=>Yc (W.reg0 J fun _ _=>b_ H8 J Vd (m_ (e_ (kP0 _ (e.2.2 i) _ _ _ H0 H1 H7 J (Fr.raw FR k)))))))))))))))))))))) (fun c=>Vm (Xfi hQ FR (h.2 c)))))))
include H0 H1 FR in
theorem Wt8 (h:Zt4 PG K s0 f1):W PG d (sR 0 Yme (.seq (sR 1 Zyq (.block 0 (.loop On))) Zbb)) σ st Q:=
 q_ J (m_ (e_ (Zk (q_ J (Yf H0 (Yo J (m_ (e_ (Yh (h (Yed PG d Q Zm s0 f1 (s0.length:Int)) (fun _ hb _ _ _ H0 H1 H7 H8 FR=>W.loop (Yt8 hQ (fun _ x=>x) H0 H1 H7 H8 FR hb)) _ _ _ H0 H1 J J FR))))))))))
end
theorem Yzd {PG:Za}(hf:PG.fn 237=some Zcd){s0:List Zg}{f1:Nat × List AV}{K:Int->Prop}(h:Zt4 PG K s0 f1)(o_s0:Zn):Yp PG 237 [.sl o_s0 (List.map Zg.row s0),.fn f1.1 f1.2] (fun r=>∃res0:Int,(r=.i .i64 res0)/\K res0):=
 PF hf J J fun d st Q q=>Wt8 q J J Fr.refl h
def Zxp:List AI:=[oI 4 0]
def Zzd:List AI:=[oM 6 0,oJ 7 6,oI 8 0]
def Wij:List AI:=[oT 9 .lss 8 7]
def Xti:List AI:=[oM 10 8,oM 5 10]
def Xqb:List AI:=[oM 11 1,oM 12 0,oM 13 5,oX 14 8 12 13,oK 15 8 14,oO 16 (.callv (.t 11) [(.t 15)])]
def Wti:List AI:=[oM 17 5,oM 4 17]
def Yzi:List AI:=[oV 18 .add 8 1,oM 8 18]
def Xjr:List AI:=[oI 4 (-1)]
abbrev Zas:AC:=(sR 2 Wij (.seq (.cond (.t 9) .skip (.exit 0)) (.seq (.block 1 (sR 3 Xti (sR 4 Xqb (.cond (.t 16) (sR 5 Wti .ret) .skip)))) (.reg 6 Yzi))))
abbrev Zap:AC:=(sR 7 Xjr .ret)
abbrev Wf5:AC:=(sR 0 Zxp (.seq (sR 1 Zzd (.block 0 (.loop Zas))) Zap))
def Zic:AF:={ nt:=19,res:=[.tmp 4],body:=Wf5 }
abbrev Yr3 (PG:Za)(d:Nat)(Q:AE->Sl->St->Prop)(Zm:St)(s0:List Zr)(f1:Nat × List AV)(t7:Int)(t8:Int):Prop:=
  ∀(σ:Sl)(st:St)(o_s0:Zn),σ 0=.sl o_s0 (List.map Zr.row s0)->σ 1=.fn f1.1 f1.2->σ 7=.i .i64 t7->σ 8=.i .i64 t8->Fr d (d,0) Zm.bx Zm.ow st.bx st.ow->W PG d (.loop Zas) σ st (Zw 0 (Zl PG d Zap Q))
def Znn (PG:Za)(K:Int->Prop) :Prop:=
  K (-1)
def Om (PG:Za)(K:Int->Prop)(P0:Int->Prop)(s0:List Zr)(f1:Nat × List AV)(t7:Int)(t8:Int):Prop:=
  (t8<t7->0<=t8/\∃e:Zr,s0[(t8).toNat]?=some e/\∃c,(Yp PG f1.1 ([e.av]++f1.2) (fun r=>r=.b c))/\(c=true->K t8)/\(c=false->P0 (IntKind.i64.wrap (t8+1))))/\(¬(t8<t7)->Znn PG K )
def Zuz (PG:Za)(K:Int->Prop)(s0:List Zr)(f1:Nat × List AV):Prop:=
  ∀P0:Int->Prop,(∀(t8:Int),Om PG K P0 s0 f1 (s0.length:Int) t8->P0 t8)->P0 0
section
variable {PG:Za}{d:Nat}{Q:AE->Sl->St->Prop}{K:Int->Prop}{Zm:St}(hQ:HF d Zm (AV.i .i64) 4 Q K){σ:Sl}{st:St}
include hQ
variable {s0:List Zr}{f1:Nat × List AV}{t7 t8:Int}{P0:Int->Prop}{o_s0:Zn}
variable (kP0 :∀(t8:Int),P0 t8->Yr3 PG d Q Zm s0 f1 t7 t8)(H0:σ 0=.sl o_s0 (List.map Zr.row s0))(H1:σ 1=.fn f1.1 f1.2)(H7:σ 7=.i .i64 t7)(H8:σ 8=.i .i64 t8)(FR:Fr d (d,0) Zm.bx Zm.ow st.bx st.ow)
include FR in
theorem Xdf (h:Znn PG K ):W PG d Zap σ st Q:=
 au trivial
include kP0 H0 H1 H7 H8 FR in
theorem Wa7 (h:Om PG K P0 s0 f1 t7 t8):W PG d Zas σ st (Zl PG d (.loop Zas) (Zw 0 (Zl PG d Zap Q))):=
 q_ J (b_ H8 H7 Wn (e_ (Zk (Yj J (fun c=>Yc (Zk (Yh (q_ J (m_ (m_ (e_ (q_ J (m_ (Yf H0 (m_ ((h.1 c).2.elim fun o j=>Wq J H8 (h.1 c).1 j.1 (Zr.row_eq o) J (Xk J J J (j.2.elim fun _ e=>Ll H1 (Ya J Yr) (e.1) (fun _ k=>e_ (Xs J (fun i=>q_ J (m_ (m_ (Zo (hQ H8 (Fr.raw FR k) (e.2.1 i)))))) (fun i=>Yc (W.reg0 J fun _ _=>b_ H8 J Vd (m_ (e_ (kP0 _ (e.2.2 i) _ _ _ H0 H1 H7 J (Fr.raw FR k)))))))))))))))))))))) (fun c=>Vm (Xdf hQ FR (h.2 c)))))))
include H0 H1 FR in
theorem Xet (h:Zuz PG K s0 f1):W PG d (sR 0 Zxp (.seq (sR 1 Zzd (.block 0 (.loop Zas))) Zap)) σ st Q:=
 q_ J (m_ (e_ (Zk (q_ J (Yf H0 (Yo J (m_ (e_ (Yh (h (Yr3 PG d Q Zm s0 f1 (s0.length:Int)) (fun _ hb _ _ _ H0 H1 H7 H8 FR=>W.loop (Wa7 hQ (fun _ x=>x) H0 H1 H7 H8 FR hb)) _ _ _ H0 H1 J J FR))))))))))
end
theorem Wn2 {PG:Za}(hf:PG.fn 238=some Zic){s0:List Zr}{f1:Nat × List AV}{K:Int->Prop}(h:Zuz PG K s0 f1)(o_s0:Zn):Yp PG 238 [.sl o_s0 (List.map Zr.row s0),.fn f1.1 f1.2] (fun r=>∃res0:Int,(r=.i .i64 res0)/\K res0):=
 PF hf J J fun d st Q q=>Xet q J J Fr.refl h
def Ydv:List AI:=[oI 4 0]
def Yc7:List AI:=[oM 6 0,oJ 7 6,oI 8 0]
def Xcl:List AI:=[oT 9 .lss 8 7]
def Wnw:List AI:=[oM 10 8,oM 5 10]
def Xsx:List AI:=[oM 11 1,oM 12 0,oM 13 5,oX 14 7 12 13,oK 15 7 14,oO 16 (.callv (.t 11) [(.t 15)])]
def Xjf:List AI:=[oM 17 5,oM 4 17]
def Xrr:List AI:=[oV 18 .add 8 1,oM 8 18]
def Yyf:List AI:=[oI 4 (-1)]
abbrev Iq:AC:=(sR 2 Xcl (.seq (.cond (.t 9) .skip (.exit 0)) (.seq (.block 1 (sR 3 Wnw (sR 4 Xsx (.cond (.t 16) (sR 5 Xjf .ret) .skip)))) (.reg 6 Xrr))))
abbrev Zbf:AC:=(sR 7 Yyf .ret)
abbrev Wc5:AC:=(sR 0 Ydv (.seq (sR 1 Yc7 (.block 0 (.loop Iq))) Zbf))
def Zhy:AF:={ nt:=19,res:=[.tmp 4],body:=Wc5 }
abbrev Yis (PG:Za)(d:Nat)(Q:AE->Sl->St->Prop)(Zm:St)(s0:List Zh)(f1:Nat × List AV)(t7:Int)(t8:Int):Prop:=
  ∀(σ:Sl)(st:St)(o_s0:Zn),σ 0=.sl o_s0 (List.map Zh.row s0)->σ 1=.fn f1.1 f1.2->σ 7=.i .i64 t7->σ 8=.i .i64 t8->Fr d (d,0) Zm.bx Zm.ow st.bx st.ow->W PG d (.loop Iq) σ st (Zw 0 (Zl PG d Zbf Q))
def Zlq (PG:Za)(K:Int->Prop) :Prop:=
  K (-1)
def Zaw (PG:Za)(K:Int->Prop)(P0:Int->Prop)(s0:List Zh)(f1:Nat × List AV)(t7:Int)(t8:Int):Prop:=
  (t8<t7->0<=t8/\∃e:Zh,s0[(t8).toNat]?=some e/\∃c,(Yp PG f1.1 ([e.av]++f1.2) (fun r=>r=.b c))/\(c=true->K t8)/\(c=false->P0 (IntKind.i64.wrap (t8+1))))/\(¬(t8<t7)->Zlq PG K )
def Zpq (PG:Za)(K:Int->Prop)(s0:List Zh)(f1:Nat × List AV):Prop:=
  ∀P0:Int->Prop,(∀(t8:Int),Zaw PG K P0 s0 f1 (s0.length:Int) t8->P0 t8)->P0 0
section
variable {PG:Za}{d:Nat}{Q:AE->Sl->St->Prop}{K:Int->Prop}{Zm:St}(hQ:HF d Zm (AV.i .i64) 4 Q K){σ:Sl}{st:St}
include hQ
variable {s0:List Zh}{f1:Nat × List AV}{t7 t8:Int}{P0:Int->Prop}{o_s0:Zn}
variable (kP0 :∀(t8:Int),P0 t8->Yis PG d Q Zm s0 f1 t7 t8)(H0:σ 0=.sl o_s0 (List.map Zh.row s0))(H1:σ 1=.fn f1.1 f1.2)(H7:σ 7=.i .i64 t7)(H8:σ 8=.i .i64 t8)(FR:Fr d (d,0) Zm.bx Zm.ow st.bx st.ow)
include FR in
theorem Wgr (h:Zlq PG K ):W PG d Zbf σ st Q:=
 au trivial
include kP0 H0 H1 H7 H8 FR in
theorem Xiz (h:Zaw PG K P0 s0 f1 t7 t8):W PG d Iq σ st (Zl PG d (.loop Iq) (Zw 0 (Zl PG d Zbf Q))):=
 q_ J (b_ H8 H7 Wn (e_ (Zk (Yj J (fun c=>Yc (Zk (Yh (q_ J (m_ (m_ (e_ (q_ J (m_ (Yf H0 (m_ ((h.1 c).2.elim fun o j=>Wq J H8 (h.1 c).1 j.1 (Zh.row_eq o) J (Xk J J J (j.2.elim fun _ e=>Ll H1 (Ya J Yr) (e.1) (fun _ k=>e_ (Xs J (fun i=>q_ J (m_ (m_ (Zo (hQ H8 (Fr.raw FR k) (e.2.1 i)))))) (fun i=>Yc (W.reg0 J fun _ _=>b_ H8 J Vd (m_ (e_ (kP0 _ (e.2.2 i) _ _ _ H0 H1 H7 J (Fr.raw FR k)))))))))))))))))))))) (fun c=>Vm (Wgr hQ FR (h.2 c)))))))
include H0 H1 FR in
theorem Wrq (h:Zpq PG K s0 f1):W PG d (sR 0 Ydv (.seq (sR 1 Yc7 (.block 0 (.loop Iq))) Zbf)) σ st Q:=
 q_ J (m_ (e_ (Zk (q_ J (Yf H0 (Yo J (m_ (e_ (Yh (h (Yis PG d Q Zm s0 f1 (s0.length:Int)) (fun _ hb _ _ _ H0 H1 H7 H8 FR=>W.loop (Xiz hQ (fun _ x=>x) H0 H1 H7 H8 FR hb)) _ _ _ H0 H1 J J FR))))))))))
end
theorem Xum {PG:Za}(hf:PG.fn 239=some Zhy){s0:List Zh}{f1:Nat × List AV}{K:Int->Prop}(h:Zpq PG K s0 f1)(o_s0:Zn):Yp PG 239 [.sl o_s0 (List.map Zh.row s0),.fn f1.1 f1.2] (fun r=>∃res0:Int,(r=.i .i64 res0)/\K res0):=
 PF hf J J fun d st Q q=>Wrq q J J Fr.refl h
def Ym8:List AI:=[oC 4 (.b false)]
def Ycl:List AI:=[oM 5 0,oM 6 1,oO 7 (.call true 236 [(.t 5),(.t 6)]),oV 8 .geq 7 0,oM 4 8]
abbrev Wtk:AC:=(sR 0 Ym8 (sR 1 Ycl .ret))
def Zg2:AF:={ nt:=9,res:=[.tmp 4],body:=Wtk }
def Zl2 (PG:Za)(K:Bool->Prop)(s0:List Zi)(f1:Nat × List AV):Prop:=
  ∃c,(∀e:Zn,Yp PG 236 [.sl e (List.map Zi.row s0),.fn f1.1 f1.2] (fun r=>r=.i .i64 c))/\K (decide (c>=0))
section
variable {PG:Za}{d:Nat}{Q:AE->Sl->St->Prop}{K:Bool->Prop}{Zm:St}(hQ:HF d Zm AV.b 4 Q K){σ:Sl}{st:St}
include hQ
variable {s0:List Zi}{f1:Nat × List AV}{o_s0:Zn}
variable (H0:σ 0=.sl o_s0 (List.map Zi.row s0))(H1:σ 1=.fn f1.1 f1.2)(FR:Fr d (d,0) Zm.bx Zm.ow st.bx st.ow)
include H0 H1 FR in
theorem Xu5 (h:Zl2 PG K s0 f1):W PG d (sR 0 Ym8 (sR 1 Ycl .ret)) σ st Q:=
 q_ J (m_ (e_ (q_ J (Yf H0 (m_ (h.elim fun _ c=>Hf (Ya J (Ya H1 Yr)) (c.1 _) (fun _ e=>b_ J J Ul (m_ (Zo (hQ J (Fr.raw FR e) c.2))))))))))
end
theorem Xok {PG:Za}(hf:PG.fn 224=some Zg2){s0:List Zi}{f1:Nat × List AV}{K:Bool->Prop}(h:Zl2 PG K s0 f1)(o_s0:Zn):Yp PG 224 [.sl o_s0 (List.map Zi.row s0),.fn f1.1 f1.2] (fun r=>∃res0:Bool,(r=.b res0)/\K res0):=
 PF hf J J fun d st Q q=>Xu5 q J J Fr.refl h
def Ycw:List AI:=[oC 4 (.b false)]
def Ycy:List AI:=[oM 5 0,oM 6 1,oO 7 (.call true 237 [(.t 5),(.t 6)]),oV 8 .geq 7 0,oM 4 8]
abbrev Xhy:AC:=(sR 0 Ycw (sR 1 Ycy .ret))
def Zi6:AF:={ nt:=9,res:=[.tmp 4],body:=Xhy }
def Zkn (PG:Za)(K:Bool->Prop)(s0:List Zg)(f1:Nat × List AV):Prop:=
  ∃c,(∀e:Zn,Yp PG 237 [.sl e (List.map Zg.row s0),.fn f1.1 f1.2] (fun r=>r=.i .i64 c))/\K (decide (c>=0))
section
variable {PG:Za}{d:Nat}{Q:AE->Sl->St->Prop}{K:Bool->Prop}{Zm:St}(hQ:HF d Zm AV.b 4 Q K){σ:Sl}{st:St}
include hQ
variable {s0:List Zg}{f1:Nat × List AV}{o_s0:Zn}
variable (H0:σ 0=.sl o_s0 (List.map Zg.row s0))(H1:σ 1=.fn f1.1 f1.2)(FR:Fr d (d,0) Zm.bx Zm.ow st.bx st.ow)
include H0 H1 FR in
theorem Wu1 (h:Zkn PG K s0 f1):W PG d (sR 0 Ycw (sR 1 Ycy .ret)) σ st Q:=
 q_ J (m_ (e_ (q_ J (Yf H0 (m_ (h.elim fun _ c=>Hf (Ya J (Ya H1 Yr)) (c.1 _) (fun _ e=>b_ J J Ul (m_ (Zo (hQ J (Fr.raw FR e) c.2))))))))))
end
theorem Yy8 {PG:Za}(hf:PG.fn 227=some Zi6){s0:List Zg}{f1:Nat × List AV}{K:Bool->Prop}(h:Zkn PG K s0 f1)(o_s0:Zn):Yp PG 227 [.sl o_s0 (List.map Zg.row s0),.fn f1.1 f1.2] (fun r=>∃res0:Bool,(r=.b res0)/\K res0):=
 PF hf J J fun d st Q q=>Wu1 q J J Fr.refl h
def Yin:List AI:=[oC 4 (.b false)]
def Yi2:List AI:=[oM 5 0,oM 6 1,oO 7 (.call true 238 [(.t 5),(.t 6)]),oV 8 .geq 7 0,oM 4 8]
abbrev Wpw:AC:=(sR 0 Yin (sR 1 Yi2 .ret))
def Zhw:AF:={ nt:=9,res:=[.tmp 4],body:=Wpw }
def Zv1 (PG:Za)(K:Bool->Prop)(s0:List Zr)(f1:Nat × List AV):Prop:=
  ∃c,(∀e:Zn,Yp PG 238 [.sl e (List.map Zr.row s0),.fn f1.1 f1.2] (fun r=>r=.i .i64 c))/\K (decide (c>=0))
section
variable {PG:Za}{d:Nat}{Q:AE->Sl->St->Prop}{K:Bool->Prop}{Zm:St}(hQ:HF d Zm AV.b 4 Q K){σ:Sl}{st:St}
include hQ
variable {s0:List Zr}{f1:Nat × List AV}{o_s0:Zn}
variable (H0:σ 0=.sl o_s0 (List.map Zr.row s0))(H1:σ 1=.fn f1.1 f1.2)(FR:Fr d (d,0) Zm.bx Zm.ow st.bx st.ow)
include H0 H1 FR in
theorem Xe9 (h:Zv1 PG K s0 f1):W PG d (sR 0 Yin (sR 1 Yi2 .ret)) σ st Q:=
 q_ J (m_ (e_ (q_ J (Yf H0 (m_ (h.elim fun _ c=>Hf (Ya J (Ya H1 Yr)) (c.1 _) (fun _ e=>b_ J J Ul (m_ (Zo (hQ J (Fr.raw FR e) c.2))))))))))
end
theorem Xgq {PG:Za}(hf:PG.fn 229=some Zhw){s0:List Zr}{f1:Nat × List AV}{K:Bool->Prop}(h:Zv1 PG K s0 f1)(o_s0:Zn):Yp PG 229 [.sl o_s0 (List.map Zr.row s0),.fn f1.1 f1.2] (fun r=>∃res0:Bool,(r=.b res0)/\K res0):=
 PF hf J J fun d st Q q=>Xe9 q J J Fr.refl h
def Ymg:List AI:=[oC 4 (.b false)]
def Yfs:List AI:=[oM 5 0,oM 6 1,oO 7 (.call true 239 [(.t 5),(.t 6)]),oV 8 .geq 7 0,oM 4 8]
abbrev Wlx:AC:=(sR 0 Ymg (sR 1 Yfs .ret))
def Zgj:AF:={ nt:=9,res:=[.tmp 4],body:=Wlx }
def Zlu (PG:Za)(K:Bool->Prop)(s0:List Zh)(f1:Nat × List AV):Prop:=
  ∃c,(∀e:Zn,Yp PG 239 [.sl e (List.map Zh.row s0),.fn f1.1 f1.2] (fun r=>r=.i .i64 c))/\K (decide (c>=0))
section
variable {PG:Za}{d:Nat}{Q:AE->Sl->St->Prop}{K:Bool->Prop}{Zm:St}(hQ:HF d Zm AV.b 4 Q K){σ:Sl}{st:St}
include hQ
variable {s0:List Zh}{f1:Nat × List AV}{o_s0:Zn}
variable (H0:σ 0=.sl o_s0 (List.map Zh.row s0))(H1:σ 1=.fn f1.1 f1.2)(FR:Fr d (d,0) Zm.bx Zm.ow st.bx st.ow)
include H0 H1 FR in
theorem Wip (h:Zlu PG K s0 f1):W PG d (sR 0 Ymg (sR 1 Yfs .ret)) σ st Q:=
 q_ J (m_ (e_ (q_ J (Yf H0 (m_ (h.elim fun _ c=>Hf (Ya J (Ya H1 Yr)) (c.1 _) (fun _ e=>b_ J J Ul (m_ (Zo (hQ J (Fr.raw FR e) c.2))))))))))
end
theorem Yrp {PG:Za}(hf:PG.fn 232=some Zgj){s0:List Zh}{f1:Nat × List AV}{K:Bool->Prop}(h:Zlu PG K s0 f1)(o_s0:Zn):Yp PG 232 [.sl o_s0 (List.map Zh.row s0),.fn f1.1 f1.2] (fun r=>∃res0:Bool,(r=.b res0)/\K res0):=
 PF hf J J fun d st Q q=>Wip q J J Fr.refl h
end Go.AM

/- Yg of the proof. -/
namespace Go.AM
open Go
set_option linter.unusedVariables false
set_option linter.unusedSimpArgs false
set_option maxRecDepth 4000
set_option maxHeartbeats 2000000
attribute [local irreducible] Decidable.decide W WO Ww Wx
def Zwz:List AI:=[oY 2 4 0,oC 3 (.b false)]
def Yg8:List AI:=[oK 4 3 1,oK 5 4 2,oQ 6 86 [4,5],oV 7 .neq 6 0,oM 3 7]
abbrev Xen:AC:=(sR 0 Zwz (sR 1 Yg8 .ret))
def Zh9:AF:={ nt:=8,res:=[.tmp 3],body:=Xen }
def Zrl (PG:Za)(K:Bool->Prop)(y0:Zg)(t1:Ze):Prop:=
  ∃c,Zf PG 86 [t1.av,y0.av] (.i .i64 c)/\K (decide (c≠0))
section
variable {PG:Za}{d:Nat}{Q:AE->Sl->St->Prop}{K:Bool->Prop}{Zm:St}(hQ:HF d Zm AV.b 3 Q K){σ:Sl}{st:St}
include hQ
variable {y0:Zg}{t1:Ze}
variable (H0:σ 0=y0.av)(H1:σ 1=.fp [.sl .ext (List.map Wz.row t1.types),.sl .ext (List.map Zv t1.texts),.sl .ext (List.map Zz.row t1.funcs)])(FR:Fr d (d,0) Zm.bx Zm.ow st.bx st.ow)
include H0 H1 FR in
theorem Xel (h:Zrl PG K y0 t1):W PG d (sR 0 Zwz (sR 1 Yg8 .ret)) σ st Q:=
 au trivial
end
theorem Yso {PG:Za}(hf:PG.fn 228=some Zh9){y0:Zg}{t1:Ze}{K:Bool->Prop}(h:Zrl PG K y0 t1):Yp PG 228 [y0.av,.fp [.sl .ext (List.map Wz.row t1.types),.sl .ext (List.map Zv t1.texts),.sl .ext (List.map Zz.row t1.funcs)]] (fun r=>∃res0:Bool,(r=.b res0)/\K res0):=
 PF hf J J fun d st Q q=>Xel q J J Fr.refl h
def Yh8:List AI:=[oY 3 8 0,oC 4 (.b false)]
def Yg7:List AI:=[oK 5 3 1,oL 6 2,oK 7 8 3,oQ 8 231 [5,6,7],oZ 9 8,oM 4 9]
abbrev Xzg:AC:=(sR 0 Yh8 (sR 1 Yg7 .ret))
def Zd4:AF:={ nt:=10,res:=[.tmp 4],body:=Xzg }
def Zm4 (PG:Za)(K:Bool->Prop)(y0:Zr)(t1:Ze)(t2:Int):Prop:=
  ∃c,Zf PG 231 [t1.av,.i .i64 t2,y0.av] (.b c)/\K (!c)
section
variable {PG:Za}{d:Nat}{Q:AE->Sl->St->Prop}{K:Bool->Prop}{Zm:St}(hQ:HF d Zm AV.b 4 Q K){σ:Sl}{st:St}
include hQ
variable {y0:Zr}{t1:Ze}{t2:Int}
variable (H0:σ 0=y0.av)(H1:σ 1=.fp [.sl .ext (List.map Wz.row t1.types),.sl .ext (List.map Zv t1.texts),.sl .ext (List.map Zz.row t1.funcs)])(H2:σ 2=.fp [.i .i64 t2])(FR:Fr d (d,0) Zm.bx Zm.ow st.bx st.ow)
include H0 H1 H2 FR in
theorem Wj0 (h:Zm4 PG K y0 t1 t2):W PG d (sR 0 Yh8 (sR 1 Yg7 .ret)) σ st Q:=
 au trivial
end
theorem Xjv {PG:Za}(hf:PG.fn 230=some Zd4){y0:Zr}{t1:Ze}{t2:Int}{K:Bool->Prop}(h:Zm4 PG K y0 t1 t2):Yp PG 230 [y0.av,.fp [.sl .ext (List.map Wz.row t1.types),.sl .ext (List.map Zv t1.texts),.sl .ext (List.map Zz.row t1.funcs)],.fp [.i .i64 t2]] (fun r=>∃res0:Bool,(r=.b res0)/\K res0):=
 PF hf J J fun d st Q q=>Wj0 q J J J Fr.refl h
def Ydy:List AI:=[oY 1 7 0,oC 2 (.b false)]
def Yph:List AI:=[oK 3 7 1,oQ 4 158 [3],oV 5 .neq 4 0,oM 2 5]
abbrev Wi9:AC:=(sR 0 Ydy (sR 1 Yph .ret))
def Zdo:AF:={ nt:=6,res:=[.tmp 2],body:=Wi9 }
def Zli (PG:Za)(K:Bool->Prop)(y0:Zh):Prop:=
  ∃c,Zf PG 158 [y0.av] (.i .i64 c)/\K (decide (c≠0))
section
variable {PG:Za}{d:Nat}{Q:AE->Sl->St->Prop}{K:Bool->Prop}{Zm:St}(hQ:HF d Zm AV.b 2 Q K){σ:Sl}{st:St}
include hQ
variable {y0:Zh}
variable (H0:σ 0=y0.av)(FR:Fr d (d,0) Zm.bx Zm.ow st.bx st.ow)
include H0 FR in
theorem Xq7 (h:Zli PG K y0):W PG d (sR 0 Ydy (sR 1 Yph .ret)) σ st Q:=
 au trivial
end
theorem Wa2 {PG:Za}(hf:PG.fn 233=some Zdo){y0:Zh}{K:Bool->Prop}(h:Zli PG K y0):Yp PG 233 [y0.av] (fun r=>∃res0:Bool,(r=.b res0)/\K res0):=
 PF hf J J fun d st Q q=>Xq7 q J Fr.refl h
def Yes:List AI:=[oY 3 3 0,oY 5 8 2,oC 6 (.b false)]
def Xa5:List AI:=[oF 8 0 5,oL 9 8,oV 10 .lss 9 0,oM 11 10,gF 11 (oF 12 0 5),gF 11 (oL 13 12),gF 11 (oM 14 1),gF 11 (oT 15 .geq 13 14),oR 16 11 15,oM 17 16,gF 17 (oF 18 1 5),gF 17 (oL 19 18),gF 17 (oV 20 .lss 19 0),oR 21 17 20,oM 22 21,gF 22 (oF 23 1 5),gF 22 (oL 24 23),gF 22 (oF 25 2 3),gF 22 (oL 26 25),gF 22 (oJ 27 26),gF 22 (oT 28 .geq 24 27),oR 29 22 28,oM 30 29,gF 30 (oF 31 2 3),gF 30 (oL 32 31),gF 30 (oF 33 1 5),gF 30 (oL 34 33),gF 30 (oX 35 7 32 34),gF 30 (oF 36 0 35),gF 30 (oL 37 36),gF 30 (oH 38 37),gF 30 (oV 39 .gtr 38 16),oR 40 30 39]
def Xo0:List AI:=[oC 6 (.b false)]
def Xcj:List AI:=[oF 41 2 5,oL 42 41,oZ 43 42]
def Ws7:List AI:=[oF 44 3 5,oK 45 5 44,oO 7 (.alloc [z8,z6,zs,zl,zb]),oS 5 7 45]
def Xt0:List AI:=[oF 46 0 7,oL 47 46,oW 48 .eql 47 0,oM 49 48,gT 49 (oF 50 1 7),gT 49 (oL 51 50),gT 49 (oV 52 .eql 51 0),oA 53 49 52,oM 54 53,gT 54 (oF 55 2 7),gT 54 (oL 56 55),gT 54 (oB 57 .eql (.t 56) (.c (.s []))),oA 58 54 57,oM 59 58,gT 59 (oF 60 3 7),gT 59 (oL 61 60),gT 59 (oJ 62 61),gT 59 (oV 63 .eql 62 0),oA 64 59 63,oM 65 64,gT 65 (oF 66 4 7),gT 65 (oL 67 66),gT 65 (oZ 68 67),oA 69 65 68,oM 6 69]
def Xvq:List AI:=[oF 70 3 5,oF 71 0 70,oL 72 71]
def Yv6:List AI:=[oW 74 .eql 72 1,oM 73 74]
def Wiv:List AI:=[oW 75 .eql 72 2,oM 73 75]
def Wex:List AI:=[oW 76 .eql 72 4,oM 73 76]
def Xyu:List AI:=[oF 77 3 5,oK 78 5 77,oQ 79 76 [78],oV 80 .eql 79 0,oM 6 80]
def Ydq:List AI:=[oC 6 (.b false)]
abbrev Ymi:AC:=(.cond (.t 73) (sR 10 Xyu .ret) .skip)
abbrev Zwk:AC:=(.seq (sR 6 Xvq (.block 0 (.seq (sR 7 Yv6 (.cond (.t 73) .skip (sR 8 Wiv (.cond (.t 73) .skip (.reg 9 Wex))))) Ymi))) (sR 11 Ydq .ret))
abbrev Yr4:AC:=(.seq (sR 3 Xcj (.cond (.t 43) (sR 4 Ws7 (sR 5 Xt0 .ret)) .skip)) Zwk)
abbrev Zpx:AC:=(.seq (sR 1 Xa5 (.cond (.t 40) (sR 2 Xo0 .ret) .skip)) Yr4)
abbrev Xm5:AC:=(sR 0 Yes Zpx)
def Zi1:AF:={ nt:=81,res:=[.tmp 6],body:=Xm5 }
def Fp (PG:Za)(K:Bool->Prop)(t73:Bool)(m1:Zr):Prop:=
  (t73=true->∃c,Zf PG 76 [m1.arg.av] (.i .i64 c)/\K (decide (c=0)))/\(t73=false->K false)
def Zo7 (PG:Za)(K:Bool->Prop)(m1:Zr):Prop:=
  (m1.arg.kind=1->Fp PG K (decide (m1.arg.kind=1)) m1)/\(¬(m1.arg.kind=1)->(m1.arg.kind=2->Fp PG K (decide (m1.arg.kind=2)) m1)/\(¬(m1.arg.kind=2)->Fp PG K (decide (m1.arg.kind=4)) m1))
def Zjm (PG:Za)(K:Bool->Prop)(m1:Zr):Prop:=
  ((!m1.hasArg)=true->(m1.arg.kind=0->(m1.arg.int=0->(m1.arg.text=([]:BS)->((m1.arg.list.length:Int)=0->K (!m1.arg.cut))/\(¬((m1.arg.list.length:Int)=0)->K false))/\(¬(m1.arg.text=([]:BS))->K false))/\(¬(m1.arg.int=0)->K false))/\(¬(m1.arg.kind=0)->K false))/\((!m1.hasArg)=false->Zo7 PG K m1)
def Zqb (PG:Za)(K:Bool->Prop)(frames1:Int)(m0:Ze)(m1:Zr):Prop:=
  (m1.frame<0->K false)/\(¬(m1.frame<0)->(m1.frame>=frames1->K false)/\(¬(m1.frame>=frames1)->(m1.func<0->K false)/\(¬(m1.func<0)->(m1.func>=(m0.funcs.length:Int)->K false)/\(¬(m1.func>=(m0.funcs.length:Int))->0<=m1.func/\∃c:Zz,m0.funcs[(m1.func).toNat]?=some c/\((c.name.length:Int)>16->K false)/\(¬((c.name.length:Int)>16)->Zjm PG K m1)))))
def Zmi (PG:Za)(K:Bool->Prop)(m0:Ze)(frames1:Int)(d2:Zr):Prop:=
  Zqb PG K frames1 m0 d2
section
variable {PG:Za}{d:Nat}{Q:AE->Sl->St->Prop}{K:Bool->Prop}(hQ:H1 AV.b 6 Q K){σ:Sl}{st:St}
include hQ
variable {t73:Bool}{m1:Zr}{v1:Nat}{frames1:Int}{m0:Ze}{v0:Nat}{d2:Zr}
variable (H0:σ 0=m0.av)(H1:σ 1=.i .i64 frames1)(H3:σ 3=.p (d,0) v0 0)(H2:σ 2=d2.av)(H5:σ 5=.p (d,1) v1 0)(H73:σ 73=.b t73)(B0:lk st.bx (d,0)=some (v0,Ze.cs m0))(B1:lk st.bx (d,1)=some (v1,[.i .i64 m1.frame,.i .i64 m1.func,.b m1.hasArg,.i .u8 m1.arg.kind,.i .i64 m1.arg.int,.s m1.arg.text,.sl .ext (List.map Zb.row m1.arg.list),.b m1.arg.cut]))
include H5 H73 B1 in
theorem Wl1 (h:Fp PG K t73 m1):W PG d Ymi σ st (Zw 0 (Zl PG d (sR 11 Ydq .ret) Q)):=
 au trivial
include H5 B1 in
theorem Xmp (h:Zo7 PG K m1):W PG d Zwk σ st Q:=
 au @Wl1
include H5 B1 in
theorem Wml (h:Zjm PG K m1):W PG d Yr4 σ st Q:=
 au @Xmp
include H1 H3 H5 B0 B1 in
theorem Xw0 (h:Zqb PG K frames1 m0 m1):W PG d Zpx σ st Q:=
 au @Wml
include H0 H1 H2 in
theorem Xuw (h:Zmi PG K m0 frames1 d2):W PG d (sR 0 Yes Zpx) σ st Q:=
 au @Xw0
end
theorem Wmw {PG:Za}(hf:PG.fn 231=some Zi1){m0:Ze}{frames1:Int}{d2:Zr}{K:Bool->Prop}(h:Zmi PG K m0 frames1 d2) :∃res0:Bool,K res0/\Zf PG 231 [m0.av,.i .i64 frames1,d2.av] (.b res0):=
 P1 hf J (Xuw (h1 J fun _=>J) J J J h)
def Zw3:List AI:=[oO 2 (.boxf 3 (.t 0)),oO 3 (.boxf 5 (.t 1)),oC 4 (.b false)]
def Xiy:List AI:=[oF 8 2 3,oO 9 (.ldf 1 false (.t 8)),oJ 10 9,oF 11 3 3,oO 12 (.ldf 1 false (.t 11)),oJ 13 12,oF 14 4 3,oO 15 (.ldf 1 false (.t 14)),oJ 16 15,oO 5 (.alloc [z6]),oS 1 5 10,oM 6 13,oM 7 16]
def Xly:List AI:=[oF 17 0 3,oL 18 17]
def Wh1:List AI:=[oW 20 .eql 18 3,oM 19 20]
def Wjz:List AI:=[oW 22 .eql 18 1,oM 21 22]
def Wk0:List AI:=[oW 24 .eql 18 2,oM 23 24]
def Xwc:List AI:=[oL 25 5,oM 26 6,oT 27 .add 25 26,oM 28 7,oT 29 .add 27 28,oV 30 .eql 29 0,oM 31 30,gT 31 (oF 32 1 3),gT 31 (oL 33 32),gT 31 (oV 34 .eql 33 0),oA 35 31 34,oM 4 35]
def Xb2:List AI:=[oF 36 1 3,oL 37 36,oV 38 .neq 37 0]
def Wj5:List AI:=[oC 4 (.b false)]
def Wjm:List AI:=[oL 39 5,oV 40 .lss 39 1,oM 41 40,gF 41 (oL 42 5),gF 41 (oV 43 .gtr 42 170),oR 44 41 43,oM 45 44,gF 45 (oM 46 6),gF 45 (oV 47 .gtr 46 410),oR 48 45 47,oM 49 48,gF 49 (oM 50 7),gF 49 (oV 51 .gtr 50 410),oR 52 49 51]
def Xmi:List AI:=[oC 4 (.b false)]
def Xm0:List AI:=[oF 53 2 3,oL 54 53,oO 55 (.mkfn 228 [(.t 2)]),oO 56 (.call true 227 [(.t 54),(.t 55)]),oZ 57 56,oM 58 57,gT 58 (oF 59 3 3),gT 58 (oL 60 59),gT 58 (oO 61 (.mkfz 230 [(.t 2)] (.t 5) [])),gT 58 (oO 62 (.call true 229 [(.t 60),(.t 61)])),gT 58 (oZ 63 62),oA 64 58 63,oM 65 64,gT 65 (oF 66 4 3),gT 65 (oL 67 66),gT 65 (oO 68 (.call true 232 [(.t 67),(.c (.fn 233 []))])),gT 65 (oZ 69 68),oA 70 65 69,oM 4 70]
def Woa:List AI:=[oC 4 (.b false)]
abbrev Ydr:AC:=(sR 7 Xb2 (.cond (.t 38) (sR 8 Wj5 .ret) .skip))
abbrev Yg9:AC:=(sR 11 Xm0 .ret)
abbrev Ztu:AC:=(.seq (.seq (sR 9 Wjm (.cond (.t 52) (sR 10 Xmi .ret) .skip)) Yg9) (.exit 0))
abbrev Ai:AC:=(sR 12 Woa .ret)
abbrev Zm6:AC:=(sR 1 Xiy (.seq (sR 2 Xly (.block 0 (.seq (.block 3 (.seq (.block 2 (.seq (.block 1 (.seq (.seq (sR 3 Wh1 (.cond (.t 19) (.exit 1) .skip)) (.seq (sR 4 Wjz (.cond (.t 21) (.exit 2) .skip)) (sR 5 Wk0 (.cond (.t 23) (.exit 3) .skip)))) (.exit 0))) (.seq (sR 6 Xwc .ret) (.exit 0)))) Ydr)) Ztu))) Ai))
abbrev Xzh:AC:=(sR 0 Zw3 Zm6)
def Zc6:AF:={ nt:=71,res:=[.tmp 4],fz:=[2,3,1000005],body:=Xzh }
def Zjc (PG:Za)(K:Bool->Prop)(m2_0:List Wz)(m2_1:LB)(m2_2:List Zz)(x3_0:Int)(x3_1:Int)(x3_2:List Zg)(x3_3:List Zr)(x3_4:List Zh)(m4105:Int):Prop:=
  ∃c,(∀k:Zn,Yp PG 227 [.sl k (List.map Zg.row x3_2),.fn 228 [.fp [.sl .ext (List.map Wz.row m2_0),.sl .ext (List.map Zv m2_1),.sl .ext (List.map Zz.row m2_2)]]] (fun r=>r=.b c))/\((!c)=true->∃e,(∀o:Zn,Yp PG 229 [.sl o (List.map Zr.row x3_3),.fn 230 [.fp [.sl .ext (List.map Wz.row m2_0),.sl .ext (List.map Zv m2_1),.sl .ext (List.map Zz.row m2_2)],.fp [.i .i64 m4105]]] (fun r=>r=.b e))/\((!e)=true->∃j,(∀p:Zn,Yp PG 232 [.sl p (List.map Zh.row x3_4),.fn 233 []] (fun r=>r=.b j))/\K (!j))/\((!e)=false->K false))/\((!c)=false->K false)
def Ar (PG:Za)(K:Bool->Prop)(m2_0:List Wz)(m2_1:LB)(m2_2:List Zz)(x3_0:Int)(x3_1:Int)(x3_2:List Zg)(x3_3:List Zr)(x3_4:List Zh)(d6:Int)(p7:Int)(m4105:Int):Prop:=
  (m4105<1->K false)/\(¬(m4105<1)->(m4105>170->K false)/\(¬(m4105>170)->(d6>410->K false)/\(¬(d6>410)->(p7>410->K false)/\(¬(p7>410)->Zjc PG K m2_0 m2_1 m2_2 x3_0 x3_1 x3_2 x3_3 x3_4 m4105))))
def Zqc (PG:Za)(K:Bool->Prop)(m2_0:List Wz)(m2_1:LB)(m2_2:List Zz)(x3_0:Int)(x3_1:Int)(x3_2:List Zg)(x3_3:List Zr)(x3_4:List Zh)(d6:Int)(p7:Int)(m4105:Int):Prop:=
  (x3_1≠0->K false)/\(¬(x3_1≠0)->Ar PG K m2_0 m2_1 m2_2 x3_0 x3_1 x3_2 x3_3 x3_4 d6 p7 m4105)
def Ztt (PG:Za)(K:Bool->Prop) :Prop:=
  K false
def Zrb (PG:Za)(K:Bool->Prop)(m2_0:List Wz)(m2_1:LB)(m2_2:List Zz)(x3_0:Int)(x3_1:Int)(x3_2:List Zg)(x3_3:List Zr)(x3_4:List Zh):Prop:=
  (x3_0=3->((IntKind.i64.wrap ((IntKind.i64.wrap ((x3_2.length:Int)+(x3_3.length:Int)))+(x3_4.length:Int)))=0->K (decide (x3_1=0)))/\(¬((IntKind.i64.wrap ((IntKind.i64.wrap ((x3_2.length:Int)+(x3_3.length:Int)))+(x3_4.length:Int)))=0)->K false))/\(¬(x3_0=3)->(x3_0=1->Zqc PG K m2_0 m2_1 m2_2 x3_0 x3_1 x3_2 x3_3 x3_4 (x3_3.length:Int) (x3_4.length:Int) (x3_2.length:Int))/\(¬(x3_0=1)->(x3_0=2->Ar PG K m2_0 m2_1 m2_2 x3_0 x3_1 x3_2 x3_3 x3_4 (x3_3.length:Int) (x3_4.length:Int) (x3_2.length:Int))/\(¬(x3_0=2)->Ztt PG K )))
def Zt8 (PG:Za)(K:Bool->Prop)(m0:Ze)(x1:Zi):Prop:=
  Zrb PG K m0.types m0.texts m0.funcs x1.status x1.key x1.frames x1.defers x1.panics
section
variable {PG:Za}{d:Nat}{Q:AE->Sl->St->Prop}{K:Bool->Prop}(hQ:H1 AV.b 4 Q K){σ:Sl}{st:St}
include hQ
variable {m2_0:List Wz}{m2_1:LB}{m2_2:List Zz}{x3_0 x3_1:Int}{x3_2:List Zg}{x3_3:List Zr}{x3_4:List Zh}{m4105:Int}{v4105:Nat}{d6 p7:Int}{m0:Ze}{x1:Zi}
variable (H2:σ 2=.fp [.sl .ext (List.map Wz.row m2_0),.sl .ext (List.map Zv m2_1),.sl .ext (List.map Zz.row m2_2)])(H0:σ 0=m0.av)(H3:σ 3=.fp [.i .u8 x3_0,.i .i64 x3_1,.sl .ext (List.map Zg.row x3_2),.sl .ext (List.map Zr.row x3_3),.sl .ext (List.map Zh.row x3_4)])(H1:σ 1=x1.av)(H5:σ 5=.p (d,4105) v4105 0)(H6:σ 6=.i .i64 d6)(H7:σ 7=.i .i64 p7)(B4105:lk st.bx (d,4105)=some (v4105,[.i .i64 m4105]))
include H2 H3 H5 B4105 in
theorem Xa3 (h:Zjc PG K m2_0 m2_1 m2_2 x3_0 x3_1 x3_2 x3_3 x3_4 m4105):W PG d Yg9 σ st (Zl PG d (.exit 0) (Zw 0 (Zl PG d Ai Q))):=
 q_ J (Ke H3 (Xk J J J (Zla (Ya H2 Yr) (h.elim fun _ e=>Hf (Ya J (Ya J Yr)) (e.1 _) (fun _ o=>Xx J (Yq J (Kt (g:=58) J (fun j=>Zc J (Ke H3 (Zc J (Xk J J J (Zc J (Xfv (Rn.symm.trans (Ya H2 Yr)) H5 (Rn.symm.trans Yr) ((o.1 (d,4105) (Nat.lt_succ_self d) Gc).trans B4105) J (Zc J ((e.2.1 j).elim fun _ c=>Hf (Ya J (Ya J Yr)) (c.1 _) (fun _ _=>Zc J (Xx J (z_ 2 J (Kt (g:=65) J (fun i=>Zc J (Ke H3 (Zc J (Xk J J J (Zc J ((c.2.1 i).elim fun _ k=>Hf (Ya J (Ya J Yr)) (k.1 _) (fun _ _=>Zc J (Xx J (z_ 2 J (Zo (hQ J k.2))))))))))) (fun i=>z_ 6 J (Zo (hQ J (c.2.2 i)))))))))))))))) (fun j=>z_ 13 J (Zo (hQ J (e.2.2 j)))))))))))
include H2 H3 H5 H6 H7 B4105 in
theorem Ybw (h:Ar PG K m2_0 m2_1 m2_2 x3_0 x3_1 x3_2 x3_3 x3_4 d6 p7 m4105):W PG d Ztu σ st (Zw 0 (Zl PG d Ai Q)):=
 Zk (Zk (q_ J (l_ H5 B4105 J J (b_ J J Wn (Yq J (Ym (g:=41) J (fun c=>z_ 11 J (e_ (Yl J (q_ J (m_ (Zo (hQ J (h.1 c)))))))) (fun c=>Zc J (l_ H5 B4105 J J (Zc J (b_ J J Vt (z_ 2 J (Ym (g:=45) J (fun e=>z_ 7 J (e_ (Yl J (q_ J (m_ (Zo (hQ J ((h.2 c).1 e)))))))) (fun e=>Zc J (Xa H6 (Zc J (b_ J J Vt (z_ 2 J (Ym (g:=49) J (fun i=>z_ 3 J (e_ (Yl J (q_ J (m_ (Zo (hQ J (((h.2 c).2 e).1 i)))))))) (fun i=>Zc J (Xa H7 (Zc J (b_ J J Vt (Vf J J (e_ (Yj J (fun j=>q_ J (m_ (Zo (hQ J ((((h.2 c).2 e).2 i).1 j))))) (fun j=>Yc (Xa3 hQ H2 H3 H5 B4105 ((((h.2 c).2 e).2 i).2 j))))))))))))))))))))))))))))
include H2 H3 H5 H6 H7 B4105 in
theorem Xnz (h:Zqc PG K m2_0 m2_1 m2_2 x3_0 x3_1 x3_2 x3_3 x3_4 d6 p7 m4105):W PG d Ydr σ st (Zw 3 (Zl PG d Ztu (Zw 0 (Zl PG d Ai Q)))):=
 au @Ybw
theorem Wtf (h:Ztt PG K ):W PG d Ai σ st Q:=
 au trivial
include H2 H3 in
theorem Xvg (h:Zrb PG K m2_0 m2_1 m2_2 x3_0 x3_1 x3_2 x3_3 x3_4):W PG d Zm6 σ st Q:=
 au (And.intro @Xnz (And.intro @Ybw @Wtf))
include H0 H1 in
theorem Ywc (h:Zt8 PG K m0 x1):W PG d (sR 0 Zw3 Zm6) σ st Q:=
 au @Xvg
end
theorem Wqu {PG:Za}(hf:PG.fn 219=some Zc6){m0:Ze}{x1:Zi}{K:Bool->Prop}(h:Zt8 PG K m0 x1) :∃res0:Bool,K res0/\Zf PG 219 [m0.av,x1.av] (.b res0):=
 P1 hf J (Ywc (h1 J fun _=>J) J J h)
def Zxs:List AI:=[oY 2 5 0,oC 3 (.b false)]
def Zze:List AI:=[oK 4 3 1,oK 5 5 2,oQ 6 219 [4,5],oZ 7 6,oM 3 7]
abbrev Xj9:AC:=(sR 0 Zxs (sR 1 Zze .ret))
def Zhz:AF:={ nt:=8,res:=[.tmp 3],body:=Xj9 }
def Zjr (PG:Za)(K:Bool->Prop)(x0:Zi)(t1:Ze):Prop:=
  ∃c,Zf PG 219 [t1.av,x0.av] (.b c)/\K (!c)
section
variable {PG:Za}{d:Nat}{Q:AE->Sl->St->Prop}{K:Bool->Prop}{Zm:St}(hQ:HF d Zm AV.b 3 Q K){σ:Sl}{st:St}
include hQ
variable {x0:Zi}{t1:Ze}
variable (H0:σ 0=x0.av)(H1:σ 1=.fp [.sl .ext (List.map Wz.row t1.types),.sl .ext (List.map Zv t1.texts),.sl .ext (List.map Zz.row t1.funcs)])(FR:Fr d (d,0) Zm.bx Zm.ow st.bx st.ow)
include H0 H1 FR in
theorem Yvv (h:Zjr PG K x0 t1):W PG d (sR 0 Zxs (sR 1 Zze .ret)) σ st Q:=
 au trivial
end
theorem Xh8 {PG:Za}(hf:PG.fn 225=some Zhz){x0:Zi}{t1:Ze}{K:Bool->Prop}(h:Zjr PG K x0 t1):Yp PG 225 [x0.av,.fp [.sl .ext (List.map Wz.row t1.types),.sl .ext (List.map Zv t1.texts),.sl .ext (List.map Zz.row t1.funcs)]] (fun r=>∃res0:Bool,(r=.b res0)/\K res0):=
 PF hf J J fun d st Q q=>Yvv q J J Fr.refl h
def Yaz:List AI:=[oO 2 (.boxf 3 (.t 0)),oY 3 4 1,oI 4 0]
def Yn5:List AI:=[oF 6 3 3,oL 7 6,oJ 8 7,oM 5 8]
def Zzw:List AI:=[oF 9 0 3,oL 10 9,oW 11 .lss 10 1,oM 12 11,gF 12 (oF 13 0 3),gF 12 (oL 14 13),gF 12 (oW 15 .gtr 14 8),oR 16 12 15,oM 17 16,gF 17 (oF 18 2 3),gF 17 (oL 19 18),gF 17 (oV 20 .lss 19 0),oR 21 17 20,oM 22 21,gF 22 (oF 23 2 3),gF 22 (oL 24 23),gF 22 (oV 25 .gtr 24 5000),oR 26 22 25,oM 27 26,gF 27 (oM 28 5),gF 27 (oV 29 .gtr 28 16),oR 30 27 29,oM 31 30,gF 31 (oF 32 1 3),gF 31 (oL 33 32),gF 31 (oV 34 .lss 33 (-1)),oR 35 31 34,oM 36 35,gF 36 (oF 37 1 3),gF 36 (oL 38 37),gF 36 (oM 39 5),gF 36 (oT 40 .geq 38 39),oR 41 36 40,oM 42 41,gF 42 (oF 43 3 3),gF 42 (oL 44 43),gF 42 (oO 45 (.mkfn 225 [(.t 2)])),gF 42 (oO 46 (.call true 224 [(.t 44),(.t 45)])),oR 47 42 46]
def Ycp:List AI:=[oI 4 8]
def Zwg:List AI:=[oI 4 0]
abbrev Xxs:AC:=(sR 0 Yaz (sR 1 Yn5 (.seq (sR 2 Zzw (.cond (.t 47) (sR 3 Ycp .ret) .skip)) (sR 4 Zwg .ret))))
def Zgg:AF:={ nt:=48,res:=[.tmp 4],fz:=[2],body:=Xxs }
def Zj2 (PG:Za)(K:Int->Prop)(m0:Ze)(s1:Zt):Prop:=
  (s1.outcome<1->K 8)/\(¬(s1.outcome<1)->(s1.outcome>8->K 8)/\(¬(s1.outcome>8)->(s1.steps<0->K 8)/\(¬(s1.steps<0)->(s1.steps>5000->K 8)/\(¬(s1.steps>5000)->((s1.routines.length:Int)>16->K 8)/\(¬((s1.routines.length:Int)>16)->(s1.failing<(-1)->K 8)/\(¬(s1.failing<(-1))->(s1.failing>=(s1.routines.length:Int)->K 8)/\(¬(s1.failing>=(s1.routines.length:Int))->∃c,(∀e:Zn,Yp PG 224 [.sl e (List.map Zi.row s1.routines),.fn 225 [.fp [.sl .ext (List.map Wz.row m0.types),.sl .ext (List.map Zv m0.texts),.sl .ext (List.map Zz.row m0.funcs)]]] (fun r=>r=.b c))/\(c=true->K 8)/\(c=false->K 0))))))))
section
variable {PG:Za}{d:Nat}{Q:AE->Sl->St->Prop}{K:Int->Prop}(hQ:H1 (AV.i .i64) 4 Q K){σ:Sl}{st:St}
include hQ
variable {m0:Ze}{s1:Zt}
variable (H0:σ 0=m0.av)(H1:σ 1=s1.av)
include H0 H1 in
theorem Wth (h:Zj2 PG K m0 s1):W PG d (sR 0 Yaz (sR 1 Yn5 (.seq (sR 2 Zzw (.cond (.t 47) (sR 3 Ycp .ret) .skip)) (sR 4 Zwg .ret)))) σ st Q:=
 q_ J (Zhh H0 J J (Vx H1 J (m_ (e_ (q_ J (f_ J (l_ J Zj J J (Yo J (m_ (e_ (Zk (q_ J (f_ J (l_ J Zj J J (b_ J J Wn (Yq J (Ym (g:=12) J (fun c=>z_ 35 J (e_ (Yl J (q_ J (m_ (Zo (hQ J (h.1 c)))))))) (fun c=>Zc J (f_ J (Zc J (l_ J Zj J J (Zc J (b_ J J Vt (z_ 2 J (Ym (g:=17) J (fun e=>z_ 30 J (e_ (Yl J (q_ J (m_ (Zo (hQ J ((h.2 c).1 e)))))))) (fun e=>Zc J (f_ J (Zc J (l_ J Zj J J (Zc J (b_ J J Wn (z_ 2 J (Ym (g:=22) J (fun i=>z_ 25 J (e_ (Yl J (q_ J (m_ (Zo (hQ J (((h.2 c).2 e).1 i)))))))) (fun i=>Zc J (f_ J (Zc J (l_ J Zj J J (Zc J (b_ J J Vt (z_ 2 J (Ym (g:=27) J (fun j=>z_ 20 J (e_ (Yl J (q_ J (m_ (Zo (hQ J ((((h.2 c).2 e).2 i).1 j)))))))) (fun j=>Zc J (Xa J (Zc J (b_ J J Vt (z_ 2 J (Ym (g:=31) J (fun k=>z_ 16 J (e_ (Yl J (q_ J (m_ (Zo (hQ J (((((h.2 c).2 e).2 i).2 j).1 k)))))))) (fun k=>Zc J (f_ J (Zc J (l_ J Zj J J (Zc J (b_ J J Wn (z_ 2 J (Ym (g:=36) J (fun o=>z_ 11 J (e_ (Yl J (q_ J (m_ (Zo (hQ J ((((((h.2 c).2 e).2 i).2 j).2 k).1 o)))))))) (fun o=>Zc J (f_ J (Zc J (l_ J Zj J J (Zc J (Xa J (Zc J (b_ J J Ul (z_ 2 J (Ym (g:=42) J (fun r=>z_ 5 J (e_ (Yl J (q_ J (m_ (Zo (hQ J (((((((h.2 c).2 e).2 i).2 j).2 k).2 o).1 r)))))))) (fun r=>Zc J (f_ J (Zc J (l_ J Zj J J (Zc J (Zla (Ya J Yr) (Zc J ((((((((h.2 c).2 e).2 i).2 j).2 k).2 o).2 r).elim fun _ p=>Hf (Ya J (Ya J Yr)) (p.1 _) (fun _ _=>Vf J J (e_ (Xs J (fun q=>q_ J (m_ (Zo (hQ J (p.2.1 q))))) (fun q=>Yc (q_ J (m_ (Zo (hQ J (p.2.2 q))))))))))))))))))))))))))))))))))))))))))))))))))))))))))))))))))))))))))))))))))
end
theorem Wty {PG:Za}(hf:PG.fn 213=some Zgg){m0:Ze}{s1:Zt}{K:Int->Prop}(h:Zj2 PG K m0 s1) :∃res0:Int,K res0/\Zf PG 213 [m0.av,s1.av] (.i .i64 res0):=
 P1 hf J (Wth (h1 J fun _=>J) J J h)
def Zyu:List AI:=[oY 3 3 0,oY 5 8 2,oC 6 (.b false)]
def Xdk:List AI:=[oF 8 0 5,oL 9 8,oV 10 .lss 9 0,oM 11 10,gF 11 (oF 12 0 5),gF 11 (oL 13 12),gF 11 (oM 14 1),gF 11 (oT 15 .geq 13 14),oR 16 11 15,oM 17 16,gF 17 (oF 18 1 5),gF 17 (oL 19 18),gF 17 (oV 20 .lss 19 0),oR 21 17 20,oM 22 21,gF 22 (oF 23 1 5),gF 22 (oL 24 23),gF 22 (oF 25 2 3),gF 22 (oL 26 25),gF 22 (oJ 27 26),gF 22 (oT 28 .geq 24 27),oR 29 22 28,oM 30 29,gF 30 (oF 31 2 3),gF 30 (oL 32 31),gF 30 (oF 33 1 5),gF 30 (oL 34 33),gF 30 (oX 35 7 32 34),gF 30 (oF 36 0 35),gF 30 (oL 37 36),gF 30 (oH 38 37),gF 30 (oV 39 .gtr 38 16),oR 40 30 39]
def Xr6:List AI:=[oC 6 (.b false)]
def Xwh:List AI:=[oF 41 2 5,oL 42 41,oZ 43 42]
def Xi8:List AI:=[oF 44 3 5,oK 45 5 44,oO 46 (.build [z8,z6,zs,zl,zb] []),oQ 47 78 [45,46],oM 6 47]
def We0:List AI:=[oF 48 3 5,oF 49 0 48,oL 50 49,oM 7 50]
def Ys8:List AI:=[oM 51 7,oW 52 .eql 51 1,oM 53 52,gF 53 (oM 54 7),gF 53 (oW 55 .eql 54 2),oR 56 53 55,oM 57 56,gF 57 (oM 58 7),gF 57 (oW 59 .eql 58 4),oR 60 57 59,oM 61 60,gT 61 (oF 62 3 5),gT 61 (oK 63 5 62),gT 61 (oQ 64 77 [63]),gT 61 (oV 65 .eql 64 0),oA 66 61 65,oM 6 66]
abbrev Ymx:AC:=(.seq (sR 3 Xwh (.cond (.t 43) (sR 4 Xi8 .ret) .skip)) (sR 5 We0 (sR 6 Ys8 .ret)))
abbrev Zte:AC:=(.seq (sR 1 Xdk (.cond (.t 40) (sR 2 Xr6 .ret) .skip)) Ymx)
abbrev Yun:AC:=(sR 0 Zyu Zte)
def Zho:AF:={ nt:=67,res:=[.tmp 6],body:=Yun }
def Zk4 (PG:Za)(K:Bool->Prop)(m1:Zr):Prop:=
  ((!m1.hasArg)=true->∃c,Zf PG 78 [m1.arg.av,.ag [.i .u8 0,.i .i64 0,.s [],.sl .ext (List.map Zb.row ([]:List Zb)),.b false]] (.b c)/\K c)/\((!m1.hasArg)=false->(m1.arg.kind=1->∃k,Zf PG 77 [m1.arg.av] (.i .i64 k)/\K (decide (k=0)))/\(¬(m1.arg.kind=1)->(m1.arg.kind=2->∃e,Zf PG 77 [m1.arg.av] (.i .i64 e)/\K (decide (e=0)))/\(¬(m1.arg.kind=2)->(m1.arg.kind=4->∃j,Zf PG 77 [m1.arg.av] (.i .i64 j)/\K (decide (j=0)))/\(¬(m1.arg.kind=4)->K false))))
def Zrh (PG:Za)(K:Bool->Prop)(many1:Int)(m0:Ze)(m1:Zr):Prop:=
  (m1.frame<0->K false)/\(¬(m1.frame<0)->(m1.frame>=many1->K false)/\(¬(m1.frame>=many1)->(m1.func<0->K false)/\(¬(m1.func<0)->(m1.func>=(m0.funcs.length:Int)->K false)/\(¬(m1.func>=(m0.funcs.length:Int))->0<=m1.func/\∃c:Zz,m0.funcs[(m1.func).toNat]?=some c/\((c.name.length:Int)>16->K false)/\(¬((c.name.length:Int)>16)->Zk4 PG K m1)))))
def Zr6 (PG:Za)(K:Bool->Prop)(m0:Ze)(many1:Int)(d2:Zr):Prop:=
  Zrh PG K many1 m0 d2
section
variable {PG:Za}{d:Nat}{Q:AE->Sl->St->Prop}{K:Bool->Prop}(hQ:H1 AV.b 6 Q K){σ:Sl}{st:St}
include hQ
variable {m1:Zr}{v1:Nat}{many1:Int}{m0:Ze}{v0:Nat}{d2:Zr}
variable (H0:σ 0=m0.av)(H1:σ 1=.i .i64 many1)(H3:σ 3=.p (d,0) v0 0)(H2:σ 2=d2.av)(H5:σ 5=.p (d,1) v1 0)(B0:lk st.bx (d,0)=some (v0,Ze.cs m0))(B1:lk st.bx (d,1)=some (v1,[.i .i64 m1.frame,.i .i64 m1.func,.b m1.hasArg,.i .u8 m1.arg.kind,.i .i64 m1.arg.int,.s m1.arg.text,.sl .ext (List.map Zb.row m1.arg.list),.b m1.arg.cut]))
include H5 B1 in
theorem Xpm (h:Zk4 PG K m1):W PG d Ymx σ st Q:=
 au trivial
include H1 H3 H5 B0 B1 in
theorem Wqv (h:Zrh PG K many1 m0 m1):W PG d Zte σ st Q:=
 au @Xpm
include H0 H1 H2 in
theorem Wqz (h:Zr6 PG K m0 many1 d2):W PG d (sR 0 Zyu Zte) σ st Q:=
 au @Wqv
end
theorem Xyf {PG:Za}(hf:PG.fn 235=some Zho){m0:Ze}{many1:Int}{d2:Zr}{K:Bool->Prop}(h:Zr6 PG K m0 many1 d2) :∃res0:Bool,K res0/\Zf PG 235 [m0.av,.i .i64 many1,d2.av] (.b res0):=
 P1 hf J (Wqz (h1 J fun _=>J) J J J h)
def Ynf:List AI:=[oY 2 3 0,oY 3 5 1,oC 4 (.b false)]
def Xer:List AI:=[oF 7 0 3,oL 8 7,oW 9 .eql 8 3]
def Yxf:List AI:=[oF 10 2 3,oL 11 10,oJ 12 11,oV 13 .eql 12 0,oM 14 13,gT 14 (oF 15 3 3),gT 14 (oL 16 15),gT 14 (oJ 17 16),gT 14 (oV 18 .eql 17 0),oA 19 14 18,oM 20 19,gT 20 (oF 21 4 3),gT 20 (oL 22 21),gT 20 (oJ 23 22),gT 20 (oV 24 .eql 23 0),oA 25 20 24,oM 26 25,gT 26 (oF 27 1 3),gT 26 (oL 28 27),gT 26 (oV 29 .eql 28 0),oA 30 26 29,oM 4 30]
def Xy3:List AI:=[oF 31 0 3,oL 32 31,oW 33 .neq 32 2,oM 34 33,gT 34 (oF 35 0 3),gT 34 (oL 36 35),gT 34 (oW 37 .neq 36 1),gT 34 (oM 38 37),gF 38 (oF 39 1 3),gF 38 (oL 40 39),gF 38 (oV 41 .neq 40 0),gT 34 (oR 42 38 41),oA 43 34 42]
def Yu8:List AI:=[oC 4 (.b false)]
def Wlz:List AI:=[oF 44 2 3,oL 45 44,oJ 46 45,oV 47 .lss 46 1,oM 48 47,gF 48 (oF 49 2 3),gF 48 (oL 50 49),gF 48 (oJ 51 50),gF 48 (oV 52 .gtr 51 170),oR 53 48 52,oM 54 53,gF 54 (oF 55 3 3),gF 54 (oL 56 55),gF 54 (oJ 57 56),gF 54 (oV 58 .gtr 57 410),oR 59 54 58,oM 60 59,gF 60 (oF 61 4 3),gF 60 (oL 62 61),gF 60 (oQ 63 163 [62]),gF 60 (oV 64 .neq 63 0),oR 65 60 64]
def Wol:List AI:=[oC 4 (.b false)]
def Xq1:List AI:=[oI 5 0]
def Xvz:List AI:=[oM 66 5,oF 67 2 3,oL 68 67,oJ 69 68,oT 70 .lss 66 69]
def Wqb:List AI:=[oK 73 3 2,oF 74 2 3,oL 75 74,oM 76 5,oX 77 4 75 76,oK 78 4 77,oQ 79 87 [73,78],oV 80 .neq 79 0]
def Xhf:List AI:=[oC 4 (.b false)]
def Xq3:List AI:=[oM 71 5,oV 72 .add 71 1,oM 5 72]
def Xte:List AI:=[oI 6 0]
def Wp5:List AI:=[oM 81 6,oF 82 3 3,oL 83 82,oJ 84 83,oT 85 .lss 81 84]
def Xhl:List AI:=[oK 88 3 2,oF 89 2 3,oL 90 89,oJ 91 90,oF 92 3 3,oL 93 92,oM 94 6,oX 95 8 93 94,oK 96 8 95,oQ 97 235 [88,91,96],oZ 98 97]
def Wcb:List AI:=[oC 4 (.b false)]
def Xek:List AI:=[oM 86 6,oV 87 .add 86 1,oM 6 87]
def Xjq:List AI:=[oC 4 (.b true)]
abbrev Zg7:AC:=(.seq (sR 8 Xvz (.cond (.t 70) .skip (.exit 0))) (.seq (.block 1 (sR 10 Wqb (.cond (.t 80) (sR 11 Xhf .ret) .skip))) (.reg 9 Xq3)))
abbrev Zdg:AC:=(.seq (sR 13 Wp5 (.cond (.t 85) .skip (.exit 2))) (.seq (.block 3 (sR 15 Xhl (.cond (.t 98) (sR 16 Wcb .ret) .skip))) (.reg 14 Xek)))
abbrev Zdl:AC:=(sR 17 Xjq .ret)
abbrev Zin:AC:=(.seq (sR 12 Xte (.block 2 (.loop Zdg))) Zdl)
abbrev Zww:AC:=(.seq (sR 7 Xq1 (.block 0 (.loop Zg7))) Zin)
abbrev Yo4:AC:=(.seq (sR 5 Wlz (.cond (.t 65) (sR 6 Wol .ret) .skip)) Zww)
abbrev Zxi:AC:=(.seq (sR 3 Xy3 (.cond (.t 43) (sR 4 Yu8 .ret) .skip)) Yo4)
abbrev Zoi:AC:=(.seq (sR 1 Xer (.cond (.t 9) (sR 2 Yxf .ret) .skip)) Zxi)
abbrev Xbz:AC:=(sR 0 Ynf Zoi)
def Ze5:AF:={ nt:=99,res:=[.tmp 4],body:=Xbz }
abbrev Ypw (PG:Za)(d:Nat)(Q:AE->Sl->St->Prop)(i5:Int)(m0:Ze)(m1:Zi):Prop:=
  ∀(σ:Sl)(st:St) (v0 v1:Nat),σ 2=.p (d,0) v0 0->σ 3=.p (d,1) v1 0->σ 5=.i .i64 i5->lk st.bx (d,0)=some (v0,Ze.cs m0)->lk st.bx (d,1)=some (v1,Zi.cs m1)->W PG d (.loop Zg7) σ st (Zw 0 (Zl PG d Zin Q))
abbrev Yb7 (PG:Za)(d:Nat)(Q:AE->Sl->St->Prop)(i6:Int)(m0:Ze)(m1:Zi):Prop:=
  ∀(σ:Sl)(st:St) (v0 v1:Nat),σ 2=.p (d,0) v0 0->σ 3=.p (d,1) v1 0->σ 6=.i .i64 i6->lk st.bx (d,0)=some (v0,Ze.cs m0)->lk st.bx (d,1)=some (v1,Zi.cs m1)->W PG d (.loop Zdg) σ st (Zw 2 (Zl PG d Zdl Q))
def Zva (PG:Za)(K:Bool->Prop) :Prop:=
  K true
def Zfm (PG:Za)(K:Bool->Prop)(P1:Int->Ze->Zi->Prop)(i6:Int)(m0:Ze)(m1:Zi):Prop:=
  (i6<(m1.defers.length:Int)->0<=i6/\∃e:Zr,m1.defers[(i6).toNat]?=some e/\∃c,Zf PG 235 [m0.av,.i .i64 (m1.frames.length:Int),e.av] (.b c)/\((!c)=true->K false)/\((!c)=false->P1 (IntKind.i64.wrap (i6+1)) m0 m1))/\(¬(i6<(m1.defers.length:Int))->Zva PG K )
def Zsr (PG:Za)(K:Bool->Prop)(m0:Ze)(m1:Zi):Prop:=
  ∀P1:Int->Ze->Zi->Prop,(∀(i6:Int)(m0:Ze)(m1:Zi),Zfm PG K P1 i6 m0 m1->P1 i6 m0 m1)->P1 0 m0 m1
def Zcv (PG:Za)(K:Bool->Prop)(P0:Int->Ze->Zi->Prop)(i5:Int)(m0:Ze)(m1:Zi):Prop:=
  (i5<(m1.frames.length:Int)->0<=i5/\∃e:Zg,m1.frames[(i5).toNat]?=some e/\∃c,Zf PG 87 [m0.av,e.av] (.i .i64 c)/\(c≠0->K false)/\(¬(c≠0)->P0 (IntKind.i64.wrap (i5+1)) m0 m1))/\(¬(i5<(m1.frames.length:Int))->Zsr PG K m0 m1)
def Zk3 (PG:Za)(K:Bool->Prop)(m0:Ze)(m1:Zi):Prop:=
  ∀P0:Int->Ze->Zi->Prop,(∀(i5:Int)(m0:Ze)(m1:Zi),Zcv PG K P0 i5 m0 m1->P0 i5 m0 m1)->P0 0 m0 m1
def Af (PG:Za)(K:Bool->Prop)(m0:Ze)(m1:Zi):Prop:=
  ((m1.frames.length:Int)<1->K false)/\(¬((m1.frames.length:Int)<1)->((m1.frames.length:Int)>170->K false)/\(¬((m1.frames.length:Int)>170)->((m1.defers.length:Int)>410->K false)/\(¬((m1.defers.length:Int)>410)->∃c,Zf PG 163 [.sl .ext (List.map Zh.row m1.panics)] (.i .i64 c)/\(c≠0->K false)/\(¬(c≠0)->Zk3 PG K m0 m1))))
def Zj8 (PG:Za)(K:Bool->Prop)(m0:Ze)(m1:Zi):Prop:=
  (m1.status≠2->(m1.status≠1->K false)/\(¬(m1.status≠1)->(m1.key≠0->K false)/\(¬(m1.key≠0)->Af PG K m0 m1)))/\(¬(m1.status≠2)->Af PG K m0 m1)
def Zju (PG:Za)(K:Bool->Prop)(m0:Ze)(m1:Zi):Prop:=
  (m1.status=3->((m1.frames.length:Int)=0->((m1.defers.length:Int)=0->((m1.panics.length:Int)=0->K (decide (m1.key=0)))/\(¬((m1.panics.length:Int)=0)->K false))/\(¬((m1.defers.length:Int)=0)->K false))/\(¬((m1.frames.length:Int)=0)->K false))/\(¬(m1.status=3)->Zj8 PG K m0 m1)
def Zlm (PG:Za)(K:Bool->Prop)(m0:Ze)(x1:Zi):Prop:=
  Zju PG K m0 x1
section
variable {PG:Za}{d:Nat}{Q:AE->Sl->St->Prop}{K:Bool->Prop}(hQ:H1 AV.b 4 Q K){σ:Sl}{st:St}
include hQ
variable {i6:Int}{m0:Ze}{m1:Zi}{P1:Int->Ze->Zi->Prop}{v0 v1:Nat}{i5:Int}{P0:Int->Ze->Zi->Prop}{x1:Zi}
variable (kP1 :∀(i6:Int)(m0:Ze)(m1:Zi),P1 i6 m0 m1->Yb7 PG d Q i6 m0 m1) (kP0 :∀(i5:Int)(m0:Ze)(m1:Zi),P0 i5 m0 m1->Ypw PG d Q i5 m0 m1)(H0:σ 0=m0.av)(H2:σ 2=.p (d,0) v0 0)(H1:σ 1=x1.av)(H3:σ 3=.p (d,1) v1 0)(H6:σ 6=.i .i64 i6)(H5:σ 5=.i .i64 i5)(B0:lk st.bx (d,0)=some (v0,Ze.cs m0))(B1:lk st.bx (d,1)=some (v1,Zi.cs m1))
theorem Wnv (h:Zva PG K ):W PG d Zdl σ st Q:=
 au trivial
include kP1 H2 H3 H6 B0 B1 in
theorem Wpy (h:Zfm PG K P1 i6 m0 m1):W PG d Zdg σ st (Zl PG d (.loop Zdg) (Zw 2 (Zl PG d Zdl Q))):=
 au @Wnv
include H2 H3 B0 B1 in
theorem Xm7 (h:Zsr PG K m0 m1):W PG d Zin σ st Q:=
 Zk (q_ J (m_ (e_ (Yh (h (Yb7 PG d Q ) (fun _ _ _ hb _ _ _ _ H2 H3 H6 B0 B1=>W.loop (Wpy hQ (fun _ _ _ x=>x) H2 H3 H6 B0 B1 hb)) _ _ _ _ H2 H3 J B0 B1)))))
include kP0 H2 H3 H5 B0 B1 in
theorem Xe1 (h:Zcv PG K P0 i5 m0 m1):W PG d Zg7 σ st (Zl PG d (.loop Zg7) (Zw 0 (Zl PG d Zin Q))):=
 au @Xm7
include H2 H3 B0 B1 in
theorem Wnj (h:Zk3 PG K m0 m1):W PG d Zww σ st Q:=
 Zk (q_ J (m_ (e_ (Yh (h (Ypw PG d Q ) (fun _ _ _ hb _ _ _ _ H2 H3 H5 B0 B1=>W.loop (Xe1 hQ (fun _ _ _ x=>x) H2 H3 H5 B0 B1 hb)) _ _ _ _ H2 H3 J B0 B1)))))
include H2 H3 B0 B1 in
theorem Ywv (h:Af PG K m0 m1):W PG d Yo4 σ st Q:=
 au @Wnj
include H2 H3 B0 B1 in
theorem Wor (h:Zj8 PG K m0 m1):W PG d Zxi σ st Q:=
 au @Ywv
include H2 H3 B0 B1 in
theorem Xy5 (h:Zju PG K m0 m1):W PG d Zoi σ st Q:=
 au @Wor
include H0 H1 in
theorem Yw3 (h:Zlm PG K m0 x1):W PG d (sR 0 Ynf Zoi) σ st Q:=
 au @Xy5
end
theorem Wlq {PG:Za}(hf:PG.fn 221=some Ze5){m0:Ze}{x1:Zi}{K:Bool->Prop}(h:Zlm PG K m0 x1) :∃res0:Bool,K res0/\Zf PG 221 [m0.av,x1.av] (.b res0):=
 P1 hf J (Yw3 (h1 J fun _=>J) J J h)
def Yl0:List AI:=[oY 2 3 0,oY 3 4 1,oI 4 0]
def Ygx:List AI:=[oF 6 0 3,oL 7 6,oW 8 .lss 7 1,oM 9 8,gF 9 (oF 10 0 3),gF 9 (oL 11 10),gF 9 (oW 12 .gtr 11 8),oR 13 9 12,oM 14 13,gF 14 (oF 15 2 3),gF 14 (oL 16 15),gF 14 (oV 17 .lss 16 0),oR 18 14 17,oM 19 18,gF 19 (oF 20 2 3),gF 19 (oL 21 20),gF 19 (oV 22 .gtr 21 5000),oR 23 19 22,oM 24 23,gF 24 (oF 25 3 3),gF 24 (oL 26 25),gF 24 (oJ 27 26),gF 24 (oV 28 .gtr 27 16),oR 29 24 28,oM 30 29,gF 30 (oF 31 1 3),gF 30 (oL 32 31),gF 30 (oV 33 .lss 32 (-1)),oR 34 30 33,oM 35 34,gF 35 (oF 36 1 3),gF 35 (oL 37 36),gF 35 (oF 38 3 3),gF 35 (oL 39 38),gF 35 (oJ 40 39),gF 35 (oT 41 .geq 37 40),oR 42 35 41]
def Yej:List AI:=[oI 4 8]
def Ys6:List AI:=[oI 5 0]
def Waj:List AI:=[oM 43 5,oF 44 3 3,oL 45 44,oJ 46 45,oT 47 .lss 43 46]
def Yxo:List AI:=[oK 50 3 2,oF 51 3 3,oL 52 51,oM 53 5,oX 54 5 52 53,oK 55 5 54,oQ 56 221 [50,55],oZ 57 56]
def Ytx:List AI:=[oI 4 8]
def Wsj:List AI:=[oM 48 5,oV 49 .add 48 1,oM 5 49]
def Wkq:List AI:=[oI 4 0]
abbrev Ze6:AC:=(.seq (sR 4 Waj (.cond (.t 47) .skip (.exit 0))) (.seq (.block 1 (sR 6 Yxo (.cond (.t 57) (sR 7 Ytx .ret) .skip))) (.reg 5 Wsj)))
abbrev Zc3:AC:=(sR 8 Wkq .ret)
abbrev Zt0:AC:=(.seq (sR 3 Ys6 (.block 0 (.loop Ze6))) Zc3)
abbrev Xv1:AC:=(sR 0 Yl0 (.seq (sR 1 Ygx (.cond (.t 42) (sR 2 Yej .ret) .skip)) Zt0))
def Zc0:AF:={ nt:=58,res:=[.tmp 4],body:=Xv1 }
abbrev Yjy (PG:Za)(d:Nat)(Q:AE->Sl->St->Prop)(i5:Int)(m0:Ze)(m1:Zt):Prop:=
  ∀(σ:Sl)(st:St) (v0 v1:Nat),σ 2=.p (d,0) v0 0->σ 3=.p (d,1) v1 0->σ 5=.i .i64 i5->lk st.bx (d,0)=some (v0,Ze.cs m0)->lk st.bx (d,1)=some (v1,Zt.cs m1)->W PG d (.loop Ze6) σ st (Zw 0 (Zl PG d Zc3 Q))
def Zjp (PG:Za)(K:Int->Prop) :Prop:=
  K 0
def Zfu (PG:Za)(K:Int->Prop)(P0:Int->Ze->Zt->Prop)(i5:Int)(m0:Ze)(m1:Zt):Prop:=
  (i5<(m1.routines.length:Int)->0<=i5/\∃e:Zi,m1.routines[(i5).toNat]?=some e/\∃c,Zf PG 221 [m0.av,e.av] (.b c)/\((!c)=true->K 8)/\((!c)=false->P0 (IntKind.i64.wrap (i5+1)) m0 m1))/\(¬(i5<(m1.routines.length:Int))->Zjp PG K )
def Zvj (PG:Za)(K:Int->Prop)(m0:Ze)(m1:Zt):Prop:=
  ∀P0:Int->Ze->Zt->Prop,(∀(i5:Int)(m0:Ze)(m1:Zt),Zfu PG K P0 i5 m0 m1->P0 i5 m0 m1)->P0 0 m0 m1
def Zr4 (PG:Za)(K:Int->Prop)(m0:Ze)(s1:Zt):Prop:=
  (s1.outcome<1->K 8)/\(¬(s1.outcome<1)->(s1.outcome>8->K 8)/\(¬(s1.outcome>8)->(s1.steps<0->K 8)/\(¬(s1.steps<0)->(s1.steps>5000->K 8)/\(¬(s1.steps>5000)->((s1.routines.length:Int)>16->K 8)/\(¬((s1.routines.length:Int)>16)->(s1.failing<(-1)->K 8)/\(¬(s1.failing<(-1))->(s1.failing>=(s1.routines.length:Int)->K 8)/\(¬(s1.failing>=(s1.routines.length:Int))->Zvj PG K m0 s1)))))))
section
variable {PG:Za}{d:Nat}{Q:AE->Sl->St->Prop}{K:Int->Prop}(hQ:H1 (AV.i .i64) 4 Q K){σ:Sl}{st:St}
include hQ
variable {i5:Int}{m0:Ze}{m1:Zt}{P0:Int->Ze->Zt->Prop}{v0 v1:Nat}{s1:Zt}
variable (kP0 :∀(i5:Int)(m0:Ze)(m1:Zt),P0 i5 m0 m1->Yjy PG d Q i5 m0 m1)(H0:σ 0=m0.av)(H2:σ 2=.p (d,0) v0 0)(H1:σ 1=s1.av)(H3:σ 3=.p (d,1) v1 0)(H5:σ 5=.i .i64 i5)(B0:lk st.bx (d,0)=some (v0,Ze.cs m0))(B1:lk st.bx (d,1)=some (v1,Zt.cs m1))
theorem Xuv (h:Zjp PG K ):W PG d Zc3 σ st Q:=
 au trivial
include kP0 H2 H3 H5 B0 B1 in
theorem Xzw (h:Zfu PG K P0 i5 m0 m1):W PG d Ze6 σ st (Zl PG d (.loop Ze6) (Zw 0 (Zl PG d Zc3 Q))):=
 au @Xuv
include H2 H3 B0 B1 in
theorem Xbg (h:Zvj PG K m0 m1):W PG d Zt0 σ st Q:=
 Zk (q_ J (m_ (e_ (Yh (h (Yjy PG d Q ) (fun _ _ _ hb _ _ _ _ H2 H3 H5 B0 B1=>W.loop (Xzw hQ (fun _ _ _ x=>x) H2 H3 H5 B0 B1 hb)) _ _ _ _ H2 H3 J B0 B1)))))
include H0 H1 in
theorem Wm8 (h:Zr4 PG K m0 s1):W PG d (sR 0 Yl0 (.seq (sR 1 Ygx (.cond (.t 42) (sR 2 Yej .ret) .skip)) Zt0)) σ st Q:=
 au @Xbg
end
theorem Ytm {PG:Za}(hf:PG.fn 214=some Zc0){m0:Ze}{s1:Zt}{K:Int->Prop}(h:Zr4 PG K m0 s1) :∃res0:Int,K res0/\Zf PG 214 [m0.av,s1.av] (.i .i64 res0):=
 P1 hf J (Wm8 (h1 J fun _=>J) J J h)
end Go.AM

/- Yg of the proof. -/
namespace Go.AM
open Go
set_option linter.unusedVariables false
set_option linter.unusedSimpArgs false
set_option maxRecDepth 4000
set_option maxHeartbeats 2000000
attribute [local irreducible] Decidable.decide W WO Ww Wx
def Yjp:List AI:=[oY 2 3 0,oY 3 8 1,oC 4 (.s []),oI 5 0]
def Ye5:List AI:=[oF 12 2 2,oL 13 12,oF 14 1 3,oL 15 14,oX 16 7 13 15,oF 17 0 16,oL 18 17,oQ 19 11 [18],oM 11 19,oE 20 0 11,oE 21 1 11,oM 6 20,oM 7 21]
def Yqe:List AI:=[oM 22 7,oV 23 .neq 22 0]
def Yih:List AI:=[oM 24 7,oC 4 (.s []),oM 5 24]
def Yp5:List AI:=[oF 25 0 3,oL 26 25,oQ 27 216 [26],oB 28 .add (.c (.s [100,101,102,101,114,32])) (.t 27),oB 29 .add (.t 28) (.c (.s [32])),oF 30 1 3,oL 31 30,oQ 32 216 [31],oT 33 .add 29 32,oB 34 .add (.t 33) (.c (.s [32])),oM 35 6,oT 36 .add 34 35,oM 8 36]
def Yc3:List AI:=[oF 37 2 3,oL 38 37]
def Zxz:List AI:=[oF 40 3 3,oK 41 5 40,oQ 42 72 [41],oM 39 42,oE 43 0 39,oE 44 1 39,oM 9 43,oM 10 44]
def Yeb:List AI:=[oM 45 10,oV 46 .neq 45 0]
def Yov:List AI:=[oM 47 10,oC 4 (.s []),oM 5 47]
def Yf0:List AI:=[oM 48 8,oM 49 9,oB 50 .add (.c (.s [32,119,105,116,104,32])) (.t 49),oT 51 .add 48 50,oM 8 51]
def Wpb:List AI:=[oM 52 8,oM 4 52,oI 5 0]
abbrev Zot:AC:=(sR 10 Wpb .ret)
abbrev Xfk:AC:=(sR 0 Yjp (sR 1 Ye5 (.seq (sR 2 Yqe (.cond (.t 23) (sR 3 Yih .ret) .skip)) (sR 4 Yp5 (.seq (sR 5 Yc3 (.cond (.t 38) (sR 6 Zxz (.seq (sR 7 Yeb (.cond (.t 46) (sR 8 Yov .ret) .skip)) (.reg 9 Yf0))) .skip)) Zot)))))
def Zhb:AF:={ nt:=53,res:=[.tmp 4,.tmp 5],body:=Xfk }
def Zb3 (PG:Za)(K:BS->Int->Prop)(s8:BS):Prop:=
  K s8 0
def Zt3 (PG:Za)(K:BS->Int->Prop)(m0:Ze)(d1:Zr):Prop:=
  0<=d1.func/\∃q:Zz,m0.funcs[(d1.func).toNat]?=some q/\∃j:BS,∃k,Zf PG 11 [.s q.name] (.tup [.s j,.i .i64 k])/\(k≠0->K ([]:BS) k)/\(¬(k≠0)->∃c:BS,Zf PG 216 [.i .i64 d1.frame] (.s c)/\([100,101,102,101,114,32]:BS).length+c.length<=We/\(([100,101,102,101,114,32]:BS)++c).length+([32]:BS).length<=We/\∃e:BS,Zf PG 216 [.i .i64 d1.func] (.s e)/\((([100,101,102,101,114,32]:BS)++c)++([32]:BS)).length+e.length<=We/\(((([100,101,102,101,114,32]:BS)++c)++([32]:BS))++e).length+([32]:BS).length<=We/\((((([100,101,102,101,114,32]:BS)++c)++([32]:BS))++e)++([32]:BS)).length+j.length<=We/\(d1.hasArg=true->∃o:BS,∃p,Zf PG 72 [d1.arg.av] (.tup [.s o,.i .i64 p])/\(p≠0->K ([]:BS) p)/\(¬(p≠0)->([32,119,105,116,104,32]:BS).length+o.length<=We/\(((((([100,101,102,101,114,32]:BS)++c)++([32]:BS))++e)++([32]:BS))++j).length+(([32,119,105,116,104,32]:BS)++o).length<=We/\Zb3 PG K ((((((([100,101,102,101,114,32]:BS)++c)++([32]:BS))++e)++([32]:BS))++j)++(([32,119,105,116,104,32]:BS)++o))))/\(d1.hasArg=false->Zb3 PG K (((((([100,101,102,101,114,32]:BS)++c)++([32]:BS))++e)++([32]:BS))++j)))
section
variable {PG:Za}{d:Nat}{Q:AE->Sl->St->Prop}{K:BS->Int->Prop}(hQ:H2 AV.s (AV.i .i64) 4 5 Q K){σ:Sl}{st:St}
include hQ
variable {s8:BS}{m0:Ze}{d1:Zr}
variable (H8:σ 8=.s s8)(H0:σ 0=m0.av)(H1:σ 1=d1.av)
include H8 in
theorem Wjv (h:Zb3 PG K s8):W PG d Zot σ st Q:=
 au trivial
include H0 H1 in
theorem Wlc (h:Zt3 PG K m0 d1):W PG d (sR 0 Yjp (sR 1 Ye5 (.seq (sR 2 Yqe (.cond (.t 23) (sR 3 Yih .ret) .skip)) (sR 4 Yp5 (.seq (sR 5 Yc3 (.cond (.t 38) (sR 6 Zxz (.seq (sR 7 Yeb (.cond (.t 46) (sR 8 Yov .ret) .skip)) (.reg 9 Yf0))) .skip)) Zot))))) σ st Q:=
 au @Wjv
end
theorem Xy0 {PG:Za}(hf:PG.fn 234=some Zhb){m0:Ze}{d1:Zr}{K:BS->Int->Prop}(h:Zt3 PG K m0 d1) :∃res0:BS,∃res1:Int,K res0 res1/\Zf PG 234 [m0.av,d1.av] (.tup [.s res0,.i .i64 res1]):=
 P2 hf J (Wlc (h2 J fun _ _=>J) J J h)
def Ybj:List AI:=[oY 2 3 0,oY 3 5 1,oC 4 (.sl .full []),oI 5 0]
def Wff:List AI:=[oC 6 (.sl .full [])]
def Yyy:List AI:=[oF 19 2 3,oL 20 19,oJ 21 20,oI 22 0]
def Wo2:List AI:=[oT 23 .lss 22 21]
def Xv5:List AI:=[oM 24 22,oX 25 4 20 22,oK 26 4 25,oO 8 (.alloc [z6,z6,z7,zl]),oM 7 24,oS 4 8 26]
def Ysb:List AI:=[oK 28 3 2,oM 29 7,oK 30 4 8,oQ 31 82 [28,29,30],oM 27 31,oE 32 0 27,oE 33 1 27,oM 9 32,oM 10 33]
def Yya:List AI:=[oM 34 10,oV 35 .neq 34 0]
def Xxp:List AI:=[oM 36 10,oC 4 (.sl .full []),oM 5 36]
def Xj0:List AI:=[oM 37 6,oM 38 9,oO 39 (.app 1 16 (.t 37) (.t 38)),oM 6 39]
def Xxi:List AI:=[oV 40 .add 22 1,oM 22 40]
def Wrb:List AI:=[oF 41 3 3,oL 42 41,oJ 43 42,oI 44 0]
def Wka:List AI:=[oT 45 .lss 44 43]
def Xea:List AI:=[oX 46 8 42 44,oK 47 8 46,oO 12 (.alloc [z6,z6,zb,z8,z6,zs,zl,zb]),oS 8 12 47]
def We1:List AI:=[oK 49 3 2,oK 50 8 12,oQ 51 234 [49,50],oM 48 51,oE 52 0 48,oE 53 1 48,oM 13 52,oM 14 53]
def Xje:List AI:=[oM 54 14,oV 55 .neq 54 0]
def Wau:List AI:=[oM 56 14,oC 4 (.sl .full []),oM 5 56]
def Ywl:List AI:=[oM 57 6,oM 58 13,oO 59 (.bslice [zs] 1 [(0,(.t 58))]),oO 60 (.app 1 16 (.t 57) (.t 59)),oM 6 60]
def Xft:List AI:=[oV 61 .add 44 1,oM 44 61]
def Xfq:List AI:=[oF 62 4 3,oL 63 62,oJ 64 63,oI 65 0]
def Ywd:List AI:=[oT 66 .lss 65 64]
def Ysc:List AI:=[oX 67 7 63 65,oK 68 7 67,oO 16 (.alloc [z7,z8,z6,zs,zl,zb,z7]),oS 7 16 68]
def Wby:List AI:=[oK 70 7 16,oQ 71 154 [70],oM 69 71,oE 72 0 69,oE 73 1 69,oM 17 72,oM 18 73]
def Yw9:List AI:=[oM 74 18,oV 75 .neq 74 0]
def Yyj:List AI:=[oM 76 18,oC 4 (.sl .full []),oM 5 76]
def Xu2:List AI:=[oM 77 6,oM 78 17,oO 79 (.bslice [zs] 1 [(0,(.t 78))]),oO 80 (.app 1 16 (.t 77) (.t 79)),oM 6 80]
def Yws:List AI:=[oV 81 .add 65 1,oM 65 81]
def Yu9:List AI:=[oM 82 6,oM 4 82,oI 5 0]
abbrev Zeu:AC:=(sR 3 Wo2 (.seq (.cond (.t 23) .skip (.exit 0)) (.seq (.block 1 (sR 4 Xv5 (sR 5 Ysb (.seq (sR 6 Yya (.cond (.t 35) (sR 7 Xxp .ret) .skip)) (.reg 8 Xj0))))) (.reg 9 Xxi))))
abbrev Zfc:AC:=(sR 11 Wka (.seq (.cond (.t 45) .skip (.exit 2)) (.seq (.block 3 (sR 12 Xea (sR 13 We1 (.seq (sR 14 Xje (.cond (.t 55) (sR 15 Wau .ret) .skip)) (.reg 16 Ywl))))) (.reg 17 Xft))))
abbrev Zc4:AC:=(sR 19 Ywd (.seq (.cond (.t 66) .skip (.exit 4)) (.seq (.block 5 (sR 20 Ysc (sR 21 Wby (.seq (sR 22 Yw9 (.cond (.t 75) (sR 23 Yyj .ret) .skip)) (.reg 24 Xu2))))) (.reg 25 Yws))))
abbrev Zeo:AC:=(sR 26 Yu9 .ret)
abbrev Zif:AC:=(.seq (sR 18 Xfq (.block 4 (.loop Zc4))) Zeo)
abbrev Zes:AC:=(.seq (sR 10 Wrb (.block 2 (.loop Zfc))) Zif)
abbrev Yiy:AC:=(.seq (sR 2 Yyy (.block 0 (.loop Zeu))) Zes)
abbrev Zq4:AC:=(sR 1 Wff Yiy)
abbrev Xc1:AC:=(sR 0 Ybj Zq4)
def Zid:AF:={ nt:=83,res:=[.tmp 4,.tmp 5],body:=Xc1 }
abbrev Zx1 (PG:Za)(d:Nat)(Q:AE->Sl->St->Prop)(t20:List Zg)(t21:Int)(out6:LB)(t22:Int)(m0:Ze)(m1:Zi):Prop:=
  ∀(σ:Sl)(st:St) (o_out6 o_t20:Zn) (v0 v1:Nat),σ 2=.p (d,0) v0 0->σ 3=.p (d,1) v1 0->σ 6=.sl o_out6 (List.map Zv out6)->σ 20=.sl o_t20 (List.map Zg.row t20)->σ 21=.i .i64 t21->σ 22=.i .i64 t22->Xe d st.ow o_out6 out6.length->lk st.bx (d,0)=some (v0,Ze.cs m0)->lk st.bx (d,1)=some (v1,Zi.cs m1)->W PG d (.loop Zeu) σ st (Zw 0 (Zl PG d Zes Q))
abbrev Ymh (PG:Za)(d:Nat)(Q:AE->Sl->St->Prop)(t42:List Zr)(t43:Int)(out6:LB)(t44:Int)(m0:Ze)(m1:Zi):Prop:=
  ∀(σ:Sl)(st:St) (o_out6 o_t42:Zn) (v0 v1:Nat),σ 2=.p (d,0) v0 0->σ 3=.p (d,1) v1 0->σ 6=.sl o_out6 (List.map Zv out6)->σ 42=.sl o_t42 (List.map Zr.row t42)->σ 43=.i .i64 t43->σ 44=.i .i64 t44->Xe d st.ow o_out6 out6.length->lk st.bx (d,0)=some (v0,Ze.cs m0)->lk st.bx (d,1)=some (v1,Zi.cs m1)->W PG d (.loop Zfc) σ st (Zw 2 (Zl PG d Zif Q))
abbrev Zxj (PG:Za)(d:Nat)(Q:AE->Sl->St->Prop)(t63:List Zh)(t64:Int)(out6:LB)(t65:Int):Prop:=
  ∀(σ:Sl)(st:St) (o_out6 o_t63:Zn),σ 6=.sl o_out6 (List.map Zv out6)->σ 63=.sl o_t63 (List.map Zh.row t63)->σ 64=.i .i64 t64->σ 65=.i .i64 t65->Xe d st.ow o_out6 out6.length->W PG d (.loop Zc4) σ st (Zw 4 (Zl PG d Zeo Q))
def Zn9 (PG:Za)(K:LB->Int->Prop)(out6:LB):Prop:=
  K out6 0
def Zfb (PG:Za)(K:LB->Int->Prop)(P2:LB->Int->Prop)(out6:LB)(t63:List Zh)(t64:Int)(t65:Int):Prop:=
  (t65<t64->0<=t65/\∃j:Zh,t63[(t65).toNat]?=some j/\∃e c,Zf PG 154 [j.av] (.tup [.s e,.i .i64 c])/\(c≠0->K ([]:LB) c)/\(¬(c≠0)->Qn (out6.length+[e].length) 16/\P2 (out6++[e]) (IntKind.i64.wrap (t65+1))))/\(¬(t65<t64)->Zn9 PG K out6)
def Zoo (PG:Za)(K:LB->Int->Prop)(out6:LB)(m1:Zi):Prop:=
  ∀P2:LB->Int->Prop,(∀(out6:LB)(t65:Int),Zfb PG K P2 out6 m1.panics (m1.panics.length:Int) t65->P2 out6 t65)->P2 out6 0
def Zgq (PG:Za)(K:LB->Int->Prop)(P1:LB->Int->Ze->Zi->Prop)(out6:LB)(t42:List Zr)(t43:Int)(t44:Int)(m0:Ze)(m1:Zi):Prop:=
  (t44<t43->0<=t44/\∃j:Zr,t42[(t44).toNat]?=some j/\∃e c,Zf PG 234 [m0.av,j.av] (.tup [.s e,.i .i64 c])/\(c≠0->K ([]:LB) c)/\(¬(c≠0)->Qn (out6.length+[e].length) 16/\P1 (out6++[e]) (IntKind.i64.wrap (t44+1)) m0 m1))/\(¬(t44<t43)->Zoo PG K out6 m1)
def Zkq (PG:Za)(K:LB->Int->Prop)(out6:LB)(m0:Ze)(m1:Zi):Prop:=
  ∀P1:LB->Int->Ze->Zi->Prop,(∀(out6:LB)(t44:Int)(m0:Ze)(m1_b:Zi),Zgq PG K P1 out6 m1.defers (m1.defers.length:Int) t44 m0 m1_b->P1 out6 t44 m0 m1_b)->P1 out6 0 m0 m1
def Zgv (PG:Za)(K:LB->Int->Prop)(P0:LB->Int->Ze->Zi->Prop)(out6:LB)(t20:List Zg)(t21:Int)(t22:Int)(m0:Ze)(m1:Zi):Prop:=
  (t22<t21->0<=t22/\∃j:Zg,t20[(t22).toNat]?=some j/\∃e:LB,∃c,Zf PG 82 [m0.av,.i .i64 t22,j.av] (.tup [.sl .ext (List.map Zv e),.i .i64 c])/\(c≠0->K ([]:LB) c)/\(¬(c≠0)->Qn (out6.length+e.length) 16/\P0 (out6++e) (IntKind.i64.wrap (t22+1)) m0 m1))/\(¬(t22<t21)->Zkq PG K out6 m0 m1)
def Zuo (PG:Za)(K:LB->Int->Prop)(out6:LB)(m0:Ze)(m1:Zi):Prop:=
  ∀P0:LB->Int->Ze->Zi->Prop,(∀(out6:LB)(t22:Int)(m0:Ze)(m1_b:Zi),Zgv PG K P0 out6 m1.frames (m1.frames.length:Int) t22 m0 m1_b->P0 out6 t22 m0 m1_b)->P0 out6 0 m0 m1
def Zqz (PG:Za)(K:LB->Int->Prop)(m0:Ze)(m1:Zi):Prop:=
  Zuo PG K ([]:LB) m0 m1
def Zry (PG:Za)(K:LB->Int->Prop)(m0:Ze)(x1:Zi):Prop:=
  Zqz PG K m0 x1
section
variable {PG:Za}{d:Nat}{Q:AE->Sl->St->Prop}{K:LB->Int->Prop}(hQ:HM Zv (AV.i .i64) 4 5 Q K){σ:Sl}{st:St}
include hQ
variable {out6:LB}{o_out6:Zn}{t63:List Zh}{t64 t65:Int}{P2:LB->Int->Prop}{o_t63:Zn}{m1:Zi}{v1:Nat}{t42:List Zr}{t43 t44:Int}{m0:Ze}{P1:LB->Int->Ze->Zi->Prop}{o_t42:Zn}{v0:Nat}{t20:List Zg}{t21 t22:Int}{P0:LB->Int->Ze->Zi->Prop}{o_t20:Zn}{x1:Zi}
variable (kP2 :∀(out6:LB)(t65:Int),P2 out6 t65->Zxj PG d Q t63 t64 out6 t65) (kP1 :∀(out6:LB)(t44:Int)(m0:Ze)(m1:Zi),P1 out6 t44 m0 m1->Ymh PG d Q t42 t43 out6 t44 m0 m1) (kP0 :∀(out6:LB)(t22:Int)(m0:Ze)(m1:Zi),P0 out6 t22 m0 m1->Zx1 PG d Q t20 t21 out6 t22 m0 m1)(H0:σ 0=m0.av)(H2:σ 2=.p (d,0) v0 0)(H1:σ 1=x1.av)(H3:σ 3=.p (d,1) v1 0)(H6:σ 6=.sl o_out6 (List.map Zv out6))(H63:σ 63=.sl o_t63 (List.map Zh.row t63))(H42:σ 42=.sl o_t42 (List.map Zr.row t42))(H20:σ 20=.sl o_t20 (List.map Zg.row t20))(H64:σ 64=.i .i64 t64)(H43:σ 43=.i .i64 t43)(H21:σ 21=.i .i64 t21)(H65:σ 65=.i .i64 t65)(Gf:σ 44=.i .i64 t44)(Kv:σ 22=.i .i64 t22)(A6:Xe d st.ow o_out6 out6.length)(B0:lk st.bx (d,0)=some (v0,Ze.cs m0))(B1:lk st.bx (d,1)=some (v1,Zi.cs m1))
include H6 A6 in
theorem Wj7 (h:Zn9 PG K out6):W PG d Zeo σ st Q:=
 au trivial
include kP2 H6 H63 H64 H65 A6 in
theorem Yuw (h:Zfb PG K P2 out6 t63 t64 t65):W PG d Zc4 σ st (Zl PG d (.loop Zc4) (Zw 4 (Zl PG d Zeo Q))):=
 q_ J (b_ H65 H64 Wn (e_ (Zk (Yj J (fun e=>Yc (Zk (Yh (Zk (W.reg ((h.1 e).2.elim fun p k=>Wq H63 H65 (h.1 e).1 k.1 (Zh.row_eq p) J (Xk J J J (Xy (Ye J (show lk _ (d,81922)=some (_,([.i .u64 0,.i .u8 0,.i .i64 0,.s [],.sl .full (List.map Zb.row ([]:List Zb)),.b false,.i .u64 0]:List AV)) from Zj) J J J (e_ (q_ J (l_ J Zj J J (x2 k.2 fun r _ c=>Yi (Wr J J) c.1 (m_ (x_ J J (x_ J J (m_ (m_ (e_ (Zk (q_ J (m_ (b_ J J Ws (e_ (Yj J (fun j=>q_ J (m_ (Yf (f:=Zv) (l:=[]) J (m_ (Zo (hQ J J (c.2.1 j))))))) (fun j=>Yc (W.reg0 J fun _ _=>Yf H6 (m_ (Ja (f:=Zv) (l:=[r]) J J (Xw J J J Vn) J (Qk Nh J J J A6.1 (c.2.2 j).1 J (fun _ _ o _ q=>Yf J (e_ (W.reg0 J fun _ _=>b_ H65 J Vd (m_ (e_ (kP2 _ _ (c.2.2 j).2 _ _ _ _ J H63 H64 J (Xe.mk o (Gi.app A6.2 J q)))))))))))))))))))))))))))))))))))))) (fun e=>Vm (Wj7 hQ H6 A6 (h.2 e)))))))
include H3 H6 A6 B1 in
theorem Wfp (h:Zoo PG K out6 m1):W PG d Zif σ st Q:=
 Zk (q_ J (f_ H3 (l_ J B1 J J (Yo J (m_ (e_ (Yh (h (Zxj PG d Q m1.panics (m1.panics.length:Int)) (fun _ _ hb _ _ _ _ H6 H63 H64 H65 A6=>W.loop (Yuw hQ (fun _ _ x=>x) H6 H63 H64 H65 A6 hb)) _ _ _ _ H6 J J J A6))))))))
include kP1 H2 H3 H6 H42 H43 Gf A6 B0 B1 in
theorem Xw2 (h:Zgq PG K P1 out6 t42 t43 t44 m0 m1):W PG d Zfc σ st (Zl PG d (.loop Zfc) (Zw 2 (Zl PG d Zif Q))):=
 q_ J (b_ Gf H43 Wn (e_ (Zk (Yj J (fun e=>Yc (Zk (Yh (Zk (W.reg ((h.1 e).2.elim fun p k=>Wq H42 Gf (h.1 e).1 k.1 (Zr.row_eq p) J (Xk J J J (Xy (Ye J (show lk _ (d,49154)=some (_,([.i .i64 0,.i .i64 0,.b false,.i .u8 0,.i .i64 0,.s [],.sl .full (List.map Zb.row ([]:List Zb)),.b false]:List AV)) from Zj) J J J (e_ (q_ J (l_ H2 (Zs J (Zs J B0)) J J (l_ J Zj J J (x2 k.2 fun r _ c=>Yi (Je J J J) c.1 (m_ (x_ J J (x_ J J (m_ (m_ (e_ (Zk (q_ J (m_ (b_ J J Ws (e_ (Yj J (fun j=>q_ J (m_ (Yf (f:=Zv) (l:=[]) J (m_ (Zo (hQ J J (c.2.1 j))))))) (fun j=>Yc (W.reg0 J fun _ _=>Yf H6 (m_ (Ja (f:=Zv) (l:=[r]) J J (Xw J J J Vn) J (Qk Nh J J J A6.1 (c.2.2 j).1 J (fun _ _ o _ q=>Yf J (e_ (W.reg0 J fun _ _=>b_ Gf J Vd (m_ (e_ (kP1 _ _ _ _ (c.2.2 j).2 _ _ _ _ _ _ H2 H3 J H42 H43 J (Xe.mk o (Gi.app A6.2 J q)) (Zs J (Zs J B0)) (Zs J (Zs J B1))))))))))))))))))))))))))))))))))))))) (fun e=>Vm (Wfp hQ H3 H6 A6 B1 (h.2 e)))))))
include H2 H3 H6 A6 B0 B1 in
theorem Wgx (h:Zkq PG K out6 m0 m1):W PG d Zes σ st Q:=
 Zk (q_ J (f_ H3 (l_ J B1 J J (Yo J (m_ (e_ (Yh (h (Ymh PG d Q m1.defers (m1.defers.length:Int)) (fun _ _ _ _ hb _ _ _ _ _ _ H2 H3 H6 H42 H43 Gf A6 B0 B1=>W.loop (Xw2 hQ (fun _ _ _ _ x=>x) H2 H3 H6 H42 H43 Gf A6 B0 B1 hb)) _ _ _ _ _ _ H2 H3 H6 J J J A6 B0 B1))))))))
include kP0 H2 H3 H6 H20 H21 Kv A6 B0 B1 in
theorem Wf0 (h:Zgv PG K P0 out6 t20 t21 t22 m0 m1):W PG d Zeu σ st (Zl PG d (.loop Zeu) (Zw 0 (Zl PG d Zes Q))):=
 au @Wgx
include H2 H3 H6 A6 B0 B1 in
theorem Xvp (h:Zuo PG K out6 m0 m1):W PG d Yiy σ st Q:=
 Zk (q_ J (f_ H3 (l_ J B1 J J (Yo J (m_ (e_ (Yh (h (Zx1 PG d Q m1.frames (m1.frames.length:Int)) (fun _ _ _ _ hb _ _ _ _ _ _ H2 H3 H6 H20 H21 Kv A6 B0 B1=>W.loop (Wf0 hQ (fun _ _ _ _ x=>x) H2 H3 H6 H20 H21 Kv A6 B0 B1 hb)) _ _ _ _ _ _ H2 H3 H6 J J J A6 B0 B1))))))))
include H2 H3 B0 B1 in
theorem Xk1 (h:Zqz PG K m0 m1):W PG d Zq4 σ st Q:=
 au @Xvp
include H0 H1 in
theorem Xp0 (h:Zry PG K m0 x1):W PG d (sR 0 Ybj Zq4) σ st Q:=
 q_ J (Vx H0 J (Vx H1 J (Yf (f:=Zv) (l:=[]) J (m_ (e_ (Xk1 hQ J J (Zs J Zj) Zj h))))))
end
theorem Xod {PG:Za}(hf:PG.fn 220=some Zid){m0:Ze}{x1:Zi}{K:LB->Int->Prop}(h:Zry PG K m0 x1) :∃res0:LB,∃res1:Int,K res0 res1/\Zf PG 220 [m0.av,x1.av] (.tup [.sl .ext (List.map Zv res0),.i .i64 res1]):=
 P2 hf J (Xp0 (hM J fun _ _ _=>J) J J h)
def Yj1:List AI:=[oY 3 3 0,oY 5 5 2,oC 6 (.sl .full []),oI 7 0]
def Yor:List AI:=[oM 13 1,oV 14 .lss 13 0,oM 15 14,gF 15 (oM 16 1),gF 15 (oV 17 .geq 16 16),oR 18 15 17]
def Yei:List AI:=[oC 6 (.sl .full []),oI 7 2]
def Xl5:List AI:=[oK 19 3 3,oK 20 5 5,oQ 21 219 [19,20],oZ 22 21]
def Wt1:List AI:=[oC 6 (.sl .full []),oI 7 8]
def Yx2:List AI:=[oK 24 3 3,oK 25 5 5,oQ 26 220 [24,25],oM 23 26,oE 27 0 23,oE 28 1 23,oM 8 27,oM 9 28]
def Xpa:List AI:=[oM 29 9,oV 30 .neq 29 0]
def We6:List AI:=[oM 31 9,oC 6 (.sl .full []),oM 7 31]
def Wu3:List AI:=[oM 32 1,oQ 33 216 [32],oB 34 .add (.c (.s [103,111,114,111,117,116,105,110,101,32])) (.t 33),oB 35 .add (.t 34) (.c (.s [58,32])),oF 36 1 5,oL 37 36,oQ 38 15 [37],oB 39 .add (.c (.s [98,108,111,99,107,101,100,32])) (.t 38),oO 40 (.build [zs,zs,zs,zs] [(1,1,(.c (.s [114,101,97,100,121]))),(3,1,(.c (.s [100,111,110,101]))),(2,1,(.t 39))]),oF 41 0 5,oL 42 41,oO 43 (.ixA 4 1 false (.t 40) (.t 42)),oT 44 .add 35 43,oO 45 (.bslice [zs] 1 [(0,(.t 44))]),oM 10 45]
def Xiq:List AI:=[oM 46 8,oJ 47 46,oI 48 0]
def Wis:List AI:=[oT 49 .lss 48 47]
def Xmb:List AI:=[oX 50 1 46 48,oL 51 50,oM 12 51]
def Xed:List AI:=[oM 52 10,oM 53 12,oB 54 .add (.c (.s [32,32])) (.t 53),oO 55 (.bslice [zs] 1 [(0,(.t 54))]),oO 56 (.app 1 16 (.t 52) (.t 55)),oM 10 56]
def Xkq:List AI:=[oV 57 .add 48 1,oM 48 57]
def Whq:List AI:=[oM 58 10,oM 6 58,oI 7 0]
abbrev Ziw:AC:=(sR 10 Wis (.seq (.cond (.t 49) .skip (.exit 0)) (.seq (.block 1 (sR 11 Xmb (.reg 12 Xed))) (.reg 13 Xkq))))
abbrev Zge:AC:=(sR 14 Whq .ret)
abbrev Zkx:AC:=(.seq (sR 3 Xl5 (.cond (.t 22) (sR 4 Wt1 .ret) .skip)) (sR 5 Yx2 (.seq (sR 6 Xpa (.cond (.t 30) (sR 7 We6 .ret) .skip)) (sR 8 Wu3 (.seq (sR 9 Xiq (.block 0 (.loop Ziw))) Zge)))))
abbrev Yx4:AC:=(sR 0 Yj1 (.seq (sR 1 Yor (.cond (.t 18) (sR 2 Yei .ret) .skip)) Zkx))
def Zhl:AF:={ nt:=59,res:=[.tmp 6,.tmp 7],body:=Yx4 }
abbrev Ya8 (PG:Za)(d:Nat)(Q:AE->Sl->St->Prop)(t46:LB)(t47:Int)(out10:LB)(t48:Int):Prop:=
  ∀(σ:Sl)(st:St) (o_out10 o_t46:Zn),σ 10=.sl o_out10 (List.map Zv out10)->σ 46=.sl o_t46 (List.map Zv t46)->σ 47=.i .i64 t47->σ 48=.i .i64 t48->Xe d st.ow o_out10 out10.length->W PG d (.loop Ziw) σ st (Zw 0 (Zl PG d Zge Q))
def Zqw (PG:Za)(K:LB->Int->Prop)(out10:LB):Prop:=
  K out10 0
def Zco (PG:Za)(K:LB->Int->Prop)(P0:LB->Int->Prop)(out10:LB)(t46:LB)(t47:Int)(t48:Int):Prop:=
  (t48<t47->0<=t48/\∃c:BS,t46[(t48).toNat]?=some c/\([32,32]:BS).length+c.length<=We/\Qn (out10.length+[(([32,32]:BS)++c)].length) 16/\P0 (out10++[(([32,32]:BS)++c)]) (IntKind.i64.wrap (t48+1)))/\(¬(t48<t47)->Zqw PG K out10)
def Zpy (PG:Za)(K:LB->Int->Prop)(g1:Int)(m0:Ze)(m1:Zi):Prop:=
  ∃c,Zf PG 219 [m0.av,m1.av] (.b c)/\((!c)=true->K ([]:LB) 8)/\((!c)=false->∃p:LB,∃j,Zf PG 220 [m0.av,m1.av] (.tup [.sl .ext (List.map Zv p),.i .i64 j])/\(j≠0->K ([]:LB) j)/\(¬(j≠0)->∃e:BS,Zf PG 216 [.i .i64 g1] (.s e)/\([103,111,114,111,117,116,105,110,101,32]:BS).length+e.length<=We/\(([103,111,114,111,117,116,105,110,101,32]:BS)++e).length+([58,32]:BS).length<=We/\∃k:BS,Zf PG 15 [.i .i64 m1.key] (.s k)/\([98,108,111,99,107,101,100,32]:BS).length+k.length<=We/\0<=m1.status/\∃o:BS,([[],([114,101,97,100,121]:BS),(([98,108,111,99,107,101,100,32]:BS)++k),([100,111,110,101]:BS)]:LB)[(m1.status).toNat]?=some o/\((([103,111,114,111,117,116,105,110,101,32]:BS)++e)++([58,32]:BS)).length+o.length<=We/\∀P0:LB->Int->Prop,(∀(out10:LB)(t48:Int),Zco PG K P0 out10 p (p.length:Int) t48->P0 out10 t48)->P0 [(((([103,111,114,111,117,116,105,110,101,32]:BS)++e)++([58,32]:BS))++o)] 0))
def Zuw (PG:Za)(K:LB->Int->Prop)(m0:Ze)(g1:Int)(x2:Zi):Prop:=
  (g1<0->K ([]:LB) 2)/\(¬(g1<0)->(g1>=16->K ([]:LB) 2)/\(¬(g1>=16)->Zpy PG K g1 m0 x2))
section
variable {PG:Za}{d:Nat}{Q:AE->Sl->St->Prop}{K:LB->Int->Prop}(hQ:HM Zv (AV.i .i64) 6 7 Q K){σ:Sl}{st:St}
include hQ
variable {out10:LB}{o_out10:Zn}{t46:LB}{t47 t48:Int}{P0:LB->Int->Prop}{o_t46:Zn}{g1:Int}{m0:Ze}{m1:Zi}{v0 v1:Nat}{x2:Zi}
variable (kP0 :∀(out10:LB)(t48:Int),P0 out10 t48->Ya8 PG d Q t46 t47 out10 t48)(H0:σ 0=m0.av)(H10:σ 10=.sl o_out10 (List.map Zv out10))(H1:σ 1=.i .i64 g1)(H46:σ 46=.sl o_t46 (List.map Zv t46))(H3:σ 3=.p (d,0) v0 0)(H2:σ 2=x2.av)(H47:σ 47=.i .i64 t47)(H5:σ 5=.p (d,1) v1 0)(H48:σ 48=.i .i64 t48)(B0:lk st.bx (d,0)=some (v0,Ze.cs m0))(A10:Xe d st.ow o_out10 out10.length)(B1:lk st.bx (d,1)=some (v1,Zi.cs m1))
include H10 A10 in
theorem Whm (h:Zqw PG K out10):W PG d Zge σ st Q:=
 au trivial
include kP0 H10 H46 H47 H48 A10 in
theorem Xai (h:Zco PG K P0 out10 t46 t47 t48):W PG d Ziw σ st (Zl PG d (.loop Ziw) (Zw 0 (Zl PG d Zge Q))):=
 q_ J (b_ H48 H47 Wn (e_ (Zk (Yj J (fun e=>Yc (Zk (Yh (q_ J ((h.1 e).2.elim fun j c=>Wq H46 H48 (h.1 e).1 c.1 J J (Xk J J J (m_ (e_ (W.reg0 J fun _ _=>Yf H10 (m_ (b_ J J (Jc c.2.1) (Ja (f:=Zv) (l:=[(([32,32]:BS)++j)]) J J (Xw J J J Vn) J (Qk Nh J J J A10.1 c.2.2.1 J (fun _ _ i _ k=>Yf J (e_ (W.reg0 J fun _ _=>b_ H48 J Vd (m_ (e_ (kP0 _ _ c.2.2.2 _ _ _ _ J H46 H47 J (Xe.mk i (Gi.app A10.2 J k))))))))))))))))))))) (fun e=>Vm (Whm hQ H10 A10 (h.2 e)))))))
include H1 H3 H5 B0 B1 in
theorem Wfr (h:Zpy PG K g1 m0 m1):W PG d Zkx σ st Q:=
 Zk (q_ J (l_ H3 B0 J J (l_ H5 B1 J J (h.elim fun _ j=>Yi (Je J J J) j.1 (Xx J (e_ (Xs J (fun o=>q_ J (Yf (f:=Zv) (l:=[]) J (m_ (Zo (hQ J J (j.2.1 o)))))) (fun o=>Yc (q_ J (l_ H3 B0 J J (l_ H5 B1 J J (x2 (j.2.2 o) fun q _ k=>Yi (Je J J J) k.1 (m_ (x_ J J (x_ J J (Yf J (m_ (e_ (Zk (q_ J (m_ (b_ J J Ws (e_ (Yj J (fun p=>q_ J (m_ (Yf (f:=Zv) (l:=[]) J (m_ (Zo (hQ J J (k.2.1 p))))))) (fun p=>Yc (q_ J (m_ ((k.2.2 p).elim fun v e=>Yi (Wr H1 J) e.1 (b_ J J (Jc e.2.1) (b_ J J (Jc e.2.2.1) (f_ H5 (l_ J B1 J J (e.2.2.2.elim fun u c=>Yi (Wr J J) c.1 (b_ J J (Jc c.2.1) (Lv (f:=AV.s) (l:=[[],([114,101,97,100,121]:BS),(([98,108,111,99,107,101,100,32]:BS)++u),([100,111,110,101]:BS)]) (Yn J J (Yn J J (Yn J J Xr))) J (f_ H5 (l_ J B1 J J (c.2.2.2.elim fun r i=>Tl (f:=AV.s) J J J c.2.2.1 i.1 (b_ J J (Jc i.2.1) (Ja (f:=Zv) (l:=[(((([103,111,114,111,117,116,105,110,101,32]:BS)++v)++([58,32]:BS))++r)]) J J (Xw J J J Vn) J (Yf J (e_ (Zk (q_ J (Yf J (Yo J (m_ (e_ (Yh (i.2.2 (Ya8 PG d Q q (q.length:Int)) (fun _ _ hb _ _ _ _ H10 H46 H47 H48 A10=>W.loop (Xai hQ (fun _ _ x=>x) H10 H46 H47 H48 A10 hb)) _ _ _ _ J J J J Xe.full))))))))))))))))))))))))))))))))))))))))))))))))))
include H0 H1 H2 in
theorem Wpn (h:Zuw PG K m0 g1 x2):W PG d (sR 0 Yj1 (.seq (sR 1 Yor (.cond (.t 18) (sR 2 Yei .ret) .skip)) Zkx)) σ st Q:=
 q_ J (Vx H0 J (Vx H2 J (Yf (f:=Zv) (l:=[]) J (m_ (e_ (Zk (q_ J (Xa H1 (b_ J J Wn (Yq J (Ym (g:=15) J (fun c=>z_ 3 J (e_ (Yl J (q_ J (Yf (f:=Zv) (l:=[]) J (m_ (Zo (hQ J J (h.1 c))))))))) (fun c=>Zc J (Xa H1 (Zc J (b_ J J Ul (Vf J J (e_ (Yj J (fun e=>q_ J (Yf (f:=Zv) (l:=[]) J (m_ (Zo (hQ J J ((h.2 c).1 e)))))) (fun e=>Yc (Wfr hQ H1 J J (Zs J Zj) Zj ((h.2 c).2 e)))))))))))))))))))))
end
theorem Wcc {PG:Za}(hf:PG.fn 207=some Zhl){m0:Ze}{g1:Int}{x2:Zi}{K:LB->Int->Prop}(h:Zuw PG K m0 g1 x2) :∃res0:LB,∃res1:Int,K res0 res1/\Zf PG 207 [m0.av,.i .i64 g1,x2.av] (.tup [.sl .ext (List.map Zv res0),.i .i64 res1]):=
 P2 hf J (Wpn (hM J fun _ _ _=>J) J J J h)
abbrev Wd4 (Q:AE->Sl->St->Prop)(K:LB->Prop):Prop:=∀(σ:Sl)(st:St)(o0:Zn)(res0:LB),σ 6=.sl o0 (List.map Zv res0)->K res0->Q .ret σ st
section
variable {PG:Za}{d:Nat}{Q:AE->Sl->St->Prop}{K:LB->Prop}(hQ:Wd4 Q K){σ:Sl}{st:St}
include hQ
end
abbrev Xht (Q:AE->Sl->St->Prop)(K:LB->Int->Prop):Prop:=∀(σ:Sl)(st:St)(o0:Zn)(res0:LB)(res1:Int),σ 6=.sl o0 (List.map Zv res0)->σ 7=.i .i64 res1->K res0 res1->Q .ret σ st
section
variable {PG:Za}{d:Nat}{Q:AE->Sl->St->Prop}{K:LB->Int->Prop}(hQ:Xht Q K){σ:Sl}{st:St}
include hQ
end
def Zxu:List AI:=[oY 2 3 0,oY 3 4 1,oC 4 (.s []),oI 5 0]
def We7:List AI:=[oK 14 3 2,oK 15 4 3,oQ 16 213 [14,15],oM 6 16]
def Wgc:List AI:=[oM 17 6,oV 18 .neq 17 0]
def Xb5:List AI:=[oM 19 6,oC 4 (.s []),oM 5 19]
def Xtn:List AI:=[oO 7 (.alloc [.np,.sl .full []])]
def Yus:List AI:=[oQ 20 215 [],oF 21 0 3,oL 22 21,oO 23 (.ixA 9 1 false (.t 20) (.t 22)),oB 24 .add (.c (.s [111,117,116,99,111,109,101,32])) (.t 23),oB 25 .add (.t 24) (.c (.s [44,32,102,97,105,108,105,110,103,32])),oF 26 1 3,oL 27 26,oQ 28 216 [27],oT 29 .add 25 28,oB 30 .add (.t 29) (.c (.s [44,32,115,116,101,112,115,32])),oF 31 2 3,oL 32 31,oQ 33 216 [32],oT 34 .add 30 33,oB 35 .add (.t 34) (.c (.s [10])),oO 36 (.call true 126 [(.t 7),(.t 35)])]
def Waz:List AI:=[oF 37 3 3,oL 38 37,oJ 39 38,oI 40 0]
def Xd6:List AI:=[oT 41 .lss 40 39]
def Xuk:List AI:=[oM 42 40,oX 43 5 38 40,oK 44 5 43,oO 9 (.alloc [z8,z6,zl,zl,zl]),oM 8 42,oS 5 9 44]
def Xvb:List AI:=[oK 46 3 2,oM 47 8,oK 48 5 9,oQ 49 207 [46,47,48],oM 45 49,oE 50 0 45,oE 51 1 45,oM 10 50,oM 11 51]
def Xim:List AI:=[oM 52 11,oV 53 .neq 52 0]
def Xot:List AI:=[oM 54 11,oC 4 (.s []),oM 5 54]
def Yww:List AI:=[oM 55 10,oJ 56 55,oI 57 0]
def Xni:List AI:=[oT 58 .lss 57 56]
def Yxe:List AI:=[oX 59 1 55 57,oL 60 59,oM 13 60]
def Yz3:List AI:=[oM 61 13,oB 62 .add (.t 61) (.c (.s [10])),oO 63 (.call true 126 [(.t 7),(.t 62)])]
def Xz0:List AI:=[oV 64 .add 57 1,oM 57 64]
def Xsy:List AI:=[oV 65 .add 40 1,oM 40 65]
def Xn3:List AI:=[oO 66 (.call true 217 [(.t 7)]),oV 67 .gtr 66 300000]
def Yyw:List AI:=[oC 4 (.s []),oI 5 4]
def Wf4:List AI:=[oO 68 (.call true 105 [(.t 7)]),oM 4 68,oI 5 0]
abbrev Zhx:AC:=(sR 13 Xni (.seq (.cond (.t 58) .skip (.exit 2)) (.seq (.block 3 (sR 14 Yxe (.reg 15 Yz3))) (.reg 16 Xz0))))
abbrev Zdn:AC:=(.reg 17 Xsy)
abbrev Sx:AC:=(sR 7 Xd6 (.seq (.cond (.t 41) .skip (.exit 0)) (.seq (.block 1 (sR 8 Xuk (sR 9 Xvb (.seq (sR 10 Xim (.cond (.t 53) (sR 11 Xot .ret) .skip)) (sR 12 Yww (.block 2 (.loop Zhx))))))) Zdn)))
abbrev Tj:AC:=(.seq (sR 18 Xn3 (.cond (.t 67) (sR 19 Yyw .ret) .skip)) (sR 20 Wf4 .ret))
abbrev Zwn:AC:=(sR 5 Yus (.seq (sR 6 Waz (.block 0 (.loop Sx))) Tj))
abbrev Yh0:AC:=(sR 1000004 Xtn Zwn)
abbrev Zvp:AC:=(.seq (sR 1 We7 (sR 2 Wgc (.cond (.t 18) (sR 3 Xb5 .ret) .skip))) Yh0)
abbrev Xda:AC:=(sR 0 Zxu Zvp)
def Zg1:AF:={ nt:=69,res:=[.tmp 4,.tmp 5],body:=Xda }
abbrev Ye2 (PG:Za)(d:Nat)(Q:AE->Sl->St->Prop)(t38:List Zi)(t39:Int)(t40:Int)(m0:Ze)(m4096016384:BS):Prop:=
  ∀(σ:Sl)(st:St)(o_t38:Zn) (v0 v4096016384:Nat),σ 2=.p (d,0) v0 0->σ 7=.p (d,1000004*4096+0) v4096016384 0->σ 38=.sl o_t38 (List.map Zi.row t38)->σ 39=.i .i64 t39->σ 40=.i .i64 t40->lk st.bx (d,0)=some (v0,Ze.cs m0)->Bl m4096016384 st.bx st.ow (d,1000004*4096+0) v4096016384->W PG d (.loop Sx) σ st (Zw 0 (Zl PG d Tj Q))
abbrev Yby (PG:Za)(d:Nat)(Q:AE->Sl->St->Prop)(t38:List Zi)(t39:Int)(t40:Int)(t55:LB)(t56:Int)(t57:Int)(m0:Ze)(m4096016384:BS):Prop:=
  ∀(σ:Sl)(st:St) (o_t38 o_t55:Zn) (v0 v4096016384:Nat),σ 2=.p (d,0) v0 0->σ 7=.p (d,1000004*4096+0) v4096016384 0->σ 38=.sl o_t38 (List.map Zi.row t38)->σ 39=.i .i64 t39->σ 40=.i .i64 t40->σ 55=.sl o_t55 (List.map Zv t55)->σ 56=.i .i64 t56->σ 57=.i .i64 t57->lk st.bx (d,0)=some (v0,Ze.cs m0)->Bl m4096016384 st.bx st.ow (d,1000004*4096+0) v4096016384->W PG d (.loop Zhx) σ st (Zw 2 (Zw 1 (Zl PG d Zdn (Zl PG d (.loop Sx) (Zw 0 (Zl PG d Tj Q))))))
def Zlg (PG:Za)(K:BS->Int->Prop)(P0:Int->Ze->BS->Prop)(t38:List Zi)(t39:Int)(t40:Int)(m0:Ze)(m4096016384:BS):Prop:=
  P0 (IntKind.i64.wrap (t40+1)) m0 m4096016384
def Ze9 (PG:Za)(K:BS->Int->Prop)(P1:Int->Ze->BS->Prop)(P0:Int->Ze->BS->Prop)(t38:List Zi)(t39:Int)(t40:Int)(t55:LB)(t56:Int)(t57:Int)(m0:Ze)(m4096016384:BS):Prop:=
  (t57<t56->0<=t57/\∃c:BS,t55[(t57).toNat]?=some c/\c.length+([10]:BS).length<=We/\∃j,∃e:BS,Yt PG 126 (Bl m4096016384) [.s (c++([10]:BS))] (fun r=>r=.tup [.i .i64 j,.ni]) ((Bl e))/\P1 (IntKind.i64.wrap (t57+1)) m0 e)/\(¬(t57<t56)->Zlg PG K P0 t38 t39 t40 m0 m4096016384)
def Znr (PG:Za)(K:BS->Int->Prop)(m4096016384:BS):Prop:=
  ∃c,∃e:BS,Yt PG 217 (Bl m4096016384) [] (fun r=>r=.i .i64 c) ((Bl e))/\(c>300000->K ([]:BS) 4)/\(¬(c>300000)->∃j,Yt PG 105 (Bl e) [] (fun r=>r=.s j) (fun _ _ _ _=>True)/\K j 0)
def Zfo (PG:Za)(K:BS->Int->Prop)(P0:Int->Ze->BS->Prop)(t38:List Zi)(t39:Int)(t40:Int)(m0:Ze)(m4096016384:BS):Prop:=
  (t40<t39->0<=t40/\∃j:Zi,t38[(t40).toNat]?=some j/\∃e:LB,∃c,Zf PG 207 [m0.av,.i .i64 t40,j.av] (.tup [.sl .ext (List.map Zv e),.i .i64 c])/\(c≠0->K ([]:BS) c)/\(¬(c≠0)->∀P1:Int->Ze->BS->Prop,(∀(t57:Int)(m0:Ze)(m4096016384:BS),Ze9 PG K P1 P0 t38 t39 t40 e (e.length:Int) t57 m0 m4096016384->P1 t57 m0 m4096016384)->P1 0 m0 m4096016384))/\(¬(t40<t39)->Znr PG K m4096016384)
def Zpm (PG:Za)(K:BS->Int->Prop)(m0:Ze)(m1:Zt)(m4096016384:BS):Prop:=
  ∃c:LB,Zf PG 215 [] (.ag (List.map AV.s c))/\c.length=9/\0<=m1.outcome/\∃e:BS,(c:LB)[(m1.outcome).toNat]?=some e/\([111,117,116,99,111,109,101,32]:BS).length+e.length<=We/\(([111,117,116,99,111,109,101,32]:BS)++e).length+([44,32,102,97,105,108,105,110,103,32]:BS).length<=We/\∃j:BS,Zf PG 216 [.i .i64 m1.failing] (.s j)/\((([111,117,116,99,111,109,101,32]:BS)++e)++([44,32,102,97,105,108,105,110,103,32]:BS)).length+j.length<=We/\(((([111,117,116,99,111,109,101,32]:BS)++e)++([44,32,102,97,105,108,105,110,103,32]:BS))++j).length+([44,32,115,116,101,112,115,32]:BS).length<=We/\∃k:BS,Zf PG 216 [.i .i64 m1.steps] (.s k)/\((((([111,117,116,99,111,109,101,32]:BS)++e)++([44,32,102,97,105,108,105,110,103,32]:BS))++j)++([44,32,115,116,101,112,115,32]:BS)).length+k.length<=We/\(((((([111,117,116,99,111,109,101,32]:BS)++e)++([44,32,102,97,105,108,105,110,103,32]:BS))++j)++([44,32,115,116,101,112,115,32]:BS))++k).length+([10]:BS).length<=We/\∃p,∃o:BS,Yt PG 126 (Bl m4096016384) [.s ((((((([111,117,116,99,111,109,101,32]:BS)++e)++([44,32,102,97,105,108,105,110,103,32]:BS))++j)++([44,32,115,116,101,112,115,32]:BS))++k)++([10]:BS))] (fun r=>r=.tup [.i .i64 p,.ni]) ((Bl o))/\∀P0:Int->Ze->BS->Prop,(∀(t40:Int)(m0:Ze)(m4096016384:BS),Zfo PG K P0 m1.routines (m1.routines.length:Int) t40 m0 m4096016384->P0 t40 m0 m4096016384)->P0 0 m0 o
def Zvn (PG:Za)(K:BS->Int->Prop)(m0:Ze)(m1:Zt):Prop:=
  Zpm PG K m0 m1 ([]:BS)
def Zvh (PG:Za)(K:BS->Int->Prop)(m0:Ze)(m1:Zt):Prop:=
  ∃c,Zf PG 213 [m0.av,m1.av] (.i .i64 c)/\(c≠0->K ([]:BS) c)/\(¬(c≠0)->Zvn PG K m0 m1)
def Zo1 (PG:Za)(K:BS->Int->Prop)(m0:Ze)(s1:Zt):Prop:=
  Zvh PG K m0 s1
section
variable {PG:Za}{d:Nat}{Q:AE->Sl->St->Prop}{K:BS->Int->Prop}(hQ:H2 AV.s (AV.i .i64) 4 5 Q K){σ:Sl}{st:St}
include hQ
variable {t38:List Zi}{t39 t40:Int}{m0:Ze}{m4096016384:BS}{P0:Int->Ze->BS->Prop}{o_t38:Zn}{v0 v4096016384:Nat}{t55:LB}{t56 t57:Int}{P1:Int->Ze->BS->Prop}{o_t55:Zn}{m1:Zt}{v1:Nat}{s1:Zt}
variable (kP1 :∀(t57:Int)(m0:Ze)(m4096016384:BS),P1 t57 m0 m4096016384->Yby PG d Q t38 t39 t40 t55 t56 t57 m0 m4096016384)(H0:σ 0=m0.av) (kP0 :∀(t40:Int)(m0:Ze)(m4096016384:BS),P0 t40 m0 m4096016384->Ye2 PG d Q t38 t39 t40 m0 m4096016384)(H1:σ 1=s1.av)(H2:σ 2=.p (d,0) v0 0)(H3:σ 3=.p (d,1) v1 0)(H7:σ 7=.p (d,1000004*4096+0) v4096016384 0)(Gg:σ 38=.sl o_t38 (List.map Zi.row t38))(Di:σ 39=.i .i64 t39)(Hc:σ 40=.i .i64 t40)(H55:σ 55=.sl o_t55 (List.map Zv t55))(H56:σ 56=.i .i64 t56)(H57:σ 57=.i .i64 t57)(B0:lk st.bx (d,0)=some (v0,Ze.cs m0))(B1:lk st.bx (d,1)=some (v1,Zt.cs m1))(B4096016384:Bl m4096016384 st.bx st.ow (d,1000004*4096+0) v4096016384)
include kP0 H2 H7 Gg Di Hc B0 B4096016384 in
theorem Xmc (h:Zlg PG K P0 t38 t39 t40 m0 m4096016384):W PG d Zdn σ st (Zl PG d (.loop Sx) (Zw 0 (Zl PG d Tj Q))):=
 au trivial
include kP1 kP0 H2 H7 Gg Di Hc H55 H56 H57 B0 B4096016384 in
theorem Wno (h:Ze9 PG K P1 P0 t38 t39 t40 t55 t56 t57 m0 m4096016384):W PG d Zhx σ st (Zl PG d (.loop Zhx) (Zw 2 (Zw 1 (Zl PG d Zdn (Zl PG d (.loop Sx) (Zw 0 (Zl PG d Tj Q))))))):=
 q_ J (b_ H57 H56 Wn (e_ (Zk (Yj J (fun c=>Yc (Zk (Yh (q_ J ((h.1 c).2.elim fun _ e=>Wq H55 H57 (h.1 c).1 e.1 J J (Xk J J J (m_ (e_ (W.reg0 J fun _ _=>m_ (b_ J J (Jc e.2.1) (e.2.2.elim fun _ j=>j.elim fun _ i=>Wi (Ya H7 (Ya J Yr)) i.1 (Nat.lt_succ_self d) B4096016384 (fun _ k o=>e_ (W.reg0 J fun _ _=>b_ H57 J Vd (m_ (e_ (kP1 _ _ _ i.2 _ _ _ _ _ _ H2 H7 Gg Di Hc H55 H56 J ((o.1 (d,0) (Nat.lt_succ_self d) (Wk J)).trans B0) k)))))))))))))))) (fun c=>Vm (Xmc hQ kP0 H2 H7 Gg Di Hc B0 B4096016384 (h.2 c)))))))
include H7 B4096016384 in
theorem Xdw (h:Znr PG K m4096016384):W PG d Tj σ st Q:=
 Zk (q_ J (h.elim fun _ j=>j.elim fun _ c=>Wi (Ya H7 Yr) c.1 (Nat.lt_succ_self d) B4096016384 (fun _ k _=>b_ J J Vt (e_ (Yj J (fun e=>q_ J (m_ (m_ (Zo (hQ J J (c.2.1 e)))))) (fun e=>Yc (q_ J ((c.2.2 e).elim fun _ i=>Wi (Ya H7 Yr) i.1 (Nat.lt_succ_self d) k (fun _ _ _=>m_ (m_ (Zo (hQ J J i.2))))))))))))
include kP0 H2 H7 Gg Di Hc B0 B4096016384 in
theorem Wck (h:Zfo PG K P0 t38 t39 t40 m0 m4096016384):W PG d Sx σ st (Zl PG d (.loop Sx) (Zw 0 (Zl PG d Tj Q))):=
 q_ J (b_ Hc Di Wn (e_ (Zk (Yj J (fun c=>Yc (Zk (Yh (Zk (W.reg (m_ ((h.1 c).2.elim fun p k=>Wq Gg Hc (h.1 c).1 k.1 (Zi.row_eq p) J (Xk J J J (Xy (m_ (Ye J (show lk _ (d,32771)=some (_,([.i .u8 0,.i .i64 0,.sl .full (List.map Zg.row ([]:List Zg)),.sl .full (List.map Zr.row ([]:List Zr)),.sl .full (List.map Zh.row ([]:List Zh))]:List AV)) from Zj) J J J (e_ (q_ J (l_ H2 (Zs J (Zs J B0)) J J (m_ (l_ J Zj J J (x2 k.2 fun o _ e=>Yi (Ce J Hc J J) e.1 (m_ (x_ J J (x_ J J (Yf J (m_ (e_ (Zk (q_ J (m_ (b_ J J Ws (e_ (Yj J (fun j=>q_ J (m_ (m_ (m_ (Zo (hQ J J (e.2.1 j))))))) (fun j=>Yc (q_ J (Yf J (Yo J (m_ (e_ (Yh ((e.2.2 j) (Yby PG d Q t38 t39 t40 o (o.length:Int)) (fun _ _ _ hb _ _ _ _ _ _ H2 H7 Gg Di Hc H55 H56 H57 B0 B4096016384=>W.loop (Wno hQ (fun _ _ _ x=>x) kP0 H2 H7 Gg Di Hc H55 H56 H57 B0 B4096016384 hb)) _ _ _ _ _ _ H2 H7 Gg Di Hc J J J (Zs J (Zs J B0)) (Bl.other (Wk J) (Bl.other (Wk J) B4096016384))))))))))))))))))))))))))))))))))))))) (fun c=>Vm (Xdw hQ H7 B4096016384 (h.2 c)))))))
include H2 H3 H7 B0 B1 B4096016384 in
theorem Wgd (h:Zpm PG K m0 m1 m4096016384):W PG d Zwn σ st Q:=
 q_ J (h.elim fun _ e=>Yi sn e.1 (f_ H3 (l_ J B1 J J (e.2.2.2.elim fun _ j=>Tl (f:=AV.s) e.2.1 J J e.2.2.1 j.1 (b_ J J (Jc j.2.1) (b_ J J (Jc j.2.2.1) (f_ H3 (l_ J B1 J J (j.2.2.2.elim fun _ c=>Yi (Wr J J) c.1 (b_ J J (Jc c.2.1) (b_ J J (Jc c.2.2.1) (f_ H3 (l_ J B1 J J (c.2.2.2.elim fun _ i=>Yi (Wr J J) i.1 (b_ J J (Jc i.2.1) (b_ J J (Jc i.2.2.1) (i.2.2.2.elim fun _ p=>p.elim fun _ k=>Wi (Ya H7 (Ya J Yr)) k.1 (Nat.lt_succ_self d) B4096016384 (fun _ q o=>e_ (Zk (q_ J (f_ H3 (l_ J ((o.1 (d,1) (Nat.lt_succ_self d) (Wk J)).trans B1) J J (Yo J (m_ (e_ (Yh (k.2 (Ye2 PG d Q m1.routines (m1.routines.length:Int)) (fun _ _ _ hb _ _ _ _ _ H2 H7 Gg Di Hc B0 B4096016384=>W.loop (Wck hQ (fun _ _ _ x=>x) H2 H7 Gg Di Hc B0 B4096016384 hb)) _ _ _ _ _ H2 H7 J J J ((o.1 (d,0) (Nat.lt_succ_self d) (Wk J)).trans B0) q)))))))))))))))))))))))))))
include H2 H3 B0 B1 in
theorem Wqg (h:Zvn PG K m0 m1):W PG d Yh0 σ st Q:=
 Zk (W.regB J (fun _ _ _ e c=>Wgd hQ H2 H3 J ((c (d,0) (Wk J)).trans B0) ((c (d,1) (Wk J)).trans B1) e h))
include H2 H3 B0 B1 in
theorem Xem (h:Zvh PG K m0 m1):W PG d Zvp σ st Q:=
 Zk (q_ J (l_ H2 B0 J J (l_ H3 B1 J J (h.elim fun _ c=>Yi (Je J J J) c.1 (m_ (e_ (q_ J (m_ (b_ J J Ws (e_ (Yj J (fun e=>q_ J (m_ (m_ (m_ (Zo (hQ J J (c.2.1 e))))))) (fun e=>Yc (Wqg hQ H2 H3 B0 B1 (c.2.2 e))))))))))))))
include H0 H1 in
theorem Xhb (h:Zo1 PG K m0 s1):W PG d (sR 0 Zxu Zvp) σ st Q:=
 q_ J (Vx H0 J (Vx H1 J (m_ (m_ (e_ (Xem hQ J J (Zs J Zj) Zj h))))))
end
theorem Yw5 {PG:Za}(hf:PG.fn 205=some Zg1){m0:Ze}{s1:Zt}{K:BS->Int->Prop}(h:Zo1 PG K m0 s1) :∃res0:BS,∃res1:Int,K res0 res1/\Zf PG 205 [m0.av,s1.av] (.tup [.s res0,.i .i64 res1]):=
 P2 hf J (Xhb (h2 J fun _ _=>J) J J h)
def Xp9:List AI:=[oY 2 3 0,oY 3 4 1,oC 4 (.s [])]
def Xsv:List AI:=[oQ 9 223 [],oF 10 0 3,oL 11 10,oX 12 1 9 11,oL 13 12,oB 14 .add (.c (.s [111,117,116,99,111,109,101,32])) (.t 13),oB 15 .add (.t 14) (.c (.s [44,32,102,97,105,108,105,110,103,32])),oF 16 1 3,oL 17 16,oQ 18 226 [17],oT 19 .add 15 18,oB 20 .add (.t 19) (.c (.s [44,32,115,116,101,112,115,32])),oF 21 2 3,oL 22 21,oQ 23 226 [22],oT 24 .add 20 23,oB 25 .add (.t 24) (.c (.s [10])),oM 5 25]
def Wh6:List AI:=[oI 6 0]
def Yru:List AI:=[oM 26 6,oF 27 3 3,oL 28 27,oJ 29 28,oT 30 .lss 26 29]
def Xcf:List AI:=[oK 33 3 2,oM 34 6,oF 35 3 3,oL 36 35,oM 37 6,oX 38 5 36 37,oK 39 5 38,oQ 40 222 [33,34,39],oM 7 40]
def Wu2:List AI:=[oI 8 0]
def Wn8:List AI:=[oM 41 8,oM 42 7,oJ 43 42,oT 44 .lss 41 43]
def Xk8:List AI:=[oM 47 5,oM 48 7,oM 49 8,oX 50 1 48 49,oL 51 50,oB 52 .add (.t 51) (.c (.s [10])),oT 53 .add 47 52,oM 5 53]
def Xis:List AI:=[oM 45 8,oV 46 .add 45 1,oM 8 46]
def Xvx:List AI:=[oM 31 6,oV 32 .add 31 1,oM 6 32]
def Wtj:List AI:=[oM 54 5,oM 4 54]
abbrev Xo1:AC:=(.seq (sR 7 Wn8 (.cond (.t 44) .skip (.exit 2))) (.seq (.block 3 (.reg 9 Xk8)) (.reg 8 Xis)))
abbrev Wqx:AC:=(.reg 4 Xvx)
abbrev We8:AC:=(.seq (sR 3 Yru (.cond (.t 30) .skip (.exit 0))) (.seq (.block 1 (sR 5 Xcf (sR 6 Wu2 (.block 2 (.loop Xo1))))) Wqx))
abbrev Wm4:AC:=(sR 10 Wtj .ret)
abbrev Xo7:AC:=(sR 0 Xp9 (sR 1 Xsv (.seq (sR 2 Wh6 (.block 0 (.loop We8))) Wm4)))
def Zsv:AF:={ nt:=55,res:=[.tmp 4],body:=Xo7 }
abbrev Wm1 (Q:AE->Sl->St->Prop)(K:BS->Prop):Prop:=∀(σ:Sl)(st:St)(res0:BS),σ 4=.s res0->K res0->Q .ret σ st
section
variable {PG:Za}{d:Nat}{Q:AE->Sl->St->Prop}{K:BS->Prop}(hQ:Wm1 Q K){σ:Sl}{st:St}
include hQ
end
abbrev Wbx (Q:AE->Sl->St->Prop)(K:BS->Int->Prop):Prop:=∀(σ:Sl)(st:St)(res0:BS)(res1:Int),σ 4=.s res0->σ 5=.i .i64 res1->K res0 res1->Q .ret σ st
section
variable {PG:Za}{d:Nat}{Q:AE->Sl->St->Prop}{K:BS->Int->Prop}(hQ:Wbx Q K){σ:Sl}{st:St}
include hQ
end
end Go.AM

/- Yg of the proof. -/
namespace Go.AM
open Go
set_option linter.unusedVariables false
set_option linter.unusedSimpArgs false
set_option maxRecDepth 4000
attribute [local irreducible] WO Ww Wx
def Yfe:List AI:=[oY 1 4 0,oC 2 (.b false)]
def Ybe:List AI:=[oI 3 0]
def Wc0:List AI:=[oM 4 3,oF 5 3 1,oL 6 5,oJ 7 6,oT 8 .lss 4 7,oM 9 8,gT 9 (oM 10 3),gT 9 (oV 11 .leq 10 20),oA 12 9 11]
def Xui:List AI:=[oF 15 3 1,oL 16 15,oM 17 3,oX 18 5 16 17,oK 19 5 18,oQ 20 204 [19]]
def Xcg:List AI:=[oC 2 (.b true)]
def Wpv:List AI:=[oM 13 3,oV 14 .add 13 1,oM 3 14]
def Woh:List AI:=[oF 21 3 1,oL 22 21,oJ 23 22,oV 24 .gtr 23 20,oM 2 24]
abbrev Yl3:AC:=(.seq (.block 1 (sR 4 Xui (.cond (.t 20) (sR 5 Xcg .ret) .skip))) (.reg 3 Wpv))
abbrev Fh:AC:=(.seq (sR 2 Wc0 (.cond (.t 12) .skip (.exit 0))) Yl3)
abbrev Ps:AC:=(sR 6 Woh .ret)
abbrev Wnz:AC:=(sR 0 Yfe (.seq (sR 1 Ybe (.block 0 (.loop Fh))) Ps))
def Zdy:AF:={ nt:=25,res:=[.tmp 2],body:=Wnz }
abbrev Zxc (PG:Za)(d:Nat)(Q:AE->Sl->St->Prop)(i3:Int)(m0:Zt):Prop:=
  ∀(σ:Sl)(st:St)(v0:Nat),σ 1=.p (d,0) v0 0->σ 3=.i .i64 i3->lk st.bx (d,0)=some (v0,Zt.cs m0)->W PG d (.loop Fh) σ st (Zw 0 (Zl PG d Ps Q))
def Zr7 (PG:Za)(K:Bool->Prop)(P0:Int->Zt->Prop)(i3:Int)(m0:Zt):Prop:=
  0<=i3/\∃e:Zi,m0.routines[(i3).toNat]?=some e/\∃c,Zf PG 204 [e.av] (.b c)/\(c=true->K true)/\(c=false->P0 (IntKind.i64.wrap (i3+1)) m0)
def Ev (PG:Za)(K:Bool->Prop)(m0:Zt):Prop:=
  K (decide ((m0.routines.length:Int)>20))
def Zfh (PG:Za)(K:Bool->Prop)(P0:Int->Zt->Prop)(i3:Int)(m0:Zt):Prop:=
  (i3<(m0.routines.length:Int)->(i3<=20->Zr7 PG K P0 i3 m0)/\(¬(i3<=20)->Ev PG K m0))/\(¬(i3<(m0.routines.length:Int))->Ev PG K m0)
def Zun (PG:Za)(K:Bool->Prop)(s0:Zt):Prop:=
  ∀P0:Int->Zt->Prop,(∀(i3:Int)(m0:Zt),Zfh PG K P0 i3 m0->P0 i3 m0)->P0 0 s0
section
variable {PG:Za}{d:Nat}{Q:AE->Sl->St->Prop}{K:Bool->Prop}(hQ:H1 AV.b 2 Q K){σ:Sl}{st:St}
include hQ
variable {i3:Int}{m0:Zt}{P0:Int->Zt->Prop}{v0:Nat}{s0:Zt}
variable (kP0 :∀(i3:Int)(m0:Zt),P0 i3 m0->Zxc PG d Q i3 m0)(H0:σ 0=s0.av)(H1:σ 1=.p (d,0) v0 0)(H3:σ 3=.i .i64 i3)(B0:lk st.bx (d,0)=some (v0,Zt.cs m0))
include kP0 H1 H3 B0 in
theorem Xr0 (h:Zr7 PG K P0 i3 m0):W PG d Yl3 σ st (Zl PG d (.loop Fh) (Zw 0 (Zl PG d Ps Q))):=
 Zk (Yh (q_ J (f_ H1 (l_ J B0 J J (m_ (h.2.elim fun j i=>Wq J H3 h.1 i.1 (Zi.row_eq j) J (Xk J J J (i.2.elim fun _ c=>Yi (Wr J J) c.1 (e_ (Xs J (fun e=>q_ J (m_ (Zo (hQ J (c.2.1 e))))) (fun e=>Yc (W.reg0 J fun _ _=>m_ (b_ H3 J Vd (m_ (e_ (kP0 _ _ (c.2.2 e) _ _ _ H1 J B0))))))))))))))))
include H1 B0 in
theorem Yiq (h:Ev PG K m0):W PG d Ps σ st Q:=
 q_ J (f_ H1 (l_ J B0 J J (Yo J (b_ J J Vt (m_ (Zo (hQ J h)))))))
include kP0 H1 H3 B0 in
theorem Xqc (h:Zfh PG K P0 i3 m0):W PG d Fh σ st (Zl PG d (.loop Fh) (Zw 0 (Zl PG d Ps Q))):=
 Zk (q_ J (Xa H3 (f_ H1 (l_ J B0 J J (Yo J (b_ J J Wn (Yq J (Ym (g:=9) J (fun c=>Zc J (Xa H3 (Zc J (b_ J J Zcg (Hr J J (e_ (Yj J (fun e=>Yc (Xr0 hQ kP0 H1 H3 B0 ((h.1 c).1 e))) (fun e=>Vm (Yiq hQ H1 B0 ((h.1 c).2 e)))))))))) (fun c=>z_ 3 J (e_ (Ur J (Vm (Yiq hQ H1 B0 (h.2 c))))))))))))))
include H0 in
theorem Xfa (h:Zun PG K s0):W PG d (sR 0 Yfe (.seq (sR 1 Ybe (.block 0 (.loop Fh))) Ps)) σ st Q:=
 q_ J (Vx H0 J (m_ (e_ (Zk (q_ J (m_ (e_ (Yh (h (Zxc PG d Q ) (fun _ _ hb _ _ _ H1 H3 B0=>W.loop (Xqc hQ (fun _ _ x=>x) H1 H3 B0 hb)) _ _ _ J J Zj)))))))))
end
theorem Wi2 {PG:Za}(hf:PG.fn 203=some Zdy){s0:Zt}{K:Bool->Prop}(h:Zun PG K s0) :∃res0:Bool,K res0/\Zf PG 203 [s0.av] (.b res0):=
 P1 hf J (Xfa (h1 J fun _=>J) J h)
def Yho:List AI:=[oY 1 5 0,oC 2 (.b false)]
def Yai:List AI:=[oF 5 2 1,oL 6 5,oJ 7 6,oV 8 .gtr 7 12,oM 9 8,gF 9 (oF 10 3 1),gF 9 (oL 11 10),gF 9 (oJ 12 11),gF 9 (oV 13 .gtr 12 12),oR 14 9 13,oM 15 14,gF 15 (oF 16 4 1),gF 15 (oL 17 16),gF 15 (oJ 18 17),gF 15 (oV 19 .gtr 18 20),oR 20 15 19,oM 21 20,gF 21 (oF 22 4 1),gF 21 (oL 23 22),gF 21 (oQ 24 162 [23]),oR 25 21 24]
def Ye4:List AI:=[oC 2 (.b true)]
def Yzg:List AI:=[oI 3 0]
def Xep:List AI:=[oM 26 3,oF 27 2 1,oL 28 27,oJ 29 28,oT 30 .lss 26 29]
def Wqo:List AI:=[oF 33 2 1,oL 34 33,oM 35 3,oX 36 4 34 35,oK 37 4 36,oQ 38 80 [37]]
def Xx8:List AI:=[oC 2 (.b true)]
def Xh9:List AI:=[oM 31 3,oV 32 .add 31 1,oM 3 32]
def Xvr:List AI:=[oI 4 0]
def Wt6:List AI:=[oM 39 4,oF 40 3 1,oL 41 40,oJ 42 41,oT 43 .lss 39 42]
def Xwm:List AI:=[oF 46 3 1,oL 47 46,oM 48 4,oX 49 8 47 48,oF 50 3 49,oK 51 5 50,oQ 52 71 [51]]
def We3:List AI:=[oC 2 (.b true)]
def Xwr:List AI:=[oM 44 4,oV 45 .add 44 1,oM 4 45]
def Xoc:List AI:=[oC 2 (.b false)]
abbrev Zh5:AC:=(.seq (sR 4 Xep (.cond (.t 30) .skip (.exit 0))) (.seq (.block 1 (sR 6 Wqo (.cond (.t 38) (sR 7 Xx8 .ret) .skip))) (.reg 5 Xh9)))
abbrev Zen:AC:=(.seq (sR 9 Wt6 (.cond (.t 43) .skip (.exit 2))) (.seq (.block 3 (sR 11 Xwm (.cond (.t 52) (sR 12 We3 .ret) .skip))) (.reg 10 Xwr)))
abbrev Zgi:AC:=(sR 13 Xoc .ret)
abbrev Zhc:AC:=(.seq (sR 8 Xvr (.block 2 (.loop Zen))) Zgi)
abbrev Zty:AC:=(.seq (sR 3 Yzg (.block 0 (.loop Zh5))) Zhc)
abbrev Xhi:AC:=(sR 0 Yho (.seq (sR 1 Yai (.cond (.t 25) (sR 2 Ye4 .ret) .skip)) Zty))
def Zef:AF:={ nt:=53,res:=[.tmp 2],body:=Xhi }
abbrev Yqg (PG:Za)(d:Nat)(Q:AE->Sl->St->Prop)(i3:Int)(m0:Zi):Prop:=
  ∀(σ:Sl)(st:St)(v0:Nat),σ 1=.p (d,0) v0 0->σ 3=.i .i64 i3->lk st.bx (d,0)=some (v0,Zi.cs m0)->W PG d (.loop Zh5) σ st (Zw 0 (Zl PG d Zhc Q))
abbrev Ynn (PG:Za)(d:Nat)(Q:AE->Sl->St->Prop)(i4:Int)(m0:Zi):Prop:=
  ∀(σ:Sl)(st:St)(v0:Nat),σ 1=.p (d,0) v0 0->σ 4=.i .i64 i4->lk st.bx (d,0)=some (v0,Zi.cs m0)->W PG d (.loop Zen) σ st (Zw 2 (Zl PG d Zgi Q))
def Zpt (PG:Za)(K:Bool->Prop) :Prop:=
  K false
def Zit (PG:Za)(K:Bool->Prop)(P1:Int->Zi->Prop)(i4:Int)(m0:Zi):Prop:=
  (i4<(m0.defers.length:Int)->0<=i4/\∃e:Zr,m0.defers[(i4).toNat]?=some e/\∃c,Zf PG 71 [e.arg.av] (.b c)/\(c=true->K true)/\(c=false->P1 (IntKind.i64.wrap (i4+1)) m0))/\(¬(i4<(m0.defers.length:Int))->Zpt PG K )
def Zr2 (PG:Za)(K:Bool->Prop)(m0:Zi):Prop:=
  ∀P1:Int->Zi->Prop,(∀(i4:Int)(m0:Zi),Zit PG K P1 i4 m0->P1 i4 m0)->P1 0 m0
def Zhv (PG:Za)(K:Bool->Prop)(P0:Int->Zi->Prop)(i3:Int)(m0:Zi):Prop:=
  (i3<(m0.frames.length:Int)->0<=i3/\∃e:Zg,m0.frames[(i3).toNat]?=some e/\∃c,Zf PG 80 [e.av] (.b c)/\(c=true->K true)/\(c=false->P0 (IntKind.i64.wrap (i3+1)) m0))/\(¬(i3<(m0.frames.length:Int))->Zr2 PG K m0)
def Zmj (PG:Za)(K:Bool->Prop)(m0:Zi):Prop:=
  ∀P0:Int->Zi->Prop,(∀(i3:Int)(m0:Zi),Zhv PG K P0 i3 m0->P0 i3 m0)->P0 0 m0
def Zo6 (PG:Za)(K:Bool->Prop)(x0:Zi):Prop:=
  ((x0.frames.length:Int)>12->K true)/\(¬((x0.frames.length:Int)>12)->((x0.defers.length:Int)>12->K true)/\(¬((x0.defers.length:Int)>12)->((x0.panics.length:Int)>20->K true)/\(¬((x0.panics.length:Int)>20)->∃c,Zf PG 162 [.sl .ext (List.map Zh.row x0.panics)] (.b c)/\(c=true->K true)/\(c=false->Zmj PG K x0))))
section
variable {PG:Za}{d:Nat}{Q:AE->Sl->St->Prop}{K:Bool->Prop}(hQ:H1 AV.b 2 Q K){σ:Sl}{st:St}
include hQ
variable {i4:Int}{m0:Zi}{P1:Int->Zi->Prop}{v0:Nat}{i3:Int}{P0:Int->Zi->Prop}{x0:Zi}
variable (kP1 :∀(i4:Int)(m0:Zi),P1 i4 m0->Ynn PG d Q i4 m0) (kP0 :∀(i3:Int)(m0:Zi),P0 i3 m0->Yqg PG d Q i3 m0)(H0:σ 0=x0.av)(H1:σ 1=.p (d,0) v0 0)(H4:σ 4=.i .i64 i4)(H3:σ 3=.i .i64 i3)(B0:lk st.bx (d,0)=some (v0,Zi.cs m0))
theorem Xog (h:Zpt PG K ):W PG d Zgi σ st Q:=
 q_ J (m_ (Zo (hQ J h)))
include kP1 H1 H4 B0 in
theorem Wd5 (h:Zit PG K P1 i4 m0):W PG d Zen σ st (Zl PG d (.loop Zen) (Zw 2 (Zl PG d Zgi Q))):=
 Zk (q_ J (m_ (f_ H1 (l_ J B0 J J (Yo J (b_ H4 J Wn (e_ (Yj J (fun c=>Yc (Zk (Yh (q_ J (f_ H1 (l_ J B0 J J (m_ ((h.1 c).2.elim fun k j=>Wq J H4 (h.1 c).1 j.1 (Zr.row_eq k) J (Ke J (Xk J J J (j.2.elim fun _ e=>Yi (Wr J J) e.1 (e_ (Xs J (fun i=>q_ J (m_ (Zo (hQ J (e.2.1 i))))) (fun i=>Yc (W.reg0 J fun _ _=>m_ (b_ H4 J Vd (m_ (e_ (kP1 _ _ (e.2.2 i) _ _ _ H1 J B0))))))))))))))))))) (fun c=>Vm (Xog hQ (h.2 c)))))))))))
include H1 B0 in
theorem Wl5 (h:Zr2 PG K m0):W PG d Zhc σ st Q:=
 Zk (q_ J (m_ (e_ (Yh (h (Ynn PG d Q ) (fun _ _ hb _ _ _ H1 H4 B0=>W.loop (Wd5 hQ (fun _ _ x=>x) H1 H4 B0 hb)) _ _ _ H1 J B0)))))
include kP0 H1 H3 B0 in
theorem Ysq (h:Zhv PG K P0 i3 m0):W PG d Zh5 σ st (Zl PG d (.loop Zh5) (Zw 0 (Zl PG d Zhc Q))):=
 Zk (q_ J (m_ (f_ H1 (l_ J B0 J J (Yo J (b_ H3 J Wn (e_ (Yj J (fun c=>Yc (Zk (Yh (q_ J (f_ H1 (l_ J B0 J J (m_ ((h.1 c).2.elim fun k j=>Wq J H3 (h.1 c).1 j.1 (Zg.row_eq k) J (Xk J J J (j.2.elim fun _ e=>Yi (Wr J J) e.1 (e_ (Xs J (fun i=>q_ J (m_ (Zo (hQ J (e.2.1 i))))) (fun i=>Yc (W.reg0 J fun _ _=>m_ (b_ H3 J Vd (m_ (e_ (kP0 _ _ (e.2.2 i) _ _ _ H1 J B0)))))))))))))))))) (fun c=>Vm (Wl5 hQ H1 B0 (h.2 c)))))))))))
include H1 B0 in
theorem Wdr (h:Zmj PG K m0):W PG d Zty σ st Q:=
 Zk (q_ J (m_ (e_ (Yh (h (Yqg PG d Q ) (fun _ _ hb _ _ _ H1 H3 B0=>W.loop (Ysq hQ (fun _ _ x=>x) H1 H3 B0 hb)) _ _ _ H1 J B0)))))
include H0 in
theorem Xq4 (h:Zo6 PG K x0):W PG d (sR 0 Yho (.seq (sR 1 Yai (.cond (.t 25) (sR 2 Ye4 .ret) .skip)) Zty)) σ st Q:=
 q_ J (Vx H0 J (m_ (e_ (Zk (q_ J (f_ J (l_ J Zj J J (Yo J (b_ J J Vt (Yq J (Ym (g:=9) J (fun c=>z_ 16 J (e_ (Yl J (q_ J (m_ (Zo (hQ J (h.1 c)))))))) (fun c=>Zc J (f_ J (Zc J (l_ J Zj J J (Zc J (Yo J (Zc J (b_ J J Vt (z_ 2 J (Ym (g:=15) J (fun e=>z_ 10 J (e_ (Yl J (q_ J (m_ (Zo (hQ J ((h.2 c).1 e)))))))) (fun e=>Zc J (f_ J (Zc J (l_ J Zj J J (Zc J (Yo J (Zc J (b_ J J Vt (z_ 2 J (Ym (g:=21) J (fun j=>z_ 4 J (e_ (Yl J (q_ J (m_ (Zo (hQ J (((h.2 c).2 e).1 j)))))))) (fun j=>Zc J (f_ J (Zc J (l_ J Zj J J (Zc J ((((h.2 c).2 e).2 j).elim fun _ i=>Yi (Wr J J) i.1 (Vf J J (e_ (Xs J (fun k=>q_ J (m_ (Zo (hQ J (i.2.1 k))))) (fun k=>Yc (Wdr hQ J Zj (i.2.2 k)))))))))))))))))))))))))))))))))))))))))))
end
theorem Wjq {PG:Za}(hf:PG.fn 204=some Zef){x0:Zi}{K:Bool->Prop}(h:Zo6 PG K x0) :∃res0:Bool,K res0/\Zf PG 204 [x0.av] (.b res0):=
 P1 hf J (Xq4 (h1 J fun _=>J) J h)
abbrev Wl7 (Q:AE->Sl->St->Prop)(K:Bool->Prop):Prop:=∀(σ:Sl)(st:St)(res0:Bool),σ 12=.b res0->K res0->Q .ret σ st
section
variable {PG:Za}{d:Nat}{Q:AE->Sl->St->Prop}{K:Bool->Prop}(hQ:Wl7 Q K){σ:Sl}{st:St}
include hQ
end
end Go.AM

/- Yg of the proof. -/
namespace Go.AM
open Go
def Zsj:AF:={ nt:=8,res:=[.tmp 2],fz:=[],body:=
  (.seq (.reg 0 [⟨(some 2),.mv (.c (.i .i64 0)),none⟩])
  (.seq (.reg 1000001 [⟨(some 3),.mv (.t 0),none⟩,
    ⟨(some 4),.nilc (.t 3),none⟩,
    ⟨(some 5),.fad 1 (.t 4),none⟩,
    ⟨(some 6),.load 1 false (.t 5),none⟩,
    ⟨(some 7),.len false (.t 6),none⟩,
    ⟨(some 2),.mv (.t 7),none⟩])
  .ret)) }
end Go.AM
