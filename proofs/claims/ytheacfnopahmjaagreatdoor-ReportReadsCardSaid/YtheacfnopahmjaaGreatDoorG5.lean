/- Parts of the proof: U40c, U40d, U40e, U40f, U40g, U40h, U40i, U40j, U40k, U40m, K40x, C30. -/
import Derived.Test.YtheacfnopahmjaaGreatDoorG2
import Derived.Test.YtheacfnopahmjaaGreatDoorG1
import Derived.Test.YtheacfnopahmjaaGreatDoorRows
import Derived.Test.YtheacfnopahmjaaGreatDoorG3
import Derived.Test.YtheacfnopahmjaaGreatDoorG4
import Derived.Shelf.Strings.Builder1
import Derived.Shelf.Strings.Split
import Derived.Shelf.Strings.Cut
set_option linter.all false
namespace Go.AM
open Go
set_option maxRecDepth 4000
set_option maxHeartbeats 2000000
attribute [local irreducible] Decidable.decide W WO Ve Vd
variable{PG:Zb}{d:Nat}{Q:Q0}{U:Sl}{st:St}
abbrev Yli:AC:= (sR 10 [oM 52 8,oM 4 52,oI 5 0] .ret)
abbrev Ysc:AC:= (sR 0 [oY 2 3 0,oY 3 8 1,oC 4<|.s [],oI 5 0]<|sR 1 [oF 12 2 2,oL 13 12,oF 14 1 3,oL 15 14,oX 16 7 13 15,oF 17 0 16,oL 18 17,oQ 19 11 [18],oM 11 19,oE 20 0 11,oE 21 1 11,oM 6 20,oM 7 21]<|.seq (sR 2 [oM 22 7,oV 23 .neq 22 0]<|cD 23 (sR 3 [oM 24 7,oC 4<|.s [],oM 5 24] .ret) .skip)<|sR 4 [oF 25 0 3,oL 26 25,oQ 27 216 [26],oB 28 .add (.c<|.s [100,101,102,101,114,32])<|.t 27,oB 29 .add (.t 28)<|.c<|.s [32],oF 30 1 3,oL 31 30,oQ 32 216 [31],oT 33 .add 29 32,oB 34 .add (.t 33)<|.c<|.s [32],oM 35 6,oT 36 .add 34 35,oM 8 36]<|.seq (sR 5 [oF 37 2 3,oL 38 37]<|cD 38 (sR 6 [oF 40 3 3,oK 41 5 40,oQ 42 72 [41],oM 39 42,oE 43 0 39,oE 44 1 39,oM 9 43,oM 10 44]<|.seq (sR 7 [oM 45 10,oV 46 .neq 45 0]<|cD 46 (sR 8 [oM 47 10,oC 4<|.s [],oM 5 47] .ret) .skip)<|.reg 9 [oM 48 8,oM 49 9,oB 50 .add (.c<|.s [32,119,105,116,104,32])<|.t 49,oT 51 .add 48 50,oM 8 51]) .skip) Yli)
def uO:AF:= { nt:=53,res:=[.tmp 4,.tmp 5],body:=Ysc }
def pr(PG:Zb)(K:BS->Int->Prop)(s8:BS):Prop:=
  K s8 0
section
variable(PG:Zb)(K:BS->Int->Prop)
def ME(m0:Zd)(d1:Zq):Prop:=
  0<=d1.func/\∃q:Zz,m0.funcs[(d1.func).toNat]?=some q/\∃j:BS,∃o,Ze PG 11 [.s q.name] (.tup [.s j,.i .i64 o])/\(o≠0->K ([]:BS) o)/\(¬(o≠0)->∃c:BS,Ze PG 216 [.i .i64 d1.frame] (.s c)/\([100,101,102,101,114,32]:BS).length+c.length<=Yj/\(([100,101,102,101,114,32]:BS)++c).length+([32]:BS).length<=Yj/\∃e:BS,Ze PG 216 [.i .i64 d1.func] (.s e)/\((([100,101,102,101,114,32]:BS)++c)++([32]:BS)).length+e.length<=Yj/\(((([100,101,102,101,114,32]:BS)++c)++([32]:BS))++e).length+([32]:BS).length<=Yj/\((((([100,101,102,101,114,32]:BS)++c)++([32]:BS))++e)++([32]:BS)).length+j.length<=Yj/\(d1.hasArg=true->∃p:BS,∃k,Ze PG 72 [d1.arg.av] (.tup [.s p,.i .i64 k])/\(k≠0->K ([]:BS) k)/\(¬(k≠0)->([32,119,105,116,104,32]:BS).length+p.length<=Yj/\(((((([100,101,102,101,114,32]:BS)++c)++([32]:BS))++e)++([32]:BS))++j).length+(([32,119,105,116,104,32]:BS)++p).length<=Yj/\pr PG K ((((((([100,101,102,101,114,32]:BS)++c)++([32]:BS))++e)++([32]:BS))++j)++(([32,119,105,116,104,32]:BS)++p))))/\(d1.hasArg=false->pr PG K (((((([100,101,102,101,114,32]:BS)++c)++([32]:BS))++e)++([32]:BS))++j)))
end
section
variable{K:BS->Int->Prop}(hQ:H2 AV.s (AV.i .i64) 4 5 Q K)
variable{s8:BS}{m0:Zd}{d1:Zq}
variable(H8:U 8=.s s8)(H0:U 0=m0.av)(H1:U 1=d1.av)
include hQ H8 in
theorem Xct(h:pr PG K s8):W PG d Yli U st Q:=
 au trivial
include hQ H0 H1 in
theorem Xo6(h:ME PG K m0 d1):W PG d Ysc U st Q:=
 au @Xct
def Wbr(hf:PG.fn 234=some uO)(h:ME PG K m0 d1):∃aa:BS,∃ae:Int,K aa ae/\Ze PG 234 [m0.av,d1.av] (.tup [.s aa,.i .i64 ae]):=
 P2 hf J<|Xo6 (h2 J fun _ _=>J) J J h
end
abbrev yp:AC:= (sR 3 [oT 23 .lss 22 21]<|.seq (cD 23 .skip<|.exit 0)<|.seq (.block 1<|sR 4 [oM 24 22,oX 25 4 20 22,oK 26 4 25,oO 8<|.alloc cQ,oM 7 24,oS 4 8 26]<|sR 5 [oK 28 3 2,oM 29 7,oK 30 4 8,oQ 31 82 [28,29,30],oM 27 31,oE 32 0 27,oE 33 1 27,oM 9 32,oM 10 33]<|.seq (sR 6 [oM 34 10,oV 35 .neq 34 0]<|cD 35 (sR 7 [oM 36 10,oC 4<|.sl .full [],oM 5 36] .ret) .skip)<|.reg 8 [oM 37 6,oM 38 9,oO 39<|.app 1 16 (.t 37)<|.t 38,oM 6 39])<|.reg 9 [oV 40 .add 22 1,oM 22 40])
abbrev yq:AC:= (sR 11 [oT 45 .lss 44 43]<|.seq (cD 45 .skip<|.exit 2)<|.seq (.block 3<|sR 12 [oX 46 8 42 44,oK 47 8 46,oO 12<|.alloc gN,oS 8 12 47]<|sR 13 [oK 49 3 2,oK 50 8 12,oQ 51 234 [49,50],oM 48 51,oE 52 0 48,oE 53 1 48,oM 13 52,oM 14 53]<|.seq (sR 14 [oM 54 14,oV 55 .neq 54 0]<|cD 55 (sR 15 [oM 56 14,oC 4<|.sl .full [],oM 5 56] .ret) .skip)<|.reg 16 [oM 57 6,oM 58 13,oO 59<|.bslice [zs] 1 [(0,(.t 58))],oO 60<|.app 1 16 (.t 57)<|.t 59,oM 6 60])<|.reg 17 [oV 61 .add 44 1,oM 44 61])
abbrev yr:AC:= (sR 19 [oT 66 .lss 65 64]<|.seq (cD 66 .skip<|.exit 4)<|.seq (.block 5<|sR 20 [oX 67 7 63 65,oK 68 7 67,oO 16<|.alloc dI,oS 7 16 68]<|sR 21 [oK 70 7 16,oQ 71 154 [70],oM 69 71,oE 72 0 69,oE 73 1 69,oM 17 72,oM 18 73]<|.seq (sR 22 [oM 74 18,oV 75 .neq 74 0]<|cD 75 (sR 23 [oM 76 18,oC 4<|.sl .full [],oM 5 76] .ret) .skip)<|.reg 24 [oM 77 6,oM 78 17,oO 79<|.bslice [zs] 1 [(0,(.t 78))],oO 80<|.app 1 16 (.t 77)<|.t 79,oM 6 80])<|.reg 25 [oV 81 .add 65 1,oM 65 81])
abbrev yu:AC:= (sR 26 [oM 82 6,oM 4 82,oI 5 0] .ret)
abbrev yw:AC:= (.seq (sR 18 [oF 62 4 3,oL 63 62,oJ 64 63,oI 65 0]<|.block 4<|.loop yr) yu)
abbrev yx:AC:= (.seq (sR 10 [oF 41 3 3,oL 42 41,oJ 43 42,oI 44 0]<|.block 2<|.loop yq) yw)
abbrev Ybw:AC:= (.seq (sR 2 [oF 19 2 3,oL 20 19,oJ 21 20,oI 22 0]<|.block 0<|.loop yp) yx)
abbrev Yl8:AC:= (sR 1 [oC 6<|.sl .full []] Ybw)
abbrev Yn5:AC:= (sR 0 [oY 2 3 0,oY 3 5 1,oC 4<|.sl .full [],oI 5 0] Yl8)
def uA:AF:= { nt:=83,res:=[.tmp 4,.tmp 5],body:=Yn5 }
abbrev Ypn(PG:Zb)(d:Nat)(Q:Q0)(t20:List Zf)(t21:Int)(cn:LB)(t22:Int)(m0:Zd)(m1:Zi):Prop:=
  ∀(U:Sl)(st:St)(fu iy:Zr)(v0 v1:Nat),U 2=.p (d,0) v0 0->U 3=.p (d,1) v1 0->U 6=.sl fu (List.map Zv cn)->U 20=.sl iy (List.map Zf.row t20)->U 21=.i .i64 t21->U 22=.i .i64 t22->Yo d st.ow fu cn.length->lk st.bx (d,0)=some (v0,Zd.cs m0)->lk st.bx (d,1)=some (v1,Zi.cs m1)->W PG d (.loop yp) U st (Zs 0 (Zk PG d yx Q))
abbrev Yss(PG:Zb)(d:Nat)(Q:Q0)(t42:List Zq)(t43:Int)(cn:LB)(t44:Int)(m0:Zd)(m1:Zi):Prop:=
  ∀(U:Sl)(st:St)(fu kj:Zr)(v0 v1:Nat),U 2=.p (d,0) v0 0->U 3=.p (d,1) v1 0->U 6=.sl fu (List.map Zv cn)->U 42=.sl kj (List.map Zq.row t42)->U 43=.i .i64 t43->U 44=.i .i64 t44->Yo d st.ow fu cn.length->lk st.bx (d,0)=some (v0,Zd.cs m0)->lk st.bx (d,1)=some (v1,Zi.cs m1)->W PG d (.loop yq) U st (Zs 2 (Zk PG d yw Q))
abbrev Yt7(PG:Zb)(d:Nat)(Q:Q0)(t63:List Zh)(t64:Int)(cn:LB)(t65:Int):Prop:=
  ∀(U:Sl)(st:St)(fu km:Zr),U 6=.sl fu (List.map Zv cn)->U 63=.sl km (List.map Zh.row t63)->U 64=.i .i64 t64->U 65=.i .i64 t65->Yo d st.ow fu cn.length->W PG d (.loop yr) U st (Zs 4 (Zk PG d yu Q))
def MK(PG:Zb)(K:LB->Int->Prop)(cn:LB):Prop:=
  K cn 0
section
variable(PG:Zb)(K:LB->Int->Prop)
def vd(P2:LB->Int->Prop)(cn:LB)(t63:List Zh)(t64 t65:Int):Prop:=
  (t65<t64->0<=t65/\∃j:Zh,t63[(t65).toNat]?=some j/\∃e c,Ze PG 154 [j.av] (.tup [.s e,.i .i64 c])/\(c≠0->K ([]:LB) c)/\(¬(c≠0)->Ju (cn.length+[e].length) 16/\P2 (cn++[e]) (IntKind.i64.wrap (t65+1))))/\(¬(t65<t64)->MK PG K cn)
def MJ(cn:LB)(m1:Zi):Prop:=
  ∀P2:LB->Int->Prop,(∀(cn:LB)(t65:Int),vd PG K P2 cn m1.panics (m1.panics.length:Int) t65->P2 cn t65)->P2 cn 0
def vb(P1:LB->Int->Zd->Zi->Prop)(cn:LB)(t42:List Zq)(t43 t44:Int)(m0:Zd)(m1:Zi):Prop:=
  (t44<t43->0<=t44/\∃j:Zq,t42[(t44).toNat]?=some j/\∃e c,Ze PG 234 [m0.av,j.av] (.tup [.s e,.i .i64 c])/\(c≠0->K ([]:LB) c)/\(¬(c≠0)->Ju (cn.length+[e].length) 16/\P1 (cn++[e]) (IntKind.i64.wrap (t44+1)) m0 m1))/\(¬(t44<t43)->MJ PG K cn m1)
def MI(cn:LB)(m0:Zd)(m1:Zi):Prop:=
  ∀P1:LB->Int->Zd->Zi->Prop,(∀(cn:LB)(t44:Int)(m0:Zd)(kn:Zi),vb PG K P1 cn m1.defers (m1.defers.length:Int) t44 m0 kn->P1 cn t44 m0 kn)->P1 cn 0 m0 m1
def va(P0:LB->Int->Zd->Zi->Prop)(cn:LB)(t20:List Zf)(t21 t22:Int)(m0:Zd)(m1:Zi):Prop:=
  (t22<t21->0<=t22/\∃j:Zf,t20[(t22).toNat]?=some j/\∃e:LB,∃c,Ze PG 82 [m0.av,.i .i64 t22,j.av] (.tup [.sl .ext (List.map Zv e),.i .i64 c])/\(c≠0->K ([]:LB) c)/\(¬(c≠0)->Ju (cn.length+e.length) 16/\P0 (cn++e) (IntKind.i64.wrap (t22+1)) m0 m1))/\(¬(t22<t21)->MI PG K cn m0 m1)
def MH(cn:LB)(m0:Zd)(m1:Zi):Prop:=
  ∀P0:LB->Int->Zd->Zi->Prop,(∀(cn:LB)(t22:Int)(m0:Zd)(kn:Zi),va PG K P0 cn m1.frames (m1.frames.length:Int) t22 m0 kn->P0 cn t22 m0 kn)->P0 cn 0 m0 m1
def MG(m0:Zd)(m1:Zi):Prop:=
  MH PG K ([]:LB) m0 m1
def MF(m0:Zd)(x1:Zi):Prop:=
  MG PG K m0 x1
end
section
variable{K:LB->Int->Prop}(hQ:HM Zv (AV.i .i64) 4 5 Q K)
variable{cn:LB}{fu:Zr}{t63:List Zh}{t64 t65:Int}{P2:LB->Int->Prop}{km:Zr}{m1:Zi}{v1:Nat}{t42:List Zq}{t43 t44:Int}{m0:Zd}{P1:LB->Int->Zd->Zi->Prop}{kj:Zr}{v0:Nat}{t20:List Zf}{t21 t22:Int}{P0:LB->Int->Zd->Zi->Prop}{iy:Zr}{x1:Zi}
variable(yy :∀(cn:LB)(t65:Int),P2 cn t65->Yt7 PG d Q t63 t64 cn t65)(bZ :∀(cn:LB)(t44:Int)(m0:Zd)(m1:Zi),P1 cn t44 m0 m1->Yss PG d Q t42 t43 cn t44 m0 m1)(aD :∀(cn:LB)(t22:Int)(m0:Zd)(m1:Zi),P0 cn t22 m0 m1->Ypn PG d Q t20 t21 cn t22 m0 m1)(H0:U 0=m0.av)(H2:U 2=.p (d,0) v0 0)(H1:U 1=x1.av)(H3:U 3=.p (d,1) v1 0)(H6:U 6=.sl fu (List.map Zv cn))(yz:U 63=.sl km (List.map Zh.row t63))(H42:U 42=.sl kj (List.map Zq.row t42))(fJ:U 20=.sl iy (List.map Zf.row t20))(y4:U 64=.i .i64 t64)(H43:U 43=.i .i64 t43)(H21:U 21=.i .i64 t21)(qk:U 65=.i .i64 t65)(H44:U 44=.i .i64 t44)(H22:U 22=.i .i64 t22)(A6:Yo d st.ow fu cn.length)(B0:lk st.bx (d,0)=some (v0,Zd.cs m0))(B1:lk st.bx (d,1)=some (v1,Zi.cs m1))
include hQ H6 A6 in
theorem Xqf(h:MK PG K cn):W PG d yu U st Q:=
 au trivial
def Xb0(h:vd PG K P2 cn t63 t64 t65):W PG d yr U st (Zk PG d (.loop yr) (Zs 4 (Zk PG d yu Q))):=
 q_ J<|b_ qk y4 Wp<|e_<|Zl<|Yi J (fun e=>Ya<|Zl<|Yg<|Zl<|W.reg<|(h.1 e).2.elim fun p k=>Xy yz qk (h.1 e).1 k.1 (Zh.row_eq p) J<|Xx J J J<|Xl<|Zy J (show lk _ (d,81922)=some (_,Y0)from Zj) J J J<|e_<|q_ J<|l_ J Zj J J<|x2 k.2 fun r _ c=>Yh (Xu J J) c.1<|m_<|x_ J J<|x_ J J<|m_<|m_<|e_<|Zl<|q_ J<|m_<|b_ J J Vr<|e_<|Yi J (fun j=>q_ J<|m_<|Yf (f:=Zv) (l:=[]) J<|m_<|Zu<|hQ J J<|c.2.1 j)<|fun j=>Ya<|W.reg0 J fun _ _=>Yf H6<|m_<|Wr (f:=Zv) (l:=[r]) J J (Yl J J J Wi) J<|Jq Bs J J J A6.1 (c.2.2 j).1 J<|fun _ _ o _ q=>Yf J<|e_<|W.reg0 J fun _ _=>b_ qk J Vp<|m_<|e_<|yy _ _ (c.2.2 j).2 _ _ _ _ J yz y4 J<|Yo.mk o<|Qy.app A6.2 J q)<|fun e=>Vg<|Xqf hQ H6 A6<|h.2 e
def Xo9(h:MJ PG K cn m1):W PG d yw U st Q:=
 Zl<|q_ J<|f_ H3<|l_ J B1 J J<|Xq J<|m_<|e_<|Yg<|h (Yt7 PG d Q m1.panics (m1.panics.length:Int)) (fun _ _ hb _ _ _ _ H6 yz y4 qk A6=>W.loop<|Xb0 hQ (fun _ _ x=>x) H6 yz y4 qk A6 hb) _ _ _ _ H6 J J J A6
def Xez(h:vb PG K P1 cn t42 t43 t44 m0 m1):W PG d yq U st (Zk PG d (.loop yq) (Zs 2 (Zk PG d yw Q))):=
 q_ J<|b_ H44 H43 Wp<|e_<|Zl<|Yi J (fun e=>Ya<|Zl<|Yg<|Zl<|W.reg<|(h.1 e).2.elim fun p k=>Xy H42 H44 (h.1 e).1 k.1 (Zq.row_eq p) J<|Xx J J J<|Xl<|Zy J (show lk _ (d,49154)=some (_,lV)from Zj) J J J<|e_<|q_ J<|l_ H2 (Zm J<|Zm J B0) J J<|l_ J Zj J J<|x2 k.2 fun r _ c=>Yh (Wk J J J) c.1<|m_<|x_ J J<|x_ J J<|m_<|m_<|e_<|Zl<|q_ J<|m_<|b_ J J Vr<|e_<|Yi J (fun j=>q_ J<|m_<|Yf (f:=Zv) (l:=[]) J<|m_<|Zu<|hQ J J<|c.2.1 j)<|fun j=>Ya<|W.reg0 J fun _ _=>Yf H6<|m_<|Wr (f:=Zv) (l:=[r]) J J (Yl J J J Wi) J<|Jq Bs J J J A6.1 (c.2.2 j).1 J<|fun _ _ o _ q=>Yf J<|e_<|W.reg0 J fun _ _=>b_ H44 J Vp<|m_<|e_<|bZ _ _ _ _ (c.2.2 j).2 _ _ _ _ _ _ H2 H3 J H42 H43 J (Yo.mk o<|Qy.app A6.2 J q) (Zm J<|Zm J B0)<|Zm J<|Zm J B1)<|fun e=>Vg<|Xo9 hQ H3 H6 A6 B1<|h.2 e
def Xr6(h:MI PG K cn m0 m1):W PG d yx U st Q:=
 Zl<|q_ J<|f_ H3<|l_ J B1 J J<|Xq J<|m_<|e_<|Yg<|h (Yss PG d Q m1.defers (m1.defers.length:Int)) (fun _ _ _ _ hb _ _ _ _ _ _ H2 H3 H6 H42 H43 H44 A6 B0 B1=>W.loop<|Xez hQ (fun _ _ _ _ x=>x) H2 H3 H6 H42 H43 H44 A6 B0 B1 hb) _ _ _ _ _ _ H2 H3 H6 J J J A6 B0 B1
include hQ aD H2 H3 H6 fJ H21 H22 A6 B0 B1 in
theorem Ywa(h:va PG K P0 cn t20 t21 t22 m0 m1):W PG d yp U st (Zk PG d (.loop yp) (Zs 0 (Zk PG d yx Q))):=
 au @Xr6
def Xjm(h:MH PG K cn m0 m1):W PG d Ybw U st Q:=
 Zl<|q_ J<|f_ H3<|l_ J B1 J J<|Xq J<|m_<|e_<|Yg<|h (Ypn PG d Q m1.frames (m1.frames.length:Int)) (fun _ _ _ _ hb _ _ _ _ _ _ H2 H3 H6 fJ H21 H22 A6 B0 B1=>W.loop<|Ywa hQ (fun _ _ _ _ x=>x) H2 H3 H6 fJ H21 H22 A6 B0 B1 hb) _ _ _ _ _ _ H2 H3 H6 J J J A6 B0 B1
include hQ H2 H3 B0 B1 in
theorem Xk1(h:MG PG K m0 m1):W PG d Yl8 U st Q:=
 au @Xjm
def Yxx(h:MF PG K m0 x1):W PG d Yn5 U st Q:=
 q_ J<|Jw H0 J<|Jw H1 J<|Yf (f:=Zv) (l:=[]) J<|m_<|e_<|Xk1 hQ J J (Zm J Zj) Zj h
end
def Waz{PG:Zb}(hf:PG.fn 220=some uA){m0:Zd}{x1:Zi}{K:LB->Int->Prop}(h:MF PG K m0 x1):∃aa:LB,∃ae:Int,K aa ae/\Ze PG 220 [m0.av,x1.av] (.tup [.sl .ext (List.map Zv aa),.i .i64 ae]):=
 P2 hf J<|Yxx (hM J fun _ _ _=>J) J J h
abbrev y5:AC:= (sR 10 [oT 49 .lss 48 47]<|.seq (cD 49 .skip<|.exit 0)<|.seq (.block 1<|sR 11 [oX 50 1 46 48,oL 51 50,oM 12 51]<|.reg 12 [oM 52 10,oM 53 12,oB 54 .add (.c<|.s [32,32])<|.t 53,oO 55<|.bslice [zs] 1 [(0,(.t 54))],oO 56<|.app 1 16 (.t 52)<|.t 55,oM 10 56])<|.reg 13 [oV 57 .add 48 1,oM 48 57])
abbrev y6:AC:= (sR 14 [oM 58 10,oM 6 58,oI 7 0] .ret)
abbrev Yod:AC:= (.seq (sR 3 [oK 19 3 3,oK 20 5 5,oQ 21 219 [19,20],oZ 22 21]<|cD 22 (sR 4 [oC 6<|.sl .full [],oI 7 8] .ret) .skip)<|sR 5 [oK 24 3 3,oK 25 5 5,oQ 26 220 [24,25],oM 23 26,oE 27 0 23,oE 28 1 23,oM 8 27,oM 9 28]<|.seq (sR 6 [oM 29 9,oV 30 .neq 29 0]<|cD 30 (sR 7 [oM 31 9,oC 6<|.sl .full [],oM 7 31] .ret) .skip)<|sR 8 [oM 32 1,oQ 33 216 [32],oB 34 .add (.c<|.s pP)<|.t 33,oB 35 .add (.t 34)<|.c<|.s [58,32],oF 36 1 5,oL 37 36,oQ 38 15 [37],oB 39 .add (.c<|.s pR)<|.t 38,oO 40<|.build [zs,zs,zs,zs] [(1,1,(.c<|.s pT)),(3,1,(.c<|.s pW)),(2,1,(.t 39))],oF 41 0 5,oL 42 41,oO 43<|.ixA 4 1 false (.t 40)<|.t 42,oT 44 .add 35 43,oO 45<|.bslice [zs] 1 [(0,(.t 44))],oM 10 45]<|.seq (sR 9 [oM 46 8,oJ 47 46,oI 48 0]<|.block 0<|.loop y5) y6)
abbrev Yrg:AC:= (sR 0 [oY 3 3 0,oY 5 5 2,oC 6<|.sl .full [],oI 7 0]<|.seq (sR 1 [oM 13 1,oV 14 .lss 13 0,oM 15 14,gF 15<|oM 16 1,gF 15<|oV 17 .geq 16 16,oR 18 15 17]<|cD 18 (sR 2 [oC 6<|.sl .full [],oI 7 2] .ret) .skip) Yod)
def uq:AF:= { nt:=59,res:=[.tmp 6,.tmp 7],body:=Yrg }
abbrev Yoi(PG:Zb)(d:Nat)(Q:Q0)(t46:LB)(t47:Int)(cm:LB)(t48:Int):Prop:=
  ∀(U:Sl)(st:St)(ej ko:Zr),U 10=.sl ej (List.map Zv cm)->U 46=.sl ko (List.map Zv t46)->U 47=.i .i64 t47->U 48=.i .i64 t48->Yo d st.ow ej cm.length->W PG d (.loop y5) U st (Zs 0 (Zk PG d y6 Q))
def MN(PG:Zb)(K:LB->Int->Prop)(cm:LB):Prop:=
  K cm 0
section
variable(PG:Zb)(K:LB->Int->Prop)
def ve(P0:LB->Int->Prop)(cm t46:LB)(t47 t48:Int):Prop:=
  (t48<t47->0<=t48/\∃c:BS,t46[(t48).toNat]?=some c/\([32,32]:BS).length+c.length<=Yj/\Ju (cm.length+[(([32,32]:BS)++c)].length) 16/\P0 (cm++[(([32,32]:BS)++c)]) (IntKind.i64.wrap (t48+1)))/\(¬(t48<t47)->MN PG K cm)
def MM(g1:Int)(m0:Zd)(m1:Zi):Prop:=
  ∃c,Ze PG 219 [m0.av,m1.av] (.b c)/\((!c)=true->K ([]:LB) 8)/\((!c)=false->∃k:LB,∃j,Ze PG 220 [m0.av,m1.av] (.tup [.sl .ext (List.map Zv k),.i .i64 j])/\(j≠0->K ([]:LB) j)/\(¬(j≠0)->∃e:BS,Ze PG 216 [.i .i64 g1] (.s e)/\([103,111,114,111,117,116,105,110,101,32]:BS).length+e.length<=Yj/\(([103,111,114,111,117,116,105,110,101,32]:BS)++e).length+([58,32]:BS).length<=Yj/\∃o:BS,Ze PG 15 [.i .i64 m1.key] (.s o)/\([98,108,111,99,107,101,100,32]:BS).length+o.length<=Yj/\0<=m1.status/\∃p:BS,([[],([114,101,97,100,121]:BS),(([98,108,111,99,107,101,100,32]:BS)++o),([100,111,110,101]:BS)]:LB)[(m1.status).toNat]?=some p/\((([103,111,114,111,117,116,105,110,101,32]:BS)++e)++([58,32]:BS)).length+p.length<=Yj/\∀P0:LB->Int->Prop,(∀(cm:LB)(t48:Int),ve PG K P0 cm k (k.length:Int) t48->P0 cm t48)->P0 [(((([103,111,114,111,117,116,105,110,101,32]:BS)++e)++([58,32]:BS))++p)] 0))
def ML(m0:Zd)(g1:Int)(x2:Zi):Prop:=
  (g1<0->K ([]:LB) 2)/\(¬(g1<0)->(g1>=16->K ([]:LB) 2)/\(¬(g1>=16)->MM PG K g1 m0 x2))
end
section
variable{K:LB->Int->Prop}(hQ:HM Zv (AV.i .i64) 6 7 Q K)
variable{cm:LB}{ej:Zr}{t46:LB}{t47 t48:Int}{P0:LB->Int->Prop}{ko:Zr}{g1:Int}{m0:Zd}{m1:Zi}{v0 v1:Nat}{x2:Zi}
variable(aD :∀(cm:LB)(t48:Int),P0 cm t48->Yoi PG d Q t46 t47 cm t48)(H0:U 0=m0.av)(aH:U 10=.sl ej (List.map Zv cm))(H1:U 1=.i .i64 g1)(H46:U 46=.sl ko (List.map Zv t46))(H3:U 3=.p (d,0) v0 0)(H2:U 2=x2.av)(H47:U 47=.i .i64 t47)(H5:U 5=.p (d,1) v1 0)(ql:U 48=.i .i64 t48)(B0:lk st.bx (d,0)=some (v0,Zd.cs m0))(fB:Yo d st.ow ej cm.length)(B1:lk st.bx (d,1)=some (v1,Zi.cs m1))
include hQ aH fB in
theorem Xd3(h:MN PG K cm):W PG d y6 U st Q:=
 au trivial
def Xk5(h:ve PG K P0 cm t46 t47 t48):W PG d y5 U st (Zk PG d (.loop y5) (Zs 0 (Zk PG d y6 Q))):=
 q_ J<|b_ ql H47 Wp<|e_<|Zl<|Yi J (fun e=>Ya<|Zl<|Yg<|q_ J<|(h.1 e).2.elim fun j c=>Xy H46 ql (h.1 e).1 c.1 J J<|Xx J J J<|m_<|e_<|W.reg0 J fun _ _=>Yf aH<|m_<|b_ J J (Xp c.2.1)<|Wr (f:=Zv) (l:=[(([32,32]:BS)++j)]) J J (Yl J J J Wi) J<|Jq Bs J J J fB.1 c.2.2.1 J<|fun _ _ i _ k=>Yf J<|e_<|W.reg0 J fun _ _=>b_ ql J Vp<|m_<|e_<|aD _ _ c.2.2.2 _ _ _ _ J H46 H47 J<|Yo.mk i<|Qy.app fB.2 J k)<|fun e=>Vg<|Xd3 hQ aH fB<|h.2 e
include hQ H1 H3 H5 B0 B1 in
theorem Xy1(h:MM PG K g1 m0 m1):W PG d Yod U st Q:=
 Zl<|q_ J<|l_ H3 B0 J J<|l_ H5 B1 J J<|h.elim fun _ j=>Yh (Wk J J J) j.1<|Wa J<|e_<|Xw J (fun o=>q_ J<|Yf (f:=Zv) (l:=[]) J<|m_<|Zu<|hQ J J<|j.2.1 o)<|fun o=>Ya<|q_ J<|l_ H3 B0 J J<|l_ H5 B1 J J<|x2 (j.2.2 o) fun q _ k=>Yh (Wk J J J) k.1<|m_<|x_ J J<|x_ J J<|Yf J<|m_<|e_<|Zl<|q_ J<|m_<|b_ J J Vr<|e_<|Yi J (fun p=>q_ J<|m_<|Yf (f:=Zv) (l:=[]) J<|m_<|Zu<|hQ J J<|k.2.1 p)<|fun p=>Ya<|q_ J<|m_<|(k.2.2 p).elim fun v e=>Yh (Xu H1 J) e.1<|b_ J J (Xp e.2.1)<|b_ J J (Xp e.2.2.1)<|f_ H5<|l_ J B1 J J<|e.2.2.2.elim fun u c=>Yh (Xu J J) c.1<|b_ J J (Xp c.2.1)<|Ao (f:=AV.s) (l:=[[],(pT:BS),((pR:BS)++u),(pW:BS)]) (Yr J J<|Yr J J<|Yr J J Yu) J<|f_ H5<|l_ J B1 J J<|c.2.2.2.elim fun r i=>Cy (f:=AV.s) J J J c.2.2.1 i.1<|b_ J J (Xp i.2.1)<|Wr (f:=Zv) (l:=[((((pP:BS)++v)++([58,32]:BS))++r)]) J J (Yl J J J Wi) J<|Yf J<|e_<|Zl<|q_ J<|Yf J<|Xq J<|m_<|e_<|Yg<|i.2.2 (Yoi PG d Q q (q.length:Int)) (fun _ _ hb _ _ _ _ aH H46 H47 ql fB=>W.loop<|Xk5 hQ (fun _ _ x=>x) aH H46 H47 ql fB hb) _ _ _ _ J J J J Yo.full
def Wcf(h:ML PG K m0 g1 x2):W PG d Yrg U st Q:=
 q_ J<|Jw H0 J<|Jw H2 J<|Yf (f:=Zv) (l:=[]) J<|m_<|e_<|Zl<|q_ J<|Wc H1<|b_ J J Wp<|Yt J<|Xe (g:=15) J (fun c=>z_ 3 J<|e_<|Xh J<|q_ J<|Yf (f:=Zv) (l:=[]) J<|m_<|Zu<|hQ J J<|h.1 c)<|fun c=>Zg J<|Wc H1<|Zg J<|b_ J J Ha<|Vt J J<|e_<|Yi J (fun e=>q_ J<|Yf (f:=Zv) (l:=[]) J<|m_<|Zu<|hQ J J<|(h.2 c).1 e)<|fun e=>Ya<|Xy1 hQ H1 J J (Zm J Zj) Zj<|(h.2 c).2 e
def Xb4(hf:PG.fn 207=some uq)(h:ML PG K m0 g1 x2):∃aa:LB,∃ae:Int,K aa ae/\Ze PG 207 [m0.av,.i .i64 g1,x2.av] (.tup [.sl .ext (List.map Zv aa),.i .i64 ae]):=
 P2 hf J<|Wcf (hM J fun _ _ _=>J) J J J h
end
def Ym7:List AI:=[oM 72 12,oV 73 .add 72 1,oM 12 73]
abbrev y7:AC:= (.seq (sR 14 [oM 53 11,oM 54 10,oJ 55 54,oT 56 .lss 53 55]<|cD 56 .skip<|.exit 3)<|.seq (.block 4<|.reg 16 [oM 59 8,oM 60 10,oM 61 11,oX 62 1 60 61,oL 63 62,oB 64 .add (.c<|.s [32,32])<|.t 63,oO 65<|.bslice [zs] 1 [(0,(.t 64))],oO 66<|.app 1 16 (.t 59)<|.t 65,oM 8 66])<|.reg 15 [oM 57 11,oV 58 .add 57 1,oM 11 58])
abbrev y8:AC:= (.reg 11 [oM 43 9,oV 44 .add 43 1,oM 9 44])
abbrev Pv:AC:= (.seq (sR 10 [oM 38 9,oF 39 2 5,oL 40 39,oJ 41 40,oT 42 .lss 38 41]<|cD 42 .skip<|.exit 1)<|.seq (.block 2<|sR 12 [oK 45 3 3,oM 46 9,oF 47 2 5,oL 48 47,oM 49 9,oX 50 4 48 49,oK 51 4 50,oQ 52 114 [45,46,51],oM 10 52]<|sR 13 [oI 11 0]<|.block 3<|.loop y7) y8)
abbrev Yr7:AC:= (.reg 24 [oM 106 8,oM 107 14,oO 108<|.bslice [zs] 1 [(0,(.t 107))],oO 109<|.app 1 16 (.t 106)<|.t 108,oM 8 109])
abbrev qm:AC:= (.seq (sR 18 [oM 67 12,oF 68 3 5,oL 69 68,oJ 70 69,oT 71 .lss 67 70]<|cD 71 .skip<|.exit 5)<|.seq (.block 6<|sR 20 [oF 74 3 5,oL 75 74,oM 76 12,oX 77 8 75 76,oK 78 8 77,oO 13<|.alloc gN,oS 8 13 78]<|sR 21 [oF 79 0 13,oL 80 79,oQ 81 226 [80],oB 82 .add (.c<|.s [32,32,100,101,102,101,114,32])<|.t 81,oB 83 .add (.t 82)<|.c<|.s [32],oF 84 1 13,oL 85 84,oQ 86 226 [85],oT 87 .add 83 86,oB 88 .add (.t 87)<|.c<|.s [32],oF 89 2 3,oL 90 89,oF 91 1 13,oL 92 91,oX 93 7 90 92,oF 94 0 93,oL 95 94,oQ 96 31 [95],oT 97 .add 88 96,oM 14 97]<|.seq (sR 22 [oF 98 2 13,oL 99 98]<|cD 99 (.reg 23 [oM 100 14,oF 101 3 13,oK 102 5 101,oQ 103 106 [102],oB 104 .add (.c<|.s [32,119,105,116,104,32])<|.t 103,oT 105 .add 100 104,oM 14 105]) .skip) Yr7)<|.reg 19 Ym7)
abbrev y9:AC:= (.seq (sR 26 [oM 110 15,oF 111 4 5,oL 112 111,oJ 113 112,oT 114 .lss 110 113]<|cD 114 .skip<|.exit 7)<|.seq (.block 8<|.reg 28 [oM 117 8,oF 118 4 5,oL 119 118,oM 120 15,oX 121 7 119 120,oK 122 7 121,oQ 123 179 [122],oB 124 .add (.c<|.s [32,32])<|.t 123,oO 125<|.bslice [zs] 1 [(0,(.t 124))],oO 126<|.app 1 16 (.t 117)<|.t 125,oM 8 126])<|.reg 27 [oM 115 15,oV 116 .add 115 1,oM 15 116])
abbrev y_:AC:= (sR 29 [oM 127 8,oM 6 127] .ret)
abbrev qn:AC:= (.seq (sR 25 [oI 15 0]<|.block 7<|.loop y9) y_)
abbrev Lb:AC:= (.seq (sR 17 [oI 12 0]<|.block 5<|.loop qm) qn)
abbrev Yga:AC:= (.seq (sR 9 [oI 9 0]<|.block 1<|.loop Pv) Lb)
abbrev Ygb:AC:= (sR 8 [oM 36 7,oO 37<|.bslice [zs] 1 [(0,(.t 36))],oM 8 37] Yga)
abbrev Yeo:AC:= (.seq (sR 2 [oF 20 0 5,oL 21 20]<|.block 0<|sR 4 [oW 29 .eql 21 1,oM 28 29]<|cD 28 (.reg 5 [oM 30 7,oB 31 .add (.t 30)<|.c<|.s pT,oM 7 31])<|sR 6 [oW 33 .eql 21 3,oM 32 33]<|cD 32 (.reg 7 [oM 34 7,oB 35 .add (.t 34)<|.c<|.s pW,oM 7 35])<|.reg 3 [oM 22 7,oF 23 1 5,oL 24 23,oQ 25 16 [24],oB 26 .add (.c<|.s pR)<|.t 25,oT 27 .add 22 26,oM 7 27]) Ygb)
abbrev Yhf:AC:= (sR 1 [oM 16 1,oQ 17 226 [16],oB 18 .add (.c<|.s pP)<|.t 17,oB 19 .add (.t 18)<|.c<|.s [58,32],oM 7 19] Yeo)
abbrev Yi6:AC:= (sR 0 [oY 3 3 0,oY 5 5 2,oC 6<|.sl .full []] Yhf)
def uC:AF:= { nt:=128,res:=[.tmp 6],body:=Yi6 }
abbrev Yqe(PG:Zb)(d:Nat)(Q:Q0)(bp:LB)(i9:Int)(m0:Zd)(m1:Zi):Prop:=
  ∀(U:Sl)(st:St)(da:Zr)(v0 v1:Nat),U 3=.p (d,0) v0 0->U 5=.p (d,1) v1 0->U 8=.sl da (List.map Zv bp)->U 9=.i .i64 i9->Yo d st.ow da bp.length->lk st.bx (d,0)=some (v0,Zd.cs m0)->lk st.bx (d,1)=some (v1,Zi.cs m1)->W PG d (.loop Pv) U st (Zs 1 (Zk PG d Lb Q))
abbrev Yom(PG:Zb)(d:Nat)(Q:Q0)(i9:Int)(iS bp:LB)(eK:Int)(m0:Zd)(m1:Zi):Prop:=
  ∀(U:Sl)(st:St)(da kq:Zr)(v0 v1:Nat),U 3=.p (d,0) v0 0->U 5=.p (d,1) v1 0->U 8=.sl da (List.map Zv bp)->U 9=.i .i64 i9->U 10=.sl kq (List.map Zv iS)->U 11=.i .i64 eK->Yo d st.ow da bp.length->lk st.bx (d,0)=some (v0,Zd.cs m0)->lk st.bx (d,1)=some (v1,Zi.cs m1)->W PG d (.loop y7) U st (Zs 3 (Zs 2 (Zk PG d y8 (Zk PG d (.loop Pv) (Zs 1 (Zk PG d Lb Q))))))
def MT(PG:Zb)(K:LB->Prop)(P0:LB->Int->Zd->Zi->Prop)(bp:LB)(i9:Int)(m0:Zd)(m1:Zi):Prop:=
  P0 bp (IntKind.i64.wrap (i9+1)) m0 m1
section
variable(PG:Zb)(K:LB->Prop)
def vj(P1 P0:LB->Int->Zd->Zi->Prop)(bp:LB)(i9:Int)(iS:LB)(eK:Int)(m0:Zd)(m1:Zi):Prop:=
  (eK<(iS.length:Int)->0<=eK/\∃c:BS,iS[(eK).toNat]?=some c/\([32,32]:BS).length+c.length<=Yj/\Ju (bp.length+[(([32,32]:BS)++c)].length) 16/\P1 (bp++[(([32,32]:BS)++c)]) (IntKind.i64.wrap (eK+1)) m0 m1)/\(¬(eK<(iS.length:Int))->MT PG K P0 bp i9 m0 m1)
end
abbrev Yh7(PG:Zb)(d:Nat)(Q:Q0)(bp:LB)(i12:Int)(m0:Zd)(m1:Zi):Prop:=
  ∀(U:Sl)(st:St)(da:Zr)(v0 v1:Nat),U 3=.p (d,0) v0 0->U 5=.p (d,1) v1 0->U 8=.sl da (List.map Zv bp)->U 12=.i .i64 i12->Yo d st.ow da bp.length->lk st.bx (d,0)=some (v0,Zd.cs m0)->lk st.bx (d,1)=some (v1,Zi.cs m1)->W PG d (.loop qm) U st (Zs 5 (Zk PG d qn Q))
def pt(PG:Zb)(K:LB->Prop)(P2:LB->Int->Zd->Zi->Prop)(bp:LB)(i12:Int)(mr:BS)(m0:Zd)(m1:Zi):Prop:=
  Ju (bp.length+[mr].length) 16/\P2 (bp++[mr]) (IntKind.i64.wrap (i12+1)) m0 m1
abbrev Yt6(PG:Zb)(d:Nat)(Q:Q0)(bp:LB)(i15:Int)(m1:Zi):Prop:=
  ∀(U:Sl)(st:St)(da:Zr)(v1:Nat),U 5=.p (d,1) v1 0->U 8=.sl da (List.map Zv bp)->U 15=.i .i64 i15->Yo d st.ow da bp.length->lk st.bx (d,1)=some (v1,Zi.cs m1)->W PG d (.loop y9) U st (Zs 7 (Zk PG d y_ Q))
def MS(PG:Zb)(K:LB->Prop)(bp:LB):Prop:=
  K bp
section
variable(PG:Zb)(K:LB->Prop)
def vh(P3:LB->Int->Zi->Prop)(bp:LB)(i15:Int)(m1:Zi):Prop:=
  (i15<(m1.panics.length:Int)->0<=i15/\∃e:Zh,m1.panics[(i15).toNat]?=some e/\∃c:BS,Ze PG 179 [e.av] (.s c)/\([32,32]:BS).length+c.length<=Yj/\Ju (bp.length+[(([32,32]:BS)++c)].length) 16/\P3 (bp++[(([32,32]:BS)++c)]) (IntKind.i64.wrap (i15+1)) m1)/\(¬(i15<(m1.panics.length:Int))->MS PG K bp)
def MR(bp:LB)(m1:Zi):Prop:=
  ∀P3:LB->Int->Zi->Prop,(∀(bp:LB)(i15:Int)(m1:Zi),vh PG K P3 bp i15 m1->P3 bp i15 m1)->P3 bp 0 m1
def vg(P2:LB->Int->Zd->Zi->Prop)(bp:LB)(i12:Int)(m0:Zd)(m1:Zi):Prop:=
  (i12<(m1.defers.length:Int)->0<=i12/\∃e:Zq,m1.defers[(i12).toNat]?=some e/\∃c:BS,Ze PG 226 [.i .i64 e.frame] (.s c)/\([32,32,100,101,102,101,114,32]:BS).length+c.length<=Yj/\(([32,32,100,101,102,101,114,32]:BS)++c).length+([32]:BS).length<=Yj/\∃j:BS,Ze PG 226 [.i .i64 e.func] (.s j)/\((([32,32,100,101,102,101,114,32]:BS)++c)++([32]:BS)).length+j.length<=Yj/\(((([32,32,100,101,102,101,114,32]:BS)++c)++([32]:BS))++j).length+([32]:BS).length<=Yj/\0<=e.func/\∃p:Zz,m0.funcs[(e.func).toNat]?=some p/\∃k:BS,Ze PG 31 [.s p.name] (.s k)/\((((([32,32,100,101,102,101,114,32]:BS)++c)++([32]:BS))++j)++([32]:BS)).length+k.length<=Yj/\(e.hasArg=true->∃o:BS,Ze PG 106 [e.arg.av] (.s o)/\([32,119,105,116,104,32]:BS).length+o.length<=Yj/\(((((([32,32,100,101,102,101,114,32]:BS)++c)++([32]:BS))++j)++([32]:BS))++k).length+(([32,119,105,116,104,32]:BS)++o).length<=Yj/\pt PG K P2 bp i12 ((((((([32,32,100,101,102,101,114,32]:BS)++c)++([32]:BS))++j)++([32]:BS))++k)++(([32,119,105,116,104,32]:BS)++o)) m0 m1)/\(e.hasArg=false->pt PG K P2 bp i12 (((((([32,32,100,101,102,101,114,32]:BS)++c)++([32]:BS))++j)++([32]:BS))++k) m0 m1))/\(¬(i12<(m1.defers.length:Int))->MR PG K bp m1)
def MQ(bp:LB)(m0:Zd)(m1:Zi):Prop:=
  ∀P2:LB->Int->Zd->Zi->Prop,(∀(bp:LB)(i12:Int)(m0:Zd)(m1:Zi),vg PG K P2 bp i12 m0 m1->P2 bp i12 m0 m1)->P2 bp 0 m0 m1
def vf(P0:LB->Int->Zd->Zi->Prop)(bp:LB)(i9:Int)(m0:Zd)(m1:Zi):Prop:=
  (i9<(m1.frames.length:Int)->0<=i9/\∃e:Zf,m1.frames[(i9).toNat]?=some e/\∃c,Ze PG 114 [m0.av,.i .i64 i9,e.av] (.sl .ext (List.map Zv c))/\∀P1:LB->Int->Zd->Zi->Prop,(∀(bp:LB)(eK:Int)(m0:Zd)(m1:Zi),vj PG K P1 P0 bp i9 c eK m0 m1->P1 bp eK m0 m1)->P1 bp 0 m0 m1)/\(¬(i9<(m1.frames.length:Int))->MQ PG K bp m0 m1)
def MP(bp:LB)(m0:Zd)(m1:Zi):Prop:=
  ∀P0:LB->Int->Zd->Zi->Prop,(∀(bp:LB)(i9:Int)(m0:Zd)(m1:Zi),vf PG K P0 bp i9 m0 m1->P0 bp i9 m0 m1)->P0 bp 0 m0 m1
def Ew(ew:BS)(m0:Zd)(m1:Zi):Prop:=
  MP PG K [ew] m0 m1
def MW(ew:BS)(m0:Zd)(m1:Zi):Prop:=
  (m1.status=1->ew.length+([114,101,97,100,121]:BS).length<=Yj/\Ew PG K (ew++([114,101,97,100,121]:BS)) m0 m1)/\(¬(m1.status=1)->(m1.status=3->ew.length+([100,111,110,101]:BS).length<=Yj/\Ew PG K (ew++([100,111,110,101]:BS)) m0 m1)/\(¬(m1.status=3)->∃c:BS,Ze PG 16 [.i .i64 m1.key] (.s c)/\([98,108,111,99,107,101,100,32]:BS).length+c.length<=Yj/\ew.length+(([98,108,111,99,107,101,100,32]:BS)++c).length<=Yj/\Ew PG K (ew++(([98,108,111,99,107,101,100,32]:BS)++c)) m0 m1))
def MV(g1:Int)(m0:Zd)(m1:Zi):Prop:=
  ∃c:BS,Ze PG 226 [.i .i64 g1] (.s c)/\([103,111,114,111,117,116,105,110,101,32]:BS).length+c.length<=Yj/\(([103,111,114,111,117,116,105,110,101,32]:BS)++c).length+([58,32]:BS).length<=Yj/\MW PG K ((([103,111,114,111,117,116,105,110,101,32]:BS)++c)++([58,32]:BS)) m0 m1
def MU(m0:Zd)(g1:Int)(x2:Zi):Prop:=
  MV PG K g1 m0 x2
end
section
variable{K:LB->Prop}(hQ:HL Zv 6 Q K)
variable{bp:LB}{i9:Int}{m0:Zd}{m1:Zi}{P0:LB->Int->Zd->Zi->Prop}{da:Zr}{v0 v1:Nat}{iS:LB}{eK:Int}{P1:LB->Int->Zd->Zi->Prop}{kq:Zr}{i12:Int}{mr:BS}{P2:LB->Int->Zd->Zi->Prop}{i15:Int}{P3:LB->Int->Zi->Prop}{ew:BS}{g1:Int}{x2:Zi}
variable(bZ :∀(bp:LB)(eK:Int)(m0:Zd)(m1:Zi),P1 bp eK m0 m1->Yom PG d Q i9 iS bp eK m0 m1)(yy :∀(bp:LB)(i12:Int)(m0:Zd)(m1:Zi),P2 bp i12 m0 m1->Yh7 PG d Q bp i12 m0 m1)(kP3 :∀(bp:LB)(i15:Int)(m1:Zi),P3 bp i15 m1->Yt6 PG d Q bp i15 m1)(H0:U 0=m0.av)(aD :∀(bp:LB)(i9:Int)(m0:Zd)(m1:Zi),P0 bp i9 m0 m1->Yqe PG d Q bp i9 m0 m1)(H1:U 1=.i .i64 g1)(H3:U 3=.p (d,0) v0 0)(H2:U 2=x2.av)(H5:U 5=.p (d,1) v1 0)(H8:U 8=.sl da (List.map Zv bp))(H7:U 7=.s ew)(H9:U 9=.i .i64 i9)(bT:U 12=.i .i64 i12)(H15:U 15=.i .i64 i15)(aH:U 10=.sl kq (List.map Zv iS))(eV:U 14=.s mr)(H11:U 11=.i .i64 eK)(A8:Yo d st.ow da bp.length)(B0:lk st.bx (d,0)=some (v0,Zd.cs m0))(B1:lk st.bx (d,1)=some (v1,Zi.cs m1))
include hQ aD H3 H5 H8 H9 A8 B0 B1 in
theorem Yxq(h:MT PG K P0 bp i9 m0 m1):W PG d y8 U st (Zk PG d (.loop Pv) (Zs 1 (Zk PG d Lb Q))):=
 au trivial
def Xd1(h:vj PG K P1 P0 bp i9 iS eK m0 m1):W PG d y7 U st (Zk PG d (.loop y7) (Zs 3 (Zs 2 (Zk PG d y8 (Zk PG d (.loop Pv) (Zs 1 (Zk PG d Lb Q))))))):=
 Zl<|q_ J<|m_<|Yf aH<|Xq J<|b_ H11 J Wp<|e_<|Yi J (fun e=>Ya<|Zl<|Yg<|W.reg0 J fun _ _=>Yf H8<|Yf aH<|m_<|(h.1 e).2.elim fun j c=>Xy J H11 (h.1 e).1 c.1 J J<|Xx J J J<|b_ J J (Xp c.2.1)<|Wr (f:=Zv) (l:=[(([32,32]:BS)++j)]) J J (Yl J J J Wi) J<|Jq Bs J J J A8.1 c.2.2.1 J<|fun _ _ i _ k=>Yf J<|e_<|W.reg0 J fun _ _=>m_<|b_ H11 J Vp<|m_<|e_<|bZ _ _ _ _ c.2.2.2 _ _ _ _ _ _ H3 H5 J H9 aH J (Yo.mk i<|Qy.app A8.2 J k) B0 B1)<|fun e=>Vg<|Yxq hQ aD H3 H5 H8 H9 A8 B0 B1<|h.2 e
def Xce(h:pt PG K P2 bp i12 mr m0 m1):W PG d Yr7 U st (Zs 6 (Zk PG d (.reg 19 Ym7) (Zk PG d (.loop qm) (Zs 5 (Zk PG d qn Q))))):=
 W.reg0 J fun _ _=>Yf H8<|m_<|Wr (f:=Zv) (l:=[mr]) J J (Yl eV J J Wi) J<|Jq Bs J J J A8.1 h.1 J<|fun _ _ c _ e=>Yf J<|e_<|W.reg0 J fun _ _=>m_<|b_ bT J Vp<|m_<|e_<|yy _ _ _ _ h.2 _ _ _ _ _ H3 H5 J J (Yo.mk c<|Qy.app A8.2 J e) B0 B1
include hQ H8 A8 in
theorem Xcd(h:MS PG K bp):W PG d y_ U st Q:=
 au trivial
def Xll(h:vh PG K P3 bp i15 m1):W PG d y9 U st (Zk PG d (.loop y9) (Zs 7 (Zk PG d y_ Q))):=
 Zl<|q_ J<|m_<|f_ H5<|l_ J B1 J J<|Xq J<|b_ H15 J Wp<|e_<|Yi J (fun e=>Ya<|Zl<|Yg<|W.reg0 J fun _ _=>Yf H8<|f_ H5<|l_ J B1 J J<|m_<|(h.1 e).2.elim fun k i=>Xy J H15 (h.1 e).1 i.1 (Zh.row_eq k) J<|Xx J J J<|i.2.elim fun p c=>Yh (Xu J J) c.1<|b_ J J (Xp c.2.1)<|Wr (f:=Zv) (l:=[(([32,32]:BS)++p)]) J J (Yl J J J Wi) J<|Jq Bs J J J A8.1 c.2.2.1 J<|fun _ _ j _ o=>Yf J<|e_<|W.reg0 J fun _ _=>m_<|b_ H15 J Vp<|m_<|e_<|kP3 _ _ _ c.2.2.2 _ _ _ _ H5 J J (Yo.mk j<|Qy.app A8.2 J o) B1)<|fun e=>Vg<|Xcd hQ H8 A8<|h.2 e
def Wb4(h:MR PG K bp m1):W PG d qn U st Q:=
 Zl<|q_ J<|m_<|e_<|Yg<|h (Yt6 PG d Q ) (fun _ _ _ hb _ _ _ _ H5 H8 H15 A8 B1=>W.loop<|Xll hQ (fun _ _ _ x=>x) H5 H8 H15 A8 B1 hb) _ _ _ _ H5 H8 J A8 B1
include hQ yy H3 H5 H8 bT A8 B0 B1 in
theorem Xld(h:vg PG K P2 bp i12 m0 m1):W PG d qm U st (Zk PG d (.loop qm) (Zs 5 (Zk PG d qn Q))):=
 au<|And.intro @Xce @Wb4
def Xfk(h:MQ PG K bp m0 m1):W PG d Lb U st Q:=
 Zl<|q_ J<|m_<|e_<|Yg<|h (Yh7 PG d Q ) (fun _ _ _ _ hb _ _ _ _ _ H3 H5 H8 bT A8 B0 B1=>W.loop<|Xld hQ (fun _ _ _ _ x=>x) H3 H5 H8 bT A8 B0 B1 hb) _ _ _ _ _ H3 H5 H8 J A8 B0 B1
def Xi2(h:vf PG K P0 bp i9 m0 m1):W PG d Pv U st (Zk PG d (.loop Pv) (Zs 1 (Zk PG d Lb Q))):=
 Zl<|q_ J<|m_<|f_ H5<|l_ J B1 J J<|Xq J<|b_ H9 J Wp<|e_<|Yi J (fun c=>Ya<|Zl<|Yg<|q_ J<|l_ H3 B0 J J<|m_<|f_ H5<|l_ J B1 J J<|m_<|(h.1 c).2.elim fun j e=>Xy J H9 (h.1 c).1 e.1 (Zf.row_eq j) J<|Xx J J J<|e.2.elim fun k i=>Yh (Iz J H9 J J) i.1<|Yf J<|e_<|q_ J<|m_<|e_<|Yg<|i.2 (Yom PG d Q i9 k) (fun _ _ _ _ hb _ _ _ _ _ _ H3 H5 H8 H9 aH H11 A8 B0 B1=>W.loop<|Xd1 hQ (fun _ _ _ _ x=>x) aD H3 H5 H8 H9 aH H11 A8 B0 B1 hb) _ _ _ _ _ _ H3 H5 H8 H9 J J A8 B0 B1)<|fun c=>Vg<|Xfk hQ H3 H5 H8 A8 B0 B1<|h.2 c
def Wd8(h:MP PG K bp m0 m1):W PG d Yga U st Q:=
 Zl<|q_ J<|m_<|e_<|Yg<|h (Yqe PG d Q ) (fun _ _ _ _ hb _ _ _ _ _ H3 H5 H8 H9 A8 B0 B1=>W.loop<|Xi2 hQ (fun _ _ _ _ x=>x) H3 H5 H8 H9 A8 B0 B1 hb) _ _ _ _ _ H3 H5 H8 J A8 B0 B1
def Q5(h:Ew PG K ew m0 m1):W PG d Ygb U st Q:=
 q_ J<|m_<|Wr (f:=Zv) (l:=[ew]) J J (Yl H7 J J Wi) J<|Yf J<|e_<|Wd8 hQ H3 H5 J Yo.full B0 B1 h
def Xhr(h:MW PG K ew m0 m1):W PG d Yeo U st Q:=
 Zl<|q_ J<|f_ H5<|l_ J B1 J J<|e_<|Yg<|q_ J<|b_ J J Xf<|m_<|e_<|Yi J (fun c=>W.reg0 J fun _ _=>m_<|b_ H7 J (Xp (h.1 c).1)<|m_<|e_<|Q5 hQ H3 H5 J B0 B1 (h.1 c).2)<|fun c=>q_ J<|b_ J J Xf<|m_<|e_<|Yi J (fun i=>W.reg0 J fun _ _=>m_<|b_ H7 J (Xp ((h.2 c).1 i).1)<|m_<|e_<|Q5 hQ H3 H5 J B0 B1 ((h.2 c).1 i).2)<|fun i=>W.reg0 J fun _ _=>m_<|f_ H5<|l_ J B1 J J<|((h.2 c).2 i).elim fun _ e=>Yh (Xu J J) e.1<|b_ J J (Xp e.2.1)<|b_ H7 J (Xp e.2.2.1)<|m_<|e_<|Q5 hQ H3 H5 J B0 B1 e.2.2.2
include hQ H1 H3 H5 B0 B1 in
theorem Xgz(h:MV PG K g1 m0 m1):W PG d Yhf U st Q:=
 au @Xhr
def Xu2(h:MU PG K m0 g1 x2):W PG d Yi6 U st Q:=
 q_ J<|Jw H0 J<|Jw H2 J<|Yf (f:=Zv) (l:=[]) J<|e_<|Xgz hQ H1 J J (Zm J Zj) Zj h
end
def Xth{PG:Zb}(hf:PG.fn 222=some uC){m0:Zd}{g1:Int}{x2:Zi}{K:LB->Prop}(h:MU PG K m0 g1 x2):∃aa:LB,K aa/\Ze PG 222 [m0.av,.i .i64 g1,x2.av] (.sl .ext (List.map Zv aa)):=
 P1 hf J<|Xu2 (hL J) J J J h
abbrev Wbk(Q:Q0)(K:LB->Int->Prop):Prop:=∀(U:Sl)(st:St)(o0:Zr)(aa:LB)(ae:Int),U 6=.sl o0 (List.map Zv aa)->U 7=.i .i64 ae->K aa ae->Q .ret U st
section
variable{K:LB->Int->Prop}(hQ:Wbk Q K)
end
abbrev za:AC:= (sR 13 [oT 58 .lss 57 56]<|.seq (cD 58 .skip<|.exit 2)<|.seq (.block 3<|sR 14 [oX 59 1 55 57,oL 60 59,oM 13 60]<|.reg 15 [oM 61 13,oB 62 .add (.t 61)<|.c<|.s [10],oP 63 126 [7,62]])<|.reg 16 [oV 64 .add 57 1,oM 57 64])
abbrev zc:AC:= (.reg 17 [oV 65 .add 40 1,oM 40 65])
abbrev Cw:AC:= (sR 7 [oT 41 .lss 40 39]<|.seq (cD 41 .skip<|.exit 0)<|.seq (.block 1<|sR 8 [oM 42 40,oX 43 5 38 40,oK 44 5 43,oO 9<|.alloc eJ,oM 8 42,oS 5 9 44]<|sR 9 [oK 46 3 2,oM 47 8,oK 48 5 9,oQ 49 207 [46,47,48],oM 45 49,oE 50 0 45,oE 51 1 45,oM 10 50,oM 11 51]<|.seq (sR 10 [oM 52 11,oV 53 .neq 52 0]<|cD 53 (sR 11 [oM 54 11,oC 4<|.s [],oM 5 54] .ret) .skip)<|sR 12 [oM 55 10,oJ 56 55,oI 57 0]<|.block 2<|.loop za) zc)
abbrev Lq:AC:= (.seq (sR 18 [oP 66 217 [7],oV 67 .gtr 66 300000]<|cD 67 (sR 19 [oC 4<|.s [],oI 5 4] .ret) .skip)<|sR 20 [oP 68 105 [7],oM 4 68,oI 5 0] .ret)
abbrev Yio:AC:= (sR 5 [oQ 20 215 [],oF 21 0 3,oL 22 21,oO 23<|.ixA 9 1 false (.t 20)<|.t 22,oB 24 .add (.c<|.s pQ)<|.t 23,oB 25 .add (.t 24)<|.c<|.s wo,oF 26 1 3,oL 27 26,oQ 28 216 [27],oT 29 .add 25 28,oB 30 .add (.t 29)<|.c<|.s wv,oF 31 2 3,oL 32 31,oQ 33 216 [32],oT 34 .add 30 33,oB 35 .add (.t 34)<|.c<|.s [10],oP 36 126 [7,35]]<|.seq (sR 6 [oF 37 3 3,oL 38 37,oJ 39 38,oI 40 0]<|.block 0<|.loop Cw) Lq)
abbrev Yjn:AC:= (sR 1000004 [oO 7<|.alloc [.np,.sl .full []]] Yio)
abbrev Yjy:AC:= (.seq (sR 1 [oK 14 3 2,oK 15 4 3,oQ 16 213 [14,15],oM 6 16]<|sR 2 [oM 17 6,oV 18 .neq 17 0]<|cD 18 (sR 3 [oM 19 6,oC 4<|.s [],oM 5 19] .ret) .skip) Yjn)
abbrev Yki:AC:= (sR 0 [oY 2 3 0,oY 3 4 1,oC 4<|.s [],oI 5 0] Yjy)
def uo:AF:= { nt:=69,res:=[.tmp 4,.tmp 5],body:=Yki }
abbrev Yky(PG:Zb)(d:Nat)(Q:Q0)(t38:List Zi)(t39 t40:Int)(m0:Zd)(ap:BS):Prop:=
  ∀(U:Sl)(st:St)(jo:Zr)(v0 de:Nat),U 2=.p (d,0) v0 0->U 7=.p (d,1000004*4096+0) de 0->U 38=.sl jo (List.map Zi.row t38)->U 39=.i .i64 t39->U 40=.i .i64 t40->lk st.bx (d,0)=some (v0,Zd.cs m0)->Bl ap st.bx st.ow (d,1000004*4096+0) de->W PG d (.loop Cw) U st (Zs 0 (Zk PG d Lq Q))
abbrev Ynq(PG:Zb)(d:Nat)(Q:Q0)(t38:List Zi)(t39 t40:Int)(t55:LB)(t56 t57:Int)(m0:Zd)(ap:BS):Prop:=
  ∀(U:Sl)(st:St)(jo kr:Zr)(v0 de:Nat),U 2=.p (d,0) v0 0->U 7=.p (d,1000004*4096+0) de 0->U 38=.sl jo (List.map Zi.row t38)->U 39=.i .i64 t39->U 40=.i .i64 t40->U 55=.sl kr (List.map Zv t55)->U 56=.i .i64 t56->U 57=.i .i64 t57->lk st.bx (d,0)=some (v0,Zd.cs m0)->Bl ap st.bx st.ow (d,1000004*4096+0) de->W PG d (.loop za) U st (Zs 2 (Zs 1 (Zk PG d zc (Zk PG d (.loop Cw) (Zs 0 (Zk PG d Lq Q))))))
def M2(PG:Zb)(K:BS->Int->Prop)(P0:Int->Zd->BS->Prop)(t38:List Zi)(t39 t40:Int)(m0:Zd)(ap:BS):Prop:=
  P0 (IntKind.i64.wrap (t40+1)) m0 ap
section
variable(PG:Zb)(K:BS->Int->Prop)
def vm(P1 P0:Int->Zd->BS->Prop)(t38:List Zi)(t39 t40:Int)(t55:LB)(t56 t57:Int)(m0:Zd)(ap:BS):Prop:=
  (t57<t56->0<=t57/\∃c:BS,t55[(t57).toNat]?=some c/\c.length+([10]:BS).length<=Yj/\∃j,∃e:BS,Xc PG 126 (Bl ap) [.s (c++([10]:BS))] (fun r=>r=.tup [.i .i64 j,.ni]) ((Bl e))/\P1 (IntKind.i64.wrap (t57+1)) m0 e)/\(¬(t57<t56)->M2 PG K P0 t38 t39 t40 m0 ap)
def M1(ap:BS):Prop:=
  ∃c,∃j:BS,Xc PG 217 (Bl ap) [] (fun r=>r=.i .i64 c) ((Bl j))/\(c>300000->K ([]:BS) 4)/\(¬(c>300000)->∃e,Xc PG 105 (Bl j) [] (fun r=>r=.s e) (fun _ _ _ _=>True)/\K e 0)
def vk(P0:Int->Zd->BS->Prop)(t38:List Zi)(t39 t40:Int)(m0:Zd)(ap:BS):Prop:=
  (t40<t39->0<=t40/\∃j:Zi,t38[(t40).toNat]?=some j/\∃e:LB,∃c,Ze PG 207 [m0.av,.i .i64 t40,j.av] (.tup [.sl .ext (List.map Zv e),.i .i64 c])/\(c≠0->K ([]:BS) c)/\(¬(c≠0)->∀P1:Int->Zd->BS->Prop,(∀(t57:Int)(m0:Zd)(ap:BS),vm PG K P1 P0 t38 t39 t40 e (e.length:Int) t57 m0 ap->P1 t57 m0 ap)->P1 0 m0 ap))/\(¬(t40<t39)->M1 PG K ap)
def M0(m0:Zd)(m1:Zo)(ap:BS):Prop:=
  ∃c:LB,Ze PG 215 [] (.ag (List.map AV.s c))/\c.length=9/\0<=m1.outcome/\∃e:BS,(c:LB)[(m1.outcome).toNat]?=some e/\([111,117,116,99,111,109,101,32]:BS).length+e.length<=Yj/\(([111,117,116,99,111,109,101,32]:BS)++e).length+([44,32,102,97,105,108,105,110,103,32]:BS).length<=Yj/\∃j:BS,Ze PG 216 [.i .i64 m1.failing] (.s j)/\((([111,117,116,99,111,109,101,32]:BS)++e)++([44,32,102,97,105,108,105,110,103,32]:BS)).length+j.length<=Yj/\(((([111,117,116,99,111,109,101,32]:BS)++e)++([44,32,102,97,105,108,105,110,103,32]:BS))++j).length+([44,32,115,116,101,112,115,32]:BS).length<=Yj/\∃k:BS,Ze PG 216 [.i .i64 m1.steps] (.s k)/\((((([111,117,116,99,111,109,101,32]:BS)++e)++([44,32,102,97,105,108,105,110,103,32]:BS))++j)++([44,32,115,116,101,112,115,32]:BS)).length+k.length<=Yj/\(((((([111,117,116,99,111,109,101,32]:BS)++e)++([44,32,102,97,105,108,105,110,103,32]:BS))++j)++([44,32,115,116,101,112,115,32]:BS))++k).length+([10]:BS).length<=Yj/\∃p,∃o:BS,Xc PG 126 (Bl ap) [.s ((((((([111,117,116,99,111,109,101,32]:BS)++e)++([44,32,102,97,105,108,105,110,103,32]:BS))++j)++([44,32,115,116,101,112,115,32]:BS))++k)++([10]:BS))] (fun r=>r=.tup [.i .i64 p,.ni]) ((Bl o))/\∀P0:Int->Zd->BS->Prop,(∀(t40:Int)(m0:Zd)(ap:BS),vk PG K P0 m1.routines (m1.routines.length:Int) t40 m0 ap->P0 t40 m0 ap)->P0 0 m0 o
def MZ(m0:Zd)(m1:Zo):Prop:=
  M0 PG K m0 m1 ([]:BS)
def MY(m0:Zd)(m1:Zo):Prop:=
  ∃c,Ze PG 213 [m0.av,m1.av] (.i .i64 c)/\(c≠0->K ([]:BS) c)/\(¬(c≠0)->MZ PG K m0 m1)
def MX(m0:Zd)(s1:Zo):Prop:=
  MY PG K m0 s1
end
section
variable{K:BS->Int->Prop}(hQ:H2 AV.s (AV.i .i64) 4 5 Q K)
variable{t38:List Zi}{t39 t40:Int}{m0:Zd}{ap:BS}{P0:Int->Zd->BS->Prop}{jo:Zr}{v0 de:Nat}{t55:LB}{t56 t57:Int}{P1:Int->Zd->BS->Prop}{kr:Zr}{m1:Zo}{v1:Nat}{s1:Zo}
variable(bZ :∀(t57:Int)(m0:Zd)(ap:BS),P1 t57 m0 ap->Ynq PG d Q t38 t39 t40 t55 t56 t57 m0 ap)(H0:U 0=m0.av)(aD :∀(t40:Int)(m0:Zd)(ap:BS),P0 t40 m0 ap->Yky PG d Q t38 t39 t40 m0 ap)(H1:U 1=s1.av)(H2:U 2=.p (d,0) v0 0)(H3:U 3=.p (d,1) v1 0)(H7:U 7=.p (d,1000004*4096+0) de 0)(H38:U 38=.sl jo (List.map Zi.row t38))(Br:U 39=.i .i64 t39)(Dg:U 40=.i .i64 t40)(zd:U 55=.sl kr (List.map Zv t55))(mq:U 56=.i .i64 t56)(qo:U 57=.i .i64 t57)(B0:lk st.bx (d,0)=some (v0,Zd.cs m0))(B1:lk st.bx (d,1)=some (v1,Zo.cs m1))(cf:Bl ap st.bx st.ow (d,1000004*4096+0) de)
include hQ aD H2 H7 H38 Br Dg B0 cf in
theorem Xy3(h:M2 PG K P0 t38 t39 t40 m0 ap):W PG d zc U st (Zk PG d (.loop Cw) (Zs 0 (Zk PG d Lq Q))):=
 au trivial
def Xv5(h:vm PG K P1 P0 t38 t39 t40 t55 t56 t57 m0 ap):W PG d za U st (Zk PG d (.loop za) (Zs 2 (Zs 1 (Zk PG d zc (Zk PG d (.loop Cw) (Zs 0 (Zk PG d Lq Q))))))):=
 q_ J<|b_ qo mq Wp<|e_<|Zl<|Yi J (fun c=>Ya<|Zl<|Yg<|q_ J<|(h.1 c).2.elim fun _ e=>Xy zd qo (h.1 c).1 e.1 J J<|Xx J J J<|m_<|e_<|W.reg0 J fun _ _=>m_<|b_ J J (Xp e.2.1)<|e.2.2.elim fun _ j=>j.elim fun _ i=>Wy (Ye H7<|Ye J Yw) i.1 (kG d) cf<|fun _ k o=>e_<|W.reg0 J fun _ _=>b_ qo J Vp<|m_<|e_<|bZ _ _ _ i.2 _ _ _ _ _ _ H2 H7 H38 Br Dg zd mq J ((o.1 (d,0) (kG d)<|Wx J).trans B0) k)<|fun c=>Vg<|Xy3 hQ aD H2 H7 H38 Br Dg B0 cf<|h.2 c
def Xcs(h:M1 PG K ap):W PG d Lq U st Q:=
 Zl<|q_ J<|h.elim fun _ j=>j.elim fun _ c=>Wy (Ye H7 Yw) c.1 (kG d) cf<|fun _ k _=>b_ J J Jd<|e_<|Yi J (fun e=>q_ J<|m_<|m_<|Zu<|hQ J J<|c.2.1 e)<|fun e=>Ya<|q_ J<|(c.2.2 e).elim fun _ i=>Wy (Ye H7 Yw) i.1 (kG d) k<|fun _ _ _=>m_<|m_<|Zu<|hQ J J i.2
def Wc5(h:vk PG K P0 t38 t39 t40 m0 ap):W PG d Cw U st (Zk PG d (.loop Cw) (Zs 0 (Zk PG d Lq Q))):=
 q_ J<|b_ Dg Br Wp<|e_<|Zl<|Yi J (fun c=>Ya<|Zl<|Yg<|Zl<|W.reg<|m_<|(h.1 c).2.elim fun p k=>Xy H38 Dg (h.1 c).1 k.1 (Zi.row_eq p) J<|Xx J J J<|Xl<|m_<|Zy J (show lk _ (d,32771)=some (_,gZ)from Zj) J J J<|e_<|q_ J<|l_ H2 (Zm J<|Zm J B0) J J<|m_<|l_ J Zj J J<|x2 k.2 fun o _ e=>Yh (Iz J Dg J J) e.1<|m_<|x_ J J<|x_ J J<|Yf J<|m_<|e_<|Zl<|q_ J<|m_<|b_ J J Vr<|e_<|Yi J (fun j=>q_ J<|m_<|m_<|m_<|Zu<|hQ J J<|e.2.1 j)<|fun j=>Ya<|q_ J<|Yf J<|Xq J<|m_<|e_<|Yg<|(e.2.2 j) (Ynq PG d Q t38 t39 t40 o (o.length:Int)) (fun _ _ _ hb _ _ _ _ _ _ H2 H7 H38 Br Dg zd mq qo B0 cf=>W.loop<|Xv5 hQ (fun _ _ _ x=>x) aD H2 H7 H38 Br Dg zd mq qo B0 cf hb) _ _ _ _ _ _ H2 H7 H38 Br Dg J J J (Zm J<|Zm J B0)<|Bl.other (Wx J)<|Bl.other (Wx J) cf)<|fun c=>Vg<|Xcs hQ H7 cf<|h.2 c
include hQ H2 H3 H7 B0 B1 cf in
theorem Xtr(h:M0 PG K m0 m1 ap):W PG d Yio U st Q:=
 q_ J<|h.elim fun _ e=>Yh sn e.1<|f_ H3<|l_ J B1 J J<|e.2.2.2.elim fun _ j=>Cy (f:=AV.s) e.2.1 J J e.2.2.1 j.1<|b_ J J (Xp j.2.1)<|b_ J J (Xp j.2.2.1)<|f_ H3<|l_ J B1 J J<|j.2.2.2.elim fun _ c=>Yh (Xu J J) c.1<|b_ J J (Xp c.2.1)<|b_ J J (Xp c.2.2.1)<|f_ H3<|l_ J B1 J J<|c.2.2.2.elim fun _ i=>Yh (Xu J J) i.1<|b_ J J (Xp i.2.1)<|b_ J J (Xp i.2.2.1)<|i.2.2.2.elim fun _ p=>p.elim fun _ k=>Wy (Ye H7<|Ye J Yw) k.1 (kG d) cf<|fun _ q o=>e_<|Zl<|q_ J<|f_ H3<|l_ J ((o.1 (d,1) (kG d)<|Wx J).trans B1) J J<|Xq J<|m_<|e_<|Yg<|k.2 (Yky PG d Q m1.routines (m1.routines.length:Int)) (fun _ _ _ hb _ _ _ _ _ H2 H7 H38 Br Dg B0 cf=>W.loop<|Wc5 hQ (fun _ _ _ x=>x) H2 H7 H38 Br Dg B0 cf hb) _ _ _ _ _ H2 H7 J J J ((o.1 (d,0) (kG d)<|Wx J).trans B0) q
def Xij(h:MZ PG K m0 m1):W PG d Yjn U st Q:=
 Zl<|W.regB J<|fun _ _ _ e c=>Xtr hQ H2 H3 J ((c (d,0)<|Wx J).trans B0) ((c (d,1)<|Wx J).trans B1) e h
def Xjq(h:MY PG K m0 m1):W PG d Yjy U st Q:=
 Zl<|q_ J<|l_ H2 B0 J J<|l_ H3 B1 J J<|h.elim fun _ c=>Yh (Wk J J J) c.1<|m_<|e_<|q_ J<|m_<|b_ J J Vr<|e_<|Yi J (fun e=>q_ J<|m_<|m_<|m_<|Zu<|hQ J J<|c.2.1 e)<|fun e=>Ya<|Xij hQ H2 H3 B0 B1<|c.2.2 e
def Yyp(h:MX PG K m0 s1):W PG d Yki U st Q:=
 q_ J<|Jw H0 J<|Jw H1 J<|m_<|m_<|e_<|Xjq hQ J J (Zm J Zj) Zj h
def Xt5(hf:PG.fn 205=some uo)(h:MX PG K m0 s1):∃aa:BS,∃ae:Int,K aa ae/\Ze PG 205 [m0.av,s1.av] (.tup [.s aa,.i .i64 ae]):=
 P2 hf J<|Yyp (h2 J fun _ _=>J) J J h
end
abbrev ze:AC:= (.seq (sR 7 [oM 41 8,oM 42 7,oJ 43 42,oT 44 .lss 41 43]<|cD 44 .skip<|.exit 2)<|.seq (.block 3<|.reg 9 [oM 47 5,oM 48 7,oM 49 8,oX 50 1 48 49,oL 51 50,oB 52 .add (.t 51)<|.c<|.s [10],oT 53 .add 47 52,oM 5 53])<|.reg 8 [oM 45 8,oV 46 .add 45 1,oM 8 46])
abbrev zf:AC:= (.reg 4 [oM 31 6,oV 32 .add 31 1,oM 6 32])
abbrev Li:AC:= (.seq (sR 3 [oM 26 6,oF 27 3 3,oL 28 27,oJ 29 28,oT 30 .lss 26 29]<|cD 30 .skip<|.exit 0)<|.seq (.block 1<|sR 5 [oK 33 3 2,oM 34 6,oF 35 3 3,oL 36 35,oM 37 6,oX 38 5 36 37,oK 39 5 38,oQ 40 222 [33,34,39],oM 7 40]<|sR 6 [oI 8 0]<|.block 2<|.loop ze) zf)
abbrev Pi:AC:= (sR 10 [oM 54 5,oM 4 54] .ret)
abbrev Yt1:AC:= (sR 0 [oY 2 3 0,oY 3 4 1,oC 4<|.s []]<|sR 1 [oQ 9 223 [],oF 10 0 3,oL 11 10,oX 12 1 9 11,oL 13 12,oB 14 .add (.c<|.s pQ)<|.t 13,oB 15 .add (.t 14)<|.c<|.s wo,oF 16 1 3,oL 17 16,oQ 18 226 [17],oT 19 .add 15 18,oB 20 .add (.t 19)<|.c<|.s wv,oF 21 2 3,oL 22 21,oQ 23 226 [22],oT 24 .add 20 23,oB 25 .add (.t 24)<|.c<|.s [10],oM 5 25]<|.seq (sR 2 [oI 6 0]<|.block 0<|.loop Li) Pi)
def uy:AF:= { nt:=55,res:=[.tmp 4],body:=Yt1 }
abbrev Yrl(PG:Zb)(d:Nat)(Q:Q0)(ce:BS)(g6:Int)(m0:Zd)(m1:Zo):Prop:=
  ∀(U:Sl)(st:St)(v0 v1:Nat),U 2=.p (d,0) v0 0->U 3=.p (d,1) v1 0->U 5=.s ce->U 6=.i .i64 g6->lk st.bx (d,0)=some (v0,Zd.cs m0)->lk st.bx (d,1)=some (v1,Zo.cs m1)->W PG d (.loop Li) U st (Zs 0 (Zk PG d Pi Q))
abbrev Ygi(PG:Zb)(d:Nat)(Q:Q0)(g6:Int)(l7:LB)(ce:BS)(i8:Int)(m0:Zd)(m1:Zo):Prop:=
  ∀(U:Sl)(st:St)(lt:Zr)(v0 v1:Nat),U 2=.p (d,0) v0 0->U 3=.p (d,1) v1 0->U 5=.s ce->U 6=.i .i64 g6->U 7=.sl lt (List.map Zv l7)->U 8=.i .i64 i8->lk st.bx (d,0)=some (v0,Zd.cs m0)->lk st.bx (d,1)=some (v1,Zo.cs m1)->W PG d (.loop ze) U st (Zs 2 (Zs 1 (Zk PG d zf (Zk PG d (.loop Li) (Zs 0 (Zk PG d Pi Q))))))
def M5(PG:Zb)(K:BS->Prop)(P0:BS->Int->Zd->Zo->Prop)(ce:BS)(g6:Int)(m0:Zd)(m1:Zo):Prop:=
  P0 ce (IntKind.i64.wrap (g6+1)) m0 m1
section
variable(PG:Zb)(K:BS->Prop)
def vo(P1 P0:BS->Int->Zd->Zo->Prop)(ce:BS)(g6:Int)(l7:LB)(i8:Int)(m0:Zd)(m1:Zo):Prop:=
  (i8<(l7.length:Int)->0<=i8/\∃c:BS,l7[(i8).toNat]?=some c/\c.length+([10]:BS).length<=Yj/\ce.length+(c++([10]:BS)).length<=Yj/\P1 (ce++(c++([10]:BS))) (IntKind.i64.wrap (i8+1)) m0 m1)/\(¬(i8<(l7.length:Int))->M5 PG K P0 ce g6 m0 m1)
def M4(PG:Zb)(K:BS->Prop)(ce:BS):Prop:=
  K ce
def vn(P0:BS->Int->Zd->Zo->Prop)(ce:BS)(g6:Int)(m0:Zd)(m1:Zo):Prop:=
  (g6<(m1.routines.length:Int)->0<=g6/\∃e:Zi,m1.routines[(g6).toNat]?=some e/\∃c,Ze PG 222 [m0.av,.i .i64 g6,e.av] (.sl .ext (List.map Zv c))/\∀P1:BS->Int->Zd->Zo->Prop,(∀(ce:BS)(i8:Int)(m0:Zd)(m1:Zo),vo PG K P1 P0 ce g6 c i8 m0 m1->P1 ce i8 m0 m1)->P1 ce 0 m0 m1)/\(¬(g6<(m1.routines.length:Int))->M4 PG K ce)
def M3(m0:Zd)(s1:Zo):Prop:=
  ∃k,Ze PG 223 [] (.sl .ext (List.map Zv k))/\0<=s1.outcome/\∃c:BS,k[(s1.outcome).toNat]?=some c/\([111,117,116,99,111,109,101,32]:BS).length+c.length<=Yj/\(([111,117,116,99,111,109,101,32]:BS)++c).length+([44,32,102,97,105,108,105,110,103,32]:BS).length<=Yj/\∃e:BS,Ze PG 226 [.i .i64 s1.failing] (.s e)/\((([111,117,116,99,111,109,101,32]:BS)++c)++([44,32,102,97,105,108,105,110,103,32]:BS)).length+e.length<=Yj/\(((([111,117,116,99,111,109,101,32]:BS)++c)++([44,32,102,97,105,108,105,110,103,32]:BS))++e).length+([44,32,115,116,101,112,115,32]:BS).length<=Yj/\∃j:BS,Ze PG 226 [.i .i64 s1.steps] (.s j)/\((((([111,117,116,99,111,109,101,32]:BS)++c)++([44,32,102,97,105,108,105,110,103,32]:BS))++e)++([44,32,115,116,101,112,115,32]:BS)).length+j.length<=Yj/\(((((([111,117,116,99,111,109,101,32]:BS)++c)++([44,32,102,97,105,108,105,110,103,32]:BS))++e)++([44,32,115,116,101,112,115,32]:BS))++j).length+([10]:BS).length<=Yj/\∀P0:BS->Int->Zd->Zo->Prop,(∀(ce:BS)(g6:Int)(m0:Zd)(m1:Zo),vn PG K P0 ce g6 m0 m1->P0 ce g6 m0 m1)->P0 ((((((([111,117,116,99,111,109,101,32]:BS)++c)++([44,32,102,97,105,108,105,110,103,32]:BS))++e)++([44,32,115,116,101,112,115,32]:BS))++j)++([10]:BS)) 0 m0 s1
end
section
variable{K:BS->Prop}(hQ:H1 AV.s 4 Q K)
variable{ce:BS}{g6:Int}{m0:Zd}{m1:Zo}{P0:BS->Int->Zd->Zo->Prop}{v0 v1:Nat}{l7:LB}{i8:Int}{P1:BS->Int->Zd->Zo->Prop}{lt:Zr}{s1:Zo}
variable(bZ :∀(ce:BS)(i8:Int)(m0:Zd)(m1:Zo),P1 ce i8 m0 m1->Ygi PG d Q g6 l7 ce i8 m0 m1)(H0:U 0=m0.av)(aD :∀(ce:BS)(g6:Int)(m0:Zd)(m1:Zo),P0 ce g6 m0 m1->Yrl PG d Q ce g6 m0 m1)(H1:U 1=s1.av)(H2:U 2=.p (d,0) v0 0)(H3:U 3=.p (d,1) v1 0)(H5:U 5=.s ce)(H6:U 6=.i .i64 g6)(H7:U 7=.sl lt (List.map Zv l7))(H8:U 8=.i .i64 i8)(B0:lk st.bx (d,0)=some (v0,Zd.cs m0))(B1:lk st.bx (d,1)=some (v1,Zo.cs m1))
include hQ aD H2 H3 H5 H6 B0 B1 in
theorem Xxu(h:M5 PG K P0 ce g6 m0 m1):W PG d zf U st (Zk PG d (.loop Li) (Zs 0 (Zk PG d Pi Q))):=
 au trivial
include hQ bZ aD H2 H3 H5 H6 H7 H8 B0 B1 in
theorem Xbj(h:vo PG K P1 P0 ce g6 l7 i8 m0 m1):W PG d ze U st (Zk PG d (.loop ze) (Zs 2 (Zs 1 (Zk PG d zf (Zk PG d (.loop Li) (Zs 0 (Zk PG d Pi Q))))))):=
 au @Xxu
include hQ H5 in
theorem Xdc(h:M4 PG K ce):W PG d Pi U st Q:=
 au trivial
def Waj(h:vn PG K P0 ce g6 m0 m1):W PG d Li U st (Zk PG d (.loop Li) (Zs 0 (Zk PG d Pi Q))):=
 Zl<|q_ J<|m_<|f_ H3<|l_ J B1 J J<|Xq J<|b_ H6 J Wp<|e_<|Yi J (fun c=>Ya<|Zl<|Yg<|q_ J<|l_ H2 B0 J J<|m_<|f_ H3<|l_ J B1 J J<|m_<|(h.1 c).2.elim fun j e=>Xy J H6 (h.1 c).1 e.1 (Zi.row_eq j) J<|Xx J J J<|e.2.elim fun k i=>Yh (Iz J H6 J J) i.1<|Yf J<|e_<|q_ J<|m_<|e_<|Yg<|i.2 (Ygi PG d Q g6 k) (fun _ _ _ _ hb _ _ _ _ _ H2 H3 H5 H6 H7 H8 B0 B1=>W.loop<|Xbj hQ (fun _ _ _ _ x=>x) aD H2 H3 H5 H6 H7 H8 B0 B1 hb) _ _ _ _ _ H2 H3 H5 H6 J J B0 B1)<|fun c=>Vg<|Xdc hQ H5<|h.2 c
include hQ H0 H1 in
theorem Yvl(h:M3 PG K m0 s1):W PG d Yt1 U st Q:=
 q_ J<|Jw H0 J<|Jw H1 J<|m_<|e_<|q_ J<|h.elim fun _ j=>Yh sn j.1<|f_ J<|l_ J Zj J J<|j.2.2.elim fun _ c=>Xy J J j.2.1 c.1 J J<|Xx J J J<|b_ J J (Xp c.2.1)<|b_ J J (Xp c.2.2.1)<|f_ J<|l_ J Zj J J<|c.2.2.2.elim fun _ e=>Yh (Xu J J) e.1<|b_ J J (Xp e.2.1)<|b_ J J (Xp e.2.2.1)<|f_ J<|l_ J Zj J J<|e.2.2.2.elim fun _ i=>Yh (Xu J J) i.1<|b_ J J (Xp i.2.1)<|b_ J J (Xp i.2.2.1)<|m_<|e_<|Zl<|q_ J<|m_<|e_<|Yg<|i.2.2.2 (Yrl PG d Q ) (fun _ _ _ _ hb _ _ _ _ H2 H3 H5 H6 B0 B1=>W.loop<|Waj hQ (fun _ _ _ _ x=>x) H2 H3 H5 H6 B0 B1 hb) _ _ _ _ J J J J (Zm J Zj) Zj
end
def Xgf{PG:Zb}(hf:PG.fn 218=some uy){m0:Zd}{s1:Zo}{K:BS->Prop}(h:M3 PG K m0 s1):∃aa:BS,K aa/\Ze PG 218 [m0.av,s1.av] (.s aa):=
 P1 hf J<|Yvl (h1 J fun _=>J) J J h
abbrev Ywr(Q:Q0)(K:BS->Int->Prop):Prop:=∀(U:Sl)(st:St)(aa:BS)(ae:Int),U 4=.s aa->U 5=.i .i64 ae->K aa ae->Q .ret U st
section
variable{K:BS->Int->Prop}(hQ:Ywr Q K)
end
end Go.AM

namespace Go.AM
open Go
set_option maxRecDepth 4000
attribute [local irreducible] WO Ve Vd
variable{PG:Zb}{d:Nat}{Q:Q0}{U:Sl}{st:St}
abbrev Xix(Q:Q0)(K:Bool->Prop):Prop:=∀(U:Sl)(st:St)(aa:Bool),U 2=.b aa->K aa->Q .ret U st
section
variable{K:Bool->Prop}(hQ:Xix Q K)
end
abbrev Xzt(Q:Q0)(K:Bool->Prop):Prop:=∀(U:Sl)(st:St)(aa:Bool),U 2=.b aa->K aa->Q .ret U st
section
variable{K:Bool->Prop}(hQ:Xzt Q K)
end
abbrev Xmo(Q:Q0)(K:Bool->Prop):Prop:=∀(U:Sl)(st:St)(aa:Bool),U 12=.b aa->K aa->Q .ret U st
section
variable{K:Bool->Prop}(hQ:Xmo Q K)
end
end Go.AM

namespace Go.AM
open Go
def KW:AF:= { nt:=8,res:=[.tmp 2],fz:=[],body:=
  (.seq (.reg 0 [⟨(some 2),.mv<|.c<|.i .i64 0,none⟩])
  (.seq (.reg 1000001 [⟨(some 3),.mv<|.t 0,none⟩,
    ⟨(some 4),.nilc<|.t 3,none⟩,
    ⟨(some 5),.fad 1<|.t 4,none⟩,
    ⟨(some 6),.load 1 false<|.t 5,none⟩,
    ⟨(some 7),.len false<|.t 6,none⟩,
    ⟨(some 2),.mv<|.t 7,none⟩])
  .ret)) }
end Go.AM

namespace Go.AM
open Go
set_option maxRecDepth 4000
set_option maxHeartbeats 1000000
set_option maxHeartbeats 2000000
attribute [local irreducible] Decidable.decide W WO Ve Vd
variable{PG:Zb}{d:Nat}{Q:Q0}{U:Sl}{st:St}{Zp:St}
abbrev Yob:AC:= (sR 0 [oC 4<|.b false]<|sR 1 [oM 5 0,oM 6 1,oQ 7 46 [5,6],oM 4 7] .ret)
def vq:AF:= { nt:=8,res:=[.tmp 4],body:=Yob }
section
variable(PG:Zb)(K:Bool->Prop)
def M6(s0 am:BS):Prop:=
  ∃c,Ze PG 46 [.s s0,.s am] (.b c)/\K c
end
section
variable{K:Bool->Prop}(hQ:H1 AV.b 4 Q K)
variable{s0 am:BS}
variable(H0:U 0=.s s0)(H1:U 1=.s am)
include hQ H0 H1 in
theorem Xbr(h:M6 PG K s0 am):W PG d Yob U st Q:=
 au trivial
def Xh9(hf:PG.fn 306=some vq)(h:M6 PG K s0 am):∃aa:Bool,K aa/\Ze PG 306 [.s s0,.s am] (.b aa):=
 P1 hf J<|Xbr (h1 J fun _=>J) J J h
end
abbrev Ys0:AC:= (sR 0 [oC 4<|.s []]<|sR 1 [oM 5 0,oM 6 1,oQ 7 322 [5,6],oM 4 7] .ret)
def vr:AF:= { nt:=8,res:=[.tmp 4],body:=Ys0 }
section
variable(PG:Zb)(K:BS->Prop)
def M8(s0 am:BS):Prop:=
  ∃c,Ze PG 322 [.s s0,.s am] (.s c)/\K c
end
section
variable{K:BS->Prop}(hQ:H1 AV.s 4 Q K)
variable{s0 am:BS}
variable(H0:U 0=.s s0)(H1:U 1=.s am)
include hQ H0 H1 in
theorem Xoc(h:M8 PG K s0 am):W PG d Ys0 U st Q:=
 au trivial
def Xt3(hf:PG.fn 316=some vr)(h:M8 PG K s0 am):∃aa:BS,K aa/\Ze PG 316 [.s s0,.s am] (.s aa):=
 P1 hf J<|Xoc (h1 J fun _=>J) J J h
end
abbrev Yd5:AC:= (sR 0 [oC 4<|.s []]<|.seq (sR 1 [oM 5 0,oM 6 1,oQ 7 46 [5,6]]<|cD 7 (sR 2 [oM 8 0,oM 9 1,oH 10 9,oO 11<|.slS (.t 8) (some<|.t 10) none,oM 4 11] .ret) .skip)<|sR 3 [oM 12 0,oM 4 12] .ret)
def vt:AF:= { nt:=13,res:=[.tmp 4],body:=Yd5 }
section
variable(PG:Zb)(K:BS->Prop)
def M7(s0 am:BS):Prop:=
  ∃c,Ze PG 46 [.s s0,.s am] (.b c)/\(c=true->0<=(am.length:Int)/\(am.length:Int).toNat<=s0.length/\K (s0.drop (am.length:Int).toNat))/\(c=false->K s0)
end
section
variable{K:BS->Prop}(hQ:H1 AV.s 4 Q K)
variable{s0 am:BS}
variable(H0:U 0=.s s0)(H1:U 1=.s am)
include hQ H0 H1 in
theorem Xg7(h:M7 PG K s0 am):W PG d Yd5 U st Q:=
 au trivial
def Xsv(hf:PG.fn 322=some vt)(h:M7 PG K s0 am):∃aa:BS,K aa/\Ze PG 322 [.s s0,.s am] (.s aa):=
 P1 hf J<|Xg7 (h1 J fun _=>J) J J h
end
abbrev Ydn:AC:= (sR 0 [oC 4<|.s [],oC 5<|.s [],oC 6<|.b false]<|sR 1 [oM 7 0,oM 8 1,oQ 9 266 [7,8],oE 10 0 9,oE 11 1 9,oE 12 2 9,oM 4 10,oM 5 11,oM 6 12] .ret)
def pv:AF:= { nt:=13,res:=[.tmp 4,.tmp 5,.tmp 6],body:=Ydn }
abbrev Yw5(Q:Q0)(K:BS->BS->Bool->Prop):Prop:=∀(U:Sl)(st:St)(aa ae:BS)(be:Bool),U 4=.s aa->U 5=.s ae->U 6=.b be->K aa ae be->Q .ret U st
section
variable(PG:Zb)(K:BS->BS->Bool->Prop)
def NA(s0 gd:BS):Prop:=
  ∃c i e,Ze PG 266 [.s s0,.s gd] (.tup [.s c,.s i,.b e])/\K c i e
end
section
variable{K:BS->BS->Bool->Prop}(hQ:Yw5 Q K)
variable{s0 gd:BS}
variable(H0:U 0=.s s0)(H1:U 1=.s gd)
include hQ H0 H1 in
theorem Yy3(h:NA PG K s0 gd):W PG d Ydn U st Q:=
 au trivial
theorem Xbg(hf:PG.fn 260=some pv)(h:NA PG K s0 gd):∃aa:BS,∃ae:BS,∃be:Bool,K aa ae be/\Ze PG 260 [.s s0,.s gd] (.tup [.s aa,.s ae,.b be]):=by
  obtain⟨v,hv,aa,ae,be,hk,rfl⟩:=Ze.of (K:=fun v=>∃aa:BS,∃ae:BS,∃be:Bool,K aa ae be/\v=.tup [.s aa,.s ae,.b be]) hf rfl (Yy3 (U:=Wg [.s s0,.s gd]) (fun U st   aa ae be H4 H5 H6 hk=>⟨.tup [.s aa,.s ae,.b be],by simp only[pv,Xj,Wz,H4,H5,H6,Kq,kK],_,rfl,aa,ae,be,hk,rfl⟩) rfl rfl h)
  exact⟨aa,ae,be,hk,hv⟩
end
abbrev Ytt:AC:= (sR 0 [oC 4<|.s [],oC 5<|.s [],oC 6<|.b false]<|.seq (sR 1 [oM 8 0,oM 9 1,oQ 10 197 [8,9],oM 7 10]<|sR 2 [oM 11 7,oV 12 .geq 11 0]<|cD 12 (sR 3 [oM 13 0,oM 14 7,oO 15<|.slS (.t 13) none<|some<|.t 14,oM 16 0,oM 17 7,oM 18 1,oH 19 18,oT 20 .add 17 19,oO 21<|.slS (.t 16) (some<|.t 20) none,oM 4 15,oM 5 21,oC 6<|.b true] .ret) .skip)<|sR 4 [oM 22 0,oM 4 22,oC 5<|.s [],oC 6<|.b false] .ret)
def Of:AF:= { nt:=23,res:=[.tmp 4,.tmp 5,.tmp 6],body:=Ytt }
abbrev Xyn(Q:Q0)(K:BS->BS->Bool->Prop):Prop:=∀(U:Sl)(st:St)(aa ae:BS)(be:Bool),U 4=.s aa->U 5=.s ae->U 6=.b be->K aa ae be->Q .ret U st
section
variable(PG:Zb)(K:BS->BS->Bool->Prop)
def M9(s0 gd:BS):Prop:=
  ∃c,Ze PG 197 [.s s0,.s gd] (.i .i64 c)/\(c>=0->0<=c/\(c).toNat<=s0.length/\0<=(IntKind.i64.wrap (c+(gd.length:Int)))/\(IntKind.i64.wrap (c+(gd.length:Int))).toNat<=s0.length/\K (s0.take (c).toNat) (s0.drop (IntKind.i64.wrap (c+(gd.length:Int))).toNat) true)/\(¬(c>=0)->K s0 ([]:BS) false)
end
section
variable{K:BS->BS->Bool->Prop}(hQ:Xyn Q K)
variable{s0 gd:BS}
variable(H0:U 0=.s s0)(H1:U 1=.s gd)
include hQ H0 H1 in
theorem Xwl(h:M9 PG K s0 gd):W PG d Ytt U st Q:=
 au trivial
theorem Xgv(hf:PG.fn 266=some Of)(h:M9 PG K s0 gd):∃aa:BS,∃ae:BS,∃be:Bool,K aa ae be/\Ze PG 266 [.s s0,.s gd] (.tup [.s aa,.s ae,.b be]):=by
  obtain⟨v,hv,aa,ae,be,hk,rfl⟩:=Ze.of (K:=fun v=>∃aa:BS,∃ae:BS,∃be:Bool,K aa ae be/\v=.tup [.s aa,.s ae,.b be]) hf rfl (Xwl (U:=Wg [.s s0,.s gd]) (fun U st   aa ae be H4 H5 H6 hk=>⟨.tup [.s aa,.s ae,.b be],by simp only[Of,Xj,Wz,H4,H5,H6,Kq,kK],_,rfl,aa,ae,be,hk,rfl⟩) rfl rfl h)
  exact⟨aa,ae,be,hk,hv⟩
end
abbrev Yv1:AC:= (sR 0 [oI 2 0,oC 3<|.b false]<|sR 1 [oM 7 0,oQ 8 21 [7],oM 6 8,oE 9 0 6,oE 10 1 6,oM 4 9,oM 5 10]<|sR 2 [oM 11 4,oM 12 5,oV 13 .eql 12 0,oM 2 11,oM 3 13] .ret)
def vu:AF:= { nt:=14,res:=[.tmp 2,.tmp 3],body:=Yv1 }
section
variable(PG:Zb)(K:Int->Bool->Prop)
def NB(s0:BS):Prop:=
  ∃c e,Ze PG 21 [.s s0] (.tup [.i .i64 c,.i .i64 e])/\K c (decide (e=0))
end
section
variable{K:Int->Bool->Prop}(hQ:H2 (AV.i .i64) AV.b 2 3 Q K)
variable{s0:BS}
variable(H0:U 0=.s s0)
include hQ H0 in
theorem Xwv(h:NB PG K s0):W PG d Yv1 U st Q:=
 au trivial
def Xcx(hf:PG.fn 317=some vu)(h:NB PG K s0):∃aa:Int,∃ae:Bool,K aa ae/\Ze PG 317 [.s s0] (.tup [.i .i64 aa,.b ae]):=
 P2 hf J<|Xwv (h2 J fun _ _=>J) J h
end
abbrev Yfq:AC:= (sR 0 [oO 2<|.alloc eJ,oC 3<|.b false]<|sR 1 [oM 12 0,oO 13<|.call false 260 [(.t 12),(.c<|.s [58,32])],oM 11 13,oE 14 0 11,oE 15 1 11,oE 16 2 11,oM 4 14,oM 5 15,oM 6 16]<|sR 2 [oM 18 5,oO 19<|.call false 36 [(.t 18),(.c<|.s pR)],oM 17 19,oE 20 0 17,oE 21 1 17,oM 7 20,oM 8 21]<|.seq (.block 0<|sR 3 [oM 23 6,oZ 24 23,oM 22 24]<|cD 22 (sR 4 [oO 25<|.build eJ [],oS 5 2 25,oC 3<|.b false] .ret)<|sR 5 [oM 27 8,oM 26 27]<|cD 26 (sR 6 [oM 29 7,oQ 30 21 [29],oM 28 30,oE 31 0 28,oE 32 1 28,oM 9 31,oM 10 32]<|sR 7 [oM 33 9,oO 34<|.build eJ [(0,1,(.c<|.i .u8 2)),(1,1,(.t 33))],oM 35 10,oV 36 .eql 35 0,oS 5 2 34,oM 3 36] .ret)<|sR 8 [oM 38 5,oB 39 .eql (.t 38)<|.c<|.s pT,oM 37 39]<|cD 37 (sR 9 [oO 40<|.build eJ [(0,1,(.c<|.i .u8 1))],oS 5 2 40,oC 3<|.b true] .ret) .skip)<|sR 10 [oO 41<|.build eJ [(0,1,(.c<|.i .u8 3))],oM 42 5,oB 43 .eql (.t 42)<|.c<|.s pW,oS 5 2 41,oM 3 43] .ret)
def Er:AF:= { nt:=44,res:=[.cell 2 5 true,.tmp 3],body:=Yfq }
abbrev Wb7(d:Nat)(Zp:St)(Q:Q0)(K:Zi->Bool->Prop):Prop:=∀(U:Sl)(st:St)(k0:Zt)(v0:Nat)(aa:Zi)(ae:Bool),U 2=.p k0 v0 0->lk st.bx k0=some (v0,Zi.co .full .full .full aa)->U 3=.b ae->Fr d (d,0) Zp.bx Zp.ow st.bx st.ow->K aa ae->Q .ret U st
section
variable(PG:Zb)(K:Zi->Bool->Prop)
def NP(s0:BS):Prop:=
  ∃c e j,Ze PG 260 [.s s0,.s ([58,32]:BS)] (.tup [.s c,.s e,.b j])/\∃o k,Ze PG 36 [.s e,.s ([98,108,111,99,107,101,100,32]:BS)] (.tup [.s o,.b k])/\((!j)=true->K (Zi.mk 0 0 ([]:List Zf) ([]:List Zq) ([]:List Zh)) false)/\((!j)=false->(k=true->∃q p,Ze PG 21 [.s o] (.tup [.i .i64 q,.i .i64 p])/\K (Zi.mk 2 q ([]:List Zf) ([]:List Zq) ([]:List Zh)) (decide (p=0)))/\(k=false->(e=([114,101,97,100,121]:BS)->K (Zi.mk 1 0 ([]:List Zf) ([]:List Zq) ([]:List Zh)) true)/\(¬(e=([114,101,97,100,121]:BS))->K (Zi.mk 3 0 ([]:List Zf) ([]:List Zq) ([]:List Zh)) (decide (e=([100,111,110,101]:BS))))))
end
section
variable{K:Zi->Bool->Prop}(hQ:Wb7 d Zp Q K)
variable{s0:BS}
variable(H0:U 0=.s s0)(FR:Fr d (d,0) Zp.bx Zp.ow st.bx st.ow)
def Xa3(h:NP PG K s0):W PG d Yfq U st Q:=
 Zl<|W.reg<|Xl<|m_<|e_<|q_ J<|m_<|x2 h fun _ _ q=>q.elim fun _ p=>Yh (Wk H0 J J) p.1<|m_<|x_ J J<|x_ J J<|x_ J J<|m_<|m_<|m_<|e_<|q_ J<|m_<|x2 p.2 fun _ _ c=>Yh (Wk J J J) c.1<|m_<|x_ J J<|x_ J J<|m_<|m_<|e_<|Zl<|Yg<|q_ J<|m_<|Wa J<|m_<|e_<|Xw J (fun e=>q_ J<|Xb Yu<|Zy J (show lk _ (d,0)=some (_,gZ)from Zj) J J J<|m_<|Zu<|hQ _ _ _ _ _ _ J Zj J (Fr.box<|Fr.box FR)<|c.2.1 e)<|fun e=>q_ J<|m_<|m_<|e_<|Xw J (fun j=>q_ J<|m_<|x2 ((c.2.2 e).1 j) fun _ _ o=>Yh (Xu J J) o.1<|m_<|x_ J J<|x_ J J<|m_<|m_<|e_<|q_ J<|m_<|Xb (Yr J J<|Yr J J Yu)<|m_<|b_ J J Xf<|Zy J (show lk _ (d,0)=some (_,gZ)from Zj) J J J<|m_<|Zu<|hQ _ _ _ _ _ _ J Zj J (Fr.box<|Fr.box FR) o.2)<|fun j=>q_ J<|m_<|b_ J J Bf<|m_<|e_<|Yi J (fun k=>q_ J<|Xb (Yr J J Yu)<|Zy J (show lk _ (d,0)=some (_,gZ)from Zj) J J J<|m_<|Zu<|hQ _ _ _ _ _ _ J Zj J (Fr.box<|Fr.box FR)<|((c.2.2 e).2 j).1 k)<|fun k=>Ya<|q_ J<|Xb (Yr J J Yu)<|m_<|b_ J J Bf<|Zy J (show lk _ (d,0)=some (_,gZ)from Zj) J J J<|m_<|Zu<|hQ _ _ _ _ _ _ J Zj J (Fr.box<|Fr.box FR)<|((c.2.2 e).2 j).2 k
def Xy7(hf:PG.fn 308=some Er)(h:NP PG K s0):Ym PG 308 [.s s0] (fun r=>∃aa:Zi,∃ae:Bool,(r=.tup [.ag [.i .u8 aa.status,.i .i64 aa.key,.sl .full (List.map Zf.row aa.frames),.sl .full (List.map Zq.row aa.defers),.sl .full (List.map Zh.row aa.panics)],.b ae])/\K aa ae):=
  Ym.of hf rfl fun d st=>Xa3 (Zp:=st) (Q:=fun e U aA=>(e=.normal\/e=.ret)/\∃r,Xj U aA Er.res=some r/\_/\Fr d (d,0) st.bx st.ow aA.bx aA.ow) (fun U aA k0 v0  aa ae H2 dT H3 hf hk=>⟨.inr rfl,.tup [.ag<|Zi.co .full .full .full aa,.b ae],by simp only[Er,Xj,Wz,Jc (n:=5) H2 dT rfl,H3,Km,kK],⟨aa,ae,rfl,hk⟩,hf⟩) (U:=Wg [.s s0]) rfl Fr.refl h
end
abbrev Yox:AC:= (.seq (sR 14 [oM 82 12,oB 83 .eql (.t 82)<|.c<|.s []]<|cD 83 (sR 15 [oK 84 8 6,oS 8 4 84,oC 5<|.b true] .ret) .skip)<|.seq (sR 16 [oM 86 12,oO 87<|.call false 316 [(.t 86),(.c<|.s [32,119,105,116,104,32])],oQ 88 74 [87],oM 85 88,oE 89 0 85,oE 90 1 85,oO 13<|.alloc aX,oS 5 13 89,oM 11 90]<|.frz 13)<|sR 17 [oO 91<|.ldf 5 true<|.t 13,oF 92 2 6,⟨none,.store 1 (.t 92)<|.c<|.b true,none⟩,oF 93 3 6,oS 5 93 91]<|sR 18 [oK 94 8 6,oM 95 11,oV 96 .eql 95 0,oS 8 4 94,oM 5 96] .ret)
abbrev Yfx:AC:= (sR 10 [oF 57 2 2,oL 58 57,oF 59 1 6,oL 60 59,oX 61 7 58 60,oF 62 0 61,oL 63 62,oQ 64 11 [63],oM 56 64,oE 65 0 56,oE 66 1 56,oM 10 65,oM 11 66]<|sR 11 [oM 68 7,oO 69<|.iaL 1 (.t 68)<|.c<|.i .i64 3,oL 70 69,oM 71 10,oQ 72 36 [70,71],oM 67 72,oE 73 0 67,oE 74 1 67,oM 12 73,oM 8 74]<|.seq (sR 12 [oM 75 11,oV 76 .neq 75 0,oM 77 76,gF 77<|oM 78 8,gF 77<|oZ 79 78,oR 80 77 79]<|cD 80 (sR 13 [oK 81 8 6,oS 8 4 81,oC 5<|.b false] .ret) .skip) Yox)
abbrev Ybt:AC:= (.seq (sR 8 [oM 36 8,oZ 37 36,oM 38 37,gF 38<|oM 39 9,gF 38<|oZ 40 39,oR 41 38 40,oM 42 41,gF 42<|oF 43 1 6,gF 42<|oL 44 43,gF 42<|oV 45 .lss 44 0,oR 46 42 45,oM 47 46,gF 47<|oF 48 1 6,gF 47<|oL 49 48,gF 47<|oF 50 2 2,gF 47<|oL 51 50,gF 47<|oJ 52 51,gF 47<|oT 53 .geq 49 52,oR 54 47 53]<|cD 54 (sR 9 [oK 55 8 6,oS 8 4 55,oC 5<|.b false] .ret) .skip) Yfx)
abbrev Ypb:AC:= (sR 7 [oM 29 7,oO 30<|.iaL 1 (.t 29)<|.c<|.i .i64 2,oL 31 30,oQ 32 317 [31],oM 28 32,oE 33 0 28,oE 34 1 28,oF 35 1 6,oS 1 35 33,oM 9 34] Ybt)
abbrev Yry:AC:= (sR 6 [oM 21 7,oO 22<|.iaL 1 (.t 21)<|.c<|.i .i64 1,oL 23 22,oQ 24 317 [23],oM 20 24,oE 25 0 20,oE 26 1 20,oF 27 0 6,oS 1 27 25,oM 8 26] Ypb)
abbrev Yhn:AC:= (sR 5 [oC 8<|.b false,oC 9<|.b false] Yry)
abbrev Yiy:AC:= (.seq (sR 3 [oM 16 7,oJ 17 16,oV 18 .lss 17 4]<|cD 18 (sR 4 [oK 19 8 6,oS 8 4 19,oC 5<|.b false] .ret) .skip) Yhn)
abbrev Ykd:AC:= (sR 2 [oM 14 1,oO 15<|.call false 323 [(.t 14),(.c<|.s [32]),(.c<|.i .i64 4)],oM 7 15] Yiy)
abbrev Yk3:AC:= (sR 1 [oO 6<|.alloc gN] Ykd)
abbrev Ygh:AC:= (sR 0 [oY 2 3 0,oO 4<|.alloc gN,oC 5<|.b false] Yk3)
def Ol:AF:= { nt:=97,res:=[.cell 4 8 true,.tmp 5],fz:=[13],body:=Ygh }
abbrev Xwb(Q:Q0)(K:Zq->Bool->Prop):Prop:=∀(U:Sl)(st:St)(k0:Zt)(v0:Nat)(cc:Zr)(aa:Zq)(ae:Bool),U 4=.p k0 v0 0->lk st.bx k0=some (v0,Zq.co cc aa)->U 5=.b ae->K aa ae->Q .ret U st
section
variable(PG:Zb)(K:Zq->Bool->Prop)
def N3(ir:BS)(m1 af:Zq):Prop:=
  (ir=([]:BS)->K af true)/\(¬(ir=([]:BS))->∃j,Ze PG 316 [.s ir,.s ([32,119,105,116,104,32]:BS)] (.s j)/\∃c:Za,∃e,Ze PG 74 [.s j] (.tup [c.av,.i .i64 e])/\K (Zq.mk af.frame af.func true c) (decide (e=0)))
def N2(w7:LB)(m0:Zd)(m1 af:Zq):Prop:=
  0<=af.func/\∃p:Zz,m0.funcs[(af.func).toNat]?=some p/\∃j c,Ze PG 11 [.s p.name] (.tup [.s j,.i .i64 c])/\∃o,w7[3]?=some o/\∃k e,Ze PG 36 [.s o,.s j] (.tup [.s k,.b e])/\(c≠0->K af false)/\(¬(c≠0)->((!e)=true->K af false)/\((!e)=false->N3 PG K k m1 af))
def N1(w7:LB)(bS qp:Bool)(m0:Zd)(m1 af:Zq):Prop:=
  ((!bS)=true->K af false)/\((!bS)=false->((!qp)=true->K af false)/\((!qp)=false->(af.func<0->K af false)/\(¬(af.func<0)->(af.func>=(m0.funcs.length:Int)->K af false)/\(¬(af.func>=(m0.funcs.length:Int))->N2 PG K w7 m0 m1 af))))
def N0(w7:LB)(bS:Bool)(m0:Zd)(m1 af:Zq):Prop:=
  ∃j,w7[2]?=some j/\∃e c,Ze PG 317 [.s j] (.tup [.i .i64 e,.b c])/\N1 PG K w7 bS c m0 m1 (Zq.mk af.frame e af.hasArg af.arg)
def NZ(w7:LB)(m0:Zd)(m1 af:Zq):Prop:=
  ∃j,w7[1]?=some j/\∃e c,Ze PG 317 [.s j] (.tup [.i .i64 e,.b c])/\N0 PG K w7 c m0 m1 (Zq.mk e af.func af.hasArg af.arg)
def NY(w7:LB)(m0:Zd)(m1 af:Zq):Prop:=
  NZ PG K w7 m0 m1 af
def NX(w7:LB)(m0:Zd)(m1 af:Zq):Prop:=
  ((w7.length:Int)<4->K af false)/\(¬((w7.length:Int)<4)->NY PG K w7 m0 m1 af)
def NW(s1:BS)(m0:Zd)(m1 af:Zq):Prop:=
  ∃c,Ze PG 323 [.s s1,.s ([32]:BS),.i .i64 4] (.sl .ext (List.map Zv c))/\NX PG K c m0 m1 af
def NV(s1:BS)(m0:Zd)(m1:Zq):Prop:=
  NW PG K s1 m0 m1 (Zq.mk 0 0 false (Za.mk 0 0 [] ([]:List Za) false))
def NU(m0:Zd)(s1:BS):Prop:=
  NV PG K s1 m0 (Zq.mk 0 0 false (Za.mk 0 0 [] ([]:List Za) false))
end
section
variable{K:Zq->Bool->Prop}(hQ:Xwb Q K)
variable{ir:BS}{m1 af:Zq}{lr fo:Zr}{v1 dp:Nat}{w7:LB}{m0:Zd}{lu:Zr}{v0:Nat}{bS qp:Bool}{s1:BS}
variable(H0:U 0=m0.av)(H1:U 1=.s s1)(H2:U 2=.p (d,0) v0 0)(H4:U 4=.p (d,1) v1 0)(H6:U 6=.p (d,4096) dp 0)(bT:U 12=.s ir)(H7:U 7=.sl lu (List.map Zv w7))(H8:U 8=.b bS)(H9:U 9=.b qp)(fe:Yo d st.ow fo af.arg.list.length)(B0:lk st.bx (d,0)=some (v0,Zd.cs m0))(B1:lk st.bx (d,1)=some (v1,Zq.co lr m1))(bh:lk st.bx (d,4096)=some (dp,Zq.co fo af))
def Xy2(h:N3 PG K ir m1 af):W PG d Yox U st Q:=
 Zl<|q_ J<|m_<|b_ bT J Bf<|e_<|Yi J (fun c=>q_ J<|l_ H6 bh J J<|Zy H4 B1 J J J<|m_<|Zu<|hQ _ _ _ _ _ _ _ H4 Zj J<|h.1 c)<|fun c=>Ya<|Zl<|Zl<|W.reg<|m_<|(h.2 c).elim fun _ e=>Yh (Wk bT J J) e.1<|x2 e.2 fun _ _ j=>Yh (Xu J J) j.1<|m_<|x_ J J<|x_ J J<|Xl<|Zy J (show lk _ (d,65542)=some (_,cS)from Zj) J J J<|m_<|e_<|W.frz J Zj J<|q_ J<|Sa J J J<|f_ H6<|Zy J (Rk J<|Zm J<|Zm J bh) J J J<|f_ H6<|Zy J Zj J J J<|e_<|q_ J<|l_ H6 Zj J J<|m_<|b_ J J Xf<|Zy H4 (Zm J<|Zm J<|Rk J<|Zm J<|Zm J B1) J J J<|m_<|Zu<|hQ _ _ _ _ _ _ _ H4 Zj J j.2
include hQ H2 H4 H6 H7 fe B0 B1 bh in
theorem Xyp(h:N2 PG K w7 m0 m1 af):W PG d Yfx U st Q:=
 au @Xy2
def Ywu(h:N1 PG K w7 bS qp m0 m1 af):W PG d Ybt U st Q:=
 Zl<|q_ J<|Yt H8<|Wa J<|Yt J<|Ql (g:=38) J (fun c=>z_ 16 J<|e_<|Xh J<|q_ J<|l_ H6 bh J J<|Zy H4 B1 J J J<|m_<|Zu<|hQ _ _ _ _ _ _ _ H4 Zj J<|h.1 c)<|fun c=>Zg J<|Yt H9<|Zg J<|Wa J<|z_ 2 J<|Ql (g:=42) J (fun e=>z_ 12 J<|e_<|Xh J<|q_ J<|l_ H6 bh J J<|Zy H4 B1 J J J<|m_<|Zu<|hQ _ _ _ _ _ _ _ H4 Zj J<|(h.2 c).1 e)<|fun e=>Zg J<|f_ H6<|Zg J<|l_ J bh J J<|Zg J<|b_ J J Wp<|z_ 2 J<|Xe (g:=47) J (fun i=>z_ 7 J<|e_<|Xh J<|q_ J<|l_ H6 bh J J<|Zy H4 B1 J J J<|m_<|Zu<|hQ _ _ _ _ _ _ _ H4 Zj J<|((h.2 c).2 e).1 i)<|fun i=>Zg J<|f_ H6<|Zg J<|l_ J bh J J<|Zg J<|f_ H2<|Zg J<|l_ J B0 J J<|Zg J<|Xq J<|Zg J<|b_ J J Ha<|Vt J J<|e_<|Yi J (fun j=>q_ J<|l_ H6 bh J J<|Zy H4 B1 J J J<|m_<|Zu<|hQ _ _ _ _ _ _ _ H4 Zj J<|(((h.2 c).2 e).2 i).1 j)<|fun j=>Ya<|Xyp hQ H2 H4 H6 H7 fe B0 B1 bh<|(((h.2 c).2 e).2 i).2 j
include hQ H2 H4 H6 H7 H8 fe B0 B1 bh in
theorem Xiv(h:N0 PG K w7 bS m0 m1 af):W PG d Ypb U st Q:=
 au @Ywu
def Yz3(h:NZ PG K w7 m0 m1 af):W PG d Yry U st Q:=
 q_ J<|Yf H7<|h.elim fun _ c=>Xy J J (by decide) c.1 J J<|Xx J J J<|x2 c.2 fun i _ e=>Yh (Xu J J) e.1<|m_<|x_ J J<|x_ J J<|f_ H6<|Zy J bh J J J<|m_<|e_<|Xiv (af:=(Zq.mk i af.func af.hasArg af.arg)) hQ H2 H4 H6 H7 J fe (Zm J B0) (Zm J B1) Zj e.2
def Xmj(h:NY PG K w7 m0 m1 af):W PG d Yhn U st Q:=
 q_ J<|m_<|m_<|e_<|Yz3 hQ H2 H4 H6 H7 fe B0 B1 bh h
def Xm6(h:NX PG K w7 m0 m1 af):W PG d Yiy U st Q:=
 Zl<|q_ J<|Yf H7<|Xq J<|b_ J J Wp<|e_<|Yi J (fun c=>q_ J<|l_ H6 bh J J<|Zy H4 B1 J J J<|m_<|Zu<|hQ _ _ _ _ _ _ _ H4 Zj J<|h.1 c)<|fun c=>Ya<|Xmj hQ H2 H4 H6 H7 fe B0 B1 bh<|h.2 c
include hQ H1 H2 H4 H6 fe B0 B1 bh in
theorem Xxm(h:NW PG K s1 m0 m1 af):W PG d Ykd U st Q:=
 au @Xm6
def Xv7(h:NV PG K s1 m0 m1):W PG d Yk3 U st Q:=
 Zl<|W.reg<|Xl<|e_<|Xxm (af:=(Zq.mk 0 0 false<|Za.mk 0 0 [] ([]:List Za) false)) hQ H1 H2 H4 J Yo.full (Zm J B0) (Zm J B1) (show lk _ (d,4096)=some (_,lV)from Zj) h
def Xl4(h:NU PG K m0 s1):W PG d Ygh U st Q:=
 Zl<|W.reg<|Jw H0 J<|Xl<|m_<|e_<|Xv7 (m1:=(Zq.mk 0 0 false<|Za.mk 0 0 [] ([]:List Za) false)) hQ H1 J J Zj (Zm J<|show lk _ (d,1)=some (_,lV)from Zj) h
theorem Wco(hf:PG.fn 318=some Ol)(h:NU PG K m0 s1):∃aa:Zq,∃ae:Bool,K aa ae/\Ze PG 318 [m0.av,.s s1] (.tup [aa.av,.b ae]):=by
  obtain⟨v,hv,aa,ae,hk,rfl⟩:=Ze.of (K:=fun v=>∃aa:Zq,∃ae:Bool,K aa ae/\v=.tup [aa.av,.b ae]) hf rfl (Xl4 (U:=Wg [m0.av,.s s1]) (fun U st k0 v0 cc aa ae H4 gU H5 hk=>⟨.tup [aa.avo cc,.b ae],by simp only[Ol,Xj,Wz,Jc (n:=8) H4 gU rfl,H5,Km,kK],_,rfl,aa,ae,hk,rfl⟩) rfl rfl h)
  exact⟨aa,ae,hk,hv⟩
end
end Go.AM

namespace Go.AM
open Go
set_option maxRecDepth 4000
set_option maxHeartbeats 1000000
set_option maxHeartbeats 2000000
attribute [local irreducible] Decidable.decide W WO Ve Vd
variable{PG:Zb}{d:Nat}{Q:Q0}{U:Sl}{st:St}
abbrev zg:AC:= (.seq (sR 4 [oM 34 5,oF 35 3 2,oL 36 35,oJ 37 36,oT 38 .lss 34 37]<|cD 38 .skip<|.exit 0)<|.seq (.block 1<|sR 6 [oF 41 3 2,oL 42 41,oM 43 5,oX 44 5 42 43,oK 45 5 44,oF 46 3 3,oL 47 46,oM 48 5,oX 49 5 47 48,oK 50 5 49,oQ 51 314 [45,50],oZ 52 51]<|cD 52 (sR 7 [oC 4<|.b false] .ret) .skip)<|.reg 5 [oM 39 5,oV 40 .add 39 1,oM 5 40])
abbrev zh:AC:= (sR 8 [oC 4<|.b true] .ret)
abbrev Yd6:AC:= (.seq (sR 3 [oI 5 0]<|.block 0<|.loop zg) zh)
abbrev Yux:AC:= (sR 0 [oY 2 4 0,oY 3 4 1,oC 4<|.b false]<|.seq (sR 1 [oF 6 0 2,oL 7 6,oF 8 0 3,oL 9 8,oT 10 .neq 7 9,oM 11 10,gF 11<|oF 12 1 2,gF 11<|oL 13 12,gF 11<|oF 14 1 3,gF 11<|oL 15 14,gF 11<|oT 16 .neq 13 15,oR 17 11 16,oM 18 17,gF 18<|oF 19 2 2,gF 18<|oL 20 19,gF 18<|oF 21 2 3,gF 18<|oL 22 21,gF 18<|oT 23 .neq 20 22,oR 24 18 23,oM 25 24,gF 25<|oF 26 3 2,gF 25<|oL 27 26,gF 25<|oJ 28 27,gF 25<|oF 29 3 3,gF 25<|oL 30 29,gF 25<|oJ 31 30,gF 25<|oT 32 .neq 28 31,oR 33 25 32]<|cD 33 (sR 2 [oC 4<|.b false] .ret) .skip) Yd6)
def pB:AF:= { nt:=53,res:=[.tmp 4],body:=Yux }
abbrev Yuy(PG:Zb)(d:Nat)(Q:Q0)(i5:Int)(m0 m1:Zo):Prop:=
  ∀(U:Sl)(st:St)(v0 v1:Nat),U 2=.p (d,0) v0 0->U 3=.p (d,1) v1 0->U 5=.i .i64 i5->lk st.bx (d,0)=some (v0,Zo.cs m0)->lk st.bx (d,1)=some (v1,Zo.cs m1)->W PG d (.loop zg) U st (Zs 0 (Zk PG d zh Q))
def OE(PG:Zb)(K:Bool->Prop):Prop:=
  K true
section
variable(PG:Zb)(K:Bool->Prop)
def vG(P0:Int->Zo->Zo->Prop)(i5:Int)(m0 m1:Zo):Prop:=
  (i5<(m0.routines.length:Int)->0<=i5/\∃i:Zi,m0.routines[(i5).toNat]?=some i/\0<=i5/\∃e:Zi,m1.routines[(i5).toNat]?=some e/\∃c,Ze PG 314 [i.av,e.av] (.b c)/\((!c)=true->K false)/\((!c)=false->P0 (IntKind.i64.wrap (i5+1)) m0 m1))/\(¬(i5<(m0.routines.length:Int))->OE PG K )
def OD(m0 m1:Zo):Prop:=
  ∀P0:Int->Zo->Zo->Prop,(∀(i5:Int)(m0 m1:Zo),vG PG K P0 i5 m0 m1->P0 i5 m0 m1)->P0 0 m0 m1
def OC(a0 b1:Zo):Prop:=
  (a0.outcome≠b1.outcome->K false)/\(¬(a0.outcome≠b1.outcome)->(a0.failing≠b1.failing->K false)/\(¬(a0.failing≠b1.failing)->(a0.steps≠b1.steps->K false)/\(¬(a0.steps≠b1.steps)->((a0.routines.length:Int)≠(b1.routines.length:Int)->K false)/\(¬((a0.routines.length:Int)≠(b1.routines.length:Int))->OD PG K a0 b1))))
end
section
variable{K:Bool->Prop}(hQ:H1 AV.b 4 Q K)
variable{i5:Int}{m0 m1:Zo}{P0:Int->Zo->Zo->Prop}{v0 v1:Nat}{a0 b1:Zo}
variable(aD :∀(i5:Int)(m0 m1:Zo),P0 i5 m0 m1->Yuy PG d Q i5 m0 m1)(H0:U 0=a0.av)(H2:U 2=.p (d,0) v0 0)(H1:U 1=b1.av)(H3:U 3=.p (d,1) v1 0)(H5:U 5=.i .i64 i5)(B0:lk st.bx (d,0)=some (v0,Zo.cs m0))(B1:lk st.bx (d,1)=some (v1,Zo.cs m1))
include hQ in
theorem Xrn(h:OE PG K):W PG d zh U st Q:=
 au trivial
include hQ aD H2 H3 H5 B0 B1 in
theorem Xro(h:vG PG K P0 i5 m0 m1):W PG d zg U st (Zk PG d (.loop zg) (Zs 0 (Zk PG d zh Q))):=
 au @Xrn
def Wda(h:OD PG K m0 m1):W PG d Yd6 U st Q:=
 Zl<|q_ J<|m_<|e_<|Yg<|h (Yuy PG d Q ) (fun _ _ _ hb _ _ _ _ H2 H3 H5 B0 B1=>W.loop<|Xro hQ (fun _ _ _ x=>x) H2 H3 H5 B0 B1 hb) _ _ _ _ H2 H3 J B0 B1
include hQ H0 H1 in
theorem Xzs(h:OC PG K a0 b1):W PG d Yux U st Q:=
 au @Wda
def Yza(hf:PG.fn 302=some pB)(h:OC PG K a0 b1):∃aa:Bool,K aa/\Ze PG 302 [a0.av,b1.av] (.b aa):=
 P1 hf J<|Xzs (h1 J fun _=>J) J J h
end
abbrev zi:AC:= (.seq (sR 4 [oM 47 5,oF 48 2 2,oL 49 48,oJ 50 49,oT 51 .lss 47 50]<|cD 51 .skip<|.exit 0)<|.seq (.block 1<|sR 6 [oF 54 2 2,oL 55 54,oM 56 5,oX 57 4 55 56,oK 58 4 57,oF 59 2 3,oL 60 59,oM 61 5,oX 62 4 60 61,oK 63 4 62,oQ 64 88 [58,63],oZ 65 64]<|cD 65 (sR 7 [oC 4<|.b false] .ret) .skip)<|.reg 5 [oM 52 5,oV 53 .add 52 1,oM 5 53])
abbrev zj:AC:= (.seq (sR 9 [oM 66 6,oF 67 3 2,oL 68 67,oJ 69 68,oT 70 .lss 66 69]<|cD 70 .skip<|.exit 2)<|.seq (.block 3<|sR 11 [oF 73 3 2,oO 74<|.ldf 1 false<|.t 73,oM 75 6,oX 76 8 74 75,oO 77<|.ldf 8 true<|.t 76,oF 78 3 3,oO 79<|.ldf 1 false<|.t 78,oM 80 6,oX 81 8 79 80,oO 82<|.ldf 8 true<|.t 81,oO 7<|.alloc gN,oO 8<|.alloc gN,oS 8 7 77,oS 8 8 82]<|sR 12 [oF 83 0 7,oL 84 83,oF 85 0 8,oL 86 85,oT 87 .neq 84 86,oM 88 87,gF 88<|oF 89 1 7,gF 88<|oL 90 89,gF 88<|oF 91 1 8,gF 88<|oL 92 91,gF 88<|oT 93 .neq 90 92,oR 94 88 93,oM 95 94,gF 95<|oF 96 2 7,gF 95<|oL 97 96,gF 95<|oF 98 2 8,gF 95<|oL 99 98,gF 95<|oO 100<|.beq true (.t 97)<|.t 99,oR 101 95 100,oM 102 101,gF 102<|oF 103 3 7,gF 102<|oK 104 5 103,gF 102<|oF 105 3 8,gF 102<|oK 106 5 105,gF 102<|oQ 107 78 [104,106],gF 102<|oZ 108 107,oR 109 102 108]<|cD 109 (sR 13 [oC 4<|.b false] .ret) .skip)<|.reg 10 [oM 71 6,oV 72 .add 71 1,oM 6 72])
abbrev zk:AC:= (sR 14 [oC 4<|.b true] .ret)
abbrev zm:AC:= (.seq (sR 8 [oI 6 0]<|.block 2<|.loop zj) zk)
abbrev Yhk:AC:= (.seq (sR 3 [oI 5 0]<|.block 0<|.loop zi) zm)
abbrev Yso:AC:= (.seq (sR 1 [oF 9 0 2,oL 10 9,oF 11 0 3,oL 12 11,oT 13 .neq 10 12,oM 14 13,gF 14<|oF 15 1 2,gF 14<|oL 16 15,gF 14<|oF 17 1 3,gF 14<|oL 18 17,gF 14<|oT 19 .neq 16 18,oR 20 14 19,oM 21 20,gF 21<|oF 22 2 2,gF 21<|oL 23 22,gF 21<|oJ 24 23,gF 21<|oF 25 2 3,gF 21<|oL 26 25,gF 21<|oJ 27 26,gF 21<|oT 28 .neq 24 27,oR 29 21 28,oM 30 29,gF 30<|oF 31 3 2,gF 30<|oL 32 31,gF 30<|oJ 33 32,gF 30<|oF 34 3 3,gF 30<|oL 35 34,gF 30<|oJ 36 35,gF 30<|oT 37 .neq 33 36,oR 38 30 37,oM 39 38,gF 39<|oF 40 4 2,gF 39<|oL 41 40,gF 39<|oF 42 4 3,gF 39<|oL 43 42,gF 39<|oQ 44 170 [41,43],gF 39<|oZ 45 44,oR 46 39 45]<|cD 46 (sR 2 [oC 4<|.b false] .ret) .skip) Yhk)
abbrev Yi1:AC:= (sR 0 [oO 2<|.boxf 5<|.t 0,oO 3<|.boxf 5<|.t 1,oC 4<|.b false] Yso)
def Ay:AF:= { nt:=110,res:=[.tmp 4],fz:=[2,3],body:=Yi1 }
abbrev Yv7(PG:Zb)(d:Nat)(Q:Q0)(fg fh:Int)(el:List Zf)(et:List Zq)(fk:List Zh)(bD bE:Int)(bB:List Zf)(bC:List Zq)(bH:List Zh)(i5:Int):Prop:=
  ∀(U:Sl)(st:St),U 2=.fp [.i .u8 fg,.i .i64 fh,.sl .ext (List.map Zf.row el),.sl .ext (List.map Zq.row et),.sl .ext (List.map Zh.row fk)]->U 3=.fp [.i .u8 bD,.i .i64 bE,.sl .ext (List.map Zf.row bB),.sl .ext (List.map Zq.row bC),.sl .ext (List.map Zh.row bH)]->U 5=.i .i64 i5->W PG d (.loop zi) U st (Zs 0 (Zk PG d zm Q))
abbrev Yu1(PG:Zb)(d:Nat)(Q:Q0)(fg fh:Int)(el:List Zf)(et:List Zq)(fk:List Zh)(bD bE:Int)(bB:List Zf)(bC:List Zq)(bH:List Zh)(i6:Int):Prop:=
  ∀(U:Sl)(st:St),U 2=.fp [.i .u8 fg,.i .i64 fh,.sl .ext (List.map Zf.row el),.sl .ext (List.map Zq.row et),.sl .ext (List.map Zh.row fk)]->U 3=.fp [.i .u8 bD,.i .i64 bE,.sl .ext (List.map Zf.row bB),.sl .ext (List.map Zq.row bC),.sl .ext (List.map Zh.row bH)]->U 6=.i .i64 i6->W PG d (.loop zj) U st (Zs 2 (Zk PG d zk Q))
def OA(PG:Zb)(K:Bool->Prop):Prop:=
  K true
section
variable(PG:Zb)(K:Bool->Prop)
def vE(P1:Int->Prop)(fg fh:Int)(el:List Zf)(et:List Zq)(fk:List Zh)(bD bE:Int)(bB:List Zf)(bC:List Zq)(bH:List Zh)(i6:Int):Prop:=
  (i6<(et.length:Int)->0<=i6/\∃e:Zq,et[(i6).toNat]?=some e/\0<=i6/\∃c:Zq,bC[(i6).toNat]?=some c/\(e.frame≠c.frame->K false)/\(¬(e.frame≠c.frame)->(e.func≠c.func->K false)/\(¬(e.func≠c.func)->(e.hasArg≠c.hasArg->K false)/\(¬(e.hasArg≠c.hasArg)->∃i,Ze PG 78 [e.arg.av,c.arg.av] (.b i)/\((!i)=true->K false)/\((!i)=false->P1 (IntKind.i64.wrap (i6+1)))))))/\(¬(i6<(et.length:Int))->OA PG K )
def N_(fg fh:Int)(el:List Zf)(et:List Zq)(fk:List Zh)(bD bE:Int)(bB:List Zf)(bC:List Zq)(bH:List Zh):Prop:=
  ∀P1:Int->Prop,(∀(i6:Int),vE PG K P1 fg fh el et fk bD bE bB bC bH i6->P1 i6)->P1 0
def vD(P0:Int->Prop)(fg fh:Int)(el:List Zf)(et:List Zq)(fk:List Zh)(bD bE:Int)(bB:List Zf)(bC:List Zq)(bH:List Zh)(i5:Int):Prop:=
  (i5<(el.length:Int)->0<=i5/\∃i:Zf,el[(i5).toNat]?=some i/\0<=i5/\∃e:Zf,bB[(i5).toNat]?=some e/\∃c,Ze PG 88 [i.av,e.av] (.b c)/\((!c)=true->K false)/\((!c)=false->P0 (IntKind.i64.wrap (i5+1))))/\(¬(i5<(el.length:Int))->N_ PG K fg fh el et fk bD bE bB bC bH)
def N9(fg fh:Int)(el:List Zf)(et:List Zq)(fk:List Zh)(bD bE:Int)(bB:List Zf)(bC:List Zq)(bH:List Zh):Prop:=
  ∀P0:Int->Prop,(∀(i5:Int),vD PG K P0 fg fh el et fk bD bE bB bC bH i5->P0 i5)->P0 0
def N8(fg fh:Int)(el:List Zf)(et:List Zq)(fk:List Zh)(bD bE:Int)(bB:List Zf)(bC:List Zq)(bH:List Zh):Prop:=
  (fg≠bD->K false)/\(¬(fg≠bD)->(fh≠bE->K false)/\(¬(fh≠bE)->((el.length:Int)≠(bB.length:Int)->K false)/\(¬((el.length:Int)≠(bB.length:Int))->((et.length:Int)≠(bC.length:Int)->K false)/\(¬((et.length:Int)≠(bC.length:Int))->∃c,Ze PG 170 [.sl .ext (List.map Zh.row fk),.sl .ext (List.map Zh.row bH)] (.b c)/\((!c)=true->K false)/\((!c)=false->N9 PG K fg fh el et fk bD bE bB bC bH)))))
def N7(a0 b1:Zi):Prop:=
  N8 PG K a0.status a0.key a0.frames a0.defers a0.panics b1.status b1.key b1.frames b1.defers b1.panics
end
section
variable{K:Bool->Prop}(hQ:H1 AV.b 4 Q K)
variable{fg fh:Int}{el:List Zf}{et:List Zq}{fk:List Zh}{bD bE:Int}{bB:List Zf}{bC:List Zq}{bH:List Zh}{i6:Int}{P1:Int->Prop}{i5:Int}{P0:Int->Prop}{a0 b1:Zi}
variable(bZ :∀(i6:Int),P1 i6->Yu1 PG d Q fg fh el et fk bD bE bB bC bH i6)(aD :∀(i5:Int),P0 i5->Yv7 PG d Q fg fh el et fk bD bE bB bC bH i5)(H0:U 0=a0.av)(H2:U 2=.fp [.i .u8 fg,.i .i64 fh,.sl .ext (List.map Zf.row el),.sl .ext (List.map Zq.row et),.sl .ext (List.map Zh.row fk)])(H1:U 1=b1.av)(H3:U 3=.fp [.i .u8 bD,.i .i64 bE,.sl .ext (List.map Zf.row bB),.sl .ext (List.map Zq.row bC),.sl .ext (List.map Zh.row bH)])(H6:U 6=.i .i64 i6)(H5:U 5=.i .i64 i5)
include hQ in
theorem Xes(h:OA PG K):W PG d zk U st Q:=
 au trivial
def Xe7(h:vE PG K P1 fg fh el et fk bD bE bB bC bH i6):W PG d zj U st (Zk PG d (.loop zj) (Zs 2 (Zk PG d zk Q))):=
 Zl<|q_ J<|m_<|Do H2<|Xx J J J<|Xq J<|b_ H6 J Wp<|e_<|Yi J (fun j=>Ya<|Zl<|Yg<|Zl<|W.reg<|Do H2<|Sa J J J<|m_<|(h.1 j).2.elim fun u p=>Xy J H6 (h.1 j).1 p.1 (Zq.row_eq u) J<|Sa J J J<|Do H3<|Sa J J J<|m_<|p.2.2.elim fun v c=>Xy J H6 p.2.1 c.1 (Zq.row_eq v) J<|Sa J J J<|Xl<|Xl<|Zy J (show lk _ (d,45066)=some (_,lV)from(Zm J Zj)) J J J<|Zy J (Zm J<|show lk _ (d,45067)=some (_,lV)from Zj) J J J<|e_<|q_ J<|f_ J<|l_ J (Zm J Zj) J J<|f_ J<|l_ J Zj J J<|b_ J J Vr<|Yt J<|Xe (g:=88) J (fun e=>z_ 21 J<|e_<|Xh J<|q_ J<|m_<|Zu<|hQ J<|c.2.1 e)<|fun e=>Zg J<|f_ J<|Zg J<|l_ J (Zm J Zj) J J<|Zg J<|f_ J<|Zg J<|l_ J Zj J J<|Zg J<|b_ J J Vr<|z_ 2 J<|Xe (g:=95) J (fun k=>z_ 14 J<|e_<|Xh J<|q_ J<|m_<|Zu<|hQ J<|(c.2.2 e).1 k)<|fun k=>Zg J<|f_ J<|Zg J<|l_ J (Zm J Zj) J J<|Zg J<|f_ J<|Zg J<|l_ J Zj J J<|Zg J<|QD J J<|z_ 2 J<|Xe (g:=102) J (fun r=>z_ 7 J<|e_<|Xh J<|q_ J<|m_<|Zu<|hQ J<|((c.2.2 e).2 k).1 r)<|fun r=>Zg J<|f_ J<|Zg J<|l_ J (Zm J Zj) J J<|Zg J<|f_ J<|Zg J<|l_ J Zj J J<|Zg J<|(((c.2.2 e).2 k).2 r).elim fun _ o=>Yh (Wk J J J) o.1<|Zg J<|Wa J<|Vt J J<|e_<|Xw J (fun q=>q_ J<|m_<|Zu<|hQ J<|o.2.1 q)<|fun q=>Ya<|W.reg0 J fun _ _=>m_<|b_ H6 J Vp<|m_<|e_<|bZ _ (o.2.2 q) _ _ H2 H3 J)<|fun j=>Vg<|Xes hQ<|h.2 j
def Xtm(h:N_ PG K fg fh el et fk bD bE bB bC bH):W PG d zm U st Q:=
 Zl<|q_ J<|m_<|e_<|Yg<|h (Yu1 PG d Q fg fh el et fk bD bE bB bC bH) (fun _ hb _ _ H2 H3 H6=>W.loop<|Xe7 hQ (fun _ x=>x) H2 H3 H6 hb) _ _ H2 H3 J
include hQ aD H2 H3 H5 in
theorem Wdh(h:vD PG K P0 fg fh el et fk bD bE bB bC bH i5):W PG d zi U st (Zk PG d (.loop zi) (Zs 0 (Zk PG d zm Q))):=
 au @Xtm
def Yys(h:N9 PG K fg fh el et fk bD bE bB bC bH):W PG d Yhk U st Q:=
 Zl<|q_ J<|m_<|e_<|Yg<|h (Yv7 PG d Q fg fh el et fk bD bE bB bC bH) (fun _ hb _ _ H2 H3 H5=>W.loop<|Wdh hQ (fun _ x=>x) H2 H3 H5 hb) _ _ H2 H3 J
include hQ H2 H3 in
theorem Xvz(h:N8 PG K fg fh el et fk bD bE bB bC bH):W PG d Yso U st Q:=
 au @Yys
include hQ H0 H1 in
theorem Xh6(h:N7 PG K a0 b1):W PG d Yi1 U st Q:=
 au @Xvz
end
def Xcv{PG:Zb}(hf:PG.fn 314=some Ay){a0 b1:Zi}{K:Bool->Prop}(h:N7 PG K a0 b1):∃aa:Bool,K aa/\Ze PG 314 [a0.av,b1.av] (.b aa):=
 P1 hf J<|Xh6 (h1 J fun _=>J) J J h
abbrev Ywe(Q:Q0)(K:Za->Prop):Prop:=∀(U:Sl)(st:St)(k0:Zt)(v0:Nat)(cc:Zr)(aa:Za),U 2=.p k0 v0 0->lk st.bx k0=some (v0,Za.co cc aa)->K aa->Q .ret U st
section
variable{K:Za->Prop}(hQ:Ywe Q K)
end
abbrev Xvh(Q:Q0)(K:Za->Prop):Prop:=∀(U:Sl)(st:St)(k0:Zt)(v0:Nat)(cc:Zr)(aa:Za),U 0=.p k0 v0 0->lk st.bx k0=some (v0,Za.co cc aa)->K aa->Q .ret U st
section
variable{K:Za->Prop}(hQ:Xvh Q K)
end
abbrev Xm0(Q:Q0)(K:Zi->Prop):Prop:=∀(U:Sl)(st:St)(k0:Zt)(v0:Nat)(cc kh ki:Zr)(aa:Zi),U 0=.p k0 v0 0->lk st.bx k0=some (v0,Zi.co cc kh ki aa)->K aa->Q .ret U st
section
variable{K:Zi->Prop}(hQ:Xm0 Q K)
end
abbrev Xns(Q:Q0)(K:Zo->Prop):Prop:=∀(U:Sl)(st:St)(k0:Zt)(v0:Nat)(cc:Zr)(aa:Zo),U 0=.p k0 v0 0->lk st.bx k0=some (v0,Zo.co cc aa)->K aa->Q .ret U st
section
variable{K:Zo->Prop}(hQ:Xns Q K)
end
abbrev Wbv(Q:Q0)(K:Zd->Prop):Prop:=∀(U:Sl)(st:St)(k0:Zt)(v0:Nat)(cc kh ki:Zr)(aa:Zd),U 0=.p k0 v0 0->lk st.bx k0=some (v0,Zd.co cc kh ki aa)->K aa->Q .ret U st
section
variable{K:Zd->Prop}(hQ:Wbv Q K)
end
abbrev Xgy(Q:Q0)(K:Bool->Prop):Prop:=∀(U:Sl)(st:St)(aa:Bool),U 4=.b aa->K aa->Q .ret U st
section
variable{K:Bool->Prop}(hQ:Xgy Q K)
end
abbrev Xg4(Q:Q0)(K:Bool->Prop):Prop:=∀(U:Sl)(st:St)(aa:Bool),U 0=.b aa->K aa->Q .ret U st
section
variable{K:Bool->Prop}(hQ:Xg4 Q K)
end
abbrev Yx4(Q:Q0)(K:Bool->Prop):Prop:=∀(U:Sl)(st:St)(aa:Bool),U 6=.b aa->K aa->Q .ret U st
section
variable{K:Bool->Prop}(hQ:Yx4 Q K)
end
end Go.AM

namespace Go.AM
open Go
set_option maxRecDepth 4000
set_option maxHeartbeats 1000000
attribute [local irreducible] WO Ve Vd
variable{PG:Zb}{d:Nat}{Q:Q0}{U:Sl}{st:St}
abbrev Xgh(Q:Q0)(K:Bool->Prop):Prop:=∀(U:Sl)(st:St)(aa:Bool),U 6=.b aa->K aa->Q .ret U st
section
variable{K:Bool->Prop}(hQ:Xgh Q K)
end
abbrev Xwz(Q:Q0)(K:Bool->Prop):Prop:=∀(U:Sl)(st:St)(aa:Bool),U 4=.b aa->K aa->Q .ret U st
section
variable{K:Bool->Prop}(hQ:Xwz Q K)
end
end Go.AM

namespace Go.AM
open Go
set_option maxRecDepth 4000
set_option maxHeartbeats 1000000
set_option maxHeartbeats 2000000
attribute [local irreducible] Decidable.decide W WO Ve Vd
variable{PG:Zb}{d:Nat}{Q:Q0}{U:Sl}{st:St}{Zp:St}
abbrev Ylv:AC:= (sR 0 [oC 4<|.b false]<|sR 1 [oM 5 0,oH 6 5,oM 7 1,oH 8 7,oT 9 .geq 6 8,oM 10 9,gT 10<|oM 11 0,gT 10<|oM 12 1,gT 10<|oH 13 12,gT 10<|oO 14<|.slS (.t 11) none<|some<|.t 13,gT 10<|oM 15 1,gT 10<|oT 16 .eql 14 15,oA 17 10 16,oM 4 17] .ret)
def vM:AF:= { nt:=18,res:=[.tmp 4],body:=Ylv }
def OS(PG:Zb)(K:Bool->Prop)(s0 ck:BS):Prop:=
  ((s0.length:Int)>=(ck.length:Int)->0<=(ck.length:Int)/\(ck.length:Int).toNat<=s0.length/\K (decide ((s0.take (ck.length:Int).toNat)=ck)))/\(¬((s0.length:Int)>=(ck.length:Int))->K false)
section
variable{K:Bool->Prop}(hQ:H1 AV.b 4 Q K)
variable{s0 ck:BS}
variable(H0:U 0=.s s0)(H1:U 1=.s ck)
include hQ H0 H1 in
theorem Xeb(h:OS PG K s0 ck):W PG d Ylv U st Q:=
 au trivial
def Wcj(hf:PG.fn 310=some vM)(h:OS PG K s0 ck):∃aa:Bool,K aa/\Ze PG 310 [.s s0,.s ck] (.b aa):=
 P1 hf J<|Xeb (h1 J fun _=>J) J J h
end
abbrev zn:AC:= (.seq (sR 2 [oM 8 7,oM 9 1,oH 10 9,oT 11 .add 8 10,oM 12 0,oH 13 12,oT 14 .leq 11 13]<|cD 14 .skip<|.exit 0)<|.seq (.block 1<|sR 4 [oM 17 0,oM 18 7,oM 19 7,oM 20 1,oH 21 20,oT 22 .add 19 21,oO 23<|.slS (.t 17) (some<|.t 18)<|some<|.t 22,oM 24 1,oT 25 .eql 23 24]<|cD 25 (sR 5 [oM 26 0,oM 27 7,oO 28<|.slS (.t 26) none<|some<|.t 27,oM 29 0,oM 30 7,oM 31 1,oH 32 31,oT 33 .add 30 32,oO 34<|.slS (.t 29) (some<|.t 33) none,oM 4 28,oM 5 34,oC 6<|.b true] .ret) .skip)<|.reg 3 [oM 15 7,oV 16 .add 15 1,oM 7 16])
abbrev zo:AC:= (sR 6 [oM 35 0,oM 4 35,oC 5<|.s [],oC 6<|.b false] .ret)
abbrev Yix:AC:= (sR 0 [oC 4<|.s [],oC 5<|.s [],oC 6<|.b false]<|.seq (sR 1 [oI 7 0]<|.block 0<|.loop zn) zo)
def pF:AF:= { nt:=36,res:=[.tmp 4,.tmp 5,.tmp 6],body:=Yix }
abbrev Xdk(Q:Q0)(K:BS->BS->Bool->Prop):Prop:=∀(U:Sl)(st:St)(aa ae:BS)(be:Bool),U 4=.s aa->U 5=.s ae->U 6=.b be->K aa ae be->Q .ret U st
abbrev Yla(PG:Zb)(d:Nat)(Q:Q0)(s0 co:BS)(i7:Int):Prop:=
  ∀(U:Sl)(st:St),U 0=.s s0->U 1=.s co->U 7=.i .i64 i7->W PG d (.loop zn) U st (Zs 0 (Zk PG d zo Q))
def vS(PG:Zb)(K:BS->BS->Bool->Prop)(s0:BS):Prop:=
  K s0 ([]:BS) false
section
variable(PG:Zb)(K:BS->BS->Bool->Prop)
def vR(P0:Int->Prop)(s0 co:BS)(i7:Int):Prop:=
  ((IntKind.i64.wrap (i7+(co.length:Int)))<=(s0.length:Int)->0<=i7/\i7<=(IntKind.i64.wrap (i7+(co.length:Int)))/\(IntKind.i64.wrap (i7+(co.length:Int))).toNat<=s0.length/\(((s0.drop (i7).toNat).take ((IntKind.i64.wrap (i7+(co.length:Int))).toNat-(i7).toNat))=co->0<=i7/\(i7).toNat<=s0.length/\0<=(IntKind.i64.wrap (i7+(co.length:Int)))/\(IntKind.i64.wrap (i7+(co.length:Int))).toNat<=s0.length/\K (s0.take (i7).toNat) (s0.drop (IntKind.i64.wrap (i7+(co.length:Int))).toNat) true)/\(¬(((s0.drop (i7).toNat).take ((IntKind.i64.wrap (i7+(co.length:Int))).toNat-(i7).toNat))=co)->P0 (IntKind.i64.wrap (i7+1))))/\(¬((IntKind.i64.wrap (i7+(co.length:Int)))<=(s0.length:Int))->vS PG K s0)
def OT(s0 co:BS):Prop:=
  ∀P0:Int->Prop,(∀(i7:Int),vR PG K P0 s0 co i7->P0 i7)->P0 0
end
section
variable{K:BS->BS->Bool->Prop}(hQ:Xdk Q K)
variable{s0 co:BS}{i7:Int}{P0:Int->Prop}
variable(aD :∀(i7:Int),P0 i7->Yla PG d Q s0 co i7)(H0:U 0=.s s0)(H1:U 1=.s co)(H7:U 7=.i .i64 i7)
include hQ H0 in
theorem Wd7(h:vS PG K s0):W PG d zo U st Q:=
 au trivial
include hQ aD H0 H1 H7 in
theorem Wbz(h:vR PG K P0 s0 co i7):W PG d zn U st (Zk PG d (.loop zn) (Zs 0 (Zk PG d zo Q))):=
 au @Wd7
def Xtg(h:OT PG K s0 co):W PG d Yix U st Q:=
 q_ J<|m_<|m_<|m_<|e_<|Zl<|q_ J<|m_<|e_<|Yg<|h (Yla PG d Q s0 co) (fun _ hb _ _ H0 H1 H7=>W.loop<|Wbz hQ (fun _ x=>x) H0 H1 H7 hb) _ _ H0 H1 J
theorem Xr2(hf:PG.fn 319=some pF)(h:OT PG K s0 co):∃aa:BS,∃ae:BS,∃be:Bool,K aa ae be/\Ze PG 319 [.s s0,.s co] (.tup [.s aa,.s ae,.b be]):=by
  obtain⟨v,hv,aa,ae,be,hk,rfl⟩:=Ze.of (K:=fun v=>∃aa:BS,∃ae:BS,∃be:Bool,K aa ae be/\v=.tup [.s aa,.s ae,.b be]) hf rfl (Xtg (U:=Wg [.s s0,.s co]) (fun U st   aa ae be H4 H5 H6 hk=>⟨.tup [.s aa,.s ae,.b be],by simp only[pF,Xj,Wz,H4,H5,H6,Kq,kK],_,rfl,aa,ae,be,hk,rfl⟩) rfl rfl h)
  exact⟨aa,ae,be,hk,hv⟩
end
abbrev Ypl:AC:= (sR 0 [oI 2 0]<|sR 1 [oM 6 0,oQ 7 22 [6],oM 5 7,oE 8 0 5,oE 9 1 5,oM 3 8,oM 4 9]<|.seq (sR 2 [oM 10 4,oV 11 .neq 10 0,oM 12 11,gF 12<|oM 13 3,gF 12<|oV 14 .gtr 13 1000000,oR 15 12 14,oM 16 15,gF 16<|oM 17 3,gF 16<|oV 18 .lss 17<|-1000000,oR 19 16 18]<|cD 19 (sR 3 [oI 2 0] .ret) .skip)<|sR 4 [oM 20 3,oM 2 20] .ret)
def vO:AF:= { nt:=21,res:=[.tmp 2],body:=Ypl }
section
variable(PG:Zb)(K:Int->Prop)
def OU(s0:BS):Prop:=
  ∃c e,Ze PG 22 [.s s0] (.tup [.i .i64 c,.i .i64 e])/\(e≠0->K 0)/\(¬(e≠0)->(c>1000000->K 0)/\(¬(c>1000000)->(c<(-1000000)->K 0)/\(¬(c<(-1000000))->K c)))
end
section
variable{K:Int->Prop}(hQ:H1 (AV.i .i64) 2 Q K)
variable{s0:BS}
variable(H0:U 0=.s s0)
include hQ H0 in
theorem Xpb(h:OU PG K s0):W PG d Ypl U st Q:=
 au trivial
def Yym(hf:PG.fn 320=some vO)(h:OU PG K s0):∃aa:Int,K aa/\Ze PG 320 [.s s0] (.i .i64 aa):=
 P1 hf J<|Xpb (h1 J fun _=>J) J h
end
abbrev Yme:AC:= (sR 0 [oO 2<|.alloc dP]<|sR 1 [oM 12 0,oO 13<|.call false 319 [(.t 12),(.c<|.s wo)],oM 11 13,oE 14 0 11,oE 15 1 11,oE 16 2 11,oM 3 14,oM 4 15,oM 5 16]<|sR 2 [oM 18 4,oO 19<|.call false 319 [(.t 18),(.c<|.s wv)],oM 17 19,oE 20 0 17,oE 21 1 17,oE 22 2 17,oM 6 20,oM 7 21,oM 8 22]<|sR 3 [oM 24 3,oQ 25 212 [24],oM 23 25,oE 26 0 23,oE 27 1 23,oM 9 26,oM 10 27]<|sR 4 [oM 28 9,oM 29 6,oQ 30 320 [29],oM 31 7,oQ 32 320 [31],oO 33<|.build dP [(0,1,(.t 28)),(1,1,(.t 30)),(2,1,(.t 32))],oS 4 2 33] .ret)
def Fv:AF:= { nt:=34,res:=[.cell 2 4 true],body:=Yme }
abbrev Yvh(d:Nat)(Zp:St)(Q:Q0)(K:Zo->Prop):Prop:=∀(U:Sl)(st:St)(k0:Zt)(v0:Nat)(aa:Zo),U 2=.p k0 v0 0->lk st.bx k0=some (v0,Zo.co .full aa)->Fr d (d,0) Zp.bx Zp.ow st.bx st.ow->K aa->Q .ret U st
section
variable(PG:Zb)(K:Zo->Prop)
def OV(s0:BS):Prop:=
  ∃c j u,Ze PG 319 [.s s0,.s ([44,32,102,97,105,108,105,110,103,32]:BS)] (.tup [.s c,.s j,.b u])/\∃e q r,Ze PG 319 [.s j,.s ([44,32,115,116,101,112,115,32]:BS)] (.tup [.s e,.s q,.b r])/\∃p v,Ze PG 212 [.s c] (.tup [.i .u8 p,.i .i64 v])/\∃k,Ze PG 320 [.s e] (.i .i64 k)/\∃o,Ze PG 320 [.s q] (.i .i64 o)/\K (Zo.mk p k o ([]:List Zi))
end
section
variable{K:Zo->Prop}(hQ:Yvh d Zp Q K)
variable{s0:BS}
variable(H0:U 0=.s s0)(FR:Fr d (d,0) Zp.bx Zp.ow st.bx st.ow)
def Xbw(h:OV PG K s0):W PG d Yme U st Q:=
 Zl<|W.reg<|Xl<|e_<|q_ J<|m_<|x2 h fun _ _ q=>q.elim fun _ k=>Yh (Wk H0 J J) k.1<|m_<|x_ J J<|x_ J J<|x_ J J<|m_<|m_<|m_<|e_<|q_ J<|m_<|x2 k.2 fun _ _ p=>p.elim fun _ o=>Yh (Wk J J J) o.1<|m_<|x_ J J<|x_ J J<|x_ J J<|m_<|m_<|m_<|e_<|q_ J<|m_<|x2 o.2 fun _ _ c=>Yh (Xu J J) c.1<|m_<|x_ J J<|x_ J J<|m_<|m_<|e_<|q_ J<|m_<|m_<|c.2.elim fun _ e=>Yh (Xu J J) e.1<|m_<|e.2.elim fun _ j=>Yh (Xu J J) j.1<|Xb (Yr J J<|Yr J J<|Yr J J Yu)<|Zy J (show lk _ (d,0)=some (_,lX)from Zj) J J J<|Zu<|hQ _ _ _ _ _ J Zj (Fr.box<|Fr.box FR) j.2
def Xjv(hf:PG.fn 311=some Fv)(h:OV PG K s0):Ym PG 311 [.s s0] (fun r=>∃aa:Zo,(r=aa.avo .full)/\K aa):=
  Ym.of hf rfl fun d st=>Xbw (Zp:=st) (Q:=fun e U aA=>(e=.normal\/e=.ret)/\∃r,Xj U aA Fv.res=some r/\_/\Fr d (d,0) st.bx st.ow aA.bx aA.ow) (fun U aA k0 v0  aa H2 dT hf hk=>⟨.inr rfl,aa.avo .full,by simp only[Fv,Xj,Wz,Jc (n:=4) H2 dT rfl,Km,kK],⟨aa,rfl,hk⟩,hf⟩) (U:=Wg [.s s0]) rfl Fr.refl h
end
abbrev Ygj:AC:= (sR 0 [oO 2<|.alloc eJ]<|sR 1 [oM 9 0,oO 10<|.call false 319 [(.t 9),(.c<|.s [58,32])],oM 8 10,oE 11 0 8,oE 12 1 8,oE 13 2 8,oM 3 11,oM 4 12,oM 5 13]<|.seq (.block 0<|sR 2 [oM 15 4,oB 16 .eql (.t 15)<|.c<|.s pT,oM 14 16]<|cD 14 (sR 3 [oO 17<|.build eJ [(0,1,(.c<|.i .u8 1))],oS 5 2 17] .ret)<|sR 4 [oM 19 4,oB 20 .eql (.t 19)<|.c<|.s pW,oM 18 20]<|cD 18 (sR 5 [oO 21<|.build eJ [(0,1,(.c<|.i .u8 3))],oS 5 2 21] .ret)<|sR 6 [oM 23 4,oO 24<|.call false 310 [(.t 23),(.c<|.s pR)],oM 22 24]<|cD 22 (sR 7 [oM 26 4,oO 27<|.slS (.t 26) (some<|.c<|.i .i64 8) none,oQ 28 22 [27],oM 25 28,oE 29 0 25,oE 30 1 25,oM 6 29,oM 7 30]<|sR 8 [oM 31 6,oO 32<|.build eJ [(0,1,(.c<|.i .u8 2)),(1,1,(.t 31))],oS 5 2 32] .ret) .skip)<|sR 9 [oO 33<|.build eJ [],oS 5 2 33] .ret)
def Aj:AF:= { nt:=34,res:=[.cell 2 5 true],body:=Ygj }
abbrev Xsu(d:Nat)(Zp:St)(Q:Q0)(K:Zi->Prop):Prop:=∀(U:Sl)(st:St)(k0:Zt)(v0:Nat)(aa:Zi),U 2=.p k0 v0 0->lk st.bx k0=some (v0,Zi.co .full .full .full aa)->Fr d (d,0) Zp.bx Zp.ow st.bx st.ow->K aa->Q .ret U st
section
variable(PG:Zb)(K:Zi->Prop)
def OW(s0:BS):Prop:=
  ∃e,∃c:BS,∃o,Ze PG 319 [.s s0,.s ([58,32]:BS)] (.tup [.s e,.s c,.b o])/\(c=([114,101,97,100,121]:BS)->K (Zi.mk 1 0 ([]:List Zf) ([]:List Zq) ([]:List Zh)))/\(¬(c=([114,101,97,100,121]:BS))->(c=([100,111,110,101]:BS)->K (Zi.mk 3 0 ([]:List Zf) ([]:List Zq) ([]:List Zh)))/\(¬(c=([100,111,110,101]:BS))->∃j,Ze PG 310 [.s c,.s ([98,108,111,99,107,101,100,32]:BS)] (.b j)/\(j=true->8<=c.length/\∃k p,Ze PG 22 [.s (c.drop 8)] (.tup [.i .i64 k,.i .i64 p])/\K (Zi.mk 2 k ([]:List Zf) ([]:List Zq) ([]:List Zh)))/\(j=false->K (Zi.mk 0 0 ([]:List Zf) ([]:List Zq) ([]:List Zh)))))
end
section
variable{K:Zi->Prop}(hQ:Xsu d Zp Q K)
variable{s0:BS}
variable(H0:U 0=.s s0)(FR:Fr d (d,0) Zp.bx Zp.ow st.bx st.ow)
def Xa2(h:OW PG K s0):W PG d Ygj U st Q:=
 Zl<|W.reg<|Xl<|e_<|q_ J<|m_<|x2 h fun _ _ q=>q.elim fun _ c=>Yh (Wk H0 J J) c.1<|m_<|x_ J J<|x_ J J<|x_ J J<|m_<|m_<|m_<|e_<|Zl<|Yg<|q_ J<|m_<|b_ J J Bf<|m_<|e_<|Yi J (fun j=>q_ J<|Xb (Yr J J Yu)<|Zy J (show lk _ (d,0)=some (_,gZ)from Zj) J J J<|Zu<|hQ _ _ _ _ _ J Zj (Fr.box<|Fr.box FR)<|c.2.1 j)<|fun j=>q_ J<|m_<|b_ J J Bf<|m_<|e_<|Yi J (fun o=>q_ J<|Xb (Yr J J Yu)<|Zy J (show lk _ (d,0)=some (_,gZ)from Zj) J J J<|Zu<|hQ _ _ _ _ _ J Zj (Fr.box<|Fr.box FR)<|(c.2.2 j).1 o)<|fun o=>q_ J<|m_<|((c.2.2 j).2 o).elim fun _ e=>Yh (Wk J J J) e.1<|m_<|e_<|Xw J (fun k=>q_ J<|m_<|Jo J J (by decide) (e.2.1 k).1<|x2 (e.2.1 k).2 fun _ _ p=>Yh (Xu J J) p.1<|m_<|x_ J J<|x_ J J<|m_<|m_<|e_<|q_ J<|m_<|Xb (Yr J J<|Yr J J Yu)<|Zy J (show lk _ (d,0)=some (_,gZ)from Zj) J J J<|Zu<|hQ _ _ _ _ _ J Zj (Fr.box<|Fr.box FR) p.2)<|fun k=>Ya<|q_ J<|Xb Yu<|Zy J (show lk _ (d,0)=some (_,gZ)from Zj) J J J<|Zu<|hQ _ _ _ _ _ J Zj (Fr.box<|Fr.box FR)<|e.2.2 k
def Xob(hf:PG.fn 312=some Aj)(h:OW PG K s0):Ym PG 312 [.s s0] (fun r=>∃aa:Zi,(r=.ag [.i .u8 aa.status,.i .i64 aa.key,.sl .full (List.map Zf.row aa.frames),.sl .full (List.map Zq.row aa.defers),.sl .full (List.map Zh.row aa.panics)])/\K aa):=
  Ym.of hf rfl fun d st=>Xa2 (Zp:=st) (Q:=fun e U aA=>(e=.normal\/e=.ret)/\∃r,Xj U aA Aj.res=some r/\_/\Fr d (d,0) st.bx st.ow aA.bx aA.ow) (fun U aA k0 v0  aa H2 dT hf hk=>⟨.inr rfl,.ag<|Zi.co .full .full .full aa,by simp only[Aj,Xj,Wz,Jc (n:=5) H2 dT rfl,Km,kK],⟨aa,rfl,hk⟩,hf⟩) (U:=Wg [.s s0]) rfl Fr.refl h
end
abbrev Yg2:AC:= (.reg 7 [oM 34 9,oV 35 .add 34 1,oM 9 35])
abbrev qq:AC:= (.seq (sR 6 [oM 30 9,oM 31 5,oH 32 31,oT 33 .lss 30 32]<|cD 33 .skip<|.exit 0)<|.seq (.block 1<|sR 8 [oM 36 5,oM 37 9,oO 38<|.slS (.t 36) (some<|.t 37) none,oO 39<|.call false 310 [(.t 38),(.c<|.s [34,32,119,105,116,104,32])]]<|cD 39 (.seq (sR 9 [oM 41 5,oM 42 9,oV 43 .add 42 7,oO 44<|.slS (.t 41) (some<|.t 43) none,oQ 45 75 [44],oM 40 45,oE 46 0 40,oE 47 1 40,oO 10<|.alloc aX,oS 5 10 46,oM 11 47]<|.frz 10)<|sR 10 [oM 48 11,oV 49 .eql 48 0]<|cD 49 (.reg 11 [oO 50<|.ldf 5 true<|.t 10,oF 51 2 3,⟨none,.store 1 (.t 51)<|.c<|.b true,none⟩,oF 52 3 3,oS 5 52 50]) .skip) .skip) Yg2)
abbrev qt:AC:= (sR 12 [oK 53 8 3,oS 8 2 53] .ret)
abbrev Yls:AC:= (sR 0 [oO 2<|.alloc gN]<|sR 1 [oO 3<|.alloc gN]<|sR 2 [oM 13 0,oO 14<|.call false 319 [(.t 13),(.c<|.s [32])],oM 12 14,oE 15 0 12,oE 16 1 12,oE 17 2 12,oM 4 15,oM 5 16,oM 6 17]<|sR 3 [oM 19 5,oO 20<|.call false 319 [(.t 19),(.c<|.s [32])],oM 18 20,oE 21 0 18,oE 22 1 18,oE 23 2 18,oM 7 21,oM 5 22,oM 8 23]<|sR 4 [oM 24 4,oQ 25 320 [24],oM 26 7,oQ 27 320 [26],oF 28 0 3,oS 1 28 25,oF 29 1 3,oS 1 29 27]<|.seq (sR 5 [oI 9 0]<|.block 0<|.loop qq) qt)
def pG:AF:= { nt:=54,res:=[.cell 2 8 true],fz:=[10],body:=Yls }
abbrev Yw6(Q:Q0)(K:Zq->Prop):Prop:=∀(U:Sl)(st:St)(k0:Zt)(v0:Nat)(cc:Zr)(aa:Zq),U 2=.p k0 v0 0->lk st.bx k0=some (v0,Zq.co cc aa)->K aa->Q .ret U st
abbrev Ykb(PG:Zb)(d:Nat)(Q:Q0)(cl:BS)(i9:Int)(m0 af:Zq):Prop:=
  ∀(U:Sl)(st:St)(jt fo:Zr)(v0 dp:Nat),U 2=.p (d,0) v0 0->U 3=.p (d,4096) dp 0->U 5=.s cl->U 9=.i .i64 i9->lk st.bx (d,0)=some (v0,Zq.co jt m0)->lk st.bx (d,4096)=some (dp,Zq.co fo af)->W PG d (.loop qq) U st (Zs 0 (Zk PG d qt Q))
def Fh(PG:Zb)(K:Zq->Prop)(P0:Int->Zq->Zq->Prop)(cl:BS)(i9:Int)(m0 af:Zq):Prop:=
  P0 (IntKind.i64.wrap (i9+1)) m0 af
def OY(PG:Zb)(K:Zq->Prop)(m0 af:Zq):Prop:=
  K af
section
variable(PG:Zb)(K:Zq->Prop)
def vU(P0:Int->Zq->Zq->Prop)(cl:BS)(i9:Int)(m0 af:Zq):Prop:=
  (i9<(cl.length:Int)->0<=i9/\(i9).toNat<=cl.length/\∃e,Ze PG 310 [.s (cl.drop (i9).toNat),.s ([34,32,119,105,116,104,32]:BS)] (.b e)/\(e=true->0<=(IntKind.i64.wrap (i9+7))/\(IntKind.i64.wrap (i9+7)).toNat<=cl.length/\∃j:Za,∃c,Ze PG 75 [.s (cl.drop (IntKind.i64.wrap (i9+7)).toNat)] (.tup [j.av,.i .i64 c])/\(c=0->Fh PG K P0 cl i9 m0 (Zq.mk af.frame af.func true j))/\(¬(c=0)->Fh PG K P0 cl i9 m0 af))/\(e=false->Fh PG K P0 cl i9 m0 af))/\(¬(i9<(cl.length:Int))->OY PG K m0 af)
def OX(s0:BS):Prop:=
  ∃c k r,Ze PG 319 [.s s0,.s ([32]:BS)] (.tup [.s c,.s k,.b r])/\∃e p q,Ze PG 319 [.s k,.s ([32]:BS)] (.tup [.s e,.s p,.b q])/\∃o,Ze PG 320 [.s c] (.i .i64 o)/\∃j,Ze PG 320 [.s e] (.i .i64 j)/\∀P0:Int->Zq->Zq->Prop,(∀(i9:Int)(m0 af:Zq),vU PG K P0 p i9 m0 af->P0 i9 m0 af)->P0 0 (Zq.mk 0 0 false (Za.mk 0 0 [] ([]:List Za) false)) (Zq.mk o j false (Za.mk 0 0 [] ([]:List Za) false))
end
section
variable{K:Zq->Prop}(hQ:Yw6 Q K)
variable{cl:BS}{i9:Int}{m0 af:Zq}{P0:Int->Zq->Zq->Prop}{jt fo:Zr}{v0 dp:Nat}{s0:BS}
variable(aD :∀(i9:Int)(m0 af:Zq),P0 i9 m0 af->Ykb PG d Q cl i9 m0 af)(H0:U 0=.s s0)(H2:U 2=.p (d,0) v0 0)(H3:U 3=.p (d,4096) dp 0)(H5:U 5=.s cl)(H9:U 9=.i .i64 i9)(B0:lk st.bx (d,0)=some (v0,Zq.co jt m0))(bh:lk st.bx (d,4096)=some (dp,Zq.co fo af))
include hQ aD H2 H3 H5 H9 B0 bh in
theorem Q6(h:Fh PG K P0 cl i9 m0 af):W PG d Yg2 U st (Zk PG d (.loop qq) (Zs 0 (Zk PG d qt Q))):=
 au trivial
include hQ H2 H3 B0 bh in
theorem Xn9(h:OY PG K m0 af):W PG d qt U st Q:=
 au trivial
def Xmk(h:vU PG K P0 cl i9 m0 af):W PG d qq U st (Zk PG d (.loop qq) (Zs 0 (Zk PG d qt Q))):=
 Zl<|q_ J<|m_<|m_<|Qb H5<|b_ H9 J Wp<|e_<|Yi J (fun e=>Ya<|Zl<|Yg<|q_ J<|m_<|m_<|Jo H5 H9 (h.1 e).1 (h.1 e).2.1<|(h.1 e).2.2.elim fun _ c=>Yh (Wk J J J) c.1<|e_<|Xw J (fun j=>Zl<|Zl<|W.reg<|m_<|m_<|b_ H9 J Vp<|Jo H5 J (c.2.1 j).1 (c.2.1 j).2.1<|x2 (c.2.1 j).2.2 fun p _ k=>Yh (Xu J J) k.1<|m_<|x_ J J<|x_ J J<|Xl<|Zy J (show lk _ (d,36872)=some (_,cS)from Zj) J J J<|m_<|e_<|W.frz J Zj J<|q_ J<|m_<|b_ J J Xf<|e_<|Yi J (fun o=>W.reg0 J fun _ _=>Sa J J J<|f_ H3<|Zy J (Rk J<|Zm J<|Zm J bh) J J J<|f_ H3<|Zy J Zj J J J<|e_<|Q6 (af:=(Zq.mk af.frame af.func true p)) hQ aD H2 H3 H5 H9 (Zm J<|Zm J<|Rk J<|Zm J<|Zm J B0) Zj<|k.2.1 o)<|fun o=>Ya<|Q6 hQ aD H2 H3 H5 H9 (Rk J<|Zm J<|Zm J B0) (Rk J<|Zm J<|Zm J bh)<|k.2.2 o)<|fun j=>Ya<|Q6 hQ aD H2 H3 H5 H9 B0 bh<|c.2.2 j)<|fun e=>Vg<|Xn9 hQ H2 H3 B0 bh<|h.2 e
include hQ H0 in
theorem Way(h:OX PG K s0):W PG d Yls U st Q:=
 Zl<|W.reg<|Xl<|e_<|Zl<|W.reg<|Xl<|e_<|q_ J<|m_<|x2 h fun _ _ p=>p.elim fun _ j=>Yh (Wk H0 J J) j.1<|m_<|x_ J J<|x_ J J<|x_ J J<|m_<|m_<|m_<|e_<|q_ J<|m_<|x2 j.2 fun _ q o=>o.elim fun _ k=>Yh (Wk J J J) k.1<|m_<|x_ J J<|x_ J J<|x_ J J<|m_<|m_<|m_<|e_<|q_ J<|m_<|k.2.elim fun _ c=>Yh (Xu J J) c.1<|m_<|c.2.elim fun _ e=>Yh (Xu J J) e.1<|f_ J<|Zy J (show lk _ (d,4096)=some (_,lV)from Zj) J J J<|f_ J<|Zy J Zj J J J<|e_<|Zl<|q_ J<|m_<|e_<|Yg<|e.2 (Ykb PG d Q q) (fun _ _ _ hb _ _ _ _ _ _ H2 H3 H5 H9 B0 bh=>W.loop<|Xmk hQ (fun _ _ _ x=>x) H2 H3 H5 H9 B0 bh hb) _ _ _ _ _ _ J J J J (Zm J<|Zm J<|Zm J<|show lk _ (d,0)=some (_,lV)from Zj) Zj
theorem Xlp(hf:PG.fn 313=some pG)(h:OX PG K s0):∃aa:Zq,K aa/\Ze PG 313 [.s s0] (aa.av):=by
  obtain⟨v,hv,aa,hk,rfl⟩:=Ze.of (K:=fun v=>∃aa:Zq,K aa/\v=aa.av) hf rfl (Way (U:=Wg [.s s0]) (fun U st k0 v0 cc aa H2 dT hk=>⟨aa.avo cc,by simp only[pG,Xj,Wz,Jc (n:=8) H2 dT rfl,Km,kK],_,rfl,aa,hk,rfl⟩) rfl h)
  exact⟨aa,hk,hv⟩
end
abbrev Ype:AC:= (sR 0 [oC 2<|.b false]<|sR 1 [oM 3 0,oH 4 3,oV 5 .gtr 4 6000,oM 6 5,gT 6<|oM 7 0,gT 6<|oH 8 7,gT 6<|oV 9 .leq 8 300000,oA 10 6 9,oM 11 10,gF 11<|oM 12 0,gF 11<|oH 13 12,gF 11<|oV 14 .gtr 13 300100,oR 15 11 14,oM 2 15] .ret)
def vP:AF:= { nt:=16,res:=[.tmp 2],body:=Ype }
def OZ(PG:Zb)(K:Bool->Prop)(s0:BS):Prop:=
  ((s0.length:Int)>6000->((s0.length:Int)<=300000->K true)/\(¬((s0.length:Int)<=300000)->K (decide ((s0.length:Int)>300100))))/\(¬((s0.length:Int)>6000)->K (decide ((s0.length:Int)>300100)))
section
variable{K:Bool->Prop}(hQ:H1 AV.b 2 Q K)
variable{s0:BS}
variable(H0:U 0=.s s0)
include hQ H0 in
theorem Xyb(h:OZ PG K s0):W PG d Ype U st Q:=
 au trivial
def Xsz(hf:PG.fn 300=some vP)(h:OZ PG K s0):∃aa:Bool,K aa/\Ze PG 300 [.s s0] (.b aa):=
 P1 hf J<|Xyb (h1 J fun _=>J) J h
end
end Go.AM

namespace Go.AM
open Go
set_option maxRecDepth 4000
set_option maxHeartbeats 1000000
attribute [local irreducible] WO Ve Vd
variable{PG:Zb}{d:Nat}{Q:Q0}{U:Sl}{st:St}
abbrev Ytf:AC:= (sR 13 [oM 64 6,oM 65 10,oX 66 1 64 65,oL 67 66,oO 68<|.slS (.t 67) (some<|.c<|.i .i64 10) none,oP 69 312 [68],oS 5 9 69]<|sR 14 [oM 70 10,oV 71 .add 70 1,oM 10 71]<|.exit 1)
abbrev Ymn:AC:= (.seq (.block 3<|.reg 21 [oM 106 11,oM 107 6,oM 108 10,oX 109 1 107 108,oL 110 109,oO 111<|.slS (.t 110) (some<|.c<|.i .i64 2) none,oO 112<|.bslice [zs] 1 [(0,(.t 111))],oO 113<|.app 1 16 (.t 106)<|.t 112,oM 11 113])<|.reg 20 [oM 104 10,oV 105 .add 104 1,oM 10 105])
abbrev qu:AC:= (.seq (sR 19 [oM 87 11,oO 88<|.iaL 1 (.t 87)<|.c<|.i .i64 0,oL 89 88,oO 90<|.call false 310 [(.t 89),(.c<|.s [35])],oM 91 90,gT 91<|oM 92 10,gT 91<|oM 93 6,gT 91<|oJ 94 93,gT 91<|oT 95 .lss 92 94,oA 96 91 95,oM 97 96,gT 97<|oM 98 6,gT 97<|oM 99 10,gT 97<|oX 100 1 98 99,gT 97<|oL 101 100,gT 97<|oO 102<|.call false 310 [(.t 101),(.c<|.s [32,32,32,32])],oA 103 97 102]<|cD 103 .skip<|.exit 2) Ymn)
abbrev qv:AC:= (sR 22 [oM 114 11,oO 115<|.iaL 1 (.t 114)<|.c<|.i .i64 0,oL 116 115,oO 117<|.call false 310 [(.t 116),(.c<|.s [35])]]<|cD 117 (sR 23 [oK 119 3 2,oM 120 11,oQ 121 85 [119,120],oM 118 121,oE 122 0 118,oE 123 1 118,oE 124 2 118,oO 13<|.alloc cQ,oM 12 122,oS 4 13 123,oM 14 124]<|.seq (sR 24 [oM 125 14,oV 126 .neq 125 0]<|cD 126 (sR 25 [oO 127<|.build dP [],oS 4 4 127,oI 5 12] .ret) .skip)<|.reg 26 [oF 128 2 9,oL 129 128,oK 130 4 13,oO 131<|.bslice cQ 1 [(0,(.t 130))],oO 132<|.app 4 48 (.t 129)<|.t 131,oF 133 2 9,oS 1 133 132])<|sR 27 [oM 134 11,oO 135<|.iaL 1 (.t 134)<|.c<|.i .i64 0,oL 136 135,oO 137<|.call false 310 [(.t 136),(.c<|.s [100,101,102,101,114,32])]]<|cD 137 (.reg 28 [oF 138 3 9,oL 139 138,oM 140 11,oO 141<|.iaL 1 (.t 140)<|.c<|.i .i64 0,oL 142 141,oO 143<|.slS (.t 142) (some<|.c<|.i .i64 6) none,oQ 144 313 [143],oO 145<|.bslice gN 1 [(0,(.t 144))],oO 146<|.app 8 88 (.t 139)<|.t 145,oF 147 3 9,oS 1 147 146])<|sR 29 [oM 149 11,oO 150<|.iaL 1 (.t 149)<|.c<|.i .i64 0,oL 151 150,oQ 152 157 [151],oM 148 152,oE 153 0 148,oE 154 1 148,oO 15<|.alloc dI,oS 7 15 153,oM 16 154]<|.seq (sR 30 [oM 155 16,oV 156 .neq 155 0]<|cD 156 (sR 31 [oO 157<|.build dP [],oS 4 4 157,oI 5 12] .ret) .skip)<|.reg 32 [oF 158 4 9,oL 159 158,oK 160 7 15,oO 161<|.bslice dI 1 [(0,(.t 160))],oO 162<|.app 7 80 (.t 159)<|.t 161,oF 163 4 9,oS 1 163 162])
abbrev Yh5:AC:= (.seq (sR 18 [oM 85 10,oV 86 .add 85 1,oM 10 86]<|.block 2<|.loop qu) qv)
abbrev Ykh:AC:= (sR 17 [oM 79 6,oM 80 10,oX 81 1 79 80,oL 82 81,oO 83<|.slS (.t 82) (some<|.c<|.i .i64 2) none,oO 84<|.bslice [zs] 1 [(0,(.t 83))],oM 11 84] Yh5)
abbrev Q7:AC:= (.seq (sR 15 [oM 72 6,oM 73 10,oX 74 1 72 73,oL 75 74,oO 76<|.call false 310 [(.t 75),(.c<|.s [32,32])],oZ 77 76]<|cD 77 (sR 16 [oO 78<|.build dP [],oS 4 4 78,oI 5 12] .ret) .skip) Ykh)
abbrev Ydd:AC:= (.block 1<|.seq (sR 10 [oM 50 6,oM 51 10,oX 52 1 50 51,oL 53 52,oO 54<|.call false 310 [(.t 53),(.c<|.s pP)]]<|cD 54 (.seq (sR 11 [oF 55 0 9,oL 56 55,oW 57 .neq 56 0]<|cD 57 (.reg 12 [oF 58 3 8,oL 59 58,oK 60 5 9,oO 61<|.bslice eJ 1 [(0,(.t 60))],oO 62<|.app 5 88 (.t 59)<|.t 61,oF 63 3 8,oS 1 63 62]) .skip) Ytf) .skip) Q7)
abbrev Bg:AC:= (.seq (sR 9 [oM 46 10,oM 47 6,oJ 48 47,oT 49 .lss 46 48]<|cD 49 .skip<|.exit 0) Ydd)
abbrev Ynm:AC:= (.block 0<|.loop Bg)
abbrev Ykr:AC:= (.seq (sR 35 [oK 173 3 2,oK 174 4 8,oQ 175 214 [173,174],oV 176 .neq 175 0,oM 177 176,gF 177<|oK 178 3 2,gF 177<|oK 179 4 8,gF 177<|oQ 180 218 [178,179],gF 177<|oM 181 1,gF 177<|oT 182 .neq 180 181,oR 183 177 182]<|cD 183 (sR 36 [oO 184<|.build dP [],oS 4 4 184,oI 5 12] .ret) .skip)<|sR 37 [oK 185 4 8,oS 4 4 185,oI 5 0] .ret)
abbrev Dr:AC:= (.seq (sR 33 [oF 164 0 9,oL 165 164,oW 166 .neq 165 0]<|cD 166 (.reg 34 [oF 167 3 8,oL 168 167,oK 169 5 9,oO 170<|.bslice eJ 1 [(0,(.t 169))],oO 171<|.app 5 88 (.t 168)<|.t 170,oF 172 3 8,oS 1 172 171]) .skip) Ykr)
abbrev Yu2:AC:= (.seq (sR 8 [oI 10 1] Ynm) Dr)
abbrev Yev:AC:= (sR 7 [oO 9<|.alloc eJ] Yu2)
abbrev Yex:AC:= (sR 6 [oM 41 6,oO 42<|.iaL 1 (.t 41)<|.c<|.i .i64 0,oL 43 42,oO 44<|.slS (.t 43) (some<|.c<|.i .i64 8) none,oP 45 311 [44],oO 8<|.alloc dP,oS 4 8 45] Yev)
abbrev Yk8:AC:= (.seq (sR 4 [oM 26 7,oZ 27 26,oM 28 27,gF 28<|oM 29 6,gF 28<|oJ 30 29,gF 28<|oV 31 .eql 30 0,oR 32 28 31,oM 33 32,gF 33<|oM 34 6,gF 33<|oO 35<|.iaL 1 (.t 34)<|.c<|.i .i64 0,gF 33<|oL 36 35,gF 33<|oO 37<|.call false 310 [(.t 36),(.c<|.s pQ)],gF 33<|oZ 38 37,oR 39 33 38]<|cD 39 (sR 5 [oO 40<|.build dP [],oS 4 4 40,oI 5 12] .ret) .skip) Yex)
abbrev Yuk:AC:= (sR 3 [oM 22 1,oQ 23 177 [22],oM 21 23,oE 24 0 21,oE 25 1 21,oM 6 24,oM 7 25] Yk8)
abbrev Yql:AC:= (.seq (sR 1 [oM 17 1,oH 18 17,oV 19 .gtr 18 300000]<|cD 19 (sR 2 [oO 20<|.build dP [],oS 4 4 20,oI 5 4] .ret) .skip) Yuk)
abbrev Ycg:AC:= (sR 0 [oY 2 3 0,oO 4<|.alloc dP,oI 5 0] Yql)
def pH:AF:= { nt:=186,res:=[.cell 4 4 true,.tmp 5],body:=Ycg }
abbrev Wd6(Q:Q0)(K:Zo->Int->Prop):Prop:=∀(U:Sl)(st:St)(k0:Zt)(v0:Nat)(cc:Zr)(aa:Zo)(ae:Int),U 4=.p k0 v0 0->lk st.bx k0=some (v0,Zo.co cc aa)->U 5=.i .i64 ae->K aa ae->Q .ret U st
abbrev Ytn(PG:Zb)(d:Nat)(Q:Q0)(s1:BS)(l6:LB)(i10:Int)(m0:Zd)(m1 al:Zo)(aj:Zi):Prop:=
  ∀(U:Sl)(st:St)(lf ji dr dt du dw:Zr)(v0 v1 ib ic:Nat),U 1=.s s1->U 2=.p (d,0) v0 0->U 4=.p (d,1) v1 0->U 6=.sl lf (List.map Zv l6)->U 8=.p (d,24581) ib 0->U 9=.p (d,28672) ic 0->U 10=.i .i64 i10->Xn [49156,139268] d st.ow dr al.routines.length->Xn [106500] d st.ow dt aj.frames.length->Xn [114696] d st.ow du aj.defers.length->Xn [131076] d st.ow dw aj.panics.length->lk st.bx (d,0)=some (v0,Zd.cs m0)->lk st.bx (d,1)=some (v1,Zo.co ji m1)->lk st.bx (d,24581)=some (ib,Zo.co dr al)->lk st.bx (d,28672)=some (ic,Zi.co dt du dw aj)->W PG d (.loop Bg) U st (Zs 0 (Zk PG d Dr Q))
def pL(PG:Zb)(K:Zo->Int->Prop)(P0:Int->Zd->Zo->Zo->Zi->Prop)(s1:BS)(l6:LB)(i10:Int)(m0:Zd)(m1 al:Zo)(aj:Zi):Prop:=
  0<=i10/\∃e:BS,l6[(i10).toNat]?=some e/\10<=e.length/\∃c:Zi,(Ym PG 312 [.s (e.drop 10)] (fun r=>r=.ag [.i .u8 c.status,.i .i64 c.key,.sl .full (List.map Zf.row c.frames),.sl .full (List.map Zq.row c.defers),.sl .full (List.map Zh.row c.panics)]))/\P0 (IntKind.i64.wrap (i10+1)) m0 m1 al c
abbrev Ybu(PG:Zb)(d:Nat)(Q:Q0)(s1:BS)(l6:LB)(i10:Int)(cg:LB)(m0:Zd)(m1 al:Zo)(aj:Zi):Prop:=
  ∀(U:Sl)(st:St)(lf ig ji dr dt du dw:Zr)(v0 v1 ib ic:Nat),U 1=.s s1->U 2=.p (d,0) v0 0->U 4=.p (d,1) v1 0->U 6=.sl lf (List.map Zv l6)->U 8=.p (d,24581) ib 0->U 9=.p (d,28672) ic 0->U 10=.i .i64 i10->U 11=.sl ig (List.map Zv cg)->Xn [86023] d st.ow ig cg.length->Xn [49156,139268] d st.ow dr al.routines.length->Xn [106500] d st.ow dt aj.frames.length->Xn [114696] d st.ow du aj.defers.length->Xn [131076] d st.ow dw aj.panics.length->lk st.bx (d,0)=some (v0,Zd.cs m0)->lk st.bx (d,1)=some (v1,Zo.co ji m1)->lk st.bx (d,24581)=some (ib,Zo.co dr al)->lk st.bx (d,28672)=some (ic,Zi.co dt du dw aj)->W PG d (.loop qu) U st (Zs 2 (Zk PG d qv (Zs 1 (Zk PG d (.loop Bg) (Zs 0 (Zk PG d Dr Q))))))
def PK(PG:Zb)(K:Zo->Int->Prop)(P1:Int->LB->Zd->Zo->Zo->Zi->Prop)(P0:Int->Zd->Zo->Zo->Zi->Prop)(s1:BS)(l6:LB)(i10:Int)(cg:LB)(m0:Zd)(m1 al:Zo)(aj:Zi):Prop:=
  0<=i10/\∃c:BS,l6[(i10).toNat]?=some c/\2<=c.length/\Ju (cg.length+[(c.drop 2)].length) 16/\P1 (IntKind.i64.wrap (i10+1)) (cg++[(c.drop 2)]) m0 m1 al aj
section
variable(PG:Zb)(K:Zo->Int->Prop)
def Ec(P0:Int->Zd->Zo->Zo->Zi->Prop)(s1:BS)(l6:LB)(i10:Int)(cg:LB)(m0:Zd)(m1 al:Zo)(aj:Zi):Prop:=
  ∃e,cg[0]?=some e/\∃c,Ze PG 310 [.s e,.s ([35]:BS)] (.b c)/\(c=true->∃x,∃j:Zf,∃q,Ze PG 85 [m0.av,.sl .ext (List.map Zv cg)] (.tup [.i .i64 x,j.av,.i .i64 q])/\(q≠0->K (Zo.mk 0 0 0 ([]:List Zi)) 12)/\(¬(q≠0)->Ju (aj.frames.length+[j].length) 48/\P0 i10 m0 m1 al (Zi.mk aj.status aj.key (aj.frames++[j]) aj.defers aj.panics)))/\(c=false->∃v,cg[0]?=some v/\∃o,Ze PG 310 [.s v,.s ([100,101,102,101,114,32]:BS)] (.b o)/\(o=true->∃r:BS,cg[0]?=some r/\6<=r.length/\∃u:Zq,Ze PG 313 [.s (r.drop 6)] (u.av)/\Ju (aj.defers.length+[u].length) 88/\P0 i10 m0 m1 al (Zi.mk aj.status aj.key aj.frames (aj.defers++[u]) aj.panics))/\(o=false->∃w,cg[0]?=some w/\∃k:Zh,∃p,Ze PG 157 [.s w] (.tup [k.av,.i .i64 p])/\(p≠0->K (Zo.mk 0 0 0 ([]:List Zi)) 12)/\(¬(p≠0)->Ju (aj.panics.length+[k].length) 80/\P0 i10 m0 m1 al (Zi.mk aj.status aj.key aj.frames aj.defers (aj.panics++[k])))))
def vZ(P1:Int->LB->Zd->Zo->Zo->Zi->Prop)(P0:Int->Zd->Zo->Zo->Zi->Prop)(s1:BS)(l6:LB)(i10:Int)(cg:LB)(m0:Zd)(m1 al:Zo)(aj:Zi):Prop:=
  ∃j,cg[0]?=some j/\∃e,Ze PG 310 [.s j,.s ([35]:BS)] (.b e)/\(e=true->(i10<(l6.length:Int)->0<=i10/\∃i,l6[(i10).toNat]?=some i/\∃c,Ze PG 310 [.s i,.s ([32,32,32,32]:BS)] (.b c)/\(c=true->PK PG K P1 P0 s1 l6 i10 cg m0 m1 al aj)/\(c=false->Ec PG K P0 s1 l6 i10 cg m0 m1 al aj))/\(¬(i10<(l6.length:Int))->Ec PG K P0 s1 l6 i10 cg m0 m1 al aj))/\(e=false->Ec PG K P0 s1 l6 i10 cg m0 m1 al aj)
def PI(P0:Int->Zd->Zo->Zo->Zi->Prop)(s1:BS)(l6:LB)(i10:Int)(cg:LB)(m0:Zd)(m1 al:Zo)(aj:Zi):Prop:=
  ∀P1:Int->LB->Zd->Zo->Zo->Zi->Prop,(∀(i10:Int)(cg:LB)(m0:Zd)(m1 al:Zo)(aj:Zi),vZ PG K P1 P0 s1 l6 i10 cg m0 m1 al aj->P1 i10 cg m0 m1 al aj)->P1 (IntKind.i64.wrap (i10+1)) cg m0 m1 al aj
def PH(P0:Int->Zd->Zo->Zo->Zi->Prop)(s1:BS)(l6:LB)(i10:Int)(m0:Zd)(m1 al:Zo)(aj:Zi):Prop:=
  0<=i10/\∃c:BS,l6[(i10).toNat]?=some c/\2<=c.length/\PI PG K P0 s1 l6 i10 [(c.drop 2)] m0 m1 al aj
def PE(P0:Int->Zd->Zo->Zo->Zi->Prop)(s1:BS)(l6:LB)(i10:Int)(m0:Zd)(m1 al:Zo)(aj:Zi):Prop:=
  0<=i10/\∃e,l6[(i10).toNat]?=some e/\∃c,Ze PG 310 [.s e,.s ([32,32]:BS)] (.b c)/\((!c)=true->K (Zo.mk 0 0 0 ([]:List Zi)) 12)/\((!c)=false->PH PG K P0 s1 l6 i10 m0 m1 al aj)
def PC(P0:Int->Zd->Zo->Zo->Zi->Prop)(s1:BS)(l6:LB)(i10:Int)(m0:Zd)(m1 al:Zo)(aj:Zi):Prop:=
  0<=i10/\∃e,l6[(i10).toNat]?=some e/\∃c,Ze PG 310 [.s e,.s ([103,111,114,111,117,116,105,110,101,32]:BS)] (.b c)/\(c=true->(aj.status≠0->Ju (al.routines.length+[aj].length) 88/\pL PG K P0 s1 l6 i10 m0 m1 (Zo.mk al.outcome al.failing al.steps (al.routines++[aj])) aj)/\(¬(aj.status≠0)->pL PG K P0 s1 l6 i10 m0 m1 al aj))/\(c=false->PE PG K P0 s1 l6 i10 m0 m1 al aj)
def Oz(s1:BS)(m0:Zd)(m1 al:Zo):Prop:=
  ∃e,Ze PG 214 [m0.av,al.av] (.i .i64 e)/\(e≠0->K (Zo.mk 0 0 0 ([]:List Zi)) 12)/\(¬(e≠0)->∃c,Ze PG 218 [m0.av,al.av] (.s c)/\(c≠s1->K (Zo.mk 0 0 0 ([]:List Zi)) 12)/\(¬(c≠s1)->K al 0))
def PB(s1:BS)(m0:Zd)(m1 al:Zo)(aj:Zi):Prop:=
  (aj.status≠0->Ju (al.routines.length+[aj].length) 88/\Oz PG K s1 m0 m1 (Zo.mk al.outcome al.failing al.steps (al.routines++[aj])))/\(¬(aj.status≠0)->Oz PG K s1 m0 m1 al)
def vW(P0:Int->Zd->Zo->Zo->Zi->Prop)(s1:BS)(l6:LB)(i10:Int)(m0:Zd)(m1 al:Zo)(aj:Zi):Prop:=
  (i10<(l6.length:Int)->PC PG K P0 s1 l6 i10 m0 m1 al aj)/\(¬(i10<(l6.length:Int))->PB PG K s1 m0 m1 al aj)
def PA(s1:BS)(l6:LB)(i10:Int)(m0:Zd)(m1 al:Zo)(aj:Zi):Prop:=
  ∀P0:Int->Zd->Zo->Zo->Zi->Prop,(∀(i10:Int)(m0:Zd)(m1 al:Zo)(aj:Zi),vW PG K P0 s1 l6 i10 m0 m1 al aj->P0 i10 m0 m1 al aj)->P0 i10 m0 m1 al aj
def O_(s1:BS)(l6:LB)(m0:Zd)(m1 al:Zo)(aj:Zi):Prop:=
  PA PG K s1 l6 1 m0 m1 al aj
def O9(s1:BS)(l6:LB)(m0:Zd)(m1 al:Zo):Prop:=
  O_ PG K s1 l6 m0 m1 al (Zi.mk 0 0 ([]:List Zf) ([]:List Zq) ([]:List Zh))
def O6(s1:BS)(l6:LB)(m0:Zd)(m1:Zo):Prop:=
  ∃c:BS,l6[0]?=some c/\8<=c.length/\∃e:Zo,(Ym PG 311 [.s (c.drop 8)] (fun r=>r=e.avo .full))/\O9 PG K s1 l6 m0 m1 e
def O4(s1:BS)(l6:LB)(qw:Bool)(m0:Zd)(m1:Zo):Prop:=
  ((!qw)=true->K (Zo.mk 0 0 0 ([]:List Zi)) 12)/\((!qw)=false->((l6.length:Int)=0->K (Zo.mk 0 0 0 ([]:List Zi)) 12)/\(¬((l6.length:Int)=0)->∃e,l6[0]?=some e/\∃c,Ze PG 310 [.s e,.s ([111,117,116,99,111,109,101,32]:BS)] (.b c)/\((!c)=true->K (Zo.mk 0 0 0 ([]:List Zi)) 12)/\((!c)=false->O6 PG K s1 l6 m0 m1)))
def O2(s1:BS)(m0:Zd)(m1:Zo):Prop:=
  ∃c e,Ze PG 177 [.s s1] (.tup [.sl .ext (List.map Zv c),.b e])/\O4 PG K s1 c e m0 m1
def O1(s1:BS)(m0:Zd)(m1:Zo):Prop:=
  ((s1.length:Int)>300000->K (Zo.mk 0 0 0 ([]:List Zi)) 4)/\(¬((s1.length:Int)>300000)->O2 PG K s1 m0 m1)
def O0(m0:Zd)(s1:BS):Prop:=
  O1 PG K s1 m0 (Zo.mk 0 0 0 ([]:List Zi))
end
section
variable{K:Zo->Int->Prop}(hQ:Wd6 Q K)
variable{s1:BS}{l6:LB}{i10:Int}{m0:Zd}{m1 al:Zo}{aj:Zi}{P0:Int->Zd->Zo->Zo->Zi->Prop}{lf ji dr dt du dw:Zr}{v0 v1 ib ic:Nat}{cg:LB}{P1:Int->LB->Zd->Zo->Zo->Zi->Prop}{ig:Zr}{qw:Bool}
variable(bZ :∀(i10:Int)(cg:LB)(m0:Zd)(m1 al:Zo)(aj:Zi),P1 i10 cg m0 m1 al aj->Ybu PG d Q s1 l6 i10 cg m0 m1 al aj)(H0:U 0=m0.av)(aD :∀(i10:Int)(m0:Zd)(m1 al:Zo)(aj:Zi),P0 i10 m0 m1 al aj->Ytn PG d Q s1 l6 i10 m0 m1 al aj)(H1:U 1=.s s1)(H2:U 2=.p (d,0) v0 0)(H4:U 4=.p (d,1) v1 0)(H6:U 6=.sl lf (List.map Zv l6))(H8:U 8=.p (d,24581) ib 0)(H7:U 7=.b qw)(H9:U 9=.p (d,28672) ic 0)(aH:U 10=.i .i64 i10)(H11:U 11=.sl ig (List.map Zv cg))(hD:Xn [86023] d st.ow ig cg.length)(ao:Xn [49156,139268] d st.ow dr al.routines.length)(aw:Xn [106500] d st.ow dt aj.frames.length)(bc:Xn [114696] d st.ow du aj.defers.length)(bd:Xn [131076] d st.ow dw aj.panics.length)(B0:lk st.bx (d,0)=some (v0,Zd.cs m0))(B1:lk st.bx (d,1)=some (v1,Zo.co ji m1))(br:lk st.bx (d,24581)=some (ib,Zo.co dr al))(bz:lk st.bx (d,28672)=some (ic,Zi.co dt du dw aj))
def Yc3(h:pL PG K P0 s1 l6 i10 m0 m1 al aj):W PG d Ytf U st (Zk PG d Q7 (Zs 1 (Zk PG d (.loop Bg) (Zs 0 (Zk PG d Dr Q))))):=
 q_ J<|Yf H6<|m_<|h.2.elim fun _ e=>Xy J aH h.1 e.1 J J<|Xx J J J<|Jo J J (by decide) e.2.1<|e.2.2.elim fun _ i=>Gm (Ye J Yw) (i.1)<|fun _ c=>Zy H9 ((c.1 (d,28672) (kG d) Kv).trans bz) J J J<|e_<|q_ J<|m_<|b_ aH J Vp<|m_<|e_<|Vg<|aD _ _ _ _ _ i.2 _ _ _ _ _ _ _ _ _ _ _ _ H1 H2 H4 H6 H8 H9 J (Xn.call ao c<|by decide) Xn.full Xn.full Xn.full (Zm J<|(c.1 (d,0) (kG d) Kv).trans B0) (Zm J<|(c.1 (d,1) (kG d) Kv).trans B1) (Zm J<|(c.1 (d,24581) (kG d) Kv).trans br) Zj
def Xdh(h:PK PG K P1 P0 s1 l6 i10 cg m0 m1 al aj):W PG d Ymn U st (Zk PG d (.loop qu) (Zs 2 (Zk PG d qv (Zs 1 (Zk PG d (.loop Bg) (Zs 0 (Zk PG d Dr Q))))))):=
 Zl<|Yg<|W.reg0 J fun _ _=>Yf H11<|Yf H6<|m_<|h.2.elim fun j c=>Xy J aH h.1 c.1 J J<|Xx J J J<|Jo J J (by decide) c.2.1<|Wr (f:=Zv) (l:=[(j.drop 2)]) J J (Yl J J J Wi) J<|Jq Bs J J J hD.1 c.2.2.1 J<|fun _ _ i e k=>Yf J<|e_<|W.reg0 J fun _ _=>m_<|b_ aH J Vp<|m_<|e_<|bZ _ _ _ _ _ _ c.2.2.2 _ _ _ _ _ _ _ _ _ _ _ _ _ H1 H2 H4 H6 H8 H9 J J (Xn.new hD i k<|by decide) (Xn.keep ao hD e (by decide)<|by decide) (Xn.keep aw hD e (by decide)<|by decide) (Xn.keep bc hD e (by decide)<|by decide) (Xn.keep bd hD e (by decide)<|by decide) B0 B1 br bz
def Q8(h:Ec PG K P0 s1 l6 i10 cg m0 m1 al aj):W PG d qv U st (Zs 1 (Zk PG d (.loop Bg) (Zs 0 (Zk PG d Dr Q)))):=
 q_ J<|Yf H11<|h.elim fun _ a0=>Xy J J (by decide) a0.1 J J<|Xx J J J<|a0.2.elim fun _ r=>Yh (Wk J J J) r.1<|e_<|Xw J (fun y=>Zl<|W.reg<|l_ H2 (Zm J B0) J J<|Yf H11<|x2 (r.2.1 y) fun _ b1 a5=>a5.elim fun _ e=>Yh (Wk J J J) e.1<|m_<|x_ J J<|x_ J J<|x_ J J<|Xl<|m_<|Zy J (show lk _ (d,94215)=some (_,lW)from Zj) J J J<|m_<|e_<|Zl<|q_ J<|m_<|b_ J J Vr<|e_<|Yi J (fun j=>q_ J<|Xb Yu<|Zy H4 (Zm J<|Zm J B1) J J J<|m_<|Zu<|hQ _ _ _ _ _ _ _ H4 Zj J<|e.2.1 j)<|fun j=>Ya<|W.reg0 J fun _ _=>f_ H9<|l_ J (Zm J<|Zm J bz) J J<|l_ J Zj J J<|Wr (f:=Zf.row) (l:=[b1]) J J (Yl J J J Wi) (by simp only[jB,yK,Zf.row_eq];rfl)<|Jq Zf.row_len J J J aw.1 (e.2.2 j).1 J<|fun _ _ a2 u a6=>f_ H9<|Zy J (Zm J<|Zm J bz) J J J<|e_<|aD _ _ _ _ _ (e.2.2 j).2 _ _ _ _ _ _ _ _ _ _ _ _ H1 H2 H4 H6 H8 H9 aH (Xn.keep ao aw u (by decide)<|by decide) (Xn.new aw a2 a6<|by decide) (Xn.keep bc aw u (by decide)<|by decide) (Xn.keep bd aw u (by decide)<|by decide) (Zm J<|Zm J<|Zm J B0) (Zm J<|Zm J<|Zm J B1) (Zm J<|Zm J<|Zm J br) Zj)<|fun y=>q_ J<|Yf H11<|(r.2.2 y).elim fun _ z=>Xy J J (by decide) z.1 J J<|Xx J J J<|z.2.elim fun _ o=>Yh (Wk J J J) o.1<|e_<|Xw J (fun x=>W.reg0 J fun _ _=>f_ H9<|l_ J bz J J<|Yf H11<|(o.2.1 x).elim fun _ p=>Xy J J (by decide) p.1 J J<|Xx J J J<|Jo J J (by decide) p.2.1<|p.2.2.elim fun a9 q=>Yh (Xu J J) q.1<|Wr (f:=Zq.row) (l:=[a9]) J J (Yl J J J Wi) (by simp only[jB,yK,Zq.row_eq];rfl)<|Jq Zq.row_len J J J bc.1 q.2.1 J<|fun _ _ a3 v a7=>f_ H9<|Zy J bz J J J<|e_<|aD _ _ _ _ _ q.2.2 _ _ _ _ _ _ _ _ _ _ _ _ H1 H2 H4 H6 H8 H9 aH (Xn.keep ao bc v (by decide)<|by decide) (Xn.keep aw bc v (by decide)<|by decide) (Xn.new bc a3 a7<|by decide) (Xn.keep bd bc v (by decide)<|by decide) (Zm J B0) (Zm J B1) (Zm J br) Zj)<|fun x=>Zl<|W.reg<|Yf H11<|(o.2.2 x).elim fun _ a1=>Xy J J (by decide) a1.1 J J<|Xx J J J<|x2 a1.2 fun b0 _ c=>Yh (Xu J J) c.1<|m_<|x_ J J<|x_ J J<|Xl<|Zy J (show lk _ (d,118791)=some (_,Y0)from Zj) J J J<|m_<|e_<|Zl<|q_ J<|m_<|b_ J J Vr<|e_<|Yi J (fun k=>q_ J<|Xb Yu<|Zy H4 (Zm J<|Zm J B1) J J J<|m_<|Zu<|hQ _ _ _ _ _ _ _ H4 Zj J<|c.2.1 k)<|fun k=>Ya<|W.reg0 J fun _ _=>f_ H9<|l_ J (Zm J<|Zm J bz) J J<|l_ J Zj J J<|Wr (f:=Zh.row) (l:=[b0]) J J (Yl J J J Wi) (by simp only[jB,yK,Zh.row_eq];rfl)<|Jq Zh.row_len J J J bd.1 (c.2.2 k).1 J<|fun _ _ a4 w a8=>f_ H9<|Zy J (Zm J<|Zm J bz) J J J<|e_<|aD _ _ _ _ _ (c.2.2 k).2 _ _ _ _ _ _ _ _ _ _ _ _ H1 H2 H4 H6 H8 H9 aH (Xn.keep ao bd w (by decide)<|by decide) (Xn.keep aw bd w (by decide)<|by decide) (Xn.keep bc bd w (by decide)<|by decide) (Xn.new bd a4 a8<|by decide) (Zm J<|Zm J<|Zm J B0) (Zm J<|Zm J<|Zm J B1) (Zm J<|Zm J<|Zm J br) Zj
def Xrq(h:vZ PG K P1 P0 s1 l6 i10 cg m0 m1 al aj):W PG d qu U st (Zk PG d (.loop qu) (Zs 2 (Zk PG d qv (Zs 1 (Zk PG d (.loop Bg) (Zs 0 (Zk PG d Dr Q))))))):=
 Zl<|q_ J<|Yf H11<|h.elim fun _ o=>Xy J J (by decide) o.1 J J<|Xx J J J<|o.2.elim fun _ c=>Yh (Wk J J J) c.1<|Yt J<|Ql (g:=91) J (fun e=>Zg J<|Wc aH<|Zg J<|Yf H6<|Zg J<|Xq J<|Zg J<|b_ J J Wp<|z_ 2 J<|Xe (g:=97) J (fun i=>Zg J<|Yf H6<|Zg J<|Wc aH<|Zg J<|((c.2.1 e).1 i).2.elim fun _ p=>Xy J J ((c.2.1 e).1 i).1 p.1 J J<|Zg J<|Xx J J J<|Zg J<|p.2.elim fun _ j=>Yh (Wk J J J) j.1<|Gz J J<|e_<|Xw J (fun k=>Ya<|Xdh bZ H1 H2 H4 H6 H8 H9 aH H11 hD ao aw bc bd B0 B1 br bz<|j.2.1 k)<|fun k=>Vg<|Q8 hQ aD H1 H2 H4 H6 H8 H9 aH H11 ao aw bc bd B0 B1 br bz<|j.2.2 k)<|fun i=>z_ 6 J<|e_<|Qp J<|Vg<|Q8 hQ aD H1 H2 H4 H6 H8 H9 aH H11 ao aw bc bd B0 B1 br bz<|(c.2.1 e).2 i)<|fun e=>z_ 12 J<|e_<|Qp J<|Vg<|Q8 hQ aD H1 H2 H4 H6 H8 H9 aH H11 ao aw bc bd B0 B1 br bz<|c.2.2 e
def Xoe(h:PI PG K P0 s1 l6 i10 cg m0 m1 al aj):W PG d Yh5 U st (Zs 1 (Zk PG d (.loop Bg) (Zs 0 (Zk PG d Dr Q)))):=
 Zl<|q_ J<|m_<|b_ aH J Vp<|m_<|e_<|Yg<|h (Ybu PG d Q s1 l6) (fun _ _ _ _ _ _ hb _ _ _ _ _ _ _ _ _ _ _ _ _ H1 H2 H4 H6 H8 H9 aH H11 hD ao aw bc bd B0 B1 br bz=>W.loop<|Xrq hQ (fun _ _ _ _ _ _ x=>x) aD H1 H2 H4 H6 H8 H9 aH H11 hD ao aw bc bd B0 B1 br bz hb) _ _ _ _ _ _ _ _ _ _ _ _ _ H1 H2 H4 H6 H8 H9 J H11 hD ao aw bc bd B0 B1 br bz
def Wcl(h:PH PG K P0 s1 l6 i10 m0 m1 al aj):W PG d Ykh U st (Zs 1 (Zk PG d (.loop Bg) (Zs 0 (Zk PG d Dr Q)))):=
 q_ J<|Yf H6<|m_<|h.2.elim fun e c=>Xy J aH h.1 c.1 J J<|Xx J J J<|Jo J J (by decide) c.2.1<|Wr (f:=Zv) (l:=[(e.drop 2)]) J J (Yl J J J Wi) J<|Yf J<|e_<|Xoe hQ aD H1 H2 H4 H6 H8 H9 aH J Xn.full ao aw bc bd B0 B1 br bz c.2.2
def Xin(h:PE PG K P0 s1 l6 i10 m0 m1 al aj):W PG d Q7 U st (Zs 1 (Zk PG d (.loop Bg) (Zs 0 (Zk PG d Dr Q)))):=
 Zl<|q_ J<|Yf H6<|m_<|h.2.elim fun _ i=>Xy J aH h.1 i.1 J J<|Xx J J J<|i.2.elim fun _ c=>Yh (Wk J J J) c.1<|Wa J<|e_<|Xw J (fun e=>q_ J<|Xb Yu<|Zy H4 B1 J J J<|m_<|Zu<|hQ _ _ _ _ _ _ _ H4 Zj J<|c.2.1 e)<|fun e=>Ya<|Wcl hQ aD H1 H2 H4 H6 H8 H9 aH ao aw bc bd B0 B1 br bz<|c.2.2 e
def Wae(h:PC PG K P0 s1 l6 i10 m0 m1 al aj):W PG d Ydd U st (Zk PG d (.loop Bg) (Zs 0 (Zk PG d Dr Q))):=
 Yg<|Zl<|q_ J<|Yf H6<|m_<|h.2.elim fun _ k=>Xy J aH h.1 k.1 J J<|Xx J J J<|k.2.elim fun _ c=>Yh (Wk J J J) c.1<|e_<|Xw J (fun e=>Zl<|q_ J<|f_ H9<|l_ J bz J J<|b_ J J Vr<|e_<|Yi J (fun i=>W.reg0 J fun _ _=>f_ H8<|l_ J br J J<|l_ H9 bz J J<|Wr (f:=Zi.row) (l:=[aj]) J J (Yl J J J Wi) (by simp only[jB,yK,Zi.row_eq];rfl)<|Jq Zi.row_len J J J ao.1 ((c.2.1 e).1 i).1 J<|fun _ _ o j p=>f_ H8<|Zy J br J J J<|e_<|Yc3 (al:=(Zo.mk al.outcome al.failing al.steps<|al.routines++[aj])) aD H1 H2 H4 H6 H8 H9 aH (Xn.new ao o p<|by decide) (Zm J B0) (Zm J B1) Zj (Zm J bz) ((c.2.1 e).1 i).2)<|fun i=>Ya<|Yc3 aD H1 H2 H4 H6 H8 H9 aH ao B0 B1 br bz<|(c.2.1 e).2 i)<|fun e=>Ya<|Xin hQ aD H1 H2 H4 H6 H8 H9 aH ao aw bc bd B0 B1 br bz<|c.2.2 e
def Yk5(h:Oz PG K s1 m0 m1 al):W PG d Ykr U st Q:=
 Zl<|q_ J<|l_ H2 B0 J J<|l_ H8 br J J<|h.elim fun _ c=>Yh (Wk J J J) c.1<|b_ J J Vr<|Yt J<|Xe (g:=177) J (fun i=>z_ 6 J<|e_<|Xh J<|q_ J<|Xb Yu<|Zy H4 B1 J J J<|m_<|Zu<|hQ _ _ _ _ _ _ _ H4 Zj J<|c.2.1 i)<|fun i=>Zg J<|l_ H2 B0 J J<|Zg J<|l_ H8 br J J<|Zg J<|(c.2.2 i).elim fun _ e=>Yh (Wk J J J) e.1<|Zg J<|Ki H1<|Zg J<|b_ J J Rt<|Vt J J<|e_<|Yi J (fun j=>q_ J<|Xb Yu<|Zy H4 B1 J J J<|m_<|Zu<|hQ _ _ _ _ _ _ _ H4 Zj J<|e.2.1 j)<|fun j=>Ya<|q_ J<|l_ H8 br J J<|Zy H4 B1 J J J<|m_<|Zu<|hQ _ _ _ _ _ _ _ H4 Zj J<|e.2.2 j
def Xk8(h:PB PG K s1 m0 m1 al aj):W PG d Dr U st Q:=
 Zl<|q_ J<|f_ H9<|l_ J bz J J<|b_ J J Vr<|e_<|Yi J (fun c=>W.reg0 J fun _ _=>f_ H8<|l_ J br J J<|l_ H9 bz J J<|Wr (f:=Zi.row) (l:=[aj]) J J (Yl J J J Wi) (by simp only[jB,yK,Zi.row_eq];rfl)<|Jq Zi.row_len J J J ao.1 (h.1 c).1 J<|fun _ _ e _ i=>f_ H8<|Zy J br J J J<|e_<|Yk5 (al:=(Zo.mk al.outcome al.failing al.steps<|al.routines++[aj])) hQ H1 H2 H4 H8 (Zm J B0) (Zm J B1) Zj (h.1 c).2)<|fun c=>Ya<|Yk5 hQ H1 H2 H4 H8 B0 B1 br<|h.2 c
def Xrk(h:vW PG K P0 s1 l6 i10 m0 m1 al aj):W PG d Bg U st (Zk PG d (.loop Bg) (Zs 0 (Zk PG d Dr Q))):=
 Zl<|q_ J<|m_<|Yf H6<|Xq J<|b_ aH J Wp<|e_<|Yi J (fun c=>Ya<|Wae hQ aD H1 H2 H4 H6 H8 H9 aH ao aw bc bd B0 B1 br bz<|h.1 c)<|fun c=>Vg<|Xk8 hQ H1 H2 H4 H8 H9 ao B0 B1 br bz<|h.2 c
def Xj9(h:PA PG K s1 l6 i10 m0 m1 al aj):W PG d Ynm U st (Zk PG d Dr Q):=
 Yg<|h (Ytn PG d Q s1 l6) (fun _ _ _ _ _ hb _ _ _ _ _ _ _ _ _ _ _ _ H1 H2 H4 H6 H8 H9 aH ao aw bc bd B0 B1 br bz=>W.loop<|Xrk hQ (fun _ _ _ _ _ x=>x) H1 H2 H4 H6 H8 H9 aH ao aw bc bd B0 B1 br bz hb) _ _ _ _ _ _ _ _ _ _ _ _ H1 H2 H4 H6 H8 H9 aH ao aw bc bd B0 B1 br bz
def Xhy(h:O_ PG K s1 l6 m0 m1 al aj):W PG d Yu2 U st Q:=
 Zl<|q_ J<|m_<|e_<|Xj9 hQ H1 H2 H4 H6 H8 H9 J ao aw bc bd B0 B1 br bz h
def Xur(h:O9 PG K s1 l6 m0 m1 al):W PG d Yev U st Q:=
 Zl<|W.reg<|Xl<|e_<|Xhy (aj:=(Zi.mk 0 0 ([]:List Zf) ([]:List Zq) ([]:List Zh))) hQ H1 H2 H4 H6 H8 J ao Xn.full Xn.full Xn.full (Zm J B0) (Zm J B1) (Zm J br) (show lk _ (d,28672)=some (_,gZ)from Zj) h
def Xo4(h:O6 PG K s1 l6 m0 m1):W PG d Yex U st Q:=
 Zl<|W.reg<|Yf H6<|h.elim fun _ c=>Xy J J (by decide) c.1 J J<|Xx J J J<|Jo J J (by decide) c.2.1<|c.2.2.elim fun _ j=>Gm (Ye J Yw) (j.1)<|fun _ e=>Xl<|Zy J ((e.1 (d,24581) (kG d) Kv).trans<|show lk _ (d,24581)=some (_,lX)from Zj) J J J<|e_<|Xur hQ H1 H2 H4 H6 J Xn.full (Zm J<|(e.1 (d,0) (kG d) Kv).trans<|Zm J B0) (Zm J<|(e.1 (d,1) (kG d) Kv).trans<|Zm J B1) Zj j.2
def Xf9(h:O4 PG K s1 l6 qw m0 m1):W PG d Yk8 U st Q:=
 Zl<|q_ J<|Yt H7<|Wa J<|Yt J<|Ql (g:=28) J (fun c=>z_ 11 J<|e_<|Xh J<|q_ J<|Xb Yu<|Zy H4 B1 J J J<|m_<|Zu<|hQ _ _ _ _ _ _ _ H4 Zj J<|h.1 c)<|fun c=>Zg J<|Yf H6<|Zg J<|Xq J<|Zg J<|b_ J J Xf<|z_ 2 J<|Xe (g:=33) J (fun i=>z_ 6 J<|e_<|Xh J<|q_ J<|Xb Yu<|Zy H4 B1 J J J<|m_<|Zu<|hQ _ _ _ _ _ _ _ H4 Zj J<|(h.2 c).1 i)<|fun i=>Zg J<|Yf H6<|Zg J<|((h.2 c).2 i).elim fun _ k=>Xy J J (by decide) k.1 J J<|Zg J<|Xx J J J<|Zg J<|k.2.elim fun _ e=>Yh (Wk J J J) e.1<|Zg J<|Wa J<|Vt J J<|e_<|Xw J (fun j=>q_ J<|Xb Yu<|Zy H4 B1 J J J<|m_<|Zu<|hQ _ _ _ _ _ _ _ H4 Zj J<|e.2.1 j)<|fun j=>Ya<|Xo4 hQ H1 H2 H4 H6 B0 B1<|e.2.2 j
def Xj3(h:O2 PG K s1 m0 m1):W PG d Yuk U st Q:=
 q_ J<|m_<|x2 h fun _ _ c=>Yh (Xu H1 J) c.1<|m_<|x_ J J<|x_ J J<|Yf J<|m_<|e_<|Xf9 hQ H1 H2 H4 J J B0 B1 c.2
def Xyo(h:O1 PG K s1 m0 m1):W PG d Yql U st Q:=
 Zl<|q_ J<|m_<|Qb H1<|b_ J J Jd<|e_<|Yi J (fun c=>q_ J<|Xb Yu<|Zy H4 B1 J J J<|m_<|Zu<|hQ _ _ _ _ _ _ _ H4 Zj J<|h.1 c)<|fun c=>Ya<|Xj3 hQ H1 H2 H4 B0 B1<|h.2 c
def Xpd(h:O0 PG K m0 s1):W PG d Ycg U st Q:=
 Zl<|W.reg<|Jw H0 J<|Xl<|m_<|e_<|Xyo (m1:=(Zo.mk 0 0 0 ([]:List Zi))) hQ H1 J J Zj (Zm J<|show lk _ (d,1)=some (_,lX)from Zj) h
theorem Wan(hf:PG.fn 301=some pH)(h:O0 PG K m0 s1):∃aa:Zo,∃ae:Int,K aa ae/\Ze PG 301 [m0.av,.s s1] (.tup [aa.av,.i .i64 ae]):=by
  obtain⟨v,hv,aa,ae,hk,rfl⟩:=Ze.of (K:=fun v=>∃aa:Zo,∃ae:Int,K aa ae/\v=.tup [aa.av,.i .i64 ae]) hf rfl (Xpd (U:=Wg [m0.av,.s s1]) (fun U st k0 v0 cc aa ae H4 gU H5 hk=>⟨.tup [aa.avo cc,.i .i64 ae],by simp only[pH,Xj,Wz,Jc (n:=4) H4 gU rfl,H5,Km,kK],_,rfl,aa,ae,hk,rfl⟩) rfl rfl h)
  exact⟨aa,ae,hk,hv⟩
end
abbrev Yj9:AC:= (sR 3 [oK 16 3 2,oM 17 1,oQ 18 299 [16,17],oM 15 18,oE 19 0 15,oE 20 1 15,oO 5<|.alloc dP,oS 4 5 19,oM 6 20]<|sR 4 [oK 22 3 2,oM 23 1,oQ 24 301 [22,23],oM 21 24,oE 25 0 21,oE 26 1 21,oO 7<|.alloc dP,oS 4 7 25,oM 8 26]<|sR 5 [oK 27 4 5,oK 28 4 7,oQ 29 302 [27,28],oM 30 29,gT 30<|oM 31 6,gT 30<|oM 32 8,gT 30<|oT 33 .eql 31 32,oA 34 30 33,oM 4 34] .ret)
abbrev Yiv:AC:= (sR 0 [oY 2 3 0,oC 4<|.b false]<|.seq (sR 1 [oK 9 3 2,oQ 10 79 [9],oM 11 10,gF 11<|oM 12 1,gF 11<|oQ 13 300 [12],oR 14 11 13]<|cD 14 (sR 2 [oC 4<|.b true] .ret) .skip) Yj9)
def v7:AF:= { nt:=35,res:=[.tmp 4],body:=Yiv }
section
variable(PG:Zb)(K:Bool->Prop)
def PM(s1:BS)(m0:Zd):Prop:=
  ∃o:Zo,∃k,Ze PG 299 [m0.av,.s s1] (.tup [o.av,.i .i64 k])/\∃j:Zo,∃e,Ze PG 301 [m0.av,.s s1] (.tup [j.av,.i .i64 e])/\∃c,Ze PG 302 [o.av,j.av] (.b c)/\(c=true->K (decide (k=e)))/\(c=false->K false)
def PL(m0:Zd)(s1:BS):Prop:=
  ∃e,Ze PG 79 [m0.av] (.b e)/\(e=true->K true)/\(e=false->∃c,Ze PG 300 [.s s1] (.b c)/\(c=true->K true)/\(c=false->PM PG K s1 m0))
end
section
variable{K:Bool->Prop}(hQ:H1 AV.b 4 Q K)
variable{s1:BS}{m0:Zd}{v0:Nat}
variable(H0:U 0=m0.av)(H1:U 1=.s s1)(H2:U 2=.p (d,0) v0 0)(B0:lk st.bx (d,0)=some (v0,Zd.cs m0))
def Xaj(h:PM PG K s1 m0):W PG d Yj9 U st Q:=
 Zl<|W.reg<|l_ H2 (Zm J B0) J J<|m_<|x2 h fun _ _ j=>Yh (Wk J H1 J) j.1<|m_<|x_ J J<|x_ J J<|Xl<|Zy J (show lk _ (d,12294)=some (_,lX)from Zj) J J J<|m_<|e_<|Zl<|W.reg<|l_ H2 (Zm J<|Zm J<|Zm J B0) J J<|m_<|x2 j.2 fun _ _ k=>Yh (Wk J H1 J) k.1<|m_<|x_ J J<|x_ J J<|Xl<|Zy J (show lk _ (d,16390)=some (_,lX)from Zj) J J J<|m_<|e_<|q_ J<|l_ J (Zm J<|Zm J Zj) J J<|l_ J Zj J J<|k.2.elim fun _ c=>Yh (Wk J J J) c.1<|Yt J<|Ql (g:=30) J (fun e=>Zg J<|Wc J<|Zg J<|Wc J<|Zg J<|b_ J J Xf<|z_ 2 J<|Zu<|hQ J<|c.2.1 e)<|fun e=>z_ 5 J<|Zu<|hQ J<|c.2.2 e
def Xos(h:PL PG K m0 s1):W PG d Yiv U st Q:=
 q_ J<|Jw H0 J<|m_<|e_<|Zl<|q_ J<|l_ J Zj J J<|h.elim fun _ c=>Yh (Xu J J) c.1<|Yt J<|Ql (g:=11) J (fun i=>z_ 3 J<|e_<|Xh J<|q_ J<|m_<|Zu<|hQ J<|c.2.1 i)<|fun i=>Zg J<|Ki H1<|Zg J<|(c.2.2 i).elim fun _ e=>Yh (Xu J J) e.1<|Vt J J<|e_<|Xw J (fun j=>q_ J<|m_<|Zu<|hQ J<|e.2.1 j)<|fun j=>Ya<|Xaj hQ H1 J Zj<|e.2.2 j
def Wdi(hf:PG.fn 288=some v7)(h:PL PG K m0 s1):∃aa:Bool,K aa/\Ze PG 288 [m0.av,.s s1] (.b aa):=
 P1 hf J<|Xos (h1 J fun _=>J) J J h
end
end Go.AM

namespace Go.AM
open Go
set_option maxRecDepth 4000
set_option maxHeartbeats 1000000
set_option maxHeartbeats 2000000
attribute [local irreducible] Decidable.decide W WO Ve Vd
variable{PG:Zb}{d:Nat}{Q:Q0}{U:Sl}{st:St}{Zp:St}
abbrev Yo0:AC:= (sR 9 [oK 47 4 4,oM 48 7,oM 49 48,gT 49<|oM 50 10,oA 51 49 50,oM 52 51,gT 52<|oM 53 13,oA 54 52 53,oM 55 54,gT 55<|oM 56 14,oA 57 55 56,oM 58 57,gT 58<|oM 59 12,gT 58<|oV 60 .eql 59 0,oA 61 58 60,oS 4 2 47,oM 3 61] .ret)
abbrev Yk2:AC:= (sR 8 [oM 42 9,oQ 43 317 [42],oM 41 43,oE 44 0 41,oE 45 1 41,oF 46 2 4,oS 1 46 44,oM 14 45] Yo0)
abbrev Ymf:AC:= (sR 7 [oM 36 8,oQ 37 317 [36],oM 35 37,oE 38 0 35,oE 39 1 35,oF 40 1 4,oS 1 40 38,oM 13 39] Yk2)
abbrev Ynh:AC:= (sR 6 [oC 13<|.b false,oC 14<|.b false] Ymf)
abbrev Yh3:AC:= (sR 5 [oM 33 11,oF 34 0 4,oS 1 34 33] Ynh)
abbrev Ypg:AC:= (sR 4 [oM 29 5,oQ 30 211 [29],oM 28 30,oE 31 0 28,oE 32 1 28,oM 11 31,oM 12 32] Yh3)
abbrev Ytp:AC:= (sR 3 [oM 23 6,oO 24<|.call false 260 [(.t 23),(.c<|.s wv)],oM 22 24,oE 25 0 22,oE 26 1 22,oE 27 2 22,oM 8 25,oM 9 26,oM 10 27] Ypg)
abbrev Ymd:AC:= (sR 2 [oM 16 0,oO 17<|.call false 316 [(.t 16),(.c<|.s pQ)],oO 18<|.call false 260 [(.t 17),(.c<|.s wo)],oM 15 18,oE 19 0 15,oE 20 1 15,oE 21 2 15,oM 5 19,oM 6 20,oM 7 21] Ytp)
abbrev Ys4:AC:= (sR 1 [oO 4<|.alloc dP] Ymd)
abbrev Ye8:AC:= (sR 0 [oO 2<|.alloc dP,oC 3<|.b false] Ys4)
def En:AF:= { nt:=62,res:=[.cell 2 4 true,.tmp 3],body:=Ye8 }
abbrev Xj2(d:Nat)(Zp:St)(Q:Q0)(K:Zo->Bool->Prop):Prop:=∀(U:Sl)(st:St)(k0:Zt)(v0:Nat)(aa:Zo)(ae:Bool),U 2=.p k0 v0 0->lk st.bx k0=some (v0,Zo.co .full aa)->U 3=.b ae->Fr d (d,0) Zp.bx Zp.ow st.bx st.ow->K aa ae->Q .ret U st
def NM(PG:Zb)(K:Zo->Bool->Prop)(a7 dR:Bool)(eL:Int)(jn kd:Bool)(m0 af:Zo):Prop:=
  (a7=true->(dR=true->(jn=true->(kd=true->K af (decide (eL=0)))/\(kd=false->K af false))/\(jn=false->K af false))/\(dR=false->K af false))/\(a7=false->K af false)
section
variable(PG:Zb)(K:Zo->Bool->Prop)
def NL(a7:Bool)(ee:BS)(dR:Bool)(eL:Int)(jn:Bool)(m0 af:Zo):Prop:=
  ∃c e,Ze PG 317 [.s ee] (.tup [.i .i64 c,.b e])/\NM PG K a7 dR eL jn e m0 (Zo.mk af.outcome af.failing c af.routines)
def NK(a7:Bool)(cz ee:BS)(dR:Bool)(eL:Int)(m0 af:Zo):Prop:=
  ∃c e,Ze PG 317 [.s cz] (.tup [.i .i64 c,.b e])/\NL PG K a7 ee dR eL e m0 (Zo.mk af.outcome c af.steps af.routines)
def NJ(a7:Bool)(cz ee:BS)(dR:Bool)(eL:Int)(m0 af:Zo):Prop:=
  NK PG K a7 cz ee dR eL m0 af
def NI(a7:Bool)(cz ee:BS)(dR:Bool)(zp eL:Int)(m0 af:Zo):Prop:=
  NJ PG K a7 cz ee dR eL m0 (Zo.mk zp af.failing af.steps af.routines)
def NH(iu:BS)(a7:Bool)(cz ee:BS)(dR:Bool)(m0 af:Zo):Prop:=
  ∃c e,Ze PG 211 [.s iu] (.tup [.i .u8 c,.i .i64 e])/\NI PG K a7 cz ee dR c e m0 af
def NG(iu ka:BS)(a7:Bool)(m0 af:Zo):Prop:=
  ∃c i e,Ze PG 260 [.s ka,.s ([44,32,115,116,101,112,115,32]:BS)] (.tup [.s c,.s i,.b e])/\NH PG K iu a7 c i e m0 af
def NF(s0:BS)(m0 af:Zo):Prop:=
  ∃e,Ze PG 316 [.s s0,.s ([111,117,116,99,111,109,101,32]:BS)] (.s e)/\∃j c i,Ze PG 260 [.s e,.s ([44,32,102,97,105,108,105,110,103,32]:BS)] (.tup [.s j,.s c,.b i])/\NG PG K j c i m0 af
def ND(s0:BS)(m0:Zo):Prop:=
  NF PG K s0 m0 (Zo.mk 0 0 0 ([]:List Zi))
def NC(s0:BS):Prop:=
  ND PG K s0 (Zo.mk 0 0 0 ([]:List Zi))
end
section
variable{K:Zo->Bool->Prop}(hQ:Xj2 d Zp Q K)
variable{a7 dR:Bool}{eL:Int}{jn kd:Bool}{m0 af:Zo}{v0 dp:Nat}{ee cz:BS}{zp:Int}{iu ka s0:BS}
variable(H0:U 0=.s s0)(H2:U 2=.p (d,0) v0 0)(H4:U 4=.p (d,4096) dp 0)(H5:U 5=.s iu)(H6:U 6=.s ka)(H7:U 7=.b a7)(H8:U 8=.s cz)(H9:U 9=.s ee)(aH:U 10=.b dR)(H11:U 11=.i .u8 zp)(bT:U 12=.i .i64 eL)(d_:U 13=.b jn)(eV:U 14=.b kd)(B0:lk st.bx (d,0)=some (v0,Zo.co .full m0))(bh:lk st.bx (d,4096)=some (dp,Zo.co .full af))(FR:Fr d (d,0) Zp.bx Zp.ow st.bx st.ow)
include hQ H2 H4 H7 aH bT d_ eV B0 bh FR in
theorem Xlq(h:NM PG K a7 dR eL jn kd m0 af):W PG d Yo0 U st Q:=
 au trivial
include hQ H2 H4 H7 H9 aH bT d_ B0 bh FR in
theorem Xc8(h:NL PG K a7 ee dR eL jn m0 af):W PG d Yk2 U st Q:=
 au @Xlq
include hQ H2 H4 H7 H8 H9 aH bT B0 bh FR in
theorem Xz4(h:NK PG K a7 cz ee dR eL m0 af):W PG d Ymf U st Q:=
 au @Xc8
include hQ H2 H4 H7 H8 H9 aH bT B0 bh FR in
theorem Xj7(h:NJ PG K a7 cz ee dR eL m0 af):W PG d Ynh U st Q:=
 au @Xz4
include hQ H2 H4 H7 H8 H9 aH H11 bT B0 bh FR in
theorem Wcd(h:NI PG K a7 cz ee dR zp eL m0 af):W PG d Yh3 U st Q:=
 au @Xj7
include hQ H2 H4 H5 H7 H8 H9 aH B0 bh FR in
theorem Xt6(h:NH PG K iu a7 cz ee dR m0 af):W PG d Ypg U st Q:=
 au @Wcd
include hQ H2 H4 H5 H6 H7 B0 bh FR in
theorem Yws(h:NG PG K iu ka a7 m0 af):W PG d Ytp U st Q:=
 au @Xt6
def Xwy(h:NF PG K s0 m0 af):W PG d Ymd U st Q:=
 q_ J<|m_<|h.elim fun _ c=>Yh (Wk H0 J J) c.1<|x2 c.2 fun _ _ i=>i.elim fun _ e=>Yh (Wk J J J) e.1<|m_<|x_ J J<|x_ J J<|x_ J J<|m_<|m_<|m_<|e_<|Yws hQ H2 H4 J J J B0 bh FR e.2
def Xvc(h:ND PG K s0 m0):W PG d Ys4 U st Q:=
 Zl<|W.reg<|Xl<|e_<|Xwy (af:=(Zo.mk 0 0 0 ([]:List Zi))) hQ H0 H2 J (Zm J B0) (show lk _ (d,4096)=some (_,lX)from Zj) (Fr.box FR) h
def Xna(h:NC PG K s0):W PG d Ye8 U st Q:=
 Zl<|W.reg<|Xl<|m_<|e_<|Xvc (m0:=(Zo.mk 0 0 0 ([]:List Zi))) hQ H0 J (show lk _ (d,0)=some (_,lX)from Zj) (Fr.box FR) h
def Xrm(hf:PG.fn 307=some En)(h:NC PG K s0):Ym PG 307 [.s s0] (fun r=>∃aa:Zo,∃ae:Bool,(r=.tup [aa.avo .full,.b ae])/\K aa ae):=
  Ym.of hf rfl fun d st=>Xna (Zp:=st) (Q:=fun e U aA=>(e=.normal\/e=.ret)/\∃r,Xj U aA En.res=some r/\_/\Fr d (d,0) st.bx st.ow aA.bx aA.ow) (fun U aA k0 v0  aa ae H2 dT H3 hf hk=>⟨.inr rfl,.tup [aa.avo .full,.b ae],by simp only[En,Xj,Wz,Jc (n:=4) H2 dT rfl,H3,Km,kK],⟨aa,ae,rfl,hk⟩,hf⟩) (U:=Wg [.s s0]) rfl Fr.refl h
end
end Go.AM

namespace Go.AM
open Go
set_option maxRecDepth 4000
set_option maxHeartbeats 1000000
attribute [local irreducible] WO Ve Vd
def XX:List AI:=[oC 3 (.s []),oC 4 (.b false)]
abbrev XY:AC:= (sR 3 [oL 17 1,oO 18<|.iaL 1 (.t 17)<|.c<|.i .i64 0,oL 19 18,oM 5 19]<|sR 4 [oL 20 1,oO 21<|.slL 1 (.t 20) (some<|.c<|.i .i64 1) none,oS 1 1 21]<|sR 5 [oM 22 5,oM 3 22,oC 4<|.b true] .ret)
abbrev XZ:AC:= (sR 0 [oC 3<|.s [],oC 4<|.b false]<|.seq (sR 1 [oL 6 1,oJ 7 6,oV 8 .eql 7 0,oM 9 8,gF 9<|oL 10 1,gF 9<|oO 11<|.iaL 1 (.t 10)<|.c<|.i .i64 0,gF 9<|oL 12 11,gF 9<|oM 13 0,gF 9<|oQ 14 306 [12,13],gF 9<|oZ 15 14,oR 16 9 15]<|cD 16 (sR 2 XX .ret) .skip) XY)
def pC:AF:= { nt:=23,res:=[.tmp 3,.tmp 4],body:=XZ }
def OI:List AI:=[oK 45 3 3,oM 46 9,oQ 47 84 [45,46],oM 44 47,oE 48 0 44,oE 49 1 44,oE 50 2 44,oO 13 (.alloc cQ),oM 12 48,oS 4 13 49,oM 14 50]
def YA:List AI:=[oK 71 3 3,oM 72 15,oO 73 (.slS (.t 72) (some (.c (.i .i64 2))) none),oQ 74 318 [71,73],oM 70 74,oE 75 0 70,oE 76 1 70,oO 17 (.alloc gN),oS 8 17 75,oM 16 76]
def YC:List AI:=[oM 97 18,oO 98 (.slS (.t 97) (some (.c (.i .i64 2))) none),oQ 99 156 [98],oM 96 99,oE 100 0 96,oE 101 1 96,oO 20 (.alloc dI),oS 7 20 100,oM 21 101]
abbrev X7:AC:= (.block 3<|sR 4 [oM 33 2,oO 34<|.callv (.t 33) [(.c<|.s [32,32,32,32])],oM 32 34,oE 35 0 32,oE 36 1 32,oM 10 35,oM 11 36]<|.seq (sR 5 [oM 37 11,oZ 38 37]<|cD 38 (.exit 2) .skip)<|.reg 6 [oM 39 9,oM 40 10,oO 41<|.slS (.t 40) (some<|.c<|.i .i64 2) none,oO 42<|.bslice [zs] 1 [(0,(.t 41))],oO 43<|.app 1 16 (.t 39)<|.t 42,oM 9 43])
abbrev X9:AC:= (sR 7 OI<|.seq (sR 8 [oM 51 14,oV 52 .neq 51 0]<|cD 52 (sR 9 [oC 6<|.b false] .ret) .skip)<|.reg 10 [oM 53 1,oM 54 1,oN 55 54,oF 56 2 55,oL 57 56,oK 58 4 13,oO 59<|.bslice cQ 1 [(0,(.t 58))],oO 60<|.app 4 48 (.t 57)<|.t 59,oN 61 53,oF 62 2 61,oS 1 62 60])
abbrev X8:AC:= (.block 1<|sR 1 [oM 23 2,oO 24<|.callv (.t 23) [(.c<|.s [32,32,35])],oM 22 24,oE 25 0 22,oE 26 1 22,oM 7 25,oM 8 26]<|.seq (sR 2 [oM 27 8,oZ 28 27]<|cD 28 (.exit 0) .skip)<|sR 3 [oM 29 7,oO 30<|.slS (.t 29) (some<|.c<|.i .i64 2) none,oO 31<|.bslice [zs] 1 [(0,(.t 30))],oM 9 31]<|.seq (.block 2<|.loop X7) X9)
abbrev X_:AC:= (.block 5<|sR 11 [oM 64 2,oO 65<|.callv (.t 64) [(.c<|.s [32,32,100,101,102,101,114,32])],oM 63 65,oE 66 0 63,oE 67 1 63,oM 15 66,oM 16 67]<|.seq (sR 12 [oM 68 16,oZ 69 68]<|cD 69 (.exit 4) .skip)<|sR 13 YA<|.seq (sR 14 [oM 77 16,oZ 78 77]<|cD 78 (sR 15 [oC 6<|.b false] .ret) .skip)<|.reg 16 [oM 79 1,oM 80 1,oN 81 80,oF 82 3 81,oL 83 82,oK 84 8 17,oO 85<|.bslice gN 1 [(0,(.t 84))],oO 86<|.app 8 88 (.t 83)<|.t 85,oN 87 79,oF 88 3 87,oS 1 88 86])
abbrev YB:AC:= (.block 7<|sR 17 [oM 90 2,oO 91<|.callv (.t 90) [(.c<|.s [32,32])],oM 89 91,oE 92 0 89,oE 93 1 89,oM 18 92,oM 19 93]<|.seq (sR 18 [oM 94 19,oZ 95 94]<|cD 95 (sR 19 [oC 6<|.b true] .ret) .skip)<|sR 20 YC<|.seq (sR 21 [oM 102 21,oV 103 .neq 102 0]<|cD 103 (sR 22 [oC 6<|.b false] .ret) .skip)<|.reg 23 [oM 104 1,oM 105 1,oN 106 105,oF 107 4 106,oL 108 107,oK 109 7 20,oO 110<|.bslice dI 1 [(0,(.t 109))],oO 111<|.app 7 80 (.t 108)<|.t 110,oN 112 104,oF 113 4 112,oS 1 113 111])
abbrev YH:AC:= (.block 6<|.loop YB)
abbrev YG:AC:= (.seq (.block 4<|.loop X_) YH)
abbrev Yvb:AC:= (.seq (.block 0<|.loop X8) YG)
abbrev YF:AC:= (sR 0 [oY 3 3 0,oC 6<|.b false] Yvb)
def pE:AF:= { nt:=114,res:=[.tmp 6],body:=YF }
def YS:List AI:=[oY 2 3 0,oO 4 (.alloc dP),oI 5 0]
def YU:List AI:=[oM 21 1,oO 22 (.call false 304 [(.t 21),(.c (.s [10]))]),oO 6 (.alloc [zl]),oS 1 6 22]
def YW:List AI:=[oM 30 8,oP 31 307 [30],oM 29 31,oE 32 0 29,oE 33 1 29,oO 10 (.alloc dP),oS 4 10 32,oM 11 33]
def YO:List AI:=[oM 49 12,oP 50 308 [49],oM 48 50,oE 51 0 48,oE 52 1 48,oO 14 (.alloc eJ),oS 5 14 51,oM 13 52]
abbrev Xap:AC:= (.reg 14 [oF 62 3 10,oL 63 62,oK 64 5 14,oO 65<|.bslice eJ 1 [(0,(.t 64))],oO 66<|.app 5 88 (.t 63)<|.t 65,oF 67 3 10,oS 1 67 66])
abbrev YM:AC:= (.block 1<|sR 9 [oM 42 7,oO 43<|.callv (.t 42) [(.c<|.s pP)],oM 41 43,oE 44 0 41,oE 45 1 41,oM 12 44,oM 13 45]<|.seq (sR 10 [oM 46 13,oZ 47 46]<|cD 47 (.exit 0) .skip)<|sR 11 YO<|.seq (sR 12 [oM 53 13,oZ 54 53,oM 55 54,gF 55<|oK 56 3 2,gF 55<|oM 57 7,gF 55<|oP 58 309 [56,14,57],gF 55<|oZ 59 58,oR 60 55 59]<|cD 60 (sR 13 [oO 61<|.build dP [],oS 4 4 61,oI 5 12] .ret) .skip) Xap)
abbrev YQ:AC:= (.seq (sR 15 [oK 69 3 2,oK 70 4 10,oQ 71 205 [69,70],oM 68 71,oE 72 0 68,oE 73 1 68,oM 15 72,oM 16 73]<|sR 16 [oM 74 16,oV 75 .neq 74 0,oM 76 75,gF 76<|oM 77 15,gF 76<|oM 78 1,gF 76<|oT 79 .neq 77 78,oR 80 76 79]<|cD 80 (sR 17 [oO 81<|.build dP [],oS 4 4 81,oI 5 12] .ret) .skip)<|sR 18 [oK 82 4 10,oS 4 4 82,oI 5 0] .ret)
abbrev Xzz:AC:= (.seq (.block 0<|.loop YM) YQ)
abbrev Xax:AC:= (.seq (sR 7 [oM 34 9,oZ 35 34,oM 36 35,gF 36<|oM 37 11,gF 36<|oZ 38 37,oR 39 36 38]<|cD 39 (sR 8 [oO 40<|.build dP [],oS 4 4 40,oI 5 12] .ret) .skip) Xzz)
abbrev Yy0:AC:= (sR 6 YW Xax)
abbrev Xdn:AC:= (sR 5 [oM 25 7,oO 26<|.callv (.t 25) [(.c<|.s pQ)],oM 24 26,oE 27 0 24,oE 28 1 24,oM 8 27,oM 9 28] Yy0)
abbrev YV:AC:= (sR 4 [oO 23<|.mkfn 305 [(.t 6)],oM 7 23] Xdn)
abbrev Xbn:AC:= (sR 3 YU YV)
abbrev YT:AC:= (.seq (sR 1 [oM 17 1,oH 18 17,oV 19 .gtr 18 300000]<|cD 19 (sR 2 [oO 20<|.build dP [],oS 4 4 20,oI 5 4] .ret) .skip) Xbn)
abbrev YR:AC:= (sR 0 YS YT)
def Lr:AF:= { nt:=83,res:=[.cell 4 4 true,.tmp 5],body:=YR }
end Go.AM

/- MADE BY PROGRAM (seat2.py): the types of the program, and that its code is the machine's. -/
namespace Go.Proofs
open Go.Shelf
def Tryz.lays169_ren: Go.Shelf.Ren := ⟨fun|169 => 36|n => n, fun|70 => 89|9 => 9|0 => 0|72 => 91|37 => 75|127 => 134|3 => 3|5 => 5|n => n, fun|n => n⟩
theorem Tryz.lays169: Go.Proofs.Lays.n169 Tryz.prog Tryz.lays169_ren := {
  mixed := by kernel_rfl
  f169 := Tryz.func36.trans (congrArg some<|by kernel_rfl)
  t0 := Tryz.underlying0
  a0 := Tryz.isAgg0
  z0 := Tryz.sizeOf0
  v0 := Tryz.zeroValue0
  t3 := Tryz.underlying3
  a3 := Tryz.isAgg3
  z3 := Tryz.sizeOf3
  v3 := Tryz.zeroValue3
  t9 := Tryz.underlying9
  a9 := Tryz.isAgg9
  z9 := Tryz.sizeOf9
  v9 := Tryz.zeroValue9
  t37 := Tryz.underlying75
  a37 := Tryz.isAgg75
  z37 := Tryz.sizeOf75
  v37 := Tryz.zeroValue75
  t70 := Tryz.underlying89
  a70 := Tryz.isAgg89
  z70 := Tryz.sizeOf89
  v70 := Tryz.zeroValue89
  t72 := Tryz.underlying91
  a72 := Tryz.isAgg91
  z72 := Tryz.sizeOf91
  v72 := Tryz.zeroValue91
  t127 := Tryz.underlying134
  a127 := Tryz.isAgg134
  z127 := Tryz.sizeOf134
  v127 := Tryz.zeroValue134 }

theorem Tryz.extraB: Builder.Extra Tryz.prog Tryz.lays169_ren := {
  sizeBuilder := by kernel_rfl
  liesBuilder := by kernel_rfl
  t5 := Tryz.underlying5
  a5 := Tryz.isAgg5
  z5 := Tryz.sizeOf5
  v5 := Tryz.zeroValue5
  infoByte := by kernel_rfl
  cellsByte := by kernel_rfl
  sizeByte := by kernel_rfl
  neB5 := by decide }
def Tryz.lays146_ren: Go.Shelf.Ren := ⟨fun|146 => 46|221 => 84|268 => 124|138 => 125|143 => 126|195 => 155|197 => 156|218 => 157|219 => 158|260 => 175|217 => 176|225 => 177|224 => 178|267 => 179|266 => 185|314 => 186|n => n, fun|9 => 9|31 => 23|3 => 3|4 => 4|0 => 0|105 => 222|21 => 21|5 => 5|46 => 238|119 => 245|139 => 248|138 => 247|146 => 250|51 => 249|n => n, fun|1 => 0|3 => 1|4 => 2|n => n⟩
theorem Tryz.lays146: Go.Proofs.Lays.n146 Tryz.prog Tryz.lays146_ren := {
  mixed := by kernel_rfl
  f138 := Tryz.func125.trans (congrArg some<|by kernel_rfl)
  f143 := Tryz.func126.trans (congrArg some<|by kernel_rfl)
  f146 := Tryz.func46.trans (congrArg some<|by kernel_rfl)
  f195 := Tryz.func155.trans (congrArg some<|by kernel_rfl)
  f197 := Tryz.func156.trans (congrArg some<|by kernel_rfl)
  f217 := Tryz.func176.trans (congrArg some<|by kernel_rfl)
  f218 := Tryz.func157.trans (congrArg some<|by kernel_rfl)
  f219 := Tryz.func158.trans (congrArg some<|by kernel_rfl)
  f221 := Tryz.func84.trans (congrArg some<|by kernel_rfl)
  f224 := Tryz.func178.trans (congrArg some<|by kernel_rfl)
  f225 := Tryz.func177.trans (congrArg some<|by kernel_rfl)
  f260 := Tryz.func175.trans (congrArg some<|by kernel_rfl)
  f266 := Tryz.func185.trans (congrArg some<|by kernel_rfl)
  f267 := Tryz.func179.trans (congrArg some<|by kernel_rfl)
  f268 := Tryz.func124.trans (congrArg some<|by kernel_rfl)
  f314 := Tryz.func186.trans (congrArg some<|by kernel_rfl)
  t0 := Tryz.underlying0
  a0 := Tryz.isAgg0
  z0 := Tryz.sizeOf0
  v0 := Tryz.zeroValue0
  t3 := Tryz.underlying3
  a3 := Tryz.isAgg3
  z3 := Tryz.sizeOf3
  v3 := Tryz.zeroValue3
  t4 := Tryz.underlying4
  a4 := Tryz.isAgg4
  z4 := Tryz.sizeOf4
  v4 := Tryz.zeroValue4
  t5 := Tryz.underlying5
  a5 := Tryz.isAgg5
  z5 := Tryz.sizeOf5
  v5 := Tryz.zeroValue5
  t9 := Tryz.underlying9
  a9 := Tryz.isAgg9
  z9 := Tryz.sizeOf9
  v9 := Tryz.zeroValue9
  t21 := Tryz.underlying21
  a21 := Tryz.isAgg21
  z21 := Tryz.sizeOf21
  v21 := Tryz.zeroValue21
  t31 := Tryz.underlying23
  a31 := Tryz.isAgg23
  z31 := Tryz.sizeOf23
  v31 := Tryz.zeroValue23
  t46 := Tryz.underlying238
  a46 := Tryz.isAgg238
  z46 := Tryz.sizeOf238
  v46 := Tryz.zeroValue238
  t51 := Tryz.underlying249
  a51 := Tryz.isAgg249
  z51 := Tryz.sizeOf249
  v51 := Tryz.zeroValue249
  t105 := Tryz.underlying222
  a105 := Tryz.isAgg222
  z105 := Tryz.sizeOf222
  v105 := Tryz.zeroValue222
  t119 := Tryz.underlying245
  a119 := Tryz.isAgg245
  z119 := Tryz.sizeOf245
  t138 := Tryz.underlying247
  a138 := Tryz.isAgg247
  z138 := Tryz.sizeOf247
  v138 := Tryz.zeroValue247
  t139 := Tryz.underlying248
  a139 := Tryz.isAgg248
  z139 := Tryz.sizeOf248
  v139 := Tryz.zeroValue248
  t146 := Tryz.underlying250
  a146 := Tryz.isAgg250
  z146 := Tryz.sizeOf250
  v146 := Tryz.zeroValue250
  g1 := by kernel_rfl
  g3 := by kernel_rfl
  g4 := by kernel_rfl }

def Tryz.lays147_ren: Go.Shelf.Ren := ⟨fun|147 => 136|221 => 84|268 => 124|138 => 125|143 => 126|195 => 155|197 => 156|218 => 157|219 => 158|260 => 175|217 => 176|225 => 177|224 => 178|267 => 179|266 => 185|314 => 186|n => n, fun|9 => 9|3 => 3|31 => 23|4 => 4|0 => 0|105 => 222|21 => 21|5 => 5|46 => 238|119 => 245|139 => 248|138 => 247|146 => 250|51 => 249|n => n, fun|1 => 0|3 => 1|4 => 2|n => n⟩
theorem Tryz.lays147: Go.Proofs.Lays.n147 Tryz.prog Tryz.lays147_ren := {
  mixed := by kernel_rfl
  f138 := Tryz.func125.trans (congrArg some<|by kernel_rfl)
  f143 := Tryz.func126.trans (congrArg some<|by kernel_rfl)
  f147 := Tryz.func136.trans (congrArg some<|by kernel_rfl)
  f195 := Tryz.func155.trans (congrArg some<|by kernel_rfl)
  f197 := Tryz.func156.trans (congrArg some<|by kernel_rfl)
  f217 := Tryz.func176.trans (congrArg some<|by kernel_rfl)
  f218 := Tryz.func157.trans (congrArg some<|by kernel_rfl)
  f219 := Tryz.func158.trans (congrArg some<|by kernel_rfl)
  f221 := Tryz.func84.trans (congrArg some<|by kernel_rfl)
  f224 := Tryz.func178.trans (congrArg some<|by kernel_rfl)
  f225 := Tryz.func177.trans (congrArg some<|by kernel_rfl)
  f260 := Tryz.func175.trans (congrArg some<|by kernel_rfl)
  f266 := Tryz.func185.trans (congrArg some<|by kernel_rfl)
  f267 := Tryz.func179.trans (congrArg some<|by kernel_rfl)
  f268 := Tryz.func124.trans (congrArg some<|by kernel_rfl)
  f314 := Tryz.func186.trans (congrArg some<|by kernel_rfl)
  t0 := Tryz.underlying0
  a0 := Tryz.isAgg0
  z0 := Tryz.sizeOf0
  v0 := Tryz.zeroValue0
  t3 := Tryz.underlying3
  a3 := Tryz.isAgg3
  z3 := Tryz.sizeOf3
  v3 := Tryz.zeroValue3
  t4 := Tryz.underlying4
  a4 := Tryz.isAgg4
  z4 := Tryz.sizeOf4
  v4 := Tryz.zeroValue4
  t5 := Tryz.underlying5
  a5 := Tryz.isAgg5
  z5 := Tryz.sizeOf5
  v5 := Tryz.zeroValue5
  t9 := Tryz.underlying9
  a9 := Tryz.isAgg9
  z9 := Tryz.sizeOf9
  v9 := Tryz.zeroValue9
  t21 := Tryz.underlying21
  a21 := Tryz.isAgg21
  z21 := Tryz.sizeOf21
  v21 := Tryz.zeroValue21
  t31 := Tryz.underlying23
  a31 := Tryz.isAgg23
  z31 := Tryz.sizeOf23
  v31 := Tryz.zeroValue23
  t46 := Tryz.underlying238
  a46 := Tryz.isAgg238
  z46 := Tryz.sizeOf238
  v46 := Tryz.zeroValue238
  t51 := Tryz.underlying249
  a51 := Tryz.isAgg249
  z51 := Tryz.sizeOf249
  v51 := Tryz.zeroValue249
  t105 := Tryz.underlying222
  a105 := Tryz.isAgg222
  z105 := Tryz.sizeOf222
  v105 := Tryz.zeroValue222
  t119 := Tryz.underlying245
  a119 := Tryz.isAgg245
  z119 := Tryz.sizeOf245
  t138 := Tryz.underlying247
  a138 := Tryz.isAgg247
  z138 := Tryz.sizeOf247
  v138 := Tryz.zeroValue247
  t139 := Tryz.underlying248
  a139 := Tryz.isAgg248
  z139 := Tryz.sizeOf248
  v139 := Tryz.zeroValue248
  t146 := Tryz.underlying250
  a146 := Tryz.isAgg250
  z146 := Tryz.sizeOf250
  v146 := Tryz.zeroValue250
  g1 := by kernel_rfl
  g3 := by kernel_rfl
  g4 := by kernel_rfl }

def Tryz.lays219_ren: Go.Shelf.Ren := ⟨fun|219 => 158|217 => 176|225 => 177|224 => 178|267 => 179|266 => 185|314 => 186|n => n, fun|9 => 9|3 => 3|4 => 4|5 => 5|46 => 238|146 => 250|51 => 249|n => n, fun|1 => 0|n => n⟩
theorem Tryz.lays219: Go.Proofs.Lays.n219 Tryz.prog Tryz.lays219_ren := {
  mixed := by kernel_rfl
  f217 := Tryz.func176.trans (congrArg some<|by kernel_rfl)
  f219 := Tryz.func158.trans (congrArg some<|by kernel_rfl)
  f224 := Tryz.func178.trans (congrArg some<|by kernel_rfl)
  f225 := Tryz.func177.trans (congrArg some<|by kernel_rfl)
  f266 := Tryz.func185.trans (congrArg some<|by kernel_rfl)
  f267 := Tryz.func179.trans (congrArg some<|by kernel_rfl)
  f314 := Tryz.func186.trans (congrArg some<|by kernel_rfl)
  t3 := Tryz.underlying3
  a3 := Tryz.isAgg3
  z3 := Tryz.sizeOf3
  v3 := Tryz.zeroValue3
  t4 := Tryz.underlying4
  a4 := Tryz.isAgg4
  z4 := Tryz.sizeOf4
  v4 := Tryz.zeroValue4
  t5 := Tryz.underlying5
  a5 := Tryz.isAgg5
  z5 := Tryz.sizeOf5
  v5 := Tryz.zeroValue5
  t9 := Tryz.underlying9
  a9 := Tryz.isAgg9
  z9 := Tryz.sizeOf9
  v9 := Tryz.zeroValue9
  t46 := Tryz.underlying238
  a46 := Tryz.isAgg238
  z46 := Tryz.sizeOf238
  v46 := Tryz.zeroValue238
  t51 := Tryz.underlying249
  a51 := Tryz.isAgg249
  z51 := Tryz.sizeOf249
  v51 := Tryz.zeroValue249
  t146 := Tryz.underlying250
  a146 := Tryz.isAgg250
  z146 := Tryz.sizeOf250
  v146 := Tryz.zeroValue250
  g1 := by kernel_rfl }

end Go.Proofs
namespace Go.Proofs.YtheacfnopahmjaaGreatDoor
open Go Go.AM

def Nl: List (Nat × TI) := [
(2, ⟨.int .i64, 1, 8, [z6]⟩),
  (3, ⟨.int .i64, 1, 8, [z6]⟩),
  (4, ⟨.bool, 1, 1, [zb]⟩),
  (5, ⟨.int .u8, 1, 1, [z8]⟩),
  (9, ⟨.str, 1, 16, [zs]⟩),
  (22, ⟨.sl 267, 1, 24, [zl]⟩),
  (23, ⟨.sl 9, 1, 24, [zl]⟩),
  (24, ⟨.sl 85, 1, 24, [zl]⟩),
  (26, ⟨.st [(22, 0), (23, 1), (24, 2)], 3, 72, [zl, zl, zl]⟩),
  (27, ⟨.sl 43, 1, 24, [zl]⟩),
  (29, ⟨.st [(5, 0), (3, 1), (3, 2), (27, 3)], 4, 48, [z8, z6, z6, zl]⟩),
  (34, ⟨.int .i64, 1, 8, [z6]⟩),
  (39, ⟨.sl 55, 1, 24, [zl]⟩),
  (40, ⟨.sl 63, 1, 24, [zl]⟩),
  (41, ⟨.sl 65, 1, 24, [zl]⟩),
  (43, ⟨.st [(5, 0), (2, 1), (39, 2), (40, 3), (41, 4)], 5, 88, [z8, z6, zl, zl, zl]⟩),
  (52, ⟨.int .u64, 1, 8, [z7]⟩),
  (53, ⟨.sl 61, 1, 24, [zl]⟩),
  (55, ⟨.st [(3, 0), (3, 1), (52, 2), (53, 3)], 4, 48, [z6, z6, z7, zl]⟩),
  (56, ⟨.sl 58, 1, 24, [zl]⟩),
  (58, ⟨.st [(5, 0), (2, 1), (9, 2), (56, 3), (4, 4)], 5, 64, [z8, z6, zs, zl, zb]⟩),
  (61, ⟨.st [(3, 0), (58, 1)], 6, 72, [z6, z8, z6, zs, zl, zb]⟩),
  (63, ⟨.st [(3, 0), (3, 1), (4, 2), (58, 3)], 8, 88, [z6, z6, zb, z8, z6, zs, zl, zb]⟩),
  (65, ⟨.st [(52, 0), (58, 1), (52, 6)], 7, 80, [z7, z8, z6, zs, zl, zb, z7]⟩),
  (68, ⟨.other, 1, 8, [.nf]⟩),
  (72, ⟨.other, 1, 8, [.nf]⟩),
  (75, ⟨.sl 5, 1, 24, [zl]⟩),
  (81, ⟨.sl 87, 1, 24, [zl]⟩),
  (82, ⟨.sl 269, 1, 24, [zl]⟩),
  (83, ⟨.sl 271, 1, 24, [zl]⟩),
  (85, ⟨.st [(9, 0), (3, 1), (3, 2), (81, 3), (82, 4), (83, 5), (83, 6)], 7, 128, [zs, z6, z6, zl, zl, zl, zl]⟩),
  (87, ⟨.st [(9, 0), (3, 1)], 2, 24, [zs, z6]⟩),
  (89, ⟨.ptr 91, 1, 8, [.np]⟩),
  (91, ⟨.st [(89, 0), (75, 1)], 2, 32, [.np, .sl .full []]⟩),
  (93, ⟨.other, 1, 16, [.ni]⟩),
  (96, ⟨.arr 9 9, 9, 144, [zs, zs, zs, zs, zs, zs, zs, zs, zs]⟩),
  (103, ⟨.arr 4 9, 4, 64, [zs, zs, zs, zs]⟩),
  (111, ⟨.other, 1, 8, [.nf]⟩),
  (118, ⟨.ptr 43, 1, 8, [.np]⟩),
  (129, ⟨.other, 1, 8, [.nf]⟩),
  (138, ⟨.other, 1, 8, [.nf]⟩),
  (141, ⟨.other, 1, 8, [.nf]⟩),
  (175, ⟨.sl 52, 1, 24, [zl]⟩),
  (185, ⟨.uptr, 1, 8, [.np]⟩),
  (189, ⟨.other, 1, 8, [.nf]⟩),
  (193, ⟨.arr 5 5, 5, 5, [z8, z8, z8, z8, z8]⟩),
  (196, ⟨.arr 64 5, 64, 64, [z8, z8, z8, z8, z8, z8, z8, z8, z8, z8, z8, z8, z8, z8, z8, z8, z8, z8, z8, z8, z8, z8, z8, z8, z8, z8, z8, z8, z8, z8, z8, z8, z8, z8, z8, z8, z8, z8, z8, z8, z8, z8, z8, z8, z8, z8, z8, z8, z8, z8, z8, z8, z8, z8, z8, z8, z8, z8, z8, z8, z8, z8, z8, z8]⟩),
  (221, ⟨.arr 8 9, 8, 128, [zs, zs, zs, zs, zs, zs, zs, zs]⟩),
  (226, ⟨.ptr 228, 1, 8, [.np]⟩),
  (228, ⟨.st [(9, 0)], 1, 16, [zs]⟩),
  (267, ⟨.st [(5, 0), (3, 1), (3, 2), (81, 3)], 4, 48, [z8, z6, z6, zl]⟩),
  (269, ⟨.st [(5, 0), (3, 1), (3, 2), (3, 3)], 4, 32, [z8, z6, z6, z6]⟩),
  (271, ⟨.st [(3, 0), (52, 1)], 2, 16, [z6, z7]⟩)]
theorem Xas: ∀ x ∈ Nl, Qe Tryz.prog x.1 x.2 :=
 tC (tK Tryz.t2 kE) (tC (tK Tryz.t3 kE)<|tC (tK Tryz.t4 kE)<|tC (tK Tryz.t5 kE)<|tC (tK Tryz.t9 kE)<|tC (tK Tryz.t22 kE)<|tC (tK Tryz.t23 kE)<|tC (tK Tryz.t24 kE)<|tC (tK Tryz.t26 kS)<|tC (tK Tryz.t27 kE)<|tC (tK Tryz.t29 kS)<|tC (tK Tryz.t34 kE)<|tC (tK Tryz.t39 kE)<|tC (tK Tryz.t40 kE)<|tC (tK Tryz.t41 kE)<|tC (tK Tryz.t43 kS)<|tC (tK Tryz.t52 kE)<|tC (tK Tryz.t53 kE)<|tC (tK Tryz.t55 kS)<|tC (tK Tryz.t56 kE)<|tC (tK Tryz.t58 kS)<|tC (tK Tryz.t61 kS)<|tC (tK Tryz.t63 kS)<|tC (tK Tryz.t65 kS)<|tC (tK Tryz.t68 kO)<|tC (tK Tryz.t72 kO)<|tC (tK Tryz.t75 kE)<|tC (tK Tryz.t81 kE)<|tC (tK Tryz.t82 kE)<|tC (tK Tryz.t83 kE)<|tC (tK Tryz.t85 kS)<|tC (tK Tryz.t87 kS)<|tC (tK Tryz.t89<|And.intro (by kernel_rfl) (by kernel_rfl))<|tC (tK Tryz.t91 kS)<|tC (tK Tryz.t93 kO)<|tC (tK Tryz.t96 kE)<|tC (tK Tryz.t103 kE)<|tC (tK Tryz.t111 kO)<|tC (tK Tryz.t118<|And.intro (by kernel_rfl) (by kernel_rfl))<|tC (tK Tryz.t129 kO)<|tC (tK Tryz.t138 kO)<|tC (tK Tryz.t141 kO)<|tC (tK Tryz.t175 kE)<|tC (tK Tryz.t185 kE)<|tC (tK Tryz.t189 kO)<|tC (tK Tryz.t193 kE)<|tC (tK Tryz.t196 kE)<|tC (tK Tryz.t221 kE)<|tC (tK Tryz.t226<|And.intro (by kernel_rfl) (by kernel_rfl))<|tC (tK Tryz.t228 kS)<|tC (tK Tryz.t267 kS)<|tC (tK Tryz.t269 kS)<|tC (tK Tryz.t271 kS)<|tN)
def Tg: List (Nat × Nat) := [(2, 2), (3, 286), (4, 287), (5, 288), (6, 289), (7, 290), (8, 79), (9, 203), (10, 214), (11, 205), (12, 177), (13, 207), (14, 29), (15, 291), (16, 209), (17, 211), (18, 292), (19, 293), (20, 294), (21, 295), (22, 296), (23, 297), (24, 213), (25, 298), (26, 299), (27, 300), (28, 301), (29, 302), (30, 204), (31, 221), (32, 126), (33, 215), (34, 216), (35, 217), (36, 105), (37, 219), (38, 220), (39, 15), (40, 82), (41, 154), (42, 141), (43, 303), (44, 224), (45, 225), (46, 304), (47, 305), (48, 306), (49, 307), (50, 308), (51, 309), (52, 310), (53, 311), (54, 312), (55, 85), (56, 313), (57, 157), (58, 218), (59, 314), (60, 162), (61, 80), (62, 71), (63, 163), (64, 87), (65, 235), (66, 145), (67, 227), (68, 228), (69, 86), (70, 229), (71, 230), (72, 231), (73, 232), (74, 233), (75, 158), (76, 234), (77, 34), (78, 111), (79, 112), (80, 113), (81, 72), (82, 178), (83, 236), (84, 315), (85, 46), (86, 260), (87, 316), (88, 317), (89, 36), (90, 21), (91, 84), (92, 318), (93, 156), (94, 319), (95, 212), (96, 320), (97, 22), (98, 120), (99, 121), (100, 114), (101, 75), (102, 182), (103, 159), (104, 179), (105, 223), (106, 226), (107, 222), (108, 170), (109, 88), (110, 78), (111, 102), (112, 103), (113, 77), (114, 146), (115, 237), (116, 122), (117, 123), (118, 76), (119, 238), (120, 239), (121, 183), (122, 11), (123, 104), (124, 321), (125, 187), (126, 194), (127, 266), (128, 322), (129, 42), (130, 37), (131, 115), (132, 116), (133, 117), (134, 118), (135, 119), (136, 323), (137, 74), (138, 180), (139, 181), (140, 38), (141, 142), (142, 143), (143, 31), (144, 138), (145, 137), (146, 106), (147, 108), (148, 16), (149, 160), (150, 124), (151, 110), (152, 144), (153, 109), (154, 30), (155, 192), (156, 324), (158, 197), (159, 43), (160, 139), (161, 128), (162, 140), (163, 107), (164, 190), (165, 44), (166, 132), (167, 135), (168, 41), (169, 127), (170, 133), (171, 134), (172, 26), (173, 35), (174, 136), (175, 325), (176, 47), (178, 199), (179, 200), (180, 131), (181, 129), (182, 130), (183, 191), (184, 40), (185, 48), (186, 201), (187, 25), (188, 39), (189, 45), (212, 330), (1000000000000, 1000000091), (1000000000001, 1000000005), (1000000000004, 1000000000)]
def X: Cx := ⟨PO Nl, pM Tg, fun c => [30, 89, 104, 105, 107, 115, 116, 117, 120, 122, 123, 126, 128, 129, 130, 131, 139, 140, 144, 145, 146, 184, 217, 224, 225, 227, 228, 229, 230, 232, 233, 236, 237, 238, 239, 252, 268, 269, 270, 271, 272, 273, 274, 275, 276, 307, 308, 309, 311, 312].contains c, []⟩
theorem Ywt: Yc Tryz.prog X 129 rr := fK Tryz.func129
theorem Xxv: Yc Tryz.prog X 85 ru := fK Tryz.func85
theorem Xc0: Yc Tryz.prog X 89 rv := fK Tryz.func89
theorem Xb1: Yc Tryz.prog X 159 ry := fK Tryz.func159
theorem Xl7: Yc Tryz.prog X 176 rA := fK Tryz.func176
theorem Yzc: Yc Tryz.prog X 122 rB := fK Tryz.func122
theorem Xa5: Yc Tryz.prog X 39 rC := fK Tryz.func39
theorem Xev: Yc Tryz.prog X 90 rD := fK Tryz.func90
theorem Xvv: Yc Tryz.prog X 187 rE := fK Tryz.func187
theorem Wbu: Yc Tryz.prog X 154 nA := fK Tryz.func154
theorem Xtl: Yc Tryz.prog X 77 rF := fK Tryz.func77
theorem Wb6: Yc Tryz.prog X 130 rG := fK Tryz.func130
theorem Xbi: Yc Tryz.prog X 188 nB := fK Tryz.func188
theorem Xuk: Yc Tryz.prog X 189 nC := fK Tryz.func189
theorem Xio: Yc Tryz.prog X 148 rH := fK Tryz.func148
theorem Xfg: Yc Tryz.prog X 97 rI := fK Tryz.func97
theorem Xcg: Yc Tryz.prog X 172 rJ := fK Tryz.func172
theorem Xr9: Yc Tryz.prog X 14 rK := fK Tryz.func14
theorem Xki: Yc Tryz.prog X 143 rL := fK Tryz.func143
theorem Yvm: Yc Tryz.prog X 173 rM := fK Tryz.func173
theorem Xi5: Yc Tryz.prog X 140 rO := fK Tryz.func140
theorem Xhv: Yc Tryz.prog X 184 nD := fK Tryz.func184
theorem Xl9: Yc Tryz.prog X 168 rP := fK Tryz.func168
theorem Xfc: Yc Tryz.prog X 165 rQ := fK Tryz.func165
theorem Xf8: Yc Tryz.prog X 66 CW := fK Tryz.func66
theorem Xb8: Yc Tryz.prog X 32 CX := fK Tryz.func32
theorem Xka: Yc Tryz.prog X 81 r4 := fK Tryz.func81
theorem Xms: Yc Tryz.prog X 137 nP := fK Tryz.func137
theorem Yx7: Yc Tryz.prog X 101 nQ := fK Tryz.func101
theorem Wcx: Yc Tryz.prog X 118 r5 := fK Tryz.func118
theorem Xu6: Yc Tryz.prog X 113 r6 := fK Tryz.func113
theorem Xff: Yc Tryz.prog X 110 r7 := fK Tryz.func110
theorem Xfo: Yc Tryz.prog X 112 r8 := fK Tryz.func112
theorem Xkf: Yc Tryz.prog X 123 Eh := fK Tryz.func123
theorem Xxw: Yc Tryz.prog X 146 r9 := fK Tryz.func146
theorem Xww: Yc Tryz.prog X 163 Ek := fK Tryz.func163
theorem Xdp: Yc Tryz.prog X 147 nR := fK Tryz.func147
theorem Xa7: Yc Tryz.prog X 153 r_ := fK Tryz.func153
theorem Xck: Yc Tryz.prog X 151 sa := fK Tryz.func151
theorem Wa6: Yc Tryz.prog X 169 sb := fK Tryz.func169
theorem Wbj: Yc Tryz.prog X 161 Ah := fK Tryz.func161
theorem Xh1: Yc Tryz.prog X 181 Fs := fK Tryz.func181
theorem Xel: Yc Tryz.prog X 182 Eo := fK Tryz.func182
theorem Wbg: Yc Tryz.prog X 180 Fa := fK Tryz.func180
theorem Wcy: Yc Tryz.prog X 166 sd := fK Tryz.func166
theorem Wbb: Yc Tryz.prog X 170 nS := fK Tryz.func170
theorem Yzy: Yc Tryz.prog X 171 se := fK Tryz.func171
theorem Xup: Yc Tryz.prog X 167 sf := fK Tryz.func167
theorem Wd0: Yc Tryz.prog X 174 sg := fK Tryz.func174
theorem Ywx: Yc Tryz.prog X 41 tQ := fK Tryz.func41
theorem Xz8: Yc Tryz.prog X 75 tR := fK Tryz.func75
theorem Xb6: Yc Tryz.prog X 103 tS := fK Tryz.func103
theorem Xs2: Yc Tryz.prog X 82 Om := fK Tryz.func82
theorem Xol: Yc Tryz.prog X 104 tT := fK Tryz.func104
theorem Xa0: Yc Tryz.prog X 138 tU := fK Tryz.func138
theorem Wdg: Yc Tryz.prog X 102 tV := fK Tryz.func102
theorem Xm9: Yc Tryz.prog X 121 ot := fK Tryz.func121
theorem Xf0: Yc Tryz.prog X 164 tW := fK Tryz.func164
theorem Xg3: Yc Tryz.prog X 183 tX := fK Tryz.func183
theorem Yze: Yc Tryz.prog X 93 Od := fK Tryz.func93
theorem Yyd: Yc Tryz.prog X 57 oy := fK Tryz.func57
theorem Xvp: Yc Tryz.prog X 149 ud := fK Tryz.func149
theorem Xmh: Yc Tryz.prog X 139 oz := fK Tryz.func139
theorem Xwu: Yc Tryz.prog X 63 ui := fK Tryz.func63
theorem Xtf: Yc Tryz.prog X 108 uj := fK Tryz.func108
theorem Yx9: Yc Tryz.prog X 8 sN := fK Tryz.func8
theorem Xp5: Yc Tryz.prog X 40 sO := fK Tryz.func40
theorem Yxd: Yc Tryz.prog X 69 sP := fK Tryz.func69
theorem Xz5: Yc Tryz.prog X 64 sQ := fK Tryz.func64
theorem Xw5: Yc Tryz.prog X 109 sS := fK Tryz.func109
theorem Wdl: Yc Tryz.prog X 78 sT := fK Tryz.func78
theorem Wd3: Yc Tryz.prog X 79 sU := fK Tryz.func79
theorem Xyf: Yc Tryz.prog X 80 Iy := fK Tryz.func80
theorem Xwm: Yc Tryz.prog X 100 sV := fK Tryz.func100
theorem Xji: Yc Tryz.prog X 131 sW := fK Tryz.func131
theorem Wap: Yc Tryz.prog X 132 sX := fK Tryz.func132
theorem Wcm: Yc Tryz.prog X 135 sY := fK Tryz.func135
theorem Xpe: Yc Tryz.prog X 116 sZ := fK Tryz.func116
theorem Xzm: Yc Tryz.prog X 117 s4 := fK Tryz.func117
theorem Xnl: Yc Tryz.prog X 150 s6 := fK Tryz.func150
theorem Yyi: Yc Tryz.prog X 145 s7 := fK Tryz.func145
theorem Wch: Yc Tryz.prog X 144 s9 := fK Tryz.func144
theorem Xmi: Yc Tryz.prog X 160 s_ := fK Tryz.func160
theorem Xhf: Yc Tryz.prog X 42 ta := fK Tryz.func42
theorem Waq: Yc Tryz.prog X 152 tb := fK Tryz.func152
theorem Xym: Yc Tryz.prog X 11 uo := fK Tryz.func11
theorem Xmq: Yc Tryz.prog X 13 uq := fK Tryz.func13
theorem Yzp: Yc Tryz.prog X 17 ur := fK Tryz.func17
theorem Xoh: Yc Tryz.prog X 95 uu := fK Tryz.func95
theorem Yy5: Yc Tryz.prog X 24 uv := fK Tryz.func24
theorem Xof: Yc Tryz.prog X 10 uw := fK Tryz.func10
theorem Yyq: Yc Tryz.prog X 33 pe := fK Tryz.func33
theorem Yvn: Yc Tryz.prog X 34 ux := fK Tryz.func34
theorem Xmp: Yc Tryz.prog X 35 KW := fK Tryz.func35
theorem Xh3: Yc Tryz.prog X 58 uy := fK Tryz.func58
theorem Ywg: Yc Tryz.prog X 37 uz := fK Tryz.func37
theorem Wc8: Yc Tryz.prog X 38 uA := fK Tryz.func38
theorem Xvj: Yc Tryz.prog X 31 uB := fK Tryz.func31
theorem Wc2: Yc Tryz.prog X 107 uC := fK Tryz.func107
theorem Wc9: Yc Tryz.prog X 105 uD := fK Tryz.func105
theorem Xqm: Yc Tryz.prog X 44 uE := fK Tryz.func44
theorem Xlh: Yc Tryz.prog X 45 uF := fK Tryz.func45
theorem Xl8: Yc Tryz.prog X 106 uG := fK Tryz.func106
theorem Xe5: Yc Tryz.prog X 67 uH := fK Tryz.func67
theorem Xoi: Yc Tryz.prog X 68 uI := fK Tryz.func68
theorem Xb9: Yc Tryz.prog X 70 uJ := fK Tryz.func70
theorem Yxa: Yc Tryz.prog X 71 uK := fK Tryz.func71
theorem Xgx: Yc Tryz.prog X 72 uL := fK Tryz.func72
theorem Xtx: Yc Tryz.prog X 73 uM := fK Tryz.func73
theorem Yw4: Yc Tryz.prog X 74 uN := fK Tryz.func74
theorem Xo3: Yc Tryz.prog X 76 uO := fK Tryz.func76
theorem Wbd: Yc Tryz.prog X 65 uP := fK Tryz.func65
theorem Xec: Yc Tryz.prog X 83 uQ := fK Tryz.func83
theorem Xqw: Yc Tryz.prog X 115 uR := fK Tryz.func115
theorem Xx1: Yc Tryz.prog X 119 uS := fK Tryz.func119
theorem Xh5: Yc Tryz.prog X 120 uT := fK Tryz.func120
theorem Yvc: Yc Tryz.prog X 91 oa := fK Tryz.func91
theorem Wd2: Yc Tryz.prog X 55 Ij := fK Tryz.func55
theorem Xa6: Yc Tryz.prog X 133 Al := fK Tryz.func133
theorem Xud: Yc Tryz.prog X 134 oc := fK Tryz.func134
theorem Wak: Yc Tryz.prog X 98 Ef := fK Tryz.func98
theorem Xje: Yc Tryz.prog X 99 od := fK Tryz.func99
theorem Yxb: Yc Tryz.prog X 162 Fg := fK Tryz.func162
theorem Xr5: Yc Tryz.prog X 141 tv := fK Tryz.func141
theorem Wd9: Yc Tryz.prog X 142 oe := fK Tryz.func142
theorem Xqn: Yc Tryz.prog X 48 vq := fK Tryz.func48
theorem Yzr: Yc Tryz.prog X 87 vr := fK Tryz.func87
theorem Xqo: Yc Tryz.prog X 128 vt := fK Tryz.func128
theorem Xit: Yc Tryz.prog X 86 pv := fK Tryz.func86
theorem Xb5: Yc Tryz.prog X 127 Of := fK Tryz.func127
theorem Xc7: Yc Tryz.prog X 88 vu := fK Tryz.func88
theorem Yx6: Yc Tryz.prog X 49 En := fK Tryz.func49
theorem Xdq: Yc Tryz.prog X 50 Er := fK Tryz.func50
theorem Xi7: Yc Tryz.prog X 92 Ol := fK Tryz.func92
theorem Yy1: Yc Tryz.prog X 26 Lr := fK Tryz.func26
theorem Xrv: Yc Tryz.prog X 47 pC := fK Tryz.func47
theorem Xpy: Yc Tryz.prog X 51 pE := fK Tryz.func51
theorem Xoa: Yc Tryz.prog X 29 pB := fK Tryz.func29
theorem Xqb: Yc Tryz.prog X 59 Ay := fK Tryz.func59
theorem Yx0: Yc Tryz.prog X 12 Lf := fK Tryz.func12
theorem Xzd: Yc Tryz.prog X 52 vM := fK Tryz.func52
theorem Xfx: Yc Tryz.prog X 94 pF := fK Tryz.func94
theorem Xq0: Yc Tryz.prog X 96 vO := fK Tryz.func96
theorem Wd1: Yc Tryz.prog X 53 Fv := fK Tryz.func53
theorem Xbb: Yc Tryz.prog X 54 Aj := fK Tryz.func54
theorem Xgj: Yc Tryz.prog X 56 pG := fK Tryz.func56
theorem Xfs: Yc Tryz.prog X 27 vP := fK Tryz.func27
theorem Xyg: Yc Tryz.prog X 28 pH := fK Tryz.func28
theorem PQ: v8 X.T 58 := ⟨5, 2, 9, 56, 4, ⟨_, rfl, rfl, rfl⟩, ⟨_, rfl, rfl, rfl⟩, ⟨_, rfl, rfl, rfl⟩, ⟨_, rfl, rfl, rfl⟩, ⟨_, rfl, rfl, rfl⟩, ⟨_, rfl, rfl, rfl⟩⟩
theorem Y1: pN X.T 87 := ⟨9, 3, ⟨_, rfl, rfl, rfl⟩, ⟨_, rfl, rfl, rfl⟩, ⟨_, rfl, rfl, rfl⟩⟩
theorem Xok: v_ X.T 269 := ⟨5, 3, 3, 3, ⟨_, rfl, rfl, rfl⟩, ⟨_, rfl, rfl, rfl⟩, ⟨_, rfl, rfl, rfl⟩, ⟨_, rfl, rfl, rfl⟩, ⟨_, rfl, rfl, rfl⟩⟩
theorem Y2: Oi X.T 271 := ⟨3, 52, ⟨_, rfl, rfl, rfl⟩, ⟨_, rfl, rfl, rfl⟩, ⟨_, rfl, rfl, rfl⟩⟩
theorem Xrd: wa X.T 267 := ⟨5, 3, 3, 81, 87, ⟨_, rfl, rfl, rfl⟩, ⟨_, rfl, rfl, rfl⟩, ⟨_, rfl, rfl, rfl⟩, ⟨_, rfl, rfl, rfl⟩, ⟨_, rfl, rfl, rfl⟩, Y1⟩
theorem Xps: wc X.T 85 := ⟨9, 3, 3, 81, 82, 83, 83, 87, 269, 271, 271, ⟨_, rfl, rfl, rfl⟩, ⟨_, rfl, rfl, rfl⟩, ⟨_, rfl, rfl, rfl⟩, ⟨_, rfl, rfl, rfl⟩, ⟨_, rfl, rfl, rfl⟩, Y1, ⟨_, rfl, rfl, rfl⟩, Xok, ⟨_, rfl, rfl, rfl⟩, Y2, ⟨_, rfl, rfl, rfl⟩, Y2⟩
theorem Yyj: we X.T 26 := ⟨22, 23, 24, 267, 9, 85, ⟨_, rfl, rfl, rfl⟩, ⟨_, rfl, rfl, rfl⟩, Xrd, ⟨_, rfl, rfl, rfl⟩, ⟨_, rfl, rfl, rfl⟩, ⟨_, rfl, rfl, rfl⟩, Xps⟩
theorem Xqj: Y3 X.T 61 := ⟨3, 58, ⟨_, rfl, rfl, rfl⟩, ⟨_, rfl, rfl, rfl⟩, PQ⟩
theorem Wad: Y4 X.T 55 := ⟨3, 3, 52, 53, 61, ⟨_, rfl, rfl, rfl⟩, ⟨_, rfl, rfl, rfl⟩, ⟨_, rfl, rfl, rfl⟩, ⟨_, rfl, rfl, rfl⟩, ⟨_, rfl, rfl, rfl⟩, Xqj⟩
theorem Wdb: Y5 X.T 65 := ⟨52, 58, 52, ⟨_, rfl, rfl, rfl⟩, ⟨_, rfl, rfl, rfl⟩, PQ, ⟨_, rfl, rfl, rfl⟩⟩
theorem Wdr: Y6 X.T 63 := ⟨3, 3, 4, 58, ⟨_, rfl, rfl, rfl⟩, ⟨_, rfl, rfl, rfl⟩, ⟨_, rfl, rfl, rfl⟩, ⟨_, rfl, rfl, rfl⟩, PQ⟩
theorem Xqx: Y7 X.T 43 := ⟨5, 2, 39, 40, 41, 55, 63, 65, ⟨_, rfl, rfl, rfl⟩, ⟨_, rfl, rfl, rfl⟩, ⟨_, rfl, rfl, rfl⟩, ⟨_, rfl, rfl, rfl⟩, Wad, ⟨_, rfl, rfl, rfl⟩, Wdr, ⟨_, rfl, rfl, rfl⟩, Wdb⟩
theorem Wdt: Xpt X.T 29 := ⟨5, 3, 3, 27, 43, ⟨_, rfl, rfl, rfl⟩, ⟨_, rfl, rfl, rfl⟩, ⟨_, rfl, rfl, rfl⟩, ⟨_, rfl, rfl, rfl⟩, ⟨_, rfl, rfl, rfl⟩, Xqx⟩
end Go.Proofs.YtheacfnopahmjaaGreatDoor

namespace Go.AM
open Go
structure Has03(PG:Zb):Prop where
 f42:PG.fn 42=some rr
 f46:PG.fn 46=some ru
 f36:PG.fn 36=some rv
 f43:PG.fn 43=some ry
 f47:PG.fn 47=some rA
 f11:PG.fn 11=some rB
 f15:PG.fn 15=some rC
 f21:PG.fn 21=some rD
 f25:PG.fn 25=some rE
 f30:PG.fn 30=some nA
 f34:PG.fn 34=some rF
 f37:PG.fn 37=some rG
 f39:PG.fn 39=some nB
 f45:PG.fn 45=some nC
 f16:PG.fn 16=some rH
 f22:PG.fn 22=some rI
 f26:PG.fn 26=some rJ
 f29:PG.fn 29=some rK
 f31:PG.fn 31=some rL
 f35:PG.fn 35=some rM
 f38:PG.fn 38=some rO
 f40:PG.fn 40=some nD
 f41:PG.fn 41=some rP
 f44:PG.fn 44=some rQ
 f48:PG.fn 48=none
 o48 :∀(s:Zc) (c:UInt8),PG.orac 48 [.s s,.i .u8 (c.toNat:Int)]=some (.i .i64<|Lib.indexByte s c)
section
variable{PG:Zb}(H:Has03 PG)
include H
theorem c41(c:UInt8):Ze PG 41 [.i .u8 (c.toNat:Int)] (.s<|Ws c):=by
 have hc:=c.toNat_lt;have hq:(c.toNat:Int).tdiv 16=((c.toNat / 16:Nat):Int):=by rw[yN<|by omega];omega
 have hr:(c.toNat:Int).tmod 16=((c.toNat % 16:Nat):Int):=by rw[Int.tmod_eq_emod_of_nonneg<|by omega];omega
 have w1:IntKind.u8.wrap ((c.toNat / 16:Nat):Int)=((c.toNat / 16:Nat):Int):=Rp (by omega) (by omega);have w2:IntKind.u8.wrap (((c.toNat / 16:Nat):Int)+1)=((c.toNat / 16+1:Nat):Int):=by rw[Rp (by omega)<|by omega];omega
 have w3:IntKind.u8.wrap (((c.toNat % 16:Nat):Int)+1)=((c.toNat % 16+1:Nat):Int):=by rw[Rp (by omega)<|by omega];omega
 have t1:=rR (n:=c.toNat / 16) (by omega) rfl;have t2:=rR (n:=c.toNat % 16) (by omega) rfl
 obtain ⟨x,rfl,h⟩:=p41 H.f41 (c0:=(c.toNat:Int)) (K:=fun x=>x=Ws c) (by
  unfold CZ;simp only[hq,hr,w1,w2,w3,Kb,t1,t2,kB,kD,Wj,kF];refine⟨fun h=>⟨c,rfl,?_⟩,fun h=>⟨fun h2=>⟨c,rfl,?_⟩,fun h2=>⟨fun h3=>?_,fun h3=>⟨fun h4=>⟨fun h5=>⟨c,rfl,?_⟩,fun h5=>?_⟩,fun h4=>?_⟩⟩⟩⟩
  ·unfold Ws;rw[kC<|by omega]
  ·unfold Ws;rw[kC<|by omega]
  ·unfold Ws;rw[kA<|by omega,kC<|by omega]
  ·unfold Ws;rw[kA<|by omega,kA<|by omega,kA<|by omega]
  ·refine⟨by omega,by omega,by omega,by omega,by omega,by omega,by omega,by omega,?_⟩;unfold Ws;rw[kA<|by omega,kA<|by omega,kC<|by omega];rfl
  ·refine⟨by omega,by omega,by omega,by omega,by omega,by omega,by omega,by omega,?_⟩;unfold Ws;rw[kA<|by omega,kA<|by omega,kC<|by omega];rfl)
 exact h
theorem Ai{s:Zc}(hs:s.length<=10000000):Ze PG 31 [.s s] (.s<|quo s):=by
 obtain ⟨x,rfl,h⟩:=p31 H.f31 (s0:=s) (K:=fun x=>x=quo s) (by
  unfold C0;intro P hP;refine Uz (fun i=>34::Kd (s.take i)) s.length ?_ ?_
  ·apply hP;unfold rS C1;refine⟨fun h=>absurd h<|by omega,fun _=>⟨?_,?_⟩⟩
   ·have:=nE (s.take s.length);simp only[kQ]at this⊢;simp only[kB,kD,Wj];omega
   ·simp only[kQ,quo];rfl
  ·intro i hi ih;apply hP;unfold rS;refine⟨fun _=>⟨by omega,s[i],by rw[Kb,kH hi],Ws s[i],c41 H _,?_,?_⟩,fun h=>absurd (show(i:Int)<s.length by omega) h⟩
   ·have h1:=nE (s.take i);have h2:=rT s[i];simp only[kB,kW,Wj]at h1⊢;omega
   ·rw[Qu<|by omega];rw[UO hi]at ih;exact ih)
 exact h
theorem c30{s b:Zc}(hs:s.length<=10000000)(hb:b.length<=1000000000):PuA PG 30 (b.map Yx) [.s s] ((b++quo s).map Yx):=by
 refine Lm.to ?_
 have hp:=p30 H.f30 (b0:=b) (s1:=s) (K:=fun x=>x=b++quo s) (by
  unfold C2 C3;refine⟨⟨by simp only[kB,kD,Xk];omega,by simp only[kB,kD,Xk];omega⟩,fun P hP=>?_⟩;refine Uz (fun i=>b++34::Kd (s.take i)) s.length ?_ ?_
  ·apply hP;unfold rU C4;have h1:=nE (s.take s.length);simp only[kQ]at h1⊢;refine⟨fun h=>absurd h<|by omega,fun _=>⟨⟨?_,?_⟩,?_⟩⟩
   ·simp only[kF,kB,kD,Xk];omega
   ·simp only[kF,kB,kD,Xk];omega
   ·simp only[quo,jD,kY]
  ·intro i hi ih;apply hP;have h1:=nE (s.take i);have hc:=s[i].toNat_lt;rw[UO hi]at ih;rw[<- kY,<- jD]at ih;generalize hx:s[i]=c at ih hc
   have w1:nG .u8 (c.toNat:Int) 4=((c.toNat / 16:Nat):Int):=by
    show(c.toNat:Int).fdiv 16=_;rw[Int.fdiv_eq_ediv_of_nonneg _<|by omega];omega
   have w2:Ho .u8 (c.toNat:Int) 15=((c.toNat % 16:Nat):Int):=by
    unfold Ho
    have hx:(BitVec.ofInt IntKind.u8.bits (c.toNat:Int) &&& BitVec.ofInt IntKind.u8.bits 15).toNat=c.toNat % 16:=by
     show(BitVec.ofInt 8 (c.toNat:Int) &&& BitVec.ofInt 8 15).toNat=c.toNat % 16;rw[BitVec.toNat_and]
     have h1:(BitVec.ofInt 8 (c.toNat:Int)).toNat=c.toNat:=by
      simp
     rw[h1];exact Nat.and_two_pow_sub_one_eq_mod c.toNat 4
    rw[hx];exact Rp (by omega) (by omega)
   have fit :∀x:Zc,x.length<=4->Ju ((b++34::Kd (s.take i)).length+x.length) 1:=by
    intro x hx;simp only[kW]at h1;refine⟨?_,?_⟩<;>(simp only[kF,kB,Xk];omega)
   unfold rU Tw;rw[Qu<|by omega];refine⟨fun _=>⟨by omega,c,by rw[Kb,kH hi,hx],?_⟩,fun h=>absurd (show(i:Int)<s.length by omega) h⟩;simp only[w1,w2,Kb,Co<|show c.toNat / 16<16 by omega,Co<|show c.toNat % 16<16 by omega,Option.some.injEq,exists_eq_left'];unfold Ws at ih;refine⟨fun h2=>⟨fit _<|by simp,?_⟩,fun h2=>⟨fun h3=>⟨fit _<|by simp,?_⟩,fun h3=>⟨fun h4=>⟨fit _<|by simp,?_⟩,fun h4=>⟨fun h5=>⟨by omega,by omega,fit _<|by simp,?_⟩,fun h5=>⟨fun h6=>⟨by omega,by omega,fit _<|by simp,?_⟩,fun h6=>⟨fit _<|by simp,?_⟩⟩⟩⟩⟩⟩
   ·rwa [kC<|by omega]at ih
   ·rwa [kC<|by omega]at ih
   ·rwa [kA<|by omega,kC<|by omega]at ih
   ·rwa [kA<|by omega,kA<|by omega,kC<|by omega]at ih
   ·rwa [kA<|by omega,kA<|by omega,kC<|by omega]at ih
   ·rwa [kA<|by omega,kA<|by omega,kA<|by omega] at ih)
 intro d st o ha;obtain⟨o',aA,aG,⟨x,rfl,rfl⟩,h1,h2⟩:=hp d st o ha;exact⟨o',aA,_,rfl,h1,h2⟩
theorem c11(s:Zc):Ze PG 11 [.s s] (.tup [.s (Sj s).1,.i .i64 (Sj s).2]):=by
 obtain ⟨x,y,⟨rfl,rfl⟩,h⟩:=p11 H.f11 (s0:=s) (K:=fun x y=>x=(Sj s).1/\y=(Sj s).2) (by
  unfold C5 Sj;refine⟨fun h=>?_,fun h=>⟨_,c30 H (b:=[]) (s:=s) (by omega)<|by simp,?_⟩⟩
  ·rw[kC<|by omega];exact⟨rfl,rfl⟩
  ·rw [kA<|by omega];exact ⟨rfl,rfl⟩)
 exact h
theorem c34{n b:Nat}(hb:2<=b)(dC:b<=16)(hn:n<18446744073709551616):Ze PG 34 [.i .u64 (n:Int),.i .u64 (b:Int)] (.s<|Jj b n):=by
 obtain ⟨x,rfl,h⟩:=p34 H.f34 (n0:=(n:Int)) (ah:=(b:Int)) (K:=fun x=>x=Jj b n) (by
  unfold C6;intro P hP
  have key :∀f n',n'<b ^ f->0<f->n'<18446744073709551616->∀a:Nat,f<=a->a<=64->∀m:Zc,m.length=64->(ds b f n'++m.drop a=Jj b n)->P (n':Int) (a:Int) m:=by
   intro f
   induction f with
   |zero=>intro _ _ h;exact absurd h (zH _)
   |succ f ih=>
    intro n' hf _ mD a ha iX m hm hd;apply hP;have e1:(n':Int).tmod (b:Int)=((n' % b:Nat):Int):=by rw[Int.tmod_eq_emod_of_nonneg<|by omega];omega
    have e2:(n':Int).tdiv (b:Int)=((n' / b:Nat):Int):=by rw[yN<|by omega];omega
    have e3:IntKind.i64.wrap ((a:Int)-1)=((a-1:Nat):Int):=by rw[Yq (by omega)<|by omega];omega
    have hq:n' / b<=n':=Nat.div_le_self _ _;have hr:n' % b<b:=Nat.mod_lt _ (by omega);have e4:IntKind.u64.wrap ((n' / b:Nat):Int)=((n' / b:Nat):Int):=Sf (by omega)
    have hZ :∀c:UInt8,(m.set (a-1) c).drop (a-1)=c::m.drop a:=by
     intro c;rw[zE (by simp;omega),List.getElem_set_self,List.drop_set_of_lt<|by omega,show a-1+1=a by omega]
    unfold C7;simp only[e1,e2,e3,e4,Kb,hZ];refine⟨by omega,by omega,Kn<|n' % b,Co<|by omega,by omega,by omega,by omega,by omega,fun h=>⟨by simp[hm],by omega,by omega,?_⟩,fun h=>?_⟩
    ·rw[<- hd];unfold ds;have hz:n' / b=0:=by omega
     have aK:n'<b:=by
      rcases jF n' b with h|h
      ·exact h
      ·have:=Nat.div_pos h (by omega);omega
     rw[kC aK,Nat.mod_eq_of_lt aK];rfl
    ·have hz:n' / b≠0:=by omega
     have aK:¬ n'<b:=fun h=>hz (Nat.div_eq_of_lt h)
     have h1:n' / b<b ^ f:=by
      rw[Nat.div_lt_iff_lt_mul<|by omega];rw[Nat.pow_succ]at hf;exact hf
     have h2:0<f:=by
      rcases zX f with rfl|h
      ·simp at h1;omega
      ·exact h
     refine ih (n' / b) h1 h2 (by omega) (a-1) (by omega) (by omega) _ (by simp[hm]) ?_;rw[hZ,<- hd]
     conv=>rhs;unfold ds
     rw[kA aK,jD];rfl
  refine key 64 n ?_ (by omega) hn 64 (by omega) (by omega) _ (by simp) ?_
  ·calc n<2 ^ 64:=hn
    _<=b ^ 64:=Nat.pow_le_pow_left hb 64
  ·simp [Jj])
 exact h
theorem c35{n b:Nat}(hb:2<=b)(dC:b<=16)(hn:n<18446744073709551616):Ze PG 35 [.i .u64 (n:Int),.i .u64 (b:Int)] (.s<|Jj b n):=by
 obtain ⟨x,rfl,h⟩:=p35 H.f35 (n0:=(n:Int)) (ah:=(b:Int)) (K:=fun x=>x=Jj b n) (by
  unfold C8;intro P hP
  have key :∀f n',n'<b ^ f->0<f->n'<18446744073709551616->f<=64->∀s:Zc,s.length+f<=64->(ds b f n'++s=Jj b n)->P (n':Int) s:=by
   intro f
   induction f with
   |zero=>intro _ _ h;exact absurd h (zH _)
   |succ f ih=>
    intro n' hf _ mD aAk s hs hd;apply hP;have e1:(n':Int).tmod (b:Int)=((n' % b:Nat):Int):=by rw[Int.tmod_eq_emod_of_nonneg<|by omega];omega
    have e2:(n':Int).tdiv (b:Int)=((n' / b:Nat):Int):=by rw[yN<|by omega];omega
    have hq:n' / b<=n':=Nat.div_le_self _ _;have hr:n' % b<b:=Nat.mod_lt _ (by omega);have e4:IntKind.u64.wrap ((n' / b:Nat):Int)=((n' / b:Nat):Int):=Sf (by omega);have e5:IntKind.u64.wrap (((n' % b:Nat):Int)+1)=((n' % b+1:Nat):Int):=by rw[Mh (by omega)<|by omega];omega
    unfold C9;refine⟨fun h=>?_,fun h=>?_⟩
    ·simp only[e1,e2,e4,e5,Kb,rR (show n' % b<16 by omega) rfl,UP];have aK:¬ n'<b:=by omega
     refine⟨by omega,by omega,by omega,by omega,by omega,?_,by omega,?_⟩
     ·simp only[kB,kD,Wj];omega
     have hz:n' / b≠0:=by
      have:=Nat.div_pos (show b<=n' by omega) (by omega);omega
     have h1:n' / b<b ^ f:=by
      rw[Nat.div_lt_iff_lt_mul<|by omega];rw[Nat.pow_succ]at hf;exact hf
     have h2:0<f:=by
      rcases zX f with rfl|h
      ·simp at h1;omega
      ·exact h
     refine ih (n' / b) h1 h2 (by omega) (by omega) _ ?_ ?_
     ·simp only[kF,kB,kD];omega
     ·rw[<- hd]
      conv=>rhs;unfold ds
      rw[kA aK,jD]
    ·have aK:n'<b:=by omega
     have e6:IntKind.u64.wrap ((n':Int)+1)=((n'+1:Nat):Int):=by rw[Mh (by omega)<|by omega];omega
     unfold C_;simp only[e6,Kb,rR (show n'<16 by omega) rfl,UP];refine⟨by omega,by omega,by omega,?_,?_⟩
     ·simp only[kB,kD,Wj];omega
     ·rw[<- hd];unfold ds;rw[kC aK]
  refine key 64 n ?_ (by omega) hn (by omega) _ (by simp) ?_
  ·calc n<2 ^ 64:=hn
    _<=b ^ 64:=Nat.pow_le_pow_left hb 64
  ·simp [Jj])
 exact h
theorem c15{n:Int}(h1:-9223372036854775808<=n)(h2:n<9223372036854775808):Ze PG 15 [.i .i64 n] (.s<|Yn n):=by
 obtain ⟨x,rfl,h⟩:=p15 H.f15 (n0:=n) (K:=fun x=>x=Yn n) (by
  unfold DA;refine⟨fun h=>?_,fun h=>?_⟩
  ·have e:IntKind.u64.wrap (0-(IntKind.u64.wrap n))=(((-n).toNat:Nat):Int):=by rw[yO,yO];omega
   rw[e];refine⟨_,c34 H (b:=10) (by omega) (by omega)<|by omega,?_,?_⟩
   ·have:=Lj 10 64 (-n).toNat;simp only[Jj,kB,kD,Wj];omega
   ·unfold Yn;rw[kC h];rfl
  ·have e:IntKind.u64.wrap n=((n.toNat:Nat):Int):=by rw[yO];omega
   rw[e];refine⟨_,c34 H (b:=10) (by omega) (by omega)<|by omega,?_⟩;unfold Yn;rw [kA h])
 exact h
theorem c16{n:Int}(h1:-9223372036854775808<=n)(h2:n<9223372036854775808):Ze PG 16 [.i .i64 n] (.s<|Yn n):=by
 obtain ⟨x,rfl,h⟩:=p16 H.f16 (n0:=n) (K:=fun x=>x=Yn n) (by
  unfold DB;refine⟨fun h=>?_,fun h=>?_⟩
  ·have e:IntKind.u64.wrap n=((n.toNat:Nat):Int):=by rw[yO];omega
   rw[e];refine⟨_,c35 H (b:=10) (by omega) (by omega)<|by omega,?_⟩;unfold Yn;rw[kA<|by omega]
  ·have e:IntKind.u64.wrap ((IntKind.u64.wrap<|IntKind.i64.wrap<|0-(IntKind.i64.wrap<|n+1))+1)=(((-n).toNat:Nat):Int):=by
    rw[Yq (z:=n+1) (by omega)<|by omega,Yq (by omega)<|by omega,Mh (z:=0-(n+1)) (by omega)<|by omega,Mh (by omega)<|by omega];omega
   rw[e];refine⟨_,c35 H (b:=10) (by omega) (by omega)<|by omega,?_,?_⟩
   ·have:=Lj 10 64 (-n).toNat;simp only[Jj,kB,kD,Wj];omega
   ·unfold Yn;rw [kC<|by omega];rfl)
 exact h
end
end Go.AM
