/- Parts of the proof: U38a, U38b, U38c, U38d, U38e. -/
import Derived.Test.YtheacfnopahmjaaGreatDoorG2
import Derived.Test.YtheacfnopahmjaaGreatDoorG1
set_option linter.all false
namespace Go.AM
open Go
set_option maxRecDepth 4000
set_option maxHeartbeats 2000000
attribute [local irreducible] Decidable.decide W WO Ve Vd
variable{PG:Zb}{d:Nat}{Q:Q0}{U:Sl}{st:St}{kp:Zt}{vp:Nat}{Zp:St}
abbrev H71(Q:Q0)(K:Bool->Prop):Prop:=∀(U:Sl)(st:St)(aa:Bool),U 2=.b aa->K aa->Q .ret U st
section
variable{K:Bool->Prop}(hQ:H71 Q K)
end
abbrev b72:AC:= (sR 0 [oY 1 5 0,oC 2<|.s [],oI 3 0]<|.seq (sR 1 [oK 7 5 1,oQ 8 76 [7],oM 4 8]<|sR 2 [oM 9 4,oV 10 .neq 9 0]<|cD 10 (sR 3 [oM 11 4,oC 2<|.s [],oM 3 11] .ret) .skip)<|sR 1000004 [oO 5<|.alloc [.np,.sl .full []]]<|.seq (sR 5 [oK 12 5 1,oP 13 104 [5,12],oM 6 13]<|sR 6 [oM 14 6,oV 15 .neq 14 0]<|cD 15 (sR 7 [oM 16 6,oC 2<|.s [],oM 3 16] .ret) .skip)<|sR 8 [oP 17 105 [5],oM 2 17,oI 3 0] .ret)
def r4:AF:= { nt:=18,res:=[.tmp 2,.tmp 3],body:=b72 }
section
variable(PG:Zb)(K:BS->Int->Prop)
def E9(v0:Za):Prop:=
  ∃c,Ze PG 76 [v0.av] (.i .i64 c)/\(c≠0->K ([]:BS) c)/\(¬(c≠0)->∃e,∃j:BS,Xc PG 104 (Bl ([]:BS)) [v0.av] (fun r=>r=.i .i64 e) ((Bl j))/\(e≠0->K ([]:BS) e)/\(¬(e≠0)->∃k,Xc PG 105 (Bl j) [] (fun r=>r=.s k) (fun _ _ _ _=>True)/\K k 0))
end
section
variable{K:BS->Int->Prop}(hQ:H2 AV.s (AV.i .i64) 2 3 Q K)
variable{v0:Za}
variable(H0:U 0=v0.av)
def Xkm(h:E9 PG K v0):W PG d b72 U st Q:=
 q_ J<|Jw H0 J<|m_<|m_<|e_<|Zl<|q_ J<|l_ J Zj J J<|h.elim fun _ e=>Yh (Xu J J) e.1<|m_<|e_<|q_ J<|m_<|b_ J J Vr<|e_<|Yi J (fun j=>q_ J<|m_<|m_<|m_<|Zu<|hQ J J<|e.2.1 j)<|fun j=>Ya<|Zl<|W.regB J<|fun _ _ _ q r=>Zl<|q_ J<|l_ J ((r (d,0)<|Wx J).trans Zj) J J<|(e.2.2 j).elim fun _ o=>o.elim fun _ c=>Wy (Ye J<|Ye J Yw) c.1 (kG d) q<|fun _ p _=>m_<|e_<|q_ J<|m_<|b_ J J Vr<|e_<|Yi J (fun i=>q_ J<|m_<|m_<|m_<|Zu<|hQ J J<|c.2.1 i)<|fun i=>Ya<|q_ J<|(c.2.2 i).elim fun _ k=>Wy (Ye J Yw) k.1 (kG d) p<|fun _ _ _=>m_<|m_<|Zu<|hQ J J k.2
def p72(hf:PG.fn 72=some r4)(h:E9 PG K v0):∃aa:BS,∃ae:Int,K aa ae/\Ze PG 72 [v0.av] (.tup [.s aa,.i .i64 ae]):=
 P2 hf J<|Xkm (h2 J fun _ _=>J) J h
end
abbrev H73(Q:Q0)(K:BS->Int->Prop):Prop:=∀(U:Sl)(st:St)(aa:BS)(ae:Int),U 2=.s aa->U 3=.i .i64 ae->K aa ae->Q .ret U st
section
variable{K:BS->Int->Prop}(hQ:H73 Q K)
end
abbrev b76:AC:= (sR 0 [oY 1 5 0,oI 2 0]<|.seq (sR 1 [oK 6 5 1,oO 7<|.call false 109 [(.t 6),(.c<|.i .i64 130)],oM 5 7,oE 8 0 5,oE 9 1 5,oM 3 8,oM 4 9]<|sR 2 [oM 10 4,oZ 11 10]<|cD 11 (sR 3 [oI 2 8] .ret) .skip)<|sR 4 [oI 2 0] .ret)
def r5:AF:= { nt:=12,res:=[.tmp 2],body:=b76 }
section
variable(PG:Zb)(K:Int->Prop)
def ET(v0:Za):Prop:=
  ∃e c,Ze PG 109 [v0.av,.i .i64 130] (.tup [.i .i64 e,.b c])/\((!c)=true->K 8)/\((!c)=false->K 0)
end
section
variable{K:Int->Prop}(hQ:H1 (AV.i .i64) 2 Q K)
variable{v0:Za}
variable(H0:U 0=v0.av)
include hQ H0 in
theorem Xv9(h:ET PG K v0):W PG d b76 U st Q:=
 au trivial
def p76(hf:PG.fn 76=some r5)(h:ET PG K v0):∃aa:Int,K aa/\Ze PG 76 [v0.av] (.i .i64 aa):=
 P1 hf J<|Xv9 (h1 J fun _=>J) J h
end
abbrev b77:AC:= (sR 0 [oY 1 5 0,oI 2 0]<|.seq (sR 1 [oK 3 5 1,oO 4<|.call false 110 [(.t 3),(.c<|.i .i64 130)],oZ 5 4,oM 6 5,gF 6<|oK 7 5 1,gF 6<|oQ 8 103 [7],gF 6<|oV 9 .gtr 8 5000,oR 10 6 9]<|cD 10 (sR 2 [oI 2 8] .ret) .skip)<|sR 3 [oI 2 0] .ret)
def r6:AF:= { nt:=11,res:=[.tmp 2],body:=b77 }
section
variable(PG:Zb)(K:Int->Prop)
def EU(v0:Za):Prop:=
  ∃e,Ze PG 110 [v0.av,.i .i64 130] (.b e)/\((!e)=true->K 8)/\((!e)=false->∃c,Ze PG 103 [v0.av] (.i .i64 c)/\(c>5000->K 8)/\(¬(c>5000)->K 0))
end
section
variable{K:Int->Prop}(hQ:H1 (AV.i .i64) 2 Q K)
variable{v0:Za}
variable(H0:U 0=v0.av)
include hQ H0 in
theorem Xj1(h:EU PG K v0):W PG d b77 U st Q:=
 au trivial
def p77(hf:PG.fn 77=some r6)(h:EU PG K v0):∃aa:Int,K aa/\Ze PG 77 [v0.av] (.i .i64 aa):=
 P1 hf J<|Xj1 (h1 J fun _=>J) J h
end
abbrev Pb(Q:Q0)(K:Bool->Prop):Prop:=∀(U:Sl)(st:St)(aa:Bool),U 4=.b aa->K aa->Q .ret U st
section
variable{K:Bool->Prop}(hQ:Pb Q K)
end
abbrev wS:AC:= (.seq (sR 3 [oM 5 4,oF 6 3 1,oL 7 6,oJ 8 7,oT 9 .lss 5 8,oM 10 9,gT 10<|oM 11 3,gT 10<|oV 12 .leq 11 5000,oA 13 10 12]<|cD 13 .skip<|.exit 0)<|.seq (.block 1<|.reg 5 [oM 16 3,oF 17 3 1,oL 18 17,oM 19 4,oX 20 5 18 19,oK 21 5 20,oQ 22 103 [21],oT 23 .add 16 22,oM 3 23])<|.reg 4 [oM 14 4,oV 15 .add 14 1,oM 4 15])
abbrev wT:AC:= (sR 6 [oM 24 3,oM 2 24] .ret)
abbrev Yuw:AC:= (sR 0 [oY 1 5 0,oI 2 0]<|sR 1 [oI 3 1]<|.seq (sR 2 [oI 4 0]<|.block 0<|.loop wS) wT)
def r8:AF:= { nt:=25,res:=[.tmp 2],body:=Yuw }
abbrev Yf6(PG:Zb)(d:Nat)(Q:Q0)(n3 i4:Int)(m0:Za):Prop:=
  ∀(U:Sl)(st:St)(v0:Nat),U 1=.p (d,0) v0 0->U 3=.i .i64 n3->U 4=.i .i64 i4->lk st.bx (d,0)=some (v0,Za.cs m0)->W PG d (.loop wS) U st (Zs 0 (Zk PG d wT Q))
def Oy(PG:Zb)(K:Int->Prop)(n3:Int):Prop:=
  K n3
section
variable(PG:Zb)(K:Int->Prop)
def sh(P0:Int->Int->Za->Prop)(n3 i4:Int)(m0:Za):Prop:=
  (i4<(m0.list.length:Int)->(n3<=5000->0<=i4/\∃e:Za,m0.list[(i4).toNat]?=some e/\∃c,Ze PG 103 [e.av] (.i .i64 c)/\P0 (IntKind.i64.wrap (n3+c)) (IntKind.i64.wrap (i4+1)) m0)/\(¬(n3<=5000)->Oy PG K n3))/\(¬(i4<(m0.list.length:Int))->Oy PG K n3)
def EH(v0:Za):Prop:=
  ∀P0:Int->Int->Za->Prop,(∀(n3 i4:Int)(m0:Za),sh PG K P0 n3 i4 m0->P0 n3 i4 m0)->P0 1 0 v0
end
section
variable{K:Int->Prop}(hQ:H1 (AV.i .i64) 2 Q K)
variable{n3 i4:Int}{m0:Za}{P0:Int->Int->Za->Prop}{v0:Nat}
variable(aD :∀(n3 i4:Int)(m0:Za),P0 n3 i4 m0->Yf6 PG d Q n3 i4 m0)(H1:U 1=.p (d,0) v0 0)(H3:U 3=.i .i64 n3)(H4:U 4=.i .i64 i4)(B0:lk st.bx (d,0)=some (v0,Za.cs m0))
include hQ H3 in
theorem Wbx(h:Oy PG K n3):W PG d wT U st Q:=
 au trivial
include hQ aD H1 H3 H4 B0 in
theorem Xvb(h:sh PG K P0 n3 i4 m0):W PG d wS U st (Zk PG d (.loop wS) (Zs 0 (Zk PG d wT Q))):=
 au @Wbx
def Xyt{v0:Za}(H0:U 0=v0.av)(h:EH PG K v0):W PG d Yuw U st Q:=
 q_ J<|Jw H0 J<|m_<|e_<|q_ J<|m_<|e_<|Zl<|q_ J<|m_<|e_<|Yg<|h (Yf6 PG d Q ) (fun _ _ _ hb _ _ _ H1 H3 H4 B0=>W.loop<|Xvb hQ (fun _ _ _ x=>x) H1 H3 H4 B0 hb) _ _ _ J J J Zj
def Xcq(hf:PG.fn 103=some r8){v0:Za}(h:EH PG K v0):∃aa:Int,K aa/\Ze PG 103 [v0.av] (.i .i64 aa):=
 P1 hf J<|Xyt (h1 J fun _=>J) J h
end
def Yuv:List AI:=[oV 37 .add 22 1,oM 22 37]
abbrev Yn4:AC:= (sR 8 [oM 31 0,oK 32 5 9,oP 33 104 [31,32],oM 10 33]<|sR 9 [oM 34 10,oV 35 .neq 34 0]<|cD 35 (sR 10 [oM 36 10,oM 4 36] .ret) .skip)
abbrev p_:AC:= (sR 4 [oT 23 .lss 22 21]<|.seq (cD 23 .skip<|.exit 1)<|.seq (.block 2<|sR 5 [oM 24 22,oX 25 5 20 22,oK 26 5 25,oO 9<|.alloc aX,oM 8 24,oS 5 9 26]<|.seq (sR 6 [oM 27 8,oV 28 .gtr 27 0]<|cD 28 (.reg 7 [oM 29 0,oO 30<|.call true 126 [(.t 29),(.c<|.s [44,32])]]) .skip) Yn4)<|.reg 11 Yuv)
abbrev Ic:AC:= (.reg 12 [oM 38 0,oM 39 5,oO 40<|.slS (.t 39) (some<|.c<|.i .i64 1) none,oP 41 126 [38,40]])
abbrev Yro:AC:= (cD 82 (.reg 24 [oM 90 0,oO 91<|.call true 126 [(.t 90),(.c<|.s [38,46,46,46])]])<|sR 25 [oF 93 0 3,oL 94 93,oW 95 .eql 94 4,oM 96 95,gT 96<|oF 97 3 3,gT 96<|oL 98 97,gT 96<|oJ 99 98,gT 96<|oV 100 .eql 99 0,oA 101 96 100,oM 92 101]<|cD 92 (.reg 26 [oM 102 0,oO 103<|.call true 126 [(.t 102),(.c<|.s [110,105,108])]])<|sR 27 [oF 105 0 3,oL 106 105,oW 107 .eql 106 4,oM 104 107]<|cD 104 (sR 28 [oM 108 0,oO 109<|.call true 126 [(.t 108),(.c<|.s [38])]]<|sR 29 [oM 110 0,oF 111 3 3,oL 112 111,oO 113<|.iaL 5 (.t 112)<|.c<|.i .i64 0,oK 114 5 113,oP 115 104 [110,114],oM 4 115] .ret)<|sR 30 [oF 117 4 3,oL 118 117,oM 116 118]<|cD 116 (.reg 31 [oM 119 0,oO 120<|.call true 126 [(.t 119),(.c<|.s [60,46,46,46,62])]])<|sR 2 [oM 15 0,oM 16 5,oO 17<|.slS (.t 16) none<|some<|.c<|.i .i64 1,oP 18 126 [15,17]]<|.seq (sR 3 [oF 19 3 3,oL 20 19,oJ 21 20,oI 22 0]<|.block 1<|.loop p_) Ic)
abbrev Yq5:AC:= (cD 68 (sR 20 [oF 73 2 3,oL 74 73,oQ 75 11 [74],oM 72 75,oE 76 0 72,oE 77 1 72,oM 6 76,oM 7 77]<|sR 21 [oM 78 0,oM 79 6,oP 80 126 [78,79]]<|sR 22 [oM 81 7,oM 4 81] .ret)<|sR 23 [oF 83 0 3,oL 84 83,oW 85 .eql 84 4,oM 86 85,gT 86<|oF 87 4 3,gT 86<|oL 88 87,oA 89 86 88,oM 82 89] Yro)
abbrev Yjd:AC:= (cD 59 (.reg 18 [oM 63 0,oF 64 1 3,oL 65 64,oQ 66 15 [65],oP 67 126 [63,66]])<|sR 19 [oF 69 0 3,oL 70 69,oW 71 .eql 70 3,oM 68 71] Yq5)
abbrev Ykp:AC:= (cD 53 (.reg 16 [oM 57 0,oO 58<|.call true 126 [(.t 57),(.c<|.s pU)]])<|sR 17 [oF 60 0 3,oL 61 60,oW 62 .eql 61 2,oM 59 62] Yjd)
abbrev Yp2:AC:= (cD 42 (.reg 14 [oM 51 0,oO 52<|.call true 126 [(.t 51),(.c<|.s pV)]])<|sR 15 [oF 54 0 3,oL 55 54,oW 56 .eql 55 1,oM 53 56] Ykp)
abbrev Mo:AC:= (sR 32 [oI 4 0] .ret)
abbrev Yfa:AC:= (.seq (.block 0<|sR 13 [oF 43 0 3,oL 44 43,oW 45 .eql 44 1,oM 46 45,gT 46<|oF 47 1 3,gT 46<|oL 48 47,gT 46<|oV 49 .eql 48 1,oA 50 46 49,oM 42 50] Yp2) Mo)
abbrev Yg8:AC:= (sR 1 [oO 11<|.build [zs,zs,zs,zs,zs,zs,zs,zs] [(5,1,(.c<|.s [123,125])),(6,1,(.c<|.s [91,93])),(7,1,(.c<|.s [60,62]))],oF 12 0 3,oL 13 12,oO 14<|.ixA 8 1 false (.t 11)<|.t 13,oM 5 14] Yfa)
abbrev Ynd:AC:= (sR 0 [oY 3 5 1,oI 4 0] Yg8)
def Eh:AF:= { nt:=121,res:=[.tmp 4],body:=Ynd }
abbrev Yvk(d:Nat)(Zp:St)(kp:Zt)(vp:Nat)(Q:Q0)(K:Int->BS->Prop):Prop:=∀(U:Sl)(st:St)(aa:Int)(b_:BS),U 4=.i .i64 aa->Bl b_ st.bx st.ow kp vp->Fr d kp Zp.bx Zp.ow st.bx st.ow->K aa b_->Q .ret U st
def Mf(PG:Zb)(K:Int->BS->Prop)(mP:BS):Prop:=
  K 0 mP
abbrev QI(PG:Zb)(d:Nat)(Q:Q0)(Zp:St)(kp:Zt)(vp:Nat)(ci:BS)(t20:List Za)(t21 t22:Int)(mP:BS):Prop:=
  ∀(U:Sl)(st:St)(iy:Zr),U 0=.p kp vp 0->U 5=.s ci->U 20=.sl iy (List.map Za.row t20)->U 21=.i .i64 t21->U 22=.i .i64 t22->Bl mP st.bx st.ow kp vp->Fr d kp Zp.bx Zp.ow st.bx st.ow->W PG d (.loop p_) U st (Zs 1 (Zk PG d Ic (Zs 0 (Zk PG d Mo Q))))
section
variable(PG:Zb)(K:Int->BS->Prop)
def sw(P0:Int->BS->Prop)(ci:BS)(t20:List Za)(t21 t22:Int)(jm:Za)(mP:BS):Prop:=
  ∃c,∃e:BS,Xc PG 104 (Bl mP) [jm.av] (fun r=>r=.i .i64 c) ((Bl e))/\(c≠0->K c e)/\(¬(c≠0)->P0 (IntKind.i64.wrap (t22+1)) e)
def E6(ci mP:BS):Prop:=
  1<=ci.length/\∃e,∃c:BS,Xc PG 126 (Bl mP) [.s (ci.drop 1)] (fun r=>r=.tup [.i .i64 e,.ni]) ((Bl c))/\Mf PG K c
def Fw(P0:Int->BS->Prop)(ci:BS)(t20:List Za)(t21 t22:Int)(mP:BS):Prop:=
  (t22<t21->0<=t22/\∃c,t20[(t22).toNat]?=some c/\(t22>0->∃j,∃e:BS,Xc PG 126 (Bl mP) [.s ([44,32]:BS)] (fun r=>r=.tup [.i .i64 j,.ni]) ((Bl e))/\sw PG K P0 ci t20 t21 t22 c e)/\(¬(t22>0)->sw PG K P0 ci t20 t21 t22 c mP))/\(¬(t22<t21)->E6 PG K ci mP)
def Pl(ci:BS)(t82:Bool)(m0:Za)(mP:BS):Prop:=
  (t82=true->∃e,∃c:BS,Xc PG 126 (Bl mP) [.s ([38,46,46,46]:BS)] (fun r=>r=.tup [.i .i64 e,.ni]) ((Bl c))/\Mf PG K c)/\(t82=false->(m0.kind=4->((m0.list.length:Int)=0->∃a7,∃w:BS,Xc PG 126 (Bl mP) [.s ([110,105,108]:BS)] (fun r=>r=.tup [.i .i64 a7,.ni]) ((Bl w))/\Mf PG K w)/\(¬((m0.list.length:Int)=0)->(m0.kind=4->∃a3,∃v:BS,Xc PG 126 (Bl mP) [.s ([38]:BS)] (fun r=>r=.tup [.i .i64 a3,.ni]) ((Bl v))/\∃a1:Za,m0.list[0]?=some a1/\∃p,∃u:BS,Xc PG 104 (Bl v) [a1.av] (fun r=>r=.i .i64 p) ((Bl u))/\K p u)/\(¬(m0.kind=4)->(m0.cut=true->∃a2,∃j:BS,Xc PG 126 (Bl mP) [.s ([60,46,46,46,62]:BS)] (fun r=>r=.tup [.i .i64 a2,.ni]) ((Bl j))/\Mf PG K j)/\(m0.cut=false->1<=ci.length/\∃a5,∃x:BS,Xc PG 126 (Bl mP) [.s (ci.take 1)] (fun r=>r=.tup [.i .i64 a5,.ni]) ((Bl x))/\∀P0:Int->BS->Prop,(∀(t22:Int)(mP:BS),Fw PG K P0 ci m0.list (m0.list.length:Int) t22 mP->P0 t22 mP)->P0 0 x))))/\(¬(m0.kind=4)->(m0.kind=4->∃a8,∃a0:BS,Xc PG 126 (Bl mP) [.s ([38]:BS)] (fun r=>r=.tup [.i .i64 a8,.ni]) ((Bl a0))/\∃z:Za,m0.list[0]?=some z/\∃k,∃o:BS,Xc PG 104 (Bl a0) [z.av] (fun r=>r=.i .i64 k) ((Bl o))/\K k o)/\(¬(m0.kind=4)->(m0.cut=true->∃a6,∃y:BS,Xc PG 126 (Bl mP) [.s ([60,46,46,46,62]:BS)] (fun r=>r=.tup [.i .i64 a6,.ni]) ((Bl y))/\Mf PG K y)/\(m0.cut=false->1<=ci.length/\∃a4,∃q:BS,Xc PG 126 (Bl mP) [.s (ci.take 1)] (fun r=>r=.tup [.i .i64 a4,.ni]) ((Bl q))/\∀P0:Int->BS->Prop,(∀(t22:Int)(mP:BS),Fw PG K P0 ci m0.list (m0.list.length:Int) t22 mP->P0 t22 mP)->P0 0 q))))
def Ce(ci:BS)(t68:Bool)(m0:Za)(mP:BS):Prop:=
  (t68=true->∃j e,Ze PG 11 [.s m0.text] (.tup [.s j,.i .i64 e])/\∃k,∃c:BS,Xc PG 126 (Bl mP) [.s j] (fun r=>r=.tup [.i .i64 k,.ni]) ((Bl c))/\K e c)/\(t68=false->(m0.kind=4->Pl PG K ci m0.cut m0 mP)/\(¬(m0.kind=4)->Pl PG K ci false m0 mP))
def Sx(ci:BS)(t59:Bool)(m0:Za)(mP:BS):Prop:=
  (t59=true->∃e,Ze PG 15 [.i .i64 m0.int] (.s e)/\∃j,∃c:BS,Xc PG 126 (Bl mP) [.s e] (fun r=>r=.tup [.i .i64 j,.ni]) ((Bl c))/\Mf PG K c)/\(t59=false->Ce PG K ci (decide (m0.kind=3)) m0 mP)
def Sh(ci:BS)(t53:Bool)(m0:Za)(mP:BS):Prop:=
  (t53=true->∃e,∃c:BS,Xc PG 126 (Bl mP) [.s ([102,97,108,115,101]:BS)] (fun r=>r=.tup [.i .i64 e,.ni]) ((Bl c))/\Mf PG K c)/\(t53=false->Sx PG K ci (decide (m0.kind=2)) m0 mP)
def Ns(ci:BS)(t42:Bool)(m0:Za)(mP:BS):Prop:=
  (t42=true->∃e,∃c:BS,Xc PG 126 (Bl mP) [.s ([116,114,117,101]:BS)] (fun r=>r=.tup [.i .i64 e,.ni]) ((Bl c))/\Mf PG K c)/\(t42=false->Sh PG K ci (decide (m0.kind=1)) m0 mP)
def Rn(ci:BS)(m0:Za)(mP:BS):Prop:=
  (m0.kind=1->Ns PG K ci (decide (m0.int=1)) m0 mP)/\(¬(m0.kind=1)->Ns PG K ci false m0 mP)
def E8(m0:Za)(mP:BS):Prop:=
  0<=m0.kind/\∃c,([[],[],[],[],[],([123,125]:BS),([91,93]:BS),([60,62]:BS)]:LB)[(m0.kind).toNat]?=some c/\Rn PG K c m0 mP
def E7(v1:Za)(mP:BS):Prop:=
  E8 PG K v1 mP
end
section
variable{K:Int->BS->Prop}(hQ:Yvk d Zp kp vp Q K)(aC:kp.1<d)
variable{mP ci:BS}{t20:List Za}{t21 t22:Int}{jm:Za}{P0:Int->BS->Prop}{iy:Zr}{kw:Nat}{t82:Bool}{m0:Za}{v0:Nat}{t68 t59 t53 t42:Bool}{v1:Za}
variable(aD :∀(t22:Int)(mP:BS),P0 t22 mP->QI PG d Q Zp kp vp ci t20 t21 t22 mP)(H0:U 0=.p kp vp 0)(H3:U 3=.p (d,0) v0 0)(H1:U 1=v1.av)(H5:U 5=.s ci)(H9:U 9=.p (d,20483) kw 0)(H82:U 82=.b t82)(H68:U 68=.b t68)(iP:U 59=.b t59)(QJ:U 53=.b t53)(H42:U 42=.b t42)(fJ:U 20=.sl iy (List.map Za.row t20))(B0:lk st.bx (d,0)=some (v0,Za.cs m0))(H21:U 21=.i .i64 t21)(H22:U 22=.i .i64 t22)(ky:lk st.bx (d,20483)=some (kw,Za.cs jm))(BP:Bl mP st.bx st.ow kp vp)(FR:Fr d kp Zp.bx Zp.ow st.bx st.ow)
include hQ aC BP FR in
theorem Tj(h:Mf PG K mP):W PG d Mo U st Q:=
 au trivial
def Ygr(h:sw PG K P0 ci t20 t21 t22 jm mP):W PG d Yn4 U st (Zs 2 (Zk PG d (.reg 11 Yuv) (Zk PG d (.loop p_) (Zs 1 (Zk PG d Ic (Zs 0 (Zk PG d Mo Q))))))):=
 q_ J<|m_<|l_ H9 ky J J<|h.elim fun _ k=>k.elim fun _ c=>Wy (Ye H0<|Ye J Yw) c.1 (kV aC) BP<|fun _ i j=>m_<|e_<|q_ J<|m_<|b_ J J Vr<|e_<|Yi J (fun e=>q_ J<|m_<|m_<|Zu<|hQ _ _ _ _ J i (Fr.pass FR j)<|c.2.1 e)<|fun e=>Ya<|W.reg0 J fun _ _=>b_ H22 J Vp<|m_<|e_<|aD _ _ (c.2.2 e) _ _ _ H0 H5 fJ H21 J i<|Fr.pass FR j
def Xgk(h:E6 PG K ci mP):W PG d Ic U st (Zs 0 (Zk PG d Mo Q)):=
 W.reg0 J fun _ _=>m_<|m_<|Jo H5 J (by decide) h.1<|h.2.elim fun _ e=>e.elim fun _ c=>Wy (Ye H0<|Ye J Yw) c.1 (kV aC) BP<|fun _ i j=>e_<|Tj hQ aC i (Fr.pass FR j) c.2
def Ydv(h:Fw PG K P0 ci t20 t21 t22 mP):W PG d p_ U st (Zk PG d (.loop p_) (Zs 1 (Zk PG d Ic (Zs 0 (Zk PG d Mo Q))))):=
 q_ J<|b_ H22 H21 Wp<|e_<|Zl<|Yi J (fun c=>Ya<|Zl<|Yg<|Zl<|W.reg<|m_<|(h.1 c).2.elim fun p e=>Xy fJ H22 (h.1 c).1 e.1 (Za.row_eq p) J<|Xx J J J<|Xl<|m_<|Zy J (show lk _ (d,20483)=some (_,cS)from Zj) J J J<|e_<|Zl<|q_ J<|m_<|b_ H22 J Jd<|e_<|Yi J (fun j=>W.reg0 J fun _ _=>m_<|(e.2.1 j).elim fun _ q=>q.elim fun _ k=>Wy (Ye H0<|Ye J Yw) k.1 (kV aC) (Bl.other (Wd aC)<|Bl.other (Wd aC) BP)<|fun _ r o=>e_<|Ygr hQ aC aD H0 H5 J fJ H21 H22 ((o.1 (d,20483) (kG d)<|Wd aC).trans Zj) r (Fr.pass (Fr.box<|Fr.box FR) o) k.2)<|fun j=>Ya<|Ygr hQ aC aD H0 H5 J fJ H21 H22 Zj (Bl.other (Wd aC)<|Bl.other (Wd aC) BP) (Fr.box<|Fr.box FR)<|e.2.2 j)<|fun c=>Vg<|Xgk hQ aC H0 H5 BP FR<|h.2 c
def Yi2(h:Pl PG K ci t82 m0 mP):W PG d Yro U st (Zs 0 (Zk PG d Mo Q)):=
 Xw H82 (fun c=>W.reg0 J fun _ _=>m_<|(h.1 c).elim fun _ b8=>b8.elim fun _ v=>Wy (Ye H0<|Ye J Yw) v.1 (kV aC) BP<|fun _ c5 d4=>e_<|Tj hQ aC c5 (Fr.pass FR d4) v.2)<|fun c=>q_ J<|f_ H3<|l_ J B0 J J<|b_ J J Xf<|Yt J<|Xe (g:=96) J (fun e=>Zg J<|f_ H3<|Zg J<|l_ J B0 J J<|Zg J<|Xq J<|Zg J<|b_ J J Xf<|z_ 2 J<|e_<|Yi J (fun i=>W.reg0 J fun _ _=>m_<|(((h.2 c).1 e).1 i).elim fun _ b0=>b0.elim fun _ q=>Wy (Ye H0<|Ye J Yw) q.1 (kV aC) BP<|fun _ c0 d1=>e_<|Tj hQ aC c0 (Fr.pass FR d1) q.2)<|fun i=>q_ J<|f_ H3<|l_ J B0 J J<|b_ J J Xf<|m_<|e_<|Yi J (fun j=>q_ J<|m_<|((((h.2 c).1 e).2 i).1 j).elim fun _ b2=>b2.elim fun _ r=>Wy (Ye H0<|Ye J Yw) r.1 (kV aC) BP<|fun _ c1 a4=>e_<|q_ J<|m_<|f_ H3<|l_ J ((a4.1 (d,0) (kG d)<|Wd aC).trans B0) J J<|r.2.elim fun a8 s=>Xy J J (by decide) s.1 (Za.row_eq a8) J<|Xx J J J<|s.2.elim fun _ b1=>b1.elim fun _ u=>Wy (Ye H0<|Ye J Yw) u.1 (kV aC) c1<|fun _ c2 d2=>m_<|Zu<|hQ _ _ _ _ J c2 (Fr.pass (Fr.pass FR a4) d2) u.2)<|fun j=>q_ J<|f_ H3<|l_ J B0 J J<|m_<|e_<|Xw J (fun o=>W.reg0 J fun _ _=>m_<|(((((h.2 c).1 e).2 i).2 j).1 o).elim fun _ b3=>b3.elim fun _ w=>Wy (Ye H0<|Ye J Yw) w.1 (kV aC) BP<|fun _ c3 d3=>e_<|Tj hQ aC c3 (Fr.pass FR d3) w.2)<|fun o=>q_ J<|m_<|m_<|Bc H5 J (by decide) (((((h.2 c).1 e).2 i).2 j).2 o).1<|(((((h.2 c).1 e).2 i).2 j).2 o).2.elim fun _ b4=>b4.elim fun _ y=>Wy (Ye H0<|Ye J Yw) y.1 (kV aC) BP<|fun _ c4 a5=>e_<|Zl<|q_ J<|f_ H3<|l_ J ((a5.1 (d,0) (kG d)<|Wd aC).trans B0) J J<|Xq J<|m_<|e_<|Yg<|y.2 (QI PG d Q Zp kp vp ci m0.list (m0.list.length:Int)) (fun _ _ hb _ _ _ H0 H5 fJ H21 H22 BP FR=>W.loop<|Ydv hQ aC (fun _ _ x=>x) H0 H5 fJ H21 H22 BP FR hb) _ _ _ H0 H5 J J J c4<|Fr.pass FR a5)<|fun e=>z_ 6 J<|e_<|Qp J<|q_ J<|f_ H3<|l_ J B0 J J<|b_ J J Xf<|m_<|e_<|Yi J (fun k=>q_ J<|m_<|(((h.2 c).2 e).1 k).elim fun _ b6=>b6.elim fun _ z=>Wy (Ye H0<|Ye J Yw) z.1 (kV aC) BP<|fun _ c6 a6=>e_<|q_ J<|m_<|f_ H3<|l_ J ((a6.1 (d,0) (kG d)<|Wd aC).trans B0) J J<|z.2.elim fun a9 a0=>Xy J J (by decide) a0.1 (Za.row_eq a9) J<|Xx J J J<|a0.2.elim fun _ b5=>b5.elim fun _ a1=>Wy (Ye H0<|Ye J Yw) a1.1 (kV aC) c6<|fun _ c7 d5=>m_<|Zu<|hQ _ _ _ _ J c7 (Fr.pass (Fr.pass FR a6) d5) a1.2)<|fun k=>q_ J<|f_ H3<|l_ J B0 J J<|m_<|e_<|Xw J (fun p=>W.reg0 J fun _ _=>m_<|((((h.2 c).2 e).2 k).1 p).elim fun _ b7=>b7.elim fun _ a2=>Wy (Ye H0<|Ye J Yw) a2.1 (kV aC) BP<|fun _ c9 d6=>e_<|Tj hQ aC c9 (Fr.pass FR d6) a2.2)<|fun p=>q_ J<|m_<|m_<|Bc H5 J (by decide) ((((h.2 c).2 e).2 k).2 p).1<|((((h.2 c).2 e).2 k).2 p).2.elim fun _ b9=>b9.elim fun _ a3=>Wy (Ye H0<|Ye J Yw) a3.1 (kV aC) BP<|fun _ d0 a7=>e_<|Zl<|q_ J<|f_ H3<|l_ J ((a7.1 (d,0) (kG d)<|Wd aC).trans B0) J J<|Xq J<|m_<|e_<|Yg<|a3.2 (QI PG d Q Zp kp vp ci m0.list (m0.list.length:Int)) (fun _ _ hb _ _ _ H0 H5 fJ H21 H22 BP FR=>W.loop<|Ydv hQ aC (fun _ _ x=>x) H0 H5 fJ H21 H22 BP FR hb) _ _ _ H0 H5 J J J d0<|Fr.pass FR a7
def Xs3(h:Ce PG K ci t68 m0 mP):W PG d Yq5 U st (Zs 0 (Zk PG d Mo Q)):=
 Xw H68 (fun c=>q_ J<|f_ H3<|l_ J B0 J J<|x2 (h.1 c) fun _ _ i=>Yh (Xu J J) i.1<|m_<|x_ J J<|x_ J J<|m_<|m_<|e_<|q_ J<|m_<|m_<|i.2.elim fun _ k=>k.elim fun _ j=>Wy (Ye H0<|Ye J Yw) j.1 (kV aC) BP<|fun _ o p=>e_<|q_ J<|m_<|m_<|Zu<|hQ _ _ _ _ J o (Fr.pass FR p) j.2)<|fun c=>q_ J<|f_ H3<|l_ J B0 J J<|b_ J J Xf<|Yt J<|Xe (g:=86) J (fun e=>Zg J<|f_ H3<|Zg J<|l_ J B0 J J<|z_ 2 J<|e_<|Yi2 hQ aC H0 H3 H5 J B0 BP FR<|(h.2 c).1 e)<|fun e=>z_ 4 J<|e_<|Yi2 hQ aC H0 H3 H5 J B0 BP FR<|(h.2 c).2 e
def Wc7(h:Sx PG K ci t59 m0 mP):W PG d Yjd U st (Zs 0 (Zk PG d Mo Q)):=
 Xw iP (fun c=>W.reg0 J fun _ _=>m_<|f_ H3<|l_ J B0 J J<|(h.1 c).elim fun _ e=>Yh (Xu J J) e.1<|e.2.elim fun _ j=>j.elim fun _ i=>Wy (Ye H0<|Ye J Yw) i.1 (kV aC) BP<|fun _ k o=>e_<|Tj hQ aC k (Fr.pass FR o) i.2)<|fun c=>q_ J<|f_ H3<|l_ J B0 J J<|b_ J J Xf<|m_<|e_<|Xs3 hQ aC H0 H3 H5 J B0 BP FR<|h.2 c
def Xqz(h:Sh PG K ci t53 m0 mP):W PG d Ykp U st (Zs 0 (Zk PG d Mo Q)):=
 Xw QJ (fun c=>W.reg0 J fun _ _=>m_<|(h.1 c).elim fun _ i=>i.elim fun _ e=>Wy (Ye H0<|Ye J Yw) e.1 (kV aC) BP<|fun _ j k=>e_<|Tj hQ aC j (Fr.pass FR k) e.2)<|fun c=>q_ J<|f_ H3<|l_ J B0 J J<|b_ J J Xf<|m_<|e_<|Wc7 hQ aC H0 H3 H5 J B0 BP FR<|h.2 c
def Yk7(h:Ns PG K ci t42 m0 mP):W PG d Yp2 U st (Zs 0 (Zk PG d Mo Q)):=
 Xw H42 (fun c=>W.reg0 J fun _ _=>m_<|(h.1 c).elim fun _ i=>i.elim fun _ e=>Wy (Ye H0<|Ye J Yw) e.1 (kV aC) BP<|fun _ j k=>e_<|Tj hQ aC j (Fr.pass FR k) e.2)<|fun c=>q_ J<|f_ H3<|l_ J B0 J J<|b_ J J Xf<|m_<|e_<|Xqz hQ aC H0 H3 H5 J B0 BP FR<|h.2 c
def Xkr(h:Rn PG K ci m0 mP):W PG d Yfa U st Q:=
 Zl<|Yg<|q_ J<|f_ H3<|l_ J B0 J J<|b_ J J Xf<|Yt J<|Xe (g:=46) J (fun c=>Zg J<|f_ H3<|Zg J<|l_ J B0 J J<|Zg J<|b_ J J Xf<|z_ 2 J<|e_<|Yk7 hQ aC H0 H3 H5 J B0 BP FR<|h.1 c)<|fun c=>z_ 5 J<|e_<|Yk7 hQ aC H0 H3 H5 J B0 BP FR<|h.2 c
def Xpc(h:E8 PG K m0 mP):W PG d Yg8 U st Q:=
 q_ J<|Ao (f:=AV.s) (l:=[[],[],[],[],[],([123,125]:BS),([91,93]:BS),([60,62]:BS)]) (Yr J J<|Yr J J<|Yr J J Yu) J<|f_ H3<|l_ J B0 J J<|h.2.elim fun _ c=>Cy (f:=AV.s) J J J h.1 c.1<|m_<|e_<|Xkr hQ aC H0 H3 J B0 BP FR c.2
def Yyb(h:E7 PG K v1 mP):W PG d Ynd U st Q:=
 q_ J<|Jw H1 J<|m_<|e_<|Xpc hQ aC H0 J Zj (Bl.other (Wd aC) BP) (Fr.box FR) h
def Xah(hf:PG.fn 104=some Eh)(h:E7 PG K v1 mP):Us PG 104 (Bl mP) [v1.av] (fun r (b_:BS)=>∃aa:Int,(r=.i .i64 aa)/\K aa b_) (fun b_=>(Bl b_)):=
  Us.of hf rfl (fun _=>Bl.out) fun d st kp vp aC hB=>Yyb (Zp:=st) (Q:=fun e U aA=>(e=.normal\/e=.ret)/\∃r b_,Xj U aA Eh.res=some r/\_/\_/\Fr d kp st.bx st.ow aA.bx aA.ow) (fun U aA   aa b_ H4 hb hf hk=>⟨.inr rfl,.i .i64 aa,b_,by simp only[Eh,Xj,Wz,H4,Kq,kK],⟨aa,rfl,hk⟩,hb,hf⟩) aC (U:=Wg [.p kp vp 0,v1.av]) rfl rfl hB Fr.refl h
end
abbrev Ysv:AC:= (.seq (sR 1 [oF 3 0 1,oL 4 3]<|.block 0<|sR 2 [oW 6 .eql 4 1,oM 5 6]<|cD 5 (.seq (sR 3 [oF 7 1 1,oL 8 7,oV 9 .eql 8 1]<|cD 9 (sR 4 [oC 2<|.s pV] .ret) .skip)<|sR 5 [oC 2<|.s pU] .ret)<|sR 6 [oW 11 .eql 4 2,oM 10 11]<|cD 10 (sR 7 [oF 12 1 1,oL 13 12,oQ 14 16 [13],oM 2 14] .ret)<|sR 8 [oW 16 .eql 4 3,oM 15 16]<|cD 15 (sR 9 [oF 17 2 1,oL 18 17,oQ 19 31 [18],oM 2 19] .ret)<|sR 10 [oW 21 .eql 4 5,oM 20 21]<|cD 20 (sR 11 [oF 22 3 1,oL 23 22,oQ 24 127 [23],oB 25 .add (.c<|.s [123])<|.t 24,oB 26 .add (.t 25)<|.c<|.s [125],oM 2 26] .ret)<|sR 12 [oW 28 .eql 4 6,oM 27 28]<|cD 27 (sR 13 [oF 29 3 1,oL 30 29,oQ 31 127 [30],oB 32 .add (.c<|.s [91])<|.t 31,oB 33 .add (.t 32)<|.c<|.s [93],oM 2 33] .ret)<|sR 14 [oW 35 .eql 4 7,oM 34 35]<|cD 34 (.seq (sR 15 [oF 36 4 1,oL 37 36]<|cD 37 (sR 16 [oC 2<|.s [60,46,46,46,62]] .ret) .skip)<|sR 17 [oF 38 3 1,oL 39 38,oQ 40 127 [39],oB 41 .add (.c<|.s [60])<|.t 40,oB 42 .add (.t 41)<|.c<|.s [62],oM 2 42] .ret) .skip)<|.seq (sR 18 [oF 43 4 1,oL 44 43]<|cD 44 (sR 19 [oC 2<|.s [38,46,46,46]] .ret) .skip)<|.seq (sR 20 [oF 45 3 1,oL 46 45,oJ 47 46,oV 48 .eql 47 0]<|cD 48 (sR 21 [oC 2<|.s [110,105,108]] .ret) .skip)<|sR 22 [oF 49 3 1,oL 50 49,oO 51<|.iaL 5 (.t 50)<|.c<|.i .i64 0,oK 52 5 51,oQ 53 106 [52],oB 54 .add (.c<|.s [38])<|.t 53,oM 2 54] .ret)
abbrev Yca:AC:= (sR 0 [oY 1 5 0,oC 2<|.s []] Ysv)
def r9:AF:= { nt:=55,res:=[.tmp 2],body:=Yca }
section
variable(PG:Zb)(K:BS->Prop)
def E4(m0:Za):Prop:=
  (m0.kind=1->(m0.int=1->K ([116,114,117,101]:BS))/\(¬(m0.int=1)->K ([102,97,108,115,101]:BS)))/\(¬(m0.kind=1)->(m0.kind=2->∃q,Ze PG 16 [.i .i64 m0.int] (.s q)/\K q)/\(¬(m0.kind=2)->(m0.kind=3->∃p,Ze PG 31 [.s m0.text] (.s p)/\K p)/\(¬(m0.kind=3)->(m0.kind=5->∃j:BS,Ze PG 127 [.sl .ext (List.map Za.row m0.list)] (.s j)/\([123]:BS).length+j.length<=Yj/\(([123]:BS)++j).length+([125]:BS).length<=Yj/\K ((([123]:BS)++j)++([125]:BS)))/\(¬(m0.kind=5)->(m0.kind=6->∃c:BS,Ze PG 127 [.sl .ext (List.map Za.row m0.list)] (.s c)/\([91]:BS).length+c.length<=Yj/\(([91]:BS)++c).length+([93]:BS).length<=Yj/\K ((([91]:BS)++c)++([93]:BS)))/\(¬(m0.kind=6)->(m0.kind=7->(m0.cut=true->K ([60,46,46,46,62]:BS))/\(m0.cut=false->∃e:BS,Ze PG 127 [.sl .ext (List.map Za.row m0.list)] (.s e)/\([60]:BS).length+e.length<=Yj/\(([60]:BS)++e).length+([62]:BS).length<=Yj/\K ((([60]:BS)++e)++([62]:BS))))/\(¬(m0.kind=7)->(m0.cut=true->K ([38,46,46,46]:BS))/\(m0.cut=false->((m0.list.length:Int)=0->K ([110,105,108]:BS))/\(¬((m0.list.length:Int)=0)->∃o:Za,m0.list[0]?=some o/\∃k:BS,Ze PG 106 [o.av] (.s k)/\([38]:BS).length+k.length<=Yj/\K (([38]:BS)++k)))))))))
def E3(v0:Za):Prop:=
  E4 PG K v0
end
section
variable{K:BS->Prop}(hQ:H1 AV.s 2 Q K)
variable{m0:Za}{v0:Nat}
variable(H1:U 1=.p (d,0) v0 0)(B0:lk st.bx (d,0)=some (v0,Za.cs m0))
include hQ H1 B0 in
theorem Xrx(h:E4 PG K m0):W PG d Ysv U st Q:=
 au trivial
include hQ in
theorem Xn6{v0:Za}(H0:U 0=v0.av)(h:E3 PG K v0):W PG d Yca U st Q:=
 au @Xrx
def Waa(hf:PG.fn 106=some r9){v0:Za}(h:E3 PG K v0):∃aa:BS,K aa/\Ze PG 106 [v0.av] (.s aa):=
 P1 hf J<|Xn6 (h1 J fun _=>J) J h
end
abbrev wU:AC:= (sR 23 [oT 104 .lss 103 102]<|.seq (cD 104 .skip<|.exit 1)<|.seq (.block 2<|sR 24 [oX 105 5 101 103,oK 106 5 105,oO 12<|.alloc aX,oS 5 12 106]<|sR 25 [oK 108 5 12,oM 109 1,oV 110 .sub 109 1,oQ 111 109 [108,110],oM 107 111,oE 112 0 107,oE 113 1 107,oM 13 112,oM 14 113]<|sR 26 [oM 114 10,oM 115 13,oT 116 .add 114 115,oM 10 116]<|sR 27 [oM 117 14,oZ 118 117,oM 119 118,gF 119<|oM 120 10,gF 119<|oV 121 .gtr 120 5000,oR 122 119 121]<|cD 122 (sR 28 [oI 4 0,oC 5<|.b false] .ret) .skip)<|.reg 29 [oV 123 .add 103 1,oM 103 123])
abbrev wV:AC:= (sR 30 [oM 124 10,oM 4 124,oC 5<|.b true] .ret)
abbrev Yr2:AC:= (.seq (sR 19 [oM 53 1,oV 54 .eql 53 0,oM 55 54,gF 55<|oF 56 1 6,gF 55<|oL 57 56,gF 55<|oF 58 1 2,gF 55<|oL 59 58,gF 55<|oT 60 .neq 57 59,oR 61 55 60,oM 62 61,gF 62<|oF 63 2 6,gF 62<|oL 64 63,gF 62<|oF 65 2 2,gF 62<|oL 66 65,gF 62<|oT 67 .neq 64 66,oR 68 62 67,oM 69 68,gF 69<|oF 70 2 2,gF 69<|oL 71 70,gF 69<|oH 72 71,gF 69<|oV 73 .gtr 72 64,oR 74 69 73,oM 75 74,gF 75<|oF 76 4 6,gF 75<|oL 77 76,gF 75<|oF 78 4 2,gF 75<|oL 79 78,gF 75<|oO 80<|.beq true (.t 77)<|.t 79,oR 81 75 80,oM 82 81,gF 82<|oF 83 4 2,gF 82<|oL 84 83,gF 82<|oM 85 84,gT 85<|oM 86 9,gT 85<|oV 87 .gtr 86 0,gF 82<|oA 88 85 87,oR 89 82 88,oM 90 89,gF 90<|oM 91 9,gF 90<|oM 92 7,gF 90<|oT 93 .gtr 91 92,oR 94 90 93,oM 95 94,gF 95<|oM 96 9,gF 95<|oM 97 8,gF 95<|oT 98 .lss 96 97,oR 99 95 98]<|cD 99 (sR 20 [oI 4 0,oC 5<|.b false] .ret) .skip)<|sR 21 [oI 10 1]<|.seq (sR 22 [oF 100 3 2,oL 101 100,oJ 102 101,oI 103 0]<|.block 1<|.loop wU) wV)
abbrev Yqr:AC:= (sR 18 [oF 50 3 2,oL 51 50,oJ 52 51,oM 9 52] Yr2)
abbrev Ydm:AC:= (.seq (sR 2 [oF 18 0 2,oL 19 18]<|.block 0<|sR 4 [oW 21 .eql 19 1,oM 20 21]<|cD 20 (.reg 5 [oF 22 1 2,oL 23 22,oV 24 .and 23 1,oF 25 1 6,oS 1 25 24])<|sR 6 [oW 27 .eql 19 2,oM 26 27]<|cD 26 (.reg 7 [oF 28 1 2,oL 29 28,oF 30 1 6,oS 1 30 29])<|sR 8 [oW 32 .eql 19 3,oM 31 32]<|cD 31 (.reg 9 [oF 33 2 2,oL 34 33,oF 35 2 6,oS 1 35 34])<|sR 10 [oW 37 .eql 19 4,oM 36 37]<|cD 36 (.reg 11 [oF 38 4 2,oL 39 38,oF 40 4 6,oS 1 40 39,oI 7 1])<|sR 12 [oW 42 .eql 19 5,oM 41 42]<|cD 41 (.reg 13 [oI 7 8])<|sR 14 [oW 44 .eql 19 6,oM 43 44]<|cD 43 (.reg 15 [oI 7 16,oI 8 1])<|sR 16 [oW 46 .eql 19 7,oM 45 46]<|cD 45 (.reg 17 [oF 47 4 2,oL 48 47,oF 49 4 6,oS 1 49 48,oI 7 16])<|sR 3 [oI 4 0,oC 5<|.b false] .ret) Yqr)
abbrev Yo6:AC:= (sR 1 [oF 15 0 2,oL 16 15,oO 17<|.build aX [(0,1,(.t 16))],oO 6<|.alloc aX,oS 5 6 17,oI 7 0,oI 8 0] Ydm)
abbrev Ydh:AC:= (sR 0 [oY 2 5 0,oI 4 0,oC 5<|.b false] Yo6)
def r_:AF:= { nt:=125,res:=[.tmp 4,.tmp 5],body:=Ydh }
abbrev QK(PG:Zb)(d:Nat)(Q:Q0)(bg:Int)(jx:List Za)(jr dn t103:Int):Prop:=
  ∀(U:Sl)(st:St)(jy:Zr),U 1=.i .i64 bg->U 10=.i .i64 dn->U 101=.sl jy (List.map Za.row jx)->U 102=.i .i64 jr->U 103=.i .i64 t103->W PG d (.loop wU) U st (Zs 1 (Zk PG d wV Q))
def ES(PG:Zb)(K:Int->Bool->Prop)(dn:Int):Prop:=
  K dn true
section
variable(PG:Zb)(K:Int->Bool->Prop)
def Fy(P0:Int->Int->Prop)(bg dn:Int)(jx:List Za)(jr t103:Int):Prop:=
  (t103<jr->0<=t103/\∃j:Za,jx[(t103).toNat]?=some j/\∃c e,Ze PG 109 [j.av,.i .i64 (IntKind.i64.wrap (bg-1))] (.tup [.i .i64 c,.b e])/\((!e)=true->K 0 false)/\((!e)=false->((IntKind.i64.wrap (dn+c))>5000->K 0 false)/\(¬((IntKind.i64.wrap (dn+c))>5000)->P0 (IntKind.i64.wrap (dn+c)) (IntKind.i64.wrap (t103+1)))))/\(¬(t103<jr)->ES PG K dn)
def ss(bg fx di n9:Int)(m0 bk:Za):Prop:=
  (bg=0->K 0 false)/\(¬(bg=0)->(bk.int≠m0.int->K 0 false)/\(¬(bk.int≠m0.int)->(bk.text≠m0.text->K 0 false)/\(¬(bk.text≠m0.text)->((m0.text.length:Int)>64->K 0 false)/\(¬((m0.text.length:Int)>64)->(bk.cut≠m0.cut->K 0 false)/\(¬(bk.cut≠m0.cut)->(m0.cut=true->(n9>0->K 0 false)/\(¬(n9>0)->(n9>fx->K 0 false)/\(¬(n9>fx)->(n9<di->K 0 false)/\(¬(n9<di)->∀P0:Int->Int->Prop,(∀(dn t103:Int),Fy PG K P0 bg dn m0.list (m0.list.length:Int) t103->P0 dn t103)->P0 1 0))))/\(m0.cut=false->(n9>fx->K 0 false)/\(¬(n9>fx)->(n9<di->K 0 false)/\(¬(n9<di)->∀P0:Int->Int->Prop,(∀(dn t103:Int),Fy PG K P0 bg dn m0.list (m0.list.length:Int) t103->P0 dn t103)->P0 1 0))))))))
def Nh(bg fx di:Int)(m0 bk:Za):Prop:=
  ss PG K bg fx di (m0.list.length:Int) m0 bk
def sr(bg fx di:Int)(m0 bk:Za):Prop:=
  (m0.kind=1->Nh PG K bg fx di m0 (Za.mk bk.kind (Ho .i64 m0.int 1) bk.text bk.list bk.cut))/\(¬(m0.kind=1)->(m0.kind=2->Nh PG K bg fx di m0 (Za.mk bk.kind m0.int bk.text bk.list bk.cut))/\(¬(m0.kind=2)->(m0.kind=3->Nh PG K bg fx di m0 (Za.mk bk.kind bk.int m0.text bk.list bk.cut))/\(¬(m0.kind=3)->(m0.kind=4->Nh PG K bg 1 di m0 (Za.mk bk.kind bk.int bk.text bk.list m0.cut))/\(¬(m0.kind=4)->(m0.kind=5->Nh PG K bg 8 di m0 bk)/\(¬(m0.kind=5)->(m0.kind=6->Nh PG K bg 16 1 m0 bk)/\(¬(m0.kind=6)->(m0.kind=7->Nh PG K bg 16 di m0 (Za.mk bk.kind bk.int bk.text bk.list m0.cut))/\(¬(m0.kind=7)->K 0 false)))))))
def sq(bg:Int)(m0:Za):Prop:=
  sr PG K bg 0 0 m0 (Za.mk m0.kind 0 [] ([]:List Za) false)
def so(v0:Za)(bg:Int):Prop:=
  sq PG K bg v0
end
section
variable{K:Int->Bool->Prop}(hQ:H2 (AV.i .i64) AV.b 4 5 Q K)
variable{dn bg:Int}{jx:List Za}{jr t103:Int}{P0:Int->Int->Prop}{jy:Zr}{fx di n9:Int}{m0 bk:Za}{jk:Zr}{v0 ln:Nat}
variable(aD :∀(dn t103:Int),P0 dn t103->QK PG d Q bg jx jr dn t103)(H1:U 1=.i .i64 bg)(aH:U 10=.i .i64 dn)(H2:U 2=.p (d,0) v0 0)(Lo:U 101=.sl jy (List.map Za.row jx))(H6:U 6=.p (d,4099) ln 0)(Pb:U 102=.i .i64 jr)(H7:U 7=.i .i64 fx)(kz:U 103=.i .i64 t103)(H8:U 8=.i .i64 di)(H9:U 9=.i .i64 n9)(gg:Yo d st.ow jk bk.list.length)(B0:lk st.bx (d,0)=some (v0,Za.cs m0))(gi:lk st.bx (d,4099)=some (ln,Za.co jk bk))
include hQ aH in
theorem Xae(h:ES PG K dn):W PG d wV U st Q:=
 au trivial
include hQ aD H1 aH Lo Pb kz in
theorem Yko(h:Fy PG K P0 bg dn jx jr t103):W PG d wU U st (Zk PG d (.loop wU) (Zs 1 (Zk PG d wV Q))):=
 au @Xae
include hQ H1 H2 H6 H7 H8 H9 gg B0 gi in
theorem Xbx(h:ss PG K bg fx di n9 m0 bk):W PG d Yr2 U st Q:=
 Zl<|q_ J<|Wc H1<|b_ J J Xf<|Yt J<|Xe (g:=55) J (fun c=>z_ 30 J<|Xv J<|Xv J<|z_ 12 J<|e_<|Xh J<|q_ J<|m_<|m_<|Zu<|hQ J J<|h.1 c)<|fun c=>Zg J<|f_ H6<|Zg J<|l_ J gi J J<|Zg J<|f_ H2<|Zg J<|l_ J B0 J J<|Zg J<|b_ J J Vr<|z_ 2 J<|Xe (g:=62) J (fun e=>z_ 23 J<|Xv J<|Xv J<|z_ 12 J<|e_<|Xh J<|q_ J<|m_<|m_<|Zu<|hQ J J<|(h.2 c).1 e)<|fun e=>Zg J<|f_ H6<|Zg J<|l_ J gi J J<|Zg J<|f_ H2<|Zg J<|l_ J B0 J J<|Zg J<|b_ J J Rt<|z_ 2 J<|Xe (g:=69) J (fun i=>z_ 16 J<|Xv J<|Xv J<|z_ 12 J<|e_<|Xh J<|q_ J<|m_<|m_<|Zu<|hQ J J<|((h.2 c).2 e).1 i)<|fun i=>Zg J<|f_ H2<|Zg J<|l_ J B0 J J<|Zg J<|Qb J<|Zg J<|b_ J J Jd<|z_ 2 J<|Xe (g:=75) J (fun j=>z_ 10 J<|Xv J<|Xv J<|z_ 12 J<|e_<|Xh J<|q_ J<|m_<|m_<|Zu<|hQ J J<|(((h.2 c).2 e).2 i).1 j)<|fun j=>Zg J<|f_ H6<|Zg J<|l_ J gi J J<|Zg J<|f_ H2<|Zg J<|l_ J B0 J J<|Zg J<|QD J J<|z_ 2 J<|Xe (g:=82) J (fun k=>z_ 3 J<|Xv J<|Xv J<|z_ 12 J<|e_<|Xh J<|q_ J<|m_<|m_<|Zu<|hQ J J<|((((h.2 c).2 e).2 i).2 j).1 k)<|fun k=>Zg J<|f_ H2<|Zg J<|l_ J B0 J J<|Zg J<|Yt J<|Ql (g:=85) J (fun o=>Zg J<|Wc H9<|Zg J<|b_ J J Jd<|Zg J<|z_ 3 J<|Xe (g:=90) J (fun p=>z_ 9 J<|e_<|Xh J<|q_ J<|m_<|m_<|Zu<|hQ J J<|((((((h.2 c).2 e).2 i).2 j).2 k).1 o).1 p)<|fun p=>Zg J<|Wc H9<|Zg J<|Wc H7<|Zg J<|b_ J J Jd<|z_ 2 J<|Xe (g:=95) J (fun r=>z_ 4 J<|e_<|Xh J<|q_ J<|m_<|m_<|Zu<|hQ J J<|(((((((h.2 c).2 e).2 i).2 j).2 k).1 o).2 p).1 r)<|fun r=>Zg J<|Wc H9<|Zg J<|Wc H8<|Zg J<|b_ J J Wp<|Vt J J<|e_<|Yi J (fun u=>q_ J<|m_<|m_<|Zu<|hQ J J<|((((((((h.2 c).2 e).2 i).2 j).2 k).1 o).2 p).2 r).1 u)<|fun u=>Ya<|q_ J<|m_<|e_<|Zl<|q_ J<|f_ H2<|l_ J B0 J J<|Xq J<|m_<|e_<|Yg<|(((((((((h.2 c).2 e).2 i).2 j).2 k).1 o).2 p).2 r).2 u) (QK PG d Q bg m0.list (m0.list.length:Int)) (fun _ _ hb _ _ _ H1 aH Lo Pb kz=>W.loop<|Yko hQ (fun _ _ x=>x) H1 aH Lo Pb kz hb) _ _ _ H1 J J J J)<|fun o=>z_ 2 J<|Zg J<|z_ 3 J<|Zg J<|Wc H9<|Zg J<|Wc H7<|Zg J<|b_ J J Jd<|z_ 2 J<|Xe (g:=95) J (fun q=>z_ 4 J<|e_<|Xh J<|q_ J<|m_<|m_<|Zu<|hQ J J<|((((((h.2 c).2 e).2 i).2 j).2 k).2 o).1 q)<|fun q=>Zg J<|Wc H9<|Zg J<|Wc H8<|Zg J<|b_ J J Wp<|Vt J J<|e_<|Yi J (fun s=>q_ J<|m_<|m_<|Zu<|hQ J J<|(((((((h.2 c).2 e).2 i).2 j).2 k).2 o).2 q).1 s)<|fun s=>Ya<|q_ J<|m_<|e_<|Zl<|q_ J<|f_ H2<|l_ J B0 J J<|Xq J<|m_<|e_<|Yg<|((((((((h.2 c).2 e).2 i).2 j).2 k).2 o).2 q).2 s) (QK PG d Q bg m0.list (m0.list.length:Int)) (fun _ _ hb _ _ _ H1 aH Lo Pb kz=>W.loop<|Yko hQ (fun _ _ x=>x) H1 aH Lo Pb kz hb) _ _ _ H1 J J J J
include hQ H1 H2 H6 H7 H8 gg B0 gi in
theorem Ps(h:Nh PG K bg fx di m0 bk):W PG d Yqr U st Q:=
 au @Xbx
def Yxn(h:sr PG K bg fx di m0 bk):W PG d Ydm U st Q:=
 Zl<|q_ J<|f_ H2<|l_ J B0 J J<|e_<|Yg<|q_ J<|b_ J J Xf<|m_<|e_<|Yi J (fun c=>W.reg0 J fun _ _=>f_ H2<|l_ J B0 J J<|b_ J J (rp _ _ _)<|f_ H6<|Zy J gi J J J<|e_<|Ps (bk:=(Za.mk bk.kind (Ho .i64 m0.int 1) bk.text bk.list bk.cut)) hQ H1 H2 H6 H7 H8 gg (Zm J B0) Zj<|h.1 c)<|fun c=>q_ J<|b_ J J Xf<|m_<|e_<|Yi J (fun e=>W.reg0 J fun _ _=>f_ H2<|l_ J B0 J J<|f_ H6<|Zy J gi J J J<|e_<|Ps (bk:=(Za.mk bk.kind m0.int bk.text bk.list bk.cut)) hQ H1 H2 H6 H7 H8 gg (Zm J B0) Zj<|(h.2 c).1 e)<|fun e=>q_ J<|b_ J J Xf<|m_<|e_<|Yi J (fun i=>W.reg0 J fun _ _=>f_ H2<|l_ J B0 J J<|f_ H6<|Zy J gi J J J<|e_<|Ps (bk:=(Za.mk bk.kind bk.int m0.text bk.list bk.cut)) hQ H1 H2 H6 H7 H8 gg (Zm J B0) Zj<|((h.2 c).2 e).1 i)<|fun i=>q_ J<|b_ J J Xf<|m_<|e_<|Yi J (fun j=>W.reg0 J fun _ _=>f_ H2<|l_ J B0 J J<|f_ H6<|Zy J gi J J J<|m_<|e_<|Ps (bk:=(Za.mk bk.kind bk.int bk.text bk.list m0.cut)) hQ H1 H2 H6 J H8 gg (Zm J B0) Zj<|(((h.2 c).2 e).2 i).1 j)<|fun j=>q_ J<|b_ J J Xf<|m_<|e_<|Yi J (fun k=>W.reg0 J fun _ _=>m_<|e_<|Ps hQ H1 H2 H6 J H8 gg B0 gi<|((((h.2 c).2 e).2 i).2 j).1 k)<|fun k=>q_ J<|b_ J J Xf<|m_<|e_<|Yi J (fun o=>W.reg0 J fun _ _=>m_<|m_<|e_<|Ps hQ H1 H2 H6 J J gg B0 gi<|(((((h.2 c).2 e).2 i).2 j).2 k).1 o)<|fun o=>q_ J<|b_ J J Xf<|m_<|e_<|Yi J (fun p=>W.reg0 J fun _ _=>f_ H2<|l_ J B0 J J<|f_ H6<|Zy J gi J J J<|m_<|e_<|Ps (bk:=(Za.mk bk.kind bk.int bk.text bk.list m0.cut)) hQ H1 H2 H6 J H8 gg (Zm J B0) Zj<|((((((h.2 c).2 e).2 i).2 j).2 k).2 o).1 p)<|fun p=>q_ J<|m_<|m_<|Zu<|hQ J J<|((((((h.2 c).2 e).2 i).2 j).2 k).2 o).2 p
def Xid(h:sq PG K bg m0):W PG d Yo6 U st Q:=
 Zl<|W.reg<|f_ H2<|l_ J (Zm J B0) J J<|Xb (Yr J J Yu)<|Xl<|Zy J (show lk _ (d,4099)=some (_,cS)from Zj) J J J<|m_<|m_<|e_<|Yxn (bk:=(Za.mk m0.kind 0 [] ([]:List Za) false)) hQ H1 H2 J J J Yo.full (Zm J<|Zm J B0) Zj h
include hQ in
theorem Yvy{v0:Za}{bg:Int}(H0:U 0=v0.av)(H1:U 1=.i .i64 bg)(h:so PG K v0 bg):W PG d Ydh U st Q:=
 au @Xid
def U5(hf:PG.fn 109=some r_){v0:Za}(h:so PG K v0 bg):∃aa:Int,∃ae:Bool,K aa ae/\Ze PG 109 [v0.av,.i .i64 bg] (.tup [.i .i64 aa,.b ae]):=
 P2 hf J<|Yvy (h2 J fun _ _=>J) J J h
end
abbrev wW:AC:= (.seq (sR 22 [oM 112 6,oF 113 3 2,oL 114 113,oJ 115 114,oT 116 .lss 112 115]<|cD 116 .skip<|.exit 1)<|.seq (.block 2<|sR 24 [oF 119 3 2,oL 120 119,oM 121 6,oX 122 5 120 121,oK 123 5 122,oM 124 1,oV 125 .sub 124 1,oQ 126 110 [123,125],oZ 127 126]<|cD 127 (sR 25 [oC 4<|.b false] .ret) .skip)<|.reg 23 [oM 117 6,oV 118 .add 117 1,oM 6 118])
abbrev wX:AC:= (sR 26 [oC 4<|.b true] .ret)
abbrev Yp8:AC:= (.seq (sR 17 [oF 78 3 2,oL 79 78,oJ 80 79,oM 81 5,oT 82 .gtr 80 81,oM 83 82,gF 83<|oF 84 0 2,gF 83<|oL 85 84,gF 83<|oW 86 .eql 85 6,gF 83<|oM 87 86,gT 87<|oF 88 3 2,gT 87<|oL 89 88,gT 87<|oJ 90 89,gT 87<|oV 91 .eql 90 0,gF 83<|oA 92 87 91,oR 93 83 92]<|cD 93 (sR 18 [oC 4<|.b false] .ret) .skip)<|.seq (sR 19 [oF 94 4 2,oL 95 94,oM 96 95,gT 96<|oF 97 3 2,gT 96<|oL 98 97,gT 96<|oJ 99 98,gT 96<|oV 100 .gtr 99 0,gT 96<|oM 101 100,gF 101<|oF 102 0 2,gF 101<|oL 103 102,gF 101<|oW 104 .neq 103 4,gF 101<|oM 105 104,gT 105<|oF 106 0 2,gT 105<|oL 107 106,gT 105<|oW 108 .neq 107 7,gF 101<|oA 109 105 108,gT 96<|oR 110 101 109,oA 111 96 110]<|cD 111 (sR 20 [oC 4<|.b false] .ret) .skip)<|.seq (sR 21 [oI 6 0]<|.block 1<|.loop wW) wX)
abbrev Ygd:AC:= (.seq (sR 15 [oF 75 0 2,oL 76 75,oW 77 .eql 76 5]<|cD 77 (.reg 16 [oI 5 8]) .skip) Yp8)
abbrev Ydl:AC:= (.seq (sR 13 [oF 72 0 2,oL 73 72,oW 74 .eql 73 4]<|cD 74 (.reg 14 [oI 5 1]) .skip) Ygd)
abbrev Ykv:AC:= (sR 12 [oI 5 16] Ydl)
abbrev Yej:AC:= (.seq (sR 10 [oF 54 0 2,oL 55 54,oW 56 .lss 55 4,oM 57 56,gF 57<|oF 58 0 2,gF 57<|oL 59 58,gF 57<|oW 60 .gtr 59 7,oR 61 57 60,oM 62 61,gF 62<|oF 63 1 2,gF 62<|oL 64 63,gF 62<|oV 65 .neq 64 0,oR 66 62 65,oM 67 66,gF 67<|oF 68 2 2,gF 67<|oL 69 68,gF 67<|oB 70 .neq (.t 69)<|.c<|.s [],oR 71 67 70]<|cD 71 (sR 11 [oC 4<|.b false] .ret) .skip) Ykv)
abbrev Yp3:AC:= (.seq (sR 3 [oF 9 0 2,oL 10 9]<|.block 0<|sR 4 [oW 12 .eql 10 1,oM 11 12]<|cD 11 (sR 5 [oK 13 5 2,oQ 14 136 [13],oM 15 14,gT 15<|oF 16 2 2,gT 15<|oL 17 16,gT 15<|oB 18 .eql (.t 17)<|.c<|.s [],oA 19 15 18,oM 20 19,gT 20<|oF 21 1 2,gT 20<|oL 22 21,gT 20<|oV 23 .eql 22 0,gT 20<|oM 24 23,gF 24<|oF 25 1 2,gF 24<|oL 26 25,gF 24<|oV 27 .eql 26 1,gT 20<|oR 28 24 27,oA 29 20 28,oM 4 29] .ret)<|sR 6 [oW 31 .eql 10 2,oM 30 31]<|cD 30 (sR 7 [oK 32 5 2,oQ 33 136 [32],oM 34 33,gT 34<|oF 35 2 2,gT 34<|oL 36 35,gT 34<|oB 37 .eql (.t 36)<|.c<|.s [],oA 38 34 37,oM 4 38] .ret)<|sR 8 [oW 40 .eql 10 3,oM 39 40]<|cD 39 (sR 9 [oK 41 5 2,oQ 42 136 [41],oM 43 42,gT 43<|oF 44 1 2,gT 43<|oL 45 44,gT 43<|oV 46 .eql 45 0,oA 47 43 46,oM 48 47,gT 48<|oF 49 2 2,gT 48<|oL 50 49,gT 48<|oH 51 50,gT 48<|oV 52 .leq 51 64,oA 53 48 52,oM 4 53] .ret) .skip) Yej)
abbrev Ydy:AC:= (.seq (sR 1 [oM 7 1,oV 8 .eql 7 0]<|cD 8 (sR 2 [oC 4<|.b false] .ret) .skip) Yp3)
abbrev Ym1:AC:= (sR 0 [oY 2 5 0,oC 4<|.b false] Ydy)
def sa:AF:= { nt:=128,res:=[.tmp 4],body:=Ym1 }
abbrev Pp(PG:Zb)(d:Nat)(Q:Q0)(ar i6:Int)(m0:Za):Prop:=
  ∀(U:Sl)(st:St)(v0:Nat),U 1=.i .i64 ar->U 2=.p (d,0) v0 0->U 6=.i .i64 i6->lk st.bx (d,0)=some (v0,Za.cs m0)->W PG d (.loop wW) U st (Zs 1 (Zk PG d wX Q))
def EJ(PG:Zb)(K:Bool->Prop):Prop:=
  K true
section
variable(PG:Zb)(K:Bool->Prop)
def Nw(P0:Int->Za->Prop)(ar i6:Int)(m0:Za):Prop:=
  (i6<(m0.list.length:Int)->0<=i6/\∃e:Za,m0.list[(i6).toNat]?=some e/\∃c,Ze PG 110 [e.av,.i .i64 (IntKind.i64.wrap (ar-1))] (.b c)/\((!c)=true->K false)/\((!c)=false->P0 (IntKind.i64.wrap (i6+1)) m0))/\(¬(i6<(m0.list.length:Int))->EJ PG K )
def sm(ar ia:Int)(m0:Za):Prop:=
  ((m0.list.length:Int)>ia->K false)/\(¬((m0.list.length:Int)>ia)->(m0.kind=6->((m0.list.length:Int)=0->K false)/\(¬((m0.list.length:Int)=0)->(m0.cut=true->((m0.list.length:Int)>0->K false)/\(¬((m0.list.length:Int)>0)->(m0.kind≠4->(m0.kind≠7->K false)/\(¬(m0.kind≠7)->∀P0:Int->Za->Prop,(∀(i6:Int)(m0:Za),Nw PG K P0 ar i6 m0->P0 i6 m0)->P0 0 m0))/\(¬(m0.kind≠4)->∀P0:Int->Za->Prop,(∀(i6:Int)(m0:Za),Nw PG K P0 ar i6 m0->P0 i6 m0)->P0 0 m0)))/\(m0.cut=false->∀P0:Int->Za->Prop,(∀(i6:Int)(m0:Za),Nw PG K P0 ar i6 m0->P0 i6 m0)->P0 0 m0)))/\(¬(m0.kind=6)->(m0.cut=true->((m0.list.length:Int)>0->K false)/\(¬((m0.list.length:Int)>0)->(m0.kind≠4->(m0.kind≠7->K false)/\(¬(m0.kind≠7)->∀P0:Int->Za->Prop,(∀(i6:Int)(m0:Za),Nw PG K P0 ar i6 m0->P0 i6 m0)->P0 0 m0))/\(¬(m0.kind≠4)->∀P0:Int->Za->Prop,(∀(i6:Int)(m0:Za),Nw PG K P0 ar i6 m0->P0 i6 m0)->P0 0 m0)))/\(m0.cut=false->∀P0:Int->Za->Prop,(∀(i6:Int)(m0:Za),Nw PG K P0 ar i6 m0->P0 i6 m0)->P0 0 m0)))
def sk(ar ia:Int)(m0:Za):Prop:=
  (m0.kind=5->sm PG K ar 8 m0)/\(¬(m0.kind=5)->sm PG K ar ia m0)
def EN(ar ia:Int)(m0:Za):Prop:=
  (m0.kind=4->sk PG K ar 1 m0)/\(¬(m0.kind=4)->sk PG K ar ia m0)
def EM(ar:Int)(m0:Za):Prop:=
  EN PG K ar 16 m0
def EL(ar:Int)(m0:Za):Prop:=
  (m0.kind<4->K false)/\(¬(m0.kind<4)->(m0.kind>7->K false)/\(¬(m0.kind>7)->(m0.int≠0->K false)/\(¬(m0.int≠0)->(m0.text≠([]:BS)->K false)/\(¬(m0.text≠([]:BS))->EM PG K ar m0))))
def EK(ar:Int)(m0:Za):Prop:=
  (m0.kind=1->∃i,Ze PG 136 [m0.av] (.b i)/\(i=true->(m0.text=([]:BS)->(m0.int=0->K true)/\(¬(m0.int=0)->K (decide (m0.int=1))))/\(¬(m0.text=([]:BS))->K false))/\(i=false->K false))/\(¬(m0.kind=1)->(m0.kind=2->∃e,Ze PG 136 [m0.av] (.b e)/\(e=true->K (decide (m0.text=([]:BS))))/\(e=false->K false))/\(¬(m0.kind=2)->(m0.kind=3->∃c,Ze PG 136 [m0.av] (.b c)/\(c=true->(m0.int=0->K (decide ((m0.text.length:Int)<=64)))/\(¬(m0.int=0)->K false))/\(c=false->K false))/\(¬(m0.kind=3)->EL PG K ar m0)))
def sj(ar:Int)(m0:Za):Prop:=
  (ar=0->K false)/\(¬(ar=0)->EK PG K ar m0)
def si(v0:Za)(ar:Int):Prop:=
  sj PG K ar v0
end
section
variable{K:Bool->Prop}(hQ:H1 AV.b 4 Q K)
variable{ar i6:Int}{m0:Za}{P0:Int->Za->Prop}{v0:Nat}{ia:Int}
variable(aD :∀(i6:Int)(m0:Za),P0 i6 m0->Pp PG d Q ar i6 m0)(H1:U 1=.i .i64 ar)(H2:U 2=.p (d,0) v0 0)(H6:U 6=.i .i64 i6)(H5:U 5=.i .i64 ia)(B0:lk st.bx (d,0)=some (v0,Za.cs m0))
include hQ in
theorem Xyz(h:EJ PG K):W PG d wX U st Q:=
 au trivial
include hQ aD H1 H2 H6 B0 in
theorem Ff(h:Nw PG K P0 ar i6 m0):W PG d wW U st (Zk PG d (.loop wW) (Zs 1 (Zk PG d wX Q))):=
 au @Xyz
def Xn1(h:sm PG K ar ia m0):W PG d Yp8 U st Q:=
 Zl<|q_ J<|f_ H2<|l_ J B0 J J<|Xq J<|Wc H5<|b_ J J Jd<|Yt J<|Xe (g:=83) J (fun c=>z_ 4 J<|Xv J<|Xv J<|Xv J<|Xv J<|z_ 2 J<|e_<|Xh J<|q_ J<|m_<|Zu<|hQ J<|h.1 c)<|fun c=>Zg J<|f_ H2<|Zg J<|l_ J B0 J J<|Zg J<|b_ J J Xf<|Zg J<|Yt J<|Xe (g:=87) J (fun e=>Zg J<|f_ H2<|Zg J<|l_ J B0 J J<|Zg J<|Xq J<|Zg J<|b_ J J Xf<|Zg J<|z_ 2 J<|e_<|Yi J (fun i=>q_ J<|m_<|Zu<|hQ J<|((h.2 c).1 e).1 i)<|fun i=>Ya<|Zl<|q_ J<|f_ H2<|l_ J B0 J J<|Yt J<|Ql (g:=96) J (fun j=>Zg J<|f_ H2<|Zg J<|l_ J B0 J J<|Zg J<|Xq J<|Zg J<|b_ J J Jd<|Zg J<|Yt J<|Xe (g:=101) J (fun o=>z_ 4 J<|Xv J<|Xv J<|Xv J<|nT J<|Zg J<|z_ 2 J<|e_<|Xh J<|q_ J<|m_<|Zu<|hQ J<|((((h.2 c).1 e).2 i).1 j).1 o)<|fun o=>Zg J<|f_ H2<|Zg J<|l_ J B0 J J<|Zg J<|b_ J J Vr<|Zg J<|Yt J<|Xe (g:=105) J (fun r=>Zg J<|f_ H2<|Zg J<|l_ J B0 J J<|Zg J<|b_ J J Vr<|Zg J<|Gz J J<|Zg J<|z_ 2 J<|e_<|Yi J (fun u=>q_ J<|m_<|Zu<|hQ J<|((((((h.2 c).1 e).2 i).1 j).2 o).1 r).1 u)<|fun u=>Ya<|Zl<|q_ J<|m_<|e_<|Yg<|(((((((h.2 c).1 e).2 i).1 j).2 o).1 r).2 u) (Pp PG d Q ar) (fun _ _ hb _ _ _ H1 H2 H6 B0=>W.loop<|Ff hQ (fun _ _ x=>x) H1 H2 H6 B0 hb) _ _ _ H1 H2 J B0)<|fun r=>z_ 3 J<|Zg J<|Vt J J<|Zg J<|z_ 2 J<|e_<|Qp J<|Ya<|Zl<|q_ J<|m_<|e_<|Yg<|((((((h.2 c).1 e).2 i).1 j).2 o).2 r) (Pp PG d Q ar) (fun _ _ hb _ _ _ H1 H2 H6 B0=>W.loop<|Ff hQ (fun _ _ x=>x) H1 H2 H6 B0 hb) _ _ _ H1 H2 J B0)<|fun j=>z_ 5 J<|Xv J<|Xv J<|Xv J<|Xv J<|Xv J<|Xv J<|Xv J<|Xv J<|z_ 2 J<|e_<|Qp J<|Ya<|Zl<|q_ J<|m_<|e_<|Yg<|((((h.2 c).1 e).2 i).2 j) (Pp PG d Q ar) (fun _ _ hb _ _ _ H1 H2 H6 B0=>W.loop<|Ff hQ (fun _ _ x=>x) H1 H2 H6 B0 hb) _ _ _ H1 H2 J B0)<|fun e=>z_ 4 J<|Zg J<|z_ 2 J<|e_<|Qp J<|Ya<|Zl<|q_ J<|f_ H2<|l_ J B0 J J<|Yt J<|Ql (g:=96) J (fun k=>Zg J<|f_ H2<|Zg J<|l_ J B0 J J<|Zg J<|Xq J<|Zg J<|b_ J J Jd<|Zg J<|Yt J<|Xe (g:=101) J (fun p=>z_ 4 J<|Xv J<|Xv J<|Xv J<|nT J<|Zg J<|z_ 2 J<|e_<|Xh J<|q_ J<|m_<|Zu<|hQ J<|(((h.2 c).2 e).1 k).1 p)<|fun p=>Zg J<|f_ H2<|Zg J<|l_ J B0 J J<|Zg J<|b_ J J Vr<|Zg J<|Yt J<|Xe (g:=105) J (fun q=>Zg J<|f_ H2<|Zg J<|l_ J B0 J J<|Zg J<|b_ J J Vr<|Zg J<|Gz J J<|Zg J<|z_ 2 J<|e_<|Yi J (fun s=>q_ J<|m_<|Zu<|hQ J<|(((((h.2 c).2 e).1 k).2 p).1 q).1 s)<|fun s=>Ya<|Zl<|q_ J<|m_<|e_<|Yg<|((((((h.2 c).2 e).1 k).2 p).1 q).2 s) (Pp PG d Q ar) (fun _ _ hb _ _ _ H1 H2 H6 B0=>W.loop<|Ff hQ (fun _ _ x=>x) H1 H2 H6 B0 hb) _ _ _ H1 H2 J B0)<|fun q=>z_ 3 J<|Zg J<|Vt J J<|Zg J<|z_ 2 J<|e_<|Qp J<|Ya<|Zl<|q_ J<|m_<|e_<|Yg<|(((((h.2 c).2 e).1 k).2 p).2 q) (Pp PG d Q ar) (fun _ _ hb _ _ _ H1 H2 H6 B0=>W.loop<|Ff hQ (fun _ _ x=>x) H1 H2 H6 B0 hb) _ _ _ H1 H2 J B0)<|fun k=>z_ 5 J<|Xv J<|Xv J<|Xv J<|Xv J<|Xv J<|Xv J<|Xv J<|Xv J<|z_ 2 J<|e_<|Qp J<|Ya<|Zl<|q_ J<|m_<|e_<|Yg<|(((h.2 c).2 e).2 k) (Pp PG d Q ar) (fun _ _ hb _ _ _ H1 H2 H6 B0=>W.loop<|Ff hQ (fun _ _ x=>x) H1 H2 H6 B0 hb) _ _ _ H1 H2 J B0
include hQ H1 H2 H5 B0 in
theorem Xss(h:sk PG K ar ia m0):W PG d Ygd U st Q:=
 au @Xn1
include hQ H1 H2 H5 B0 in
theorem Xrb(h:EN PG K ar ia m0):W PG d Ydl U st Q:=
 au @Xss
include hQ H1 H2 B0 in
theorem Wbl(h:EM PG K ar m0):W PG d Ykv U st Q:=
 au @Xrb
def Xrp(h:EL PG K ar m0):W PG d Yej U st Q:=
 Zl<|q_ J<|f_ H2<|l_ J B0 J J<|b_ J J Wp<|Yt J<|Xe (g:=57) J (fun c=>z_ 14 J<|e_<|Xh J<|q_ J<|m_<|Zu<|hQ J<|h.1 c)<|fun c=>Zg J<|f_ H2<|Zg J<|l_ J B0 J J<|Zg J<|b_ J J Jd<|z_ 2 J<|Xe (g:=62) J (fun e=>z_ 9 J<|e_<|Xh J<|q_ J<|m_<|Zu<|hQ J<|(h.2 c).1 e)<|fun e=>Zg J<|f_ H2<|Zg J<|l_ J B0 J J<|Zg J<|b_ J J Vr<|z_ 2 J<|Xe (g:=67) J (fun i=>z_ 4 J<|e_<|Xh J<|q_ J<|m_<|Zu<|hQ J<|((h.2 c).2 e).1 i)<|fun i=>Zg J<|f_ H2<|Zg J<|l_ J B0 J J<|Zg J<|b_ J J Rt<|Vt J J<|e_<|Yi J (fun j=>q_ J<|m_<|Zu<|hQ J<|(((h.2 c).2 e).2 i).1 j)<|fun j=>Ya<|Wbl hQ H1 H2 B0<|(((h.2 c).2 e).2 i).2 j
include hQ H1 H2 B0 in
theorem Xlr(h:EK PG K ar m0):W PG d Yp3 U st Q:=
 au @Xrp
include hQ H1 H2 B0 in
theorem Xc1(h:sj PG K ar m0):W PG d Ydy U st Q:=
 au @Xlr
include hQ in
theorem Xdg{v0:Za}{ar:Int}(H0:U 0=v0.av)(H1:U 1=.i .i64 ar)(h:si PG K v0 ar):W PG d Ym1 U st Q:=
 au @Xc1
def U3(hf:PG.fn 110=some sa){v0:Za}(h:si PG K v0 ar):∃aa:Bool,K aa/\Ze PG 110 [v0.av,.i .i64 ar] (.b aa):=
 P1 hf J<|Xdg (h1 J fun _=>J) J J h
end
def Yc7:List AI:=[oM 9 4,oV 10 .add 9 1,oM 4 10]
abbrev Ybj:AC:= (.reg 7 [oM 15 3,oM 16 0,oM 17 4,oX 18 5 16 17,oK 19 5 18,oQ 20 106 [19],oT 21 .add 15 20,oM 3 21])
abbrev qb:AC:= (.seq (sR 3 [oM 5 4,oM 6 0,oJ 7 6,oT 8 .lss 5 7]<|cD 8 .skip<|.exit 0)<|.seq (.block 1<|.seq (sR 5 [oM 11 4,oV 12 .gtr 11 0]<|cD 12 (.reg 6 [oM 13 3,oB 14 .add (.t 13)<|.c<|.s [44,32],oM 3 14]) .skip) Ybj)<|.reg 4 Yc7)
abbrev qc:AC:= (sR 8 [oM 22 3,oM 2 22] .ret)
abbrev Yt4:AC:= (sR 0 [oC 2<|.s []]<|sR 1 [oC 3<|.s []]<|.seq (sR 2 [oI 4 0]<|.block 0<|.loop qb) qc)
def sb:AF:= { nt:=23,res:=[.tmp 2],body:=Yt4 }
abbrev Yo5(PG:Zb)(d:Nat)(Q:Q0)(l0:List Za)(s3:BS)(i4:Int):Prop:=
  ∀(U:Sl)(st:St)(jz:Zr),U 0=.sl jz (List.map Za.row l0)->U 3=.s s3->U 4=.i .i64 i4->W PG d (.loop qb) U st (Zs 0 (Zk PG d qc Q))
def sv(PG:Zb)(K:BS->Prop)(P0:BS->Int->Prop)(l0:List Za)(s3:BS)(i4:Int):Prop:=
  0<=i4/\∃e:Za,l0[(i4).toNat]?=some e/\∃c:BS,Ze PG 106 [e.av] (.s c)/\s3.length+c.length<=Yj/\P0 (s3++c) (IntKind.i64.wrap (i4+1))
def E1(PG:Zb)(K:BS->Prop)(s3:BS):Prop:=
  K s3
section
variable(PG:Zb)(K:BS->Prop)
def su(P0:BS->Int->Prop)(l0:List Za)(s3:BS)(i4:Int):Prop:=
  (i4<(l0.length:Int)->(i4>0->s3.length+([44,32]:BS).length<=Yj/\sv PG K P0 l0 (s3++([44,32]:BS)) i4)/\(¬(i4>0)->sv PG K P0 l0 s3 i4))/\(¬(i4<(l0.length:Int))->E1 PG K s3)
def E0(l0:List Za):Prop:=
  ∀P0:BS->Int->Prop,(∀(s3:BS)(i4:Int),su PG K P0 l0 s3 i4->P0 s3 i4)->P0 ([]:BS) 0
end
section
variable{K:BS->Prop}(hQ:H1 AV.s 2 Q K)
variable{l0:List Za}{s3:BS}{i4:Int}{P0:BS->Int->Prop}{jz:Zr}
variable(aD :∀(s3:BS)(i4:Int),P0 s3 i4->Yo5 PG d Q l0 s3 i4)(H0:U 0=.sl jz (List.map Za.row l0))(H3:U 3=.s s3)(H4:U 4=.i .i64 i4)
include hQ aD H0 H3 H4 in
theorem Ywv(h:sv PG K P0 l0 s3 i4):W PG d Ybj U st (Zs 1 (Zk PG d (.reg 4 Yc7) (Zk PG d (.loop qb) (Zs 0 (Zk PG d qc Q))))):=
 au trivial
include hQ H3 in
theorem Xxd(h:E1 PG K s3):W PG d qc U st Q:=
 au trivial
include hQ aD H0 H3 H4 in
theorem Xlg(h:su PG K P0 l0 s3 i4):W PG d qb U st (Zk PG d (.loop qb) (Zs 0 (Zk PG d qc Q))):=
 au<|And.intro @Ywv @Xxd
def Xt7(h:E0 PG K l0):W PG d Yt4 U st Q:=
 q_ J<|m_<|e_<|q_ J<|m_<|e_<|Zl<|q_ J<|m_<|e_<|Yg<|h (Yo5 PG d Q l0) (fun _ _ hb _ _ _ H0 H3 H4=>W.loop<|Xlg hQ (fun _ _ x=>x) H0 H3 H4 hb) _ _ _ H0 J J
def Xlb(hf:PG.fn 127=some sb)(h:E0 PG K l0):∃aa:BS,K aa/\Ze PG 127 [.sl .ext (List.map Za.row l0)] (.s aa):=
 P1 hf J<|Xt7 (h1 J fun _=>J) J h
end
abbrev Yna:AC:= (sR 0 [oY 1 5 0,oC 2<|.b false]<|sR 1 [oF 3 3 1,oL 4 3,oJ 5 4,oV 6 .eql 5 0,oM 7 6,gT 7<|oF 8 4 1,gT 7<|oL 9 8,gT 7<|oZ 10 9,oA 11 7 10,oM 2 11] .ret)
def sg:AF:= { nt:=12,res:=[.tmp 2],body:=Yna }
def EG(PG:Zb)(K:Bool->Prop)(v0:Za):Prop:=
  ((v0.list.length:Int)=0->K (!v0.cut))/\(¬((v0.list.length:Int)=0)->K false)
section
variable{K:Bool->Prop}(hQ:H1 AV.b 2 Q K)
variable{v0:Za}
variable(H0:U 0=v0.av)
include hQ H0 in
theorem Yyc(h:EG PG K v0):W PG d Yna U st Q:=
 au trivial
def Xvo(hf:PG.fn 136=some sg)(h:EG PG K v0):∃aa:Bool,K aa/\Ze PG 136 [v0.av] (.b aa):=
 P1 hf J<|Yyc (h1 J fun _=>J) J h
end
end Go.AM

namespace Go.AM
open Go
set_option maxRecDepth 4000
set_option maxHeartbeats 2000000
attribute [local irreducible] Decidable.decide W WO Ve Vd
variable{PG:Zb}{d:Nat}{Q:Q0}{U:Sl}{st:St}{kp:Zt}{vp:Nat}{Zp:St}
abbrev Ybe:AC:= (sR 0 [oC 4<|.b false]<|sR 1 [oM 8 0,oN 9 8,oF 10 0 9,oL 11 10,oM 12 1,oQ 13 36 [11,12],oM 7 13,oE 14 0 7,oE 15 1 7,oM 5 14,oM 6 15]<|sR 2 [oM 16 0,oM 17 5,oN 18 16,oF 19 0 18,oS 1 19 17]<|sR 3 [oM 20 6,oM 4 20] .ret)
def Ah:AF:= { nt:=21,res:=[.tmp 4],body:=Ybe }
abbrev Yva(d:Nat)(Zp:St)(kp:Zt)(vp:Nat)(Q:Q0)(K:Bool->Sc->Prop):Prop:=∀(U:Sl)(st:St)(aa:Bool)(b_:Sc),U 4=.b aa->lk st.bx kp=some (vp,[.s b_.left])->Fr d kp Zp.bx Zp.ow st.bx st.ow->K aa b_->Q .ret U st
section
variable(PG:Zb)(K:Bool->Sc->Prop)
def FC(co:BS)(mP:Sc):Prop:=
  ∃c e,Ze PG 36 [.s mP.left,.s co] (.tup [.s c,.b e])/\K e (Sc.mk c)
end
section
variable{K:Bool->Sc->Prop}(hQ:Yva d Zp kp vp Q K)(aC:kp.1<d)
variable{co:BS}{mP:Sc}
variable(H0:U 0=.p kp vp 0)(H1:U 1=.s co)(BP:lk st.bx kp=some (vp,[.s mP.left]))(FR:Fr d kp Zp.bx Zp.ow st.bx st.ow)
def Xh0(h:FC PG K co mP):W PG d Ybe U st Q:=
 q_ J<|m_<|e_<|q_ J<|m_<|Vc H0<|f_ J<|l_ J BP J J<|m_<|x2 h fun _ _ c=>Yh (Wk J H1 J) c.1<|m_<|x_ J J<|x_ J J<|m_<|m_<|e_<|q_ J<|m_<|m_<|Vc H0<|f_ J<|Zy J BP J J J<|e_<|q_ J<|m_<|m_<|Zu<|hQ _ _ _ _ J Zj (Fr.own FR) c.2
def Wdd(hf:PG.fn 128=some Ah)(h:FC PG K co mP):Us PG 128 (Bx [.s mP.left]) [.s co] (fun r (b_:Sc)=>∃aa:Bool,(r=.b aa)/\K aa b_) (fun b_=>(Bx [.s b_.left])):=
  Us.of hf rfl (fun _=>Bx.out) fun d st kp vp aC hB=>Xh0 (Zp:=st) (Q:=fun e U aA=>(e=.normal\/e=.ret)/\∃r b_,Xj U aA Ah.res=some r/\_/\_/\Fr d kp st.bx st.ow aA.bx aA.ow) (fun U aA   aa b_ H4 hb hf hk=>⟨.inr rfl,.b aa,b_,by simp only[Ah,Xj,Wz,H4,Kq,kK],⟨aa,rfl,hk⟩,hb,hf⟩) (U:=Wg [.p kp vp 0,.s co]) rfl rfl hB Fr.refl h
end
abbrev wY:AC:= (.seq (sR 4 [oF 19 3 10,oL 20 19,oJ 21 20,oV 22 .leq 21 16]<|cD 22 .skip<|.exit 0)<|.block 1<|sR 5 [oM 24 0,oM 25 3,oP 26 107 [24,25],oM 23 26,oE 27 0 23,oE 28 1 23,oO 11<|.alloc aX,oS 5 11 27,oM 12 28]<|.seq (sR 6 [oM 29 12,oZ 30 29]<|cD 30 (sR 7 [oK 31 5 10,oS 5 8 31,oC 9<|.b false] .ret) .skip)<|sR 8 [oF 32 3 10,oL 33 32,oK 34 5 11,oO 35<|.bslice aX 1 [(0,(.t 34))],oO 36<|.app 5 64 (.t 33)<|.t 35,oF 37 3 10,oS 1 37 36]<|.seq (sR 9 [oM 38 0,oM 39 2,oP 40 128 [38,39]]<|cD 40 (sR 10 [oK 41 5 10,oS 5 8 41,oC 9<|.b true] .ret) .skip)<|sR 11 [oM 42 0,oO 43<|.call true 128 [(.t 42),(.c<|.s [44,32])],oZ 44 43]<|cD 44 (sR 12 [oK 45 5 10,oS 5 8 45,oC 9<|.b false] .ret) .skip)
abbrev wZ:AC:= (sR 13 [oK 46 5 10,oS 5 8 46,oC 9<|.b false] .ret)
abbrev Ygl:AC:= (sR 0 [oO 8<|.alloc aX,oC 9<|.b false]<|sR 1 [oM 13 1,oO 14<|.build aX [(0,1,(.t 13))],oO 10<|.alloc aX,oS 5 10 14]<|.seq (sR 2 [oM 15 0,oM 16 2,oP 17 128 [15,16]]<|cD 17 (sR 3 [oK 18 5 10,oS 5 8 18,oC 9<|.b true] .ret) .skip)<|.seq (.block 0<|.loop wY) wZ)
def Fs:AF:= { nt:=47,res:=[.cell 8 5 true,.tmp 9],body:=Ygl }
abbrev Xpq(d:Nat)(Zp:St)(kp:Zt)(vp:Nat)(Q:Q0)(K:Za->Bool->Sc->Prop):Prop:=∀(U:Sl)(st:St)(k0:Zt)(v0:Nat)(cc:Zr)(aa:Za)(ae:Bool)(b_:Sc),U 8=.p k0 v0 0->lk st.bx k0=some (v0,Za.co cc aa)->U 9=.b ae->lk st.bx kp=some (vp,[.s b_.left])->Fr d kp Zp.bx Zp.ow st.bx st.ow->K aa ae b_->Q .ret U st
abbrev Yr6(PG:Zb)(d:Nat)(Q:Q0)(Zp:St)(kp:Zt)(vp:Nat)(ct:BS)(fj:Int)(m0 ak:Za)(mP:Sc):Prop:=
  ∀(U:Sl)(st:St)(ey dc:Zr)(v0 fd:Nat),U 0=.p kp vp 0->U 2=.s ct->U 3=.i .i64 fj->U 8=.p (d,0) v0 0->U 10=.p (d,4098) fd 0->Yo d st.ow dc ak.list.length->lk st.bx (d,0)=some (v0,Za.co ey m0)->lk st.bx (d,4098)=some (fd,Za.co dc ak)->lk st.bx kp=some (vp,[.s mP.left])->Fr d kp Zp.bx Zp.ow st.bx st.ow->W PG d (.loop wY) U st (Zs 0 (Zk PG d wZ Q))
def FV(PG:Zb)(K:Za->Bool->Sc->Prop)(m0 ak:Za)(mP:Sc):Prop:=
  K ak false mP
section
variable(PG:Zb)(K:Za->Bool->Sc->Prop)
def sF(P0:Za->Za->Sc->Prop)(ct:BS)(fj:Int)(m0 ak:Za)(mP:Sc):Prop:=
  ((ak.list.length:Int)<=16->∃c:Za,∃o,∃q:Sc,Xc PG 107 (Bx [.s mP.left]) [.i .i64 fj] (fun r=>∃cJ:Zr,r=.tup [c.avo cJ,.b o]) ((Bx [.s q.left]))/\((!o)=true->K ak false q)/\((!o)=false->Ju (ak.list.length+[c].length) 64/\∃e,∃k:Sc,Xc PG 128 (Bx [.s q.left]) [.s ct] (fun r=>r=.b e) ((Bx [.s k.left]))/\(e=true->K (Za.mk ak.kind ak.int ak.text (ak.list++[c]) ak.cut) true k)/\(e=false->∃j,∃p:Sc,Xc PG 128 (Bx [.s k.left]) [.s ([44,32]:BS)] (fun r=>r=.b j) ((Bx [.s p.left]))/\((!j)=true->K (Za.mk ak.kind ak.int ak.text (ak.list++[c]) ak.cut) false p)/\((!j)=false->P0 m0 (Za.mk ak.kind ak.int ak.text (ak.list++[c]) ak.cut) p))))/\(¬((ak.list.length:Int)<=16)->FV PG K m0 ak mP)
def FU(dj:Int)(ct:BS)(fj:Int)(mP:Sc):Prop:=
  ∃e,∃c:Sc,Xc PG 128 (Bx [.s mP.left]) [.s ct] (fun r=>r=.b e) ((Bx [.s c.left]))/\(e=true->K (Za.mk dj 0 [] ([]:List Za) false) true c)/\(e=false->∀P0:Za->Za->Sc->Prop,(∀(m0 ak:Za)(mP:Sc),sF PG K P0 ct fj m0 ak mP->P0 m0 ak mP)->P0 (Za.mk 0 0 [] ([]:List Za) false) (Za.mk dj 0 [] ([]:List Za) false) c)
end
section
variable{K:Za->Bool->Sc->Prop}(hQ:Xpq d Zp kp vp Q K)(aC:kp.1<d)
variable{m0 ak:Za}{mP:Sc}{ey dc:Zr}{v0 fd:Nat}{ct:BS}{fj:Int}{P0:Za->Za->Sc->Prop}{dj:Int}
variable(aD :∀(m0 ak:Za)(mP:Sc),P0 m0 ak mP->Yr6 PG d Q Zp kp vp ct fj m0 ak mP)(H0:U 0=.p kp vp 0)(H1:U 1=.i .u8 dj)(H2:U 2=.s ct)(H3:U 3=.i .i64 fj)(H8:U 8=.p (d,0) v0 0)(aH:U 10=.p (d,4098) fd 0)(cu:Yo d st.ow dc ak.list.length)(B0:lk st.bx (d,0)=some (v0,Za.co ey m0))(cd:lk st.bx (d,4098)=some (fd,Za.co dc ak))(BP:lk st.bx kp=some (vp,[.s mP.left]))(FR:Fr d kp Zp.bx Zp.ow st.bx st.ow)
def Xjx(h:FV PG K m0 ak mP):W PG d wZ U st Q:=
 q_ J<|l_ aH cd J J<|Zy H8 B0 J J J<|m_<|Zu<|hQ _ _ _ _ _ _ _ _ H8 Zj J (Kj aC BP) (Fr.box FR) h
def Yz6(h:sF PG K P0 ct fj m0 ak mP):W PG d wY U st (Zk PG d (.loop wY) (Zs 0 (Zk PG d wZ Q))):=
 Zl<|q_ J<|f_ aH<|l_ J cd J J<|Xq J<|b_ J J Oh<|e_<|Yi J (fun u=>Ya<|Yg<|Zl<|W.reg<|m_<|m_<|x2 (h.1 u) fun a5 _ a3=>a3.elim fun _ k=>Fu (Ye H0<|Ye H3 Yw) k.1 (kV aC) (Kj aC BP)<|fun cJ _ z c=>m_<|x_ J J<|x_ J J<|Xl<|Zy J ((c.1 (d,20486) (kG d)<|Wd aC).trans<|show lk _ (d,20486)=some (_,cS)from Zj) J J J<|m_<|e_<|Zl<|q_ J<|m_<|Wa J<|e_<|Xw J (fun o=>q_ J<|l_ aH (Zm J<|(c.1 (d,4098) (kG d)<|Wd aC).trans<|Zm J cd) J J<|Zy H8 (Zm J<|(c.1 (d,0) (kG d)<|Wd aC).trans<|Zm J B0) J J J<|m_<|Zu<|hQ _ _ _ _ _ _ _ _ H8 Zj J (Kj aC<|Kj aC z) (Fr.box<|Fr.box<|Fr.pass (Fr.box FR) c)<|k.2.1 o)<|fun o=>Ya<|q_ J<|f_ aH<|l_ J (Zm J<|(c.1 (d,4098) (kG d)<|Wd aC).trans<|Zm J cd) J J<|l_ J Zj J J<|Wr (f:=Za.row) (l:=[a5]) J J (Yl J J J Wi) (by simp only[jB,yK,Za.row_eq];rfl)<|Jq Za.row_len J J J ((Yo.call cu c).1) (k.2.2 o).1 J<|fun _ _ a0 r a4=>f_ aH<|Zy J (Zm J<|(c.1 (d,4098) (kG d)<|Wd aC).trans<|Zm J cd) J J J<|e_<|Zl<|q_ J<|m_<|m_<|(k.2.2 o).2.elim fun _ a2=>a2.elim fun _ p=>Wy (Ye H0<|Ye H2 Yw) p.1 (kV aC) (Kj aC<|Kj aC z)<|fun _ x e=>e_<|Xw J (fun v=>q_ J<|l_ aH ((e.1 (d,4098) (kG d)<|Wd aC).trans Zj) J J<|Zy H8 ((e.1 (d,0) (kG d)<|Wd aC).trans<|Zm J<|Zm J<|(c.1 (d,0) (kG d)<|Wd aC).trans<|Zm J B0) J J J<|m_<|Zu<|hQ _ _ _ _ _ _ _ _ H8 Zj J (Kj aC x) (Fr.box<|Fr.pass (Fr.box<|Fr.app (Fr.box<|Fr.pass (Fr.box FR) c) (Yo.call cu c).2 r) e)<|p.2.1 v)<|fun v=>Ya<|q_ J<|m_<|(p.2.2 v).elim fun _ a1=>a1.elim fun _ q=>Wy (Ye H0<|Ye J Yw) q.1 (kV aC) x<|fun _ y j=>Wa J<|e_<|Xw J (fun w=>q_ J<|l_ aH ((j.1 (d,4098) (kG d)<|Wd aC).trans<|(e.1 (d,4098) (kG d)<|Wd aC).trans Zj) J J<|Zy H8 ((j.1 (d,0) (kG d)<|Wd aC).trans<|(e.1 (d,0) (kG d)<|Wd aC).trans<|Zm J<|Zm J<|(c.1 (d,0) (kG d)<|Wd aC).trans<|Zm J B0) J J J<|m_<|Zu<|hQ _ _ _ _ _ _ _ _ H8 Zj J (Kj aC y) (Fr.box<|Fr.pass (Fr.pass (Fr.box<|Fr.app (Fr.box<|Fr.pass (Fr.box FR) c) (Yo.call cu c).2 r) e) j)<|q.2.1 w)<|fun w=>Ya<|aD _ _ _ (q.2.2 w) _ _ _ _ _ _ H0 H2 H3 H8 aH (Yo.call (Yo.call (Yo.mk a0<|Qy.app (Yo.call cu c).2 J a4) e) j) ((j.1 (d,0) (kG d)<|Wd aC).trans<|(e.1 (d,0) (kG d)<|Wd aC).trans<|Zm J<|Zm J<|(c.1 (d,0) (kG d)<|Wd aC).trans<|Zm J B0) ((j.1 (d,4098) (kG d)<|Wd aC).trans<|(e.1 (d,4098) (kG d)<|Wd aC).trans Zj) y<|Fr.pass (Fr.pass (Fr.box<|Fr.app (Fr.box<|Fr.pass (Fr.box FR) c) (Yo.call cu c).2 r) e) j)<|fun u=>Vg<|Xjx hQ aC H8 aH B0 cd BP FR<|h.2 u
def Xee(h:FU PG K dj ct fj mP):W PG d Ygl U st Q:=
 Zl<|W.reg<|Xl<|m_<|e_<|Zl<|W.reg<|m_<|Xb (Yr H1 J Yu)<|Xl<|Zy J (show lk _ (d,4098)=some (_,cS)from Zj) J J J<|e_<|Zl<|q_ J<|m_<|m_<|h.elim fun _ o=>o.elim fun _ e=>Wy (Ye H0<|Ye H2 Yw) e.1 (kV aC) (Kj aC<|Kj aC<|Kj aC BP)<|fun _ k c=>e_<|Xw J (fun j=>q_ J<|l_ J ((c.1 (d,4098) (kG d)<|Wd aC).trans Zj) J J<|Zy J ((c.1 (d,0) (kG d)<|Wd aC).trans<|Zm J<|Zm J<|show lk _ (d,0)=some (_,cS)from Zj) J J J<|m_<|Zu<|hQ _ _ _ _ _ _ _ _ J Zj J (Kj aC k) (Fr.box<|Fr.pass (Fr.box<|Fr.box<|Fr.box FR) c)<|e.2.1 j)<|fun j=>Ya<|Zl<|Yg<|(e.2.2 j) (Yr6 PG d Q Zp kp vp ct fj) (fun _ _ _ hb _ _ _ _ _ _ H0 H2 H3 H8 aH cu B0 cd BP FR=>W.loop<|Yz6 hQ aC (fun _ _ _ x=>x) H0 H2 H3 H8 aH cu B0 cd BP FR hb) _ _ _ _ _ _ H0 H2 H3 J J Yo.full ((c.1 (d,0) (kG d)<|Wd aC).trans<|Zm J<|Zm J<|show lk _ (d,0)=some (_,cS)from Zj) ((c.1 (d,4098) (kG d)<|Wd aC).trans Zj) k<|Fr.pass (Fr.box<|Fr.box<|Fr.box FR) c
def Wbo(hf:PG.fn 129=some Fs)(h:FU PG K dj ct fj mP):Us PG 129 (Bx [.s mP.left]) [.i .u8 dj,.s ct,.i .i64 fj] (fun r (b_:Sc)=>∃aa:Za,∃ae:Bool,(∃iQ:Zr,r=.tup [aa.avo iQ,.b ae])/\K aa ae b_) (fun b_=>(Bx [.s b_.left])):=
  Us.of hf rfl (fun _=>Bx.out) fun d st kp vp aC hB=>Xee (Zp:=st) (Q:=fun e U aA=>(e=.normal\/e=.ret)/\∃r b_,Xj U aA Fs.res=some r/\_/\_/\Fr d kp st.bx st.ow aA.bx aA.ow) (fun U aA k0 v0 iQ aa ae b_ H8 QL H9 hb hf hk=>⟨.inr rfl,.tup [aa.avo iQ,.b ae],b_,by simp only[Fs,Xj,Wz,Jc (n:=5) H8 QL rfl,H9,Km,kK],⟨aa,ae,⟨iQ,rfl⟩,hk⟩,hb,hf⟩) aC (U:=Wg [.p kp vp 0,.i .u8 dj,.s ct,.i .i64 fj]) rfl rfl rfl rfl hB Fr.refl h
end
def Pa:List AI:=[oM 99 0,oP 100 131 [99],oM 98 100,oE 101 0 98,oE 102 1 98,oM 10 101,oM 11 102]
def Pe:List AI:=[oM 103 10,oO 104 (.build aX [(0,1,(.c (.i .u8 2))),(1,1,(.t 103))]),oM 105 11,oS 5 4 104,oM 5 105]
abbrev Ynr:AC:= (cD 42 (sR 14 [oM 46 0,oM 47 1,oV 48 .sub 47 1,oP 49 107 [46,48],oM 45 49,oE 50 0 45,oE 51 1 45,oO 6<|.alloc aX,oS 5 6 50,oM 7 51]<|sR 15 [oK 52 5 6,oO 53<|.bslice aX 1 [(0,(.t 52))],oO 54<|.build aX [(0,1,(.c<|.i .u8 4)),(3,1,(.t 53))],oM 55 7,oS 5 4 54,oM 5 55] .ret)<|sR 16 [oM 57 0,oO 58<|.call true 128 [(.t 57),(.c<|.s [123])],oM 56 58]<|cD 56 (sR 17 [oM 59 0,oM 60 1,oV 61 .sub 60 1,oO 62<|.call true 129 [(.t 59),(.c<|.i .u8 5),(.c<|.s [125]),(.t 61)],oE 63 0 62,oE 64 1 62,oS 5 4 63,oM 5 64] .ret)<|sR 18 [oM 66 0,oO 67<|.call true 128 [(.t 66),(.c<|.s [91])],oM 65 67]<|cD 65 (sR 19 [oM 68 0,oM 69 1,oV 70 .sub 69 1,oO 71<|.call true 129 [(.t 68),(.c<|.i .u8 6),(.c<|.s [93]),(.t 70)],oE 72 0 71,oE 73 1 71,oS 5 4 72,oM 5 73] .ret)<|sR 20 [oM 75 0,oO 76<|.call true 128 [(.t 75),(.c<|.s [60])],oM 74 76]<|cD 74 (sR 21 [oM 77 0,oM 78 1,oV 79 .sub 78 1,oO 80<|.call true 129 [(.t 77),(.c<|.i .u8 7),(.c<|.s [62]),(.t 79)],oE 81 0 80,oE 82 1 80,oS 5 4 81,oM 5 82] .ret)<|sR 22 [oM 84 0,oN 85 84,oF 86 0 85,oL 87 86,oO 88<|.ixS (.t 87)<|.c<|.i .i64 0,oW 89 .eql 88 34,oM 83 89]<|cD 83 (sR 23 [oM 91 0,oP 92 130 [91],oM 90 92,oE 93 0 90,oE 94 1 90,oM 8 93,oM 9 94]<|sR 24 [oM 95 8,oO 96<|.build aX [(0,1,(.c<|.i .u8 3)),(2,1,(.t 95))],oM 97 9,oS 5 4 96,oM 5 97] .ret) .skip)
abbrev Ylt:AC:= (cD 38 (sR 12 [oO 41<|.build aX [(0,1,(.c<|.i .u8 7)),(4,1,(.c<|.b true))],oS 5 4 41,oC 5<|.b true] .ret)<|sR 13 [oM 43 0,oO 44<|.call true 128 [(.t 43),(.c<|.s [38])],oM 42 44] Ynr)
abbrev Yl5:AC:= (cD 34 (sR 10 [oO 37<|.build aX [(0,1,(.c<|.i .u8 4)),(4,1,(.c<|.b true))],oS 5 4 37,oC 5<|.b true] .ret)<|sR 11 [oM 39 0,oO 40<|.call true 128 [(.t 39),(.c<|.s [60,46,46,46,62])],oM 38 40] Ylt)
abbrev Yq3:AC:= (cD 30 (sR 8 [oO 33<|.build aX [(0,1,(.c<|.i .u8 4))],oS 5 4 33,oC 5<|.b true] .ret)<|sR 9 [oM 35 0,oO 36<|.call true 128 [(.t 35),(.c<|.s [38,46,46,46])],oM 34 36] Yl5)
abbrev Yln:AC:= (cD 26 (sR 6 [oO 29<|.build aX [(0,1,(.c<|.i .u8 1))],oS 5 4 29,oC 5<|.b true] .ret)<|sR 7 [oM 31 0,oO 32<|.call true 128 [(.t 31),(.c<|.s [110,105,108])],oM 30 32] Yq3)
abbrev Yta:AC:= (cD 22 (sR 4 [oO 25<|.build aX [(0,1,(.c<|.i .u8 1)),(1,1,(.c<|.i .i64 1))],oS 5 4 25,oC 5<|.b true] .ret)<|sR 5 [oM 27 0,oO 28<|.call true 128 [(.t 27),(.c<|.s pU)],oM 26 28] Yln)
abbrev Ylo:AC:= (.seq (.block 0<|sR 3 [oM 23 0,oO 24<|.call true 128 [(.t 23),(.c<|.s pV)],oM 22 24] Yta)<|sR 25 Pa<|sR 26 Pe .ret)
abbrev Yth:AC:= (.seq (sR 1 [oM 12 1,oV 13 .eql 12 0,oM 14 13,gF 14<|oM 15 0,gF 14<|oN 16 15,gF 14<|oF 17 0 16,gF 14<|oL 18 17,gF 14<|oB 19 .eql (.t 18)<|.c<|.s [],oR 20 14 19]<|cD 20 (sR 2 [oO 21<|.build aX [],oS 5 4 21,oC 5<|.b false] .ret) .skip) Ylo)
abbrev Yfj:AC:= (sR 0 [oO 4<|.alloc aX,oC 5<|.b false] Yth)
def Ek:AF:= { nt:=106,res:=[.cell 4 5 true,.tmp 5],body:=Yfj }
abbrev Xuq(d:Nat)(Zp:St)(kp:Zt)(vp:Nat)(Q:Q0)(K:Za->Bool->Sc->Prop):Prop:=∀(U:Sl)(st:St)(k0:Zt)(v0:Nat)(cc:Zr)(aa:Za)(ae:Bool)(b_:Sc),U 4=.p k0 v0 0->lk st.bx k0=some (v0,Za.co cc aa)->U 5=.b ae->lk st.bx kp=some (vp,[.s b_.left])->Fr d kp Zp.bx Zp.ow st.bx st.ow->K aa ae b_->Q .ret U st
section
variable(PG:Zb)(K:Za->Bool->Sc->Prop)
def F3(bg:Int)(t42:Bool)(m0:Za)(mP:Sc):Prop:=
  (t42=true->∃e:Za,∃c,∃a2:Sc,Xc PG 107 (Bx [.s mP.left]) [.i .i64 (IntKind.i64.wrap (bg-1))] (fun r=>∃cJ:Zr,r=.tup [e.avo cJ,.b c]) ((Bx [.s a2.left]))/\K (Za.mk 4 0 [] [e] false) c a2)/\(t42=false->∃u,∃q:Sc,Xc PG 128 (Bx [.s mP.left]) [.s ([123]:BS)] (fun r=>r=.b u) ((Bx [.s q.left]))/\(u=true->∃z:Za,∃x,∃a4:Sc,Xc PG 129 (Bx [.s q.left]) [.i .u8 5,.s ([125]:BS),.i .i64 (IntKind.i64.wrap (bg-1))] (fun r=>∃gQ:Zr,r=.tup [z.avo gQ,.b x]) ((Bx [.s a4.left]))/\K z x a4)/\(u=false->∃k,∃p:Sc,Xc PG 128 (Bx [.s q.left]) [.s ([91]:BS)] (fun r=>r=.b k) ((Bx [.s p.left]))/\(k=true->∃w:Za,∃a3,∃a8:Sc,Xc PG 129 (Bx [.s p.left]) [.i .u8 6,.s ([93]:BS),.i .i64 (IntKind.i64.wrap (bg-1))] (fun r=>∃gR:Zr,r=.tup [w.avo gR,.b a3]) ((Bx [.s a8.left]))/\K w a3 a8)/\(k=false->∃o,∃j:Sc,Xc PG 128 (Bx [.s p.left]) [.s ([60]:BS)] (fun r=>r=.b o) ((Bx [.s j.left]))/\(o=true->∃a0:Za,∃a9,∃a7:Sc,Xc PG 129 (Bx [.s j.left]) [.i .u8 7,.s ([62]:BS),.i .i64 (IntKind.i64.wrap (bg-1))] (fun r=>∃gS:Zr,r=.tup [a0.avo gS,.b a9]) ((Bx [.s a7.left]))/\K a0 a9 a7)/\(o=false->∃v:UInt8,j.left[0]?=some v/\((v.toNat:Int)=34->∃a5 a1,∃b0:Sc,Xc PG 130 (Bx [.s j.left]) [] (fun r=>r=.tup [.s a5,.b a1]) ((Bx [.s b0.left]))/\K (Za.mk 3 0 a5 ([]:List Za) false) a1 b0)/\(¬((v.toNat:Int)=34)->∃y a6,∃b1:Sc,Xc PG 131 (Bx [.s j.left]) [] (fun r=>r=.tup [.i .i64 y,.b a6]) ((Bx [.s b1.left]))/\K (Za.mk 2 y [] ([]:List Za) false) a6 b1)))))
def F2(bg:Int)(t38:Bool)(m0:Za)(mP:Sc):Prop:=
  (t38=true->K (Za.mk 7 0 [] ([]:List Za) true) true mP)/\(t38=false->∃e,∃c:Sc,Xc PG 128 (Bx [.s mP.left]) [.s ([38]:BS)] (fun r=>r=.b e) ((Bx [.s c.left]))/\F3 PG K bg e m0 c)
def F1(bg:Int)(t34:Bool)(m0:Za)(mP:Sc):Prop:=
  (t34=true->K (Za.mk 4 0 [] ([]:List Za) true) true mP)/\(t34=false->∃e,∃c:Sc,Xc PG 128 (Bx [.s mP.left]) [.s ([60,46,46,46,62]:BS)] (fun r=>r=.b e) ((Bx [.s c.left]))/\F2 PG K bg e m0 c)
def FZ(bg:Int)(t30:Bool)(m0:Za)(mP:Sc):Prop:=
  (t30=true->K (Za.mk 4 0 [] ([]:List Za) false) true mP)/\(t30=false->∃e,∃c:Sc,Xc PG 128 (Bx [.s mP.left]) [.s ([38,46,46,46]:BS)] (fun r=>r=.b e) ((Bx [.s c.left]))/\F1 PG K bg e m0 c)
def FY(bg:Int)(t26:Bool)(m0:Za)(mP:Sc):Prop:=
  (t26=true->K (Za.mk 1 0 [] ([]:List Za) false) true mP)/\(t26=false->∃e,∃c:Sc,Xc PG 128 (Bx [.s mP.left]) [.s ([110,105,108]:BS)] (fun r=>r=.b e) ((Bx [.s c.left]))/\FZ PG K bg e m0 c)
def FX(bg:Int)(t22:Bool)(m0:Za)(mP:Sc):Prop:=
  (t22=true->K (Za.mk 1 1 [] ([]:List Za) false) true mP)/\(t22=false->∃e,∃c:Sc,Xc PG 128 (Bx [.s mP.left]) [.s ([102,97,108,115,101]:BS)] (fun r=>r=.b e) ((Bx [.s c.left]))/\FY PG K bg e m0 c)
def FW(bg:Int)(m0:Za)(mP:Sc):Prop:=
  ∃e,∃c:Sc,Xc PG 128 (Bx [.s mP.left]) [.s ([116,114,117,101]:BS)] (fun r=>r=.b e) ((Bx [.s c.left]))/\FX PG K bg e m0 c
def sH(bg:Int)(m0:Za)(mP:Sc):Prop:=
  (bg=0->K (Za.mk 0 0 [] ([]:List Za) false) false mP)/\(¬(bg=0)->(mP.left=([]:BS)->K (Za.mk 0 0 [] ([]:List Za) false) false mP)/\(¬(mP.left=([]:BS))->FW PG K bg m0 mP))
def sG(bg:Int)(mP:Sc):Prop:=
  sH PG K bg (Za.mk 0 0 [] ([]:List Za) false) mP
end
section
variable{K:Za->Bool->Sc->Prop}(hQ:Xuq d Zp kp vp Q K)(aC:kp.1<d)
variable{bg:Int}{t42:Bool}{m0:Za}{mP:Sc}{ey:Zr}{v0:Nat}{t38 t34 t30 t26 t22:Bool}
variable(H0:U 0=.p kp vp 0)(H1:U 1=.i .i64 bg)(H4:U 4=.p (d,0) v0 0)(H42:U 42=.b t42)(H38:U 38=.b t38)(H34:U 34=.b t34)(H30:U 30=.b t30)(H26:U 26=.b t26)(H22:U 22=.b t22)(B0:lk st.bx (d,0)=some (v0,Za.co ey m0))(BP:lk st.bx kp=some (vp,[.s mP.left]))(FR:Fr d kp Zp.bx Zp.ow st.bx st.ow)
def Xog(h:F3 PG K bg t42 m0 mP):W PG d Ynr U st (Zs 0 (Zk PG d (sR 25 Pa (sR 26 Pe .ret)) Q)):=
 Xw H42 (fun u=>Zl<|W.reg<|m_<|m_<|b_ H1 J Ms<|x2 (h.1 u) fun c9 _ b3=>b3.elim fun _ a2=>Fu (Ye H0<|Ye J Yw) a2.1 (kV aC) (Kj aC BP)<|fun cJ _ c5 z=>m_<|x_ J J<|x_ J J<|Xl<|Zy J ((z.1 (d,57351) (kG d)<|Wd aC).trans<|show lk _ (d,57351)=some (_,cS)from Zj) J J J<|m_<|e_<|q_ J<|l_ J Zj J J<|Wr (f:=Za.row) (l:=[c9]) J J (Yl J J J Wi) (by simp only[jB,yK,Za.row_eq];rfl)<|Xb (Yr J J<|Yr J J Yu)<|m_<|Zy H4 (Zm J<|(z.1 (d,0) (kG d)<|Wd aC).trans<|Zm J B0) J J J<|m_<|Zu<|hQ _ _ _ _ _ _ _ _ H4 Zj J (Kj aC<|Kj aC c5) (Fr.box<|Fr.box<|Fr.pass (Fr.box FR) z) a2.2)<|fun u=>q_ J<|m_<|(h.2 u).elim fun _ c1=>c1.elim fun _ o=>Wy (Ye H0<|Ye J Yw) o.1 (kV aC) BP<|fun _ a6 c=>m_<|e_<|Xw J (fun v=>q_ J<|m_<|m_<|b_ H1 J Ms<|x2 (o.2.1 v) fun _ _ b4=>b4.elim fun _ a0=>Fu (Ye H0<|Ye J<|Ye J<|Ye J Yw) a0.1 (kV aC) a6<|fun gQ _ c2 a8=>x_ J J<|x_ J J<|Zy H4 ((a8.1 (d,0) (kG d)<|Wd aC).trans<|(c.1 (d,0) (kG d)<|Wd aC).trans B0) J J J<|m_<|Zu<|hQ _ _ _ _ _ _ _ _ H4 Zj J (Kj aC c2) (Fr.box<|Fr.pass (Fr.pass FR c) a8) a0.2)<|fun v=>q_ J<|m_<|(o.2.2 v).elim fun _ c0=>c0.elim fun _ p=>Wy (Ye H0<|Ye J Yw) p.1 (kV aC) a6<|fun _ a7 e=>m_<|e_<|Xw J (fun w=>q_ J<|m_<|m_<|b_ H1 J Ms<|x2 (p.2.1 w) fun _ _ b5=>b5.elim fun _ a1=>Fu (Ye H0<|Ye J<|Ye J<|Ye J Yw) a1.1 (kV aC) a7<|fun gR _ c3 a9=>x_ J J<|x_ J J<|Zy H4 ((a9.1 (d,0) (kG d)<|Wd aC).trans<|(e.1 (d,0) (kG d)<|Wd aC).trans<|(c.1 (d,0) (kG d)<|Wd aC).trans B0) J J J<|m_<|Zu<|hQ _ _ _ _ _ _ _ _ H4 Zj J (Kj aC c3) (Fr.box<|Fr.pass (Fr.pass (Fr.pass FR c) e) a9) a1.2)<|fun w=>q_ J<|m_<|(p.2.2 w).elim fun _ b9=>b9.elim fun _ q=>Wy (Ye H0<|Ye J Yw) q.1 (kV aC) a7<|fun _ k j=>m_<|e_<|Xw J (fun x=>q_ J<|m_<|m_<|b_ H1 J Ms<|x2 (q.2.1 x) fun _ _ b6=>b6.elim fun _ a3=>Fu (Ye H0<|Ye J<|Ye J<|Ye J Yw) a3.1 (kV aC) k<|fun gS _ c4 b0=>x_ J J<|x_ J J<|Zy H4 ((b0.1 (d,0) (kG d)<|Wd aC).trans<|(j.1 (d,0) (kG d)<|Wd aC).trans<|(e.1 (d,0) (kG d)<|Wd aC).trans<|(c.1 (d,0) (kG d)<|Wd aC).trans B0) J J J<|m_<|Zu<|hQ _ _ _ _ _ _ _ _ H4 Zj J (Kj aC c4) (Fr.box<|Fr.pass (Fr.pass (Fr.pass (Fr.pass FR c) e) j) b0) a3.2)<|fun x=>q_ J<|m_<|Vc H0<|f_ J<|l_ J k J J<|(q.2.2 x).elim fun _ r=>Qj J J (by decide) r.1<|b_ J J Xf<|m_<|e_<|Yi J (fun y=>q_ J<|m_<|x2 (r.2.1 y) fun _ _ b7=>b7.elim fun _ a4=>Wy (Ye H0 Yw) a4.1 (kV aC) k<|fun _ c6 b1=>m_<|x_ J J<|x_ J J<|m_<|m_<|e_<|q_ J<|m_<|Xb (Yr J J<|Yr J J Yu)<|m_<|Zy H4 ((b1.1 (d,0) (kG d)<|Wd aC).trans<|(j.1 (d,0) (kG d)<|Wd aC).trans<|(e.1 (d,0) (kG d)<|Wd aC).trans<|(c.1 (d,0) (kG d)<|Wd aC).trans B0) J J J<|m_<|Zu<|hQ _ _ _ _ _ _ _ _ H4 Zj J (Kj aC c6) (Fr.box<|Fr.pass (Fr.pass (Fr.pass (Fr.pass FR c) e) j) b1) a4.2)<|fun y=>Ya<|q_ J<|m_<|x2 (r.2.2 y) fun _ _ b8=>b8.elim fun _ a5=>Wy (Ye H0 Yw) a5.1 (kV aC) k<|fun _ c7 b2=>m_<|x_ J J<|x_ J J<|m_<|m_<|e_<|q_ J<|m_<|Xb (Yr J J<|Yr J J Yu)<|m_<|Zy H4 ((b2.1 (d,0) (kG d)<|Wd aC).trans<|(j.1 (d,0) (kG d)<|Wd aC).trans<|(e.1 (d,0) (kG d)<|Wd aC).trans<|(c.1 (d,0) (kG d)<|Wd aC).trans B0) J J J<|m_<|Zu<|hQ _ _ _ _ _ _ _ _ H4 Zj J (Kj aC c7) (Fr.box<|Fr.pass (Fr.pass (Fr.pass (Fr.pass FR c) e) j) b2) a5.2
def Xmz(h:F2 PG K bg t38 m0 mP):W PG d Ylt U st (Zs 0 (Zk PG d (sR 25 Pa (sR 26 Pe .ret)) Q)):=
 Xw H38 (fun c=>q_ J<|Xb (Yr J J<|Yr J J Yu)<|Zy H4 B0 J J J<|m_<|Zu<|hQ _ _ _ _ _ _ _ _ H4 Zj J (Kj aC BP) (Fr.box FR)<|h.1 c)<|fun c=>q_ J<|m_<|(h.2 c).elim fun _ j=>j.elim fun _ e=>Wy (Ye H0<|Ye J Yw) e.1 (kV aC) BP<|fun _ k i=>m_<|e_<|Xog hQ aC H0 H1 H4 J ((i.1 (d,0) (kG d)<|Wd aC).trans B0) k (Fr.pass FR i) e.2
def Xa9(h:F1 PG K bg t34 m0 mP):W PG d Yl5 U st (Zs 0 (Zk PG d (sR 25 Pa (sR 26 Pe .ret)) Q)):=
 Xw H34 (fun c=>q_ J<|Xb (Yr J J<|Yr J J Yu)<|Zy H4 B0 J J J<|m_<|Zu<|hQ _ _ _ _ _ _ _ _ H4 Zj J (Kj aC BP) (Fr.box FR)<|h.1 c)<|fun c=>q_ J<|m_<|(h.2 c).elim fun _ j=>j.elim fun _ e=>Wy (Ye H0<|Ye J Yw) e.1 (kV aC) BP<|fun _ k i=>m_<|e_<|Xmz hQ aC H0 H1 H4 J ((i.1 (d,0) (kG d)<|Wd aC).trans B0) k (Fr.pass FR i) e.2
def Xge(h:FZ PG K bg t30 m0 mP):W PG d Yq3 U st (Zs 0 (Zk PG d (sR 25 Pa (sR 26 Pe .ret)) Q)):=
 Xw H30 (fun c=>q_ J<|Xb (Yr J J Yu)<|Zy H4 B0 J J J<|m_<|Zu<|hQ _ _ _ _ _ _ _ _ H4 Zj J (Kj aC BP) (Fr.box FR)<|h.1 c)<|fun c=>q_ J<|m_<|(h.2 c).elim fun _ j=>j.elim fun _ e=>Wy (Ye H0<|Ye J Yw) e.1 (kV aC) BP<|fun _ k i=>m_<|e_<|Xa9 hQ aC H0 H1 H4 J ((i.1 (d,0) (kG d)<|Wd aC).trans B0) k (Fr.pass FR i) e.2
def Xe2(h:FY PG K bg t26 m0 mP):W PG d Yln U st (Zs 0 (Zk PG d (sR 25 Pa (sR 26 Pe .ret)) Q)):=
 Xw H26 (fun c=>q_ J<|Xb (Yr J J Yu)<|Zy H4 B0 J J J<|m_<|Zu<|hQ _ _ _ _ _ _ _ _ H4 Zj J (Kj aC BP) (Fr.box FR)<|h.1 c)<|fun c=>q_ J<|m_<|(h.2 c).elim fun _ j=>j.elim fun _ e=>Wy (Ye H0<|Ye J Yw) e.1 (kV aC) BP<|fun _ k i=>m_<|e_<|Xge hQ aC H0 H1 H4 J ((i.1 (d,0) (kG d)<|Wd aC).trans B0) k (Fr.pass FR i) e.2
def Xze(h:FX PG K bg t22 m0 mP):W PG d Yta U st (Zs 0 (Zk PG d (sR 25 Pa (sR 26 Pe .ret)) Q)):=
 Xw H22 (fun c=>q_ J<|Xb (Yr J J<|Yr J J Yu)<|Zy H4 B0 J J J<|m_<|Zu<|hQ _ _ _ _ _ _ _ _ H4 Zj J (Kj aC BP) (Fr.box FR)<|h.1 c)<|fun c=>q_ J<|m_<|(h.2 c).elim fun _ j=>j.elim fun _ e=>Wy (Ye H0<|Ye J Yw) e.1 (kV aC) BP<|fun _ k i=>m_<|e_<|Xe2 hQ aC H0 H1 H4 J ((i.1 (d,0) (kG d)<|Wd aC).trans B0) k (Fr.pass FR i) e.2
def Xcr(h:FW PG K bg m0 mP):W PG d Ylo U st Q:=
 Zl<|Yg<|q_ J<|m_<|h.elim fun _ i=>i.elim fun _ c=>Wy (Ye H0<|Ye J Yw) c.1 (kV aC) BP<|fun _ j e=>m_<|e_<|Xze hQ aC H0 H1 H4 J ((e.1 (d,0) (kG d)<|Wd aC).trans B0) j (Fr.pass FR e) c.2
def Xn0(h:sH PG K bg m0 mP):W PG d Yth U st Q:=
 Zl<|q_ J<|Wc H1<|b_ J J Xf<|Yt J<|Xe (g:=14) J (fun c=>z_ 6 J<|e_<|Xh J<|q_ J<|Xb Yu<|Zy H4 B0 J J J<|m_<|Zu<|hQ _ _ _ _ _ _ _ _ H4 Zj J (Kj aC BP) (Fr.box FR)<|h.1 c)<|fun c=>Zg J<|Jb H0<|Zg J<|Vc J<|Zg J<|f_ J<|Zg J<|l_ J BP J J<|Zg J<|b_ J J Bf<|Vt J J<|e_<|Yi J (fun e=>q_ J<|Xb Yu<|Zy H4 B0 J J J<|m_<|Zu<|hQ _ _ _ _ _ _ _ _ H4 Zj J (Kj aC BP) (Fr.box FR)<|(h.2 c).1 e)<|fun e=>Ya<|Xcr hQ aC H0 H1 H4 B0 BP FR<|(h.2 c).2 e
def Xou(h:sG PG K bg mP):W PG d Yfj U st Q:=
 Zl<|W.reg<|Xl<|m_<|e_<|Xn0 (m0:=(Za.mk 0 0 [] ([]:List Za) false)) hQ aC H0 H1 J (show lk _ (d,0)=some (_,cS)from Zj) (Kj aC BP) (Fr.box FR) h
def VO(hf:PG.fn 107=some Ek)(h:sG PG K bg mP):Us PG 107 (Bx [.s mP.left]) [.i .i64 bg] (fun r (b_:Sc)=>∃aa:Za,∃ae:Bool,(∃iQ:Zr,r=.tup [aa.avo iQ,.b ae])/\K aa ae b_) (fun b_=>(Bx [.s b_.left])):=
  Us.of hf rfl (fun _=>Bx.out) fun d st kp vp aC hB=>Xou (Zp:=st) (Q:=fun e U aA=>(e=.normal\/e=.ret)/\∃r b_,Xj U aA Ek.res=some r/\_/\_/\Fr d kp st.bx st.ow aA.bx aA.ow) (fun U aA k0 v0 iQ aa ae b_ H4 gU H5 hb hf hk=>⟨.inr rfl,.tup [aa.avo iQ,.b ae],b_,by simp only[Ek,Xj,Wz,Jc (n:=5) H4 gU rfl,H5,Km,kK],⟨aa,ae,⟨iQ,rfl⟩,hk⟩,hb,hf⟩) aC (U:=Wg [.p kp vp 0,.i .i64 bg]) rfl rfl hB Fr.refl h
end
abbrev b74:AC:= (sR 0 [oO 2<|.alloc aX,oI 3 0]<|.seq (sR 1 [oM 9 0,oH 10 9,oV 11 .gtr 10 1400000]<|cD 11 (sR 2 [oO 12<|.build aX [],oS 5 2 12,oI 3 4] .ret) .skip)<|sR 3 [oM 13 0,oO 14<|.build [zs] [(0,1,(.t 13))],oY 15 1 14,oM 4 15]<|sR 4 [oM 17 4,oO 18<|.call true 107 [(.t 17),(.c<|.i .i64 130)],oM 16 18,oE 19 0 16,oE 20 1 16,oO 5<|.alloc aX,oS 5 5 19,oM 6 20]<|.seq (sR 5 [oM 21 6,oZ 22 21,oM 23 22,gF 23<|oM 24 4,gF 23<|oN 25 24,gF 23<|oF 26 0 25,gF 23<|oL 27 26,gF 23<|oB 28 .neq (.t 27)<|.c<|.s [],oR 29 23 28]<|cD 29 (sR 6 [oO 30<|.build aX [],oS 5 2 30,oI 3 12] .ret) .skip)<|.seq (sR 7 [oK 32 5 5,oQ 33 72 [32],oM 31 33,oE 34 0 31,oE 35 1 31,oM 7 34,oM 8 35]<|sR 8 [oM 36 8,oV 37 .neq 36 0,oM 38 37,gF 38<|oM 39 7,gF 38<|oM 40 0,gF 38<|oT 41 .neq 39 40,oR 42 38 41]<|cD 42 (sR 9 [oO 43<|.build aX [],oS 5 2 43,oI 3 12] .ret) .skip)<|sR 10 [oK 44 5 5,oS 5 2 44,oI 3 0] .ret)
def nP:AF:= { nt:=45,res:=[.cell 2 5 true,.tmp 3],body:=b74 }
abbrev H74(Q:Q0)(K:Za->Int->Prop):Prop:=∀(U:Sl)(st:St)(k0:Zt)(v0:Nat)(cc:Zr)(aa:Za)(ae:Int),U 2=.p k0 v0 0->lk st.bx k0=some (v0,Za.co cc aa)->U 3=.i .i64 ae->K aa ae->Q .ret U st
section
variable(PG:Zb)(K:Za->Int->Prop)
def F4(s0:BS):Prop:=
  ((s0.length:Int)>1400000->K (Za.mk 0 0 [] ([]:List Za) false) 4)/\(¬((s0.length:Int)>1400000)->∃k:Za,∃e,∃j:Sc,Xc PG 107 (Bx [.s s0]) [.i .i64 130] (fun r=>∃cJ:Zr,r=.tup [k.avo cJ,.b e]) ((Bx [.s j.left]))/\((!e)=true->K (Za.mk 0 0 [] ([]:List Za) false) 12)/\((!e)=false->(j.left≠([]:BS)->K (Za.mk 0 0 [] ([]:List Za) false) 12)/\(¬(j.left≠([]:BS))->∃o c,Ze PG 72 [k.av] (.tup [.s o,.i .i64 c])/\(c≠0->K (Za.mk 0 0 [] ([]:List Za) false) 12)/\(¬(c≠0)->(o≠s0->K (Za.mk 0 0 [] ([]:List Za) false) 12)/\(¬(o≠s0)->K k 0)))))
end
section
variable{K:Za->Int->Prop}(hQ:H74 Q K)
variable{s0:BS}
variable(H0:U 0=.s s0)
def Yvv(h:F4 PG K s0):W PG d b74 U st Q:=
 Zl<|W.reg<|Xl<|m_<|e_<|Zl<|q_ J<|m_<|Qb H0<|b_ J J Jd<|e_<|Yi J (fun p=>q_ J<|Xb Yu<|Zy J (show lk _ (d,0)=some (_,cS)from Zj) J J J<|m_<|Zu<|hQ _ _ _ _ _ _ _ J Zj J<|h.1 p)<|fun p=>Ya<|q_ J<|m_<|Xb (Yr H0 J Yu)<|Jw J J<|m_<|e_<|Zl<|W.reg<|m_<|x2 (h.2 p) fun _ _ u=>u.elim fun _ j=>Fu (Ye J<|Ye J Yw) j.1 (kG d) (Zm J Zj)<|fun cJ _ v c=>m_<|x_ J J<|x_ J J<|Xl<|Zy J ((c.1 (d,16389) (kG d)<|Wx J).trans<|show lk _ (d,16389)=some (_,cS)from Zj) J J J<|m_<|e_<|Zl<|q_ J<|Yt J<|Wa J<|Yt J<|Ql (g:=23) J (fun k=>z_ 6 J<|e_<|Xh J<|q_ J<|Xb Yu<|Zy J (Zm J<|(c.1 (d,0) (kG d)<|Wx J).trans<|Zm J<|Zm J<|show lk _ (d,0)=some (_,cS)from Zj) J J J<|m_<|Zu<|hQ _ _ _ _ _ _ _ J Zj J<|j.2.1 k)<|fun k=>Zg J<|Jb J<|Zg J<|Vc J<|Zg J<|f_ J<|Zg J<|l_ J (Zm J v) J J<|Zg J<|b_ J J Rt<|Vt J J<|e_<|Yi J (fun q=>q_ J<|Xb Yu<|Zy J (Zm J<|(c.1 (d,0) (kG d)<|Wx J).trans<|Zm J<|Zm J<|show lk _ (d,0)=some (_,cS)from Zj) J J J<|m_<|Zu<|hQ _ _ _ _ _ _ _ J Zj J<|(j.2.2 k).1 q)<|fun q=>Ya<|Zl<|q_ J<|l_ J Zj J J<|x2 ((j.2.2 k).2 q) fun _ _ e=>Yh (Xu J J) e.1<|m_<|x_ J J<|x_ J J<|m_<|m_<|e_<|q_ J<|Wc J<|b_ J J Vr<|Yt J<|Xe (g:=38) J (fun o=>z_ 4 J<|e_<|Xh J<|q_ J<|Xb Yu<|Zy J (Zm J<|(c.1 (d,0) (kG d)<|Wx J).trans<|Zm J<|Zm J<|show lk _ (d,0)=some (_,cS)from Zj) J J J<|m_<|Zu<|hQ _ _ _ _ _ _ _ J Zj J<|e.2.1 o)<|fun o=>Zg J<|Ki J<|Zg J<|Ki H0<|Zg J<|b_ J J Rt<|Vt J J<|e_<|Yi J (fun r=>q_ J<|Xb Yu<|Zy J (Zm J<|(c.1 (d,0) (kG d)<|Wx J).trans<|Zm J<|Zm J<|show lk _ (d,0)=some (_,cS)from Zj) J J J<|m_<|Zu<|hQ _ _ _ _ _ _ _ J Zj J<|(e.2.2 o).1 r)<|fun r=>Ya<|q_ J<|l_ J Zj J J<|Zy J (Zm J<|(c.1 (d,0) (kG d)<|Wx J).trans<|Zm J<|Zm J<|show lk _ (d,0)=some (_,cS)from Zj) J J J<|m_<|Zu<|hQ _ _ _ _ _ _ _ J Zj J<|(e.2.2 o).2 r
theorem p74(hf:PG.fn 74=some nP)(h:F4 PG K s0):∃aa:Za,∃ae:Int,K aa ae/\Ze PG 74 [.s s0] (.tup [aa.av,.i .i64 ae]):=by
  obtain⟨v,hv,aa,ae,hk,rfl⟩:=Ze.of (K:=fun v=>∃aa:Za,∃ae:Int,K aa ae/\v=.tup [aa.av,.i .i64 ae]) hf rfl (Yvv (U:=Wg [.s s0]) (fun U st k0 v0 cc aa ae H2 dT H3 hk=>⟨.tup [aa.avo cc,.i .i64 ae],by simp only[nP,Xj,Wz,Jc (n:=5) H2 dT rfl,H3,Km,kK],_,rfl,aa,ae,hk,rfl⟩) rfl h)
  exact⟨aa,ae,hk,hv⟩
end
abbrev b75:AC:= (sR 0 [oO 2<|.alloc aX,oI 3 0]<|.seq (sR 1 [oM 7 0,oH 8 7,oV 9 .gtr 8 1400000]<|cD 9 (sR 2 [oO 10<|.build aX [],oS 5 2 10,oI 3 4] .ret) .skip)<|sR 3 [oM 12 0,oO 13<|.call false 108 [(.t 12),(.c<|.i .i64 130)],oM 11 13,oE 14 0 11,oE 15 1 11,oE 16 2 11,oO 4<|.alloc aX,oS 5 4 14,oM 5 15,oM 6 16]<|.seq (sR 4 [oM 17 6,oZ 18 17,oM 19 18,gF 19<|oM 20 5,gF 19<|oB 21 .neq (.t 20)<|.c<|.s [],oR 22 19 21,oM 23 22,gF 23<|oK 24 5 4,gF 23<|oQ 25 77 [24],gF 23<|oV 26 .neq 25 0,oR 27 23 26,oM 28 27,gF 28<|oK 29 5 4,gF 28<|oQ 30 106 [29],gF 28<|oM 31 0,gF 28<|oT 32 .neq 30 31,oR 33 28 32]<|cD 33 (sR 5 [oO 34<|.build aX [],oS 5 2 34,oI 3 12] .ret) .skip)<|sR 6 [oK 35 5 4,oS 5 2 35,oI 3 0] .ret)
def nQ:AF:= { nt:=36,res:=[.cell 2 5 true,.tmp 3],body:=b75 }
abbrev H75(Q:Q0)(K:Za->Int->Prop):Prop:=∀(U:Sl)(st:St)(k0:Zt)(v0:Nat)(cc:Zr)(aa:Za)(ae:Int),U 2=.p k0 v0 0->lk st.bx k0=some (v0,Za.co cc aa)->U 3=.i .i64 ae->K aa ae->Q .ret U st
section
variable(PG:Zb)(K:Za->Int->Prop)
def GG(s0:BS):Prop:=
  ((s0.length:Int)>1400000->K (Za.mk 0 0 [] ([]:List Za) false) 4)/\(¬((s0.length:Int)>1400000)->∃c:Za,∃k e,Ze PG 108 [.s s0,.i .i64 130] (.tup [c.av,.s k,.b e])/\((!e)=true->K (Za.mk 0 0 [] ([]:List Za) false) 12)/\((!e)=false->(k≠([]:BS)->K (Za.mk 0 0 [] ([]:List Za) false) 12)/\(¬(k≠([]:BS))->∃o,Ze PG 77 [c.av] (.i .i64 o)/\(o≠0->K (Za.mk 0 0 [] ([]:List Za) false) 12)/\(¬(o≠0)->∃j,Ze PG 106 [c.av] (.s j)/\(j≠s0->K (Za.mk 0 0 [] ([]:List Za) false) 12)/\(¬(j≠s0)->K c 0)))))
end
section
variable{K:Za->Int->Prop}(hQ:H75 Q K)
variable{s0:BS}
variable(H0:U 0=.s s0)
include hQ H0 in
theorem Xwo(h:GG PG K s0):W PG d b75 U st Q:=
 au trivial
theorem p75(hf:PG.fn 75=some nQ)(h:GG PG K s0):∃aa:Za,∃ae:Int,K aa ae/\Ze PG 75 [.s s0] (.tup [aa.av,.i .i64 ae]):=by
  obtain⟨v,hv,aa,ae,hk,rfl⟩:=Ze.of (K:=fun v=>∃aa:Za,∃ae:Int,K aa ae/\v=.tup [aa.av,.i .i64 ae]) hf rfl (Xwo (U:=Wg [.s s0]) (fun U st k0 v0 cc aa ae H2 dT H3 hk=>⟨.tup [aa.avo cc,.i .i64 ae],by simp only[nQ,Xj,Wz,Jc (n:=5) H2 dT rfl,H3,Km,kK],_,rfl,aa,ae,hk,rfl⟩) rfl h)
  exact⟨aa,ae,hk,hv⟩
end
def QM:List AI:=[oM 120 0,oQ 121 135 [120],oM 16 121]
def QN:List AI:=[oM 123 0,oM 124 16,oO 125 (.slS (.t 123) none (some (.t 124))),oQ 126 22 [125],oM 122 126,oE 127 0 122,oE 128 1 122,oM 17 127,oM 18 128]
def QO:List AI:=[oM 129 17,oO 130 (.build aX [(0,1,(.c (.i .u8 2))),(1,1,(.t 129))]),oM 131 0,oM 132 16,oO 133 (.slS (.t 131) (some (.t 132)) none),oM 134 18,oV 135 .eql 134 0,oS 5 4 130,oM 5 133,oM 6 135]
abbrev w8:AC:= (.seq (sR 6 [oM 34 9,oM 35 7,oJ 36 35,oT 37 .lss 34 36]<|cD 37 .skip<|.exit 0)<|.seq (.block 1<|sR 8 [oM 40 0,oM 41 7,oM 42 9,oX 43 1 41 42,oL 44 43,oQ 45 132 [40,44]]<|cD 45 (sR 9 [oM 46 8,oM 47 9,oX 48 5 46 47,oO 49<|.ldf 5 true<|.t 48,oM 50 0,oM 51 7,oM 52 9,oX 53 1 51 52,oO 54<|.ldf 1 false<|.t 53,oH 55 54,oO 56<|.slS (.t 50) (some<|.t 55) none,oS 5 4 49,oM 5 56,oC 6<|.b true] .ret) .skip)<|.reg 7 [oM 38 9,oV 39 .add 38 1,oM 9 39])
abbrev Yq0:AC:= (cD 59 (sR 12 [oM 62 0,oO 63<|.slS (.t 62) (some<|.c<|.i .i64 1) none,oM 64 1,oV 65 .sub 64 1,oQ 66 108 [63,65],oM 61 66,oE 67 0 61,oE 68 1 61,oE 69 2 61,oO 10<|.alloc aX,oS 5 10 67,oM 11 68,oM 12 69]<|sR 13 [oK 70 5 10,oO 71<|.bslice aX 1 [(0,(.t 70))],oO 72<|.build aX [(0,1,(.c<|.i .u8 4)),(3,1,(.t 71))],oM 73 11,oM 74 12,oS 5 4 72,oM 5 73,oM 6 74] .ret)<|sR 14 [oW 76 .eql 58 123,oM 75 76]<|cD 75 (sR 15 [oM 77 0,oO 78<|.slS (.t 77) (some<|.c<|.i .i64 1) none,oM 79 1,oO 80<|.call false 133 [(.t 78),(.c<|.i .u8 5),(.c<|.i .u8 125),(.t 79)],oE 81 0 80,oE 82 1 80,oE 83 2 80,oS 5 4 81,oM 5 82,oM 6 83] .ret)<|sR 16 [oW 85 .eql 58 91,oM 84 85]<|cD 84 (sR 17 [oM 86 0,oO 87<|.slS (.t 86) (some<|.c<|.i .i64 1) none,oM 88 1,oO 89<|.call false 133 [(.t 87),(.c<|.i .u8 6),(.c<|.i .u8 93),(.t 88)],oE 90 0 89,oE 91 1 89,oE 92 2 89,oS 5 4 90,oM 5 91,oM 6 92] .ret)<|sR 18 [oW 94 .eql 58 60,oM 93 94]<|cD 93 (sR 19 [oM 95 0,oO 96<|.slS (.t 95) (some<|.c<|.i .i64 1) none,oM 97 1,oO 98<|.call false 133 [(.t 96),(.c<|.i .u8 7),(.c<|.i .u8 62),(.t 97)],oE 99 0 98,oE 100 1 98,oE 101 2 98,oS 5 4 99,oM 5 100,oM 6 101] .ret)<|sR 20 [oW 103 .eql 58 34,oM 102 103]<|cD 102 (sR 21 [oM 104 0,oQ 105 134 [104],oM 13 105]<|sR 22 [oM 107 0,oM 108 13,oO 109<|.slS (.t 107) none<|some<|.t 108,oQ 110 26 [109],oM 106 110,oE 111 0 106,oE 112 1 106,oM 14 111,oM 15 112]<|sR 23 [oM 113 14,oO 114<|.build aX [(0,1,(.c<|.i .u8 3)),(2,1,(.t 113))],oM 115 0,oM 116 13,oO 117<|.slS (.t 115) (some<|.t 116) none,oM 118 15,oV 119 .eql 118 0,oS 5 4 114,oM 5 117,oM 6 119] .ret) .skip)
abbrev Ymm:AC:= (.block 2<|sR 11 [oW 60 .eql 58 38,oM 59 60] Yq0)
abbrev w9:AC:= (.seq (sR 10 [oM 57 0,oO 58<|.ixS (.t 57)<|.c<|.i .i64 0] Ymm)<|sR 24 QM<|sR 25 QN<|sR 26 QO .ret)
abbrev Yhj:AC:= (.seq (sR 5 [oI 9 0]<|.block 0<|.loop w8) w9)
abbrev Ydo:AC:= (sR 4 [oO 28<|.build aX [(0,1,(.c<|.i .u8 1)),(1,1,(.c<|.i .i64 1))],oO 29<|.build aX [(0,1,(.c<|.i .u8 1))],oO 30<|.build aX [(0,1,(.c<|.i .u8 4))],oO 31<|.build aX [(0,1,(.c<|.i .u8 4)),(4,1,(.c<|.b true))],oO 32<|.build aX [(0,1,(.c<|.i .u8 7)),(4,1,(.c<|.b true))],oO 33<|.bslice aX 5 [(0,(.t 28)),(1,(.t 29)),(2,(.t 30)),(3,(.t 31)),(4,(.t 32))],oM 8 33] Yhj)
abbrev Yue:AC:= (sR 3 [oO 27<|.bslice [zs] 5 [(0,(.c<|.s pV)),(1,(.c<|.s pU)),(2,(.c<|.s [110,105,108])),(3,(.c<|.s [38,46,46,46])),(4,(.c<|.s [60,46,46,46,62]))],oM 7 27] Ydo)
abbrev Yc1:AC:= (.seq (sR 1 [oM 19 1,oV 20 .eql 19 0,oM 21 20,gF 21<|oM 22 0,gF 21<|oH 23 22,gF 21<|oV 24 .eql 23 0,oR 25 21 24]<|cD 25 (sR 2 [oO 26<|.build aX [],oS 5 4 26,oC 5<|.s [],oC 6<|.b false] .ret) .skip) Yue)
abbrev Yhz:AC:= (sR 0 [oO 4<|.alloc aX,oC 5<|.s [],oC 6<|.b false] Yc1)
def nR:AF:= { nt:=136,res:=[.cell 4 5 true,.tmp 5,.tmp 6],body:=Yhz }
abbrev Xus(Q:Q0)(K:Za->BS->Bool->Prop):Prop:=∀(U:Sl)(st:St)(k0:Zt)(v0:Nat)(cc:Zr)(aa:Za)(ae:BS)(be:Bool),U 4=.p k0 v0 0->lk st.bx k0=some (v0,Za.co cc aa)->U 5=.s ae->U 6=.b be->K aa ae be->Q .ret U st
abbrev Yct(PG:Zb)(d:Nat)(Q:Q0)(s0:BS)(ar:Int)(df:LB)(dy:List Za)(i9:Int)(m0:Za):Prop:=
  ∀(U:Sl)(st:St)(gz gh ey:Zr)(v0:Nat),U 0=.s s0->U 1=.i .i64 ar->U 4=.p (d,0) v0 0->U 7=.sl gz (List.map Zv df)->U 8=.sl gh (List.map Za.row dy)->U 9=.i .i64 i9->Yo d st.ow gz df.length->Yo d st.ow gh dy.length->lk st.bx (d,0)=some (v0,Za.co ey m0)->W PG d (.loop w8) U st (Zs 0 (Zk PG d w9 Q))
section
variable(PG:Zb)(K:Za->BS->Bool->Prop)
def GD(s0:BS)(ar t58:Int)(t59:Bool)(m0:Za):Prop:=
  (t59=true->1<=s0.length/\∃e:Za,∃c r,Ze PG 108 [.s (s0.drop 1),.i .i64 (IntKind.i64.wrap (ar-1))] (.tup [e.av,.s c,.b r])/\K (Za.mk 4 0 [] [e] false) c r)/\(t59=false->(t58=123->1<=s0.length/\∃a2:Za,∃a0 v,Ze PG 133 [.s (s0.drop 1),.i .u8 5,.i .u8 125,.i .i64 ar] (.tup [a2.av,.s a0,.b v])/\K a2 a0 v)/\(¬(t58=123)->(t58=91->1<=s0.length/\∃p:Za,∃z a3,Ze PG 133 [.s (s0.drop 1),.i .u8 6,.i .u8 93,.i .i64 ar] (.tup [p.av,.s z,.b a3])/\K p z a3)/\(¬(t58=91)->(t58=60->1<=s0.length/\∃a1:Za,∃q u,Ze PG 133 [.s (s0.drop 1),.i .u8 7,.i .u8 62,.i .i64 ar] (.tup [a1.av,.s q,.b u])/\K a1 q u)/\(¬(t58=60)->(t58=34->∃k,Ze PG 134 [.s s0] (.i .i64 k)/\0<=k/\(k).toNat<=s0.length/\∃x w,Ze PG 26 [.s (s0.take (k).toNat)] (.tup [.s x,.i .i64 w])/\0<=k/\(k).toNat<=s0.length/\K (Za.mk 3 0 x ([]:List Za) false) (s0.drop (k).toNat) (decide (w=0)))/\(¬(t58=34)->∃j,Ze PG 135 [.s s0] (.i .i64 j)/\0<=j/\(j).toNat<=s0.length/\∃o y,Ze PG 22 [.s (s0.take (j).toNat)] (.tup [.i .i64 o,.i .i64 y])/\0<=j/\(j).toNat<=s0.length/\K (Za.mk 2 o [] ([]:List Za) false) (s0.drop (j).toNat) (decide (y=0)))))))
def GC(s0:BS)(ar t58:Int)(m0:Za):Prop:=
  GD PG K s0 ar t58 (decide (t58=38)) m0
def GB(s0:BS)(ar:Int)(m0:Za):Prop:=
  ∃c:UInt8,s0[0]?=some c/\GC PG K s0 ar (c.toNat:Int) m0
def sL(P0:Int->Za->Prop)(s0:BS)(ar:Int)(df:LB)(dy:List Za)(i9:Int)(m0:Za):Prop:=
  (i9<(df.length:Int)->0<=i9/\∃j,df[(i9).toNat]?=some j/\∃e,Ze PG 132 [.s s0,.s j] (.b e)/\(e=true->0<=i9/\∃i,dy[(i9).toNat]?=some i/\0<=i9/\∃c:BS,df[(i9).toNat]?=some c/\0<=(c.length:Int)/\(c.length:Int).toNat<=s0.length/\K i (s0.drop (c.length:Int).toNat) true)/\(e=false->P0 (IntKind.i64.wrap (i9+1)) m0))/\(¬(i9<(df.length:Int))->GB PG K s0 ar m0)
def GA(s0:BS)(ar:Int)(df:LB)(dy:List Za)(m0:Za):Prop:=
  ∀P0:Int->Za->Prop,(∀(i9:Int)(m0:Za),sL PG K P0 s0 ar df dy i9 m0->P0 i9 m0)->P0 0 m0
def F_(s0:BS)(ar:Int)(df:LB)(m0:Za):Prop:=
  GA PG K s0 ar df [(Za.mk 1 1 [] ([]:List Za) false),(Za.mk 1 0 [] ([]:List Za) false),(Za.mk 4 0 [] ([]:List Za) false),(Za.mk 4 0 [] ([]:List Za) true),(Za.mk 7 0 [] ([]:List Za) true)] m0
def F9(s0:BS)(ar:Int)(m0:Za):Prop:=
  F_ PG K s0 ar [([116,114,117,101]:BS),([102,97,108,115,101]:BS),([110,105,108]:BS),([38,46,46,46]:BS),([60,46,46,46,62]:BS)] m0
def sK(s0:BS)(ar:Int)(m0:Za):Prop:=
  (ar=0->K (Za.mk 0 0 [] ([]:List Za) false) ([]:BS) false)/\(¬(ar=0)->((s0.length:Int)=0->K (Za.mk 0 0 [] ([]:List Za) false) ([]:BS) false)/\(¬((s0.length:Int)=0)->F9 PG K s0 ar m0))
def sJ(s0:BS)(ar:Int):Prop:=
  sK PG K s0 ar (Za.mk 0 0 [] ([]:List Za) false)
end
section
variable{K:Za->BS->Bool->Prop}(hQ:Xus Q K)
variable{s0:BS}{ar t58:Int}{t59:Bool}{m0:Za}{ey:Zr}{v0:Nat}{df:LB}{dy:List Za}{i9:Int}{P0:Int->Za->Prop}{gz gh:Zr}
variable(aD :∀(i9:Int)(m0:Za),P0 i9 m0->Yct PG d Q s0 ar df dy i9 m0)(H0:U 0=.s s0)(H1:U 1=.i .i64 ar)(H4:U 4=.p (d,0) v0 0)(lv:U 58=.i .u8 t58)(H7:U 7=.sl gz (List.map Zv df))(iP:U 59=.b t59)(H8:U 8=.sl gh (List.map Za.row dy))(H9:U 9=.i .i64 i9)(A7:Yo d st.ow gz df.length)(A8:Yo d st.ow gh dy.length)(B0:lk st.bx (d,0)=some (v0,Za.co ey m0))
def Xir(h:GD PG K s0 ar t58 t59 m0):W PG d Yq0 U st (Zs 2 (Zk PG d (sR 24 QM (sR 25 QN (sR 26 QO .ret))) Q)):=
 Xw iP (fun c=>Zl<|W.reg<|m_<|Jo H0 J (by decide) (h.1 c).1<|m_<|b_ H1 J Ms<|x2 (h.1 c).2 fun a3 _ a2=>a2.elim fun _ y=>Yh (Wk J J J) y.1<|m_<|x_ J J<|x_ J J<|x_ J J<|Xl<|Zy J (show lk _ (d,49161)=some (_,cS)from Zj) J J J<|m_<|m_<|e_<|q_ J<|l_ J Zj J J<|Wr (f:=Za.row) (l:=[a3]) J J (Yl J J J Wi) (by simp only[jB,yK,Za.row_eq];rfl)<|Xb (Yr J J<|Yr J J Yu)<|m_<|m_<|Zy H4 (Zm J<|Zm J B0) J J J<|m_<|m_<|Zu<|hQ _ _ _ _ _ _ _ _ H4 Zj J J y.2)<|fun c=>q_ J<|b_ lv J Xf<|m_<|e_<|Yi J (fun e=>q_ J<|m_<|Jo H0 J (by decide) ((h.2 c).1 e).1<|m_<|x2 ((h.2 c).1 e).2 fun _ _ z=>z.elim fun _ v=>Yh (PS J J J H1 J) v.1<|x_ J J<|x_ J J<|x_ J J<|Zy H4 B0 J J J<|m_<|m_<|Zu<|hQ _ _ _ _ _ _ _ _ H4 Zj J J v.2)<|fun e=>q_ J<|b_ lv J Xf<|m_<|e_<|Yi J (fun j=>q_ J<|m_<|Jo H0 J (by decide) (((h.2 c).2 e).1 j).1<|m_<|x2 (((h.2 c).2 e).1 j).2 fun _ _ a0=>a0.elim fun _ w=>Yh (PS J J J H1 J) w.1<|x_ J J<|x_ J J<|x_ J J<|Zy H4 B0 J J J<|m_<|m_<|Zu<|hQ _ _ _ _ _ _ _ _ H4 Zj J J w.2)<|fun j=>q_ J<|b_ lv J Xf<|m_<|e_<|Yi J (fun k=>q_ J<|m_<|Jo H0 J (by decide) ((((h.2 c).2 e).2 j).1 k).1<|m_<|x2 ((((h.2 c).2 e).2 j).1 k).2 fun _ _ a1=>a1.elim fun _ x=>Yh (PS J J J H1 J) x.1<|x_ J J<|x_ J J<|x_ J J<|Zy H4 B0 J J J<|m_<|m_<|Zu<|hQ _ _ _ _ _ _ _ _ H4 Zj J J x.2)<|fun k=>q_ J<|b_ lv J Xf<|m_<|e_<|Yi J (fun u=>q_ J<|m_<|(((((h.2 c).2 e).2 j).2 k).1 u).elim fun _ o=>Yh (Xu H0 J) o.1<|m_<|e_<|q_ J<|m_<|m_<|Bc H0 J o.2.1 o.2.2.1<|x2 o.2.2.2 fun _ _ p=>Yh (Xu J J) p.1<|m_<|x_ J J<|x_ J J<|m_<|m_<|e_<|q_ J<|m_<|Xb (Yr J J<|Yr J J Yu)<|m_<|m_<|Jo H0 J p.2.1 p.2.2.1<|m_<|b_ J J Xf<|Zy H4 B0 J J J<|m_<|m_<|Zu<|hQ _ _ _ _ _ _ _ _ H4 Zj J J p.2.2.2)<|fun u=>Ya<|q_ J<|m_<|(((((h.2 c).2 e).2 j).2 k).2 u).elim fun _ q=>Yh (Xu H0 J) q.1<|m_<|e_<|q_ J<|m_<|m_<|Bc H0 J q.2.1 q.2.2.1<|x2 q.2.2.2 fun _ _ r=>Yh (Xu J J) r.1<|m_<|x_ J J<|x_ J J<|m_<|m_<|e_<|q_ J<|m_<|Xb (Yr J J<|Yr J J Yu)<|m_<|m_<|Jo H0 J r.2.1 r.2.2.1<|m_<|b_ J J Xf<|Zy H4 B0 J J J<|m_<|m_<|Zu<|hQ _ _ _ _ _ _ _ _ H4 Zj J J r.2.2.2
def Xls(h:GC PG K s0 ar t58 m0):W PG d Ymm U st (Zk PG d (sR 24 QM (sR 25 QN (sR 26 QO .ret))) Q):=
 Yg<|q_ J<|b_ lv J Xf<|m_<|e_<|Xir hQ H0 H1 H4 lv J B0 h
include hQ H0 H1 H4 B0 in
theorem Wal(h:GB PG K s0 ar m0):W PG d w9 U st Q:=
 au @Xls
def Yz5(h:sL PG K P0 s0 ar df dy i9 m0):W PG d w8 U st (Zk PG d (.loop w8) (Zs 0 (Zk PG d w9 Q))):=
 Zl<|q_ J<|m_<|Yf H7<|Xq J<|b_ H9 J Wp<|e_<|Yi J (fun i=>Ya<|Zl<|Yg<|q_ J<|m_<|Yf H7<|m_<|(h.1 i).2.elim fun _ o=>Xy J H9 (h.1 i).1 o.1 J J<|Xx J J J<|o.2.elim fun _ e=>Yh (Wk H0 J J) e.1<|e_<|Xw J (fun j=>q_ J<|Yf H8<|m_<|(e.2.1 j).2.elim fun p k=>Xy J H9 (e.2.1 j).1 k.1 (Za.row_eq p) J<|Sa J J J<|m_<|Yf H7<|m_<|k.2.2.elim fun _ c=>Xy J H9 k.2.1 c.1 J J<|Sa J J J<|Qb J<|Jo H0 J c.2.1 c.2.2.1<|Zy H4 B0 J J J<|m_<|m_<|Zu<|hQ _ _ _ _ _ _ _ _ H4 Zj J J c.2.2.2)<|fun j=>Ya<|W.reg0 J fun _ _=>m_<|b_ H9 J Vp<|m_<|e_<|aD _ _ (e.2.2 j) _ _ _ _ _ _ H0 H1 H4 H7 H8 J A7 A8 B0)<|fun i=>Vg<|Wal hQ H0 H1 H4 B0<|h.2 i
def Xys(h:GA PG K s0 ar df dy m0):W PG d Yhj U st Q:=
 Zl<|q_ J<|m_<|e_<|Yg<|h (Yct PG d Q s0 ar df dy) (fun _ _ hb _ _ _ _ _ _ H0 H1 H4 H7 H8 H9 A7 A8 B0=>W.loop<|Yz5 hQ (fun _ _ x=>x) H0 H1 H4 H7 H8 H9 A7 A8 B0 hb) _ _ _ _ _ _ H0 H1 H4 H7 H8 J A7 A8 B0
def Xz1(h:F_ PG K s0 ar df m0):W PG d Ydo U st Q:=
 q_ J<|Xb (Yr J J<|Yr J J Yu)<|Xb (Yr J J Yu)<|Xb (Yr J J Yu)<|Xb (Yr J J<|Yr J J Yu)<|Xb (Yr J J<|Yr J J Yu)<|Wr (f:=Za.row) (l:=[(Za.mk 1 1 [] ([]:List Za) false),(Za.mk 1 0 [] ([]:List Za) false),(Za.mk 4 0 [] ([]:List Za) false),(Za.mk 4 0 [] ([]:List Za) true),(Za.mk 7 0 [] ([]:List Za) true)]) J J (Yl J J J<|Yl J J J<|Yl J J J<|Yl J J J<|Yl J J J Wi) (by simp only[jB,yK,Za.row_eq];rfl)<|Yf J<|e_<|Xys hQ H0 H1 H4 H7 J A7 Yo.full B0 h
def Xjn(h:F9 PG K s0 ar m0):W PG d Yue U st Q:=
 q_ J<|Wr (f:=Zv) (l:=[(pV:BS),(pU:BS),([110,105,108]:BS),([38,46,46,46]:BS),([60,46,46,46,62]:BS)]) J J (Yl J J J<|Yl J J J<|Yl J J J<|Yl J J J<|Yl J J J Wi) J<|Yf J<|e_<|Xz1 hQ H0 H1 H4 J Yo.full B0 h
def Xtc(h:sK PG K s0 ar m0):W PG d Yc1 U st Q:=
 Zl<|q_ J<|Wc H1<|b_ J J Xf<|Yt J<|Xe (g:=21) J (fun c=>z_ 4 J<|e_<|Xh J<|q_ J<|Xb Yu<|Zy H4 B0 J J J<|m_<|m_<|Zu<|hQ _ _ _ _ _ _ _ _ H4 Zj J J<|h.1 c)<|fun c=>Zg J<|Ki H0<|Zg J<|Qb J<|Zg J<|b_ J J Xf<|Vt J J<|e_<|Yi J (fun e=>q_ J<|Xb Yu<|Zy H4 B0 J J J<|m_<|m_<|Zu<|hQ _ _ _ _ _ _ _ _ H4 Zj J J<|(h.2 c).1 e)<|fun e=>Ya<|Xjn hQ H0 H1 H4 B0<|(h.2 c).2 e
include hQ H0 H1 in
theorem Xpk(h:sJ PG K s0 ar):W PG d Yhz U st Q:=
 au @Xtc
theorem VQ(hf:PG.fn 108=some nR)(h:sJ PG K s0 ar):∃aa:Za,∃ae:BS,∃be:Bool,K aa ae be/\Ze PG 108 [.s s0,.i .i64 ar] (.tup [aa.av,.s ae,.b be]):=by
  obtain⟨v,hv,aa,ae,be,hk,rfl⟩:=Ze.of (K:=fun v=>∃aa:Za,∃ae:BS,∃be:Bool,K aa ae be/\v=.tup [aa.av,.s ae,.b be]) hf rfl (Xpk (U:=Wg [.s s0,.i .i64 ar]) (fun U st k0 v0 cc aa ae be H4 gU H5 H6 hk=>⟨.tup [aa.avo cc,.s ae,.b be],by simp only[nR,Xj,Wz,Jc (n:=5) H4 gU rfl,H5,H6,Km,kK],_,rfl,aa,ae,be,hk,rfl⟩) rfl rfl h)
  exact⟨aa,ae,be,hk,hv⟩
end
abbrev Yp7:AC:= (sR 0 [oC 4<|.b false]<|sR 1 [oM 5 0,oH 6 5,oM 7 1,oH 8 7,oT 9 .geq 6 8,oM 10 9,gT 10<|oM 11 0,gT 10<|oM 12 1,gT 10<|oH 13 12,gT 10<|oO 14<|.slS (.t 11) none<|some<|.t 13,gT 10<|oM 15 1,gT 10<|oT 16 .eql 14 15,oA 17 10 16,oM 4 17] .ret)
def sd:AF:= { nt:=18,res:=[.tmp 4],body:=Yp7 }
def FD(PG:Zb)(K:Bool->Prop)(s0 ck:BS):Prop:=
  ((s0.length:Int)>=(ck.length:Int)->0<=(ck.length:Int)/\(ck.length:Int).toNat<=s0.length/\K (decide ((s0.take (ck.length:Int).toNat)=ck)))/\(¬((s0.length:Int)>=(ck.length:Int))->K false)
section
variable{K:Bool->Prop}(hQ:H1 AV.b 4 Q K)
variable{s0 ck:BS}
variable(H0:U 0=.s s0)(H1:U 1=.s ck)
include hQ H0 H1 in
theorem Xsc(h:FD PG K s0 ck):W PG d Yp7 U st Q:=
 au trivial
def Xsx(hf:PG.fn 132=some sd)(h:FD PG K s0 ck):∃aa:Bool,K aa/\Ze PG 132 [.s s0,.s ck] (.b aa):=
 P1 hf J<|Xsc (h1 J fun _=>J) J J h
end
abbrev w_:AC:= (.seq (sR 4 [oF 29 3 11,oL 30 29,oJ 31 30,oV 32 .leq 31 16]<|cD 32 .skip<|.exit 0)<|.block 1<|sR 5 [oM 34 0,oM 35 3,oV 36 .sub 35 1,oQ 37 108 [34,36],oM 33 37,oE 38 0 33,oE 39 1 33,oE 40 2 33,oO 12<|.alloc aX,oS 5 12 38,oM 13 39,oM 14 40]<|.seq (sR 6 [oM 41 14,oZ 42 41,oM 43 42,gF 43<|oM 44 13,gF 43<|oH 45 44,gF 43<|oV 46 .eql 45 0,oR 47 43 46]<|cD 47 (sR 7 [oO 48<|.build aX [],oS 5 8 48,oC 9<|.s [],oC 10<|.b false] .ret) .skip)<|sR 8 [oF 49 3 11,oL 50 49,oK 51 5 12,oO 52<|.bslice aX 1 [(0,(.t 51))],oO 53<|.app 5 64 (.t 50)<|.t 52,oF 54 3 11,oS 1 54 53]<|.seq (sR 9 [oM 55 13,oO 56<|.ixS (.t 55)<|.c<|.i .i64 0,oM 57 2,oT 58 .eql 56 57]<|cD 58 (sR 10 [oK 59 5 11,oM 60 13,oO 61<|.slS (.t 60) (some<|.c<|.i .i64 1) none,oS 5 8 59,oM 9 61,oC 10<|.b true] .ret) .skip)<|.seq (sR 11 [oM 62 13,oO 63<|.call false 132 [(.t 62),(.c<|.s [44,32])],oZ 64 63]<|cD 64 (sR 12 [oO 65<|.build aX [],oS 5 8 65,oC 9<|.s [],oC 10<|.b false] .ret) .skip)<|.reg 13 [oM 66 13,oO 67<|.slS (.t 66) (some<|.c<|.i .i64 2) none,oM 0 67])
abbrev xa:AC:= (sR 14 [oO 68<|.build aX [],oS 5 8 68,oC 9<|.s [],oC 10<|.b false] .ret)
abbrev Yqo:AC:= (.seq (sR 2 [oM 17 0,oH 18 17,oV 19 .gtr 18 0,oM 20 19,gT 20<|oM 21 0,gT 20<|oO 22<|.ixS (.t 21)<|.c<|.i .i64 0,gT 20<|oM 23 2,gT 20<|oT 24 .eql 22 23,oA 25 20 24]<|cD 25 (sR 3 [oK 26 5 11,oM 27 0,oO 28<|.slS (.t 27) (some<|.c<|.i .i64 1) none,oS 5 8 26,oM 9 28,oC 10<|.b true] .ret) .skip)<|.seq (.block 0<|.loop w_) xa)
abbrev Ytj:AC:= (sR 1 [oM 15 1,oO 16<|.build aX [(0,1,(.t 15))],oO 11<|.alloc aX,oS 5 11 16] Yqo)
abbrev Yeh:AC:= (sR 0 [oO 8<|.alloc aX,oC 9<|.s [],oC 10<|.b false] Ytj)
def nS:AF:= { nt:=69,res:=[.cell 8 5 true,.tmp 9,.tmp 10],body:=Yeh }
abbrev Xfm(Q:Q0)(K:Za->BS->Bool->Prop):Prop:=∀(U:Sl)(st:St)(k0:Zt)(v0:Nat)(cc:Zr)(aa:Za)(ae:BS)(be:Bool),U 8=.p k0 v0 0->lk st.bx k0=some (v0,Za.co cc aa)->U 9=.s ae->U 10=.b be->K aa ae be->Q .ret U st
abbrev QP(PG:Zb)(d:Nat)(Q:Q0)(ct dk:Int)(s0:BS)(m0 ak:Za):Prop:=
  ∀(U:Sl)(st:St)(ey dc:Zr)(v0 fd:Nat),U 0=.s s0->U 2=.i .u8 ct->U 3=.i .i64 dk->U 8=.p (d,0) v0 0->U 11=.p (d,4098) fd 0->Yo d st.ow dc ak.list.length->lk st.bx (d,0)=some (v0,Za.co ey m0)->lk st.bx (d,4098)=some (fd,Za.co dc ak)->W PG d (.loop w_) U st (Zs 0 (Zk PG d xa Q))
def sI(PG:Zb)(K:Za->BS->Bool->Prop)(m0:Za):Prop:=
  K (Za.mk 0 0 [] ([]:List Za) false) ([]:BS) false
section
variable(PG:Zb)(K:Za->BS->Bool->Prop)
def Ev(P0:BS->Za->Za->Prop)(s0:BS)(ct dk:Int)(m0 ak:Za):Prop:=
  ((ak.list.length:Int)<=16->∃e:Za,∃c:BS,∃o,Ze PG 108 [.s s0,.i .i64 (IntKind.i64.wrap (dk-1))] (.tup [e.av,.s c,.b o])/\((!o)=true->K (Za.mk 0 0 [] ([]:List Za) false) ([]:BS) false)/\((!o)=false->((c.length:Int)=0->K (Za.mk 0 0 [] ([]:List Za) false) ([]:BS) false)/\(¬((c.length:Int)=0)->Ju (ak.list.length+[e].length) 64/\∃j:UInt8,c[0]?=some j/\((j.toNat:Int)=ct->1<=c.length/\K (Za.mk ak.kind ak.int ak.text (ak.list++[e]) ak.cut) (c.drop 1) true)/\(¬((j.toNat:Int)=ct)->∃k,Ze PG 132 [.s c,.s ([44,32]:BS)] (.b k)/\((!k)=true->K (Za.mk 0 0 [] ([]:List Za) false) ([]:BS) false)/\((!k)=false->2<=c.length/\P0 (c.drop 2) m0 (Za.mk ak.kind ak.int ak.text (ak.list++[e]) ak.cut))))))/\(¬((ak.list.length:Int)<=16)->sI PG K m0)
def F8(s0:BS)(ct dk:Int)(m0 ak:Za):Prop:=
  ((s0.length:Int)>0->∃c:UInt8,s0[0]?=some c/\((c.toNat:Int)=ct->1<=s0.length/\K ak (s0.drop 1) true)/\(¬((c.toNat:Int)=ct)->∀P0:BS->Za->Za->Prop,(∀(s0:BS)(m0 ak:Za),Ev PG K P0 s0 ct dk m0 ak->P0 s0 m0 ak)->P0 s0 m0 ak))/\(¬((s0.length:Int)>0)->∀P0:BS->Za->Za->Prop,(∀(s0:BS)(m0 ak:Za),Ev PG K P0 s0 ct dk m0 ak->P0 s0 m0 ak)->P0 s0 m0 ak)
def F7(s0:BS)(dj ct dk:Int)(m0:Za):Prop:=
  F8 PG K s0 ct dk m0 (Za.mk dj 0 [] ([]:List Za) false)
def F6(s0:BS)(dj ct dk:Int):Prop:=
  F7 PG K s0 dj ct dk (Za.mk 0 0 [] ([]:List Za) false)
end
section
variable{K:Za->BS->Bool->Prop}(hQ:Xfm Q K)
variable{m0:Za}{ey:Zr}{v0:Nat}{s0:BS}{ct dk:Int}{ak:Za}{P0:BS->Za->Za->Prop}{dc:Zr}{fd:Nat}{dj:Int}
variable(aD :∀(s0:BS)(m0 ak:Za),P0 s0 m0 ak->QP PG d Q ct dk s0 m0 ak)(H0:U 0=.s s0)(H1:U 1=.i .u8 dj)(H2:U 2=.i .u8 ct)(H3:U 3=.i .i64 dk)(H8:U 8=.p (d,0) v0 0)(H11:U 11=.p (d,4098) fd 0)(cu:Yo d st.ow dc ak.list.length)(B0:lk st.bx (d,0)=some (v0,Za.co ey m0))(cd:lk st.bx (d,4098)=some (fd,Za.co dc ak))
include hQ H8 B0 in
theorem Xfu(h:sI PG K m0):W PG d xa U st Q:=
 au trivial
def Yqv(h:Ev PG K P0 s0 ct dk m0 ak):W PG d w_ U st (Zk PG d (.loop w_) (Zs 0 (Zk PG d xa Q))):=
 Zl<|q_ J<|f_ H11<|l_ J cd J J<|Xq J<|b_ J J Oh<|e_<|Yi J (fun r=>Ya<|Yg<|Zl<|W.reg<|m_<|m_<|b_ H3 J Ms<|x2 (h.1 r) fun x _ v=>v.elim fun _ c=>Yh (Wk H0 J J) c.1<|m_<|x_ J J<|x_ J J<|x_ J J<|Xl<|Zy J (show lk _ (d,20488)=some (_,cS)from Zj) J J J<|m_<|m_<|e_<|Zl<|q_ J<|Yt J<|Wa J<|Yt J<|Ql (g:=43) J (fun e=>z_ 4 J<|e_<|Xh J<|q_ J<|Xb Yu<|Zy H8 (Zm J<|Zm J B0) J J J<|m_<|m_<|Zu<|hQ _ _ _ _ _ _ _ _ H8 Zj J J<|c.2.1 e)<|fun e=>Zg J<|Ki J<|Zg J<|Qb J<|Zg J<|b_ J J Xf<|Vt J J<|e_<|Yi J (fun q=>q_ J<|Xb Yu<|Zy H8 (Zm J<|Zm J B0) J J J<|m_<|m_<|Zu<|hQ _ _ _ _ _ _ _ _ H8 Zj J J<|(c.2.2 e).1 q)<|fun q=>Ya<|q_ J<|f_ H11<|l_ J (Zm J<|Zm J cd) J J<|l_ J Zj J J<|Wr (f:=Za.row) (l:=[x]) J J (Yl J J J Wi) (by simp only[jB,yK,Za.row_eq];rfl)<|Jq Za.row_len J J J cu.1 ((c.2.2 e).2 q).1 J<|fun _ _ u _ w=>f_ H11<|Zy J (Zm J<|Zm J cd) J J J<|e_<|Zl<|q_ J<|m_<|((c.2.2 e).2 q).2.elim fun _ j=>Qj J J (by decide) j.1<|m_<|b_ J H2 Xf<|e_<|Yi J (fun o=>q_ J<|l_ H11 Zj J J<|m_<|Jo J J (by decide) (j.2.1 o).1<|Zy H8 (Zm J<|Zm J<|Zm J B0) J J J<|m_<|m_<|Zu<|hQ _ _ _ _ _ _ _ _ H8 Zj J J (j.2.1 o).2)<|fun o=>Ya<|Zl<|q_ J<|m_<|(j.2.2 o).elim fun _ k=>Yh (Wk J J J) k.1<|Wa J<|e_<|Xw J (fun p=>q_ J<|Xb Yu<|Zy H8 (Zm J<|Zm J<|Zm J B0) J J J<|m_<|m_<|Zu<|hQ _ _ _ _ _ _ _ _ H8 Zj J J<|k.2.1 p)<|fun p=>Ya<|W.reg0 J fun _ _=>m_<|Jo J J (by decide) (k.2.2 p).1<|m_<|e_<|aD _ _ _ (k.2.2 p).2 _ _ _ _ _ _ J H2 H3 H8 H11 (Yo.mk u<|Qy.app cu.2 J w) (Zm J<|Zm J<|Zm J B0) Zj)<|fun r=>Vg<|Xfu hQ H8 B0<|h.2 r
def Xuc(h:F8 PG K s0 ct dk m0 ak):W PG d Yqo U st Q:=
 Zl<|q_ J<|Ki H0<|Qb J<|b_ J J Jd<|Yt J<|Xe (g:=20) J (fun i=>Zg J<|Ki H0<|Zg J<|(h.1 i).elim fun _ c=>Qj J J (by decide) c.1<|Zg J<|Wc H2<|Zg J<|b_ J J Xf<|Gz J J<|e_<|Yi J (fun e=>q_ J<|l_ H11 cd J J<|m_<|Jo H0 J (by decide) (c.2.1 e).1<|Zy H8 B0 J J J<|m_<|m_<|Zu<|hQ _ _ _ _ _ _ _ _ H8 Zj J J (c.2.1 e).2)<|fun e=>Ya<|Zl<|Yg<|(c.2.2 e) (QP PG d Q ct dk) (fun _ _ _ hb _ _ _ _ _ _ H0 H2 H3 H8 H11 cu B0 cd=>W.loop<|Yqv hQ (fun _ _ _ x=>x) H0 H2 H3 H8 H11 cu B0 cd hb) _ _ _ _ _ _ H0 H2 H3 H8 H11 cu B0 cd)<|fun i=>z_ 5 J<|e_<|Qp J<|Ya<|Zl<|Yg<|(h.2 i) (QP PG d Q ct dk) (fun _ _ _ hb _ _ _ _ _ _ H0 H2 H3 H8 H11 cu B0 cd=>W.loop<|Yqv hQ (fun _ _ _ x=>x) H0 H2 H3 H8 H11 cu B0 cd hb) _ _ _ _ _ _ H0 H2 H3 H8 H11 cu B0 cd
def Ywz(h:F7 PG K s0 dj ct dk m0):W PG d Ytj U st Q:=
 Zl<|W.reg<|m_<|Xb (Yr H1 J Yu)<|Xl<|Zy J (show lk _ (d,4098)=some (_,cS)from Zj) J J J<|e_<|Xuc (ak:=(Za.mk dj 0 [] ([]:List Za) false)) hQ H0 H2 H3 H8 J Yo.full (Zm J<|Zm J B0) Zj h
include hQ H0 H1 H2 H3 in
theorem Xhb(h:F6 PG K s0 dj ct dk):W PG d Yeh U st Q:=
 au @Ywz
theorem Xtj(hf:PG.fn 133=some nS)(h:F6 PG K s0 dj ct dk):∃aa:Za,∃ae:BS,∃be:Bool,K aa ae be/\Ze PG 133 [.s s0,.i .u8 dj,.i .u8 ct,.i .i64 dk] (.tup [aa.av,.s ae,.b be]):=by
  obtain⟨v,hv,aa,ae,be,hk,rfl⟩:=Ze.of (K:=fun v=>∃aa:Za,∃ae:BS,∃be:Bool,K aa ae be/\v=.tup [aa.av,.s ae,.b be]) hf rfl (Xhb (U:=Wg [.s s0,.i .u8 dj,.i .u8 ct,.i .i64 dk]) (fun U st k0 v0 cc aa ae be H8 QL H9 aH hk=>⟨.tup [aa.avo cc,.s ae,.b be],by simp only[nS,Xj,Wz,Jc (n:=5) H8 QL rfl,H9,aH,Km,kK],_,rfl,aa,ae,be,hk,rfl⟩) rfl rfl rfl rfl h)
  exact⟨aa,ae,be,hk,hv⟩
end
abbrev Yi0:AC:= (.reg 3 [oM 8 3,oV 9 .add 8 1,oM 3 9])
abbrev qd:AC:= (.seq (sR 2 [oM 4 3,oM 5 0,oH 6 5,oT 7 .lss 4 6]<|cD 7 .skip<|.exit 0)<|.seq (.block 1<|.seq (sR 4 [oM 10 0,oM 11 3,oO 12<|.ixS (.t 10)<|.t 11,oW 13 .eql 12 92]<|cD 13 (sR 5 [oM 14 3,oV 15 .add 14 1,oM 3 15]<|.exit 1) .skip)<|sR 6 [oM 16 0,oM 17 3,oO 18<|.ixS (.t 16)<|.t 17,oW 19 .eql 18 34]<|cD 19 (sR 7 [oM 20 3,oV 21 .add 20 1,oM 2 21] .ret) .skip) Yi0)
abbrev Iv:AC:= (sR 8 [oI 2 0] .ret)
abbrev Yny:AC:= (sR 0 [oI 2 0]<|.seq (sR 1 [oI 3 1]<|.block 0<|.loop qd) Iv)
def se:AF:= { nt:=22,res:=[.tmp 2],body:=Yny }
abbrev Ylw(PG:Zb)(d:Nat)(Q:Q0)(s0:BS)(i3:Int):Prop:=
  ∀(U:Sl)(st:St),U 0=.s s0->U 3=.i .i64 i3->W PG d (.loop qd) U st (Zs 0 (Zk PG d Iv Q))
def sE(PG:Zb)(K P0:Int->Prop)(s0:BS)(i3:Int):Prop:=
  P0 (IntKind.i64.wrap (i3+1))
def FP(PG:Zb)(K:Int->Prop):Prop:=
  K 0
section
variable(PG:Zb)(K:Int->Prop)
def FO(P0:Int->Prop)(s0:BS)(i3:Int):Prop:=
  (i3<(s0.length:Int)->0<=i3/\∃e:UInt8,s0[(i3).toNat]?=some e/\((e.toNat:Int)=92->sE PG K P0 s0 (IntKind.i64.wrap (i3+1)))/\(¬((e.toNat:Int)=92)->0<=i3/\∃c:UInt8,s0[(i3).toNat]?=some c/\((c.toNat:Int)=34->K (IntKind.i64.wrap (i3+1)))/\(¬((c.toNat:Int)=34)->sE PG K P0 s0 i3)))/\(¬(i3<(s0.length:Int))->FP PG K )
def FN(s0:BS):Prop:=
  ∀P0:Int->Prop,(∀(i3:Int),FO PG K P0 s0 i3->P0 i3)->P0 1
end
section
variable{K:Int->Prop}(hQ:H1 (AV.i .i64) 2 Q K)
variable{s0:BS}{i3:Int}{P0:Int->Prop}
variable(aD :∀(i3:Int),P0 i3->Ylw PG d Q s0 i3)(H0:U 0=.s s0)(H3:U 3=.i .i64 i3)
include hQ aD H0 H3 in
theorem Xdj(h:sE PG K P0 s0 i3):W PG d Yi0 U st (Zk PG d (.loop qd) (Zs 0 (Zk PG d Iv Q))):=
 au trivial
include hQ in
theorem Xdl(h:FP PG K):W PG d Iv U st Q:=
 au trivial
include hQ aD H0 H3 in
theorem Ywn(h:FO PG K P0 s0 i3):W PG d qd U st (Zk PG d (.loop qd) (Zs 0 (Zk PG d Iv Q))):=
 au<|And.intro @Xdj @Xdl
def Xum(h:FN PG K s0):W PG d Yny U st Q:=
 q_ J<|m_<|e_<|Zl<|q_ J<|m_<|e_<|Yg<|h (Ylw PG d Q s0) (fun _ hb _ _ H0 H3=>W.loop<|Ywn hQ (fun _ x=>x) H0 H3 hb) _ _ H0 J
def Ywb(hf:PG.fn 134=some se)(h:FN PG K s0):∃aa:Int,K aa/\Ze PG 134 [.s s0] (.i .i64 aa):=
 P1 hf J<|Xum (h1 J fun _=>J) J h
end
abbrev xb:AC:= (.seq (sR 4 [oM 6 3,oM 7 0,oH 8 7,oT 9 .lss 6 8,oM 10 9,gT 10<|oM 11 0,gT 10<|oM 12 3,gT 10<|oO 13<|.ixS (.t 11)<|.t 12,gT 10<|oW 14 .geq 13 48,oA 15 10 14,oM 16 15,gT 16<|oM 17 0,gT 16<|oM 18 3,gT 16<|oO 19<|.ixS (.t 17)<|.t 18,gT 16<|oW 20 .leq 19 57,oA 21 16 20]<|cD 21 .skip<|.exit 0)<|.block 1<|.reg 5 [oM 22 3,oV 23 .add 22 1,oM 3 23])
abbrev xd:AC:= (sR 6 [oM 24 3,oM 2 24] .ret)
abbrev Yfk:AC:= (.seq (.block 0<|.loop xb) xd)
abbrev Yek:AC:= (sR 0 [oI 2 0]<|sR 1 [oI 3 0]<|.seq (sR 2 [oM 4 0,oO 5<|.call false 132 [(.t 4),(.c<|.s [45])]]<|cD 5 (.reg 3 [oI 3 1]) .skip) Yfk)
def sf:AF:= { nt:=25,res:=[.tmp 2],body:=Yek }
abbrev Ytl(PG:Zb)(d:Nat)(Q:Q0)(s0:BS)(n3:Int):Prop:=
  ∀(U:Sl)(st:St),U 0=.s s0->U 3=.i .i64 n3->W PG d (.loop xb) U st (Zs 0 (Zk PG d xd Q))
def nY(PG:Zb)(K:Int->Prop)(n3:Int):Prop:=
  K n3
section
variable(PG:Zb)(K:Int->Prop)
def sC(P0:Int->Prop)(s0:BS)(n3:Int):Prop:=
  (n3<(s0.length:Int)->0<=n3/\∃e:UInt8,s0[(n3).toNat]?=some e/\((e.toNat:Int)>=48->0<=n3/\∃c:UInt8,s0[(n3).toNat]?=some c/\((c.toNat:Int)<=57->P0 (IntKind.i64.wrap (n3+1)))/\(¬((c.toNat:Int)<=57)->nY PG K n3))/\(¬((e.toNat:Int)>=48)->nY PG K n3))/\(¬(n3<(s0.length:Int))->nY PG K n3)
def nX(s0:BS)(n3:Int):Prop:=
  ∀P0:Int->Prop,(∀(n3:Int),sC PG K P0 s0 n3->P0 n3)->P0 n3
def FI(s0:BS):Prop:=
  ∃c,Ze PG 132 [.s s0,.s ([45]:BS)] (.b c)/\(c=true->nX PG K s0 1)/\(c=false->nX PG K s0 0)
end
section
variable{K:Int->Prop}(hQ:H1 (AV.i .i64) 2 Q K)
variable{n3:Int}{s0:BS}{P0:Int->Prop}
variable(aD :∀(n3:Int),P0 n3->Ytl PG d Q s0 n3)(H0:U 0=.s s0)(H3:U 3=.i .i64 n3)
include hQ H3 in
theorem Xdv(h:nY PG K n3):W PG d xd U st Q:=
 au trivial
include hQ aD H0 H3 in
theorem Xtn(h:sC PG K P0 s0 n3):W PG d xb U st (Zk PG d (.loop xb) (Zs 0 (Zk PG d xd Q))):=
 au @Xdv
def Xe0(h:nX PG K s0 n3):W PG d Yfk U st Q:=
 Zl<|Yg<|h (Ytl PG d Q s0) (fun _ hb _ _ H0 H3=>W.loop<|Xtn hQ (fun _ x=>x) H0 H3 hb) _ _ H0 H3
include hQ H0 in
theorem Xsq(h:FI PG K s0):W PG d Yek U st Q:=
 au @Xe0
def Xbm(hf:PG.fn 135=some sf)(h:FI PG K s0):∃aa:Int,K aa/\Ze PG 135 [.s s0] (.i .i64 aa):=
 P1 hf J<|Xsq (h1 J fun _=>J) J h
end
abbrev xe:AC:= (.seq (sR 4 [oM 41 5,oF 42 3 2,oL 43 42,oJ 44 43,oT 45 .lss 41 44]<|cD 45 .skip<|.exit 0)<|.seq (.block 1<|sR 6 [oF 48 3 2,oL 49 48,oM 50 5,oX 51 5 49 50,oK 52 5 51,oF 53 3 3,oL 54 53,oM 55 5,oX 56 5 54 55,oK 57 5 56,oQ 58 78 [52,57],oZ 59 58]<|cD 59 (sR 7 [oC 4<|.b false] .ret) .skip)<|.reg 5 [oM 46 5,oV 47 .add 46 1,oM 5 47])
abbrev xf:AC:= (sR 8 [oC 4<|.b true] .ret)
abbrev b78:AC:= (sR 0 [oY 2 5 0,oY 3 5 1,oC 4<|.b false]<|.seq (sR 1 [oF 6 0 2,oL 7 6,oF 8 0 3,oL 9 8,oT 10 .neq 7 9,oM 11 10,gF 11<|oF 12 1 2,gF 11<|oL 13 12,gF 11<|oF 14 1 3,gF 11<|oL 15 14,gF 11<|oT 16 .neq 13 15,oR 17 11 16,oM 18 17,gF 18<|oF 19 2 2,gF 18<|oL 20 19,gF 18<|oF 21 2 3,gF 18<|oL 22 21,gF 18<|oT 23 .neq 20 22,oR 24 18 23,oM 25 24,gF 25<|oF 26 4 2,gF 25<|oL 27 26,gF 25<|oF 28 4 3,gF 25<|oL 29 28,gF 25<|oO 30<|.beq true (.t 27)<|.t 29,oR 31 25 30,oM 32 31,gF 32<|oF 33 3 2,gF 32<|oL 34 33,gF 32<|oJ 35 34,gF 32<|oF 36 3 3,gF 32<|oL 37 36,gF 32<|oJ 38 37,gF 32<|oT 39 .neq 35 38,oR 40 32 39]<|cD 40 (sR 2 [oC 4<|.b false] .ret) .skip)<|.seq (sR 3 [oI 5 0]<|.block 0<|.loop xe) xf)
def r7:AF:= { nt:=60,res:=[.tmp 4],body:=b78 }
abbrev Ypk(PG:Zb)(d:Nat)(Q:Q0)(i5:Int)(m0 m1:Za):Prop:=
  ∀(U:Sl)(st:St)(v0 v1:Nat),U 2=.p (d,0) v0 0->U 3=.p (d,1) v1 0->U 5=.i .i64 i5->lk st.bx (d,0)=some (v0,Za.cs m0)->lk st.bx (d,1)=some (v1,Za.cs m1)->W PG d (.loop xe) U st (Zs 0 (Zk PG d xf Q))
def GI(PG:Zb)(K:Bool->Prop):Prop:=
  K true
section
variable(PG:Zb)(K:Bool->Prop)
def sM(P0:Int->Za->Za->Prop)(i5:Int)(m0 m1:Za):Prop:=
  (i5<(m0.list.length:Int)->0<=i5/\∃i:Za,m0.list[(i5).toNat]?=some i/\0<=i5/\∃e:Za,m1.list[(i5).toNat]?=some e/\∃c,Ze PG 78 [i.av,e.av] (.b c)/\((!c)=true->K false)/\((!c)=false->P0 (IntKind.i64.wrap (i5+1)) m0 m1))/\(¬(i5<(m0.list.length:Int))->GI PG K )
def GH(a0 b1:Za):Prop:=
  (a0.kind≠b1.kind->K false)/\(¬(a0.kind≠b1.kind)->(a0.int≠b1.int->K false)/\(¬(a0.int≠b1.int)->(a0.text≠b1.text->K false)/\(¬(a0.text≠b1.text)->(a0.cut≠b1.cut->K false)/\(¬(a0.cut≠b1.cut)->((a0.list.length:Int)≠(b1.list.length:Int)->K false)/\(¬((a0.list.length:Int)≠(b1.list.length:Int))->∀P0:Int->Za->Za->Prop,(∀(i5:Int)(m0 m1:Za),sM PG K P0 i5 m0 m1->P0 i5 m0 m1)->P0 0 a0 b1)))))
end
section
variable{K:Bool->Prop}(hQ:H1 AV.b 4 Q K)
variable{i5:Int}{m0 m1:Za}{P0:Int->Za->Za->Prop}{v0 v1:Nat}{a0 b1:Za}
variable(aD :∀(i5:Int)(m0 m1:Za),P0 i5 m0 m1->Ypk PG d Q i5 m0 m1)(H0:U 0=a0.av)(H2:U 2=.p (d,0) v0 0)(H1:U 1=b1.av)(H3:U 3=.p (d,1) v1 0)(H5:U 5=.i .i64 i5)(B0:lk st.bx (d,0)=some (v0,Za.cs m0))(B1:lk st.bx (d,1)=some (v1,Za.cs m1))
include hQ in
theorem Xyx(h:GI PG K):W PG d xf U st Q:=
 au trivial
include hQ aD H2 H3 H5 B0 B1 in
theorem Ywp(h:sM PG K P0 i5 m0 m1):W PG d xe U st (Zk PG d (.loop xe) (Zs 0 (Zk PG d xf Q))):=
 au @Xyx
include hQ H0 H1 in
theorem Xre(h:GH PG K a0 b1):W PG d b78 U st Q:=
 q_ J<|Jw H0 J<|Jw H1 J<|m_<|e_<|Zl<|q_ J<|f_ J<|l_ J (Zm J Zj) J J<|f_ J<|l_ J Zj J J<|b_ J J Vr<|Yt J<|Xe (g:=11) J (fun c=>z_ 29 J<|e_<|Xh J<|q_ J<|m_<|Zu<|hQ J<|h.1 c)<|fun c=>Zg J<|f_ J<|Zg J<|l_ J (Zm J Zj) J J<|Zg J<|f_ J<|Zg J<|l_ J Zj J J<|Zg J<|b_ J J Vr<|z_ 2 J<|Xe (g:=18) J (fun e=>z_ 22 J<|e_<|Xh J<|q_ J<|m_<|Zu<|hQ J<|(h.2 c).1 e)<|fun e=>Zg J<|f_ J<|Zg J<|l_ J (Zm J Zj) J J<|Zg J<|f_ J<|Zg J<|l_ J Zj J J<|Zg J<|b_ J J Rt<|z_ 2 J<|Xe (g:=25) J (fun i=>z_ 15 J<|e_<|Xh J<|q_ J<|m_<|Zu<|hQ J<|((h.2 c).2 e).1 i)<|fun i=>Zg J<|f_ J<|Zg J<|l_ J (Zm J Zj) J J<|Zg J<|f_ J<|Zg J<|l_ J Zj J J<|Zg J<|QD J J<|z_ 2 J<|Xe (g:=32) J (fun j=>z_ 8 J<|e_<|Xh J<|q_ J<|m_<|Zu<|hQ J<|(((h.2 c).2 e).2 i).1 j)<|fun j=>Zg J<|f_ J<|Zg J<|l_ J (Zm J Zj) J J<|Zg J<|Xq J<|Zg J<|f_ J<|Zg J<|l_ J Zj J J<|Zg J<|Xq J<|Zg J<|b_ J J Vr<|Vt J J<|e_<|Yi J (fun k=>q_ J<|m_<|Zu<|hQ J<|((((h.2 c).2 e).2 i).2 j).1 k)<|fun k=>Ya<|Zl<|q_ J<|m_<|e_<|Yg<|(((((h.2 c).2 e).2 i).2 j).2 k) (Ypk PG d Q ) (fun _ _ _ hb _ _ _ _ H2 H3 H5 B0 B1=>W.loop<|Ywp hQ (fun _ _ _ x=>x) H2 H3 H5 B0 B1 hb) _ _ _ _ J J J (Zm J Zj) Zj
def p78(hf:PG.fn 78=some r7)(h:GH PG K a0 b1):∃aa:Bool,K aa/\Ze PG 78 [a0.av,b1.av] (.b aa):=
 P1 hf J<|Xre (h1 J fun _=>J) J J h
end
end Go.AM

namespace Go.AM
open Go
set_option maxRecDepth 4000
set_option maxHeartbeats 2000000
attribute [local irreducible] Decidable.decide W WO Ve Vd
variable{PG:Zb}{d:Nat}{Q:Q0}{U:Sl}{st:St}{kp:Zt}{vp:Nat}{Zp:St}
abbrev xg:AC:= (.seq (.block 0<|sR 2 [oM 8 4,oM 9 0,oN 10 9,oF 11 0 10,oL 12 11,oH 13 12,oT 14 .geq 8 13,oM 7 14]<|cD 7 (sR 3 [oC 2<|.s [],oC 3<|.b false] .ret)<|sR 4 [oM 16 0,oN 17 16,oF 18 0 17,oL 19 18,oM 20 4,oO 21<|.ixS (.t 19)<|.t 20,oW 22 .eql 21 92,oM 15 22]<|cD 15 (sR 5 [oM 23 4,oV 24 .add 23 2,oM 4 24]<|.goto 0)<|sR 6 [oM 26 0,oN 27 26,oF 28 0 27,oL 29 28,oM 30 4,oO 31<|.ixS (.t 29)<|.t 30,oW 32 .neq 31 34,oM 25 32]<|cD 25 (sR 7 [oM 33 4,oV 34 .add 33 1,oM 4 34]<|.goto 0) .skip)<|sR 8 [oM 36 0,oN 37 36,oF 38 0 37,oL 39 38,oM 40 4,oV 41 .add 40 1,oO 42<|.slS (.t 39) none<|some<|.t 41,oQ 43 25 [42],oM 35 43,oE 44 0 35,oE 45 1 35,oM 5 44,oM 6 45]<|sR 9 [oM 46 0,oM 47 0,oN 48 47,oF 49 0 48,oL 50 49,oM 51 4,oV 52 .add 51 1,oO 53<|.slS (.t 50) (some<|.t 52) none,oN 54 46,oF 55 0 54,oS 1 55 53]<|sR 10 [oM 56 5,oM 57 6,oV 58 .eql 57 0,oM 2 56,oM 3 58] .ret)
abbrev Yk0:AC:= (.gscope 0 (.reg 1 [oI 4 1]) xg)
abbrev Yg5:AC:= (sR 0 [oC 2<|.s [],oC 3<|.b false] Yk0)
def Eo:AF:= { nt:=59,res:=[.tmp 2,.tmp 3],body:=Yg5 }
abbrev Xle(d:Nat)(Zp:St)(kp:Zt)(vp:Nat)(Q:Q0)(K:BS->Bool->Sc->Prop):Prop:=∀(U:Sl)(st:St)(aa:BS)(ae:Bool)(b_:Sc),U 2=.s aa->U 3=.b ae->lk st.bx kp=some (vp,[.s b_.left])->Fr d kp Zp.bx Zp.ow st.bx st.ow->K aa ae b_->Q .ret U st
abbrev Ybq(PG:Zb)(d:Nat)(Q:Q0)(Zp:St)(kp:Zt)(vp:Nat)(n4:Int)(mP:Sc):Prop:=
  ∀(U:Sl)(st:St),U 0=.p kp vp 0->U 4=.i .i64 n4->lk st.bx kp=some (vp,[.s mP.left])->Fr d kp Zp.bx Zp.ow st.bx st.ow->WG PG d 0 xg U st Q
section
variable(PG:Zb)(K:BS->Bool->Sc->Prop)
def FL(P0:Int->Sc->Prop)(n4:Int)(mP:Sc):Prop:=
  (n4>=(mP.left.length:Int)->K ([]:BS) false mP)/\(¬(n4>=(mP.left.length:Int))->0<=n4/\∃e:UInt8,mP.left[(n4).toNat]?=some e/\((e.toNat:Int)=92->P0 (IntKind.i64.wrap (n4+2)) mP)/\(¬((e.toNat:Int)=92)->0<=n4/\∃c:UInt8,mP.left[(n4).toNat]?=some c/\((c.toNat:Int)≠34->P0 (IntKind.i64.wrap (n4+1)) mP)/\(¬((c.toNat:Int)≠34)->0<=(IntKind.i64.wrap (n4+1))/\(IntKind.i64.wrap (n4+1)).toNat<=mP.left.length/\∃k j,Ze PG 25 [.s (mP.left.take (IntKind.i64.wrap (n4+1)).toNat)] (.tup [.s k,.i .i64 j])/\0<=(IntKind.i64.wrap (n4+1))/\(IntKind.i64.wrap (n4+1)).toNat<=mP.left.length/\K k (decide (j=0)) (Sc.mk (mP.left.drop (IntKind.i64.wrap (n4+1)).toNat)))))
def FK(mP:Sc):Prop:=
  ∀P0:Int->Sc->Prop,(∀(n4:Int)(mP:Sc),FL PG K P0 n4 mP->P0 n4 mP)->P0 1 mP
def FJ(mP:Sc):Prop:=
  FK PG K mP
end
section
variable{K:BS->Bool->Sc->Prop}(hQ:Xle d Zp kp vp Q K)(aC:kp.1<d)
variable{n4:Int}{mP:Sc}{P0:Int->Sc->Prop}
variable(aD :∀(n4:Int)(mP:Sc),P0 n4 mP->Ybq PG d Q Zp kp vp n4 mP)(H0:U 0=.p kp vp 0)(H4:U 4=.i .i64 n4)(BP:lk st.bx kp=some (vp,[.s mP.left]))(FR:Fr d kp Zp.bx Zp.ow st.bx st.ow)
def Yxy(h:FL PG K P0 n4 mP):W PG d xg U st (CR PG d 0 xg Q):=
 Zl<|Yg<|q_ J<|m_<|m_<|Vc H0<|f_ J<|l_ J BP J J<|Qb J<|b_ H4 J Ha<|m_<|e_<|Yi J (fun k=>q_ J<|m_<|m_<|Zu<|hQ _ _ _ _ _ J J BP FR<|h.1 k)<|fun k=>q_ J<|m_<|Vc H0<|f_ J<|l_ J BP J J<|m_<|(h.2 k).2.elim fun _ j=>Qj J H4 (h.2 k).1 j.1<|b_ J J Xf<|m_<|e_<|Yi J (fun o=>q_ J<|m_<|b_ H4 J Vp<|m_<|e_<|W.goto ⟨rfl,aD _ _ (j.2.1 o) _ _ H0 J BP FR⟩)<|fun o=>q_ J<|m_<|Vc H0<|f_ J<|l_ J BP J J<|m_<|(j.2.2 o).2.elim fun _ c=>Qj J H4 (j.2.2 o).1 c.1<|b_ J J Vr<|m_<|e_<|Yi J (fun e=>q_ J<|m_<|b_ H4 J Vp<|m_<|e_<|W.goto ⟨rfl,aD _ _ (c.2.1 e) _ _ H0 J BP FR⟩)<|fun e=>Ya<|q_ J<|m_<|Vc H0<|f_ J<|l_ J BP J J<|m_<|b_ H4 J Vp<|Bc J J (c.2.2 e).1 (c.2.2 e).2.1<|x2 (c.2.2 e).2.2 fun _ _ i=>Yh (Xu J J) i.1<|m_<|x_ J J<|x_ J J<|m_<|m_<|e_<|q_ J<|m_<|m_<|Vc H0<|f_ J<|l_ J BP J J<|m_<|b_ H4 J Vp<|Jo J J i.2.1 i.2.2.1<|Vc H0<|f_ J<|Zy J BP J J J<|e_<|q_ J<|m_<|m_<|b_ J J Xf<|m_<|m_<|Zu<|hQ _ _ _ _ _ J J Zj (Fr.own FR) i.2.2.2
def Xak(h:FK PG K mP):W PG d Yk0 U st Q:=
 W.gscope'<|W.reg0 J fun _ _=>m_<|e_<|h (Ybq PG d Q Zp kp vp ) (fun _ _ hb _ _ H0 H4 BP FR=>WG.step<|Yxy hQ (fun _ _ x=>x) H0 H4 BP FR hb) _ _ H0 J BP FR
include hQ aC H0 BP FR in
theorem Xfa(h:FJ PG K mP):W PG d Yg5 U st Q:=
 au @Xak
def Xsi(hf:PG.fn 130=some Eo)(h:FJ PG K mP):Us PG 130 (Bx [.s mP.left]) [] (fun r (b_:Sc)=>∃aa:BS,∃ae:Bool,(r=.tup [.s aa,.b ae])/\K aa ae b_) (fun b_=>(Bx [.s b_.left])):=
  Us.of hf rfl (fun _=>Bx.out) fun d st kp vp aC hB=>Xfa (Zp:=st) (Q:=fun e U aA=>(e=.normal\/e=.ret)/\∃r b_,Xj U aA Eo.res=some r/\_/\_/\Fr d kp st.bx st.ow aA.bx aA.ow) (fun U aA   aa ae b_ H2 H3 hb hf hk=>⟨.inr rfl,.tup [.s aa,.b ae],b_,by simp only[Eo,Xj,Wz,H2,H3,Kq,kK],⟨aa,ae,rfl,hk⟩,hb,hf⟩) aC (U:=Wg [.p kp vp 0]) rfl hB Fr.refl h
end
abbrev xh:AC:= (.seq (sR 2 [oM 7 4,oM 8 0,oN 9 8,oF 10 0 9,oL 11 10,oH 12 11,oT 13 .lss 7 12,oM 14 13,gT 14<|oM 15 0,gT 14<|oN 16 15,gT 14<|oF 17 0 16,gT 14<|oL 18 17,gT 14<|oM 19 4,gT 14<|oO 20<|.ixS (.t 18)<|.t 19,gT 14<|oW 21 .geq 20 48,gT 14<|oM 22 21,gT 22<|oM 23 0,gT 22<|oN 24 23,gT 22<|oF 25 0 24,gT 22<|oL 26 25,gT 22<|oM 27 4,gT 22<|oO 28<|.ixS (.t 26)<|.t 27,gT 22<|oW 29 .leq 28 57,gT 14<|oA 30 22 29,gT 14<|oM 31 30,gF 31<|oM 32 4,gF 31<|oV 33 .eql 32 0,gF 31<|oM 34 33,gT 34<|oM 35 0,gT 34<|oN 36 35,gT 34<|oF 37 0 36,gT 34<|oL 38 37,gT 34<|oM 39 4,gT 34<|oO 40<|.ixS (.t 38)<|.t 39,gT 34<|oW 41 .eql 40 45,gF 31<|oA 42 34 41,gT 14<|oR 43 31 42,oA 44 14 43]<|cD 44 (sR 3 [oM 45 4,oV 46 .add 45 1,oM 4 46]<|.goto 0) .skip)<|sR 4 [oM 48 0,oN 49 48,oF 50 0 49,oL 51 50,oM 52 4,oO 53<|.slS (.t 51) none<|some<|.t 52,oQ 54 21 [53],oM 47 54,oE 55 0 47,oE 56 1 47,oM 5 55,oM 6 56]<|sR 5 [oM 57 0,oM 58 0,oN 59 58,oF 60 0 59,oL 61 60,oM 62 4,oO 63<|.slS (.t 61) (some<|.t 62) none,oN 64 57,oF 65 0 64,oS 1 65 63]<|sR 6 [oM 66 5,oM 67 6,oV 68 .eql 67 0,oM 2 66,oM 3 68] .ret)
abbrev Yh1:AC:= (.gscope 0 (.reg 1 [oI 4 0]) xh)
abbrev Yrc:AC:= (sR 0 [oI 2 0,oC 3<|.b false] Yh1)
def Fa:AF:= { nt:=69,res:=[.tmp 2,.tmp 3],body:=Yrc }
abbrev Xbk(d:Nat)(Zp:St)(kp:Zt)(vp:Nat)(Q:Q0)(K:Int->Bool->Sc->Prop):Prop:=∀(U:Sl)(st:St)(aa:Int)(ae:Bool)(b_:Sc),U 2=.i .i64 aa->U 3=.b ae->lk st.bx kp=some (vp,[.s b_.left])->Fr d kp Zp.bx Zp.ow st.bx st.ow->K aa ae b_->Q .ret U st
abbrev Ylk(PG:Zb)(d:Nat)(Q:Q0)(Zp:St)(kp:Zt)(vp:Nat)(n4:Int)(mP:Sc):Prop:=
  ∀(U:Sl)(st:St),U 0=.p kp vp 0->U 4=.i .i64 n4->lk st.bx kp=some (vp,[.s mP.left])->Fr d kp Zp.bx Zp.ow st.bx st.ow->WG PG d 0 xh U st Q
section
variable(PG:Zb)(K:Int->Bool->Sc->Prop)
def sB(P0:Int->Sc->Prop)(n4:Int)(mP:Sc):Prop:=
  (n4<(mP.left.length:Int)->0<=n4/\∃c:UInt8,mP.left[(n4).toNat]?=some c/\((c.toNat:Int)>=48->0<=n4/\∃j:UInt8,mP.left[(n4).toNat]?=some j/\((j.toNat:Int)<=57->P0 (IntKind.i64.wrap (n4+1)) mP)/\(¬((j.toNat:Int)<=57)->(n4=0->0<=n4/\∃k:UInt8,mP.left[(n4).toNat]?=some k/\((k.toNat:Int)=45->P0 (IntKind.i64.wrap (n4+1)) mP)/\(¬((k.toNat:Int)=45)->0<=n4/\(n4).toNat<=mP.left.length/\∃y o,Ze PG 21 [.s (mP.left.take (n4).toNat)] (.tup [.i .i64 y,.i .i64 o])/\0<=n4/\(n4).toNat<=mP.left.length/\K y (decide (o=0)) (Sc.mk (mP.left.drop (n4).toNat))))/\(¬(n4=0)->0<=n4/\(n4).toNat<=mP.left.length/\∃p x,Ze PG 21 [.s (mP.left.take (n4).toNat)] (.tup [.i .i64 p,.i .i64 x])/\0<=n4/\(n4).toNat<=mP.left.length/\K p (decide (x=0)) (Sc.mk (mP.left.drop (n4).toNat)))))/\(¬((c.toNat:Int)>=48)->(n4=0->0<=n4/\∃e:UInt8,mP.left[(n4).toNat]?=some e/\((e.toNat:Int)=45->P0 (IntKind.i64.wrap (n4+1)) mP)/\(¬((e.toNat:Int)=45)->0<=n4/\(n4).toNat<=mP.left.length/\∃q z,Ze PG 21 [.s (mP.left.take (n4).toNat)] (.tup [.i .i64 q,.i .i64 z])/\0<=n4/\(n4).toNat<=mP.left.length/\K q (decide (z=0)) (Sc.mk (mP.left.drop (n4).toNat))))/\(¬(n4=0)->0<=n4/\(n4).toNat<=mP.left.length/\∃v r,Ze PG 21 [.s (mP.left.take (n4).toNat)] (.tup [.i .i64 v,.i .i64 r])/\0<=n4/\(n4).toNat<=mP.left.length/\K v (decide (r=0)) (Sc.mk (mP.left.drop (n4).toNat)))))/\(¬(n4<(mP.left.length:Int))->0<=n4/\(n4).toNat<=mP.left.length/\∃w u,Ze PG 21 [.s (mP.left.take (n4).toNat)] (.tup [.i .i64 w,.i .i64 u])/\0<=n4/\(n4).toNat<=mP.left.length/\K w (decide (u=0)) (Sc.mk (mP.left.drop (n4).toNat)))
def FF(mP:Sc):Prop:=
  ∀P0:Int->Sc->Prop,(∀(n4:Int)(mP:Sc),sB PG K P0 n4 mP->P0 n4 mP)->P0 0 mP
def FE(mP:Sc):Prop:=
  FF PG K mP
end
section
variable{K:Int->Bool->Sc->Prop}(hQ:Xbk d Zp kp vp Q K)(aC:kp.1<d)
variable{n4:Int}{mP:Sc}{P0:Int->Sc->Prop}
variable(aD :∀(n4:Int)(mP:Sc),P0 n4 mP->Ylk PG d Q Zp kp vp n4 mP)(H0:U 0=.p kp vp 0)(H4:U 4=.i .i64 n4)(BP:lk st.bx kp=some (vp,[.s mP.left]))(FR:Fr d kp Zp.bx Zp.ow st.bx st.ow)
def Xmw(h:sB PG K P0 n4 mP):W PG d xh U st (CR PG d 0 xh Q):=
 Zl<|q_ J<|Wc H4<|Jb H0<|Vc J<|f_ J<|l_ J BP J J<|Qb J<|b_ J J Wp<|Yt J<|Xe (g:=14) J (fun k=>Zg J<|Jb H0<|Zg J<|Vc J<|Zg J<|f_ J<|Zg J<|l_ J BP J J<|Zg J<|Wc H4<|Zg J<|(h.1 k).2.elim fun _ c=>Qj J J (h.1 k).1 c.1<|Zg J<|b_ J J Ha<|Zg J<|Yt J<|Xe (g:=22) J (fun e=>Zg J<|Jb H0<|Zg J<|Vc J<|Zg J<|f_ J<|Zg J<|l_ J BP J J<|Zg J<|Wc H4<|Zg J<|(c.2.1 e).2.elim fun _ i=>Qj J J (c.2.1 e).1 i.1<|Zg J<|b_ J J Oh<|Zg J<|Gz J J<|Zg J<|Yt J<|Xe (g:=31) J (fun j=>z_ 3 J<|Xv J<|Xv J<|Xv J<|Xv J<|Xv J<|Xv J<|Xv J<|nT J<|Zg J<|z_ 2 J<|e_<|Xh J<|q_ J<|m_<|b_ H4 J Vp<|m_<|e_<|W.goto ⟨rfl,aD _ _ (i.2.1 j) _ _ H0 J BP FR⟩)<|fun j=>Zg J<|Wc H4<|Zg J<|b_ J J Xf<|Zg J<|Yt J<|Xe (g:=34) J (fun p=>Zg J<|Jb H0<|Zg J<|Vc J<|Zg J<|f_ J<|Zg J<|l_ J BP J J<|Zg J<|Wc H4<|Zg J<|((i.2.2 j).1 p).2.elim fun _ q=>Qj J J ((i.2.2 j).1 p).1 q.1<|Zg J<|b_ J J Xf<|Zg J<|Gz J J<|Zg J<|z_ 2 J<|e_<|Yi J (fun s=>q_ J<|m_<|b_ H4 J Vp<|m_<|e_<|W.goto ⟨rfl,aD _ _ (q.2.1 s) _ _ H0 J BP FR⟩)<|fun s=>Ya<|q_ J<|m_<|Vc H0<|f_ J<|l_ J BP J J<|m_<|Bc J H4 (q.2.2 s).1 (q.2.2 s).2.1<|x2 (q.2.2 s).2.2 fun _ _ v=>Yh (Xu J J) v.1<|m_<|x_ J J<|x_ J J<|m_<|m_<|e_<|q_ J<|m_<|m_<|Vc H0<|f_ J<|l_ J BP J J<|m_<|Jo J H4 v.2.1 v.2.2.1<|Vc H0<|f_ J<|Zy J BP J J J<|e_<|q_ J<|m_<|m_<|b_ J J Xf<|m_<|m_<|Zu<|hQ _ _ _ _ _ J J Zj (Fr.own FR) v.2.2.2)<|fun p=>z_ 7 J<|Zg J<|Vt J J<|Zg J<|z_ 2 J<|e_<|Qp J<|Ya<|q_ J<|m_<|Vc H0<|f_ J<|l_ J BP J J<|m_<|Bc J H4 ((i.2.2 j).2 p).1 ((i.2.2 j).2 p).2.1<|x2 ((i.2.2 j).2 p).2.2 fun _ _ w=>Yh (Xu J J) w.1<|m_<|x_ J J<|x_ J J<|m_<|m_<|e_<|q_ J<|m_<|m_<|Vc H0<|f_ J<|l_ J BP J J<|m_<|Jo J H4 w.2.1 w.2.2.1<|Vc H0<|f_ J<|Zy J BP J J J<|e_<|q_ J<|m_<|m_<|b_ J J Xf<|m_<|m_<|Zu<|hQ _ _ _ _ _ J J Zj (Fr.own FR) w.2.2.2)<|fun e=>z_ 7 J<|Zg J<|Vt J J<|Zg J<|Yt J<|Zg J<|Wc H4<|Zg J<|b_ J J Xf<|Zg J<|Yt J<|Xe (g:=34) J (fun o=>Zg J<|Jb H0<|Zg J<|Vc J<|Zg J<|f_ J<|Zg J<|l_ J BP J J<|Zg J<|Wc H4<|Zg J<|((c.2.2 e).1 o).2.elim fun _ r=>Qj J J ((c.2.2 e).1 o).1 r.1<|Zg J<|b_ J J Xf<|Zg J<|Gz J J<|Zg J<|z_ 2 J<|e_<|Yi J (fun u=>q_ J<|m_<|b_ H4 J Vp<|m_<|e_<|W.goto ⟨rfl,aD _ _ (r.2.1 u) _ _ H0 J BP FR⟩)<|fun u=>Ya<|q_ J<|m_<|Vc H0<|f_ J<|l_ J BP J J<|m_<|Bc J H4 (r.2.2 u).1 (r.2.2 u).2.1<|x2 (r.2.2 u).2.2 fun _ _ x=>Yh (Xu J J) x.1<|m_<|x_ J J<|x_ J J<|m_<|m_<|e_<|q_ J<|m_<|m_<|Vc H0<|f_ J<|l_ J BP J J<|m_<|Jo J H4 x.2.1 x.2.2.1<|Vc H0<|f_ J<|Zy J BP J J J<|e_<|q_ J<|m_<|m_<|b_ J J Xf<|m_<|m_<|Zu<|hQ _ _ _ _ _ J J Zj (Fr.own FR) x.2.2.2)<|fun o=>z_ 7 J<|Zg J<|Vt J J<|Zg J<|z_ 2 J<|e_<|Qp J<|Ya<|q_ J<|m_<|Vc H0<|f_ J<|l_ J BP J J<|m_<|Bc J H4 ((c.2.2 e).2 o).1 ((c.2.2 e).2 o).2.1<|x2 ((c.2.2 e).2 o).2.2 fun _ _ y=>Yh (Xu J J) y.1<|m_<|x_ J J<|x_ J J<|m_<|m_<|e_<|q_ J<|m_<|m_<|Vc H0<|f_ J<|l_ J BP J J<|m_<|Jo J H4 y.2.1 y.2.2.1<|Vc H0<|f_ J<|Zy J BP J J J<|e_<|q_ J<|m_<|m_<|b_ J J Xf<|m_<|m_<|Zu<|hQ _ _ _ _ _ J J Zj (Fr.own FR) y.2.2.2)<|fun k=>z_ 8 J<|Xv J<|Xv J<|Xv J<|Xv J<|Xv J<|Xv J<|Xv J<|z_ 2 J<|Xv J<|Xv J<|Xv J<|Xv J<|Xv J<|Xv J<|Xv J<|Xv J<|Xv J<|Xv J<|Xv J<|z_ 2 J<|e_<|Qp J<|Ya<|q_ J<|m_<|Vc H0<|f_ J<|l_ J BP J J<|m_<|Bc J H4 (h.2 k).1 (h.2 k).2.1<|x2 (h.2 k).2.2 fun _ _ z=>Yh (Xu J J) z.1<|m_<|x_ J J<|x_ J J<|m_<|m_<|e_<|q_ J<|m_<|m_<|Vc H0<|f_ J<|l_ J BP J J<|m_<|Jo J H4 z.2.1 z.2.2.1<|Vc H0<|f_ J<|Zy J BP J J J<|e_<|q_ J<|m_<|m_<|b_ J J Xf<|m_<|m_<|Zu<|hQ _ _ _ _ _ J J Zj (Fr.own FR) z.2.2.2
def Xga(h:FF PG K mP):W PG d Yh1 U st Q:=
 W.gscope'<|W.reg0 J fun _ _=>m_<|e_<|h (Ylk PG d Q Zp kp vp ) (fun _ _ hb _ _ H0 H4 BP FR=>WG.step<|Xmw hQ (fun _ _ x=>x) H0 H4 BP FR hb) _ _ H0 J BP FR
include hQ aC H0 BP FR in
theorem Yyu(h:FE PG K mP):W PG d Yrc U st Q:=
 au @Xga
def Xey(hf:PG.fn 131=some Fa)(h:FE PG K mP):Us PG 131 (Bx [.s mP.left]) [] (fun r (b_:Sc)=>∃aa:Int,∃ae:Bool,(r=.tup [.i .i64 aa,.b ae])/\K aa ae b_) (fun b_=>(Bx [.s b_.left])):=
  Us.of hf rfl (fun _=>Bx.out) fun d st kp vp aC hB=>Yyu (Zp:=st) (Q:=fun e U aA=>(e=.normal\/e=.ret)/\∃r b_,Xj U aA Fa.res=some r/\_/\_/\Fr d kp st.bx st.ow aA.bx aA.ow) (fun U aA   aa ae b_ H2 H3 hb hf hk=>⟨.inr rfl,.tup [.i .i64 aa,.b ae],b_,by simp only[Fa,Xj,Wz,H2,H3,Kq,kK],⟨aa,ae,rfl,hk⟩,hb,hf⟩) aC (U:=Wg [.p kp vp 0]) rfl hB Fr.refl h
end
abbrev H66(Q:Q0)(K:Bool->Prop):Prop:=∀(U:Sl)(st:St)(aa:Bool),U 4=.b aa->K aa->Q .ret U st
section
variable{K:Bool->Prop}(hQ:H66 Q K)
end
end Go.AM

namespace Go.AM
open Go
set_option maxRecDepth 4000
set_option maxHeartbeats 2000000
attribute [local irreducible] Decidable.decide W WO Ve Vd
variable{PG:Zb}{d:Nat}{Q:Q0}{U:Sl}{st:St}{Zp:St}
abbrev Yt0:AC:= (sR 0 [oC 2<|.s []]<|sR 1 [oM 3 0,oQ 4 15 [3],oM 2 4] .ret)
def sT:AF:= { nt:=5,res:=[.tmp 2],body:=Yt0 }
section
variable(PG:Zb)(K:BS->Prop)
def GJ(n0:Int):Prop:=
  ∃c,Ze PG 15 [.i .i64 n0] (.s c)/\K c
end
section
variable{K:BS->Prop}(hQ:H1 AV.s 2 Q K)
variable{n0:Int}
variable(H0:U 0=.i .i64 n0)
include hQ H0 in
theorem Xb3(h:GJ PG K n0):W PG d Yt0 U st Q:=
 au trivial
def Xz3(hf:PG.fn 111=some sT)(h:GJ PG K n0):∃aa:BS,K aa/\Ze PG 111 [.i .i64 n0] (.s aa):=
 P1 hf J<|Xb3 (h1 J fun _=>J) J h
end
abbrev Ys2:AC:= (sR 0 [oC 2<|.s []]<|sR 1 [oM 6 0,oQ 7 11 [6],oM 5 7,oE 8 0 5,oE 9 1 5,oM 3 8,oM 4 9]<|sR 2 [oM 10 3,oM 2 10] .ret)
def sU:AF:= { nt:=11,res:=[.tmp 2],body:=Ys2 }
section
variable(PG:Zb)(K:BS->Prop)
def GL(s0:BS):Prop:=
  ∃c e,Ze PG 11 [.s s0] (.tup [.s c,.i .i64 e])/\K c
end
section
variable{K:BS->Prop}(hQ:H1 AV.s 2 Q K)
variable{s0:BS}
variable(H0:U 0=.s s0)
include hQ H0 in
theorem Xoy(h:GL PG K s0):W PG d Ys2 U st Q:=
 au trivial
def Xzi(hf:PG.fn 112=some sU)(h:GL PG K s0):∃aa:BS,K aa/\Ze PG 112 [.s s0] (.s aa):=
 P1 hf J<|Xoy (h1 J fun _=>J) J h
end
abbrev Ylu:AC:= (sR 0 [oO 0<|.alloc [zs,zs,zs,zs]]<|sR 1 [oO 1<|.build [zs,zs,zs,zs] [(0,1,(.c<|.s [99,97,108,108])),(1,1,(.c<|.s [100,101,102,101,114])),(2,1,(.c<|.s j_)),(3,1,(.c<|.s k_))],oS 4 0 1] .ret)
def Iy:AF:= { nt:=2,res:=[.cell 0 4 true],body:=Ylu }
abbrev Xsy(Q:Q0)(K:LB->Prop):Prop:=∀(U:Sl)(st:St)(k0:Zt)(v0:Nat)(aa:LB),U 0=.p k0 v0 0->lk st.bx k0=some (v0,List.map AV.s aa)->aa.length=4->K aa->Q .ret U st
def GM(PG:Zb)(K:LB->Prop):Prop:=
  K [([99,97,108,108]:BS),([100,101,102,101,114]:BS),([112,97,110,105,99]:BS),([101,120,105,116]:BS)]
section
variable{K:LB->Prop}(hQ:Xsy Q K)
def Xve(h:GM PG K):W PG d Ylu U st Q:=
 Zl<|W.reg<|Xl<|e_<|q_ J<|Ao (f:=AV.s) (l:=[([99,97,108,108]:BS),([100,101,102,101,114]:BS),(j_:BS),(k_:BS)]) (Yr J J<|Yr J J<|Yr J J<|Yr J J Yu) J<|Ac (f:=AV.s) (fun _=>J) J (show lk _ (d,0)=some (_,(List.map AV.s (List.replicate 4 ([]:BS)):List AV))from Zj) (by simp) J J<|Zu<|hQ _ _ _ _ _ J Zj (by simp) h
theorem Xxp(hf:PG.fn 113=some Iy)(h:GM PG K):∃aa:LB,K aa/\Ze PG 113 [] (.ag (List.map AV.s aa)):=by
  obtain⟨v,hv,aa,hk,rfl⟩:=Ze.of (K:=fun v=>∃aa:LB,K aa/\v=.ag (List.map AV.s aa)) hf rfl (Xve (U:=Wg []) (fun U st k0 v0  aa H0 ma mb hk=>⟨.ag (List.map AV.s aa),by simp only[Iy,Xj,Wz,Jc (n:=4) H0 ma (by simpa using mb),Km,kK],_,wE AV.s (fun _=>rfl) _,aa,hk,rfl⟩)  h)
  exact⟨aa,hk,hv⟩
end
abbrev Yhe:AC:= (sR 0 [oC 4<|.b false]<|sR 1 [oM 5 0,oM 6 1,oP 7 139 [5,6],oV 8 .geq 7 0,oM 4 8] .ret)
def sW:AF:= { nt:=9,res:=[.tmp 4],body:=Yhe }
section
variable(PG:Zb)(K:Bool->Prop)
def GV(s0:LB)(f1:Nat × List AV):Prop:=
  ∃c,(∀e:Zr,Ym PG 139 [.sl e (List.map Zv s0),.fn f1.1 f1.2] (fun r=>r=.i .i64 c))/\K (decide (c>=0))
end
section
variable{K:Bool->Prop}(hQ:HF d Zp AV.b 4 Q K)
variable{s0:LB}{f1:Nat × List AV}{cj:Zr}
variable(H0:U 0=.sl cj (List.map Zv s0))(H1:U 1=.fn f1.1 f1.2)(FR:Fr d (d,0) Zp.bx Zp.ow st.bx st.ow)
def Wcp(h:GV PG K s0 f1):W PG d Yhe U st Q:=
 q_ J<|m_<|e_<|q_ J<|Yf H0<|m_<|h.elim fun _ c=>Gm (Ye J<|Ye H1 Yw) (c.1 _)<|fun _ e=>b_ J J Ha<|m_<|Zu<|hQ J (Fr.raw FR e) c.2
def Xbt(hf:PG.fn 115=some sW)(h:GV PG K s0 f1)(cj:Zr):Ym PG 115 [.sl cj (List.map Zv s0),.fn f1.1 f1.2] (fun r=>∃aa:Bool,(r=.b aa)/\K aa):=
 PF hf J J fun d st Q q=>Wcp q J J Fr.refl h
end
abbrev Yv9:AC:= (sR 0 [oC 2<|.b false]<|sR 1 [oM 3 0,oH 4 3,oV 5 .gtr 4 1400060,oM 2 5] .ret)
def sX:AF:= { nt:=6,res:=[.tmp 2],body:=Yv9 }
def GO(PG:Zb)(K:Bool->Prop)(s0:BS):Prop:=
  K (decide ((s0.length:Int)>1400060))
section
variable{K:Bool->Prop}(hQ:HF d Zp AV.b 2 Q K)
variable{s0:BS}
variable(H0:U 0=.s s0)(FR:Fr d (d,0) Zp.bx Zp.ow st.bx st.ow)
include hQ H0 FR in
theorem Xzo(h:GO PG K s0):W PG d Yv9 U st Q:=
 au trivial
def Xjb(hf:PG.fn 116=some sX)(h:GO PG K s0):Ym PG 116 [.s s0] (fun r=>∃aa:Bool,(r=.b aa)/\K aa):=
 PF hf J J fun d st Q q=>Xzo q J Fr.refl h
end
abbrev xi:AC:= (sR 2 [oT 9 .lss 8 7]<|.seq (cD 9 .skip<|.exit 0)<|.seq (.block 1<|sR 3 [oM 10 8,oM 5 10]<|sR 4 [oM 11 1,oM 12 0,oM 13 5,oX 14 1 12 13,oL 15 14,oO 16<|.callv (.t 11) [(.t 15)]]<|cD 16 (sR 5 [oM 17 5,oM 4 17] .ret) .skip)<|.reg 6 [oV 18 .add 8 1,oM 8 18])
abbrev xj:AC:= (sR 7 [oI 4<|-1] .ret)
abbrev Yfi:AC:= (sR 0 [oI 4 0]<|.seq (sR 1 [oM 6 0,oJ 7 6,oI 8 0]<|.block 0<|.loop xi) xj)
def s_:AF:= { nt:=19,res:=[.tmp 4],body:=Yfi }
abbrev Yd8(PG:Zb)(d:Nat)(Q:Q0)(Zp:St)(s0:LB)(f1:Nat × List AV)(t7 t8:Int):Prop:=
  ∀(U:Sl)(st:St)(cj:Zr),U 0=.sl cj (List.map Zv s0)->U 1=.fn f1.1 f1.2->U 7=.i .i64 t7->U 8=.i .i64 t8->Fr d (d,0) Zp.bx Zp.ow st.bx st.ow->W PG d (.loop xi) U st (Zs 0 (Zk PG d xj Q))
def GR(PG:Zb)(K:Int->Prop):Prop:=
  K (-1)
section
variable(PG:Zb)(K:Int->Prop)
def nZ(P0:Int->Prop)(s0:LB)(f1:Nat × List AV)(t7 t8:Int):Prop:=
  (t8<t7->0<=t8/\∃e,s0[(t8).toNat]?=some e/\∃c,(Ym PG f1.1 ([.s e]++f1.2) (fun r=>r=.b c))/\(c=true->K t8)/\(c=false->P0 (IntKind.i64.wrap (t8+1))))/\(¬(t8<t7)->GR PG K )
def GQ(s0:LB)(f1:Nat × List AV):Prop:=
  ∀P0:Int->Prop,(∀(t8:Int),nZ PG K P0 s0 f1 (s0.length:Int) t8->P0 t8)->P0 0
end
section
variable{K:Int->Prop}(hQ:HF d Zp (AV.i .i64) 4 Q K)
variable{s0:LB}{f1:Nat × List AV}{t7 t8:Int}{P0:Int->Prop}{cj:Zr}
variable(aD :∀(t8:Int),P0 t8->Yd8 PG d Q Zp s0 f1 t7 t8)(H0:U 0=.sl cj (List.map Zv s0))(H1:U 1=.fn f1.1 f1.2)(H7:U 7=.i .i64 t7)(H8:U 8=.i .i64 t8)(FR:Fr d (d,0) Zp.bx Zp.ow st.bx st.ow)
include hQ FR in
theorem Xv2(h:GR PG K):W PG d xj U st Q:=
 au trivial
def Xc4(h:nZ PG K P0 s0 f1 t7 t8):W PG d xi U st (Zk PG d (.loop xi) (Zs 0 (Zk PG d xj Q))):=
 q_ J<|b_ H8 H7 Wp<|e_<|Zl<|Yi J (fun c=>Ya<|Zl<|Yg<|q_ J<|m_<|m_<|e_<|q_ J<|m_<|Yf H0<|m_<|(h.1 c).2.elim fun _ j=>Xy J H8 (h.1 c).1 j.1 J J<|Xx J J J<|j.2.elim fun _ e=>Fk H1 (Ye J Yw) (e.1)<|fun _ k=>e_<|Xw J (fun i=>q_ J<|m_<|m_<|Zu<|hQ H8 (Fr.raw FR k)<|e.2.1 i)<|fun i=>Ya<|W.reg0 J fun _ _=>b_ H8 J Vp<|m_<|e_<|aD _ (e.2.2 i) _ _ _ H0 H1 H7 J<|Fr.raw FR k)<|fun c=>Vg<|Xv2 hQ FR<|h.2 c
def Xa1(h:GQ PG K s0 f1):W PG d Yfi U st Q:=
 q_ J<|m_<|e_<|Zl<|q_ J<|Yf H0<|Xq J<|m_<|e_<|Yg<|h (Yd8 PG d Q Zp s0 f1 (s0.length:Int)) (fun _ hb _ _ _ H0 H1 H7 H8 FR=>W.loop<|Xc4 hQ (fun _ x=>x) H0 H1 H7 H8 FR hb) _ _ _ H0 H1 J J FR
def Xay(hf:PG.fn 139=some s_)(h:GQ PG K s0 f1)(cj:Zr):Ym PG 139 [.sl cj (List.map Zv s0),.fn f1.1 f1.2] (fun r=>∃aa:Int,(r=.i .i64 aa)/\K aa):=
 PF hf J J fun d st Q q=>Xa1 q J J Fr.refl h
end
abbrev Ymj:AC:= (sR 0 [oC 4<|.b false]<|sR 1 [oM 5 0,oM 6 1,oP 7 144 [5,6],oV 8 .geq 7 0,oM 4 8] .ret)
def sZ:AF:= { nt:=9,res:=[.tmp 4],body:=Ymj }
section
variable(PG:Zb)(K:Bool->Prop)
def GW(s0:List Xt)(f1:Nat × List AV):Prop:=
  ∃c,(∀e:Zr,Ym PG 144 [.sl e (List.map Xt.row s0),.fn f1.1 f1.2] (fun r=>r=.i .i64 c))/\K (decide (c>=0))
end
section
variable{K:Bool->Prop}(hQ:HF d Zp AV.b 4 Q K)
variable{s0:List Xt}{f1:Nat × List AV}{cj:Zr}
variable(H0:U 0=.sl cj (List.map Xt.row s0))(H1:U 1=.fn f1.1 f1.2)(FR:Fr d (d,0) Zp.bx Zp.ow st.bx st.ow)
def Xk0(h:GW PG K s0 f1):W PG d Ymj U st Q:=
 q_ J<|m_<|e_<|q_ J<|Yf H0<|m_<|h.elim fun _ c=>Gm (Ye J<|Ye H1 Yw) (c.1 _)<|fun _ e=>b_ J J Ha<|m_<|Zu<|hQ J (Fr.raw FR e) c.2
def Xn8(hf:PG.fn 122=some sZ)(h:GW PG K s0 f1)(cj:Zr):Ym PG 122 [.sl cj (List.map Xt.row s0),.fn f1.1 f1.2] (fun r=>∃aa:Bool,(r=.b aa)/\K aa):=
 PF hf J J fun d st Q q=>Xk0 q J J Fr.refl h
end
abbrev Yl4:AC:= (sR 0 [oY 1 2 0,oC 2<|.b false]<|sR 1 [oF 3 0 1,oL 4 3,oH 5 4,oV 6 .gtr 5 16,oM 2 6] .ret)
def s4:AF:= { nt:=7,res:=[.tmp 2],body:=Yl4 }
def GP(PG:Zb)(K:Bool->Prop)(s0:Xt):Prop:=
  K (decide ((s0.name.length:Int)>16))
section
variable{K:Bool->Prop}(hQ:HF d Zp AV.b 2 Q K)
variable{s0:Xt}
variable(H0:U 0=s0.av)(FR:Fr d (d,0) Zp.bx Zp.ow st.bx st.ow)
include hQ H0 FR in
theorem Xzn(h:GP PG K s0):W PG d Yl4 U st Q:=
 au trivial
def Wa2(hf:PG.fn 123=some s4)(h:GP PG K s0):Ym PG 123 [s0.av] (fun r=>∃aa:Bool,(r=.b aa)/\K aa):=
 PF hf J J fun d st Q q=>Xzn q J Fr.refl h
end
abbrev xk:AC:= (sR 2 [oT 9 .lss 8 7]<|.seq (cD 9 .skip<|.exit 0)<|.seq (.block 1<|sR 3 [oM 10 8,oM 5 10]<|sR 4 [oM 11 1,oM 12 0,oM 13 5,oX 14 2 12 13,oK 15 2 14,oO 16<|.callv (.t 11) [(.t 15)]]<|cD 16 (sR 5 [oM 17 5,oM 4 17] .ret) .skip)<|.reg 6 [oV 18 .add 8 1,oM 8 18])
abbrev xl:AC:= (sR 7 [oI 4<|-1] .ret)
abbrev Yin:AC:= (sR 0 [oI 4 0]<|.seq (sR 1 [oM 6 0,oJ 7 6,oI 8 0]<|.block 0<|.loop xk) xl)
def tb:AF:= { nt:=19,res:=[.tmp 4],body:=Yin }
abbrev Yr5(PG:Zb)(d:Nat)(Q:Q0)(Zp:St)(s0:List Xt)(f1:Nat × List AV)(t7 t8:Int):Prop:=
  ∀(U:Sl)(st:St)(cj:Zr),U 0=.sl cj (List.map Xt.row s0)->U 1=.fn f1.1 f1.2->U 7=.i .i64 t7->U 8=.i .i64 t8->Fr d (d,0) Zp.bx Zp.ow st.bx st.ow->W PG d (.loop xk) U st (Zs 0 (Zk PG d xl Q))
def GU(PG:Zb)(K:Int->Prop):Prop:=
  K (-1)
section
variable(PG:Zb)(K:Int->Prop)
def n5(P0:Int->Prop)(s0:List Xt)(f1:Nat × List AV)(t7 t8:Int):Prop:=
  (t8<t7->0<=t8/\∃e:Xt,s0[(t8).toNat]?=some e/\∃c,(Ym PG f1.1 ([e.av]++f1.2) (fun r=>r=.b c))/\(c=true->K t8)/\(c=false->P0 (IntKind.i64.wrap (t8+1))))/\(¬(t8<t7)->GU PG K )
def GS(s0:List Xt)(f1:Nat × List AV):Prop:=
  ∀P0:Int->Prop,(∀(t8:Int),n5 PG K P0 s0 f1 (s0.length:Int) t8->P0 t8)->P0 0
end
section
variable{K:Int->Prop}(hQ:HF d Zp (AV.i .i64) 4 Q K)
variable{s0:List Xt}{f1:Nat × List AV}{t7 t8:Int}{P0:Int->Prop}{cj:Zr}
variable(aD :∀(t8:Int),P0 t8->Yr5 PG d Q Zp s0 f1 t7 t8)(H0:U 0=.sl cj (List.map Xt.row s0))(H1:U 1=.fn f1.1 f1.2)(H7:U 7=.i .i64 t7)(H8:U 8=.i .i64 t8)(FR:Fr d (d,0) Zp.bx Zp.ow st.bx st.ow)
include hQ FR in
theorem Xkh(h:GU PG K):W PG d xl U st Q:=
 au trivial
def Xs7(h:n5 PG K P0 s0 f1 t7 t8):W PG d xk U st (Zk PG d (.loop xk) (Zs 0 (Zk PG d xl Q))):=
 q_ J<|b_ H8 H7 Wp<|e_<|Zl<|Yi J (fun c=>Ya<|Zl<|Yg<|q_ J<|m_<|m_<|e_<|q_ J<|m_<|Yf H0<|m_<|(h.1 c).2.elim fun o j=>Xy J H8 (h.1 c).1 j.1 (Xt.row_eq o) J<|Xx J J J<|j.2.elim fun _ e=>Fk H1 (Ye J Yw) (e.1)<|fun _ k=>e_<|Xw J (fun i=>q_ J<|m_<|m_<|Zu<|hQ H8 (Fr.raw FR k)<|e.2.1 i)<|fun i=>Ya<|W.reg0 J fun _ _=>b_ H8 J Vp<|m_<|e_<|aD _ (e.2.2 i) _ _ _ H0 H1 H7 J<|Fr.raw FR k)<|fun c=>Vg<|Xkh hQ FR<|h.2 c
def Xgo(h:GS PG K s0 f1):W PG d Yin U st Q:=
 q_ J<|m_<|e_<|Zl<|q_ J<|Yf H0<|Xq J<|m_<|e_<|Yg<|h (Yr5 PG d Q Zp s0 f1 (s0.length:Int)) (fun _ hb _ _ _ H0 H1 H7 H8 FR=>W.loop<|Xs7 hQ (fun _ x=>x) H0 H1 H7 H8 FR hb) _ _ _ H0 H1 J J FR
def Wck(hf:PG.fn 144=some tb)(h:GS PG K s0 f1)(cj:Zr):Ym PG 144 [.sl cj (List.map Xt.row s0),.fn f1.1 f1.2] (fun r=>∃aa:Int,(r=.i .i64 aa)/\K aa):=
 PF hf J J fun d st Q q=>Xgo q J J Fr.refl h
end
abbrev xm:AC:= (sR 2 [oT 9 .lss 8 7]<|.seq (cD 9 .skip<|.exit 0)<|.seq (.block 1<|sR 3 [oM 10 8,oM 5 10]<|sR 4 [oM 11 1,oM 12 0,oM 13 5,oX 14 1 12 13,oL 15 14,oT 16 .eql 11 15]<|cD 16 (sR 5 [oM 17 5,oM 4 17] .ret) .skip)<|.reg 6 [oV 18 .add 8 1,oM 8 18])
abbrev xn:AC:= (sR 7 [oI 4<|-1] .ret)
abbrev Yba:AC:= (sR 0 [oI 4 0]<|.seq (sR 1 [oM 6 0,oJ 7 6,oI 8 0]<|.block 0<|.loop xm) xn)
def ta:AF:= { nt:=19,res:=[.tmp 4],body:=Yba }
abbrev Yj3(PG:Zb)(d:Nat)(Q:Q0)(s0:LB)(v1:BS)(t7 t8:Int):Prop:=
  ∀(U:Sl)(st:St)(cj:Zr),U 0=.sl cj (List.map Zv s0)->U 1=.s v1->U 7=.i .i64 t7->U 8=.i .i64 t8->W PG d (.loop xm) U st (Zs 0 (Zk PG d xn Q))
def GY(PG:Zb)(K:Int->Prop):Prop:=
  K (-1)
section
variable(PG:Zb)(K:Int->Prop)
def n6(P0:Int->Prop)(s0:LB)(v1:BS)(t7 t8:Int):Prop:=
  (t8<t7->0<=t8/\∃c,s0[(t8).toNat]?=some c/\(v1=c->K t8)/\(¬(v1=c)->P0 (IntKind.i64.wrap (t8+1))))/\(¬(t8<t7)->GY PG K )
def GX(s0:LB)(v1:BS):Prop:=
  ∀P0:Int->Prop,(∀(t8:Int),n6 PG K P0 s0 v1 (s0.length:Int) t8->P0 t8)->P0 0
end
section
variable{K:Int->Prop}(hQ:H1 (AV.i .i64) 4 Q K)
variable{s0:LB}{v1:BS}{t7 t8:Int}{P0:Int->Prop}{cj:Zr}
variable(aD :∀(t8:Int),P0 t8->Yj3 PG d Q s0 v1 t7 t8)(H0:U 0=.sl cj (List.map Zv s0))(H1:U 1=.s v1)(H7:U 7=.i .i64 t7)(H8:U 8=.i .i64 t8)
include hQ in
theorem Wc0(h:GY PG K):W PG d xn U st Q:=
 au trivial
include hQ aD H0 H1 H7 H8 in
theorem Xw8(h:n6 PG K P0 s0 v1 t7 t8):W PG d xm U st (Zk PG d (.loop xm) (Zs 0 (Zk PG d xn Q))):=
 au @Wc0
def Yyk(h:GX PG K s0 v1):W PG d Yba U st Q:=
 q_ J<|m_<|e_<|Zl<|q_ J<|Yf H0<|Xq J<|m_<|e_<|Yg<|h (Yj3 PG d Q s0 v1 (s0.length:Int)) (fun _ hb _ _ _ H0 H1 H7 H8=>W.loop<|Xw8 hQ (fun _ x=>x) H0 H1 H7 H8 hb) _ _ _ H0 H1 J J
def Xhn(hf:PG.fn 141=some ta)(h:GX PG K s0 v1):∃aa:Int,K aa/\Ze PG 141 [.sl .ext (List.map Zv s0),.s v1] (.i .i64 aa):=
 P1 hf J<|Yyk (h1 J fun _=>J) J J h
end
abbrev xo:AC:= (sR 4 [oT 14 .lss 13 12]<|.seq (cD 14 .skip<|.exit 0)<|.seq (.block 1<|sR 5 [oM 15 13,oM 5 15]<|sR 6 [oM 16 0,oM 17 5,oX 18 1 16 17,oL 19 18,oM 20 1,oM 21 5,oX 22 1 20 21,oL 23 22,oT 24 .neq 19 23]<|cD 24 (sR 7 [oC 4<|.b false] .ret) .skip)<|.reg 8 [oV 25 .add 13 1,oM 13 25])
abbrev xp:AC:= (sR 9 [oC 4<|.b true] .ret)
abbrev Ymu:AC:= (sR 0 [oC 4<|.b false]<|.seq (sR 1 [oM 6 0,oJ 7 6,oM 8 1,oJ 9 8,oT 10 .neq 7 9]<|cD 10 (sR 2 [oC 4<|.b false] .ret) .skip)<|.seq (sR 3 [oM 11 0,oJ 12 11,oI 13 0]<|.block 0<|.loop xo) xp)
def sY:AF:= { nt:=26,res:=[.tmp 4],body:=Ymu }
abbrev Yip(PG:Zb)(d:Nat)(Q:Q0)(s10 s21:LB)(t12 t13:Int):Prop:=
  ∀(U:Sl)(st:St)(lg lh:Zr),U 0=.sl lg (List.map Zv s10)->U 1=.sl lh (List.map Zv s21)->U 12=.i .i64 t12->U 13=.i .i64 t13->W PG d (.loop xo) U st (Zs 0 (Zk PG d xp Q))
def G4(PG:Zb)(K:Bool->Prop):Prop:=
  K true
section
variable(PG:Zb)(K:Bool->Prop)
def tg(P0:Int->Prop)(s10 s21:LB)(t12 t13:Int):Prop:=
  (t13<t12->0<=t13/\∃e,s10[(t13).toNat]?=some e/\0<=t13/\∃c,s21[(t13).toNat]?=some c/\(e≠c->K false)/\(¬(e≠c)->P0 (IntKind.i64.wrap (t13+1))))/\(¬(t13<t12)->G4 PG K )
def GZ(s10 s21:LB):Prop:=
  ((s10.length:Int)≠(s21.length:Int)->K false)/\(¬((s10.length:Int)≠(s21.length:Int))->∀P0:Int->Prop,(∀(t13:Int),tg PG K P0 s10 s21 (s10.length:Int) t13->P0 t13)->P0 0)
end
section
variable{K:Bool->Prop}(hQ:H1 AV.b 4 Q K)
variable{s10 s21:LB}{t12 t13:Int}{P0:Int->Prop}{lg lh:Zr}
variable(aD :∀(t13:Int),P0 t13->Yip PG d Q s10 s21 t12 t13)(H0:U 0=.sl lg (List.map Zv s10))(H1:U 1=.sl lh (List.map Zv s21))(bT:U 12=.i .i64 t12)(d_:U 13=.i .i64 t13)
include hQ in
theorem Xpr(h:G4 PG K):W PG d xp U st Q:=
 au trivial
include hQ aD H0 H1 bT d_ in
theorem Yya(h:tg PG K P0 s10 s21 t12 t13):W PG d xo U st (Zk PG d (.loop xo) (Zs 0 (Zk PG d xp Q))):=
 au @Xpr
def Xcj(h:GZ PG K s10 s21):W PG d Ymu U st Q:=
 q_ J<|m_<|e_<|Zl<|q_ J<|Yf H0<|Xq J<|Yf H1<|Xq J<|b_ J J Vr<|e_<|Yi J (fun c=>q_ J<|m_<|Zu<|hQ J<|h.1 c)<|fun c=>Ya<|Zl<|q_ J<|Yf H0<|Xq J<|m_<|e_<|Yg<|(h.2 c) (Yip PG d Q s10 s21 (s10.length:Int)) (fun _ hb _ _ _ _ H0 H1 bT d_=>W.loop<|Yya hQ (fun _ x=>x) H0 H1 bT d_ hb) _ _ _ _ H0 H1 J J
def Xi8(hf:PG.fn 119=some sY)(h:GZ PG K s10 s21):∃aa:Bool,K aa/\Ze PG 119 [.sl .ext (List.map Zv s10),.sl .ext (List.map Zv s21)] (.b aa):=
 P1 hf J<|Xcj (h1 J fun _=>J) J J h
end
abbrev xq:AC:= (sR 8 [oT 63 .lss 62 61]<|.seq (cD 63 .skip<|.exit 0)<|.seq (.block 1<|sR 9 [oX 64 6 60 62,oK 65 6 64,oO 8<|.alloc eU,oS 6 8 65]<|.seq (sR 10 [oF 66 0 8,oL 67 66,oM 68 6,oT 69 .leq 67 68,oM 70 69,gF 70<|oF 71 0 8,gF 70<|oL 72 71,gF 70<|oF 73 3 5,gF 70<|oL 74 73,gF 70<|oJ 75 74,gF 70<|oT 76 .geq 72 75,oR 77 70 76,oM 78 77,gF 78<|oF 79 1 8,gF 78<|oK 80 5 79,gF 78<|oQ 81 76 [80],gF 78<|oV 82 .neq 81 0,oR 83 78 82]<|cD 83 (sR 11 [oI 4 8] .ret) .skip)<|.reg 12 [oF 84 0 8,oL 85 84,oM 6 85])<|.reg 13 [oV 86 .add 62 1,oM 62 86])
abbrev xr:AC:= (sR 14 [oI 4 0] .ret)
abbrev Ybv:AC:= (sR 6 [oI 6<|-1]<|.seq (sR 7 [oF 59 3 3,oL 60 59,oJ 61 60,oI 62 0]<|.block 0<|.loop xq) xr)
abbrev Ypi:AC:= (.seq (sR 4 [oF 31 3 5,oL 32 31,oJ 33 32,oV 34 .gtr 33 16,oM 35 34,gF 35<|oF 36 0 5,gF 35<|oL 37 36,gF 35<|oH 38 37,gF 35<|oV 39 .gtr 38 16,oR 40 35 39,oM 41 40,gF 41<|oF 42 1 3,gF 41<|oL 43 42,gF 41<|oV 44 .lss 43 0,oR 45 41 44,oM 46 45,gF 46<|oF 47 1 3,gF 46<|oL 48 47,gF 46<|oF 49 4 5,gF 46<|oL 50 49,gF 46<|oJ 51 50,gF 46<|oT 52 .geq 48 51,oR 53 46 52,oM 54 53,gF 54<|oF 55 3 5,gF 54<|oL 56 55,gF 54<|oO 57<|.call true 122 [(.t 56),(.c<|.fn 123 [])],oR 58 54 57]<|cD 58 (sR 5 [oI 4 8] .ret) .skip) Ybv)
abbrev Yhs:AC:= (sR 3 [oF 25 2 2,oL 26 25,oF 27 0 3,oL 28 27,oX 29 7 26 28,oK 30 7 29,oO 5<|.alloc pS,oS 7 5 30] Ypi)
abbrev Ytw:AC:= (.seq (sR 1 [oF 9 0 3,oL 10 9,oV 11 .lss 10 0,oM 12 11,gF 12<|oF 13 0 3,gF 12<|oL 14 13,gF 12<|oF 15 2 2,gF 12<|oL 16 15,gF 12<|oJ 17 16,gF 12<|oT 18 .geq 14 17,oR 19 12 18,oM 20 19,gF 20<|oF 21 2 3,gF 20<|oL 22 21,gF 20<|oB 23 .gtr (.t 22)<|.c<|.i .u64 3,oR 24 20 23]<|cD 24 (sR 2 [oI 4 8] .ret) .skip) Yhs)
abbrev b86:AC:= (sR 0 [oY 2 3 0,oY 3 4 1,oI 4 0] Ytw)
def sP:AF:= { nt:=87,res:=[.tmp 4],body:=b86 }
abbrev Yud(PG:Zb)(d:Nat)(Q:Q0)(t60:List Zx)(t61 gj t62:Int)(aq:Zz):Prop:=
  ∀(U:Sl)(st:St)(li:Zr)(ek:Nat),U 5=.p (d,12294) ek 0->U 6=.i .i64 gj->U 60=.sl li (List.map Zx.row t60)->U 61=.i .i64 t61->U 62=.i .i64 t62->lk st.bx (d,12294)=some (ek,Zz.cs aq)->W PG d (.loop xq) U st (Zs 0 (Zk PG d xr Q))
def G_(PG:Zb)(K:Int->Prop):Prop:=
  K 0
section
variable(PG:Zb)(K:Int->Prop)
def th(P0:Int->Int->Zz->Prop)(gj:Int)(t60:List Zx)(t61 t62:Int)(aq:Zz):Prop:=
  (t62<t61->0<=t62/\∃c:Zx,t60[(t62).toNat]?=some c/\(c.slot<=gj->K 8)/\(¬(c.slot<=gj)->(c.slot>=(aq.slots.length:Int)->K 8)/\(¬(c.slot>=(aq.slots.length:Int))->∃e,Ze PG 76 [c.value.av] (.i .i64 e)/\(e≠0->K 8)/\(¬(e≠0)->P0 c.slot (IntKind.i64.wrap (t62+1)) aq))))/\(¬(t62<t61)->G_ PG K )
def G9(m1:Zf)(aq:Zz):Prop:=
  ∀P0:Int->Int->Zz->Prop,(∀(gj t62:Int)(aq:Zz),th PG K P0 gj m1.locals (m1.locals.length:Int) t62 aq->P0 gj t62 aq)->P0 (-1) 0 aq
def G8(m1:Zf)(aq:Zz):Prop:=
  ((aq.slots.length:Int)>16->K 8)/\(¬((aq.slots.length:Int)>16)->((aq.name.length:Int)>16->K 8)/\(¬((aq.name.length:Int)>16)->(m1.pos<0->K 8)/\(¬(m1.pos<0)->(m1.pos>=(aq.code.length:Int)->K 8)/\(¬(m1.pos>=(aq.code.length:Int))->∃c,(∀e:Zr,Ym PG 122 [.sl e (List.map Xt.row aq.slots),.fn 123 []] (fun r=>r=.b c))/\(c=true->K 8)/\(c=false->G9 PG K m1 aq)))))
def G7(m0:Zd)(m1:Zf):Prop:=
  0<=m1.func/\∃c,m0.funcs[(m1.func).toNat]?=some c/\G8 PG K m1 c
def G6(m0:Zd)(m1:Zf):Prop:=
  (m1.func<0->K 8)/\(¬(m1.func<0)->(m1.func>=(m0.funcs.length:Int)->K 8)/\(¬(m1.func>=(m0.funcs.length:Int))->(m1.mode>3->K 8)/\(¬(m1.mode>3)->G7 PG K m0 m1)))
def G5(m0:Zd)(x1:Zf):Prop:=
  G6 PG K m0 x1
end
section
variable{K:Int->Prop}(hQ:H1 (AV.i .i64) 4 Q K)
variable{gj:Int}{t60:List Zx}{t61 t62:Int}{aq:Zz}{P0:Int->Int->Zz->Prop}{li:Zr}{ek:Nat}{m1:Zf}{v1:Nat}{m0:Zd}{v0:Nat}{x1:Zf}
variable(aD :∀(gj t62:Int)(aq:Zz),P0 gj t62 aq->Yud PG d Q t60 t61 gj t62 aq)(H2:U 2=.p (d,0) v0 0)(H0:U 0=m0.av)(H3:U 3=.p (d,1) v1 0)(H1:U 1=x1.av)(H5:U 5=.p (d,12294) ek 0)(B0:lk st.bx (d,0)=some (v0,Zd.cs m0))(H6:U 6=.i .i64 gj)(B1:lk st.bx (d,1)=some (v1,Zf.cs m1))(iR:U 60=.sl li (List.map Zx.row t60))(g_:U 61=.i .i64 t61)(QQ:U 62=.i .i64 t62)(cq:lk st.bx (d,12294)=some (ek,Zz.cs aq))
include hQ in
theorem Xnk(h:G_ PG K):W PG d xr U st Q:=
 au trivial
include hQ aD H5 H6 iR g_ QQ cq in
theorem Wbn(h:th PG K P0 gj t60 t61 t62 aq):W PG d xq U st (Zk PG d (.loop xq) (Zs 0 (Zk PG d xr Q))):=
 au @Xnk
def Yzt(h:G9 PG K m1 aq):W PG d Ybv U st Q:=
 q_ J<|m_<|e_<|Zl<|q_ J<|f_ H3<|l_ J B1 J J<|Xq J<|m_<|e_<|Yg<|h (Yud PG d Q m1.locals (m1.locals.length:Int)) (fun _ _ _ hb _ _ _ _ H5 H6 iR g_ QQ cq=>W.loop<|Wbn hQ (fun _ _ _ x=>x) H5 H6 iR g_ QQ cq hb) _ _ _ _ H5 J J J J cq
def Xiz(h:G8 PG K m1 aq):W PG d Ypi U st Q:=
 Zl<|q_ J<|f_ H5<|l_ J cq J J<|Xq J<|b_ J J Jd<|Yt J<|Xe (g:=35) J (fun c=>z_ 23 J<|e_<|Xh J<|q_ J<|m_<|Zu<|hQ J<|h.1 c)<|fun c=>Zg J<|f_ H5<|Zg J<|l_ J cq J J<|Zg J<|Qb J<|Zg J<|b_ J J Jd<|z_ 2 J<|Xe (g:=41) J (fun e=>z_ 17 J<|e_<|Xh J<|q_ J<|m_<|Zu<|hQ J<|(h.2 c).1 e)<|fun e=>Zg J<|f_ H3<|Zg J<|l_ J B1 J J<|Zg J<|b_ J J Wp<|z_ 2 J<|Xe (g:=46) J (fun i=>z_ 12 J<|e_<|Xh J<|q_ J<|m_<|Zu<|hQ J<|((h.2 c).2 e).1 i)<|fun i=>Zg J<|f_ H3<|Zg J<|l_ J B1 J J<|Zg J<|f_ H5<|Zg J<|l_ J cq J J<|Zg J<|Xq J<|Zg J<|b_ J J Ha<|z_ 2 J<|Xe (g:=54) J (fun o=>z_ 4 J<|e_<|Xh J<|q_ J<|m_<|Zu<|hQ J<|(((h.2 c).2 e).2 i).1 o)<|fun o=>Zg J<|f_ H5<|Zg J<|l_ J cq J J<|Zg J<|((((h.2 c).2 e).2 i).2 o).elim fun _ j=>Gm (Ye J<|Ye J Yw) (j.1 _)<|fun _ p=>Vt J J<|e_<|Xw J (fun k=>q_ J<|m_<|Zu<|hQ J<|j.2.1 k)<|fun k=>Ya<|Yzt hQ H3 H5 ((p.1 (d,1) (kG d) Kv).trans B1) ((p.1 (d,12294) (kG d) Kv).trans cq)<|j.2.2 k
include hQ H2 H3 B0 B1 in
theorem Xwt(h:G7 PG K m0 m1):W PG d Yhs U st Q:=
 au @Xiz
include hQ H2 H3 B0 B1 in
theorem Yvd(h:G6 PG K m0 m1):W PG d Ytw U st Q:=
 au @Xwt
include hQ H0 H1 in
theorem Xty(h:G5 PG K m0 x1):W PG d b86 U st Q:=
 au @Yvd
def p86(hf:PG.fn 86=some sP)(h:G5 PG K m0 x1):∃aa:Int,K aa/\Ze PG 86 [m0.av,x1.av] (.i .i64 aa):=
 P1 hf J<|Xty (h1 J fun _=>J) J J h
end
abbrev xt:AC:= (sR 9 [oT 62 .lss 61 60]<|.seq (cD 62 .skip<|.exit 0)<|.seq (.block 1<|sR 10 [oX 63 6 59 61,oK 64 6 63,oO 12<|.alloc eU,oS 6 12 64]<|sR 11 [oF 66 1 12,oK 67 5 66,oQ 68 72 [67],oM 65 68,oE 69 0 65,oE 70 1 65,oM 13 69,oM 14 70]<|.seq (sR 12 [oM 71 14,oV 72 .neq 71 0]<|cD 72 (sR 13 [oM 73 14,oC 6<|.sl .full [],oM 7 73] .ret) .skip)<|.reg 14 [oM 74 10,oF 75 0 12,oL 76 75,oQ 77 111 [76],oB 78 .add (.c<|.s [32,32])<|.t 77,oB 79 .add (.t 78)<|.c<|.s [32],oF 80 3 9,oL 81 80,oF 82 0 12,oL 83 82,oX 84 2 81 83,oF 85 0 84,oL 86 85,oQ 87 112 [86],oT 88 .add 79 87,oB 89 .add (.t 88)<|.c<|.s [32,61,32],oM 90 13,oT 91 .add 89 90,oO 92<|.bslice [zs] 1 [(0,(.t 91))],oO 93<|.app 1 16 (.t 74)<|.t 92,oM 10 93])<|.reg 15 [oV 94 .add 61 1,oM 61 94])
abbrev xu:AC:= (sR 16 [oM 95 10,oM 6 95,oI 7 0] .ret)
abbrev Ybh:AC:= (sR 7 [oM 33 1,oQ 34 111 [33],oB 35 .add (.c<|.s [35])<|.t 34,oB 36 .add (.t 35)<|.c<|.s [32],oF 37 0 5,oL 38 37,oQ 39 111 [38],oT 40 .add 36 39,oB 41 .add (.t 40)<|.c<|.s [32],oF 42 0 9,oL 43 42,oQ 44 112 [43],oT 45 .add 41 44,oB 46 .add (.t 45)<|.c<|.s mo,oF 47 1 5,oL 48 47,oQ 49 111 [48],oT 50 .add 46 49,oB 51 .add (.t 50)<|.c<|.s [32],oQ 52 113 [],oF 53 2 5,oL 54 53,oO 55<|.ixA 4 1 false (.t 52)<|.t 54,oT 56 .add 51 55,oO 57<|.bslice [zs] 1 [(0,(.t 56))],oM 10 57]<|.seq (sR 8 [oF 58 3 5,oL 59 58,oJ 60 59,oI 61 0]<|.block 0<|.loop xt) xu)
abbrev Ypo:AC:= (sR 6 [oF 27 2 3,oL 28 27,oF 29 0 5,oL 30 29,oX 31 7 28 30,oK 32 7 31,oO 9<|.alloc pS,oS 7 9 32] Ybh)
abbrev Ye6:AC:= (.seq (sR 3 [oK 21 3 3,oK 22 4 5,oQ 23 86 [21,22],oM 8 23]<|sR 4 [oM 24 8,oV 25 .neq 24 0]<|cD 25 (sR 5 [oM 26 8,oC 6<|.sl .full [],oM 7 26] .ret) .skip) Ypo)
abbrev Ykc:AC:= (.seq (sR 1 [oM 15 1,oV 16 .lss 15 0,oM 17 16,gF 17<|oM 18 1,gF 17<|oV 19 .geq 18 170,oR 20 17 19]<|cD 20 (sR 2 [oC 6<|.sl .full [],oI 7 2] .ret) .skip) Ye6)
abbrev b82:AC:= (sR 0 [oY 3 3 0,oY 5 4 2,oC 6<|.sl .full [],oI 7 0] Ykc)
def sO:AF:= { nt:=96,res:=[.tmp 6,.tmp 7],body:=b82 }
abbrev Yuz(PG:Zb)(d:Nat)(Q:Q0)(t59:List Zx)(t60:Int)(cm:LB)(t61:Int)(dx:Zz):Prop:=
  ∀(U:Sl)(st:St)(ej lj:Zr)(jj:Nat),U 9=.p (d,24582) jj 0->U 10=.sl ej (List.map Zv cm)->U 59=.sl lj (List.map Zx.row t59)->U 60=.i .i64 t60->U 61=.i .i64 t61->Yo d st.ow ej cm.length->lk st.bx (d,24582)=some (jj,Zz.cs dx)->W PG d (.loop xt) U st (Zs 0 (Zk PG d xu Q))
def HS(PG:Zb)(K:LB->Int->Prop)(cm:LB):Prop:=
  K cm 0
section
variable(PG:Zb)(K:LB->Int->Prop)
def tn(P0:LB->Int->Zz->Prop)(cm:LB)(t59:List Zx)(t60 t61:Int)(dx:Zz):Prop:=
  (t61<t60->0<=t61/\∃j:Zx,t59[(t61).toNat]?=some j/\∃o:BS,∃k,Ze PG 72 [j.value.av] (.tup [.s o,.i .i64 k])/\(k≠0->K ([]:LB) k)/\(¬(k≠0)->∃c:BS,Ze PG 111 [.i .i64 j.slot] (.s c)/\([32,32]:BS).length+c.length<=Yj/\(([32,32]:BS)++c).length+([32]:BS).length<=Yj/\0<=j.slot/\∃p:Xt,dx.slots[(j.slot).toNat]?=some p/\∃e:BS,Ze PG 112 [.s p.name] (.s e)/\((([32,32]:BS)++c)++([32]:BS)).length+e.length<=Yj/\(((([32,32]:BS)++c)++([32]:BS))++e).length+([32,61,32]:BS).length<=Yj/\((((([32,32]:BS)++c)++([32]:BS))++e)++([32,61,32]:BS)).length+o.length<=Yj/\Ju (cm.length+[(((((([32,32]:BS)++c)++([32]:BS))++e)++([32,61,32]:BS))++o)].length) 16/\P0 (cm++[(((((([32,32]:BS)++c)++([32]:BS))++e)++([32,61,32]:BS))++o)]) (IntKind.i64.wrap (t61+1)) dx))/\(¬(t61<t60)->HS PG K cm)
def HR(k1:Int)(m1:Zf)(dx:Zz):Prop:=
  ∃c:BS,Ze PG 111 [.i .i64 k1] (.s c)/\([35]:BS).length+c.length<=Yj/\(([35]:BS)++c).length+([32]:BS).length<=Yj/\∃e:BS,Ze PG 111 [.i .i64 m1.func] (.s e)/\((([35]:BS)++c)++([32]:BS)).length+e.length<=Yj/\(((([35]:BS)++c)++([32]:BS))++e).length+([32]:BS).length<=Yj/\∃j:BS,Ze PG 112 [.s dx.name] (.s j)/\((((([35]:BS)++c)++([32]:BS))++e)++([32]:BS)).length+j.length<=Yj/\(((((([35]:BS)++c)++([32]:BS))++e)++([32]:BS))++j).length+([32,97,116,32]:BS).length<=Yj/\∃k:BS,Ze PG 111 [.i .i64 m1.pos] (.s k)/\((((((([35]:BS)++c)++([32]:BS))++e)++([32]:BS))++j)++([32,97,116,32]:BS)).length+k.length<=Yj/\(((((((([35]:BS)++c)++([32]:BS))++e)++([32]:BS))++j)++([32,97,116,32]:BS))++k).length+([32]:BS).length<=Yj/\∃p:LB,Ze PG 113 [] (.ag (List.map AV.s p))/\p.length=4/\0<=m1.mode/\∃o:BS,(p:LB)[(m1.mode).toNat]?=some o/\((((((((([35]:BS)++c)++([32]:BS))++e)++([32]:BS))++j)++([32,97,116,32]:BS))++k)++([32]:BS)).length+o.length<=Yj/\∀P0:LB->Int->Zz->Prop,(∀(cm:LB)(t61:Int)(dx:Zz),tn PG K P0 cm m1.locals (m1.locals.length:Int) t61 dx->P0 cm t61 dx)->P0 [(((((((((([35]:BS)++c)++([32]:BS))++e)++([32]:BS))++j)++([32,97,116,32]:BS))++k)++([32]:BS))++o)] 0 dx
def HQ(k1:Int)(m0:Zd)(m1:Zf):Prop:=
  0<=m1.func/\∃c,m0.funcs[(m1.func).toNat]?=some c/\HR PG K k1 m1 c
def HP(k1:Int)(m0:Zd)(m1:Zf):Prop:=
  ∃c,Ze PG 86 [m0.av,m1.av] (.i .i64 c)/\(c≠0->K ([]:LB) c)/\(¬(c≠0)->HQ PG K k1 m0 m1)
def HO(k1:Int)(m0:Zd)(m1:Zf):Prop:=
  (k1<0->K ([]:LB) 2)/\(¬(k1<0)->(k1>=170->K ([]:LB) 2)/\(¬(k1>=170)->HP PG K k1 m0 m1))
def HN(m0:Zd)(k1:Int)(x2:Zf):Prop:=
  HO PG K k1 m0 x2
end
section
variable{K:LB->Int->Prop}(hQ:HM Zv (AV.i .i64) 6 7 Q K)
variable{cm:LB}{ej:Zr}{t59:List Zx}{t60 t61:Int}{dx:Zz}{P0:LB->Int->Zz->Prop}{lj:Zr}{jj:Nat}{k1:Int}{m1:Zf}{v1:Nat}{m0:Zd}{v0:Nat}{x2:Zf}
variable(aD :∀(cm:LB)(t61:Int)(dx:Zz),P0 cm t61 dx->Yuz PG d Q t59 t60 cm t61 dx)(H0:U 0=m0.av)(H1:U 1=.i .i64 k1)(H3:U 3=.p (d,0) v0 0)(H2:U 2=x2.av)(H5:U 5=.p (d,1) v1 0)(H9:U 9=.p (d,24582) jj 0)(B0:lk st.bx (d,0)=some (v0,Zd.cs m0))(aH:U 10=.sl ej (List.map Zv cm))(B1:lk st.bx (d,1)=some (v1,Zf.cs m1))(iP:U 59=.sl lj (List.map Zx.row t59))(iR:U 60=.i .i64 t60)(g_:U 61=.i .i64 t61)(fB:Yo d st.ow ej cm.length)(ii:lk st.bx (d,24582)=some (jj,Zz.cs dx))
include hQ aH fB in
theorem Xmg(h:HS PG K cm):W PG d xu U st Q:=
 au trivial
include hQ aD H9 aH iP iR g_ fB ii in
theorem Xie(h:tn PG K P0 cm t59 t60 t61 dx):W PG d xt U st (Zk PG d (.loop xt) (Zs 0 (Zk PG d xu Q))):=
 q_ J<|b_ g_ iR Wp<|e_<|Zl<|Yi J (fun j=>Ya<|Zl<|Yg<|Zl<|W.reg<|(h.1 j).2.elim fun v q=>Xy iP g_ (h.1 j).1 q.1 (Zx.row_eq v) J<|Xx J J J<|Xl<|Zy J (show lk _ (d,40962)=some (_,iN)from Zj) J J J<|e_<|q_ J<|f_ J<|l_ J Zj J J<|x2 q.2 fun y _ k=>Yh (Xu J J) k.1<|m_<|x_ J J<|x_ J J<|m_<|m_<|e_<|Zl<|q_ J<|m_<|b_ J J Vr<|e_<|Yi J (fun o=>q_ J<|m_<|Yf (f:=Zv) (l:=[]) J<|m_<|Zu<|hQ J J<|k.2.1 o)<|fun o=>Ya<|W.reg0 J fun _ _=>Yf aH<|f_ J<|l_ J Zj J J<|(k.2.2 o).elim fun z e=>Yh (Xu J J) e.1<|b_ J J (Xp e.2.1)<|b_ J J (Xp e.2.2.1)<|f_ H9<|l_ J (Zm J<|Zm J ii) J J<|f_ J<|l_ J Zj J J<|e.2.2.2.2.elim fun u p=>Xy J J e.2.2.2.1 p.1 (Xt.row_eq u) J<|Do J<|Xx J J J<|p.2.elim fun x c=>Yh (Xu J J) c.1<|b_ J J (Xp c.2.1)<|b_ J J (Xp c.2.2.1)<|m_<|b_ J J (Xp c.2.2.2.1)<|Wr (f:=Zv) (l:=[(((((([32,32]:BS)++z)++([32]:BS))++x)++([32,61,32]:BS))++y)]) J J (Yl J J J Wi) J<|Jq Bs J J J fB.1 c.2.2.2.2.1 J<|fun _ _ r _ w=>Yf J<|e_<|W.reg0 J fun _ _=>b_ g_ J Vp<|m_<|e_<|aD _ _ _ c.2.2.2.2.2 _ _ _ _ _ H9 J iP iR J (Yo.mk r<|Qy.app fB.2 J w)<|Zm J<|Zm J ii)<|fun j=>Vg<|Xmg hQ aH fB<|h.2 j
def Wb2(h:HR PG K k1 m1 dx):W PG d Ybh U st Q:=
 q_ J<|m_<|h.elim fun q e=>Yh (Xu H1 J) e.1<|b_ J J (Xp e.2.1)<|b_ J J (Xp e.2.2.1)<|f_ H5<|l_ J B1 J J<|e.2.2.2.elim fun r i=>Yh (Xu J J) i.1<|b_ J J (Xp i.2.1)<|b_ J J (Xp i.2.2.1)<|f_ H9<|l_ J ii J J<|i.2.2.2.elim fun u j=>Yh (Xu J J) j.1<|b_ J J (Xp j.2.1)<|b_ J J (Xp j.2.2.1)<|f_ H5<|l_ J B1 J J<|j.2.2.2.elim fun v k=>Yh (Xu J J) k.1<|b_ J J (Xp k.2.1)<|b_ J J (Xp k.2.2.1)<|k.2.2.2.elim fun _ c=>Yh sn c.1<|f_ H5<|l_ J B1 J J<|c.2.2.2.elim fun p o=>Cy (f:=AV.s) c.2.1 J J c.2.2.1 o.1<|b_ J J (Xp o.2.1)<|Wr (f:=Zv) (l:=[(((((((((([35]:BS)++q)++([32]:BS))++r)++([32]:BS))++u)++(mo:BS))++v)++([32]:BS))++p)]) J J (Yl J J J Wi) J<|Yf J<|e_<|Zl<|q_ J<|f_ H5<|l_ J B1 J J<|Xq J<|m_<|e_<|Yg<|o.2.2 (Yuz PG d Q m1.locals (m1.locals.length:Int)) (fun _ _ _ hb _ _ _ _ _ H9 aH iP iR g_ fB ii=>W.loop<|Xie hQ (fun _ _ _ x=>x) H9 aH iP iR g_ fB ii hb) _ _ _ _ _ H9 J J J J Yo.full ii
def Xnu(h:HQ PG K k1 m0 m1):W PG d Ypo U st Q:=
 Zl<|W.reg<|f_ H3<|l_ J (Zm J B0) J J<|f_ H5<|l_ J (Zm J B1) J J<|h.2.elim fun e c=>Xy J J h.1 c.1 (Zz.row_eq e) J<|Xx J J J<|Xl<|Zy J (show lk _ (d,24582)=some (_,PN)from Zj) J J J<|e_<|Wb2 hQ H1 H5 J (Zm J<|Zm J B1) Zj c.2
include hQ H1 H3 H5 B0 B1 in
theorem Wax(h:HP PG K k1 m0 m1):W PG d Ye6 U st Q:=
 au @Xnu
def Xm1(h:HO PG K k1 m0 m1):W PG d Ykc U st Q:=
 Zl<|q_ J<|Wc H1<|b_ J J Wp<|Yt J<|Xe (g:=17) J (fun c=>z_ 3 J<|e_<|Xh J<|q_ J<|Yf (f:=Zv) (l:=[]) J<|m_<|Zu<|hQ J J<|h.1 c)<|fun c=>Zg J<|Wc H1<|Zg J<|b_ J J Ha<|Vt J J<|e_<|Yi J (fun e=>q_ J<|Yf (f:=Zv) (l:=[]) J<|m_<|Zu<|hQ J J<|(h.2 c).1 e)<|fun e=>Ya<|Wax hQ H1 H3 H5 B0 B1<|(h.2 c).2 e
include hQ H0 H1 H2 in
theorem Xq9(h:HN PG K m0 k1 x2):W PG d b82 U st Q:=
 au @Xm1
def p82(hf:PG.fn 82=some sO)(h:HN PG K m0 k1 x2):∃aa:LB,∃ae:Int,K aa ae/\Ze PG 82 [m0.av,.i .i64 k1,x2.av] (.tup [.sl .ext (List.map Zv aa),.i .i64 ae]):=
 P2 hf J<|Xq9 (hM J fun _ _ _=>J) J J J h
end
end Go.AM

namespace Go.AM
open Go
set_option maxRecDepth 4000
set_option maxHeartbeats 2000000
attribute [local irreducible] Decidable.decide W WO Ve Vd
variable{PG:Zb}{d:Nat}{Q:Q0}{U:Sl}{st:St}{kp:Zt}{vp:Nat}{Zp:St}
abbrev Yhv:AC:= (sR 0 [oI 4 0,oC 5<|.b false]<|sR 1 [oM 9 0,oP 10 131 [9],oM 8 10,oE 11 0 8,oE 12 1 8,oM 6 11,oM 7 12]<|sR 2 [oM 13 6,oM 14 7,oM 15 14,gT 15<|oM 16 6,gT 15<|oV 17 .geq 16 0,oA 18 15 17,oM 19 18,gT 19<|oM 20 6,gT 19<|oM 21 1,gT 19<|oT 22 .lss 20 21,oA 23 19 22,oM 4 13,oM 5 23] .ret)
def Fg:AF:= { nt:=24,res:=[.tmp 4,.tmp 5],body:=Yhv }
abbrev Xml(d:Nat)(Zp:St)(kp:Zt)(vp:Nat)(Q:Q0)(K:Int->Bool->Sc->Prop):Prop:=∀(U:Sl)(st:St)(aa:Int)(ae:Bool)(b_:Sc),U 4=.i .i64 aa->U 5=.b ae->lk st.bx kp=some (vp,[.s b_.left])->Fr d kp Zp.bx Zp.ow st.bx st.ow->K aa ae b_->Q .ret U st
section
variable(PG:Zb)(K:Int->Bool->Sc->Prop)
def IE(n1:Int)(mP:Sc):Prop:=
  ∃c j,∃e:Sc,Xc PG 131 (Bx [.s mP.left]) [] (fun r=>r=.tup [.i .i64 c,.b j]) ((Bx [.s e.left]))/\(j=true->(c>=0->K c (decide (c<n1)) e)/\(¬(c>=0)->K c false e))/\(j=false->K c false e)
end
section
variable{K:Int->Bool->Sc->Prop}(hQ:Xml d Zp kp vp Q K)(aC:kp.1<d)
variable{n1:Int}{mP:Sc}
variable(H0:U 0=.p kp vp 0)(H1:U 1=.i .i64 n1)(BP:lk st.bx kp=some (vp,[.s mP.left]))(FR:Fr d kp Zp.bx Zp.ow st.bx st.ow)
def Xwc(h:IE PG K n1 mP):W PG d Yhv U st Q:=
 q_ J<|m_<|m_<|e_<|q_ J<|m_<|x2 h fun _ _ o=>o.elim fun _ c=>Wy (Ye H0 Yw) c.1 (kV aC) BP<|fun _ j k=>m_<|x_ J J<|x_ J J<|m_<|m_<|e_<|q_ J<|Wc J<|z_ 2 J<|Ql (g:=15) J (fun e=>Zg J<|Wc J<|Zg J<|b_ J J Ha<|z_ 2 J<|Xe (g:=19) J (fun i=>Zg J<|Wc J<|Zg J<|Wc H1<|Zg J<|b_ J J Wp<|Gz J J<|Wc J<|Yt J<|Zu<|hQ _ _ _ _ _ J J j (Fr.pass FR k)<|(c.2.1 e).1 i)<|fun i=>z_ 4 J<|Wc J<|Yt J<|Zu<|hQ _ _ _ _ _ J J j (Fr.pass FR k)<|(c.2.1 e).2 i)<|fun e=>z_ 8 J<|Wc J<|Yt J<|Zu<|hQ _ _ _ _ _ J J j (Fr.pass FR k)<|c.2.2 e
def Xtz(hf:PG.fn 140=some Fg)(h:IE PG K n1 mP):Us PG 140 (Bx [.s mP.left]) [.i .i64 n1] (fun r (b_:Sc)=>∃aa:Int,∃ae:Bool,(r=.tup [.i .i64 aa,.b ae])/\K aa ae b_) (fun b_=>(Bx [.s b_.left])):=
  Us.of hf rfl (fun _=>Bx.out) fun d st kp vp aC hB=>Xwc (Zp:=st) (Q:=fun e U aA=>(e=.normal\/e=.ret)/\∃r b_,Xj U aA Fg.res=some r/\_/\_/\Fr d kp st.bx st.ow aA.bx aA.ow) (fun U aA   aa ae b_ H4 H5 hb hf hk=>⟨.inr rfl,.tup [.i .i64 aa,.b ae],b_,by simp only[Fg,Xj,Wz,H4,H5,Kq,kK],⟨aa,ae,rfl,hk⟩,hb,hf⟩) aC (U:=Wg [.p kp vp 0,.i .i64 n1]) rfl rfl hB Fr.refl h
end
abbrev Yu7:AC:= (cD 31 (sR 7 [oK 32 4 8,oI 4 0,oS 4 5 32,oC 6<|.b false] .ret) .skip)
abbrev Yle:AC:= (cD 58 (sR 10 [oK 59 4 8,oI 4 0,oS 4 5 59,oC 6<|.b false] .ret) .skip)
abbrev Ysx:AC:= (cD 80 (sR 13 [oK 81 4 8,oI 4 0,oS 4 5 81,oC 6<|.b false] .ret) .skip)
abbrev QR:AC:= (sR 14 [oQ 82 113 [],oO 11<|.alloc [zs,zs,zs,zs],oS 4 11 82]<|sR 15 [oO 83<|.slA 4 1 (.t 11) none none,oM 84 7,oN 85 84,oF 86 0 85,oL 87 86,oQ 88 141 [83,87],oM 12 88]<|sR 16 [oM 89 12,oO 90<|.max (.c<|.i .i64 0)<|.t 89,oO 91<|.cvi .u64<|.t 90,oF 92 2 8,oS 1 92 91]<|sR 17 [oM 93 9,oK 94 4 8,oM 95 12,oV 96 .geq 95 0,oM 4 93,oS 4 5 94,oM 6 96] .ret)
abbrev QS:AC:= (sR 11 [oM 61 7,oF 62 2 2,oL 63 62,oF 64 0 8,oL 65 64,oX 66 7 63 65,oF 67 4 66,oL 68 67,oJ 69 68,oP 70 140 [61,69],oM 60 70,oE 71 0 60,oE 72 1 60,oF 73 1 8,oS 1 73 71,oM 10 72]<|.seq (sR 12 [oM 74 10,oZ 75 74,oM 76 75,gF 76<|oM 77 7,gF 76<|oO 78<|.call true 128 [(.t 77),(.c<|.s [32])],gF 76<|oZ 79 78,oR 80 76 79] Ysx) QR)
abbrev Yha:AC:= (.seq (sR 9 [oM 42 10,oZ 43 42,oM 44 43,gF 44<|oM 45 7,gF 44<|oF 46 2 2,gF 44<|oL 47 46,gF 44<|oF 48 0 8,gF 44<|oL 49 48,gF 44<|oX 50 7 47 49,gF 44<|oF 51 0 50,gF 44<|oL 52 51,gF 44<|oQ 53 112 [52],gF 44<|oB 54 .add (.c<|.s [32])<|.t 53,gF 44<|oB 55 .add (.t 54)<|.c<|.s mo,gF 44<|oP 56 128 [45,55],gF 44<|oZ 57 56,oR 58 44 57] Yle) QS)
abbrev QT:AC:= (sR 8 [oM 34 7,oF 35 2 2,oL 36 35,oJ 37 36,oP 38 140 [34,37],oM 33 38,oE 39 0 33,oE 40 1 33,oF 41 0 8,oS 1 41 39,oM 10 40] Yha)
abbrev Ymi:AC:= (.seq (sR 6 [oM 25 10,oZ 26 25,oM 27 26,gF 27<|oM 28 7,gF 27<|oO 29<|.call true 128 [(.t 28),(.c<|.s [32])],gF 27<|oZ 30 29,oR 31 27 30] Yu7) QT)
abbrev Ykj:AC:= (sR 5 [oM 21 7,oO 22<|.call true 140 [(.t 21),(.c<|.i .i64 170)],oM 20 22,oE 23 0 20,oE 24 1 20,oM 9 23,oM 10 24] Ymi)
abbrev Yju:AC:= (.seq (sR 3 [oM 16 7,oO 17<|.call true 128 [(.t 16),(.c<|.s [35])],oZ 18 17]<|cD 18 (sR 4 [oK 19 4 8,oI 4 0,oS 4 5 19,oC 6<|.b false] .ret) .skip) Ykj)
abbrev Yqy:AC:= (sR 2 [oO 8<|.alloc cQ] Yju)
abbrev Yrz:AC:= (sR 1 [oM 13 1,oO 14<|.build [zs] [(0,1,(.t 13))],oY 15 1 14,oM 7 15] Yqy)
abbrev Yng:AC:= (sR 0 [oY 2 3 0,oI 4 0,oO 5<|.alloc cQ,oC 6<|.b false] Yrz)
def Al:AF:= { nt:=97,res:=[.tmp 4,.cell 5 4 true,.tmp 6],body:=Yng }
abbrev Xr3(d:Nat)(Zp:St)(Q:Q0)(K:Int->Zf->Bool->Prop):Prop:=∀(U:Sl)(st:St)(k1:Zt)(v1:Nat)(aa:Int)(ae:Zf)(be:Bool),U 4=.i .i64 aa->U 5=.p k1 v1 0->lk st.bx k1=some (v1,Zf.co .full ae)->U 6=.b be->Fr d (d,0) Zp.bx Zp.ow st.bx st.ow->K aa ae be->Q .ret U st
section
variable(PG:Zb)(K:Int->Zf->Bool->Prop)
def IP(k9:Int)(m2:Zf)(ak:Sc)(bm:Zf):Prop:=
  ∃c:LB,Ze PG 113 [] (.ag (List.map AV.s c))/\c.length=4/\c.length=4/\∃e,Ze PG 141 [.sl .ext (List.map Zv c),.s ak.left] (.i .i64 e)/\K k9 (Zf.mk bm.func bm.pos (IntKind.u64.wrap (if 0<e then e else 0)) bm.locals) (decide (e>=0))
def tD(k9:Int)(t80:Bool)(m2:Zf)(ak:Sc)(bm:Zf):Prop:=
  (t80=true->K 0 bm false)/\(t80=false->IP PG K k9 m2 ak bm)
def IN(k9:Int)(m0:Zd)(m2:Zf)(ak:Sc)(bm:Zf):Prop:=
  0<=bm.func/\∃p:Zz,m0.funcs[(bm.func).toNat]?=some p/\∃j e,∃c:Sc,Xc PG 140 (Bx [.s ak.left]) [.i .i64 (p.code.length:Int)] (fun r=>r=.tup [.i .i64 j,.b e]) ((Bx [.s c.left]))/\((!e)=true->tD PG K k9 true m2 c (Zf.mk bm.func j bm.mode bm.locals))/\((!e)=false->∃o,∃k:Sc,Xc PG 128 (Bx [.s c.left]) [.s ([32]:BS)] (fun r=>r=.b o) ((Bx [.s k.left]))/\tD PG K k9 (!o) m2 k (Zf.mk bm.func j bm.mode bm.locals))
def tB(k9:Int)(t58:Bool)(m0:Zd)(m2:Zf)(ak:Sc)(bm:Zf):Prop:=
  (t58=true->K 0 bm false)/\(t58=false->IN PG K k9 m0 m2 ak bm)
def IM(k9:Int)(ik:Bool)(m0:Zd)(m2:Zf)(ak:Sc)(bm:Zf):Prop:=
  ((!ik)=true->tB PG K k9 true m0 m2 ak bm)/\((!ik)=false->0<=bm.func/\∃j:Zz,m0.funcs[(bm.func).toNat]?=some j/\∃c:BS,Ze PG 112 [.s j.name] (.s c)/\([32]:BS).length+c.length<=Yj/\(([32]:BS)++c).length+([32,97,116,32]:BS).length<=Yj/\∃e,∃i:Sc,Xc PG 128 (Bx [.s ak.left]) [.s ((([32]:BS)++c)++([32,97,116,32]:BS))] (fun r=>r=.b e) ((Bx [.s i.left]))/\tB PG K k9 (!e) m0 m2 i bm)
def IL(k9:Int)(m0:Zd)(m2:Zf)(ak:Sc)(bm:Zf):Prop:=
  ∃e j,∃c:Sc,Xc PG 140 (Bx [.s ak.left]) [.i .i64 (m0.funcs.length:Int)] (fun r=>r=.tup [.i .i64 e,.b j]) ((Bx [.s c.left]))/\IM PG K k9 j m0 m2 c (Zf.mk e bm.pos bm.mode bm.locals)
def tA(k9:Int)(t31:Bool)(m0:Zd)(m2:Zf)(ak:Sc)(bm:Zf):Prop:=
  (t31=true->K 0 bm false)/\(t31=false->IL PG K k9 m0 m2 ak bm)
def IK(k9:Int)(ik:Bool)(m0:Zd)(m2:Zf)(ak:Sc)(bm:Zf):Prop:=
  ((!ik)=true->tA PG K k9 true m0 m2 ak bm)/\((!ik)=false->∃e,∃c:Sc,Xc PG 128 (Bx [.s ak.left]) [.s ([32]:BS)] (fun r=>r=.b e) ((Bx [.s c.left]))/\tA PG K k9 (!e) m0 m2 c bm)
def IJ(m0:Zd)(m2:Zf)(ak:Sc)(bm:Zf):Prop:=
  ∃e j,∃c:Sc,Xc PG 140 (Bx [.s ak.left]) [.i .i64 170] (fun r=>r=.tup [.i .i64 e,.b j]) ((Bx [.s c.left]))/\IK PG K e j m0 m2 c bm
def II(m0:Zd)(m2:Zf)(ak:Sc)(bm:Zf):Prop:=
  ∃c,∃e:Sc,Xc PG 128 (Bx [.s ak.left]) [.s ([35]:BS)] (fun r=>r=.b c) ((Bx [.s e.left]))/\((!c)=true->K 0 bm false)/\((!c)=false->IJ PG K m0 m2 e bm)
def IH(m0:Zd)(m2:Zf)(ak:Sc):Prop:=
  II PG K m0 m2 ak (Zf.mk 0 0 0 ([]:List Zx))
def IG(dq:BS)(m0:Zd)(m2:Zf):Prop:=
  IH PG K m0 m2 (Sc.mk dq)
def IF(m0:Zd)(dq:BS):Prop:=
  IG PG K dq m0 (Zf.mk 0 0 0 ([]:List Zx))
end
section
variable{K:Int->Zf->Bool->Prop}(hQ:Xr3 d Zp Q K)
variable{k9:Int}{m2:Zf}{ak:Sc}{bm:Zf}{v2 fd lm:Nat}{t80:Bool}{m0:Zd}{v0:Nat}{t58 ik t31:Bool}{dq:BS}
variable(H0:U 0=m0.av)(H1:U 1=.s dq)(H2:U 2=.p (d,0) v0 0)(H5:U 5=.p (d,2) v2 0)(H7:U 7=.p (d,4098) fd 0)(H8:U 8=.p (d,8192) lm 0)(H9:U 9=.i .i64 k9)(H80:U 80=.b t80)(lv:U 58=.b t58)(aH:U 10=.b ik)(H31:U 31=.b t31)(B0:lk st.bx (d,0)=some (v0,Zd.cs m0))(B2:lk st.bx (d,2)=some (v2,Zf.co .full m2))(cd:lk st.bx (d,4098)=some (fd,[.s ak.left]))(cw:lk st.bx (d,8192)=some (lm,Zf.co .full bm))(FR:Fr d (d,0) Zp.bx Zp.ow st.bx st.ow)
def Xiu(h:IP PG K k9 m2 ak bm):W PG d QR U st Q:=
 Zl<|W.reg<|h.elim fun _ c=>Yh sn c.1<|Xl<|Ac (f:=AV.s) (fun _=>J) J (show lk _ (d,57345)=some (_,(List.map AV.s (List.replicate 4 ([]:BS)):List AV))from Zj) (by simp) J c.2.1<|e_<|q_ J<|Ygf J Zj c.2.2.1 J<|m_<|Vc H7<|f_ J<|l_ J (Rk J<|Zm J<|Zm J cd) J J<|c.2.2.2.elim fun _ e=>Yh (Wk J J J) e.1<|m_<|e_<|q_ J<|m_<|Xgc J J<|Ls J<|f_ H8<|Zy J (Rk J<|Zm J<|Zm J cw) J J J<|e_<|q_ J<|m_<|l_ H8 Zj J J<|m_<|b_ J J Ha<|m_<|Zy H5 (Zm J<|Rk J<|Zm J<|Zm J B2) J J J<|m_<|Zu<|hQ _ _ _ _ _ _ _ H9 H5 Zj J (Fr.box<|Fr.box<|Fr.del<|Fr.box<|Fr.box FR) e.2
def Ye2(h:tD PG K k9 t80 m2 ak bm):W PG d Ysx U st (Zk PG d QR Q):=
 Xw H80 (fun c=>q_ J<|l_ H8 cw J J<|m_<|Zy H5 B2 J J J<|m_<|Zu<|hQ _ _ _ _ _ _ _ J H5 Zj J (Fr.box FR)<|h.1 c)<|fun c=>Ya<|Xiu hQ H5 H7 H8 H9 B2 cd cw FR<|h.2 c
def Wd4(h:IN PG K k9 m0 m2 ak bm):W PG d QS U st Q:=
 q_ J<|m_<|f_ H2<|l_ J B0 J J<|f_ H8<|l_ J cw J J<|h.2.elim fun r o=>Xy J J h.1 o.1 (Zz.row_eq r) J<|Do J<|Xx J J J<|Xq J<|x2 o.2 fun q _ u=>u.elim fun _ e=>Wy (Ye H7<|Ye J Yw) e.1 (kG d) cd<|fun _ p c=>m_<|x_ J J<|x_ J J<|f_ H8<|Zy J ((c.1 (d,8192) (kG d)<|Wx J).trans cw) J J J<|m_<|e_<|Zl<|q_ J<|Yt J<|Wa J<|Yt J<|Ql (g:=76) J (fun i=>z_ 4 J<|e_<|Ye2 (bm:=(Zf.mk bm.func q bm.mode bm.locals)) hQ H5 H7 H8 H9 J (Zm J<|(c.1 (d,2) (kG d)<|Wx J).trans B2) (Zm J p) Zj (Fr.box<|Fr.call FR c)<|e.2.1 i)<|fun i=>Zg J<|Jb H7<|Zg J<|(e.2.2 i).elim fun _ s=>s.elim fun _ k=>Wy (Ye J<|Ye J Yw) k.1 (kG d) (Zm J p)<|fun _ v j=>Zg J<|Wa J<|Vt J J<|e_<|Ye2 (bm:=(Zf.mk bm.func q bm.mode bm.locals)) hQ H5 H7 H8 H9 J ((j.1 (d,2) (kG d)<|Wx J).trans<|Zm J<|(c.1 (d,2) (kG d)<|Wx J).trans B2) v ((j.1 (d,8192) (kG d)<|Wx J).trans Zj) (Fr.call (Fr.box<|Fr.call FR c) j) k.2
def Ybc(h:tB PG K k9 t58 m0 m2 ak bm):W PG d Yle U st (Zk PG d QS Q):=
 Xw lv (fun c=>q_ J<|l_ H8 cw J J<|m_<|Zy H5 B2 J J J<|m_<|Zu<|hQ _ _ _ _ _ _ _ J H5 Zj J (Fr.box FR)<|h.1 c)<|fun c=>Ya<|Wd4 hQ H2 H5 H7 H8 H9 B0 B2 cd cw FR<|h.2 c
def Xwd(h:IM PG K k9 ik m0 m2 ak bm):W PG d Yha U st Q:=
 Zl<|q_ J<|Yt aH<|Wa J<|Yt J<|Ql (g:=44) J (fun e=>z_ 14 J<|e_<|Ybc hQ H2 H5 H7 H8 H9 J B0 B2 cd cw FR<|h.1 e)<|fun e=>Zg J<|Jb H7<|Zg J<|f_ H2<|Zg J<|l_ J B0 J J<|Zg J<|f_ H8<|Zg J<|l_ J cw J J<|Zg J<|(h.2 e).2.elim fun o j=>Xy J J (h.2 e).1 j.1 (Zz.row_eq o) J<|Zg J<|Do J<|Zg J<|Xx J J J<|Zg J<|j.2.elim fun _ c=>Yh (Xu J J) c.1<|Zg J<|b_ J J (Xp c.2.1)<|Zg J<|b_ J J (Xp c.2.2.1)<|Zg J<|c.2.2.2.elim fun _ p=>p.elim fun _ k=>Wy (Ye J<|Ye J Yw) k.1 (kG d) cd<|fun _ q i=>Zg J<|Wa J<|Vt J J<|e_<|Ybc hQ H2 H5 H7 H8 H9 J ((i.1 (d,0) (kG d)<|Wx J).trans B0) ((i.1 (d,2) (kG d)<|Wx J).trans B2) q ((i.1 (d,8192) (kG d)<|Wx J).trans cw) (Fr.call FR i) k.2
def Wb1(h:IL PG K k9 m0 m2 ak bm):W PG d QT U st Q:=
 q_ J<|m_<|f_ H2<|l_ J B0 J J<|Xq J<|x2 h fun k _ i=>i.elim fun _ e=>Wy (Ye H7<|Ye J Yw) e.1 (kG d) cd<|fun _ j c=>m_<|x_ J J<|x_ J J<|f_ H8<|Zy J ((c.1 (d,8192) (kG d)<|Wx J).trans cw) J J J<|m_<|e_<|Xwd (bm:=(Zf.mk k bm.pos bm.mode bm.locals)) hQ H2 H5 H7 H8 H9 J (Zm J<|(c.1 (d,0) (kG d)<|Wx J).trans B0) (Zm J<|(c.1 (d,2) (kG d)<|Wx J).trans B2) (Zm J j) Zj (Fr.box<|Fr.call FR c) e.2
def Yu6(h:tA PG K k9 t31 m0 m2 ak bm):W PG d Yu7 U st (Zk PG d QT Q):=
 Xw H31 (fun c=>q_ J<|l_ H8 cw J J<|m_<|Zy H5 B2 J J J<|m_<|Zu<|hQ _ _ _ _ _ _ _ J H5 Zj J (Fr.box FR)<|h.1 c)<|fun c=>Ya<|Wb1 hQ H2 H5 H7 H8 H9 B0 B2 cd cw FR<|h.2 c
def Xxj(h:IK PG K k9 ik m0 m2 ak bm):W PG d Ymi U st Q:=
 Zl<|q_ J<|Yt aH<|Wa J<|Yt J<|Ql (g:=27) J (fun e=>z_ 4 J<|e_<|Yu6 hQ H2 H5 H7 H8 H9 J B0 B2 cd cw FR<|h.1 e)<|fun e=>Zg J<|Jb H7<|Zg J<|(h.2 e).elim fun _ j=>j.elim fun _ i=>Wy (Ye J<|Ye J Yw) i.1 (kG d) cd<|fun _ k c=>Zg J<|Wa J<|Vt J J<|e_<|Yu6 hQ H2 H5 H7 H8 H9 J ((c.1 (d,0) (kG d)<|Wx J).trans B0) ((c.1 (d,2) (kG d)<|Wx J).trans B2) k ((c.1 (d,8192) (kG d)<|Wx J).trans cw) (Fr.call FR c) i.2
def Xkq(h:IJ PG K m0 m2 ak bm):W PG d Ykj U st Q:=
 q_ J<|m_<|x2 h fun _ _ i=>i.elim fun _ e=>Wy (Ye H7<|Ye J Yw) e.1 (kG d) cd<|fun _ j c=>m_<|x_ J J<|x_ J J<|m_<|m_<|e_<|Xxj hQ H2 H5 H7 H8 J J ((c.1 (d,0) (kG d)<|Wx J).trans B0) ((c.1 (d,2) (kG d)<|Wx J).trans B2) j ((c.1 (d,8192) (kG d)<|Wx J).trans cw) (Fr.call FR c) e.2
def Xao(h:II PG K m0 m2 ak bm):W PG d Yju U st Q:=
 Zl<|q_ J<|m_<|h.elim fun _ j=>j.elim fun _ e=>Wy (Ye H7<|Ye J Yw) e.1 (kG d) cd<|fun _ k c=>Wa J<|e_<|Xw J (fun i=>q_ J<|l_ H8 ((c.1 (d,8192) (kG d)<|Wx J).trans cw) J J<|m_<|Zy H5 ((c.1 (d,2) (kG d)<|Wx J).trans B2) J J J<|m_<|Zu<|hQ _ _ _ _ _ _ _ J H5 Zj J (Fr.box<|Fr.call FR c)<|e.2.1 i)<|fun i=>Ya<|Xkq hQ H2 H5 H7 H8 ((c.1 (d,0) (kG d)<|Wx J).trans B0) ((c.1 (d,2) (kG d)<|Wx J).trans B2) k ((c.1 (d,8192) (kG d)<|Wx J).trans cw) (Fr.call FR c)<|e.2.2 i
def Xhd(h:IH PG K m0 m2 ak):W PG d Yqy U st Q:=
 Zl<|W.reg<|Xl<|e_<|Xao (bm:=(Zf.mk 0 0 0 ([]:List Zx))) hQ H2 H5 H7 J (Zm J B0) (Zm J B2) (Zm J cd) (show lk _ (d,8192)=some (_,lW)from Zj) (Fr.box FR) h
def Xvg(h:IG PG K dq m0 m2):W PG d Yrz U st Q:=
 q_ J<|m_<|Xb (Yr H1 J Yu)<|Jw J J<|m_<|e_<|Xhd (ak:=(Sc.mk dq)) hQ H2 H5 J (Zm J B0) (Zm J B2) Zj (Fr.box FR) h
def Xt4(h:IF PG K m0 dq):W PG d Yng U st Q:=
 Zl<|W.reg<|Jw H0 J<|m_<|Xl<|m_<|e_<|Xvg (m2:=(Zf.mk 0 0 0 ([]:List Zx))) hQ H1 J J Zj (Zm J<|show lk _ (d,2)=some (_,lW)from Zj) (Fr.box<|Fr.box FR) h
def Yye(hf:PG.fn 117=some Al)(h:IF PG K m0 dq):Ym PG 117 [m0.av,.s dq] (fun r=>∃aa:Int,∃ae:Zf,∃be:Bool,(r=.tup [.i .i64 aa,ae.avo .full,.b be])/\K aa ae be):=
  Ym.of hf rfl fun d st=>Xt4 (Zp:=st) (Q:=fun e U aA=>(e=.normal\/e=.ret)/\∃r,Xj U aA Al.res=some r/\_/\Fr d (d,0) st.bx st.ow aA.bx aA.ow) (fun U aA k1 v1  aa ae be H4 H5 mc H6 hf hk=>⟨.inr rfl,.tup [.i .i64 aa,ae.avo .full,.b be],by simp only[Al,Xj,Wz,H4,Jc (n:=4) H5 mc rfl,H6,Km,kK],⟨aa,ae,be,rfl,hk⟩,hf⟩) (U:=Wg [m0.av,.s dq]) rfl rfl Fr.refl h
end
abbrev Ysn:AC:= (sR 7 [oM 44 6,oN 45 44,oF 46 0 45,oL 47 46,oQ 48 74 [47],oM 43 48,oE 49 0 43,oE 50 1 43,oO 9<|.alloc aX,oS 5 9 49,oM 10 50]<|sR 8 [oM 51 7,oK 52 5 9,oO 53<|.build eU [(0,1,(.t 51)),(1,5,(.t 52))],oM 54 10,oV 55 .eql 54 0,oS 6 4 53,oM 5 55] .ret)
abbrev Yqi:AC:= (sR 0 [oY 2 7 0,oO 4<|.alloc eU,oC 5<|.b false]<|sR 1 [oM 11 1,oO 12<|.build [zs] [(0,1,(.t 11))],oY 13 1 12,oM 6 13]<|.seq (sR 2 [oM 14 6,oO 15<|.call true 128 [(.t 14),(.c<|.s [32,32])],oZ 16 15]<|cD 16 (sR 3 [oO 17<|.build eU [],oS 6 4 17,oC 5<|.b false] .ret) .skip)<|sR 4 [oM 19 6,oF 20 3 2,oL 21 20,oJ 22 21,oP 23 140 [19,22],oM 18 23,oE 24 0 18,oE 25 1 18,oM 7 24,oM 8 25]<|.seq (sR 5 [oM 26 8,oZ 27 26,oM 28 27,gF 28<|oM 29 6,gF 28<|oF 30 3 2,gF 28<|oL 31 30,gF 28<|oM 32 7,gF 28<|oX 33 2 31 32,gF 28<|oF 34 0 33,gF 28<|oL 35 34,gF 28<|oQ 36 112 [35],gF 28<|oB 37 .add (.c<|.s [32])<|.t 36,gF 28<|oB 38 .add (.t 37)<|.c<|.s [32,61,32],gF 28<|oP 39 128 [29,38],gF 28<|oZ 40 39,oR 41 28 40]<|cD 41 (sR 6 [oO 42<|.build eU [],oS 6 4 42,oC 5<|.b false] .ret) .skip) Ysn)
def oc:AF:= { nt:=56,res:=[.cell 4 6 true,.tmp 5],body:=Yqi }
abbrev Xrt(Q:Q0)(K:Zx->Bool->Prop):Prop:=∀(U:Sl)(st:St)(k0:Zt)(v0:Nat)(cc:Zr)(aa:Zx)(ae:Bool),U 4=.p k0 v0 0->lk st.bx k0=some (v0,Zx.co cc aa)->U 5=.b ae->K aa ae->Q .ret U st
section
variable(PG:Zb)(K:Zx->Bool->Prop)
def IS(i7:Int)(m1:Zx)(ak:Sc):Prop:=
  ∃c:Za,∃e,Ze PG 74 [.s ak.left] (.tup [c.av,.i .i64 e])/\K (Zx.mk i7 c) (decide (e=0))
def IQ(f0:Zz)(dq:BS):Prop:=
  ∃c,∃u:Sc,Xc PG 128 (Bx [.s dq]) [.s ([32,32]:BS)] (fun r=>r=.b c) ((Bx [.s u.left]))/\((!c)=true->K (Zx.mk 0 (Za.mk 0 0 [] ([]:List Za) false)) false)/\((!c)=false->∃j o,∃q:Sc,Xc PG 140 (Bx [.s u.left]) [.i .i64 (f0.slots.length:Int)] (fun r=>r=.tup [.i .i64 j,.b o]) ((Bx [.s q.left]))/\((!o)=true->K (Zx.mk 0 (Za.mk 0 0 [] ([]:List Za) false)) false)/\((!o)=false->0<=j/\∃v:Xt,f0.slots[(j).toNat]?=some v/\∃e:BS,Ze PG 112 [.s v.name] (.s e)/\([32]:BS).length+e.length<=Yj/\(([32]:BS)++e).length+([32,61,32]:BS).length<=Yj/\∃k,∃p:Sc,Xc PG 128 (Bx [.s q.left]) [.s ((([32]:BS)++e)++([32,61,32]:BS))] (fun r=>r=.b k) ((Bx [.s p.left]))/\((!k)=true->K (Zx.mk 0 (Za.mk 0 0 [] ([]:List Za) false)) false)/\((!k)=false->IS PG K j (Zx.mk 0 (Za.mk 0 0 [] ([]:List Za) false)) p)))
end
section
variable{K:Zx->Bool->Prop}(hQ:Xrt Q K)
variable{i7:Int}{m1:Zx}{ak:Sc}{ju:Zr}{v1 fd:Nat}{f0:Zz}{dq:BS}
variable(H4:U 4=.p (d,1) v1 0)(H0:U 0=f0.av)(H6:U 6=.p (d,4098) fd 0)(H1:U 1=.s dq)(H7:U 7=.i .i64 i7)(B1:lk st.bx (d,1)=some (v1,Zx.co ju m1))(cd:lk st.bx (d,4098)=some (fd,[.s ak.left]))
def Xju(h:IS PG K i7 m1 ak):W PG d Ysn U st Q:=
 Zl<|W.reg<|m_<|Vc H6<|f_ J<|l_ J (Zm J cd) J J<|x2 h fun _ _ c=>Yh (Xu J J) c.1<|m_<|x_ J J<|x_ J J<|Xl<|Zy J (show lk _ (d,28680)=some (_,cS)from Zj) J J J<|m_<|e_<|q_ J<|m_<|l_ J Zj J J<|Xb (Yr H7 J<|Yr J J Yu)<|m_<|b_ J J Xf<|Zy H4 (Zm J<|Zm J B1) J J J<|m_<|Zu<|hQ _ _ _ _ _ _ _ H4 Zj J c.2
def Xuw(h:IQ PG K f0 dq):W PG d Yqi U st Q:=
 Zl<|W.reg<|Jw H0 J<|Xl<|m_<|e_<|q_ J<|m_<|Xb (Yr H1 J Yu)<|Jw J J<|m_<|e_<|Zl<|q_ J<|m_<|h.elim fun _ a0=>a0.elim fun _ q=>Wy (Ye J<|Ye J Yw) q.1 (kG d) Zj<|fun _ a3 c=>Wa J<|e_<|Xw J (fun u=>q_ J<|Xb Yu<|Zy J ((c.1 (d,1) (kG d)<|Wx J).trans<|Zm J<|Zm J<|show lk _ (d,1)=some (_,iN)from Zj) J J J<|m_<|Zu<|hQ _ _ _ _ _ _ _ J Zj J<|q.2.1 u)<|fun u=>Ya<|q_ J<|m_<|f_ J<|l_ J ((c.1 (d,0) (kG d)<|Wx J).trans<|Zm J Zj) J J<|Xq J<|x2 (q.2.2 u) fun _ _ z=>z.elim fun _ e=>Wy (Ye J<|Ye J Yw) e.1 (kG d) a3<|fun _ a1 o=>m_<|x_ J J<|x_ J J<|m_<|m_<|e_<|Zl<|q_ J<|Yt J<|Wa J<|Yt J<|Ql (g:=28) J (fun k=>z_ 13 J<|e_<|Xh J<|q_ J<|Xb Yu<|Zy J ((o.1 (d,1) (kG d)<|Wx J).trans<|(c.1 (d,1) (kG d)<|Wx J).trans<|Zm J<|Zm J<|show lk _ (d,1)=some (_,iN)from Zj) J J J<|m_<|Zu<|hQ _ _ _ _ _ _ _ J Zj J<|e.2.1 k)<|fun k=>Zg J<|Jb J<|Zg J<|f_ J<|Zg J<|l_ J ((o.1 (d,0) (kG d)<|Wx J).trans<|(c.1 (d,0) (kG d)<|Wx J).trans<|Zm J Zj) J J<|Zg J<|Wc J<|Zg J<|(e.2.2 k).2.elim fun x v=>Xy J J (e.2.2 k).1 v.1 (Xt.row_eq x) J<|Zg J<|Do J<|Zg J<|Xx J J J<|Zg J<|v.2.elim fun _ j=>Yh (Xu J J) j.1<|Zg J<|b_ J J (Xp j.2.1)<|Zg J<|b_ J J (Xp j.2.2.1)<|Zg J<|j.2.2.2.elim fun _ y=>y.elim fun _ p=>Wy (Ye J<|Ye J Yw) p.1 (kG d) a1<|fun _ a2 w=>Zg J<|Wa J<|Vt J J<|e_<|Xw J (fun r=>q_ J<|Xb Yu<|Zy J ((w.1 (d,1) (kG d)<|Wx J).trans<|(o.1 (d,1) (kG d)<|Wx J).trans<|(c.1 (d,1) (kG d)<|Wx J).trans<|Zm J<|Zm J<|show lk _ (d,1)=some (_,iN)from Zj) J J J<|m_<|Zu<|hQ _ _ _ _ _ _ _ J Zj J<|p.2.1 r)<|fun r=>Ya<|Xju (m1:=(Zx.mk 0<|Za.mk 0 0 [] ([]:List Za) false)) hQ J J J ((w.1 (d,1) (kG d)<|Wx J).trans<|(o.1 (d,1) (kG d)<|Wx J).trans<|(c.1 (d,1) (kG d)<|Wx J).trans<|Zm J<|Zm J<|show lk _ (d,1)=some (_,iN)from Zj) a2<|p.2.2 r
theorem Xdr(hf:PG.fn 118=some oc)(h:IQ PG K f0 dq):∃aa:Zx,∃ae:Bool,K aa ae/\Ze PG 118 [f0.av,.s dq] (.tup [aa.av,.b ae]):=by
  obtain⟨v,hv,aa,ae,hk,rfl⟩:=Ze.of (K:=fun v=>∃aa:Zx,∃ae:Bool,K aa ae/\v=.tup [aa.av,.b ae]) hf rfl (Xuw (U:=Wg [f0.av,.s dq]) (fun U st k0 v0 cc aa ae H4 gU H5 hk=>⟨.tup [aa.avo cc,.b ae],by simp only[oc,Xj,Wz,Jc (n:=6) H4 gU rfl,H5,Km,kK],_,rfl,aa,ae,hk,rfl⟩) rfl rfl h)
  exact⟨aa,ae,hk,hv⟩
end
abbrev Ypr:AC:= (cD 22 (sR 2 [oO 23<|.build cQ [],oI 4 0,oS 4 5 23,oI 6 4] .ret) .skip)
abbrev xw:AC:= (sR 9 [oT 44 .lss 43 42]<|.seq (cD 44 .skip<|.exit 0)<|.seq (.block 1<|sR 10 [oX 45 1 41 43,oL 46 45,oM 11 46]<|sR 11 [oF 48 2 2,oL 49 48,oF 50 0 8,oL 51 50,oX 52 7 49 51,oK 53 7 52,oM 54 11,oQ 55 118 [53,54],oM 47 55,oE 56 0 47,oE 57 1 47,oO 12<|.alloc eU,oS 6 12 56,oM 13 57]<|.seq (sR 12 [oM 58 13,oZ 59 58]<|cD 59 (sR 13 [oO 60<|.build cQ [],oI 4 0,oS 4 5 60,oI 6 12] .ret) .skip)<|.reg 14 [oF 61 3 8,oL 62 61,oK 63 6 12,oO 64<|.bslice eU 1 [(0,(.t 63))],oO 65<|.app 6 72 (.t 62)<|.t 64,oF 66 3 8,oS 1 66 65])<|.reg 15 [oV 67 .add 43 1,oM 43 67])
abbrev Yuu:AC:= (cD 82 (sR 18 [oO 83<|.build cQ [],oI 4 0,oS 4 5 83,oI 6 12] .ret) .skip)
abbrev QU:AC:= (sR 19 [oM 84 7,oK 85 4 8,oM 4 84,oS 4 5 85,oI 6 0] .ret)
abbrev xx:AC:= (.seq (sR 16 [oK 69 3 2,oM 70 7,oK 71 4 8,oQ 72 82 [69,70,71],oM 68 72,oE 73 0 68,oE 74 1 68,oM 14 73,oM 15 74]<|sR 17 [oM 75 15,oV 76 .neq 75 0,oM 77 76,gF 77<|oM 78 14,gF 77<|oM 79 1,gF 77<|oQ 80 119 [78,79],gF 77<|oZ 81 80,oR 82 77 81] Yuu) QU)
abbrev Yqq:AC:= (.seq (sR 8 [oM 40 1,oO 41<|.slL 1 (.t 40) (some<|.c<|.i .i64 1) none,oJ 42 41,oI 43 0]<|.block 0<|.loop xw) xx)
abbrev Yf3:AC:= (.seq (sR 6 [oM 37 9,oZ 38 37]<|cD 38 (sR 7 [oO 39<|.build cQ [],oI 4 0,oS 4 5 39,oI 6 12] .ret) .skip) Yqq)
abbrev Ys5:AC:= (sR 5 [oK 29 3 2,oM 30 1,oO 31<|.iaL 1 (.t 30)<|.c<|.i .i64 0,oL 32 31,oP 33 117 [29,32],oM 28 33,oE 34 0 28,oE 35 1 28,oE 36 2 28,oO 8<|.alloc cQ,oM 7 34,oS 4 8 35,oM 9 36] Yf3)
abbrev QV:AC:= (.seq (sR 3 [oM 24 1,oJ 25 24,oV 26 .eql 25 0]<|cD 26 (sR 4 [oO 27<|.build cQ [],oI 4 0,oS 4 5 27,oI 6 12] .ret) .skip) Ys5)
abbrev Yg0:AC:= (.seq (sR 1 [oM 16 1,oJ 17 16,oV 18 .gtr 17 17,oM 19 18,gF 19<|oM 20 1,gF 19<|oO 21<|.call true 115 [(.t 20),(.c<|.fn 116 [])],oR 22 19 21] Ypr) QV)
abbrev b84:AC:= (sR 0 [oY 2 3 0,oI 4 0,oO 5<|.alloc cQ,oI 6 0] Yg0)
def oa:AF:= { nt:=86,res:=[.tmp 4,.cell 5 4 true,.tmp 6],body:=b84 }
abbrev H84(Q:Q0)(K:Int->Zf->Int->Prop):Prop:=∀(U:Sl)(st:St)(k1:Zt)(v1:Nat)(jv:Zr)(aa:Int)(ae:Zf)(be:Int),U 4=.i .i64 aa->U 5=.p k1 v1 0->lk st.bx k1=some (v1,Zf.co jv ae)->U 6=.i .i64 be->K aa ae be->Q .ret U st
abbrev Yfg(PG:Zb)(d:Nat)(Q:Q0)(l1:LB)(k7:Int)(t41:LB)(t42 t43:Int)(m0:Zd)(m2 bt:Zf):Prop:=
  ∀(U:Sl)(st:St)(jl kv gn fw:Zr)(v0 v2 je:Nat),U 1=.sl jl (List.map Zv l1)->U 2=.p (d,0) v0 0->U 5=.p (d,2) v2 0->U 7=.i .i64 k7->U 8=.p (d,20489) je 0->U 41=.sl kv (List.map Zv t41)->U 42=.i .i64 t42->U 43=.i .i64 t43->Yo d st.ow fw bt.locals.length->lk st.bx (d,0)=some (v0,Zd.cs m0)->lk st.bx (d,2)=some (v2,Zf.co gn m2)->lk st.bx (d,20489)=some (je,Zf.co fw bt)->W PG d (.loop xw) U st (Zs 0 (Zk PG d xx Q))
def JK(PG:Zb)(K:Int->Zf->Int->Prop)(k7:Int)(m2 bt:Zf):Prop:=
  K k7 bt 0
section
variable(PG:Zb)(K:Int->Zf->Int->Prop)
def om(k7:Int)(t82:Bool)(m2 bt:Zf):Prop:=
  (t82=true->K 0 (Zf.mk 0 0 0 ([]:List Zx)) 12)/\(t82=false->JK PG K k7 m2 bt)
def JJ(l1:LB)(k7:Int)(m0:Zd)(m2 bt:Zf):Prop:=
  ∃e c,Ze PG 82 [m0.av,.i .i64 k7,bt.av] (.tup [.sl .ext (List.map Zv e),.i .i64 c])/\(c≠0->om PG K k7 true m2 bt)/\(¬(c≠0)->∃j,Ze PG 119 [.sl .ext (List.map Zv e),.sl .ext (List.map Zv l1)] (.b j)/\om PG K k7 (!j) m2 bt)
def tM(P0:Int->Zd->Zf->Zf->Prop)(l1:LB)(k7:Int)(t41:LB)(t42 t43:Int)(m0:Zd)(m2 bt:Zf):Prop:=
  (t43<t42->0<=t43/\∃j,t41[(t43).toNat]?=some j/\0<=bt.func/\∃i:Zz,m0.funcs[(bt.func).toNat]?=some i/\∃e:Zx,∃c,Ze PG 118 [i.av,.s j] (.tup [e.av,.b c])/\((!c)=true->K 0 (Zf.mk 0 0 0 ([]:List Zx)) 12)/\((!c)=false->Ju (bt.locals.length+[e].length) 72/\P0 (IntKind.i64.wrap (t43+1)) m0 m2 (Zf.mk bt.func bt.pos bt.mode (bt.locals++[e]))))/\(¬(t43<t42)->JJ PG K l1 k7 m0 m2 bt)
def JI(l1:LB)(k7:Int)(m0:Zd)(m2 bt:Zf):Prop:=
  1<=l1.length/\∀P0:Int->Zd->Zf->Zf->Prop,(∀(t43:Int)(m0:Zd)(m2 bt:Zf),tM PG K P0 l1 k7 (l1.drop 1) ((l1.drop 1).length:Int) t43 m0 m2 bt->P0 t43 m0 m2 bt)->P0 0 m0 m2 bt
def JG(l1:LB)(k7:Int)(qe:Bool)(m0:Zd)(m2 bt:Zf):Prop:=
  ((!qe)=true->K 0 (Zf.mk 0 0 0 ([]:List Zx)) 12)/\((!qe)=false->JI PG K l1 k7 m0 m2 bt)
def JF(l1:LB)(m0:Zd)(m2:Zf):Prop:=
  ∃k,l1[0]?=some k/\∃e,∃c:Zf,∃j,(Ym PG 117 [m0.av,.s k] (fun r=>r=.tup [.i .i64 e,c.avo .full,.b j]))/\JG PG K l1 e j m0 m2 c
def JE(l1:LB)(m0:Zd)(m2:Zf):Prop:=
  ((l1.length:Int)=0->K 0 (Zf.mk 0 0 0 ([]:List Zx)) 12)/\(¬((l1.length:Int)=0)->JF PG K l1 m0 m2)
def tL(l1:LB)(t22:Bool)(m0:Zd)(m2:Zf):Prop:=
  (t22=true->K 0 (Zf.mk 0 0 0 ([]:List Zx)) 4)/\(t22=false->JE PG K l1 m0 m2)
def JD(l1:LB)(m0:Zd)(m2:Zf):Prop:=
  ((l1.length:Int)>17->tL PG K l1 true m0 m2)/\(¬((l1.length:Int)>17)->∃c,(∀e:Zr,Ym PG 115 [.sl e (List.map Zv l1),.fn 116 []] (fun r=>r=.b c))/\tL PG K l1 c m0 m2)
def JC(m0:Zd)(l1:LB):Prop:=
  JD PG K l1 m0 (Zf.mk 0 0 0 ([]:List Zx))
end
section
variable{K:Int->Zf->Int->Prop}(hQ:H84 Q K)
variable{k7:Int}{m2 bt:Zf}{gn fw:Zr}{v2 je:Nat}{t82:Bool}{l1:LB}{m0:Zd}{jl:Zr}{v0:Nat}{t41:LB}{t42 t43:Int}{P0:Int->Zd->Zf->Zf->Prop}{kv:Zr}{qe t22:Bool}
variable(aD :∀(t43:Int)(m0:Zd)(m2 bt:Zf),P0 t43 m0 m2 bt->Yfg PG d Q l1 k7 t41 t42 t43 m0 m2 bt)(H0:U 0=m0.av)(H1:U 1=.sl jl (List.map Zv l1))(H2:U 2=.p (d,0) v0 0)(H5:U 5=.p (d,2) v2 0)(H7:U 7=.i .i64 k7)(H22:U 22=.b t22)(H8:U 8=.p (d,20489) je 0)(H82:U 82=.b t82)(H41:U 41=.sl kv (List.map Zv t41))(H9:U 9=.b qe)(H42:U 42=.i .i64 t42)(H43:U 43=.i .i64 t43)(dm:Yo d st.ow fw bt.locals.length)(B0:lk st.bx (d,0)=some (v0,Zd.cs m0))(B2:lk st.bx (d,2)=some (v2,Zf.co gn m2))(eg:lk st.bx (d,20489)=some (je,Zf.co fw bt))
include hQ H5 H7 H8 dm B2 eg in
theorem Xbl(h:JK PG K k7 m2 bt):W PG d QU U st Q:=
 au trivial
include hQ H5 H7 H8 H82 dm B2 eg in
theorem Yph(h:om PG K k7 t82 m2 bt):W PG d Yuu U st (Zk PG d QU Q):=
 au @Xbl
def Xim(h:JJ PG K l1 k7 m0 m2 bt):W PG d xx U st Q:=
 Zl<|q_ J<|l_ H2 B0 J J<|m_<|l_ H8 eg J J<|x2 h fun _ _ c=>Yh (Iz J H7 J J) c.1<|m_<|x_ J J<|x_ J J<|Yf J<|m_<|e_<|q_ J<|Wc J<|b_ J J Vr<|Yt J<|Xe (g:=77) J (fun e=>z_ 5 J<|e_<|Yph hQ H5 H7 H8 J dm B2 eg<|c.2.1 e)<|fun e=>Zg J<|Yf J<|Zg J<|Yf H1<|Zg J<|(c.2.2 e).elim fun _ i=>Yh (Wk J J J) i.1<|Zg J<|Wa J<|Vt J J<|e_<|Yph hQ H5 H7 H8 J dm B2 eg i.2
def Wdn(h:tM PG K P0 l1 k7 t41 t42 t43 m0 m2 bt):W PG d xw U st (Zk PG d (.loop xw) (Zs 0 (Zk PG d xx Q))):=
 q_ J<|b_ H43 H42 Wp<|e_<|Zl<|Yi J (fun e=>Ya<|Zl<|Yg<|q_ J<|(h.1 e).2.elim fun _ k=>Xy H41 H43 (h.1 e).1 k.1 J J<|Xx J J J<|m_<|e_<|Zl<|W.reg<|f_ H2<|l_ J (Zm J B0) J J<|f_ H8<|l_ J (Zm J eg) J J<|k.2.2.elim fun q o=>Xy J J k.2.1 o.1 (Zz.row_eq q) J<|Xx J J J<|m_<|x2 o.2 fun u _ c=>Yh (Wk J J J) c.1<|m_<|x_ J J<|x_ J J<|Xl<|Zy J (show lk _ (d,45067)=some (_,iN)from Zj) J J J<|m_<|e_<|Zl<|q_ J<|m_<|Wa J<|e_<|Xw J (fun j=>q_ J<|Xb Yu<|m_<|Zy H5 (Zm J<|Zm J B2) J J J<|m_<|Zu<|hQ _ _ _ _ _ _ _ _ J H5 Zj J<|c.2.1 j)<|fun j=>Ya<|W.reg0 J fun _ _=>f_ H8<|l_ J (Zm J<|Zm J eg) J J<|l_ J Zj J J<|Wr (f:=Zx.row) (l:=[u]) J J (Yl J J J Wi) (by simp only[jB,yK,Zx.row_eq];rfl)<|Jq Zx.row_len J J J dm.1 (c.2.2 j).1 J<|fun _ _ p _ r=>f_ H8<|Zy J (Zm J<|Zm J eg) J J J<|e_<|W.reg0 J fun _ _=>b_ H43 J Vp<|m_<|e_<|aD _ _ _ _ (c.2.2 j).2 _ _ _ _ _ _ _ _ _ H1 H2 H5 H7 H8 H41 H42 J (Yo.mk p<|Qy.app dm.2 J r) (Zm J<|Zm J<|Zm J B0) (Zm J<|Zm J<|Zm J B2) Zj)<|fun e=>Vg<|Xim hQ H1 H2 H5 H7 H8 dm B0 B2 eg<|h.2 e
def Xkp(h:JI PG K l1 k7 m0 m2 bt):W PG d Yqq U st Q:=
 Zl<|q_ J<|Yf H1<|X0 Bs J J (by decide) h.1<|Xq J<|m_<|e_<|Yg<|h.2 (Yfg PG d Q l1 k7 (l1.drop 1) ((l1.drop 1).length:Int)) (fun _ _ _ _ hb _ _ _ _ _ _ _ _ _ H1 H2 H5 H7 H8 H41 H42 H43 dm B0 B2 eg=>W.loop<|Wdn hQ (fun _ _ _ _ x=>x) H1 H2 H5 H7 H8 H41 H42 H43 dm B0 B2 eg hb) _ _ _ _ _ _ _ _ _ H1 H2 H5 H7 H8 J J J dm B0 B2 eg
include hQ H1 H2 H5 H7 H8 H9 dm B0 B2 eg in
theorem Xi6(h:JG PG K l1 k7 qe m0 m2 bt):W PG d Yf3 U st Q:=
 au @Xkp
def Xb7(h:JF PG K l1 m0 m2):W PG d Ys5 U st Q:=
 Zl<|W.reg<|l_ H2 (Zm J B0) J J<|Yf H1<|h.elim fun _ e=>Xy J J (by decide) e.1 J J<|Xx J J J<|x2 e.2 fun _ _ k=>k.elim fun _ j=>Gm (Ye J<|Ye J Yw) (j.1)<|fun _ c=>m_<|x_ J J<|x_ J J<|x_ J J<|Xl<|m_<|Zy J ((c.1 (d,20489) (kG d) Kv).trans<|show lk _ (d,20489)=some (_,lW)from Zj) J J J<|m_<|e_<|Xi6 hQ H1 H2 H5 J J J Yo.full (Zm J<|(c.1 (d,0) (kG d) Kv).trans<|Zm J B0) (Zm J<|(c.1 (d,2) (kG d) Kv).trans<|Zm J B2) Zj j.2
def Yvg(h:JE PG K l1 m0 m2):W PG d QV U st Q:=
 Zl<|q_ J<|Yf H1<|Xq J<|b_ J J Xf<|e_<|Yi J (fun c=>q_ J<|Xb Yu<|m_<|Zy H5 B2 J J J<|m_<|Zu<|hQ _ _ _ _ _ _ _ _ J H5 Zj J<|h.1 c)<|fun c=>Ya<|Xb7 hQ H1 H2 H5 B0 B2<|h.2 c
include hQ H1 H2 H5 H22 B0 B2 in
theorem Ygc(h:tL PG K l1 t22 m0 m2):W PG d Ypr U st (Zk PG d QV Q):=
 au @Yvg
def Xhc(h:JD PG K l1 m0 m2):W PG d Yg0 U st Q:=
 Zl<|q_ J<|Yf H1<|Xq J<|b_ J J Jd<|Yt J<|Xe (g:=19) J (fun c=>z_ 3 J<|e_<|Ygc hQ H1 H2 H5 J B0 B2<|h.1 c)<|fun c=>Zg J<|Yf H1<|Zg J<|(h.2 c).elim fun _ e=>Gm (Ye J<|Ye J Yw) (e.1 _)<|fun _ i=>Vt J J<|e_<|Ygc hQ H1 H2 H5 J ((i.1 (d,0) (kG d) Kv).trans B0) ((i.1 (d,2) (kG d) Kv).trans B2) e.2
include hQ H0 H1 in
theorem Xrj(h:JC PG K m0 l1):W PG d b84 U st Q:=
 au @Xhc
theorem p84(hf:PG.fn 84=some oa)(h:JC PG K m0 l1):∃aa:Int,∃ae:Zf,∃be:Int,K aa ae be/\Ze PG 84 [m0.av,.sl .ext (List.map Zv l1)] (.tup [.i .i64 aa,ae.av,.i .i64 be]):=by
  obtain⟨v,hv,aa,ae,be,hk,rfl⟩:=Ze.of (K:=fun v=>∃aa:Int,∃ae:Zf,∃be:Int,K aa ae be/\v=.tup [.i .i64 aa,ae.av,.i .i64 be]) hf rfl (Xrj (U:=Wg [m0.av,.sl .ext (List.map Zv l1)]) (fun U st k1 v1 jv aa ae be H4 H5 mc H6 hk=>⟨.tup [.i .i64 aa,ae.avo jv,.i .i64 be],by simp only[oa,Xj,Wz,H4,Jc (n:=4) H5 mc rfl,H6,Km,kK],_,rfl,aa,ae,be,hk,rfl⟩) rfl rfl h)
  exact⟨aa,ae,be,hk,hv⟩
end
end Go.AM
