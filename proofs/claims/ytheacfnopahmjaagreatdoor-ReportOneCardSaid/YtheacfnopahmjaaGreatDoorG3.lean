/- Parts of the proof: U30b, U38a, U38b, U38c, U38d, U38e, U38f, U38g, U38h. -/
import Derived.Test.YtheacfnopahmjaaGreatDoorG2
import Derived.Test.YtheacfnopahmjaaGreatDoorG0
set_option linter.all false
/- Yf of the proof. -/
namespace Go.AM
open Go
set_option linter.unusedVariables false
set_option linter.unusedSimpArgs false
set_option maxRecDepth 4000
set_option maxHeartbeats 2000000
attribute [local irreducible] Decidable.decide W WO Wq Ws
abbrev Hh (Q:AE->Sl->St->Prop)(K:BS->Prop):Prop:=∀(σ:Sl)(st:St)(x0:BS),σ 2=.s x0->K x0->Q .ret σ st
section
variable {PG:Za}{d:Nat}{Q:AE->Sl->St->Prop}{K:BS->Prop}(hQ:Hh Q K){σ:Sl}{st:St}
include hQ
end
abbrev Kl (Q:AE->Sl->St->Prop)(K:Int->Int->Prop):Prop:=∀(σ:Sl)(st:St)(x0:Int)(x1:Int),σ 2=.i .i64 x0->σ 3=.i .i64 x1->K x0 x1->Q .ret σ st
section
variable {PG:Za}{d:Nat}{Q:AE->Sl->St->Prop}{K:Int->Int->Prop}(hQ:Kl Q K){σ:Sl}{st:St}
include hQ
end
abbrev Tx (Q:AE->Sl->St->Prop)(K:BS->Int->Prop):Prop:=∀(σ:Sl)(st:St)(x0:BS)(x1:Int),σ 2=.s x0->σ 3=.i .i64 x1->K x0 x1->Q .ret σ st
section
variable {PG:Za}{d:Nat}{Q:AE->Sl->St->Prop}{K:BS->Int->Prop}(hQ:Tx Q K){σ:Sl}{st:St}
include hQ
end
def Ztt:List AI:=[oC 4 (.b false)]
def Yep:List AI:=[oM 6 0,oJ 7 6,oM 8 1,oJ 9 8,oT 10 .neq 7 9]
def Ylh:List AI:=[oC 4 (.b false)]
def Yel:List AI:=[oI 5 0]
def Yvc:List AI:=[oM 11 5,oM 12 0,oJ 13 12,oT 14 .lss 11 13]
def Yno:List AI:=[oM 17 0,oM 18 5,oX 19 1 17 18,oL 20 19,oM 21 1,oM 22 5,oX 23 1 21 22,oL 24 23,oT 25 .neq 20 24]
def Xpq:List AI:=[oC 4 (.b false)]
def Yms:List AI:=[oM 15 5,oV 16 .add 15 1,oM 5 16]
def Xr5:List AI:=[oC 4 (.b true)]
abbrev Au:AC:=(.seq (sR 4 Yvc (.cond (.t 14) .skip (.exit 0))) (.seq (.block 1 (sR 6 Yno (.cond (.t 25) (sR 7 Xpq .ret) .skip))) (.reg 5 Yms)))
abbrev Ai:AC:=(sR 8 Xr5 .ret)
abbrev b29:AC:=(sR 0 Ztt (.seq (sR 1 Yep (.cond (.t 10) (sR 2 Ylh .ret) .skip)) (.seq (sR 3 Yel (.block 0 (.loop Au))) Ai)))
def Zgm:AF:={ nt:=26,res:=[.tmp 4],body:=b29 }
abbrev Zuj (PG:Za)(d:Nat)(Q:AE->Sl->St->Prop)(a0:LB)(b1:LB)(i5:Int):Prop:=
  ∀(σ:Sl)(st:St) (o_a0 o_b1:Zl),σ 0=.sl o_a0 (List.map Zv a0)->σ 1=.sl o_b1 (List.map Zv b1)->σ 5=.i .i64 i5->W PG d (.loop Au) σ st (Ya 0 (Zs PG d Ai Q))
def Zje (PG:Za)(K:Bool->Prop) :Prop:=
  K true
def Zbg (PG:Za)(K:Bool->Prop)(P0:Int->Prop)(a0:LB)(b1:LB)(i5:Int):Prop:=
  (i5<(a0.length:Int)->0<=i5/\∃c,a0[(i5).toNat]?=some c/\0<=i5/\∃e,b1[(i5).toNat]?=some e/\(c≠e->K false)/\(¬(c≠e)->P0 (IntKind.i64.wrap (i5+1))))/\(¬(i5<(a0.length:Int))->Zje PG K )
def Zm0 (PG:Za)(K:Bool->Prop)(a0:LB)(b1:LB):Prop:=
  ((a0.length:Int)≠(b1.length:Int)->K false)/\(¬((a0.length:Int)≠(b1.length:Int))->∀P0:Int->Prop,(∀(i5:Int),Zbg PG K P0 a0 b1 i5->P0 i5)->P0 0)
section
variable {PG:Za}{d:Nat}{Q:AE->Sl->St->Prop}{K:Bool->Prop}(hQ:H1 AV.b 4 Q K){σ:Sl}{st:St}
include hQ
variable {a0 b1:LB}{i5:Int}{P0:Int->Prop}{o_a0 o_b1:Zl}
variable (kP0 :∀(i5:Int),P0 i5->Zuj PG d Q a0 b1 i5)(H0:σ 0=.sl o_a0 (List.map Zv a0))(H1:σ 1=.sl o_b1 (List.map Zv b1))(H5:σ 5=.i .i64 i5)
theorem Xli (h:Zje PG K ):W PG d Ai σ st Q:=
 au trivial
include kP0 H0 H1 H5 in
theorem Xnw (h:Zbg PG K P0 a0 b1 i5):W PG d Au σ st (Zs PG d (.loop Au) (Ya 0 (Zs PG d Ai Q))):=
 au @Xli
include H0 H1 in
theorem Xpf (h:Zm0 PG K a0 b1):W PG d (sR 0 Ztt (.seq (sR 1 Yep (.cond (.t 10) (sR 2 Ylh .ret) .skip)) (.seq (sR 3 Yel (.block 0 (.loop Au))) Ai))) σ st Q:=
 q_ J (m_ (e_ (Zm (q_ J (Yi H0 (Xc J (Yi H1 (Xc J (b_ J J Vd (e_ (Yk J (fun c=>q_ J (m_ (Zp (hQ J (h.1 c))))) (fun c=>Yd (Zm (q_ J (m_ (e_ (Yj ((h.2 c) (Zuj PG d Q a0 b1) (fun _ hb _ _ _ _ H0 H1 H5=>W.loop (Xnw hQ (fun _ x=>x) H0 H1 H5 hb)) _ _ _ _ H0 H1 J))))))))))))))))))
end
theorem p29 {PG:Za}(hf:PG.fn 29=some Zgm){a0:LB}{b1:LB}{K:Bool->Prop}(h:Zm0 PG K a0 b1) :∃x0:Bool,K x0/\Ze PG 29 [.sl .ext (List.map Zv a0),.sl .ext (List.map Zv b1)] (.b x0):=
 P1 hf J (Xpf (h1 J fun _=>J) J J h)
abbrev H31 (Q:AE->Sl->St->Prop)(K:BS->Prop):Prop:=∀(σ:Sl)(st:St)(x0:BS),σ 2=.s x0->K x0->Q .ret σ st
section
variable {PG:Za}{d:Nat}{Q:AE->Sl->St->Prop}{K:BS->Prop}(hQ:H31 Q K){σ:Sl}{st:St}
include hQ
end
abbrev H35 (Q:AE->Sl->St->Prop)(K:BS->Prop):Prop:=∀(σ:Sl)(st:St)(x0:BS),σ 4=.s x0->K x0->Q .ret σ st
section
variable {PG:Za}{d:Nat}{Q:AE->Sl->St->Prop}{K:BS->Prop}(hQ:H35 Q K){σ:Sl}{st:St}
include hQ
end
abbrev Uy (Q:AE->Sl->St->Prop)(K:Int->Int->Prop):Prop:=∀(σ:Sl)(st:St)(x0:Int)(x1:Int),σ 6=.i .u64 x0->σ 7=.i .i64 x1->K x0 x1->Q .ret σ st
section
variable {PG:Za}{d:Nat}{Q:AE->Sl->St->Prop}{K:Int->Int->Prop}(hQ:Uy Q K){σ:Sl}{st:St}
include hQ
end
abbrev Gt (Q:AE->Sl->St->Prop)(K:BS->BS->Bool->Prop):Prop:=∀(σ:Sl)(st:St)(x0:BS)(x1:BS)(x2:Bool),σ 2=.s x0->σ 3=.s x1->σ 4=.b x2->K x0 x1 x2->Q .ret σ st
section
variable {PG:Za}{d:Nat}{Q:AE->Sl->St->Prop}{K:BS->BS->Bool->Prop}(hQ:Gt Q K){σ:Sl}{st:St}
include hQ
end
abbrev Ta (Q:AE->Sl->St->Prop)(K:BS->Prop):Prop:=∀(σ:Sl)(st:St)(x0:BS),σ 2=.s x0->K x0->Q .ret σ st
section
variable {PG:Za}{d:Nat}{Q:AE->Sl->St->Prop}{K:BS->Prop}(hQ:Ta Q K){σ:Sl}{st:St}
include hQ
end
abbrev Up (Q:AE->Sl->St->Prop)(K:Int->Prop):Prop:=∀(σ:Sl)(st:St)(x0:Int),σ 4=.i .i64 x0->K x0->Q .ret σ st
section
variable {PG:Za}{d:Nat}{Q:AE->Sl->St->Prop}{K:Int->Prop}(hQ:Up Q K){σ:Sl}{st:St}
include hQ
end
end Go.AM

/- Yf of the proof. -/
namespace Go.AM
open Go
set_option linter.unusedVariables false
set_option linter.unusedSimpArgs false
set_option maxRecDepth 4000
set_option maxHeartbeats 2000000
attribute [local irreducible] Decidable.decide W WO Wq Ws
def Ztr:List AI:=[oY 1 5 0,oC 2 (.b false)]
def Yi2:List AI:=[oK 3 5 1,oO 4 (.call false 102 [(.t 3),(.c (.i .i64 14))]),oM 5 4,gF 5 (oK 6 5 1),gF 5 (oQ 7 103 [6]),gF 5 (oV 8 .gtr 7 400),oR 9 5 8,oM 2 9]
abbrev b71:AC:=(sR 0 Ztr (sR 1 Yi2 .ret))
def Zcp:AF:={ nt:=10,res:=[.tmp 2],body:=b71 }
def Zjk (PG:Za)(K:Bool->Prop)(v0:Zb):Prop:=
  ∃c,Ze PG 102 [v0.av,.i .i64 14] (.b c)/\(c=true->K true)/\(c=false->∃e,Ze PG 103 [v0.av] (.i .i64 e)/\K (decide (e>400)))
section
variable {PG:Za}{d:Nat}{Q:AE->Sl->St->Prop}{K:Bool->Prop}(hQ:H1 AV.b 2 Q K){σ:Sl}{st:St}
include hQ
variable {v0:Zb}
variable (H0:σ 0=v0.av)
include H0 in
theorem Xea (h:Zjk PG K v0):W PG d (sR 0 Ztr (sR 1 Yi2 .ret)) σ st Q:=
 au trivial
end
theorem p71 {PG:Za}(hf:PG.fn 71=some Zcp){v0:Zb}{K:Bool->Prop}(h:Zjk PG K v0) :∃res0:Bool,K res0/\Ze PG 71 [v0.av] (.b res0):=
 P1 hf J (Xea (h1 J fun _=>J) J h)
def Yan:List AI:=[oY 1 5 0,oC 2 (.s []),oI 3 0]
def Ylk:List AI:=[oK 7 5 1,oQ 8 76 [7],oM 4 8]
def Zy2:List AI:=[oM 9 4,oV 10 .neq 9 0]
def Zzq:List AI:=[oM 11 4,oC 2 (.s []),oM 3 11]
def Zzz:List AI:=[oO 5 (.alloc [.np,.sl .full []])]
def Ylv:List AI:=[oK 12 5 1,oO 13 (.call true 104 [(.t 5),(.t 12)]),oM 6 13]
def Zza:List AI:=[oM 14 6,oV 15 .neq 14 0]
def Zss:List AI:=[oM 16 6,oC 2 (.s []),oM 3 16]
def Ykv:List AI:=[oO 17 (.call true 105 [(.t 5)]),oM 2 17,oI 3 0]
abbrev b72:AC:=(sR 0 Yan (.seq (sR 1 Ylk (sR 2 Zy2 (.cond (.t 10) (sR 3 Zzq .ret) .skip))) (sR 1000004 Zzz (.seq (sR 5 Ylv (sR 6 Zza (.cond (.t 15) (sR 7 Zss .ret) .skip))) (sR 8 Ykv .ret)))))
def Zb4:AF:={ nt:=18,res:=[.tmp 2,.tmp 3],body:=b72 }
def Zq0 (PG:Za)(K:BS->Int->Prop)(v0:Zb):Prop:=
  ∃c,Ze PG 76 [v0.av] (.i .i64 c)/\(c≠0->K ([]:BS) c)/\(¬(c≠0)->∃e,∃j:BS,Yp PG 104 (Bl ([]:BS)) [v0.av] (fun r=>r=.i .i64 e) ((Bl j))/\(e≠0->K ([]:BS) e)/\(¬(e≠0)->∃k,Yp PG 105 (Bl j) [] (fun r=>r=.s k) (fun _ _ _ _=>True)/\K k 0))
section
variable {PG:Za}{d:Nat}{Q:AE->Sl->St->Prop}{K:BS->Int->Prop}(hQ:H2 AV.s (AV.i .i64) 2 3 Q K){σ:Sl}{st:St}
include hQ
variable {v0:Zb}
variable (H0:σ 0=v0.av)
include H0 in
theorem Xxe (h:Zq0 PG K v0):W PG d (sR 0 Yan (.seq (sR 1 Ylk (sR 2 Zy2 (.cond (.t 10) (sR 3 Zzq .ret) .skip))) (sR 1000004 Zzz (.seq (sR 5 Ylv (sR 6 Zza (.cond (.t 15) (sR 7 Zss .ret) .skip))) (sR 8 Ykv .ret))))) σ st Q:=
 q_ J (Vs H0 J (m_ (m_ (e_ (Zm (q_ J (l_ J Zi J J (h.elim fun _ e=>Yg (Wm J J) e.1 (m_ (e_ (q_ J (m_ (b_ J J Vd (e_ (Yk J (fun j=>q_ J (m_ (m_ (m_ (Zp (hQ J J (e.2.1 j))))))) (fun j=>Yd (Zm (W.regB J (fun _ _ _ q r=>Zm (q_ J (l_ J ((r (d,0) (Wc J)).trans Zi) J J ((e.2.2 j).elim fun _ o=>o.elim fun _ c=>Wa (Zy J (Zy J Yn)) c.1 (Nat.lt_succ_self d) q (fun _ p _=>m_ (e_ (q_ J (m_ (b_ J J Vd (e_ (Yk J (fun i=>q_ J (m_ (m_ (m_ (Zp (hQ J J (c.2.1 i))))))) (fun i=>Yd (q_ J ((c.2.2 i).elim fun _ k=>Wa (Zy J Yn) k.1 (Nat.lt_succ_self d) p (fun _ _ _=>m_ (m_ (Zp (hQ J J k.2))))))))))))))))))))))))))))))))))))
end
theorem p72 {PG:Za}(hf:PG.fn 72=some Zb4){v0:Zb}{K:BS->Int->Prop}(h:Zq0 PG K v0) :∃res0:BS,∃res1:Int,K res0 res1/\Ze PG 72 [v0.av] (.tup [.s res0,.i .i64 res1]):=
 P2 hf J (Xxe (h2 J fun _ _=>J) J h)
abbrev H73 (Q:AE->Sl->St->Prop)(K:BS->Int->Prop):Prop:=∀(σ:Sl)(st:St)(res0:BS)(res1:Int),σ 2=.s res0->σ 3=.i .i64 res1->K res0 res1->Q .ret σ st
section
variable {PG:Za}{d:Nat}{Q:AE->Sl->St->Prop}{K:BS->Int->Prop}(hQ:H73 Q K){σ:Sl}{st:St}
include hQ
end
def Yk4:List AI:=[oY 1 5 0,oI 2 0]
def Ygj:List AI:=[oK 6 5 1,oO 7 (.call false 109 [(.t 6),(.c (.i .i64 130))]),oM 5 7,oE 8 0 5,oE 9 1 5,oM 3 8,oM 4 9]
def Ydj:List AI:=[oM 10 4,oZ 11 10]
def Yau:List AI:=[oI 2 8]
def Yb0:List AI:=[oI 2 0]
abbrev b76:AC:=(sR 0 Yk4 (.seq (sR 1 Ygj (sR 2 Ydj (.cond (.t 11) (sR 3 Yau .ret) .skip))) (sR 4 Yb0 .ret)))
def Zdn:AF:={ nt:=12,res:=[.tmp 2],body:=b76 }
def Zic (PG:Za)(K:Int->Prop)(v0:Zb):Prop:=
  ∃e c,Ze PG 109 [v0.av,.i .i64 130] (.tup [.i .i64 e,.b c])/\((!c)=true->K 8)/\((!c)=false->K 0)
section
variable {PG:Za}{d:Nat}{Q:AE->Sl->St->Prop}{K:Int->Prop}(hQ:H1 (AV.i .i64) 2 Q K){σ:Sl}{st:St}
include hQ
variable {v0:Zb}
variable (H0:σ 0=v0.av)
include H0 in
theorem Xp8 (h:Zic PG K v0):W PG d (sR 0 Yk4 (.seq (sR 1 Ygj (sR 2 Ydj (.cond (.t 11) (sR 3 Yau .ret) .skip))) (sR 4 Yb0 .ret))) σ st Q:=
 au trivial
end
theorem p76 {PG:Za}(hf:PG.fn 76=some Zdn){v0:Zb}{K:Int->Prop}(h:Zic PG K v0) :∃res0:Int,K res0/\Ze PG 76 [v0.av] (.i .i64 res0):=
 P1 hf J (Xp8 (h1 J fun _=>J) J h)
abbrev H77 (Q:AE->Sl->St->Prop)(K:Int->Prop):Prop:=∀(σ:Sl)(st:St)(res0:Int),σ 2=.i .i64 res0->K res0->Q .ret σ st
section
variable {PG:Za}{d:Nat}{Q:AE->Sl->St->Prop}{K:Int->Prop}(hQ:H77 Q K){σ:Sl}{st:St}
include hQ
end
def Zsh:List AI:=[oY 2 5 0,oC 4 (.b false)]
def Zti:List AI:=[oM 6 1,oV 7 .eql 6 0,oM 8 7,gF 8 (oF 9 2 2),gF 8 (oL 10 9),gF 8 (oH 11 10),gF 8 (oV 12 .gtr 11 100),oR 13 8 12,oM 14 13,gF 14 (oF 15 3 2),gF 14 (oL 16 15),gF 14 (oJ 17 16),gF 14 (oV 18 .gtr 17 400),oR 19 14 18]
def Zvn:List AI:=[oC 4 (.b true)]
def Ykr:List AI:=[oI 5 0]
def Xb7:List AI:=[oM 20 5,oF 21 3 2,oL 22 21,oJ 23 22,oT 24 .lss 20 23]
def Yn3:List AI:=[oF 27 3 2,oL 28 27,oM 29 5,oX 30 5 28 29,oK 31 5 30,oM 32 1,oV 33 .sub 32 1,oQ 34 102 [31,33]]
def Xr2:List AI:=[oC 4 (.b true)]
def Xn3:List AI:=[oM 25 5,oV 26 .add 25 1,oM 5 26]
def Whs:List AI:=[oC 4 (.b false)]
abbrev Ok:AC:=(.seq (sR 4 Xb7 (.cond (.t 24) .skip (.exit 0))) (.seq (.block 1 (sR 6 Yn3 (.cond (.t 34) (sR 7 Xr2 .ret) .skip))) (.reg 5 Xn3)))
abbrev Iw:AC:=(sR 8 Whs .ret)
abbrev Xhs:AC:=(sR 0 Zsh (.seq (sR 1 Zti (.cond (.t 19) (sR 2 Zvn .ret) .skip)) (.seq (sR 3 Ykr (.block 0 (.loop Ok))) Iw)))
def Zfe:AF:={ nt:=35,res:=[.tmp 4],body:=Xhs }
abbrev Zt3 (PG:Za)(d:Nat)(Q:AE->Sl->St->Prop)(most1:Int)(i5:Int)(m0:Zb):Prop:=
  ∀(σ:Sl)(st:St)(v0:Nat),σ 1=.i .i64 most1->σ 2=.p (d,0) v0 0->σ 5=.i .i64 i5->lk st.bx (d,0)=some (v0,Zb.cs m0)->W PG d (.loop Ok) σ st (Ya 0 (Zs PG d Iw Q))
def Zqz (PG:Za)(K:Bool->Prop) :Prop:=
  K false
def Zd4 (PG:Za)(K:Bool->Prop)(P0:Int->Zb->Prop)(most1:Int)(i5:Int)(m0:Zb):Prop:=
  (i5<(m0.list.length:Int)->0<=i5/\∃e:Zb,m0.list[(i5).toNat]?=some e/\∃c,Ze PG 102 [e.av,.i .i64 (IntKind.i64.wrap (most1-1))] (.b c)/\(c=true->K true)/\(c=false->P0 (IntKind.i64.wrap (i5+1)) m0))/\(¬(i5<(m0.list.length:Int))->Zqz PG K )
def Zfi (PG:Za)(K:Bool->Prop)(v0:Zb)(most1:Int):Prop:=
  (most1=0->K true)/\(¬(most1=0)->((v0.text.length:Int)>100->K true)/\(¬((v0.text.length:Int)>100)->((v0.list.length:Int)>400->K true)/\(¬((v0.list.length:Int)>400)->∀P0:Int->Zb->Prop,(∀(i5:Int)(m0:Zb),Zd4 PG K P0 most1 i5 m0->P0 i5 m0)->P0 0 v0)))
section
variable {PG:Za}{d:Nat}{Q:AE->Sl->St->Prop}{K:Bool->Prop}(hQ:H1 AV.b 4 Q K){σ:Sl}{st:St}
include hQ
variable {most1 i5:Int}{m0:Zb}{P0:Int->Zb->Prop}{v0:Nat}
variable (kP0 :∀(i5:Int)(m0:Zb),P0 i5 m0->Zt3 PG d Q most1 i5 m0)(H1:σ 1=.i .i64 most1)(H2:σ 2=.p (d,0) v0 0)(H5:σ 5=.i .i64 i5)(B0:lk st.bx (d,0)=some (v0,Zb.cs m0))
theorem Xnd (h:Zqz PG K ):W PG d Iw σ st Q:=
 au trivial
include kP0 H1 H2 H5 B0 in
theorem Xw8 (h:Zd4 PG K P0 most1 i5 m0):W PG d Ok σ st (Zs PG d (.loop Ok) (Ya 0 (Zs PG d Iw Q))):=
 au @Xnd
theorem Xfs {v0:Zb}{most1:Int}(H0:σ 0=v0.av)(H1:σ 1=.i .i64 most1)(h:Zfi PG K v0 most1):W PG d (sR 0 Zsh (.seq (sR 1 Zti (.cond (.t 19) (sR 2 Zvn .ret) .skip)) (.seq (sR 3 Ykr (.block 0 (.loop Ok))) Iw))) σ st Q:=
 q_ J (Vs H0 J (m_ (e_ (Zm (q_ J (Xh H1 (b_ J J Xk (Yt J (Yq (g:=8) J (fun c=>z_ 11 J (e_ (Yr J (q_ J (m_ (Zp (hQ J (h.1 c)))))))) (fun c=>Zd J (f_ J (Zd J (l_ J Zi J J (Zd J (Hf J (Zd J (b_ J J Vz (z_ 2 J (Yq (g:=14) J (fun e=>z_ 5 J (e_ (Yr J (q_ J (m_ (Zp (hQ J ((h.2 c).1 e)))))))) (fun e=>Zd J (f_ J (Zd J (l_ J Zi J J (Zd J (Xc J (Zd J (b_ J J Vz (Vp J J (e_ (Yk J (fun i=>q_ J (m_ (Zp (hQ J (((h.2 c).2 e).1 i))))) (fun i=>Yd (Zm (q_ J (m_ (e_ (Yj ((((h.2 c).2 e).2 i) (Zt3 PG d Q most1) (fun _ _ hb _ _ _ H1 H2 H5 B0=>W.loop (Xw8 hQ (fun _ _ x=>x) H1 H2 H5 B0 hb)) _ _ _ H1 J J Zi)))))))))))))))))))))))))))))))))))))
end
theorem Zvy {PG:Za}(hf:PG.fn 102=some Zfe){v0:Zb}{most1:Int}{K:Bool->Prop}(h:Zfi PG K v0 most1) :∃res0:Bool,K res0/\Ze PG 102 [v0.av,.i .i64 most1] (.b res0):=
 P1 hf J (Xfs (h1 J fun _=>J) J J h)
def Yhr:List AI:=[oY 1 5 0,oI 2 0]
def Zyd:List AI:=[oI 3 1]
def Zvz:List AI:=[oI 4 0]
def Xqg:List AI:=[oM 5 4,oF 6 3 1,oL 7 6,oJ 8 7,oT 9 .lss 5 8,oM 10 9,gT 10 (oM 11 3),gT 10 (oV 12 .leq 11 5000),oA 13 10 12]
def Wat:List AI:=[oM 16 3,oF 17 3 1,oL 18 17,oM 19 4,oX 20 5 18 19,oK 21 5 20,oQ 22 103 [21],oT 23 .add 16 22,oM 3 23]
def Xed:List AI:=[oM 14 4,oV 15 .add 14 1,oM 4 15]
def Xoz:List AI:=[oM 24 3,oM 2 24]
abbrev Za3:AC:=(.seq (sR 3 Xqg (.cond (.t 13) .skip (.exit 0))) (.seq (.block 1 (.reg 5 Wat)) (.reg 4 Xed)))
abbrev Za6:AC:=(sR 6 Xoz .ret)
abbrev Xjt:AC:=(sR 0 Yhr (sR 1 Zyd (.seq (sR 2 Zvz (.block 0 (.loop Za3))) Za6)))
def Zek:AF:={ nt:=25,res:=[.tmp 2],body:=Xjt }
abbrev Zsz (PG:Za)(d:Nat)(Q:AE->Sl->St->Prop)(n3:Int)(i4:Int)(m0:Zb):Prop:=
  ∀(σ:Sl)(st:St)(v0:Nat),σ 1=.p (d,0) v0 0->σ 3=.i .i64 n3->σ 4=.i .i64 i4->lk st.bx (d,0)=some (v0,Zb.cs m0)->W PG d (.loop Za3) σ st (Ya 0 (Zs PG d Za6 Q))
def En (PG:Za)(K:Int->Prop)(n3:Int):Prop:=
  K n3
def Zgq (PG:Za)(K:Int->Prop)(P0:Int->Int->Zb->Prop)(n3:Int)(i4:Int)(m0:Zb):Prop:=
  (i4<(m0.list.length:Int)->(n3<=5000->0<=i4/\∃c:Zb,m0.list[(i4).toNat]?=some c/\∃e,Ze PG 103 [c.av] (.i .i64 e)/\P0 (IntKind.i64.wrap (n3+e)) (IntKind.i64.wrap (i4+1)) m0)/\(¬(n3<=5000)->En PG K n3))/\(¬(i4<(m0.list.length:Int))->En PG K n3)
def Zlf (PG:Za)(K:Int->Prop)(v0:Zb):Prop:=
  ∀P0:Int->Int->Zb->Prop,(∀(n3:Int)(i4:Int)(m0:Zb),Zgq PG K P0 n3 i4 m0->P0 n3 i4 m0)->P0 1 0 v0
section
variable {PG:Za}{d:Nat}{Q:AE->Sl->St->Prop}{K:Int->Prop}(hQ:H1 (AV.i .i64) 2 Q K){σ:Sl}{st:St}
include hQ
variable {n3 i4:Int}{m0:Zb}{P0:Int->Int->Zb->Prop}{v0:Nat}
variable (kP0 :∀(n3:Int)(i4:Int)(m0:Zb),P0 n3 i4 m0->Zsz PG d Q n3 i4 m0)(H1:σ 1=.p (d,0) v0 0)(H3:σ 3=.i .i64 n3)(H4:σ 4=.i .i64 i4)(B0:lk st.bx (d,0)=some (v0,Zb.cs m0))
include H3 in
theorem Xof (h:En PG K n3):W PG d Za6 σ st Q:=
 au trivial
include kP0 H1 H3 H4 B0 in
theorem Xz9 (h:Zgq PG K P0 n3 i4 m0):W PG d Za3 σ st (Zs PG d (.loop Za3) (Ya 0 (Zs PG d Za6 Q))):=
 au @Xof
theorem Xj5 {v0:Zb}(H0:σ 0=v0.av)(h:Zlf PG K v0):W PG d (sR 0 Yhr (sR 1 Zyd (.seq (sR 2 Zvz (.block 0 (.loop Za3))) Za6))) σ st Q:=
 q_ J (Vs H0 J (m_ (e_ (q_ J (m_ (e_ (Zm (q_ J (m_ (e_ (Yj (h (Zsz PG d Q ) (fun _ _ _ hb _ _ _ H1 H3 H4 B0=>W.loop (Xz9 hQ (fun _ _ _ x=>x) H1 H3 H4 B0 hb)) _ _ _ J J J Zi))))))))))))
end
theorem Xqv {PG:Za}(hf:PG.fn 103=some Zek){v0:Zb}{K:Int->Prop}(h:Zlf PG K v0) :∃res0:Int,K res0/\Ze PG 103 [v0.av] (.i .i64 res0):=
 P1 hf J (Xj5 (h1 J fun _=>J) J h)
def Yaa:List AI:=[oY 3 5 1,oI 4 0]
def Xhl:List AI:=[oO 11 (.build [zs,zs,zs,zs,zs,zs,zs,zs] [(5,1,(.c (.s [123,125]))),(6,1,(.c (.s [91,93]))),(7,1,(.c (.s [60,62])))]),oF 12 0 3,oL 13 12,oO 14 (.ixA 8 1 false (.t 11) (.t 13)),oM 5 14]
def Wcl:List AI:=[oF 43 0 3,oL 44 43,oW 45 .eql 44 1,oM 46 45,gT 46 (oF 47 1 3),gT 46 (oL 48 47),gT 46 (oV 49 .eql 48 1),oA 50 46 49,oM 42 50]
def Xik:List AI:=[oM 51 0,oO 52 (.call true 126 [(.t 51),(.c (.s [116,114,117,101]))])]
def Xx6:List AI:=[oF 54 0 3,oL 55 54,oW 56 .eql 55 1,oM 53 56]
def Xc3:List AI:=[oM 57 0,oO 58 (.call true 126 [(.t 57),(.c (.s [102,97,108,115,101]))])]
def Xbk:List AI:=[oF 60 0 3,oL 61 60,oW 62 .eql 61 2,oM 59 62]
def Xw1:List AI:=[oM 63 0,oF 64 1 3,oL 65 64,oQ 66 15 [65],oO 67 (.call true 126 [(.t 63),(.t 66)])]
def Yny:List AI:=[oF 69 0 3,oL 70 69,oW 71 .eql 70 3,oM 68 71]
def Yw1:List AI:=[oF 73 2 3,oL 74 73,oQ 75 11 [74],oM 72 75,oE 76 0 72,oE 77 1 72,oM 6 76,oM 7 77]
def Yvs:List AI:=[oM 78 0,oM 79 6,oO 80 (.call true 126 [(.t 78),(.t 79)])]
def Yvh:List AI:=[oM 81 7,oM 4 81]
def Xrl:List AI:=[oF 83 0 3,oL 84 83,oW 85 .eql 84 4,oM 86 85,gT 86 (oF 87 4 3),gT 86 (oL 88 87),oA 89 86 88,oM 82 89]
def Ysl:List AI:=[oM 90 0,oO 91 (.call true 126 [(.t 90),(.c (.s [38,46,46,46]))])]
def Xmx:List AI:=[oF 93 0 3,oL 94 93,oW 95 .eql 94 4,oM 96 95,gT 96 (oF 97 3 3),gT 96 (oL 98 97),gT 96 (oJ 99 98),gT 96 (oV 100 .eql 99 0),oA 101 96 100,oM 92 101]
def You:List AI:=[oM 102 0,oO 103 (.call true 126 [(.t 102),(.c (.s [110,105,108]))])]
def Xz6:List AI:=[oF 105 0 3,oL 106 105,oW 107 .eql 106 4,oM 104 107]
def Xga:List AI:=[oM 108 0,oO 109 (.call true 126 [(.t 108),(.c (.s [38]))])]
def Xka:List AI:=[oM 110 0,oF 111 3 3,oL 112 111,oO 113 (.iaL 5 (.t 112) (.c (.i .i64 0))),oK 114 5 113,oO 115 (.call true 104 [(.t 110),(.t 114)]),oM 4 115]
def Yxm:List AI:=[oF 117 4 3,oL 118 117,oM 116 118]
def Ywp:List AI:=[oM 119 0,oO 120 (.call true 126 [(.t 119),(.c (.s [60,46,46,46,62]))])]
def Wfv:List AI:=[oM 15 0,oM 16 5,oO 17 (.slS (.t 16) none (some (.c (.i .i64 1)))),oO 18 (.call true 126 [(.t 15),(.t 17)])]
def Xes:List AI:=[oF 19 3 3,oL 20 19,oJ 21 20,oI 22 0]
def Xeu:List AI:=[oT 23 .lss 22 21]
def Yva:List AI:=[oM 24 22,oX 25 5 20 22,oK 26 5 25,oO 9 (.alloc [z8,z6,zs,zl,zb]),oM 8 24,oS 5 9 26]
def Yqm:List AI:=[oM 27 8,oV 28 .gtr 27 0]
def Xtf:List AI:=[oM 29 0,oO 30 (.call true 126 [(.t 29),(.c (.s [44,32]))])]
def Ys5:List AI:=[oM 31 0,oK 32 5 9,oO 33 (.call true 104 [(.t 31),(.t 32)]),oM 10 33]
def Xqh:List AI:=[oM 34 10,oV 35 .neq 34 0]
def Yyk:List AI:=[oM 36 10,oM 4 36]
def Ye5:List AI:=[oV 37 .add 22 1,oM 22 37]
def Wbr:List AI:=[oM 38 0,oM 39 5,oO 40 (.slS (.t 39) (some (.c (.i .i64 1))) none),oO 41 (.call true 126 [(.t 38),(.t 40)])]
def Xw7:List AI:=[oI 4 0]
abbrev Ygi:AC:=(sR 8 Ys5 (sR 9 Xqh (.cond (.t 35) (sR 10 Yyk .ret) .skip)))
abbrev Zah:AC:=(sR 4 Xeu (.seq (.cond (.t 23) .skip (.exit 1)) (.seq (.block 2 (sR 5 Yva (.seq (sR 6 Yqm (.cond (.t 28) (.reg 7 Xtf) .skip)) Ygi))) (.reg 11 Ye5))))
abbrev Zav:AC:=(.reg 12 Wbr)
abbrev Yha:AC:=(.cond (.t 82) (.reg 24 Ysl) (sR 25 Xmx (.cond (.t 92) (.reg 26 You) (sR 27 Xz6 (.cond (.t 104) (sR 28 Xga (sR 29 Xka .ret)) (sR 30 Yxm (.cond (.t 116) (.reg 31 Ywp) (sR 2 Wfv (.seq (sR 3 Xes (.block 1 (.loop Zah))) Zav)))))))))
abbrev Ygs:AC:=(.cond (.t 68) (sR 20 Yw1 (sR 21 Yvs (sR 22 Yvh .ret))) (sR 23 Xrl Yha))
abbrev Yi0:AC:=(.cond (.t 59) (.reg 18 Xw1) (sR 19 Yny Ygs))
abbrev Zz7:AC:=(.cond (.t 53) (.reg 16 Xc3) (sR 17 Xbk Yi0))
abbrev Yge:AC:=(.cond (.t 42) (.reg 14 Xik) (sR 15 Xx6 Zz7))
abbrev Dy:AC:=(sR 32 Xw7 .ret)
abbrev Zy6:AC:=(.seq (.block 0 (sR 13 Wcl Yge)) Dy)
abbrev Znm:AC:=(sR 1 Xhl Zy6)
abbrev Wci:AC:=(sR 0 Yaa Znm)
def Pf:AF:={ nt:=121,res:=[.tmp 4],body:=Wci }
abbrev Yp8 (d:Nat)(Zj:St)(kp:Zo)(vp:Nat)(Q:AE->Sl->St->Prop)(K:Int->BS->Prop):Prop:=∀(σ:Sl)(st:St)(res0:Int)(b_:BS),σ 4=.i .i64 res0->Bl b_ st.bx st.ow kp vp->Fr d kp Zj.bx Zj.ow st.bx st.ow->K res0 b_->Q .ret σ st
def Dg (PG:Za)(K:Int->BS->Prop)(mP:BS):Prop:=
  K 0 mP
abbrev Zp1 (PG:Za)(d:Nat)(Q:AE->Sl->St->Prop)(Zj:St)(kp:Zo)(vp:Nat)(ends5:BS)(t20:List Zb)(t21:Int)(t22:Int)(mP:BS):Prop:=
  ∀(σ:Sl)(st:St)(o_t20:Zl),σ 0=.p kp vp 0->σ 5=.s ends5->σ 20=.sl o_t20 (List.map Zb.row t20)->σ 21=.i .i64 t21->σ 22=.i .i64 t22->Bl mP st.bx st.ow kp vp->Fr d kp Zj.bx Zj.ow st.bx st.ow->W PG d (.loop Zah) σ st (Ya 1 (Zs PG d Zav (Ya 0 (Zs PG d Dy Q))))
def Zby (PG:Za)(K:Int->BS->Prop)(P0:Int->BS->Prop)(ends5:BS)(t20:List Zb)(t21:Int)(t22:Int)(m20483:Zb)(mP:BS):Prop:=
  ∃c,∃e:BS,Yp PG 104 (Bl mP) [m20483.av] (fun r=>r=.i .i64 c) ((Bl e))/\(c≠0->K c e)/\(¬(c≠0)->P0 (IntKind.i64.wrap (t22+1)) e)
def Zj8 (PG:Za)(K:Int->BS->Prop)(ends5:BS)(mP:BS):Prop:=
  1<=ends5.length/\∃e,∃c:BS,Yp PG 126 (Bl mP) [.s (ends5.drop 1)] (fun r=>r=.tup [.i .i64 e,.ni]) ((Bl c))/\Dg PG K c
def Pp (PG:Za)(K:Int->BS->Prop)(P0:Int->BS->Prop)(ends5:BS)(t20:List Zb)(t21:Int)(t22:Int)(mP:BS):Prop:=
  (t22<t21->0<=t22/\∃c,t20[(t22).toNat]?=some c/\(t22>0->∃j,∃e:BS,Yp PG 126 (Bl mP) [.s ([44,32]:BS)] (fun r=>r=.tup [.i .i64 j,.ni]) ((Bl e))/\Zby PG K P0 ends5 t20 t21 t22 c e)/\(¬(t22>0)->Zby PG K P0 ends5 t20 t21 t22 c mP))/\(¬(t22<t21)->Zj8 PG K ends5 mP)
def Sd (PG:Za)(K:Int->BS->Prop)(ends5:BS)(t82:Bool)(m0:Zb)(mP:BS):Prop:=
  (t82=true->∃e,∃c:BS,Yp PG 126 (Bl mP) [.s ([38,46,46,46]:BS)] (fun r=>r=.tup [.i .i64 e,.ni]) ((Bl c))/\Dg PG K c)/\(t82=false->(m0.kind=4->((m0.list.length:Int)=0->∃a6,∃j:BS,Yp PG 126 (Bl mP) [.s ([110,105,108]:BS)] (fun r=>r=.tup [.i .i64 a6,.ni]) ((Bl j))/\Dg PG K j)/\(¬((m0.list.length:Int)=0)->(m0.kind=4->∃a2,∃o:BS,Yp PG 126 (Bl mP) [.s ([38]:BS)] (fun r=>r=.tup [.i .i64 a2,.ni]) ((Bl o))/\∃q:Zb,m0.list[0]?=some q/\∃z,∃p:BS,Yp PG 104 (Bl o) [q.av] (fun r=>r=.i .i64 z) ((Bl p))/\K z p)/\(¬(m0.kind=4)->(m0.cut=true->∃a4,∃a0:BS,Yp PG 126 (Bl mP) [.s ([60,46,46,46,62]:BS)] (fun r=>r=.tup [.i .i64 a4,.ni]) ((Bl a0))/\Dg PG K a0)/\(m0.cut=false->1<=ends5.length/\∃a8,∃v:BS,Yp PG 126 (Bl mP) [.s (ends5.take 1)] (fun r=>r=.tup [.i .i64 a8,.ni]) ((Bl v))/\∀P0:Int->BS->Prop,(∀(t22:Int)(mP:BS),Pp PG K P0 ends5 m0.list (m0.list.length:Int) t22 mP->P0 t22 mP)->P0 0 v))))/\(¬(m0.kind=4)->(m0.kind=4->∃a5,∃x:BS,Yp PG 126 (Bl mP) [.s ([38]:BS)] (fun r=>r=.tup [.i .i64 a5,.ni]) ((Bl x))/\∃w:Zb,m0.list[0]?=some w/\∃k,∃a1:BS,Yp PG 104 (Bl x) [w.av] (fun r=>r=.i .i64 k) ((Bl a1))/\K k a1)/\(¬(m0.kind=4)->(m0.cut=true->∃a3,∃u:BS,Yp PG 126 (Bl mP) [.s ([60,46,46,46,62]:BS)] (fun r=>r=.tup [.i .i64 a3,.ni]) ((Bl u))/\Dg PG K u)/\(m0.cut=false->1<=ends5.length/\∃a7,∃y:BS,Yp PG 126 (Bl mP) [.s (ends5.take 1)] (fun r=>r=.tup [.i .i64 a7,.ni]) ((Bl y))/\∀P0:Int->BS->Prop,(∀(t22:Int)(mP:BS),Pp PG K P0 ends5 m0.list (m0.list.length:Int) t22 mP->P0 t22 mP)->P0 0 y))))
def Sg (PG:Za)(K:Int->BS->Prop)(ends5:BS)(t68:Bool)(m0:Zb)(mP:BS):Prop:=
  (t68=true->∃e c,Ze PG 11 [.s m0.text] (.tup [.s e,.i .i64 c])/\∃k,∃j:BS,Yp PG 126 (Bl mP) [.s e] (fun r=>r=.tup [.i .i64 k,.ni]) ((Bl j))/\K c j)/\(t68=false->(m0.kind=4->Sd PG K ends5 m0.cut m0 mP)/\(¬(m0.kind=4)->Sd PG K ends5 false m0 mP))
def Rc (PG:Za)(K:Int->BS->Prop)(ends5:BS)(t59:Bool)(m0:Zb)(mP:BS):Prop:=
  (t59=true->∃e,Ze PG 15 [.i .i64 m0.int] (.s e)/\∃j,∃c:BS,Yp PG 126 (Bl mP) [.s e] (fun r=>r=.tup [.i .i64 j,.ni]) ((Bl c))/\Dg PG K c)/\(t59=false->Sg PG K ends5 (decide (m0.kind=3)) m0 mP)
def Nc (PG:Za)(K:Int->BS->Prop)(ends5:BS)(t53:Bool)(m0:Zb)(mP:BS):Prop:=
  (t53=true->∃e,∃c:BS,Yp PG 126 (Bl mP) [.s ([102,97,108,115,101]:BS)] (fun r=>r=.tup [.i .i64 e,.ni]) ((Bl c))/\Dg PG K c)/\(t53=false->Rc PG K ends5 (decide (m0.kind=2)) m0 mP)
def Bn (PG:Za)(K:Int->BS->Prop)(ends5:BS)(t42:Bool)(m0:Zb)(mP:BS):Prop:=
  (t42=true->∃e,∃c:BS,Yp PG 126 (Bl mP) [.s ([116,114,117,101]:BS)] (fun r=>r=.tup [.i .i64 e,.ni]) ((Bl c))/\Dg PG K c)/\(t42=false->Nc PG K ends5 (decide (m0.kind=1)) m0 mP)
def Nl (PG:Za)(K:Int->BS->Prop)(ends5:BS)(m0:Zb)(mP:BS):Prop:=
  (m0.kind=1->Bn PG K ends5 (decide (m0.int=1)) m0 mP)/\(¬(m0.kind=1)->Bn PG K ends5 false m0 mP)
def Zs0 (PG:Za)(K:Int->BS->Prop)(m0:Zb)(mP:BS):Prop:=
  0<=m0.kind/\∃c,([[],[],[],[],[],([123,125]:BS),([91,93]:BS),([60,62]:BS)]:LB)[(m0.kind).toNat]?=some c/\Nl PG K c m0 mP
def Zrq (PG:Za)(K:Int->BS->Prop)(v1:Zb)(mP:BS):Prop:=
  Zs0 PG K v1 mP
section
variable {PG:Za}{d:Nat}{Q:AE->Sl->St->Prop}{K:Int->BS->Prop}{Zj:St}{kp:Zo}{vp:Nat}(hQ:Yp8 d Zj kp vp Q K)(hkp:kp.1<d){σ:Sl}{st:St}
include hQ hkp
variable {mP ends5:BS}{t20:List Zb}{t21 t22:Int}{m20483:Zb}{P0:Int->BS->Prop}{o_t20:Zl}{v20483:Nat}{t82:Bool}{m0:Zb}{v0:Nat}{t68 t59 t53 t42:Bool}{v1:Zb}
variable (kP0 :∀(t22:Int)(mP:BS),P0 t22 mP->Zp1 PG d Q Zj kp vp ends5 t20 t21 t22 mP)(H0:σ 0=.p kp vp 0)(H3:σ 3=.p (d,0) v0 0)(H1:σ 1=v1.av)(H5:σ 5=.s ends5)(H9:σ 9=.p (d,20483) v20483 0)(H82:σ 82=.b t82)(H68:σ 68=.b t68)(H59:σ 59=.b t59)(H53:σ 53=.b t53)(H42:σ 42=.b t42)(H20:σ 20=.sl o_t20 (List.map Zb.row t20))(B0:lk st.bx (d,0)=some (v0,Zb.cs m0))(H21:σ 21=.i .i64 t21)(Kl:σ 22=.i .i64 t22)(B20483:lk st.bx (d,20483)=some (v20483,Zb.cs m20483))(BP:Bl mP st.bx st.ow kp vp)(FR:Fr d kp Zj.bx Zj.ow st.bx st.ow)
include BP FR in
theorem Nv (h:Dg PG K mP):W PG d Dy σ st Q:=
 au trivial
include kP0 H0 H5 H9 H20 H21 Kl B20483 BP FR in
theorem Zwp (h:Zby PG K P0 ends5 t20 t21 t22 m20483 mP):W PG d Ygi σ st (Ya 2 (Zs PG d (.reg 11 Ye5) (Zs PG d (.loop Zah) (Ya 1 (Zs PG d Zav (Ya 0 (Zs PG d Dy Q))))))):=
 q_ J (m_ (l_ H9 B20483 J J (h.elim fun _ k=>k.elim fun _ c=>Wa (Zy H0 (Zy J Yn)) c.1 (Nat.lt_succ_of_lt hkp) BP (fun _ i j=>m_ (e_ (q_ J (m_ (b_ J J Vd (e_ (Yk J (fun e=>q_ J (m_ (m_ (Zp (hQ _ _ _ _ J i (Fr.pass FR j) (c.2.1 e)))))) (fun e=>Yd (W.reg0 J fun _ _=>b_ Kl J Jf (m_ (e_ (kP0 _ _ (c.2.2 e) _ _ _ H0 H5 H20 H21 J i (Fr.pass FR j))))))))))))))))
include H0 H5 BP FR in
theorem Ypo (h:Zj8 PG K ends5 mP):W PG d Zav σ st (Ya 0 (Zs PG d Dy Q)):=
 W.reg0 J fun _ _=>m_ (m_ (Gu H5 J (by decide) h.1 (h.2.elim fun _ e=>e.elim fun _ c=>Wa (Zy H0 (Zy J Yn)) c.1 (Nat.lt_succ_of_lt hkp) BP (fun _ i j=>e_ (Nv hQ hkp i (Fr.pass FR j) c.2)))))
include kP0 H0 H5 H20 H21 Kl BP FR in
theorem Ybc (h:Pp PG K P0 ends5 t20 t21 t22 mP):W PG d Zah σ st (Zs PG d (.loop Zah) (Ya 1 (Zs PG d Zav (Ya 0 (Zs PG d Dy Q))))):=
 q_ J (b_ Kl H21 Wx (e_ (Zm (Yk J (fun c=>Yd (Zm (Yj (Zm (W.reg (m_ ((h.1 c).2.elim fun p e=>Wz H20 Kl (h.1 c).1 e.1 (Zb.row_eq p) J (Xp J J J (Xs (m_ (Ye J (show lk _ (d,20483)=some (_,([.i .u8 0,.i .i64 0,.s [],.sl .full (List.map Zb.row ([]:List Zb)),.b false]:List AV)) from Zi) J J J (e_ (Zm (q_ J (m_ (b_ Kl J Vz (e_ (Yk J (fun j=>W.reg0 J fun _ _=>m_ ((e.2.1 j).elim fun _ q=>q.elim fun _ k=>Wa (Zy H0 (Zy J Yn)) k.1 (Nat.lt_succ_of_lt hkp) (Bl.other (Xi hkp) (Bl.other (Xi hkp) BP)) (fun _ r o=>e_ (Zwp hQ hkp kP0 H0 H5 J H20 H21 Kl ((o.1 (d,20483) (Nat.lt_succ_self d) (Xi hkp)).trans Zi) r (Fr.pass (Fr.box (Fr.box FR)) o) k.2)))) (fun j=>Yd (Zwp hQ hkp kP0 H0 H5 J H20 H21 Kl Zi (Bl.other (Xi hkp) (Bl.other (Xi hkp) BP)) (Fr.box (Fr.box FR)) (e.2.2 j))))))))))))))))))))) (fun c=>Vr (Ypo hQ hkp H0 H5 BP FR (h.2 c)))))))
include H0 H3 H5 H82 B0 BP FR in
theorem Zv6 (h:Sd PG K ends5 t82 m0 mP):W PG d Yha σ st (Ya 0 (Zs PG d Dy Q)):=
 Xl H82 (fun c=>W.reg0 J fun _ _=>m_ ((h.1 c).elim fun _ b8=>b8.elim fun _ v=>Wa (Zy H0 (Zy J Yn)) v.1 (Nat.lt_succ_of_lt hkp) BP (fun _ c5 d4=>e_ (Nv hQ hkp c5 (Fr.pass FR d4) v.2)))) (fun c=>q_ J (f_ H3 (l_ J B0 J J (b_ J J Xk (Yt J (Yq (g:=96) J (fun e=>Zd J (f_ H3 (Zd J (l_ J B0 J J (Zd J (Xc J (Zd J (b_ J J Xk (z_ 2 J (e_ (Yk J (fun i=>W.reg0 J fun _ _=>m_ ((((h.2 c).1 e).1 i).elim fun _ b0=>b0.elim fun _ q=>Wa (Zy H0 (Zy J Yn)) q.1 (Nat.lt_succ_of_lt hkp) BP (fun _ c0 d1=>e_ (Nv hQ hkp c0 (Fr.pass FR d1) q.2)))) (fun i=>q_ J (f_ H3 (l_ J B0 J J (b_ J J Xk (m_ (e_ (Yk J (fun j=>q_ J (m_ (((((h.2 c).1 e).2 i).1 j).elim fun _ b2=>b2.elim fun _ r=>Wa (Zy H0 (Zy J Yn)) r.1 (Nat.lt_succ_of_lt hkp) BP (fun _ c1 a4=>e_ (q_ J (m_ (f_ H3 (l_ J ((a4.1 (d,0) (Nat.lt_succ_self d) (Xi hkp)).trans B0) J J (r.2.elim fun a8 s=>Wz J J (by decide) s.1 (Zb.row_eq a8) J (Xp J J J (s.2.elim fun _ b1=>b1.elim fun _ u=>Wa (Zy H0 (Zy J Yn)) u.1 (Nat.lt_succ_of_lt hkp) c1 (fun _ c2 d2=>m_ (Zp (hQ _ _ _ _ J c2 (Fr.pass (Fr.pass FR a4) d2) u.2)))))))))))))) (fun j=>q_ J (f_ H3 (l_ J B0 J J (m_ (e_ (Xl J (fun o=>W.reg0 J fun _ _=>m_ ((((((h.2 c).1 e).2 i).2 j).1 o).elim fun _ b3=>b3.elim fun _ w=>Wa (Zy H0 (Zy J Yn)) w.1 (Nat.lt_succ_of_lt hkp) BP (fun _ c3 d3=>e_ (Nv hQ hkp c3 (Fr.pass FR d3) w.2)))) (fun o=>q_ J (m_ (m_ (Mn H5 J (by decide) (((((h.2 c).1 e).2 i).2 j).2 o).1 ((((((h.2 c).1 e).2 i).2 j).2 o).2.elim fun _ b4=>b4.elim fun _ y=>Wa (Zy H0 (Zy J Yn)) y.1 (Nat.lt_succ_of_lt hkp) BP (fun _ c4 a5=>e_ (Zm (q_ J (f_ H3 (l_ J ((a5.1 (d,0) (Nat.lt_succ_self d) (Xi hkp)).trans B0) J J (Xc J (m_ (e_ (Yj (y.2 (Zp1 PG d Q Zj kp vp ends5 m0.list (m0.list.length:Int)) (fun _ _ hb _ _ _ H0 H5 H20 H21 Kl BP FR=>W.loop (Ybc hQ hkp (fun _ _ x=>x) H0 H5 H20 H21 Kl BP FR hb)) _ _ _ H0 H5 J J J c4 (Fr.pass FR a5)))))))))))))))))))))))))))))))))))))))) (fun e=>z_ 6 J (e_ (Hy J (q_ J (f_ H3 (l_ J B0 J J (b_ J J Xk (m_ (e_ (Yk J (fun k=>q_ J (m_ ((((h.2 c).2 e).1 k).elim fun _ b6=>b6.elim fun _ z=>Wa (Zy H0 (Zy J Yn)) z.1 (Nat.lt_succ_of_lt hkp) BP (fun _ c6 a6=>e_ (q_ J (m_ (f_ H3 (l_ J ((a6.1 (d,0) (Nat.lt_succ_self d) (Xi hkp)).trans B0) J J (z.2.elim fun a9 a0=>Wz J J (by decide) a0.1 (Zb.row_eq a9) J (Xp J J J (a0.2.elim fun _ b5=>b5.elim fun _ a1=>Wa (Zy H0 (Zy J Yn)) a1.1 (Nat.lt_succ_of_lt hkp) c6 (fun _ c7 d5=>m_ (Zp (hQ _ _ _ _ J c7 (Fr.pass (Fr.pass FR a6) d5) a1.2)))))))))))))) (fun k=>q_ J (f_ H3 (l_ J B0 J J (m_ (e_ (Xl J (fun p=>W.reg0 J fun _ _=>m_ (((((h.2 c).2 e).2 k).1 p).elim fun _ b7=>b7.elim fun _ a2=>Wa (Zy H0 (Zy J Yn)) a2.1 (Nat.lt_succ_of_lt hkp) BP (fun _ c9 d6=>e_ (Nv hQ hkp c9 (Fr.pass FR d6) a2.2)))) (fun p=>q_ J (m_ (m_ (Mn H5 J (by decide) ((((h.2 c).2 e).2 k).2 p).1 (((((h.2 c).2 e).2 k).2 p).2.elim fun _ b9=>b9.elim fun _ a3=>Wa (Zy H0 (Zy J Yn)) a3.1 (Nat.lt_succ_of_lt hkp) BP (fun _ d0 a7=>e_ (Zm (q_ J (f_ H3 (l_ J ((a7.1 (d,0) (Nat.lt_succ_self d) (Xi hkp)).trans B0) J J (Xc J (m_ (e_ (Yj (a3.2 (Zp1 PG d Q Zj kp vp ends5 m0.list (m0.list.length:Int)) (fun _ _ hb _ _ _ H0 H5 H20 H21 Kl BP FR=>W.loop (Ybc hQ hkp (fun _ _ x=>x) H0 H5 H20 H21 Kl BP FR hb)) _ _ _ H0 H5 J J J d0 (Fr.pass FR a7))))))))))))))))))))))))))))))))))))))
include H0 H3 H5 H68 B0 BP FR in
theorem Ys3 (h:Sg PG K ends5 t68 m0 mP):W PG d Ygs σ st (Ya 0 (Zs PG d Dy Q)):=
 Xl H68 (fun c=>q_ J (f_ H3 (l_ J B0 J J (x2 (h.1 c) fun _ _ i=>Yg (Wm J J) i.1 (m_ (x_ J J (x_ J J (m_ (m_ (e_ (q_ J (m_ (m_ (i.2.elim fun _ k=>k.elim fun _ j=>Wa (Zy H0 (Zy J Yn)) j.1 (Nat.lt_succ_of_lt hkp) BP (fun _ o p=>e_ (q_ J (m_ (m_ (Zp (hQ _ _ _ _ J o (Fr.pass FR p) j.2)))))))))))))))))))) (fun c=>q_ J (f_ H3 (l_ J B0 J J (b_ J J Xk (Yt J (Yq (g:=86) J (fun e=>Zd J (f_ H3 (Zd J (l_ J B0 J J (z_ 2 J (e_ (Zv6 hQ hkp H0 H3 H5 J B0 BP FR ((h.2 c).1 e)))))))) (fun e=>z_ 4 J (e_ (Zv6 hQ hkp H0 H3 H5 J B0 BP FR ((h.2 c).2 e))))))))))
include H0 H3 H5 H59 B0 BP FR in
theorem Wee (h:Rc PG K ends5 t59 m0 mP):W PG d Yi0 σ st (Ya 0 (Zs PG d Dy Q)):=
 Xl H59 (fun c=>W.reg0 J fun _ _=>m_ (f_ H3 (l_ J B0 J J ((h.1 c).elim fun _ e=>Yg (Wm J J) e.1 (e.2.elim fun _ j=>j.elim fun _ i=>Wa (Zy H0 (Zy J Yn)) i.1 (Nat.lt_succ_of_lt hkp) BP (fun _ k o=>e_ (Nv hQ hkp k (Fr.pass FR o) i.2))))))) (fun c=>q_ J (f_ H3 (l_ J B0 J J (b_ J J Xk (m_ (e_ (Ys3 hQ hkp H0 H3 H5 J B0 BP FR (h.2 c))))))))
include H0 H3 H5 H53 B0 BP FR in
theorem Yxh (h:Nc PG K ends5 t53 m0 mP):W PG d Zz7 σ st (Ya 0 (Zs PG d Dy Q)):=
 Xl H53 (fun c=>W.reg0 J fun _ _=>m_ ((h.1 c).elim fun _ i=>i.elim fun _ e=>Wa (Zy H0 (Zy J Yn)) e.1 (Nat.lt_succ_of_lt hkp) BP (fun _ j k=>e_ (Nv hQ hkp j (Fr.pass FR k) e.2)))) (fun c=>q_ J (f_ H3 (l_ J B0 J J (b_ J J Xk (m_ (e_ (Wee hQ hkp H0 H3 H5 J B0 BP FR (h.2 c))))))))
include H0 H3 H5 H42 B0 BP FR in
theorem Zym (h:Bn PG K ends5 t42 m0 mP):W PG d Yge σ st (Ya 0 (Zs PG d Dy Q)):=
 Xl H42 (fun c=>W.reg0 J fun _ _=>m_ ((h.1 c).elim fun _ i=>i.elim fun _ e=>Wa (Zy H0 (Zy J Yn)) e.1 (Nat.lt_succ_of_lt hkp) BP (fun _ j k=>e_ (Nv hQ hkp j (Fr.pass FR k) e.2)))) (fun c=>q_ J (f_ H3 (l_ J B0 J J (b_ J J Xk (m_ (e_ (Yxh hQ hkp H0 H3 H5 J B0 BP FR (h.2 c))))))))
include H0 H3 H5 B0 BP FR in
theorem Xxm (h:Nl PG K ends5 m0 mP):W PG d Zy6 σ st Q:=
 Zm (Yj (q_ J (f_ H3 (l_ J B0 J J (b_ J J Xk (Yt J (Yq (g:=46) J (fun c=>Zd J (f_ H3 (Zd J (l_ J B0 J J (Zd J (b_ J J Xk (z_ 2 J (e_ (Zym hQ hkp H0 H3 H5 J B0 BP FR (h.1 c)))))))))) (fun c=>z_ 5 J (e_ (Zym hQ hkp H0 H3 H5 J B0 BP FR (h.2 c)))))))))))
include H0 H3 B0 BP FR in
theorem Yu5 (h:Zs0 PG K m0 mP):W PG d Znm σ st Q:=
 q_ J (Cz (f:=AV.s) (l:=[[],[],[],[],[],([123,125]:BS),([91,93]:BS),([60,62]:BS)]) (Yl J J (Yl J J (Yl J J Xn))) J (f_ H3 (l_ J B0 J J (h.2.elim fun _ c=>Tu (f:=AV.s) J J J h.1 c.1 (m_ (e_ (Xxm hQ hkp H0 H3 J B0 BP FR c.2)))))))
include H0 H1 BP FR in
theorem Wij (h:Zrq PG K v1 mP):W PG d (sR 0 Yaa Znm) σ st Q:=
 q_ J (Vs H1 J (m_ (e_ (Yu5 hQ hkp H0 J Zi (Bl.other (Xi hkp) BP) (Fr.box FR) h))))
end
theorem Wb6 {PG:Za}(hf:PG.fn 104=some Pf){v1:Zb}{mP:BS}{K:Int->BS->Prop}(h:Zrq PG K v1 mP):Qk PG 104 (Bl mP) [v1.av] (fun r (b_:BS)=>∃res0:Int,(r=.i .i64 res0)/\K res0 b_) (fun b_=>(Bl b_)):=
  Qk.of hf rfl (fun _=>Bl.out) fun d st kp vp hkp hB=>Wij (Zj:=st) (Q:=fun e σ st'=>(e=.normal\/e=.ret)/\∃r b_,Xg σ st' Pf.res=some r/\_/\_/\Fr d kp st.bx st.ow st'.bx st'.ow) (fun σ st'   res0 b_ H4 hb hf hk=>⟨.inr rfl,.i .i64 res0,b_,by simp only [Pf,Xg,Vc,H4,Ki,Option.map_some,H4],⟨res0,rfl,hk⟩,hb,hf⟩) hkp (σ:=Xz [.p kp vp 0,v1.av]) rfl rfl hB Fr.refl h
abbrev Xe3 (Q:AE->Sl->St->Prop)(K:BS->Prop):Prop:=∀(σ:Sl)(st:St)(res0:BS),σ 2=.s res0->K res0->Q .ret σ st
section
variable {PG:Za}{d:Nat}{Q:AE->Sl->St->Prop}{K:BS->Prop}(hQ:Xe3 Q K){σ:Sl}{st:St}
include hQ
end
def Ybi:List AI:=[oY 2 5 0,oI 4 0,oC 5 (.b false)]
def Ywy:List AI:=[oF 15 0 2,oL 16 15,oO 17 (.build [z8,z6,zs,zl,zb] [(0,1,(.t 16))]),oO 6 (.alloc [z8,z6,zs,zl,zb]),oS 5 6 17,oI 7 0,oI 8 0]
def Xlu:List AI:=[oF 18 0 2,oL 19 18]
def Wfn:List AI:=[oW 21 .eql 19 1,oM 20 21]
def Xxg:List AI:=[oF 22 1 2,oL 23 22,oV 24 .and 23 1,oF 25 1 6,oS 1 25 24]
def Xn9:List AI:=[oW 27 .eql 19 2,oM 26 27]
def Wbn:List AI:=[oF 28 1 2,oL 29 28,oF 30 1 6,oS 1 30 29]
def Xwo:List AI:=[oW 32 .eql 19 3,oM 31 32]
def Xmy:List AI:=[oF 33 2 2,oL 34 33,oF 35 2 6,oS 1 35 34]
def Xw2:List AI:=[oW 37 .eql 19 4,oM 36 37]
def Wba:List AI:=[oF 38 4 2,oL 39 38,oF 40 4 6,oS 1 40 39,oI 7 1]
def Ypf:List AI:=[oW 42 .eql 19 5,oM 41 42]
def Xet:List AI:=[oI 7 8]
def Wam:List AI:=[oW 44 .eql 19 6,oM 43 44]
def Xio:List AI:=[oI 7 16,oI 8 1]
def Xsb:List AI:=[oW 46 .eql 19 7,oM 45 46]
def Xlp:List AI:=[oF 47 4 2,oL 48 47,oF 49 4 6,oS 1 49 48,oI 7 16]
def Yyd:List AI:=[oI 4 0,oC 5 (.b false)]
def Xja:List AI:=[oF 50 3 2,oL 51 50,oJ 52 51,oM 9 52]
def Xlh:List AI:=[oM 53 1,oV 54 .eql 53 0,oM 55 54,gF 55 (oF 56 1 6),gF 55 (oL 57 56),gF 55 (oF 58 1 2),gF 55 (oL 59 58),gF 55 (oT 60 .neq 57 59),oR 61 55 60,oM 62 61,gF 62 (oF 63 2 6),gF 62 (oL 64 63),gF 62 (oF 65 2 2),gF 62 (oL 66 65),gF 62 (oT 67 .neq 64 66),oR 68 62 67,oM 69 68,gF 69 (oF 70 2 2),gF 69 (oL 71 70),gF 69 (oH 72 71),gF 69 (oV 73 .gtr 72 64),oR 74 69 73,oM 75 74,gF 75 (oF 76 4 6),gF 75 (oL 77 76),gF 75 (oF 78 4 2),gF 75 (oL 79 78),gF 75 (oO 80 (.beq true (.t 77) (.t 79))),oR 81 75 80,oM 82 81,gF 82 (oF 83 4 2),gF 82 (oL 84 83),gF 82 (oM 85 84),gT 85 (oM 86 9),gT 85 (oV 87 .gtr 86 0),gF 82 (oA 88 85 87),oR 89 82 88,oM 90 89,gF 90 (oM 91 9),gF 90 (oM 92 7),gF 90 (oT 93 .gtr 91 92),oR 94 90 93,oM 95 94,gF 95 (oM 96 9),gF 95 (oM 97 8),gF 95 (oT 98 .lss 96 97),oR 99 95 98]
def Ysq:List AI:=[oI 4 0,oC 5 (.b false)]
def Xma:List AI:=[oI 10 1]
def Xig:List AI:=[oF 100 3 2,oL 101 100,oJ 102 101,oI 103 0]
def Yvo:List AI:=[oT 104 .lss 103 102]
def Wif:List AI:=[oX 105 5 101 103,oK 106 5 105,oO 12 (.alloc [z8,z6,zs,zl,zb]),oS 5 12 106]
def Xce:List AI:=[oK 108 5 12,oM 109 1,oV 110 .sub 109 1,oQ 111 109 [108,110],oM 107 111,oE 112 0 107,oE 113 1 107,oM 13 112,oM 14 113]
def Xp5:List AI:=[oM 114 10,oM 115 13,oT 116 .add 114 115,oM 10 116]
def Ymp:List AI:=[oM 117 14,oZ 118 117,oM 119 118,gF 119 (oM 120 10),gF 119 (oV 121 .gtr 120 5000),oR 122 119 121]
def Yqo:List AI:=[oI 4 0,oC 5 (.b false)]
def Xxk:List AI:=[oV 123 .add 103 1,oM 103 123]
def Yu0:List AI:=[oM 124 10,oM 4 124,oC 5 (.b true)]
abbrev Ze9:AC:=(sR 23 Yvo (.seq (.cond (.t 104) .skip (.exit 1)) (.seq (.block 2 (sR 24 Wif (sR 25 Xce (sR 26 Xp5 (sR 27 Ymp (.cond (.t 122) (sR 28 Yqo .ret) .skip)))))) (.reg 29 Xxk))))
abbrev Ze0:AC:=(sR 30 Yu0 .ret)
abbrev Yk2:AC:=(.seq (sR 19 Xlh (.cond (.t 99) (sR 20 Ysq .ret) .skip)) (sR 21 Xma (.seq (sR 22 Xig (.block 1 (.loop Ze9))) Ze0)))
abbrev Yjl:AC:=(sR 18 Xja Yk2)
abbrev Yd6:AC:=(.seq (sR 2 Xlu (.block 0 (sR 4 Wfn (.cond (.t 20) (.reg 5 Xxg) (sR 6 Xn9 (.cond (.t 26) (.reg 7 Wbn) (sR 8 Xwo (.cond (.t 31) (.reg 9 Xmy) (sR 10 Xw2 (.cond (.t 36) (.reg 11 Wba) (sR 12 Ypf (.cond (.t 41) (.reg 13 Xet) (sR 14 Wam (.cond (.t 43) (.reg 15 Xio) (sR 16 Xsb (.cond (.t 45) (.reg 17 Xlp) (sR 3 Yyd .ret))))))))))))))))) Yjl)
abbrev Zi1:AC:=(sR 1 Ywy Yd6)
abbrev Xa0:AC:=(sR 0 Ybi Zi1)
def Zaz:AF:={ nt:=125,res:=[.tmp 4,.tmp 5],body:=Xa0 }
abbrev Zha (PG:Za)(d:Nat)(Q:AE->Sl->St->Prop)(nest1:Int)(t101:List Zb)(t102:Int)(sum10:Int)(t103:Int):Prop:=
  ∀(σ:Sl)(st:St)(o_t101:Zl),σ 1=.i .i64 nest1->σ 10=.i .i64 sum10->σ 101=.sl o_t101 (List.map Zb.row t101)->σ 102=.i .i64 t102->σ 103=.i .i64 t103->W PG d (.loop Ze9) σ st (Ya 1 (Zs PG d Ze0 Q))
def Zk9 (PG:Za)(K:Int->Bool->Prop)(sum10:Int):Prop:=
  K sum10 true
def Pc (PG:Za)(K:Int->Bool->Prop)(P0:Int->Int->Prop)(nest1:Int)(sum10:Int)(t101:List Zb)(t102:Int)(t103:Int):Prop:=
  (t103<t102->0<=t103/\∃j:Zb,t101[(t103).toNat]?=some j/\∃c e,Ze PG 109 [j.av,.i .i64 (IntKind.i64.wrap (nest1-1))] (.tup [.i .i64 c,.b e])/\((!e)=true->K 0 false)/\((!e)=false->((IntKind.i64.wrap (sum10+c))>5000->K 0 false)/\(¬((IntKind.i64.wrap (sum10+c))>5000)->P0 (IntKind.i64.wrap (sum10+c)) (IntKind.i64.wrap (t103+1)))))/\(¬(t103<t102)->Zk9 PG K sum10)
def Zcd (PG:Za)(K:Int->Bool->Prop)(nest1:Int)(most7:Int)(least8:Int)(n9:Int)(m0:Zb)(m4099:Zb):Prop:=
  (nest1=0->K 0 false)/\(¬(nest1=0)->(m4099.int≠m0.int->K 0 false)/\(¬(m4099.int≠m0.int)->(m4099.text≠m0.text->K 0 false)/\(¬(m4099.text≠m0.text)->((m0.text.length:Int)>64->K 0 false)/\(¬((m0.text.length:Int)>64)->(m4099.cut≠m0.cut->K 0 false)/\(¬(m4099.cut≠m0.cut)->(m0.cut=true->(n9>0->K 0 false)/\(¬(n9>0)->(n9>most7->K 0 false)/\(¬(n9>most7)->(n9<least8->K 0 false)/\(¬(n9<least8)->∀P0:Int->Int->Prop,(∀(sum10:Int)(t103:Int),Pc PG K P0 nest1 sum10 m0.list (m0.list.length:Int) t103->P0 sum10 t103)->P0 1 0))))/\(m0.cut=false->(n9>most7->K 0 false)/\(¬(n9>most7)->(n9<least8->K 0 false)/\(¬(n9<least8)->∀P0:Int->Int->Prop,(∀(sum10:Int)(t103:Int),Pc PG K P0 nest1 sum10 m0.list (m0.list.length:Int) t103->P0 sum10 t103)->P0 1 0))))))))
def Mm (PG:Za)(K:Int->Bool->Prop)(nest1:Int)(most7:Int)(least8:Int)(m0:Zb)(m4099:Zb):Prop:=
  Zcd PG K nest1 most7 least8 (m0.list.length:Int) m0 m4099
def Zb8 (PG:Za)(K:Int->Bool->Prop)(nest1:Int)(most7:Int)(least8:Int)(m0:Zb)(m4099:Zb):Prop:=
  (m0.kind=1->Mm PG K nest1 most7 least8 m0 (Zb.mk m4099.kind (Ux .i64 m0.int 1) m4099.text m4099.list m4099.cut))/\(¬(m0.kind=1)->(m0.kind=2->Mm PG K nest1 most7 least8 m0 (Zb.mk m4099.kind m0.int m4099.text m4099.list m4099.cut))/\(¬(m0.kind=2)->(m0.kind=3->Mm PG K nest1 most7 least8 m0 (Zb.mk m4099.kind m4099.int m0.text m4099.list m4099.cut))/\(¬(m0.kind=3)->(m0.kind=4->Mm PG K nest1 1 least8 m0 (Zb.mk m4099.kind m4099.int m4099.text m4099.list m0.cut))/\(¬(m0.kind=4)->(m0.kind=5->Mm PG K nest1 8 least8 m0 m4099)/\(¬(m0.kind=5)->(m0.kind=6->Mm PG K nest1 16 1 m0 m4099)/\(¬(m0.kind=6)->(m0.kind=7->Mm PG K nest1 16 least8 m0 (Zb.mk m4099.kind m4099.int m4099.text m4099.list m0.cut))/\(¬(m0.kind=7)->K 0 false)))))))
def Zer (PG:Za)(K:Int->Bool->Prop)(nest1:Int)(m0:Zb):Prop:=
  Zb8 PG K nest1 0 0 m0 (Zb.mk m0.kind 0 [] ([]:List Zb) false)
def Zdt (PG:Za)(K:Int->Bool->Prop)(v0:Zb)(nest1:Int):Prop:=
  Zer PG K nest1 v0
section
variable {PG:Za}{d:Nat}{Q:AE->Sl->St->Prop}{K:Int->Bool->Prop}(hQ:H2 (AV.i .i64) AV.b 4 5 Q K){σ:Sl}{st:St}
include hQ
variable {sum10 nest1:Int}{t101:List Zb}{t102 t103:Int}{P0:Int->Int->Prop}{o_t101:Zl}{most7 least8 n9:Int}{m0 m4099:Zb}{o_m4099_3:Zl}{v0 v4099:Nat}
variable (kP0 :∀(sum10:Int)(t103:Int),P0 sum10 t103->Zha PG d Q nest1 t101 t102 sum10 t103)(H1:σ 1=.i .i64 nest1)(H10:σ 10=.i .i64 sum10)(H2:σ 2=.p (d,0) v0 0)(Te:σ 101=.sl o_t101 (List.map Zb.row t101))(H6:σ 6=.p (d,4099) v4099 0)(H102:σ 102=.i .i64 t102)(H7:σ 7=.i .i64 most7)(H103:σ 103=.i .i64 t103)(H8:σ 8=.i .i64 least8)(H9:σ 9=.i .i64 n9)(Ab4099:Xe d st.ow o_m4099_3 m4099.list.length)(B0:lk st.bx (d,0)=some (v0,Zb.cs m0))(B4099:lk st.bx (d,4099)=some (v4099,[.i .u8 m4099.kind,.i .i64 m4099.int,.s m4099.text,.sl o_m4099_3 (List.map Zb.row m4099.list),.b m4099.cut]))
include H10 in
theorem Wau (h:Zk9 PG K sum10):W PG d Ze0 σ st Q:=
 au trivial
include kP0 H1 H10 Te H102 H103 in
theorem Yj6 (h:Pc PG K P0 nest1 sum10 t101 t102 t103):W PG d Ze9 σ st (Zs PG d (.loop Ze9) (Ya 1 (Zs PG d Ze0 Q))):=
 au @Wau
include H1 H2 H6 H7 H8 H9 Ab4099 B0 B4099 in
theorem Xjr (h:Zcd PG K nest1 most7 least8 n9 m0 m4099):W PG d Yk2 σ st Q:=
 Zm (q_ J (Xh H1 (b_ J J Xk (Yt J (Yq (g:=55) J (fun c=>z_ 30 J (Wp J (Wp J (z_ 12 J (e_ (Yr J (q_ J (m_ (m_ (Zp (hQ J J (h.1 c)))))))))))) (fun c=>Zd J (f_ H6 (Zd J (l_ J B4099 J J (Zd J (f_ H2 (Zd J (l_ J B0 J J (Zd J (b_ J J Vd (z_ 2 J (Yq (g:=62) J (fun e=>z_ 23 J (Wp J (Wp J (z_ 12 J (e_ (Yr J (q_ J (m_ (m_ (Zp (hQ J J ((h.2 c).1 e)))))))))))) (fun e=>Zd J (f_ H6 (Zd J (l_ J B4099 J J (Zd J (f_ H2 (Zd J (l_ J B0 J J (Zd J (b_ J J Tg (z_ 2 J (Yq (g:=69) J (fun i=>z_ 16 J (Wp J (Wp J (z_ 12 J (e_ (Yr J (q_ J (m_ (m_ (Zp (hQ J J (((h.2 c).2 e).1 i)))))))))))) (fun i=>Zd J (f_ H2 (Zd J (l_ J B0 J J (Zd J (Hf J (Zd J (b_ J J Vz (z_ 2 J (Yq (g:=75) J (fun j=>z_ 10 J (Wp J (Wp J (z_ 12 J (e_ (Yr J (q_ J (m_ (m_ (Zp (hQ J J ((((h.2 c).2 e).2 i).1 j)))))))))))) (fun j=>Zd J (f_ H6 (Zd J (l_ J B4099 J J (Zd J (f_ H2 (Zd J (l_ J B0 J J (Zd J (Zhd J J (z_ 2 J (Yq (g:=82) J (fun k=>z_ 3 J (Wp J (Wp J (z_ 12 J (e_ (Yr J (q_ J (m_ (m_ (Zp (hQ J J (((((h.2 c).2 e).2 i).2 j).1 k)))))))))))) (fun k=>Zd J (f_ H2 (Zd J (l_ J B0 J J (Zd J (Yt J (Qf (g:=85) J (fun o=>Zd J (Xh H9 (Zd J (b_ J J Vz (Zd J (z_ 3 J (Yq (g:=90) J (fun p=>z_ 9 J (e_ (Yr J (q_ J (m_ (m_ (Zp (hQ J J (((((((h.2 c).2 e).2 i).2 j).2 k).1 o).1 p))))))))) (fun p=>Zd J (Xh H9 (Zd J (Xh H7 (Zd J (b_ J J Vz (z_ 2 J (Yq (g:=95) J (fun r=>z_ 4 J (e_ (Yr J (q_ J (m_ (m_ (Zp (hQ J J ((((((((h.2 c).2 e).2 i).2 j).2 k).1 o).2 p).1 r))))))))) (fun r=>Zd J (Xh H9 (Zd J (Xh H8 (Zd J (b_ J J Wx (Vp J J (e_ (Yk J (fun u=>q_ J (m_ (m_ (Zp (hQ J J (((((((((h.2 c).2 e).2 i).2 j).2 k).1 o).2 p).2 r).1 u)))))) (fun u=>Yd (q_ J (m_ (e_ (Zm (q_ J (f_ H2 (l_ J B0 J J (Xc J (m_ (e_ (Yj ((((((((((h.2 c).2 e).2 i).2 j).2 k).1 o).2 p).2 r).2 u) (Zha PG d Q nest1 m0.list (m0.list.length:Int)) (fun _ _ hb _ _ _ H1 H10 Te H102 H103=>W.loop (Yj6 hQ (fun _ _ x=>x) H1 H10 Te H102 H103 hb)) _ _ _ H1 J J J J))))))))))))))))))))))))))))))))))))) (fun o=>z_ 2 J (Zd J (z_ 3 J (Zd J (Xh H9 (Zd J (Xh H7 (Zd J (b_ J J Vz (z_ 2 J (Yq (g:=95) J (fun q=>z_ 4 J (e_ (Yr J (q_ J (m_ (m_ (Zp (hQ J J (((((((h.2 c).2 e).2 i).2 j).2 k).2 o).1 q))))))))) (fun q=>Zd J (Xh H9 (Zd J (Xh H8 (Zd J (b_ J J Wx (Vp J J (e_ (Yk J (fun s=>q_ J (m_ (m_ (Zp (hQ J J ((((((((h.2 c).2 e).2 i).2 j).2 k).2 o).2 q).1 s)))))) (fun s=>Yd (q_ J (m_ (e_ (Zm (q_ J (f_ H2 (l_ J B0 J J (Xc J (m_ (e_ (Yj (((((((((h.2 c).2 e).2 i).2 j).2 k).2 o).2 q).2 s) (Zha PG d Q nest1 m0.list (m0.list.length:Int)) (fun _ _ hb _ _ _ H1 H10 Te H102 H103=>W.loop (Yj6 hQ (fun _ _ x=>x) H1 H10 Te H102 H103 hb)) _ _ _ H1 J J J J)))))))))))))))))))))))))))))))))))))))))))))))))))))))))))))))))))))))))))))))))))))))))))
include H1 H2 H6 H7 H8 Ab4099 B0 B4099 in
theorem Tw (h:Mm PG K nest1 most7 least8 m0 m4099):W PG d Yjl σ st Q:=
 au @Xjr
include H1 H2 H6 H7 H8 Ab4099 B0 B4099 in
theorem Xz3 (h:Zb8 PG K nest1 most7 least8 m0 m4099):W PG d Yd6 σ st Q:=
 Zm (q_ J (f_ H2 (l_ J B0 J J (e_ (Yj (q_ J (b_ J J Xk (m_ (e_ (Yk J (fun c=>W.reg0 J fun _ _=>f_ H2 (l_ J B0 J J (b_ J J (Zfj _ _ _) (f_ H6 (Ye J B4099 J J J (e_ (Tw (m4099:=(Zb.mk m4099.kind (Ux .i64 m0.int 1) m4099.text m4099.list m4099.cut)) hQ H1 H2 H6 H7 H8 Ab4099 (Zt J B0) Zi (h.1 c)))))))) (fun c=>q_ J (b_ J J Xk (m_ (e_ (Yk J (fun e=>W.reg0 J fun _ _=>f_ H2 (l_ J B0 J J (f_ H6 (Ye J B4099 J J J (e_ (Tw (m4099:=(Zb.mk m4099.kind m0.int m4099.text m4099.list m4099.cut)) hQ H1 H2 H6 H7 H8 Ab4099 (Zt J B0) Zi ((h.2 c).1 e))))))) (fun e=>q_ J (b_ J J Xk (m_ (e_ (Yk J (fun i=>W.reg0 J fun _ _=>f_ H2 (l_ J B0 J J (f_ H6 (Ye J B4099 J J J (e_ (Tw (m4099:=(Zb.mk m4099.kind m4099.int m0.text m4099.list m4099.cut)) hQ H1 H2 H6 H7 H8 Ab4099 (Zt J B0) Zi (((h.2 c).2 e).1 i))))))) (fun i=>q_ J (b_ J J Xk (m_ (e_ (Yk J (fun j=>W.reg0 J fun _ _=>f_ H2 (l_ J B0 J J (f_ H6 (Ye J B4099 J J J (m_ (e_ (Tw (m4099:=(Zb.mk m4099.kind m4099.int m4099.text m4099.list m0.cut)) hQ H1 H2 H6 J H8 Ab4099 (Zt J B0) Zi ((((h.2 c).2 e).2 i).1 j)))))))) (fun j=>q_ J (b_ J J Xk (m_ (e_ (Yk J (fun k=>W.reg0 J fun _ _=>m_ (e_ (Tw hQ H1 H2 H6 J H8 Ab4099 B0 B4099 (((((h.2 c).2 e).2 i).2 j).1 k)))) (fun k=>q_ J (b_ J J Xk (m_ (e_ (Yk J (fun o=>W.reg0 J fun _ _=>m_ (m_ (e_ (Tw hQ H1 H2 H6 J J Ab4099 B0 B4099 ((((((h.2 c).2 e).2 i).2 j).2 k).1 o))))) (fun o=>q_ J (b_ J J Xk (m_ (e_ (Yk J (fun p=>W.reg0 J fun _ _=>f_ H2 (l_ J B0 J J (f_ H6 (Ye J B4099 J J J (m_ (e_ (Tw (m4099:=(Zb.mk m4099.kind m4099.int m4099.text m4099.list m0.cut)) hQ H1 H2 H6 J H8 Ab4099 (Zt J B0) Zi (((((((h.2 c).2 e).2 i).2 j).2 k).2 o).1 p)))))))) (fun p=>q_ J (m_ (m_ (Zp (hQ J J (((((((h.2 c).2 e).2 i).2 j).2 k).2 o).2 p))))))))))))))))))))))))))))))))))))))))))))))
include H1 H2 B0 in
theorem Xx4 (h:Zer PG K nest1 m0):W PG d Zi1 σ st Q:=
 Zm (W.reg (f_ H2 (l_ J (Zt J B0) J J (Xv (Yl J J Xn) (Xs (Ye J (show lk _ (d,4099)=some (_,([.i .u8 0,.i .i64 0,.s [],.sl .full (List.map Zb.row ([]:List Zb)),.b false]:List AV)) from Zi) J J J (m_ (m_ (e_ (Xz3 (m4099:=(Zb.mk m0.kind 0 [] ([]:List Zb) false)) hQ H1 H2 J J J Xe.full (Zt J (Zt J B0)) Zi h))))))))))
theorem Xbt {v0:Zb}{nest1:Int}(H0:σ 0=v0.av)(H1:σ 1=.i .i64 nest1)(h:Zdt PG K v0 nest1):W PG d (sR 0 Ybi Zi1) σ st Q:=
 au @Xx4
end
theorem Yhw {PG:Za}(hf:PG.fn 109=some Zaz){v0:Zb}{nest1:Int}{K:Int->Bool->Prop}(h:Zdt PG K v0 nest1) :∃res0:Int,∃res1:Bool,K res0 res1/\Ze PG 109 [v0.av,.i .i64 nest1] (.tup [.i .i64 res0,.b res1]):=
 P2 hf J (Xbt (h2 J fun _ _=>J) J J h)
abbrev Xhr (Q:AE->Sl->St->Prop)(K:Bool->Prop):Prop:=∀(σ:Sl)(st:St)(res0:Bool),σ 4=.b res0->K res0->Q .ret σ st
section
variable {PG:Za}{d:Nat}{Q:AE->Sl->St->Prop}{K:Bool->Prop}(hQ:Xhr Q K){σ:Sl}{st:St}
include hQ
end
abbrev Xa7 (Q:AE->Sl->St->Prop)(K:BS->Prop):Prop:=∀(σ:Sl)(st:St)(res0:BS),σ 2=.s res0->K res0->Q .ret σ st
section
variable {PG:Za}{d:Nat}{Q:AE->Sl->St->Prop}{K:BS->Prop}(hQ:Xa7 Q K){σ:Sl}{st:St}
include hQ
end
def Xjv:List AI:=[oY 1 5 0,oC 2 (.b false)]
def Xzc:List AI:=[oF 3 3 1,oL 4 3,oJ 5 4,oV 6 .eql 5 0,oM 7 6,gT 7 (oF 8 4 1),gT 7 (oL 9 8),gT 7 (oZ 10 9),oA 11 7 10,oM 2 11]
abbrev Xcx:AC:=(sR 0 Xjv (sR 1 Xzc .ret))
def Zr6:AF:={ nt:=12,res:=[.tmp 2],body:=Xcx }
abbrev Xi4 (Q:AE->Sl->St->Prop)(K:Bool->Prop):Prop:=∀(σ:Sl)(st:St)(res0:Bool),σ 2=.b res0->K res0->Q .ret σ st
section
variable {PG:Za}{d:Nat}{Q:AE->Sl->St->Prop}{K:Bool->Prop}(hQ:Xi4 Q K){σ:Sl}{st:St}
include hQ
end
end Go.AM

/- Yf of the proof. -/
namespace Go.AM
open Go
set_option linter.unusedVariables false
set_option linter.unusedSimpArgs false
set_option maxRecDepth 4000
set_option maxHeartbeats 2000000
attribute [local irreducible] Decidable.decide W WO Wq Ws
def Zwh:List AI:=[oC 4 (.b false)]
def Yhe:List AI:=[oM 8 0,oN 9 8,oF 10 0 9,oL 11 10,oM 12 1,oQ 13 36 [11,12],oM 7 13,oE 14 0 7,oE 15 1 7,oM 5 14,oM 6 15]
def Zxs:List AI:=[oM 16 0,oM 17 5,oN 18 16,oF 19 0 18,oS 1 19 17]
def Ydy:List AI:=[oM 20 6,oM 4 20]
abbrev Ynx:AC:=(sR 0 Zwh (sR 1 Yhe (sR 2 Zxs (sR 3 Ydy .ret))))
def Lp:AF:={ nt:=21,res:=[.tmp 4],body:=Ynx }
abbrev Xul (d:Nat)(Zj:St)(kp:Zo)(vp:Nat)(Q:AE->Sl->St->Prop)(K:Bool->Sc->Prop):Prop:=∀(σ:Sl)(st:St)(res0:Bool)(b_:Sc),σ 4=.b res0->lk st.bx kp=some (vp,[.s b_.left])->Fr d kp Zj.bx Zj.ow st.bx st.ow->K res0 b_->Q .ret σ st
def Zj9 (PG:Za)(K:Bool->Sc->Prop)(what1:BS)(mP:Sc):Prop:=
  ∃c e,Ze PG 36 [.s mP.left,.s what1] (.tup [.s c,.b e])/\K e (Sc.mk c)
section
variable {PG:Za}{d:Nat}{Q:AE->Sl->St->Prop}{K:Bool->Sc->Prop}{Zj:St}{kp:Zo}{vp:Nat}(hQ:Xul d Zj kp vp Q K)(hkp:kp.1<d){σ:Sl}{st:St}
include hQ hkp
variable {what1:BS}{mP:Sc}
variable (H0:σ 0=.p kp vp 0)(H1:σ 1=.s what1)(BP:lk st.bx kp=some (vp,[.s mP.left]))(FR:Fr d kp Zj.bx Zj.ow st.bx st.ow)
include H0 H1 BP FR in
theorem Xxy (h:Zj9 PG K what1 mP):W PG d (sR 0 Zwh (sR 1 Yhe (sR 2 Zxs (sR 3 Ydy .ret)))) σ st Q:=
 q_ J (m_ (e_ (q_ J (m_ (Wh H0 (f_ J (l_ J BP J J (m_ (x2 h fun _ _ c=>Yg (Vq J H1 J) c.1 (m_ (x_ J J (x_ J J (m_ (m_ (e_ (q_ J (m_ (m_ (Wh H0 (f_ J (Ye J BP J J J (e_ (q_ J (m_ (m_ (Zp (hQ _ _ _ _ J Zi (Fr.own FR) c.2)))))))))))))))))))))))))))
end
theorem Yp5 {PG:Za}(hf:PG.fn 128=some Lp){what1:BS}{mP:Sc}{K:Bool->Sc->Prop}(h:Zj9 PG K what1 mP):Qk PG 128 (Bx [.s mP.left]) [.s what1] (fun r (b_:Sc)=>∃res0:Bool,(r=.b res0)/\K res0 b_) (fun b_=>(Bx [.s b_.left])):=
  Qk.of hf rfl (fun _=>Bx.out) fun d st kp vp hkp hB=>Xxy (Zj:=st) (Q:=fun e σ st'=>(e=.normal\/e=.ret)/\∃r b_,Xg σ st' Lp.res=some r/\_/\_/\Fr d kp st.bx st.ow st'.bx st'.ow) (fun σ st'   res0 b_ H4 hb hf hk=>⟨.inr rfl,.b res0,b_,by simp only [Lp,Xg,Vc,H4,Ki,Option.map_some,H4],⟨res0,rfl,hk⟩,hb,hf⟩) hkp (σ:=Xz [.p kp vp 0,.s what1]) rfl rfl hB Fr.refl h
def Zs8:List AI:=[oO 8 (.alloc [z8,z6,zs,zl,zb]),oC 9 (.b false)]
def Zu6:List AI:=[oM 13 1,oO 14 (.build [z8,z6,zs,zl,zb] [(0,1,(.t 13))]),oO 10 (.alloc [z8,z6,zs,zl,zb]),oS 5 10 14]
def Ygw:List AI:=[oM 15 0,oM 16 2,oO 17 (.call true 128 [(.t 15),(.t 16)])]
def Yht:List AI:=[oK 18 5 10,oS 5 8 18,oC 9 (.b true)]
def Yt1:List AI:=[oF 19 3 10,oL 20 19,oJ 21 20,oV 22 .leq 21 16]
def Xpy:List AI:=[oM 24 0,oM 25 3,oO 26 (.call true 107 [(.t 24),(.t 25)]),oM 23 26,oE 27 0 23,oE 28 1 23,oO 11 (.alloc [z8,z6,zs,zl,zb]),oS 5 11 27,oM 12 28]
def Xk6:List AI:=[oM 29 12,oZ 30 29]
def Ys8:List AI:=[oK 31 5 10,oS 5 8 31,oC 9 (.b false)]
def Wgn:List AI:=[oF 32 3 10,oL 33 32,oK 34 5 11,oO 35 (.bslice [z8,z6,zs,zl,zb] 1 [(0,(.t 34))]),oO 36 (.app 5 64 (.t 33) (.t 35)),oF 37 3 10,oS 1 37 36]
def Yx1:List AI:=[oM 38 0,oM 39 2,oO 40 (.call true 128 [(.t 38),(.t 39)])]
def Xsu:List AI:=[oK 41 5 10,oS 5 8 41,oC 9 (.b true)]
def Yri:List AI:=[oM 42 0,oO 43 (.call true 128 [(.t 42),(.c (.s [44,32]))]),oZ 44 43]
def Yx3:List AI:=[oK 45 5 10,oS 5 8 45,oC 9 (.b false)]
def Xhd:List AI:=[oK 46 5 10,oS 5 8 46,oC 9 (.b false)]
abbrev Et:AC:=(.seq (sR 4 Yt1 (.cond (.t 22) .skip (.exit 0))) (.block 1 (sR 5 Xpy (.seq (sR 6 Xk6 (.cond (.t 30) (sR 7 Ys8 .ret) .skip)) (sR 8 Wgn (.seq (sR 9 Yx1 (.cond (.t 40) (sR 10 Xsu .ret) .skip)) (sR 11 Yri (.cond (.t 44) (sR 12 Yx3 .ret) .skip))))))))
abbrev Ip:AC:=(sR 13 Xhd .ret)
abbrev Xyt:AC:=(sR 0 Zs8 (sR 1 Zu6 (.seq (sR 2 Ygw (.cond (.t 17) (sR 3 Yht .ret) .skip)) (.seq (.block 0 (.loop Et)) Ip))))
def Pw:AF:={ nt:=47,res:=[.cell 8 5 true,.tmp 9],body:=Xyt }
abbrev Xkk (d:Nat)(Zj:St)(kp:Zo)(vp:Nat)(Q:AE->Sl->St->Prop)(K:Zb->Bool->Sc->Prop):Prop:=∀(σ:Sl)(st:St)(k0:Zo)(v0:Nat)(o0_0:Zl)(res0:Zb)(res1:Bool)(b_:Sc),σ 8=.p k0 v0 0->lk st.bx k0=some (v0,[.i .u8 res0.kind,.i .i64 res0.int,.s res0.text,.sl o0_0 (List.map Zb.row res0.list),.b res0.cut])->σ 9=.b res1->lk st.bx kp=some (vp,[.s b_.left])->Fr d kp Zj.bx Zj.ow st.bx st.ow->K res0 res1 b_->Q .ret σ st
abbrev Ybd (PG:Za)(d:Nat)(Q:AE->Sl->St->Prop)(Zj:St)(kp:Zo)(vp:Nat)(end2:BS)(nest3:Int)(m0:Zb)(m4098:Zb)(mP:Sc):Prop:=
  ∀(σ:Sl)(st:St) (o_m0_3 o_m4098_3:Zl) (v0 v4098:Nat),σ 0=.p kp vp 0->σ 2=.s end2->σ 3=.i .i64 nest3->σ 8=.p (d,0) v0 0->σ 10=.p (d,4098) v4098 0->Xe d st.ow o_m4098_3 m4098.list.length->lk st.bx (d,0)=some (v0,[.i .u8 m0.kind,.i .i64 m0.int,.s m0.text,.sl o_m0_3 (List.map Zb.row m0.list),.b m0.cut])->lk st.bx (d,4098)=some (v4098,[.i .u8 m4098.kind,.i .i64 m4098.int,.s m4098.text,.sl o_m4098_3 (List.map Zb.row m4098.list),.b m4098.cut])->lk st.bx kp=some (vp,[.s mP.left])->Fr d kp Zj.bx Zj.ow st.bx st.ow->W PG d (.loop Et) σ st (Ya 0 (Zs PG d Ip Q))
def Zl1 (PG:Za)(K:Zb->Bool->Sc->Prop)(m0:Zb)(m4098:Zb)(mP:Sc):Prop:=
  K m4098 false mP
def Zd2 (PG:Za)(K:Zb->Bool->Sc->Prop)(P0:Zb->Zb->Sc->Prop)(end2:BS)(nest3:Int)(m0:Zb)(m4098:Zb)(mP:Sc):Prop:=
  ((m4098.list.length:Int)<=16->∃c:Zb,∃j,∃o:Sc,Yp PG 107 (Bx [.s mP.left]) [.i .i64 nest3] (fun r=>∃o'4_0:Zl,r=.tup [c.avo o'4_0,.b j]) ((Bx [.s o.left]))/\((!j)=true->K m4098 false o)/\((!j)=false->Qn (m4098.list.length+[c].length) 64/\∃q,∃e:Sc,Yp PG 128 (Bx [.s o.left]) [.s end2] (fun r=>r=.b q) ((Bx [.s e.left]))/\(q=true->K (Zb.mk m4098.kind m4098.int m4098.text (m4098.list++[c]) m4098.cut) true e)/\(q=false->∃p,∃k:Sc,Yp PG 128 (Bx [.s e.left]) [.s ([44,32]:BS)] (fun r=>r=.b p) ((Bx [.s k.left]))/\((!p)=true->K (Zb.mk m4098.kind m4098.int m4098.text (m4098.list++[c]) m4098.cut) false k)/\((!p)=false->P0 m0 (Zb.mk m4098.kind m4098.int m4098.text (m4098.list++[c]) m4098.cut) k))))/\(¬((m4098.list.length:Int)<=16)->Zl1 PG K m0 m4098 mP)
def Zq1 (PG:Za)(K:Zb->Bool->Sc->Prop)(kind1:Int)(end2:BS)(nest3:Int)(mP:Sc):Prop:=
  ∃c,∃e:Sc,Yp PG 128 (Bx [.s mP.left]) [.s end2] (fun r=>r=.b c) ((Bx [.s e.left]))/\(c=true->K (Zb.mk kind1 0 [] ([]:List Zb) false) true e)/\(c=false->∀P0:Zb->Zb->Sc->Prop,(∀(m0:Zb)(m4098:Zb)(mP:Sc),Zd2 PG K P0 end2 nest3 m0 m4098 mP->P0 m0 m4098 mP)->P0 (Zb.mk 0 0 [] ([]:List Zb) false) (Zb.mk kind1 0 [] ([]:List Zb) false) e)
section
variable {PG:Za}{d:Nat}{Q:AE->Sl->St->Prop}{K:Zb->Bool->Sc->Prop}{Zj:St}{kp:Zo}{vp:Nat}(hQ:Xkk d Zj kp vp Q K)(hkp:kp.1<d){σ:Sl}{st:St}
include hQ hkp
variable {m0 m4098:Zb}{mP:Sc}{o_m0_3 o_m4098_3:Zl}{v0 v4098:Nat}{end2:BS}{nest3:Int}{P0:Zb->Zb->Sc->Prop}{kind1:Int}
variable (kP0 :∀(m0:Zb)(m4098:Zb)(mP:Sc),P0 m0 m4098 mP->Ybd PG d Q Zj kp vp end2 nest3 m0 m4098 mP)(H0:σ 0=.p kp vp 0)(H1:σ 1=.i .u8 kind1)(H2:σ 2=.s end2)(H3:σ 3=.i .i64 nest3)(H8:σ 8=.p (d,0) v0 0)(H10:σ 10=.p (d,4098) v4098 0)(Ab4098:Xe d st.ow o_m4098_3 m4098.list.length)(B0:lk st.bx (d,0)=some (v0,[.i .u8 m0.kind,.i .i64 m0.int,.s m0.text,.sl o_m0_3 (List.map Zb.row m0.list),.b m0.cut]))(B4098:lk st.bx (d,4098)=some (v4098,[.i .u8 m4098.kind,.i .i64 m4098.int,.s m4098.text,.sl o_m4098_3 (List.map Zb.row m4098.list),.b m4098.cut]))(BP:lk st.bx kp=some (vp,[.s mP.left]))(FR:Fr d kp Zj.bx Zj.ow st.bx st.ow)
include H8 H10 Ab4098 B0 B4098 BP FR in
theorem Yo2 (h:Zl1 PG K m0 m4098 mP):W PG d Ip σ st Q:=
 q_ J (l_ H10 B4098 J J (Ye H8 B0 J J J (m_ (Zp (hQ _ _ _ _ _ _ _ _ H8 Zi J (Jh hkp BP) (Fr.box FR) h)))))
include kP0 H0 H2 H3 H8 H10 Ab4098 B0 B4098 BP FR in
theorem Wj3 (h:Zd2 PG K P0 end2 nest3 m0 m4098 mP):W PG d Et σ st (Zs PG d (.loop Et) (Ya 0 (Zs PG d Ip Q))):=
 Zm (q_ J (f_ H10 (l_ J B4098 J J (Xc J (b_ J J Zfk (e_ (Yk J (fun u=>Yd (Yj (Zm (W.reg (m_ (m_ (x2 (h.1 u) fun a5 _ a3=>a3.elim fun _ k=>Co (Zy H0 (Zy H3 Yn)) k.1 (Nat.lt_succ_of_lt hkp) (Jh hkp BP) (fun o'4_0 _ z c=>m_ (x_ J J (x_ J J (Xs (Ye J ((c.1 (d,20486) (Nat.lt_succ_self d) (Xi hkp)).trans (show lk _ (d,20486)=some (_,([.i .u8 0,.i .i64 0,.s [],.sl .full (List.map Zb.row ([]:List Zb)),.b false]:List AV)) from Zi)) J J J (m_ (e_ (Zm (q_ J (m_ (Xx J (e_ (Xl J (fun o=>q_ J (l_ H10 (Zt J ((c.1 (d,4098) (Nat.lt_succ_self d) (Xi hkp)).trans (Zt J B4098))) J J (Ye H8 (Zt J ((c.1 (d,0) (Nat.lt_succ_self d) (Xi hkp)).trans (Zt J B0))) J J J (m_ (Zp (hQ _ _ _ _ _ _ _ _ H8 Zi J (Jh hkp (Jh hkp z)) (Fr.box (Fr.box (Fr.pass (Fr.box FR) c))) (k.2.1 o))))))) (fun o=>Yd (q_ J (f_ H10 (l_ J (Zt J ((c.1 (d,4098) (Nat.lt_succ_self d) (Xi hkp)).trans (Zt J B4098))) J J (l_ J Zi J J (Vt (f:=Zb.row) (l:=[a5]) J J (Wg J J J Vl) (by simp only [List.map_cons,List.map_nil,Zb.row_eq];rfl) (Qo Zb.row_len J J J ((Xe.call Ab4098 c).1) (k.2.2 o).1 J (fun _ _ a0 r a4=>f_ H10 (Ye J (Zt J ((c.1 (d,4098) (Nat.lt_succ_self d) (Xi hkp)).trans (Zt J B4098))) J J J (e_ (Zm (q_ J (m_ (m_ ((k.2.2 o).2.elim fun _ a2=>a2.elim fun _ p=>Wa (Zy H0 (Zy H2 Yn)) p.1 (Nat.lt_succ_of_lt hkp) (Jh hkp (Jh hkp z)) (fun _ x e=>e_ (Xl J (fun v=>q_ J (l_ H10 ((e.1 (d,4098) (Nat.lt_succ_self d) (Xi hkp)).trans Zi) J J (Ye H8 ((e.1 (d,0) (Nat.lt_succ_self d) (Xi hkp)).trans (Zt J (Zt J ((c.1 (d,0) (Nat.lt_succ_self d) (Xi hkp)).trans (Zt J B0))))) J J J (m_ (Zp (hQ _ _ _ _ _ _ _ _ H8 Zi J (Jh hkp x) (Fr.box (Fr.pass (Fr.box (Fr.app (Fr.box (Fr.pass (Fr.box FR) c)) (Xe.call Ab4098 c).2 r)) e)) (p.2.1 v))))))) (fun v=>Yd (q_ J (m_ ((p.2.2 v).elim fun _ a1=>a1.elim fun _ q=>Wa (Zy H0 (Zy J Yn)) q.1 (Nat.lt_succ_of_lt hkp) x (fun _ y j=>Xx J (e_ (Xl J (fun w=>q_ J (l_ H10 ((j.1 (d,4098) (Nat.lt_succ_self d) (Xi hkp)).trans ((e.1 (d,4098) (Nat.lt_succ_self d) (Xi hkp)).trans Zi)) J J (Ye H8 ((j.1 (d,0) (Nat.lt_succ_self d) (Xi hkp)).trans ((e.1 (d,0) (Nat.lt_succ_self d) (Xi hkp)).trans (Zt J (Zt J ((c.1 (d,0) (Nat.lt_succ_self d) (Xi hkp)).trans (Zt J B0)))))) J J J (m_ (Zp (hQ _ _ _ _ _ _ _ _ H8 Zi J (Jh hkp y) (Fr.box (Fr.pass (Fr.pass (Fr.box (Fr.app (Fr.box (Fr.pass (Fr.box FR) c)) (Xe.call Ab4098 c).2 r)) e) j)) (q.2.1 w))))))) (fun w=>Yd (kP0 _ _ _ (q.2.2 w) _ _ _ _ _ _ H0 H2 H3 H8 H10 (Xe.call (Xe.call (Xe.mk a0 (Gr.app (Xe.call Ab4098 c).2 J a4)) e) j) ((j.1 (d,0) (Nat.lt_succ_self d) (Xi hkp)).trans ((e.1 (d,0) (Nat.lt_succ_self d) (Xi hkp)).trans (Zt J (Zt J ((c.1 (d,0) (Nat.lt_succ_self d) (Xi hkp)).trans (Zt J B0)))))) ((j.1 (d,4098) (Nat.lt_succ_self d) (Xi hkp)).trans ((e.1 (d,4098) (Nat.lt_succ_self d) (Xi hkp)).trans Zi)) y (Fr.pass (Fr.pass (Fr.box (Fr.app (Fr.box (Fr.pass (Fr.box FR) c)) (Xe.call Ab4098 c).2 r)) e) j))))))))))))))))))))))))))))))))))))))))))))))) (fun u=>Vr (Yo2 hQ hkp H8 H10 Ab4098 B0 B4098 BP FR (h.2 u))))))))))
include H0 H1 H2 H3 BP FR in
theorem Wen (h:Zq1 PG K kind1 end2 nest3 mP):W PG d (sR 0 Zs8 (sR 1 Zu6 (.seq (sR 2 Ygw (.cond (.t 17) (sR 3 Yht .ret) .skip)) (.seq (.block 0 (.loop Et)) Ip)))) σ st Q:=
 Zm (W.reg (Xs (m_ (e_ (Zm (W.reg (m_ (Xv (Yl H1 J Xn) (Xs (Ye J (show lk _ (d,4098)=some (_,([.i .u8 0,.i .i64 0,.s [],.sl .full (List.map Zb.row ([]:List Zb)),.b false]:List AV)) from Zi) J J J (e_ (Zm (q_ J (m_ (m_ (h.elim fun _ o=>o.elim fun _ e=>Wa (Zy H0 (Zy H2 Yn)) e.1 (Nat.lt_succ_of_lt hkp) (Jh hkp (Jh hkp (Jh hkp BP))) (fun _ k c=>e_ (Xl J (fun j=>q_ J (l_ J ((c.1 (d,4098) (Nat.lt_succ_self d) (Xi hkp)).trans Zi) J J (Ye J ((c.1 (d,0) (Nat.lt_succ_self d) (Xi hkp)).trans (Zt J (Zt J (show lk _ (d,0)=some (_,([.i .u8 0,.i .i64 0,.s [],.sl .full (List.map Zb.row ([]:List Zb)),.b false]:List AV)) from Zi)))) J J J (m_ (Zp (hQ _ _ _ _ _ _ _ _ J Zi J (Jh hkp k) (Fr.box (Fr.pass (Fr.box (Fr.box (Fr.box FR))) c)) (e.2.1 j))))))) (fun j=>Yd (Zm (Yj ((e.2.2 j) (Ybd PG d Q Zj kp vp end2 nest3) (fun _ _ _ hb _ _ _ _ _ _ H0 H2 H3 H8 H10 Ab4098 B0 B4098 BP FR=>W.loop (Wj3 hQ hkp (fun _ _ _ x=>x) H0 H2 H3 H8 H10 Ab4098 B0 B4098 BP FR hb)) _ _ _ _ _ _ H0 H2 H3 J J Xe.full ((c.1 (d,0) (Nat.lt_succ_self d) (Xi hkp)).trans (Zt J (Zt J (show lk _ (d,0)=some (_,([.i .u8 0,.i .i64 0,.s [],.sl .full (List.map Zb.row ([]:List Zb)),.b false]:List AV)) from Zi)))) ((c.1 (d,4098) (Nat.lt_succ_self d) (Xi hkp)).trans Zi) k (Fr.pass (Fr.box (Fr.box (Fr.box FR))) c)))))))))))))))))))))))
end
theorem Xkm {PG:Za}(hf:PG.fn 129=some Pw){kind1:Int}{end2:BS}{nest3:Int}{mP:Sc}{K:Zb->Bool->Sc->Prop}(h:Zq1 PG K kind1 end2 nest3 mP):Qk PG 129 (Bx [.s mP.left]) [.i .u8 kind1,.s end2,.i .i64 nest3] (fun r (b_:Sc)=>∃res0:Zb,∃res1:Bool,(∃o_0:Zl,r=.tup [res0.avo o_0,.b res1])/\K res0 res1 b_) (fun b_=>(Bx [.s b_.left])):=
  Qk.of hf rfl (fun _=>Bx.out) fun d st kp vp hkp hB=>Wen (Zj:=st) (Q:=fun e σ st'=>(e=.normal\/e=.ret)/\∃r b_,Xg σ st' Pw.res=some r/\_/\_/\Fr d kp st.bx st.ow st'.bx st'.ow) (fun σ st' k0 v0 o_0 res0 res1 b_ H8 HB8 H9 hb hf hk=>⟨.inr rfl,.tup [res0.avo o_0,.b res1],b_,by simp only [Pw,Xg,Vc,Jq (n:=5) H8 HB8 rfl,H9,Ks,Option.map_some,Jq (n:=5) H8 HB8 rfl,H9],⟨res0,res1,⟨o_0,rfl⟩,hk⟩,hb,hf⟩) hkp (σ:=Xz [.p kp vp 0,.i .u8 kind1,.s end2,.i .i64 nest3]) rfl rfl rfl rfl hB Fr.refl h
def Zt0:List AI:=[oO 4 (.alloc [z8,z6,zs,zl,zb]),oC 5 (.b false)]
def Ymw:List AI:=[oM 12 1,oV 13 .eql 12 0,oM 14 13,gF 14 (oM 15 0),gF 14 (oN 16 15),gF 14 (oF 17 0 16),gF 14 (oL 18 17),gF 14 (oB 19 .eql (.t 18) (.c (.s []))),oR 20 14 19]
def Yr6:List AI:=[oO 21 (.build [z8,z6,zs,zl,zb] []),oS 5 4 21,oC 5 (.b false)]
def Xi8:List AI:=[oM 23 0,oO 24 (.call true 128 [(.t 23),(.c (.s [116,114,117,101]))]),oM 22 24]
def Xlj:List AI:=[oO 25 (.build [z8,z6,zs,zl,zb] [(0,1,(.c (.i .u8 1))),(1,1,(.c (.i .i64 1)))]),oS 5 4 25,oC 5 (.b true)]
def Xdg:List AI:=[oM 27 0,oO 28 (.call true 128 [(.t 27),(.c (.s [102,97,108,115,101]))]),oM 26 28]
def Xgs:List AI:=[oO 29 (.build [z8,z6,zs,zl,zb] [(0,1,(.c (.i .u8 1)))]),oS 5 4 29,oC 5 (.b true)]
def Xjm:List AI:=[oM 31 0,oO 32 (.call true 128 [(.t 31),(.c (.s [110,105,108]))]),oM 30 32]
def Xu3:List AI:=[oO 33 (.build [z8,z6,zs,zl,zb] [(0,1,(.c (.i .u8 4)))]),oS 5 4 33,oC 5 (.b true)]
def Xsq:List AI:=[oM 35 0,oO 36 (.call true 128 [(.t 35),(.c (.s [38,46,46,46]))]),oM 34 36]
def Wd9:List AI:=[oO 37 (.build [z8,z6,zs,zl,zb] [(0,1,(.c (.i .u8 4))),(4,1,(.c (.b true)))]),oS 5 4 37,oC 5 (.b true)]
def Xy4:List AI:=[oM 39 0,oO 40 (.call true 128 [(.t 39),(.c (.s [60,46,46,46,62]))]),oM 38 40]
def Wah:List AI:=[oO 41 (.build [z8,z6,zs,zl,zb] [(0,1,(.c (.i .u8 7))),(4,1,(.c (.b true)))]),oS 5 4 41,oC 5 (.b true)]
def Yrb:List AI:=[oM 43 0,oO 44 (.call true 128 [(.t 43),(.c (.s [38]))]),oM 42 44]
def Xwv:List AI:=[oM 46 0,oM 47 1,oV 48 .sub 47 1,oO 49 (.call true 107 [(.t 46),(.t 48)]),oM 45 49,oE 50 0 45,oE 51 1 45,oO 6 (.alloc [z8,z6,zs,zl,zb]),oS 5 6 50,oM 7 51]
def Wap:List AI:=[oK 52 5 6,oO 53 (.bslice [z8,z6,zs,zl,zb] 1 [(0,(.t 52))]),oO 54 (.build [z8,z6,zs,zl,zb] [(0,1,(.c (.i .u8 4))),(3,1,(.t 53))]),oM 55 7,oS 5 4 54,oM 5 55]
def Xsv:List AI:=[oM 57 0,oO 58 (.call true 128 [(.t 57),(.c (.s [123]))]),oM 56 58]
def Xm8:List AI:=[oM 59 0,oM 60 1,oV 61 .sub 60 1,oO 62 (.call true 129 [(.t 59),(.c (.i .u8 5)),(.c (.s [125])),(.t 61)]),oE 63 0 62,oE 64 1 62,oS 5 4 63,oM 5 64]
def Xlv:List AI:=[oM 66 0,oO 67 (.call true 128 [(.t 66),(.c (.s [91]))]),oM 65 67]
def Xbo:List AI:=[oM 68 0,oM 69 1,oV 70 .sub 69 1,oO 71 (.call true 129 [(.t 68),(.c (.i .u8 6)),(.c (.s [93])),(.t 70)]),oE 72 0 71,oE 73 1 71,oS 5 4 72,oM 5 73]
def Ynp:List AI:=[oM 75 0,oO 76 (.call true 128 [(.t 75),(.c (.s [60]))]),oM 74 76]
def Xnm:List AI:=[oM 77 0,oM 78 1,oV 79 .sub 78 1,oO 80 (.call true 129 [(.t 77),(.c (.i .u8 7)),(.c (.s [62])),(.t 79)]),oE 81 0 80,oE 82 1 80,oS 5 4 81,oM 5 82]
def Wfj:List AI:=[oM 84 0,oN 85 84,oF 86 0 85,oL 87 86,oO 88 (.ixS (.t 87) (.c (.i .i64 0))),oW 89 .eql 88 34,oM 83 89]
def Wfl:List AI:=[oM 91 0,oO 92 (.call true 130 [(.t 91)]),oM 90 92,oE 93 0 90,oE 94 1 90,oM 8 93,oM 9 94]
def Xup:List AI:=[oM 95 8,oO 96 (.build [z8,z6,zs,zl,zb] [(0,1,(.c (.i .u8 3))),(2,1,(.t 95))]),oM 97 9,oS 5 4 96,oM 5 97]
def Sn:List AI:=[oM 99 0,oO 100 (.call true 131 [(.t 99)]),oM 98 100,oE 101 0 98,oE 102 1 98,oM 10 101,oM 11 102]
def Ts:List AI:=[oM 103 10,oO 104 (.build [z8,z6,zs,zl,zb] [(0,1,(.c (.i .u8 2))),(1,1,(.t 103))]),oM 105 11,oS 5 4 104,oM 5 105]
abbrev Yk8:AC:=(.cond (.t 42) (sR 14 Xwv (sR 15 Wap .ret)) (sR 16 Xsv (.cond (.t 56) (sR 17 Xm8 .ret) (sR 18 Xlv (.cond (.t 65) (sR 19 Xbo .ret) (sR 20 Ynp (.cond (.t 74) (sR 21 Xnm .ret) (sR 22 Wfj (.cond (.t 83) (sR 23 Wfl (sR 24 Xup .ret)) .skip)))))))))
abbrev Yak:AC:=(.cond (.t 38) (sR 12 Wah .ret) (sR 13 Yrb Yk8))
abbrev Zu0:AC:=(.cond (.t 34) (sR 10 Wd9 .ret) (sR 11 Xy4 Yak))
abbrev Ztu:AC:=(.cond (.t 30) (sR 8 Xu3 .ret) (sR 9 Xsq Zu0))
abbrev Ych:AC:=(.cond (.t 26) (sR 6 Xgs .ret) (sR 7 Xjm Ztu))
abbrev Yar:AC:=(.cond (.t 22) (sR 4 Xlj .ret) (sR 5 Xdg Ych))
abbrev Zv1:AC:=(.seq (.block 0 (sR 3 Xi8 Yar)) (sR 25 Sn (sR 26 Ts .ret)))
abbrev Zju:AC:=(.seq (sR 1 Ymw (.cond (.t 20) (sR 2 Yr6 .ret) .skip)) Zv1)
abbrev Whr:AC:=(sR 0 Zt0 Zju)
def Ct:AF:={ nt:=106,res:=[.cell 4 5 true,.tmp 5],body:=Whr }
abbrev Yzx (d:Nat)(Zj:St)(kp:Zo)(vp:Nat)(Q:AE->Sl->St->Prop)(K:Zb->Bool->Sc->Prop):Prop:=∀(σ:Sl)(st:St)(k0:Zo)(v0:Nat)(o0_0:Zl)(res0:Zb)(res1:Bool)(b_:Sc),σ 4=.p k0 v0 0->lk st.bx k0=some (v0,[.i .u8 res0.kind,.i .i64 res0.int,.s res0.text,.sl o0_0 (List.map Zb.row res0.list),.b res0.cut])->σ 5=.b res1->lk st.bx kp=some (vp,[.s b_.left])->Fr d kp Zj.bx Zj.ow st.bx st.ow->K res0 res1 b_->Q .ret σ st
def Zkn (PG:Za)(K:Zb->Bool->Sc->Prop)(nest1:Int)(t42:Bool)(m0:Zb)(mP:Sc):Prop:=
  (t42=true->∃e:Zb,∃c,∃a2:Sc,Yp PG 107 (Bx [.s mP.left]) [.i .i64 (IntKind.i64.wrap (nest1-1))] (fun r=>∃o'4_0:Zl,r=.tup [e.avo o'4_0,.b c]) ((Bx [.s a2.left]))/\K (Zb.mk 4 0 [] [e] false) c a2)/\(t42=false->∃q,∃k:Sc,Yp PG 128 (Bx [.s mP.left]) [.s ([123]:BS)] (fun r=>r=.b q) ((Bx [.s k.left]))/\(q=true->∃z:Zb,∃y,∃x:Sc,Yp PG 129 (Bx [.s k.left]) [.i .u8 5,.s ([125]:BS),.i .i64 (IntKind.i64.wrap (nest1-1))] (fun r=>∃o'22_0:Zl,r=.tup [z.avo o'22_0,.b y]) ((Bx [.s x.left]))/\K z y x)/\(q=false->∃v,∃o:Sc,Yp PG 128 (Bx [.s k.left]) [.s ([91]:BS)] (fun r=>r=.b v) ((Bx [.s o.left]))/\(v=true->∃w:Zb,∃b1,∃a5:Sc,Yp PG 129 (Bx [.s o.left]) [.i .u8 6,.s ([93]:BS),.i .i64 (IntKind.i64.wrap (nest1-1))] (fun r=>∃o'40_0:Zl,r=.tup [w.avo o'40_0,.b b1]) ((Bx [.s a5.left]))/\K w b1 a5)/\(v=false->∃u,∃j:Sc,Yp PG 128 (Bx [.s o.left]) [.s ([60]:BS)] (fun r=>r=.b u) ((Bx [.s j.left]))/\(u=true->∃a0:Zb,∃a1,∃a6:Sc,Yp PG 129 (Bx [.s j.left]) [.i .u8 7,.s ([62]:BS),.i .i64 (IntKind.i64.wrap (nest1-1))] (fun r=>∃o'58_0:Zl,r=.tup [a0.avo o'58_0,.b a1]) ((Bx [.s a6.left]))/\K a0 a1 a6)/\(u=false->∃p:UInt8,j.left[0]?=some p/\((p.toNat:Int)=34->∃a9 a4,∃a7:Sc,Yp PG 130 (Bx [.s j.left]) [] (fun r=>r=.tup [.s a9,.b a4]) ((Bx [.s a7.left]))/\K (Zb.mk 3 0 a9 ([]:List Zb) false) a4 a7)/\(¬((p.toNat:Int)=34)->∃b0 a8,∃a3:Sc,Yp PG 131 (Bx [.s j.left]) [] (fun r=>r=.tup [.i .i64 b0,.b a8]) ((Bx [.s a3.left]))/\K (Zb.mk 2 b0 [] ([]:List Zb) false) a8 a3)))))
def Zi2 (PG:Za)(K:Zb->Bool->Sc->Prop)(nest1:Int)(t38:Bool)(m0:Zb)(mP:Sc):Prop:=
  (t38=true->K (Zb.mk 7 0 [] ([]:List Zb) true) true mP)/\(t38=false->∃c,∃e:Sc,Yp PG 128 (Bx [.s mP.left]) [.s ([38]:BS)] (fun r=>r=.b c) ((Bx [.s e.left]))/\Zkn PG K nest1 c m0 e)
def Zs5 (PG:Za)(K:Zb->Bool->Sc->Prop)(nest1:Int)(t34:Bool)(m0:Zb)(mP:Sc):Prop:=
  (t34=true->K (Zb.mk 4 0 [] ([]:List Zb) true) true mP)/\(t34=false->∃c,∃e:Sc,Yp PG 128 (Bx [.s mP.left]) [.s ([60,46,46,46,62]:BS)] (fun r=>r=.b c) ((Bx [.s e.left]))/\Zi2 PG K nest1 c m0 e)
def Zp0 (PG:Za)(K:Zb->Bool->Sc->Prop)(nest1:Int)(t30:Bool)(m0:Zb)(mP:Sc):Prop:=
  (t30=true->K (Zb.mk 4 0 [] ([]:List Zb) false) true mP)/\(t30=false->∃c,∃e:Sc,Yp PG 128 (Bx [.s mP.left]) [.s ([38,46,46,46]:BS)] (fun r=>r=.b c) ((Bx [.s e.left]))/\Zs5 PG K nest1 c m0 e)
def Zjn (PG:Za)(K:Zb->Bool->Sc->Prop)(nest1:Int)(t26:Bool)(m0:Zb)(mP:Sc):Prop:=
  (t26=true->K (Zb.mk 1 0 [] ([]:List Zb) false) true mP)/\(t26=false->∃c,∃e:Sc,Yp PG 128 (Bx [.s mP.left]) [.s ([110,105,108]:BS)] (fun r=>r=.b c) ((Bx [.s e.left]))/\Zp0 PG K nest1 c m0 e)
def Zjx (PG:Za)(K:Zb->Bool->Sc->Prop)(nest1:Int)(t22:Bool)(m0:Zb)(mP:Sc):Prop:=
  (t22=true->K (Zb.mk 1 1 [] ([]:List Zb) false) true mP)/\(t22=false->∃c,∃e:Sc,Yp PG 128 (Bx [.s mP.left]) [.s ([102,97,108,115,101]:BS)] (fun r=>r=.b c) ((Bx [.s e.left]))/\Zjn PG K nest1 c m0 e)
def Zmc (PG:Za)(K:Zb->Bool->Sc->Prop)(nest1:Int)(m0:Zb)(mP:Sc):Prop:=
  ∃c,∃e:Sc,Yp PG 128 (Bx [.s mP.left]) [.s ([116,114,117,101]:BS)] (fun r=>r=.b c) ((Bx [.s e.left]))/\Zjx PG K nest1 c m0 e
def Zcu (PG:Za)(K:Zb->Bool->Sc->Prop)(nest1:Int)(m0:Zb)(mP:Sc):Prop:=
  (nest1=0->K (Zb.mk 0 0 [] ([]:List Zb) false) false mP)/\(¬(nest1=0)->(mP.left=([]:BS)->K (Zb.mk 0 0 [] ([]:List Zb) false) false mP)/\(¬(mP.left=([]:BS))->Zmc PG K nest1 m0 mP))
def Zd5 (PG:Za)(K:Zb->Bool->Sc->Prop)(nest1:Int)(mP:Sc):Prop:=
  Zcu PG K nest1 (Zb.mk 0 0 [] ([]:List Zb) false) mP
section
variable {PG:Za}{d:Nat}{Q:AE->Sl->St->Prop}{K:Zb->Bool->Sc->Prop}{Zj:St}{kp:Zo}{vp:Nat}(hQ:Yzx d Zj kp vp Q K)(hkp:kp.1<d){σ:Sl}{st:St}
include hQ hkp
variable {nest1:Int}{t42:Bool}{m0:Zb}{mP:Sc}{o_m0_3:Zl}{v0:Nat}{t38 t34 t30 t26 t22:Bool}
variable (H0:σ 0=.p kp vp 0)(H1:σ 1=.i .i64 nest1)(H4:σ 4=.p (d,0) v0 0)(H42:σ 42=.b t42)(Uy:σ 38=.b t38)(H34:σ 34=.b t34)(H30:σ 30=.b t30)(Tx:σ 26=.b t26)(Kl:σ 22=.b t22)(B0:lk st.bx (d,0)=some (v0,[.i .u8 m0.kind,.i .i64 m0.int,.s m0.text,.sl o_m0_3 (List.map Zb.row m0.list),.b m0.cut]))(BP:lk st.bx kp=some (vp,[.s mP.left]))(FR:Fr d kp Zj.bx Zj.ow st.bx st.ow)
include H0 H1 H4 H42 B0 BP FR in
theorem Whl (h:Zkn PG K nest1 t42 m0 mP):W PG d Yk8 σ st (Ya 0 (Zs PG d (sR 25 Sn (sR 26 Ts .ret)) Q)):=
 Xl H42 (fun u=>Zm (W.reg (m_ (m_ (b_ H1 J Pd (x2 (h.1 u) fun c9 _ b3=>b3.elim fun _ a2=>Co (Zy H0 (Zy J Yn)) a2.1 (Nat.lt_succ_of_lt hkp) (Jh hkp BP) (fun o'4_0 _ c5 z=>m_ (x_ J J (x_ J J (Xs (Ye J ((z.1 (d,57351) (Nat.lt_succ_self d) (Xi hkp)).trans (show lk _ (d,57351)=some (_,([.i .u8 0,.i .i64 0,.s [],.sl .full (List.map Zb.row ([]:List Zb)),.b false]:List AV)) from Zi)) J J J (m_ (e_ (q_ J (l_ J Zi J J (Vt (f:=Zb.row) (l:=[c9]) J J (Wg J J J Vl) (by simp only [List.map_cons,List.map_nil,Zb.row_eq];rfl) (Xv (Yl J J (Yl J J Xn)) (m_ (Ye H4 (Zt J ((z.1 (d,0) (Nat.lt_succ_self d) (Xi hkp)).trans (Zt J B0))) J J J (m_ (Zp (hQ _ _ _ _ _ _ _ _ H4 Zi J (Jh hkp (Jh hkp c5)) (Fr.box (Fr.box (Fr.pass (Fr.box FR) z))) a2.2)))))))))))))))))))))) (fun u=>q_ J (m_ ((h.2 u).elim fun _ c1=>c1.elim fun _ o=>Wa (Zy H0 (Zy J Yn)) o.1 (Nat.lt_succ_of_lt hkp) BP (fun _ a6 c=>m_ (e_ (Xl J (fun v=>q_ J (m_ (m_ (b_ H1 J Pd (x2 (o.2.1 v) fun _ _ b4=>b4.elim fun _ a0=>Co (Zy H0 (Zy J (Zy J (Zy J Yn)))) a0.1 (Nat.lt_succ_of_lt hkp) a6 (fun o'22_0 _ c2 a8=>x_ J J (x_ J J (Ye H4 ((a8.1 (d,0) (Nat.lt_succ_self d) (Xi hkp)).trans ((c.1 (d,0) (Nat.lt_succ_self d) (Xi hkp)).trans B0)) J J J (m_ (Zp (hQ _ _ _ _ _ _ _ _ H4 Zi J (Jh hkp c2) (Fr.box (Fr.pass (Fr.pass FR c) a8)) a0.2))))))))))) (fun v=>q_ J (m_ ((o.2.2 v).elim fun _ c0=>c0.elim fun _ p=>Wa (Zy H0 (Zy J Yn)) p.1 (Nat.lt_succ_of_lt hkp) a6 (fun _ a7 e=>m_ (e_ (Xl J (fun w=>q_ J (m_ (m_ (b_ H1 J Pd (x2 (p.2.1 w) fun _ _ b5=>b5.elim fun _ a1=>Co (Zy H0 (Zy J (Zy J (Zy J Yn)))) a1.1 (Nat.lt_succ_of_lt hkp) a7 (fun o'40_0 _ c3 a9=>x_ J J (x_ J J (Ye H4 ((a9.1 (d,0) (Nat.lt_succ_self d) (Xi hkp)).trans ((e.1 (d,0) (Nat.lt_succ_self d) (Xi hkp)).trans ((c.1 (d,0) (Nat.lt_succ_self d) (Xi hkp)).trans B0))) J J J (m_ (Zp (hQ _ _ _ _ _ _ _ _ H4 Zi J (Jh hkp c3) (Fr.box (Fr.pass (Fr.pass (Fr.pass FR c) e) a9)) a1.2))))))))))) (fun w=>q_ J (m_ ((p.2.2 w).elim fun _ b9=>b9.elim fun _ q=>Wa (Zy H0 (Zy J Yn)) q.1 (Nat.lt_succ_of_lt hkp) a7 (fun _ k j=>m_ (e_ (Xl J (fun x=>q_ J (m_ (m_ (b_ H1 J Pd (x2 (q.2.1 x) fun _ _ b6=>b6.elim fun _ a3=>Co (Zy H0 (Zy J (Zy J (Zy J Yn)))) a3.1 (Nat.lt_succ_of_lt hkp) k (fun o'58_0 _ c4 b0=>x_ J J (x_ J J (Ye H4 ((b0.1 (d,0) (Nat.lt_succ_self d) (Xi hkp)).trans ((j.1 (d,0) (Nat.lt_succ_self d) (Xi hkp)).trans ((e.1 (d,0) (Nat.lt_succ_self d) (Xi hkp)).trans ((c.1 (d,0) (Nat.lt_succ_self d) (Xi hkp)).trans B0)))) J J J (m_ (Zp (hQ _ _ _ _ _ _ _ _ H4 Zi J (Jh hkp c4) (Fr.box (Fr.pass (Fr.pass (Fr.pass (Fr.pass FR c) e) j) b0)) a3.2))))))))))) (fun x=>q_ J (m_ (Wh H0 (f_ J (l_ J k J J ((q.2.2 x).elim fun _ r=>Gi J J (by decide) r.1 (b_ J J Xk (m_ (e_ (Yk J (fun y=>q_ J (m_ (x2 (r.2.1 y) fun _ _ b7=>b7.elim fun _ a4=>Wa (Zy H0 Yn) a4.1 (Nat.lt_succ_of_lt hkp) k (fun _ c6 b1=>m_ (x_ J J (x_ J J (m_ (m_ (e_ (q_ J (m_ (Xv (Yl J J (Yl J J Xn)) (m_ (Ye H4 ((b1.1 (d,0) (Nat.lt_succ_self d) (Xi hkp)).trans ((j.1 (d,0) (Nat.lt_succ_self d) (Xi hkp)).trans ((e.1 (d,0) (Nat.lt_succ_self d) (Xi hkp)).trans ((c.1 (d,0) (Nat.lt_succ_self d) (Xi hkp)).trans B0)))) J J J (m_ (Zp (hQ _ _ _ _ _ _ _ _ H4 Zi J (Jh hkp c6) (Fr.box (Fr.pass (Fr.pass (Fr.pass (Fr.pass FR c) e) j) b1)) a4.2))))))))))))))))) (fun y=>Yd (q_ J (m_ (x2 (r.2.2 y) fun _ _ b8=>b8.elim fun _ a5=>Wa (Zy H0 Yn) a5.1 (Nat.lt_succ_of_lt hkp) k (fun _ c7 b2=>m_ (x_ J J (x_ J J (m_ (m_ (e_ (q_ J (m_ (Xv (Yl J J (Yl J J Xn)) (m_ (Ye H4 ((b2.1 (d,0) (Nat.lt_succ_self d) (Xi hkp)).trans ((j.1 (d,0) (Nat.lt_succ_self d) (Xi hkp)).trans ((e.1 (d,0) (Nat.lt_succ_self d) (Xi hkp)).trans ((c.1 (d,0) (Nat.lt_succ_self d) (Xi hkp)).trans B0)))) J J J (m_ (Zp (hQ _ _ _ _ _ _ _ _ H4 Zi J (Jh hkp c7) (Fr.box (Fr.pass (Fr.pass (Fr.pass (Fr.pass FR c) e) j) b2)) a5.2))))))))))))))))))))))))))))))))))))))))))))))
include H0 H1 H4 Uy B0 BP FR in
theorem Xuf (h:Zi2 PG K nest1 t38 m0 mP):W PG d Yak σ st (Ya 0 (Zs PG d (sR 25 Sn (sR 26 Ts .ret)) Q)):=
 Xl Uy (fun c=>q_ J (Xv (Yl J J (Yl J J Xn)) (Ye H4 B0 J J J (m_ (Zp (hQ _ _ _ _ _ _ _ _ H4 Zi J (Jh hkp BP) (Fr.box FR) (h.1 c))))))) (fun c=>q_ J (m_ ((h.2 c).elim fun _ j=>j.elim fun _ e=>Wa (Zy H0 (Zy J Yn)) e.1 (Nat.lt_succ_of_lt hkp) BP (fun _ k i=>m_ (e_ (Whl hQ hkp H0 H1 H4 J ((i.1 (d,0) (Nat.lt_succ_self d) (Xi hkp)).trans B0) k (Fr.pass FR i) e.2))))))
include H0 H1 H4 H34 B0 BP FR in
theorem Wbv (h:Zs5 PG K nest1 t34 m0 mP):W PG d Zu0 σ st (Ya 0 (Zs PG d (sR 25 Sn (sR 26 Ts .ret)) Q)):=
 Xl H34 (fun c=>q_ J (Xv (Yl J J (Yl J J Xn)) (Ye H4 B0 J J J (m_ (Zp (hQ _ _ _ _ _ _ _ _ H4 Zi J (Jh hkp BP) (Fr.box FR) (h.1 c))))))) (fun c=>q_ J (m_ ((h.2 c).elim fun _ j=>j.elim fun _ e=>Wa (Zy H0 (Zy J Yn)) e.1 (Nat.lt_succ_of_lt hkp) BP (fun _ k i=>m_ (e_ (Xuf hQ hkp H0 H1 H4 J ((i.1 (d,0) (Nat.lt_succ_self d) (Xi hkp)).trans B0) k (Fr.pass FR i) e.2))))))
include H0 H1 H4 H30 B0 BP FR in
theorem Ynh (h:Zp0 PG K nest1 t30 m0 mP):W PG d Ztu σ st (Ya 0 (Zs PG d (sR 25 Sn (sR 26 Ts .ret)) Q)):=
 Xl H30 (fun c=>q_ J (Xv (Yl J J Xn) (Ye H4 B0 J J J (m_ (Zp (hQ _ _ _ _ _ _ _ _ H4 Zi J (Jh hkp BP) (Fr.box FR) (h.1 c))))))) (fun c=>q_ J (m_ ((h.2 c).elim fun _ j=>j.elim fun _ e=>Wa (Zy H0 (Zy J Yn)) e.1 (Nat.lt_succ_of_lt hkp) BP (fun _ k i=>m_ (e_ (Wbv hQ hkp H0 H1 H4 J ((i.1 (d,0) (Nat.lt_succ_self d) (Xi hkp)).trans B0) k (Fr.pass FR i) e.2))))))
include H0 H1 H4 Tx B0 BP FR in
theorem Ysy (h:Zjn PG K nest1 t26 m0 mP):W PG d Ych σ st (Ya 0 (Zs PG d (sR 25 Sn (sR 26 Ts .ret)) Q)):=
 Xl Tx (fun c=>q_ J (Xv (Yl J J Xn) (Ye H4 B0 J J J (m_ (Zp (hQ _ _ _ _ _ _ _ _ H4 Zi J (Jh hkp BP) (Fr.box FR) (h.1 c))))))) (fun c=>q_ J (m_ ((h.2 c).elim fun _ j=>j.elim fun _ e=>Wa (Zy H0 (Zy J Yn)) e.1 (Nat.lt_succ_of_lt hkp) BP (fun _ k i=>m_ (e_ (Ynh hQ hkp H0 H1 H4 J ((i.1 (d,0) (Nat.lt_succ_self d) (Xi hkp)).trans B0) k (Fr.pass FR i) e.2))))))
include H0 H1 H4 Kl B0 BP FR in
theorem Wic (h:Zjx PG K nest1 t22 m0 mP):W PG d Yar σ st (Ya 0 (Zs PG d (sR 25 Sn (sR 26 Ts .ret)) Q)):=
 Xl Kl (fun c=>q_ J (Xv (Yl J J (Yl J J Xn)) (Ye H4 B0 J J J (m_ (Zp (hQ _ _ _ _ _ _ _ _ H4 Zi J (Jh hkp BP) (Fr.box FR) (h.1 c))))))) (fun c=>q_ J (m_ ((h.2 c).elim fun _ j=>j.elim fun _ e=>Wa (Zy H0 (Zy J Yn)) e.1 (Nat.lt_succ_of_lt hkp) BP (fun _ k i=>m_ (e_ (Ysy hQ hkp H0 H1 H4 J ((i.1 (d,0) (Nat.lt_succ_self d) (Xi hkp)).trans B0) k (Fr.pass FR i) e.2))))))
include H0 H1 H4 B0 BP FR in
theorem Xfc (h:Zmc PG K nest1 m0 mP):W PG d Zv1 σ st Q:=
 Zm (Yj (q_ J (m_ (h.elim fun _ i=>i.elim fun _ c=>Wa (Zy H0 (Zy J Yn)) c.1 (Nat.lt_succ_of_lt hkp) BP (fun _ j e=>m_ (e_ (Wic hQ hkp H0 H1 H4 J ((e.1 (d,0) (Nat.lt_succ_self d) (Xi hkp)).trans B0) j (Fr.pass FR e) c.2)))))))
include H0 H1 H4 B0 BP FR in
theorem Ysa (h:Zcu PG K nest1 m0 mP):W PG d Zju σ st Q:=
 Zm (q_ J (Xh H1 (b_ J J Xk (Yt J (Yq (g:=14) J (fun c=>z_ 6 J (e_ (Yr J (q_ J (Xv Xn (Ye H4 B0 J J J (m_ (Zp (hQ _ _ _ _ _ _ _ _ H4 Zi J (Jh hkp BP) (Fr.box FR) (h.1 c)))))))))) (fun c=>Zd J (Ve H0 (Zd J (Wh J (Zd J (f_ J (Zd J (l_ J BP J J (Zd J (b_ J J Ns (Vp J J (e_ (Yk J (fun e=>q_ J (Xv Xn (Ye H4 B0 J J J (m_ (Zp (hQ _ _ _ _ _ _ _ _ H4 Zi J (Jh hkp BP) (Fr.box FR) ((h.2 c).1 e))))))) (fun e=>Yd (Xfc hQ hkp H0 H1 H4 B0 BP FR ((h.2 c).2 e)))))))))))))))))))))
include H0 H1 BP FR in
theorem Wa2 (h:Zd5 PG K nest1 mP):W PG d (sR 0 Zt0 Zju) σ st Q:=
 Zm (W.reg (Xs (m_ (e_ (Ysa (m0:=(Zb.mk 0 0 [] ([]:List Zb) false)) hQ hkp H0 H1 J (show lk _ (d,0)=some (_,([.i .u8 0,.i .i64 0,.s [],.sl .full (List.map Zb.row ([]:List Zb)),.b false]:List AV)) from Zi) (Jh hkp BP) (Fr.box FR) h)))))
end
theorem Yj1 {PG:Za}(hf:PG.fn 107=some Ct){nest1:Int}{mP:Sc}{K:Zb->Bool->Sc->Prop}(h:Zd5 PG K nest1 mP):Qk PG 107 (Bx [.s mP.left]) [.i .i64 nest1] (fun r (b_:Sc)=>∃res0:Zb,∃res1:Bool,(∃o_0:Zl,r=.tup [res0.avo o_0,.b res1])/\K res0 res1 b_) (fun b_=>(Bx [.s b_.left])):=
  Qk.of hf rfl (fun _=>Bx.out) fun d st kp vp hkp hB=>Wa2 (Zj:=st) (Q:=fun e σ st'=>(e=.normal\/e=.ret)/\∃r b_,Xg σ st' Ct.res=some r/\_/\_/\Fr d kp st.bx st.ow st'.bx st'.ow) (fun σ st' k0 v0 o_0 res0 res1 b_ H4 HB4 H5 hb hf hk=>⟨.inr rfl,.tup [res0.avo o_0,.b res1],b_,by simp only [Ct,Xg,Vc,Jq (n:=5) H4 HB4 rfl,H5,Ks,Option.map_some,Jq (n:=5) H4 HB4 rfl,H5],⟨res0,res1,⟨o_0,rfl⟩,hk⟩,hb,hf⟩) hkp (σ:=Xz [.p kp vp 0,.i .i64 nest1]) rfl rfl hB Fr.refl h
def Zyi:List AI:=[oO 2 (.alloc [z8,z6,zs,zl,zb]),oI 3 0]
def Zw7:List AI:=[oM 9 0,oH 10 9,oV 11 .gtr 10 1400000]
def Zuh:List AI:=[oO 12 (.build [z8,z6,zs,zl,zb] []),oS 5 2 12,oI 3 4]
def Zx9:List AI:=[oM 13 0,oO 14 (.build [zs] [(0,1,(.t 13))]),oY 15 1 14,oM 4 15]
def Ybg:List AI:=[oM 17 4,oO 18 (.call true 107 [(.t 17),(.c (.i .i64 130))]),oM 16 18,oE 19 0 16,oE 20 1 16,oO 5 (.alloc [z8,z6,zs,zl,zb]),oS 5 5 19,oM 6 20]
def Zxx:List AI:=[oM 21 6,oZ 22 21,oM 23 22,gF 23 (oM 24 4),gF 23 (oN 25 24),gF 23 (oF 26 0 25),gF 23 (oL 27 26),gF 23 (oB 28 .neq (.t 27) (.c (.s []))),oR 29 23 28]
def Yl8:List AI:=[oO 30 (.build [z8,z6,zs,zl,zb] []),oS 5 2 30,oI 3 12]
def Zxq:List AI:=[oK 32 5 5,oQ 33 72 [32],oM 31 33,oE 34 0 31,oE 35 1 31,oM 7 34,oM 8 35]
def Ygt:List AI:=[oM 36 8,oV 37 .neq 36 0,oM 38 37,gF 38 (oM 39 7),gF 38 (oM 40 0),gF 38 (oT 41 .neq 39 40),oR 42 38 41]
def Zyg:List AI:=[oO 43 (.build [z8,z6,zs,zl,zb] []),oS 5 2 43,oI 3 12]
def Zwl:List AI:=[oK 44 5 5,oS 5 2 44,oI 3 0]
abbrev b74:AC:=(sR 0 Zyi (.seq (sR 1 Zw7 (.cond (.t 11) (sR 2 Zuh .ret) .skip)) (sR 3 Zx9 (sR 4 Ybg (.seq (sR 5 Zxx (.cond (.t 29) (sR 6 Yl8 .ret) .skip)) (.seq (sR 7 Zxq (sR 8 Ygt (.cond (.t 42) (sR 9 Zyg .ret) .skip))) (sR 10 Zwl .ret)))))))
def Ee:AF:={ nt:=45,res:=[.cell 2 5 true,.tmp 3],body:=b74 }
abbrev H74 (Q:AE->Sl->St->Prop)(K:Zb->Int->Prop):Prop:=∀(σ:Sl)(st:St)(k0:Zo)(v0:Nat)(o0_0:Zl)(res0:Zb)(res1:Int),σ 2=.p k0 v0 0->lk st.bx k0=some (v0,[.i .u8 res0.kind,.i .i64 res0.int,.s res0.text,.sl o0_0 (List.map Zb.row res0.list),.b res0.cut])->σ 3=.i .i64 res1->K res0 res1->Q .ret σ st
def Zn5 (PG:Za)(K:Zb->Int->Prop)(s0:BS):Prop:=
  ((s0.length:Int)>1400000->K (Zb.mk 0 0 [] ([]:List Zb) false) 4)/\(¬((s0.length:Int)>1400000)->∃o:Zb,∃c,∃e:Sc,Yp PG 107 (Bx [.s s0]) [.i .i64 130] (fun r=>∃o'4_0:Zl,r=.tup [o.avo o'4_0,.b c]) ((Bx [.s e.left]))/\((!c)=true->K (Zb.mk 0 0 [] ([]:List Zb) false) 12)/\((!c)=false->(e.left≠([]:BS)->K (Zb.mk 0 0 [] ([]:List Zb) false) 12)/\(¬(e.left≠([]:BS))->∃j k,Ze PG 72 [o.av] (.tup [.s j,.i .i64 k])/\(k≠0->K (Zb.mk 0 0 [] ([]:List Zb) false) 12)/\(¬(k≠0)->(j≠s0->K (Zb.mk 0 0 [] ([]:List Zb) false) 12)/\(¬(j≠s0)->K o 0)))))
section
variable {PG:Za}{d:Nat}{Q:AE->Sl->St->Prop}{K:Zb->Int->Prop}(hQ:H74 Q K){σ:Sl}{st:St}
include hQ
variable {s0:BS}
variable (H0:σ 0=.s s0)
include H0 in
theorem Xur (h:Zn5 PG K s0):W PG d (sR 0 Zyi (.seq (sR 1 Zw7 (.cond (.t 11) (sR 2 Zuh .ret) .skip)) (sR 3 Zx9 (sR 4 Ybg (.seq (sR 5 Zxx (.cond (.t 29) (sR 6 Yl8 .ret) .skip)) (.seq (sR 7 Zxq (sR 8 Ygt (.cond (.t 42) (sR 9 Zyg .ret) .skip))) (sR 10 Zwl .ret))))))) σ st Q:=
 Zm (W.reg (Xs (m_ (e_ (Zm (q_ J (m_ (Hf H0 (b_ J J Vz (e_ (Yk J (fun p=>q_ J (Xv Xn (Ye J (show lk _ (d,0)=some (_,([.i .u8 0,.i .i64 0,.s [],.sl .full (List.map Zb.row ([]:List Zb)),.b false]:List AV)) from Zi) J J J (m_ (Zp (hQ _ _ _ _ _ _ _ J Zi J (h.1 p))))))) (fun p=>Yd (q_ J (m_ (Xv (Yl H0 J Xn) (Vs J J (m_ (e_ (Zm (W.reg (m_ (x2 (h.2 p) fun _ _ u=>u.elim fun _ j=>Co (Zy J (Zy J Yn)) j.1 (Nat.lt_succ_self d) (Zt J Zi) (fun o'4_0 _ v c=>m_ (x_ J J (x_ J J (Xs (Ye J ((c.1 (d,16389) (Nat.lt_succ_self d) (Wc J)).trans (show lk _ (d,16389)=some (_,([.i .u8 0,.i .i64 0,.s [],.sl .full (List.map Zb.row ([]:List Zb)),.b false]:List AV)) from Zi)) J J J (m_ (e_ (Zm (q_ J (Yt J (Xx J (Yt J (Qf (g:=23) J (fun k=>z_ 6 J (e_ (Yr J (q_ J (Xv Xn (Ye J (Zt J ((c.1 (d,0) (Nat.lt_succ_self d) (Wc J)).trans (Zt J (Zt J (show lk _ (d,0)=some (_,([.i .u8 0,.i .i64 0,.s [],.sl .full (List.map Zb.row ([]:List Zb)),.b false]:List AV)) from Zi))))) J J J (m_ (Zp (hQ _ _ _ _ _ _ _ J Zi J (j.2.1 k)))))))))) (fun k=>Zd J (Ve J (Zd J (Wh J (Zd J (f_ J (Zd J (l_ J (Zt J v) J J (Zd J (b_ J J Tg (Vp J J (e_ (Yk J (fun q=>q_ J (Xv Xn (Ye J (Zt J ((c.1 (d,0) (Nat.lt_succ_self d) (Wc J)).trans (Zt J (Zt J (show lk _ (d,0)=some (_,([.i .u8 0,.i .i64 0,.s [],.sl .full (List.map Zb.row ([]:List Zb)),.b false]:List AV)) from Zi))))) J J J (m_ (Zp (hQ _ _ _ _ _ _ _ J Zi J ((j.2.2 k).1 q))))))) (fun q=>Yd (Zm (q_ J (l_ J Zi J J (x2 ((j.2.2 k).2 q) fun _ _ e=>Yg (Wm J J) e.1 (m_ (x_ J J (x_ J J (m_ (m_ (e_ (q_ J (Xh J (b_ J J Vd (Yt J (Yq (g:=38) J (fun o=>z_ 4 J (e_ (Yr J (q_ J (Xv Xn (Ye J (Zt J ((c.1 (d,0) (Nat.lt_succ_self d) (Wc J)).trans (Zt J (Zt J (show lk _ (d,0)=some (_,([.i .u8 0,.i .i64 0,.s [],.sl .full (List.map Zb.row ([]:List Zb)),.b false]:List AV)) from Zi))))) J J J (m_ (Zp (hQ _ _ _ _ _ _ _ J Zi J (e.2.1 o)))))))))) (fun o=>Zd J (Qs J (Zd J (Qs H0 (Zd J (b_ J J Tg (Vp J J (e_ (Yk J (fun r=>q_ J (Xv Xn (Ye J (Zt J ((c.1 (d,0) (Nat.lt_succ_self d) (Wc J)).trans (Zt J (Zt J (show lk _ (d,0)=some (_,([.i .u8 0,.i .i64 0,.s [],.sl .full (List.map Zb.row ([]:List Zb)),.b false]:List AV)) from Zi))))) J J J (m_ (Zp (hQ _ _ _ _ _ _ _ J Zi J ((e.2.2 o).1 r))))))) (fun r=>Yd (q_ J (l_ J Zi J J (Ye J (Zt J ((c.1 (d,0) (Nat.lt_succ_self d) (Wc J)).trans (Zt J (Zt J (show lk _ (d,0)=some (_,([.i .u8 0,.i .i64 0,.s [],.sl .full (List.map Zb.row ([]:List Zb)),.b false]:List AV)) from Zi))))) J J J (m_ (Zp (hQ _ _ _ _ _ _ _ J Zi J ((e.2.2 o).2 r)))))))))))))))))))))))))))))))))))))))))))))))))))))))))))))))))))))))))))))))))
end
theorem p74 {PG:Za}(hf:PG.fn 74=some Ee){s0:BS}{K:Zb->Int->Prop}(h:Zn5 PG K s0) :∃res0:Zb,∃res1:Int,K res0 res1/\Ze PG 74 [.s s0] (.tup [res0.av,.i .i64 res1]):=by
  obtain ⟨v,hv,res0,res1,hk,rfl⟩:=Ze.of (K:=fun v=>∃res0:Zb,∃res1:Int,K res0 res1/\v=.tup [res0.av,.i .i64 res1]) hf rfl (Xur (σ:=Xz [.s s0]) (fun σ st k0 v0 o0_0 res0 res1 H2 HB2 H3 hk=>⟨.tup [res0.avo o0_0,.i .i64 res1],by simp only [Ee,Xg,Vc,Jq (n:=5) H2 HB2 rfl,H3,Ks,Option.map_some],_,rfl,res0,res1,hk,rfl⟩) rfl h)
  exact ⟨res0,res1,hk,hv⟩
abbrev H75 (Q:AE->Sl->St->Prop)(K:Zb->Int->Prop):Prop:=∀(σ:Sl)(st:St)(k0:Zo)(v0:Nat)(o0_0:Zl)(res0:Zb)(res1:Int),σ 2=.p k0 v0 0->lk st.bx k0=some (v0,[.i .u8 res0.kind,.i .i64 res0.int,.s res0.text,.sl o0_0 (List.map Zb.row res0.list),.b res0.cut])->σ 3=.i .i64 res1->K res0 res1->Q .ret σ st
section
variable {PG:Za}{d:Nat}{Q:AE->Sl->St->Prop}{K:Zb->Int->Prop}(hQ:H75 Q K){σ:Sl}{st:St}
include hQ
end
abbrev Xqx (Q:AE->Sl->St->Prop)(K:Zb->BS->Bool->Prop):Prop:=∀(σ:Sl)(st:St)(k0:Zo)(v0:Nat)(o0_0:Zl)(res0:Zb)(res1:BS)(res2:Bool),σ 4=.p k0 v0 0->lk st.bx k0=some (v0,[.i .u8 res0.kind,.i .i64 res0.int,.s res0.text,.sl o0_0 (List.map Zb.row res0.list),.b res0.cut])->σ 5=.s res1->σ 6=.b res2->K res0 res1 res2->Q .ret σ st
section
variable {PG:Za}{d:Nat}{Q:AE->Sl->St->Prop}{K:Zb->BS->Bool->Prop}(hQ:Xqx Q K){σ:Sl}{st:St}
include hQ
end
abbrev Wi6 (Q:AE->Sl->St->Prop)(K:Bool->Prop):Prop:=∀(σ:Sl)(st:St)(res0:Bool),σ 4=.b res0->K res0->Q .ret σ st
section
variable {PG:Za}{d:Nat}{Q:AE->Sl->St->Prop}{K:Bool->Prop}(hQ:Wi6 Q K){σ:Sl}{st:St}
include hQ
end
abbrev Xpt (Q:AE->Sl->St->Prop)(K:Zb->BS->Bool->Prop):Prop:=∀(σ:Sl)(st:St)(k0:Zo)(v0:Nat)(o0_0:Zl)(res0:Zb)(res1:BS)(res2:Bool),σ 8=.p k0 v0 0->lk st.bx k0=some (v0,[.i .u8 res0.kind,.i .i64 res0.int,.s res0.text,.sl o0_0 (List.map Zb.row res0.list),.b res0.cut])->σ 9=.s res1->σ 10=.b res2->K res0 res1 res2->Q .ret σ st
section
variable {PG:Za}{d:Nat}{Q:AE->Sl->St->Prop}{K:Zb->BS->Bool->Prop}(hQ:Xpt Q K){σ:Sl}{st:St}
include hQ
end
abbrev Ynm (Q:AE->Sl->St->Prop)(K:Int->Prop):Prop:=∀(σ:Sl)(st:St)(res0:Int),σ 2=.i .i64 res0->K res0->Q .ret σ st
section
variable {PG:Za}{d:Nat}{Q:AE->Sl->St->Prop}{K:Int->Prop}(hQ:Ynm Q K){σ:Sl}{st:St}
include hQ
end
abbrev Wdt (Q:AE->Sl->St->Prop)(K:Int->Prop):Prop:=∀(σ:Sl)(st:St)(res0:Int),σ 2=.i .i64 res0->K res0->Q .ret σ st
section
variable {PG:Za}{d:Nat}{Q:AE->Sl->St->Prop}{K:Int->Prop}(hQ:Wdt Q K){σ:Sl}{st:St}
include hQ
end
def Ydk:List AI:=[oY 2 5 0,oY 3 5 1,oC 4 (.b false)]
def Zxz:List AI:=[oF 6 0 2,oL 7 6,oF 8 0 3,oL 9 8,oT 10 .neq 7 9,oM 11 10,gF 11 (oF 12 1 2),gF 11 (oL 13 12),gF 11 (oF 14 1 3),gF 11 (oL 15 14),gF 11 (oT 16 .neq 13 15),oR 17 11 16,oM 18 17,gF 18 (oF 19 2 2),gF 18 (oL 20 19),gF 18 (oF 21 2 3),gF 18 (oL 22 21),gF 18 (oT 23 .neq 20 22),oR 24 18 23,oM 25 24,gF 25 (oF 26 4 2),gF 25 (oL 27 26),gF 25 (oF 28 4 3),gF 25 (oL 29 28),gF 25 (oO 30 (.beq true (.t 27) (.t 29))),oR 31 25 30,oM 32 31,gF 32 (oF 33 3 2),gF 32 (oL 34 33),gF 32 (oJ 35 34),gF 32 (oF 36 3 3),gF 32 (oL 37 36),gF 32 (oJ 38 37),gF 32 (oT 39 .neq 35 38),oR 40 32 39]
def Ye9:List AI:=[oC 4 (.b false)]
def Zwq:List AI:=[oI 5 0]
def Yta:List AI:=[oM 41 5,oF 42 3 2,oL 43 42,oJ 44 43,oT 45 .lss 41 44]
def Xbi:List AI:=[oF 48 3 2,oL 49 48,oM 50 5,oX 51 5 49 50,oK 52 5 51,oF 53 3 3,oL 54 53,oM 55 5,oX 56 5 54 55,oK 57 5 56,oQ 58 78 [52,57],oZ 59 58]
def Xc8:List AI:=[oC 4 (.b false)]
def Xrg:List AI:=[oM 46 5,oV 47 .add 46 1,oM 5 47]
def Xwn:List AI:=[oC 4 (.b true)]
abbrev Ay:AC:=(.seq (sR 4 Yta (.cond (.t 45) .skip (.exit 0))) (.seq (.block 1 (sR 6 Xbi (.cond (.t 59) (sR 7 Xc8 .ret) .skip))) (.reg 5 Xrg)))
abbrev Zaq:AC:=(sR 8 Xwn .ret)
abbrev b78:AC:=(sR 0 Ydk (.seq (sR 1 Zxz (.cond (.t 40) (sR 2 Ye9 .ret) .skip)) (.seq (sR 3 Zwq (.block 0 (.loop Ay))) Zaq)))
def Zh4:AF:={ nt:=60,res:=[.tmp 4],body:=b78 }
abbrev Zw5 (PG:Za)(d:Nat)(Q:AE->Sl->St->Prop)(i5:Int)(m0:Zb)(m1:Zb):Prop:=
  ∀(σ:Sl)(st:St) (v0 v1:Nat),σ 2=.p (d,0) v0 0->σ 3=.p (d,1) v1 0->σ 5=.i .i64 i5->lk st.bx (d,0)=some (v0,Zb.cs m0)->lk st.bx (d,1)=some (v1,Zb.cs m1)->W PG d (.loop Ay) σ st (Ya 0 (Zs PG d Zaq Q))
def Ziz (PG:Za)(K:Bool->Prop) :Prop:=
  K true
def Zh5 (PG:Za)(K:Bool->Prop)(P0:Int->Zb->Zb->Prop)(i5:Int)(m0:Zb)(m1:Zb):Prop:=
  (i5<(m0.list.length:Int)->0<=i5/\∃e:Zb,m0.list[(i5).toNat]?=some e/\0<=i5/\∃i:Zb,m1.list[(i5).toNat]?=some i/\∃c,Ze PG 78 [e.av,i.av] (.b c)/\((!c)=true->K false)/\((!c)=false->P0 (IntKind.i64.wrap (i5+1)) m0 m1))/\(¬(i5<(m0.list.length:Int))->Ziz PG K )
def Zr4 (PG:Za)(K:Bool->Prop)(a0:Zb)(b1:Zb):Prop:=
  (a0.kind≠b1.kind->K false)/\(¬(a0.kind≠b1.kind)->(a0.int≠b1.int->K false)/\(¬(a0.int≠b1.int)->(a0.text≠b1.text->K false)/\(¬(a0.text≠b1.text)->(a0.cut≠b1.cut->K false)/\(¬(a0.cut≠b1.cut)->((a0.list.length:Int)≠(b1.list.length:Int)->K false)/\(¬((a0.list.length:Int)≠(b1.list.length:Int))->∀P0:Int->Zb->Zb->Prop,(∀(i5:Int)(m0:Zb)(m1:Zb),Zh5 PG K P0 i5 m0 m1->P0 i5 m0 m1)->P0 0 a0 b1)))))
section
variable {PG:Za}{d:Nat}{Q:AE->Sl->St->Prop}{K:Bool->Prop}(hQ:H1 AV.b 4 Q K){σ:Sl}{st:St}
include hQ
variable {i5:Int}{m0 m1:Zb}{P0:Int->Zb->Zb->Prop}{v0 v1:Nat}{a0 b1:Zb}
variable (kP0 :∀(i5:Int)(m0:Zb)(m1:Zb),P0 i5 m0 m1->Zw5 PG d Q i5 m0 m1)(H0:σ 0=a0.av)(H2:σ 2=.p (d,0) v0 0)(H1:σ 1=b1.av)(H3:σ 3=.p (d,1) v1 0)(H5:σ 5=.i .i64 i5)(B0:lk st.bx (d,0)=some (v0,Zb.cs m0))(B1:lk st.bx (d,1)=some (v1,Zb.cs m1))
theorem Xex (h:Ziz PG K ):W PG d Zaq σ st Q:=
 au trivial
include kP0 H2 H3 H5 B0 B1 in
theorem Wft (h:Zh5 PG K P0 i5 m0 m1):W PG d Ay σ st (Zs PG d (.loop Ay) (Ya 0 (Zs PG d Zaq Q))):=
 au @Xex
include H0 H1 in
theorem Wei (h:Zr4 PG K a0 b1):W PG d (sR 0 Ydk (.seq (sR 1 Zxz (.cond (.t 40) (sR 2 Ye9 .ret) .skip)) (.seq (sR 3 Zwq (.block 0 (.loop Ay))) Zaq))) σ st Q:=
 q_ J (Vs H0 J (Vs H1 J (m_ (e_ (Zm (q_ J (f_ J (l_ J (Zt J Zi) J J (f_ J (l_ J Zi J J (b_ J J Vd (Yt J (Yq (g:=11) J (fun c=>z_ 29 J (e_ (Yr J (q_ J (m_ (Zp (hQ J (h.1 c)))))))) (fun c=>Zd J (f_ J (Zd J (l_ J (Zt J Zi) J J (Zd J (f_ J (Zd J (l_ J Zi J J (Zd J (b_ J J Vd (z_ 2 J (Yq (g:=18) J (fun e=>z_ 22 J (e_ (Yr J (q_ J (m_ (Zp (hQ J ((h.2 c).1 e)))))))) (fun e=>Zd J (f_ J (Zd J (l_ J (Zt J Zi) J J (Zd J (f_ J (Zd J (l_ J Zi J J (Zd J (b_ J J Tg (z_ 2 J (Yq (g:=25) J (fun i=>z_ 15 J (e_ (Yr J (q_ J (m_ (Zp (hQ J (((h.2 c).2 e).1 i)))))))) (fun i=>Zd J (f_ J (Zd J (l_ J (Zt J Zi) J J (Zd J (f_ J (Zd J (l_ J Zi J J (Zd J (Zhd J J (z_ 2 J (Yq (g:=32) J (fun j=>z_ 8 J (e_ (Yr J (q_ J (m_ (Zp (hQ J ((((h.2 c).2 e).2 i).1 j)))))))) (fun j=>Zd J (f_ J (Zd J (l_ J (Zt J Zi) J J (Zd J (Xc J (Zd J (f_ J (Zd J (l_ J Zi J J (Zd J (Xc J (Zd J (b_ J J Vd (Vp J J (e_ (Yk J (fun k=>q_ J (m_ (Zp (hQ J (((((h.2 c).2 e).2 i).2 j).1 k))))) (fun k=>Yd (Zm (q_ J (m_ (e_ (Yj ((((((h.2 c).2 e).2 i).2 j).2 k) (Zw5 PG d Q ) (fun _ _ _ hb _ _ _ _ H2 H3 H5 B0 B1=>W.loop (Wft hQ (fun _ _ _ x=>x) H2 H3 H5 B0 B1 hb)) _ _ _ _ J J J (Zt J Zi) Zi)))))))))))))))))))))))))))))))))))))))))))))))))))))))))))))))))))))))))
end
theorem p78 {PG:Za}(hf:PG.fn 78=some Zh4){a0:Zb}{b1:Zb}{K:Bool->Prop}(h:Zr4 PG K a0 b1) :∃res0:Bool,K res0/\Ze PG 78 [a0.av,b1.av] (.b res0):=
 P1 hf J (Wei (h1 J fun _=>J) J J h)
end Go.AM

/- Yf of the proof. -/
namespace Go.AM
open Go
set_option linter.unusedVariables false
set_option linter.unusedSimpArgs false
set_option maxRecDepth 4000
set_option maxHeartbeats 2000000
attribute [local irreducible] Decidable.decide W WO Wq Ws
def Yeu:List AI:=[oC 2 (.s []),oC 3 (.b false)]
def Xoa:List AI:=[oI 4 1]
def Xwm:List AI:=[oM 8 4,oM 9 0,oN 10 9,oF 11 0 10,oL 12 11,oH 13 12,oT 14 .geq 8 13,oM 7 14]
def Xax:List AI:=[oC 2 (.s []),oC 3 (.b false)]
def Web:List AI:=[oM 16 0,oN 17 16,oF 18 0 17,oL 19 18,oM 20 4,oO 21 (.ixS (.t 19) (.t 20)),oW 22 .eql 21 92,oM 15 22]
def Xsz:List AI:=[oM 23 4,oV 24 .add 23 2,oM 4 24]
def Yoc:List AI:=[oM 26 0,oN 27 26,oF 28 0 27,oL 29 28,oM 30 4,oO 31 (.ixS (.t 29) (.t 30)),oW 32 .neq 31 34,oM 25 32]
def Xc6:List AI:=[oM 33 4,oV 34 .add 33 1,oM 4 34]
def Xzq:List AI:=[oM 36 0,oN 37 36,oF 38 0 37,oL 39 38,oM 40 4,oV 41 .add 40 1,oO 42 (.slS (.t 39) none (some (.t 41))),oQ 43 25 [42],oM 35 43,oE 44 0 35,oE 45 1 35,oM 5 44,oM 6 45]
def Yut:List AI:=[oM 46 0,oM 47 0,oN 48 47,oF 49 0 48,oL 50 49,oM 51 4,oV 52 .add 51 1,oO 53 (.slS (.t 50) (some (.t 52)) none),oN 54 46,oF 55 0 54,oS 1 55 53]
def Xuu:List AI:=[oM 56 5,oM 57 6,oV 58 .eql 57 0,oM 2 56,oM 3 58]
abbrev Zgn:AC:=(.seq (.block 0 (sR 2 Xwm (.cond (.t 7) (sR 3 Xax .ret) (sR 4 Web (.cond (.t 15) (sR 5 Xsz (.goto 0)) (sR 6 Yoc (.cond (.t 25) (sR 7 Xc6 (.goto 0)) .skip))))))) (sR 8 Xzq (sR 9 Yut (sR 10 Xuu .ret))))
abbrev Zn2:AC:=(.gscope 0 (.reg 1 Xoa) Zgn)
abbrev Xss:AC:=(sR 0 Yeu Zn2)
def Pg:AF:={ nt:=59,res:=[.tmp 2,.tmp 3],body:=Xss }
abbrev Yqp (d:Nat)(Zj:St)(kp:Zo)(vp:Nat)(Q:AE->Sl->St->Prop)(K:BS->Bool->Sc->Prop):Prop:=∀(σ:Sl)(st:St)(res0:BS)(res1:Bool)(b_:Sc),σ 2=.s res0->σ 3=.b res1->lk st.bx kp=some (vp,[.s b_.left])->Fr d kp Zj.bx Zj.ow st.bx st.ow->K res0 res1 b_->Q .ret σ st
abbrev Ybr (PG:Za)(d:Nat)(Q:AE->Sl->St->Prop)(Zj:St)(kp:Zo)(vp:Nat)(n4:Int)(mP:Sc):Prop:=
  ∀(σ:Sl)(st:St),σ 0=.p kp vp 0->σ 4=.i .i64 n4->lk st.bx kp=some (vp,[.s mP.left])->Fr d kp Zj.bx Zj.ow st.bx st.ow->WG PG d 0 Zgn σ st Q
def Zmi (PG:Za)(K:BS->Bool->Sc->Prop)(P0:Int->Sc->Prop)(n4:Int)(mP:Sc):Prop:=
  (n4>=(mP.left.length:Int)->K ([]:BS) false mP)/\(¬(n4>=(mP.left.length:Int))->0<=n4/\∃c:UInt8,mP.left[(n4).toNat]?=some c/\((c.toNat:Int)=92->P0 (IntKind.i64.wrap (n4+2)) mP)/\(¬((c.toNat:Int)=92)->0<=n4/\∃e:UInt8,mP.left[(n4).toNat]?=some e/\((e.toNat:Int)≠34->P0 (IntKind.i64.wrap (n4+1)) mP)/\(¬((e.toNat:Int)≠34)->0<=(IntKind.i64.wrap (n4+1))/\(IntKind.i64.wrap (n4+1)).toNat<=mP.left.length/\∃j k,Ze PG 25 [.s (mP.left.take (IntKind.i64.wrap (n4+1)).toNat)] (.tup [.s j,.i .i64 k])/\0<=(IntKind.i64.wrap (n4+1))/\(IntKind.i64.wrap (n4+1)).toNat<=mP.left.length/\K j (decide (k=0)) (Sc.mk (mP.left.drop (IntKind.i64.wrap (n4+1)).toNat)))))
def Zkg (PG:Za)(K:BS->Bool->Sc->Prop)(mP:Sc):Prop:=
  ∀P0:Int->Sc->Prop,(∀(n4:Int)(mP:Sc),Zmi PG K P0 n4 mP->P0 n4 mP)->P0 1 mP
def Zmx (PG:Za)(K:BS->Bool->Sc->Prop)(mP:Sc):Prop:=
  Zkg PG K mP
section
variable {PG:Za}{d:Nat}{Q:AE->Sl->St->Prop}{K:BS->Bool->Sc->Prop}{Zj:St}{kp:Zo}{vp:Nat}(hQ:Yqp d Zj kp vp Q K)(hkp:kp.1<d){σ:Sl}{st:St}
include hQ hkp
variable {n4:Int}{mP:Sc}{P0:Int->Sc->Prop}
variable (kP0 :∀(n4:Int)(mP:Sc),P0 n4 mP->Ybr PG d Q Zj kp vp n4 mP)(H0:σ 0=.p kp vp 0)(H4:σ 4=.i .i64 n4)(BP:lk st.bx kp=some (vp,[.s mP.left]))(FR:Fr d kp Zj.bx Zj.ow st.bx st.ow)
include kP0 H0 H4 BP FR in
theorem Xd2 (h:Zmi PG K P0 n4 mP):W PG d Zgn σ st (Zma PG d 0 Zgn Q):=
 Zm (Yj (q_ J (m_ (m_ (Wh H0 (f_ J (l_ J BP J J (Hf J (b_ H4 J Gb (m_ (e_ (Yk J (fun k=>q_ J (m_ (m_ (Zp (hQ _ _ _ _ _ J J BP FR (h.1 k)))))) (fun k=>q_ J (m_ (Wh H0 (f_ J (l_ J BP J J (m_ ((h.2 k).2.elim fun _ j=>Gi J H4 (h.2 k).1 j.1 (b_ J J Xk (m_ (e_ (Yk J (fun o=>q_ J (m_ (b_ H4 J Jf (m_ (e_ (W.goto ⟨rfl,kP0 _ _ (j.2.1 o) _ _ H0 J BP FR⟩)))))) (fun o=>q_ J (m_ (Wh H0 (f_ J (l_ J BP J J (m_ ((j.2.2 o).2.elim fun _ c=>Gi J H4 (j.2.2 o).1 c.1 (b_ J J Vd (m_ (e_ (Yk J (fun e=>q_ J (m_ (b_ H4 J Jf (m_ (e_ (W.goto ⟨rfl,kP0 _ _ (c.2.1 e) _ _ H0 J BP FR⟩)))))) (fun e=>Yd (q_ J (m_ (Wh H0 (f_ J (l_ J BP J J (m_ (b_ H4 J Jf (Mn J J (c.2.2 e).1 (c.2.2 e).2.1 (x2 (c.2.2 e).2.2 fun _ _ i=>Yg (Wm J J) i.1 (m_ (x_ J J (x_ J J (m_ (m_ (e_ (q_ J (m_ (m_ (Wh H0 (f_ J (l_ J BP J J (m_ (b_ H4 J Jf (Gu J J i.2.1 i.2.2.1 (Wh H0 (f_ J (Ye J BP J J J (e_ (q_ J (m_ (m_ (b_ J J Xk (m_ (m_ (Zp (hQ _ _ _ _ _ J J Zi (Fr.own FR) i.2.2.2)))))))))))))))))))))))))))))))))))))))))))))))))))))))))))))))))))))))
include H0 BP FR in
theorem Xrp (h:Zkg PG K mP):W PG d Zn2 σ st Q:=
 W.gscope' (W.reg0 J fun _ _=>m_ (e_ (h (Ybr PG d Q Zj kp vp ) (fun _ _ hb _ _ H0 H4 BP FR=>WG.step (Xd2 hQ hkp (fun _ _ x=>x) H0 H4 BP FR hb)) _ _ H0 J BP FR)))
include H0 BP FR in
theorem Xti (h:Zmx PG K mP):W PG d (sR 0 Yeu Zn2) σ st Q:=
 au @Xrp
end
theorem Yq1 {PG:Za}(hf:PG.fn 130=some Pg){mP:Sc}{K:BS->Bool->Sc->Prop}(h:Zmx PG K mP):Qk PG 130 (Bx [.s mP.left]) [] (fun r (b_:Sc)=>∃res0:BS,∃res1:Bool,(r=.tup [.s res0,.b res1])/\K res0 res1 b_) (fun b_=>(Bx [.s b_.left])):=
  Qk.of hf rfl (fun _=>Bx.out) fun d st kp vp hkp hB=>Xti (Zj:=st) (Q:=fun e σ st'=>(e=.normal\/e=.ret)/\∃r b_,Xg σ st' Pg.res=some r/\_/\_/\Fr d kp st.bx st.ow st'.bx st'.ow) (fun σ st'   res0 res1 b_ H2 H3 hb hf hk=>⟨.inr rfl,.tup [.s res0,.b res1],b_,by simp only [Pg,Xg,Vc,H2,H3,Ki,Option.map_some,H2,H3],⟨res0,res1,rfl,hk⟩,hb,hf⟩) hkp (σ:=Xz [.p kp vp 0]) rfl hB Fr.refl h
def Yki:List AI:=[oI 2 0,oC 3 (.b false)]
def Wbt:List AI:=[oI 4 0]
def Yxs:List AI:=[oM 7 4,oM 8 0,oN 9 8,oF 10 0 9,oL 11 10,oH 12 11,oT 13 .lss 7 12,oM 14 13,gT 14 (oM 15 0),gT 14 (oN 16 15),gT 14 (oF 17 0 16),gT 14 (oL 18 17),gT 14 (oM 19 4),gT 14 (oO 20 (.ixS (.t 18) (.t 19))),gT 14 (oW 21 .geq 20 48),gT 14 (oM 22 21),gT 22 (oM 23 0),gT 22 (oN 24 23),gT 22 (oF 25 0 24),gT 22 (oL 26 25),gT 22 (oM 27 4),gT 22 (oO 28 (.ixS (.t 26) (.t 27))),gT 22 (oW 29 .leq 28 57),gT 14 (oA 30 22 29),gT 14 (oM 31 30),gF 31 (oM 32 4),gF 31 (oV 33 .eql 32 0),gF 31 (oM 34 33),gT 34 (oM 35 0),gT 34 (oN 36 35),gT 34 (oF 37 0 36),gT 34 (oL 38 37),gT 34 (oM 39 4),gT 34 (oO 40 (.ixS (.t 38) (.t 39))),gT 34 (oW 41 .eql 40 45),gF 31 (oA 42 34 41),gT 14 (oR 43 31 42),oA 44 14 43]
def Xw3:List AI:=[oM 45 4,oV 46 .add 45 1,oM 4 46]
def Ywd:List AI:=[oM 48 0,oN 49 48,oF 50 0 49,oL 51 50,oM 52 4,oO 53 (.slS (.t 51) none (some (.t 52))),oQ 54 21 [53],oM 47 54,oE 55 0 47,oE 56 1 47,oM 5 55,oM 6 56]
def Xjq:List AI:=[oM 57 0,oM 58 0,oN 59 58,oF 60 0 59,oL 61 60,oM 62 4,oO 63 (.slS (.t 61) (some (.t 62)) none),oN 64 57,oF 65 0 64,oS 1 65 63]
def Yy0:List AI:=[oM 66 5,oM 67 6,oV 68 .eql 67 0,oM 2 66,oM 3 68]
abbrev Zgv:AC:=(.seq (sR 2 Yxs (.cond (.t 44) (sR 3 Xw3 (.goto 0)) .skip)) (sR 4 Ywd (sR 5 Xjq (sR 6 Yy0 .ret))))
abbrev Zjw:AC:=(.gscope 0 (.reg 1 Wbt) Zgv)
abbrev Xq9:AC:=(sR 0 Yki Zjw)
def Lw:AF:={ nt:=69,res:=[.tmp 2,.tmp 3],body:=Xq9 }
abbrev Xml (d:Nat)(Zj:St)(kp:Zo)(vp:Nat)(Q:AE->Sl->St->Prop)(K:Int->Bool->Sc->Prop):Prop:=∀(σ:Sl)(st:St)(res0:Int)(res1:Bool)(b_:Sc),σ 2=.i .i64 res0->σ 3=.b res1->lk st.bx kp=some (vp,[.s b_.left])->Fr d kp Zj.bx Zj.ow st.bx st.ow->K res0 res1 b_->Q .ret σ st
abbrev Ydb (PG:Za)(d:Nat)(Q:AE->Sl->St->Prop)(Zj:St)(kp:Zo)(vp:Nat)(n4:Int)(mP:Sc):Prop:=
  ∀(σ:Sl)(st:St),σ 0=.p kp vp 0->σ 4=.i .i64 n4->lk st.bx kp=some (vp,[.s mP.left])->Fr d kp Zj.bx Zj.ow st.bx st.ow->WG PG d 0 Zgv σ st Q
def Zcc (PG:Za)(K:Int->Bool->Sc->Prop)(P0:Int->Sc->Prop)(n4:Int)(mP:Sc):Prop:=
  (n4<(mP.left.length:Int)->0<=n4/\∃c:UInt8,mP.left[(n4).toNat]?=some c/\((c.toNat:Int)>=48->0<=n4/\∃k:UInt8,mP.left[(n4).toNat]?=some k/\((k.toNat:Int)<=57->P0 (IntKind.i64.wrap (n4+1)) mP)/\(¬((k.toNat:Int)<=57)->(n4=0->0<=n4/\∃e:UInt8,mP.left[(n4).toNat]?=some e/\((e.toNat:Int)=45->P0 (IntKind.i64.wrap (n4+1)) mP)/\(¬((e.toNat:Int)=45)->0<=n4/\(n4).toNat<=mP.left.length/\∃r x,Ze PG 21 [.s (mP.left.take (n4).toNat)] (.tup [.i .i64 r,.i .i64 x])/\0<=n4/\(n4).toNat<=mP.left.length/\K r (decide (x=0)) (Sc.mk (mP.left.drop (n4).toNat))))/\(¬(n4=0)->0<=n4/\(n4).toNat<=mP.left.length/\∃y p,Ze PG 21 [.s (mP.left.take (n4).toNat)] (.tup [.i .i64 y,.i .i64 p])/\0<=n4/\(n4).toNat<=mP.left.length/\K y (decide (p=0)) (Sc.mk (mP.left.drop (n4).toNat)))))/\(¬((c.toNat:Int)>=48)->(n4=0->0<=n4/\∃j:UInt8,mP.left[(n4).toNat]?=some j/\((j.toNat:Int)=45->P0 (IntKind.i64.wrap (n4+1)) mP)/\(¬((j.toNat:Int)=45)->0<=n4/\(n4).toNat<=mP.left.length/\∃v z,Ze PG 21 [.s (mP.left.take (n4).toNat)] (.tup [.i .i64 v,.i .i64 z])/\0<=n4/\(n4).toNat<=mP.left.length/\K v (decide (z=0)) (Sc.mk (mP.left.drop (n4).toNat))))/\(¬(n4=0)->0<=n4/\(n4).toNat<=mP.left.length/\∃o q,Ze PG 21 [.s (mP.left.take (n4).toNat)] (.tup [.i .i64 o,.i .i64 q])/\0<=n4/\(n4).toNat<=mP.left.length/\K o (decide (q=0)) (Sc.mk (mP.left.drop (n4).toNat)))))/\(¬(n4<(mP.left.length:Int))->0<=n4/\(n4).toNat<=mP.left.length/\∃w u,Ze PG 21 [.s (mP.left.take (n4).toNat)] (.tup [.i .i64 w,.i .i64 u])/\0<=n4/\(n4).toNat<=mP.left.length/\K w (decide (u=0)) (Sc.mk (mP.left.drop (n4).toNat)))
def Zmj (PG:Za)(K:Int->Bool->Sc->Prop)(mP:Sc):Prop:=
  ∀P0:Int->Sc->Prop,(∀(n4:Int)(mP:Sc),Zcc PG K P0 n4 mP->P0 n4 mP)->P0 0 mP
def Zlu (PG:Za)(K:Int->Bool->Sc->Prop)(mP:Sc):Prop:=
  Zmj PG K mP
section
variable {PG:Za}{d:Nat}{Q:AE->Sl->St->Prop}{K:Int->Bool->Sc->Prop}{Zj:St}{kp:Zo}{vp:Nat}(hQ:Xml d Zj kp vp Q K)(hkp:kp.1<d){σ:Sl}{st:St}
include hQ hkp
variable {n4:Int}{mP:Sc}{P0:Int->Sc->Prop}
variable (kP0 :∀(n4:Int)(mP:Sc),P0 n4 mP->Ydb PG d Q Zj kp vp n4 mP)(H0:σ 0=.p kp vp 0)(H4:σ 4=.i .i64 n4)(BP:lk st.bx kp=some (vp,[.s mP.left]))(FR:Fr d kp Zj.bx Zj.ow st.bx st.ow)
include kP0 H0 H4 BP FR in
theorem Yx2 (h:Zcc PG K P0 n4 mP):W PG d Zgv σ st (Zma PG d 0 Zgv Q):=
 Zm (q_ J (Xh H4 (Ve H0 (Wh J (f_ J (l_ J BP J J (Hf J (b_ J J Wx (Yt J (Yq (g:=14) J (fun k=>Zd J (Ve H0 (Zd J (Wh J (Zd J (f_ J (Zd J (l_ J BP J J (Zd J (Xh H4 (Zd J ((h.1 k).2.elim fun _ c=>Gi J J (h.1 k).1 c.1 (Zd J (b_ J J Gb (Zd J (Yt J (Yq (g:=22) J (fun e=>Zd J (Ve H0 (Zd J (Wh J (Zd J (f_ J (Zd J (l_ J BP J J (Zd J (Xh H4 (Zd J ((c.2.1 e).2.elim fun _ i=>Gi J J (c.2.1 e).1 i.1 (Zd J (b_ J J Zfk (Zd J (Dh J J (Zd J (Yt J (Yq (g:=31) J (fun j=>z_ 3 J (Wp J (Wp J (Wp J (Wp J (Wp J (Wp J (Wp J (nT J (Zd J (z_ 2 J (e_ (Yr J (q_ J (m_ (b_ H4 J Jf (m_ (e_ (W.goto ⟨rfl,kP0 _ _ (i.2.1 j) _ _ H0 J BP FR⟩))))))))))))))))))) (fun j=>Zd J (Xh H4 (Zd J (b_ J J Xk (Zd J (Yt J (Yq (g:=34) J (fun p=>Zd J (Ve H0 (Zd J (Wh J (Zd J (f_ J (Zd J (l_ J BP J J (Zd J (Xh H4 (Zd J (((i.2.2 j).1 p).2.elim fun _ q=>Gi J J ((i.2.2 j).1 p).1 q.1 (Zd J (b_ J J Xk (Zd J (Dh J J (Zd J (z_ 2 J (e_ (Yk J (fun s=>q_ J (m_ (b_ H4 J Jf (m_ (e_ (W.goto ⟨rfl,kP0 _ _ (q.2.1 s) _ _ H0 J BP FR⟩)))))) (fun s=>Yd (q_ J (m_ (Wh H0 (f_ J (l_ J BP J J (m_ (Mn J H4 (q.2.2 s).1 (q.2.2 s).2.1 (x2 (q.2.2 s).2.2 fun _ _ v=>Yg (Wm J J) v.1 (m_ (x_ J J (x_ J J (m_ (m_ (e_ (q_ J (m_ (m_ (Wh H0 (f_ J (l_ J BP J J (m_ (Gu J H4 v.2.1 v.2.2.1 (Wh H0 (f_ J (Ye J BP J J J (e_ (q_ J (m_ (m_ (b_ J J Xk (m_ (m_ (Zp (hQ _ _ _ _ _ J J Zi (Fr.own FR) v.2.2.2))))))))))))))))))))))))))))))))))))))))))))))))))))))) (fun p=>z_ 7 J (Zd J (Vp J J (Zd J (z_ 2 J (e_ (Hy J (Yd (q_ J (m_ (Wh H0 (f_ J (l_ J BP J J (m_ (Mn J H4 ((i.2.2 j).2 p).1 ((i.2.2 j).2 p).2.1 (x2 ((i.2.2 j).2 p).2.2 fun _ _ w=>Yg (Wm J J) w.1 (m_ (x_ J J (x_ J J (m_ (m_ (e_ (q_ J (m_ (m_ (Wh H0 (f_ J (l_ J BP J J (m_ (Gu J H4 w.2.1 w.2.2.1 (Wh H0 (f_ J (Ye J BP J J J (e_ (q_ J (m_ (m_ (b_ J J Xk (m_ (m_ (Zp (hQ _ _ _ _ _ J J Zi (Fr.own FR) w.2.2.2)))))))))))))))))))))))))))))))))))))))))))))))))))))))))))))))))))) (fun e=>z_ 7 J (Zd J (Vp J J (Zd J (Yt J (Zd J (Xh H4 (Zd J (b_ J J Xk (Zd J (Yt J (Yq (g:=34) J (fun o=>Zd J (Ve H0 (Zd J (Wh J (Zd J (f_ J (Zd J (l_ J BP J J (Zd J (Xh H4 (Zd J (((c.2.2 e).1 o).2.elim fun _ r=>Gi J J ((c.2.2 e).1 o).1 r.1 (Zd J (b_ J J Xk (Zd J (Dh J J (Zd J (z_ 2 J (e_ (Yk J (fun u=>q_ J (m_ (b_ H4 J Jf (m_ (e_ (W.goto ⟨rfl,kP0 _ _ (r.2.1 u) _ _ H0 J BP FR⟩)))))) (fun u=>Yd (q_ J (m_ (Wh H0 (f_ J (l_ J BP J J (m_ (Mn J H4 (r.2.2 u).1 (r.2.2 u).2.1 (x2 (r.2.2 u).2.2 fun _ _ x=>Yg (Wm J J) x.1 (m_ (x_ J J (x_ J J (m_ (m_ (e_ (q_ J (m_ (m_ (Wh H0 (f_ J (l_ J BP J J (m_ (Gu J H4 x.2.1 x.2.2.1 (Wh H0 (f_ J (Ye J BP J J J (e_ (q_ J (m_ (m_ (b_ J J Xk (m_ (m_ (Zp (hQ _ _ _ _ _ J J Zi (Fr.own FR) x.2.2.2))))))))))))))))))))))))))))))))))))))))))))))))))))))) (fun o=>z_ 7 J (Zd J (Vp J J (Zd J (z_ 2 J (e_ (Hy J (Yd (q_ J (m_ (Wh H0 (f_ J (l_ J BP J J (m_ (Mn J H4 ((c.2.2 e).2 o).1 ((c.2.2 e).2 o).2.1 (x2 ((c.2.2 e).2 o).2.2 fun _ _ y=>Yg (Wm J J) y.1 (m_ (x_ J J (x_ J J (m_ (m_ (e_ (q_ J (m_ (m_ (Wh H0 (f_ J (l_ J BP J J (m_ (Gu J H4 y.2.1 y.2.2.1 (Wh H0 (f_ J (Ye J BP J J J (e_ (q_ J (m_ (m_ (b_ J J Xk (m_ (m_ (Zp (hQ _ _ _ _ _ J J Zi (Fr.own FR) y.2.2.2))))))))))))))))))))))))))))))))))))))))))))))))))))))))))))))))))))))) (fun k=>z_ 8 J (Wp J (Wp J (Wp J (Wp J (Wp J (Wp J (Wp J (z_ 2 J (Wp J (Wp J (Wp J (Wp J (Wp J (Wp J (Wp J (Wp J (Wp J (Wp J (Wp J (z_ 2 J (e_ (Hy J (Yd (q_ J (m_ (Wh H0 (f_ J (l_ J BP J J (m_ (Mn J H4 (h.2 k).1 (h.2 k).2.1 (x2 (h.2 k).2.2 fun _ _ z=>Yg (Wm J J) z.1 (m_ (x_ J J (x_ J J (m_ (m_ (e_ (q_ J (m_ (m_ (Wh H0 (f_ J (l_ J BP J J (m_ (Gu J H4 z.2.1 z.2.2.1 (Wh H0 (f_ J (Ye J BP J J J (e_ (q_ J (m_ (m_ (b_ J J Xk (m_ (m_ (Zp (hQ _ _ _ _ _ J J Zi (Fr.own FR) z.2.2.2))))))))))))))))))))))))))))))))))))))))))))))))))))))))))))))))))))
include H0 BP FR in
theorem Xvd (h:Zmj PG K mP):W PG d Zjw σ st Q:=
 W.gscope' (W.reg0 J fun _ _=>m_ (e_ (h (Ydb PG d Q Zj kp vp ) (fun _ _ hb _ _ H0 H4 BP FR=>WG.step (Yx2 hQ hkp (fun _ _ x=>x) H0 H4 BP FR hb)) _ _ H0 J BP FR)))
include H0 BP FR in
theorem Yv6 (h:Zlu PG K mP):W PG d (sR 0 Yki Zjw) σ st Q:=
 au @Xvd
end
theorem Xh2 {PG:Za}(hf:PG.fn 131=some Lw){mP:Sc}{K:Int->Bool->Sc->Prop}(h:Zlu PG K mP):Qk PG 131 (Bx [.s mP.left]) [] (fun r (b_:Sc)=>∃res0:Int,∃res1:Bool,(r=.tup [.i .i64 res0,.b res1])/\K res0 res1 b_) (fun b_=>(Bx [.s b_.left])):=
  Qk.of hf rfl (fun _=>Bx.out) fun d st kp vp hkp hB=>Yv6 (Zj:=st) (Q:=fun e σ st'=>(e=.normal\/e=.ret)/\∃r b_,Xg σ st' Lw.res=some r/\_/\_/\Fr d kp st.bx st.ow st'.bx st'.ow) (fun σ st'   res0 res1 b_ H2 H3 hb hf hk=>⟨.inr rfl,.tup [.i .i64 res0,.b res1],b_,by simp only [Lw,Xg,Vc,H2,H3,Ki,Option.map_some,H2,H3],⟨res0,res1,rfl,hk⟩,hb,hf⟩) hkp (σ:=Xz [.p kp vp 0]) rfl hB Fr.refl h
abbrev H66 (Q:AE->Sl->St->Prop)(K:Bool->Prop):Prop:=∀(σ:Sl)(st:St)(res0:Bool),σ 4=.b res0->K res0->Q .ret σ st
section
variable {PG:Za}{d:Nat}{Q:AE->Sl->St->Prop}{K:Bool->Prop}(hQ:H66 Q K){σ:Sl}{st:St}
include hQ
end
end Go.AM

/- Yf of the proof. -/
namespace Go.AM
open Go
set_option linter.unusedVariables false
set_option linter.unusedSimpArgs false
set_option maxRecDepth 4000
set_option maxHeartbeats 2000000
attribute [local irreducible] Decidable.decide W WO Wq Ws
def Zsk:List AI:=[oC 2 (.s [])]
def Ztg:List AI:=[oM 3 0,oQ 4 15 [3],oM 2 4]
abbrev Ysw:AC:=(sR 0 Zsk (sR 1 Ztg .ret))
def Zcq:AF:={ nt:=5,res:=[.tmp 2],body:=Ysw }
def Zi3 (PG:Za)(K:BS->Prop)(n0:Int):Prop:=
  ∃c,Ze PG 15 [.i .i64 n0] (.s c)/\K c
section
variable {PG:Za}{d:Nat}{Q:AE->Sl->St->Prop}{K:BS->Prop}(hQ:H1 AV.s 2 Q K){σ:Sl}{st:St}
include hQ
variable {n0:Int}
variable (H0:σ 0=.i .i64 n0)
include H0 in
theorem Yn0 (h:Zi3 PG K n0):W PG d (sR 0 Zsk (sR 1 Ztg .ret)) σ st Q:=
 au trivial
end
theorem Yrn {PG:Za}(hf:PG.fn 111=some Zcq){n0:Int}{K:BS->Prop}(h:Zi3 PG K n0) :∃res0:BS,K res0/\Ze PG 111 [.i .i64 n0] (.s res0):=
 P1 hf J (Yn0 (h1 J fun _=>J) J h)
def Yjp:List AI:=[oC 2 (.s [])]
def Yen:List AI:=[oM 6 0,oQ 7 11 [6],oM 5 7,oE 8 0 5,oE 9 1 5,oM 3 8,oM 4 9]
def Yem:List AI:=[oM 10 3,oM 2 10]
abbrev Yxr:AC:=(sR 0 Yjp (sR 1 Yen (sR 2 Yem .ret)))
def Zef:AF:={ nt:=11,res:=[.tmp 2],body:=Yxr }
def Zpz (PG:Za)(K:BS->Prop)(s0:BS):Prop:=
  ∃c e,Ze PG 11 [.s s0] (.tup [.s c,.i .i64 e])/\K c
section
variable {PG:Za}{d:Nat}{Q:AE->Sl->St->Prop}{K:BS->Prop}(hQ:H1 AV.s 2 Q K){σ:Sl}{st:St}
include hQ
variable {s0:BS}
variable (H0:σ 0=.s s0)
include H0 in
theorem Yqi (h:Zpz PG K s0):W PG d (sR 0 Yjp (sR 1 Yen (sR 2 Yem .ret))) σ st Q:=
 au trivial
end
theorem Wgu {PG:Za}(hf:PG.fn 112=some Zef){s0:BS}{K:BS->Prop}(h:Zpz PG K s0) :∃res0:BS,K res0/\Ze PG 112 [.s s0] (.s res0):=
 P1 hf J (Yqi (h1 J fun _=>J) J h)
def Yib:List AI:=[oO 0 (.alloc [zs,zs,zs,zs])]
def Zwx:List AI:=[oO 1 (.build [zs,zs,zs,zs] [(0,1,(.c (.s [99,97,108,108]))),(1,1,(.c (.s [100,101,102,101,114]))),(2,1,(.c (.s [112,97,110,105,99]))),(3,1,(.c (.s [101,120,105,116])))]),oS 4 0 1]
abbrev Xay:AC:=(sR 0 Yib (sR 1 Zwx .ret))
def Ex:AF:={ nt:=2,res:=[.cell 0 4 true],body:=Xay }
abbrev Yow (Q:AE->Sl->St->Prop)(K:LB->Prop):Prop:=∀(σ:Sl)(st:St)(k0:Zo)(v0:Nat)(res0:LB),σ 0=.p k0 v0 0->lk st.bx k0=some (v0,List.map AV.s res0)->res0.length=4->K res0->Q .ret σ st
def Zqt (PG:Za)(K:LB->Prop) :Prop:=
  K [([99,97,108,108]:BS),([100,101,102,101,114]:BS),([112,97,110,105,99]:BS),([101,120,105,116]:BS)]
section
variable {PG:Za}{d:Nat}{Q:AE->Sl->St->Prop}{K:LB->Prop}(hQ:Yow Q K){σ:Sl}{st:St}
include hQ
theorem Xpr (h:Zqt PG K ):W PG d (sR 0 Yib (sR 1 Zwx .ret)) σ st Q:=
 Zm (W.reg (Xs (e_ (q_ J (Cz (f:=AV.s) (l:=[([99,97,108,108]:BS),([100,101,102,101,114]:BS),([112,97,110,105,99]:BS),([101,120,105,116]:BS)]) (Yl J J (Yl J J (Yl J J (Yl J J Xn)))) J (Lb (f:=AV.s) (fun _=>J) J (show lk _ (d,0)=some (_,(List.map AV.s (List.replicate 4 ([]:BS)):List AV)) from Zi) (by simp) J J (Zp (hQ _ _ _ _ _ J Zi (by simp) h))))))))
end
theorem Xo2 {PG:Za}(hf:PG.fn 113=some Ex)  {K:LB->Prop}(h:Zqt PG K ) :∃res0:LB,K res0/\Ze PG 113 [] (.ag (List.map AV.s res0)):=by
  obtain ⟨v,hv,res0,hk,rfl⟩:=Ze.of (K:=fun v=>∃res0:LB,K res0/\v=.ag (List.map AV.s res0)) hf rfl (Xpr (σ:=Xz []) (fun σ st k0 v0  res0 H0 HB0 HL0 hk=>⟨.ag (List.map AV.s res0),by simp only [Ex,Xg,Vc,Jq (n:=4) H0 HB0 (by simpa using HL0),Ks,Option.map_some],_,Zbo AV.s (fun _=>rfl) _,res0,hk,rfl⟩)  h)
  exact ⟨res0,hk,hv⟩
def Zux:List AI:=[oC 4 (.b false)]
def Zxa:List AI:=[oM 5 0,oM 6 1,oO 7 (.call true 139 [(.t 5),(.t 6)]),oV 8 .geq 7 0,oM 4 8]
abbrev Wfe:AC:=(sR 0 Zux (sR 1 Zxa .ret))
def Zei:AF:={ nt:=9,res:=[.tmp 4],body:=Wfe }
def Zrp (PG:Za)(K:Bool->Prop)(s0:LB)(f1:Nat × List AV):Prop:=
  ∃c,(∀e:Zl,Ym PG 139 [.sl e (List.map Zv s0),.fn f1.1 f1.2] (fun r=>r=.i .i64 c))/\K (decide (c>=0))
section
variable {PG:Za}{d:Nat}{Q:AE->Sl->St->Prop}{K:Bool->Prop}{Zj:St}(hQ:HF d Zj AV.b 4 Q K){σ:Sl}{st:St}
include hQ
variable {s0:LB}{f1:Nat × List AV}{o_s0:Zl}
variable (H0:σ 0=.sl o_s0 (List.map Zv s0))(H1:σ 1=.fn f1.1 f1.2)(FR:Fr d (d,0) Zj.bx Zj.ow st.bx st.ow)
include H0 H1 FR in
theorem Xnk (h:Zrp PG K s0 f1):W PG d (sR 0 Zux (sR 1 Zxa .ret)) σ st Q:=
 q_ J (m_ (e_ (q_ J (Yi H0 (m_ (h.elim fun _ c=>Gx (Zy J (Zy H1 Yn)) (c.1 _) (fun _ e=>b_ J J Gb (m_ (Zp (hQ J (Fr.raw FR e) c.2))))))))))
end
theorem Yud {PG:Za}(hf:PG.fn 115=some Zei){s0:LB}{f1:Nat × List AV}{K:Bool->Prop}(h:Zrp PG K s0 f1)(o_s0:Zl):Ym PG 115 [.sl o_s0 (List.map Zv s0),.fn f1.1 f1.2] (fun r=>∃res0:Bool,(r=.b res0)/\K res0):=
 PF hf J J fun d st Q q=>Xnk q J J Fr.refl h
def Yjm:List AI:=[oC 2 (.b false)]
def Yiz:List AI:=[oM 3 0,oH 4 3,oV 5 .gtr 4 1400060,oM 2 5]
abbrev Wgx:AC:=(sR 0 Yjm (sR 1 Yiz .ret))
def Zbd:AF:={ nt:=6,res:=[.tmp 2],body:=Wgx }
def Zmk (PG:Za)(K:Bool->Prop)(s0:BS):Prop:=
  K (decide ((s0.length:Int)>1400060))
section
variable {PG:Za}{d:Nat}{Q:AE->Sl->St->Prop}{K:Bool->Prop}{Zj:St}(hQ:HF d Zj AV.b 2 Q K){σ:Sl}{st:St}
include hQ
variable {s0:BS}
variable (H0:σ 0=.s s0)(FR:Fr d (d,0) Zj.bx Zj.ow st.bx st.ow)
include H0 FR in
theorem Xie (h:Zmk PG K s0):W PG d (sR 0 Yjm (sR 1 Yiz .ret)) σ st Q:=
 au trivial
end
theorem Yxe {PG:Za}(hf:PG.fn 116=some Zbd){s0:BS}{K:Bool->Prop}(h:Zmk PG K s0):Ym PG 116 [.s s0] (fun r=>∃res0:Bool,(r=.b res0)/\K res0):=
 PF hf J J fun d st Q q=>Xie q J Fr.refl h
def Zt8:List AI:=[oI 4 0]
def Yef:List AI:=[oM 6 0,oJ 7 6,oI 8 0]
def Xnq:List AI:=[oT 9 .lss 8 7]
def Yxg:List AI:=[oM 10 8,oM 5 10]
def Xvu:List AI:=[oM 11 1,oM 12 0,oM 13 5,oX 14 1 12 13,oL 15 14,oO 16 (.callv (.t 11) [(.t 15)])]
def Xps:List AI:=[oM 17 5,oM 4 17]
def Xmp:List AI:=[oV 18 .add 8 1,oM 8 18]
def Xrr:List AI:=[oI 4 (-1)]
abbrev Ar:AC:=(sR 2 Xnq (.seq (.cond (.t 9) .skip (.exit 0)) (.seq (.block 1 (sR 3 Yxg (sR 4 Xvu (.cond (.t 16) (sR 5 Xps .ret) .skip)))) (.reg 6 Xmp))))
abbrev Og:AC:=(sR 7 Xrr .ret)
abbrev Yqj:AC:=(sR 0 Zt8 (.seq (sR 1 Yef (.block 0 (.loop Ar))) Og))
def Zbp:AF:={ nt:=19,res:=[.tmp 4],body:=Yqj }
abbrev Zvr (PG:Za)(d:Nat)(Q:AE->Sl->St->Prop)(Zj:St)(s0:LB)(f1:Nat × List AV)(t7:Int)(t8:Int):Prop:=
  ∀(σ:Sl)(st:St)(o_s0:Zl),σ 0=.sl o_s0 (List.map Zv s0)->σ 1=.fn f1.1 f1.2->σ 7=.i .i64 t7->σ 8=.i .i64 t8->Fr d (d,0) Zj.bx Zj.ow st.bx st.ow->W PG d (.loop Ar) σ st (Ya 0 (Zs PG d Og Q))
def Zr3 (PG:Za)(K:Int->Prop) :Prop:=
  K (-1)
def Ov (PG:Za)(K:Int->Prop)(P0:Int->Prop)(s0:LB)(f1:Nat × List AV)(t7:Int)(t8:Int):Prop:=
  (t8<t7->0<=t8/\∃e,s0[(t8).toNat]?=some e/\∃c,(Ym PG f1.1 ([.s e]++f1.2) (fun r=>r=.b c))/\(c=true->K t8)/\(c=false->P0 (IntKind.i64.wrap (t8+1))))/\(¬(t8<t7)->Zr3 PG K )
def Zj5 (PG:Za)(K:Int->Prop)(s0:LB)(f1:Nat × List AV):Prop:=
  ∀P0:Int->Prop,(∀(t8:Int),Ov PG K P0 s0 f1 (s0.length:Int) t8->P0 t8)->P0 0
section
variable {PG:Za}{d:Nat}{Q:AE->Sl->St->Prop}{K:Int->Prop}{Zj:St}(hQ:HF d Zj (AV.i .i64) 4 Q K){σ:Sl}{st:St}
include hQ
variable {s0:LB}{f1:Nat × List AV}{t7 t8:Int}{P0:Int->Prop}{o_s0:Zl}
variable (kP0 :∀(t8:Int),P0 t8->Zvr PG d Q Zj s0 f1 t7 t8)(H0:σ 0=.sl o_s0 (List.map Zv s0))(H1:σ 1=.fn f1.1 f1.2)(H7:σ 7=.i .i64 t7)(H8:σ 8=.i .i64 t8)(FR:Fr d (d,0) Zj.bx Zj.ow st.bx st.ow)
include FR in
theorem Xyv (h:Zr3 PG K ):W PG d Og σ st Q:=
 au trivial
include kP0 H0 H1 H7 H8 FR in
theorem Yz3 (h:Ov PG K P0 s0 f1 t7 t8):W PG d Ar σ st (Zs PG d (.loop Ar) (Ya 0 (Zs PG d Og Q))):=
 q_ J (b_ H8 H7 Wx (e_ (Zm (Yk J (fun c=>Yd (Zm (Yj (q_ J (m_ (m_ (e_ (q_ J (m_ (Yi H0 (m_ ((h.1 c).2.elim fun _ j=>Wz J H8 (h.1 c).1 j.1 J J (Xp J J J (j.2.elim fun _ e=>Cy H1 (Zy J Yn) (e.1) (fun _ k=>e_ (Xl J (fun i=>q_ J (m_ (m_ (Zp (hQ H8 (Fr.raw FR k) (e.2.1 i)))))) (fun i=>Yd (W.reg0 J fun _ _=>b_ H8 J Jf (m_ (e_ (kP0 _ (e.2.2 i) _ _ _ H0 H1 H7 J (Fr.raw FR k)))))))))))))))))))))) (fun c=>Vr (Xyv hQ FR (h.2 c)))))))
include H0 H1 FR in
theorem Wfs (h:Zj5 PG K s0 f1):W PG d (sR 0 Zt8 (.seq (sR 1 Yef (.block 0 (.loop Ar))) Og)) σ st Q:=
 q_ J (m_ (e_ (Zm (q_ J (Yi H0 (Xc J (m_ (e_ (Yj (h (Zvr PG d Q Zj s0 f1 (s0.length:Int)) (fun _ hb _ _ _ H0 H1 H7 H8 FR=>W.loop (Yz3 hQ (fun _ x=>x) H0 H1 H7 H8 FR hb)) _ _ _ H0 H1 J J FR))))))))))
end
theorem Xzp {PG:Za}(hf:PG.fn 139=some Zbp){s0:LB}{f1:Nat × List AV}{K:Int->Prop}(h:Zj5 PG K s0 f1)(o_s0:Zl):Ym PG 139 [.sl o_s0 (List.map Zv s0),.fn f1.1 f1.2] (fun r=>∃res0:Int,(r=.i .i64 res0)/\K res0):=
 PF hf J J fun d st Q q=>Wfs q J J Fr.refl h
def Yhp:List AI:=[oC 4 (.b false)]
def Zyv:List AI:=[oM 5 0,oM 6 1,oO 7 (.call true 144 [(.t 5),(.t 6)]),oV 8 .geq 7 0,oM 4 8]
abbrev Xh4:AC:=(sR 0 Yhp (sR 1 Zyv .ret))
def Zg4:AF:={ nt:=9,res:=[.tmp 4],body:=Xh4 }
def Zlo (PG:Za)(K:Bool->Prop)(s0:List Yz)(f1:Nat × List AV):Prop:=
  ∃c,(∀e:Zl,Ym PG 144 [.sl e (List.map Yz.row s0),.fn f1.1 f1.2] (fun r=>r=.i .i64 c))/\K (decide (c>=0))
section
variable {PG:Za}{d:Nat}{Q:AE->Sl->St->Prop}{K:Bool->Prop}{Zj:St}(hQ:HF d Zj AV.b 4 Q K){σ:Sl}{st:St}
include hQ
variable {s0:List Yz}{f1:Nat × List AV}{o_s0:Zl}
variable (H0:σ 0=.sl o_s0 (List.map Yz.row s0))(H1:σ 1=.fn f1.1 f1.2)(FR:Fr d (d,0) Zj.bx Zj.ow st.bx st.ow)
include H0 H1 FR in
theorem Yt9 (h:Zlo PG K s0 f1):W PG d (sR 0 Yhp (sR 1 Zyv .ret)) σ st Q:=
 q_ J (m_ (e_ (q_ J (Yi H0 (m_ (h.elim fun _ c=>Gx (Zy J (Zy H1 Yn)) (c.1 _) (fun _ e=>b_ J J Gb (m_ (Zp (hQ J (Fr.raw FR e) c.2))))))))))
end
theorem Ytb {PG:Za}(hf:PG.fn 122=some Zg4){s0:List Yz}{f1:Nat × List AV}{K:Bool->Prop}(h:Zlo PG K s0 f1)(o_s0:Zl):Ym PG 122 [.sl o_s0 (List.map Yz.row s0),.fn f1.1 f1.2] (fun r=>∃res0:Bool,(r=.b res0)/\K res0):=
 PF hf J J fun d st Q q=>Yt9 q J J Fr.refl h
def Yhq:List AI:=[oY 1 2 0,oC 2 (.b false)]
def Zw9:List AI:=[oF 3 0 1,oL 4 3,oH 5 4,oV 6 .gtr 5 16,oM 2 6]
abbrev Wbm:AC:=(sR 0 Yhq (sR 1 Zw9 .ret))
def Zgd:AF:={ nt:=7,res:=[.tmp 2],body:=Wbm }
def Zht (PG:Za)(K:Bool->Prop)(s0:Yz):Prop:=
  K (decide ((s0.name.length:Int)>16))
section
variable {PG:Za}{d:Nat}{Q:AE->Sl->St->Prop}{K:Bool->Prop}{Zj:St}(hQ:HF d Zj AV.b 2 Q K){σ:Sl}{st:St}
include hQ
variable {s0:Yz}
variable (H0:σ 0=s0.av)(FR:Fr d (d,0) Zj.bx Zj.ow st.bx st.ow)
include H0 FR in
theorem Wa1 (h:Zht PG K s0):W PG d (sR 0 Yhq (sR 1 Zw9 .ret)) σ st Q:=
 au trivial
end
theorem Xrz {PG:Za}(hf:PG.fn 123=some Zgd){s0:Yz}{K:Bool->Prop}(h:Zht PG K s0):Ym PG 123 [s0.av] (fun r=>∃res0:Bool,(r=.b res0)/\K res0):=
 PF hf J J fun d st Q q=>Wa1 q J Fr.refl h
def Zvd:List AI:=[oI 4 0]
def Zve:List AI:=[oM 6 0,oJ 7 6,oI 8 0]
def Xr4:List AI:=[oT 9 .lss 8 7]
def Xux:List AI:=[oM 10 8,oM 5 10]
def Xw4:List AI:=[oM 11 1,oM 12 0,oM 13 5,oX 14 2 12 13,oK 15 2 14,oO 16 (.callv (.t 11) [(.t 15)])]
def Xfl:List AI:=[oM 17 5,oM 4 17]
def Xbu:List AI:=[oV 18 .add 8 1,oM 8 18]
def Yok:List AI:=[oI 4 (-1)]
abbrev Aj:AC:=(sR 2 Xr4 (.seq (.cond (.t 9) .skip (.exit 0)) (.seq (.block 1 (sR 3 Xux (sR 4 Xw4 (.cond (.t 16) (sR 5 Xfl .ret) .skip)))) (.reg 6 Xbu))))
abbrev Az:AC:=(sR 7 Yok .ret)
abbrev Xgl:AC:=(sR 0 Zvd (.seq (sR 1 Zve (.block 0 (.loop Aj))) Az))
def Zf3:AF:={ nt:=19,res:=[.tmp 4],body:=Xgl }
abbrev Yk7 (PG:Za)(d:Nat)(Q:AE->Sl->St->Prop)(Zj:St)(s0:List Yz)(f1:Nat × List AV)(t7:Int)(t8:Int):Prop:=
  ∀(σ:Sl)(st:St)(o_s0:Zl),σ 0=.sl o_s0 (List.map Yz.row s0)->σ 1=.fn f1.1 f1.2->σ 7=.i .i64 t7->σ 8=.i .i64 t8->Fr d (d,0) Zj.bx Zj.ow st.bx st.ow->W PG d (.loop Aj) σ st (Ya 0 (Zs PG d Az Q))
def Zif (PG:Za)(K:Int->Prop) :Prop:=
  K (-1)
def Ek (PG:Za)(K:Int->Prop)(P0:Int->Prop)(s0:List Yz)(f1:Nat × List AV)(t7:Int)(t8:Int):Prop:=
  (t8<t7->0<=t8/\∃e:Yz,s0[(t8).toNat]?=some e/\∃c,(Ym PG f1.1 ([e.av]++f1.2) (fun r=>r=.b c))/\(c=true->K t8)/\(c=false->P0 (IntKind.i64.wrap (t8+1))))/\(¬(t8<t7)->Zif PG K )
def Zld (PG:Za)(K:Int->Prop)(s0:List Yz)(f1:Nat × List AV):Prop:=
  ∀P0:Int->Prop,(∀(t8:Int),Ek PG K P0 s0 f1 (s0.length:Int) t8->P0 t8)->P0 0
section
variable {PG:Za}{d:Nat}{Q:AE->Sl->St->Prop}{K:Int->Prop}{Zj:St}(hQ:HF d Zj (AV.i .i64) 4 Q K){σ:Sl}{st:St}
include hQ
variable {s0:List Yz}{f1:Nat × List AV}{t7 t8:Int}{P0:Int->Prop}{o_s0:Zl}
variable (kP0 :∀(t8:Int),P0 t8->Yk7 PG d Q Zj s0 f1 t7 t8)(H0:σ 0=.sl o_s0 (List.map Yz.row s0))(H1:σ 1=.fn f1.1 f1.2)(H7:σ 7=.i .i64 t7)(H8:σ 8=.i .i64 t8)(FR:Fr d (d,0) Zj.bx Zj.ow st.bx st.ow)
include FR in
theorem Xdz (h:Zif PG K ):W PG d Az σ st Q:=
 au trivial
include kP0 H0 H1 H7 H8 FR in
theorem Ysr (h:Ek PG K P0 s0 f1 t7 t8):W PG d Aj σ st (Zs PG d (.loop Aj) (Ya 0 (Zs PG d Az Q))):=
 q_ J (b_ H8 H7 Wx (e_ (Zm (Yk J (fun c=>Yd (Zm (Yj (q_ J (m_ (m_ (e_ (q_ J (m_ (Yi H0 (m_ ((h.1 c).2.elim fun o j=>Wz J H8 (h.1 c).1 j.1 (Yz.row_eq o) J (Xp J J J (j.2.elim fun _ e=>Cy H1 (Zy J Yn) (e.1) (fun _ k=>e_ (Xl J (fun i=>q_ J (m_ (m_ (Zp (hQ H8 (Fr.raw FR k) (e.2.1 i)))))) (fun i=>Yd (W.reg0 J fun _ _=>b_ H8 J Jf (m_ (e_ (kP0 _ (e.2.2 i) _ _ _ H0 H1 H7 J (Fr.raw FR k)))))))))))))))))))))) (fun c=>Vr (Xdz hQ FR (h.2 c)))))))
include H0 H1 FR in
theorem Xjp (h:Zld PG K s0 f1):W PG d (sR 0 Zvd (.seq (sR 1 Zve (.block 0 (.loop Aj))) Az)) σ st Q:=
 q_ J (m_ (e_ (Zm (q_ J (Yi H0 (Xc J (m_ (e_ (Yj (h (Yk7 PG d Q Zj s0 f1 (s0.length:Int)) (fun _ hb _ _ _ H0 H1 H7 H8 FR=>W.loop (Ysr hQ (fun _ x=>x) H0 H1 H7 H8 FR hb)) _ _ _ H0 H1 J J FR))))))))))
end
theorem Xal {PG:Za}(hf:PG.fn 144=some Zf3){s0:List Yz}{f1:Nat × List AV}{K:Int->Prop}(h:Zld PG K s0 f1)(o_s0:Zl):Ym PG 144 [.sl o_s0 (List.map Yz.row s0),.fn f1.1 f1.2] (fun r=>∃res0:Int,(r=.i .i64 res0)/\K res0):=
 PF hf J J fun d st Q q=>Xjp q J J Fr.refl h
def Yd9:List AI:=[oI 4 0]
def Yk5:List AI:=[oM 6 0,oJ 7 6,oI 8 0]
def Xrv:List AI:=[oT 9 .lss 8 7]
def Xf2:List AI:=[oM 10 8,oM 5 10]
def Xqn:List AI:=[oM 11 1,oM 12 0,oM 13 5,oX 14 1 12 13,oL 15 14,oT 16 .eql 11 15]
def Wff:List AI:=[oM 17 5,oM 4 17]
def Xkz:List AI:=[oV 18 .add 8 1,oM 8 18]
def Yst:List AI:=[oI 4 (-1)]
abbrev Ao:AC:=(sR 2 Xrv (.seq (.cond (.t 9) .skip (.exit 0)) (.seq (.block 1 (sR 3 Xf2 (sR 4 Xqn (.cond (.t 16) (sR 5 Wff .ret) .skip)))) (.reg 6 Xkz))))
abbrev Fh:AC:=(sR 7 Yst .ret)
abbrev Xb4:AC:=(sR 0 Yd9 (.seq (sR 1 Yk5 (.block 0 (.loop Ao))) Fh))
def Zch:AF:={ nt:=19,res:=[.tmp 4],body:=Xb4 }
abbrev Ylb (PG:Za)(d:Nat)(Q:AE->Sl->St->Prop)(s0:LB)(v1:BS)(t7:Int)(t8:Int):Prop:=
  ∀(σ:Sl)(st:St)(o_s0:Zl),σ 0=.sl o_s0 (List.map Zv s0)->σ 1=.s v1->σ 7=.i .i64 t7->σ 8=.i .i64 t8->W PG d (.loop Ao) σ st (Ya 0 (Zs PG d Fh Q))
def Zko (PG:Za)(K:Int->Prop) :Prop:=
  K (-1)
def Ej (PG:Za)(K:Int->Prop)(P0:Int->Prop)(s0:LB)(v1:BS)(t7:Int)(t8:Int):Prop:=
  (t8<t7->0<=t8/\∃c,s0[(t8).toNat]?=some c/\(v1=c->K t8)/\(¬(v1=c)->P0 (IntKind.i64.wrap (t8+1))))/\(¬(t8<t7)->Zko PG K )
def Zim (PG:Za)(K:Int->Prop)(s0:LB)(v1:BS):Prop:=
  ∀P0:Int->Prop,(∀(t8:Int),Ej PG K P0 s0 v1 (s0.length:Int) t8->P0 t8)->P0 0
section
variable {PG:Za}{d:Nat}{Q:AE->Sl->St->Prop}{K:Int->Prop}(hQ:H1 (AV.i .i64) 4 Q K){σ:Sl}{st:St}
include hQ
variable {s0:LB}{v1:BS}{t7 t8:Int}{P0:Int->Prop}{o_s0:Zl}
variable (kP0 :∀(t8:Int),P0 t8->Ylb PG d Q s0 v1 t7 t8)(H0:σ 0=.sl o_s0 (List.map Zv s0))(H1:σ 1=.s v1)(H7:σ 7=.i .i64 t7)(H8:σ 8=.i .i64 t8)
theorem Xai (h:Zko PG K ):W PG d Fh σ st Q:=
 au trivial
include kP0 H0 H1 H7 H8 in
theorem Xdd (h:Ej PG K P0 s0 v1 t7 t8):W PG d Ao σ st (Zs PG d (.loop Ao) (Ya 0 (Zs PG d Fh Q))):=
 au @Xai
include H0 H1 in
theorem Ys6 (h:Zim PG K s0 v1):W PG d (sR 0 Yd9 (.seq (sR 1 Yk5 (.block 0 (.loop Ao))) Fh)) σ st Q:=
 q_ J (m_ (e_ (Zm (q_ J (Yi H0 (Xc J (m_ (e_ (Yj (h (Ylb PG d Q s0 v1 (s0.length:Int)) (fun _ hb _ _ _ H0 H1 H7 H8=>W.loop (Xdd hQ (fun _ x=>x) H0 H1 H7 H8 hb)) _ _ _ H0 H1 J J))))))))))
end
theorem Wjd {PG:Za}(hf:PG.fn 141=some Zch){s0:LB}{v1:BS}{K:Int->Prop}(h:Zim PG K s0 v1) :∃res0:Int,K res0/\Ze PG 141 [.sl .ext (List.map Zv s0),.s v1] (.i .i64 res0):=
 P1 hf J (Ys6 (h1 J fun _=>J) J J h)
def Zvl:List AI:=[oC 4 (.b false)]
def Yh6:List AI:=[oM 6 0,oJ 7 6,oM 8 1,oJ 9 8,oT 10 .neq 7 9]
def Zwo:List AI:=[oC 4 (.b false)]
def Yjd:List AI:=[oM 11 0,oJ 12 11,oI 13 0]
def Ytz:List AI:=[oT 14 .lss 13 12]
def Wgp:List AI:=[oM 15 13,oM 5 15]
def Whp:List AI:=[oM 16 0,oM 17 5,oX 18 1 16 17,oL 19 18,oM 20 1,oM 21 5,oX 22 1 20 21,oL 23 22,oT 24 .neq 19 23]
def Xit:List AI:=[oC 4 (.b false)]
def Wdj:List AI:=[oV 25 .add 13 1,oM 13 25]
def Xvn:List AI:=[oC 4 (.b true)]
abbrev Od:AC:=(sR 4 Ytz (.seq (.cond (.t 14) .skip (.exit 0)) (.seq (.block 1 (sR 5 Wgp (sR 6 Whp (.cond (.t 24) (sR 7 Xit .ret) .skip)))) (.reg 8 Wdj))))
abbrev Is:AC:=(sR 9 Xvn .ret)
abbrev Yyf:AC:=(sR 0 Zvl (.seq (sR 1 Yh6 (.cond (.t 10) (sR 2 Zwo .ret) .skip)) (.seq (sR 3 Yjd (.block 0 (.loop Od))) Is)))
def Zdg:AF:={ nt:=26,res:=[.tmp 4],body:=Yyf }
abbrev Zx2 (PG:Za)(d:Nat)(Q:AE->Sl->St->Prop)(s10:LB)(s21:LB)(t12:Int)(t13:Int):Prop:=
  ∀(σ:Sl)(st:St) (o_s10 o_s21:Zl),σ 0=.sl o_s10 (List.map Zv s10)->σ 1=.sl o_s21 (List.map Zv s21)->σ 12=.i .i64 t12->σ 13=.i .i64 t13->W PG d (.loop Od) σ st (Ya 0 (Zs PG d Is Q))
def Zqn (PG:Za)(K:Bool->Prop) :Prop:=
  K true
def Zg0 (PG:Za)(K:Bool->Prop)(P0:Int->Prop)(s10:LB)(s21:LB)(t12:Int)(t13:Int):Prop:=
  (t13<t12->0<=t13/\∃c,s10[(t13).toNat]?=some c/\0<=t13/\∃e,s21[(t13).toNat]?=some e/\(c≠e->K false)/\(¬(c≠e)->P0 (IntKind.i64.wrap (t13+1))))/\(¬(t13<t12)->Zqn PG K )
def Zhn (PG:Za)(K:Bool->Prop)(s10:LB)(s21:LB):Prop:=
  ((s10.length:Int)≠(s21.length:Int)->K false)/\(¬((s10.length:Int)≠(s21.length:Int))->∀P0:Int->Prop,(∀(t13:Int),Zg0 PG K P0 s10 s21 (s10.length:Int) t13->P0 t13)->P0 0)
section
variable {PG:Za}{d:Nat}{Q:AE->Sl->St->Prop}{K:Bool->Prop}(hQ:H1 AV.b 4 Q K){σ:Sl}{st:St}
include hQ
variable {s10 s21:LB}{t12 t13:Int}{P0:Int->Prop}{o_s10 o_s21:Zl}
variable (kP0 :∀(t13:Int),P0 t13->Zx2 PG d Q s10 s21 t12 t13)(H0:σ 0=.sl o_s10 (List.map Zv s10))(H1:σ 1=.sl o_s21 (List.map Zv s21))(H12:σ 12=.i .i64 t12)(H13:σ 13=.i .i64 t13)
theorem Xi5 (h:Zqn PG K ):W PG d Is σ st Q:=
 au trivial
include kP0 H0 H1 H12 H13 in
theorem Xnt (h:Zg0 PG K P0 s10 s21 t12 t13):W PG d Od σ st (Zs PG d (.loop Od) (Ya 0 (Zs PG d Is Q))):=
 au @Xi5
include H0 H1 in
theorem Yza (h:Zhn PG K s10 s21):W PG d (sR 0 Zvl (.seq (sR 1 Yh6 (.cond (.t 10) (sR 2 Zwo .ret) .skip)) (.seq (sR 3 Yjd (.block 0 (.loop Od))) Is))) σ st Q:=
 q_ J (m_ (e_ (Zm (q_ J (Yi H0 (Xc J (Yi H1 (Xc J (b_ J J Vd (e_ (Yk J (fun c=>q_ J (m_ (Zp (hQ J (h.1 c))))) (fun c=>Yd (Zm (q_ J (Yi H0 (Xc J (m_ (e_ (Yj ((h.2 c) (Zx2 PG d Q s10 s21 (s10.length:Int)) (fun _ hb _ _ _ _ H0 H1 H12 H13=>W.loop (Xnt hQ (fun _ x=>x) H0 H1 H12 H13 hb)) _ _ _ _ H0 H1 J J))))))))))))))))))))
end
theorem Wce {PG:Za}(hf:PG.fn 119=some Zdg){s10:LB}{s21:LB}{K:Bool->Prop}(h:Zhn PG K s10 s21) :∃res0:Bool,K res0/\Ze PG 119 [.sl .ext (List.map Zv s10),.sl .ext (List.map Zv s21)] (.b res0):=
 P1 hf J (Yza (h1 J fun _=>J) J J h)
def Ykx:List AI:=[oY 2 3 0,oY 3 4 1,oI 4 0]
def Wiz:List AI:=[oF 9 0 3,oL 10 9,oV 11 .lss 10 0,oM 12 11,gF 12 (oF 13 0 3),gF 12 (oL 14 13),gF 12 (oF 15 2 2),gF 12 (oL 16 15),gF 12 (oJ 17 16),gF 12 (oT 18 .geq 14 17),oR 19 12 18,oM 20 19,gF 20 (oF 21 2 3),gF 20 (oL 22 21),gF 20 (oB 23 .gtr (.t 22) (.c (.i .u64 3))),oR 24 20 23]
def Xyg:List AI:=[oI 4 8]
def Xao:List AI:=[oF 25 2 2,oL 26 25,oF 27 0 3,oL 28 27,oX 29 7 26 28,oK 30 7 29,oO 5 (.alloc [zs,z6,z6,zl,zl,zl,zl]),oS 7 5 30]
def Wi9:List AI:=[oF 31 3 5,oL 32 31,oJ 33 32,oV 34 .gtr 33 16,oM 35 34,gF 35 (oF 36 0 5),gF 35 (oL 37 36),gF 35 (oH 38 37),gF 35 (oV 39 .gtr 38 16),oR 40 35 39,oM 41 40,gF 41 (oF 42 1 3),gF 41 (oL 43 42),gF 41 (oV 44 .lss 43 0),oR 45 41 44,oM 46 45,gF 46 (oF 47 1 3),gF 46 (oL 48 47),gF 46 (oF 49 4 5),gF 46 (oL 50 49),gF 46 (oJ 51 50),gF 46 (oT 52 .geq 48 51),oR 53 46 52,oM 54 53,gF 54 (oF 55 3 5),gF 54 (oL 56 55),gF 54 (oO 57 (.call true 122 [(.t 56),(.c (.fn 123 []))])),oR 58 54 57]
def Wji:List AI:=[oI 4 8]
def Xg6:List AI:=[oI 6 (-1)]
def Wcz:List AI:=[oF 59 3 3,oL 60 59,oJ 61 60,oI 62 0]
def Xto:List AI:=[oT 63 .lss 62 61]
def Xjf:List AI:=[oX 64 6 60 62,oK 65 6 64,oO 8 (.alloc [z6,z8,z6,zs,zl,zb]),oS 6 8 65]
def Xia:List AI:=[oF 66 0 8,oL 67 66,oM 68 6,oT 69 .leq 67 68,oM 70 69,gF 70 (oF 71 0 8),gF 70 (oL 72 71),gF 70 (oF 73 3 5),gF 70 (oL 74 73),gF 70 (oJ 75 74),gF 70 (oT 76 .geq 72 75),oR 77 70 76,oM 78 77,gF 78 (oF 79 1 8),gF 78 (oK 80 5 79),gF 78 (oQ 81 76 [80]),gF 78 (oV 82 .neq 81 0),oR 83 78 82]
def Xtj:List AI:=[oI 4 8]
def Yuk:List AI:=[oF 84 0 8,oL 85 84,oM 6 85]
def Xdb:List AI:=[oV 86 .add 62 1,oM 62 86]
def Xr1:List AI:=[oI 4 0]
abbrev Zbf:AC:=(sR 8 Xto (.seq (.cond (.t 63) .skip (.exit 0)) (.seq (.block 1 (sR 9 Xjf (.seq (sR 10 Xia (.cond (.t 83) (sR 11 Xtj .ret) .skip)) (.reg 12 Yuk)))) (.reg 13 Xdb))))
abbrev Zf9:AC:=(sR 14 Xr1 .ret)
abbrev Zwu:AC:=(sR 6 Xg6 (.seq (sR 7 Wcz (.block 0 (.loop Zbf))) Zf9))
abbrev Yjz:AC:=(.seq (sR 4 Wi9 (.cond (.t 58) (sR 5 Wji .ret) .skip)) Zwu)
abbrev Yb5:AC:=(sR 3 Xao Yjz)
abbrev Zrd:AC:=(.seq (sR 1 Wiz (.cond (.t 24) (sR 2 Xyg .ret) .skip)) Yb5)
abbrev b86:AC:=(sR 0 Ykx Zrd)
def Zec:AF:={ nt:=87,res:=[.tmp 4],body:=b86 }
abbrev Zxf (PG:Za)(d:Nat)(Q:AE->Sl->St->Prop)(t60:List Zz)(t61:Int)(last6:Int)(t62:Int)(m12294:Yb):Prop:=
  ∀(σ:Sl)(st:St)(o_t60:Zl)(v12294:Nat),σ 5=.p (d,12294) v12294 0->σ 6=.i .i64 last6->σ 60=.sl o_t60 (List.map Zz.row t60)->σ 61=.i .i64 t61->σ 62=.i .i64 t62->lk st.bx (d,12294)=some (v12294,Yb.cs m12294)->W PG d (.loop Zbf) σ st (Ya 0 (Zs PG d Zf9 Q))
def Zj1 (PG:Za)(K:Int->Prop) :Prop:=
  K 0
def Zcs (PG:Za)(K:Int->Prop)(P0:Int->Int->Yb->Prop)(last6:Int)(t60:List Zz)(t61:Int)(t62:Int)(m12294:Yb):Prop:=
  (t62<t61->0<=t62/\∃c:Zz,t60[(t62).toNat]?=some c/\(c.slot<=last6->K 8)/\(¬(c.slot<=last6)->(c.slot>=(m12294.slots.length:Int)->K 8)/\(¬(c.slot>=(m12294.slots.length:Int))->∃e,Ze PG 76 [c.value.av] (.i .i64 e)/\(e≠0->K 8)/\(¬(e≠0)->P0 c.slot (IntKind.i64.wrap (t62+1)) m12294))))/\(¬(t62<t61)->Zj1 PG K )
def Zot (PG:Za)(K:Int->Prop)(m1:Zg)(m12294:Yb):Prop:=
  ∀P0:Int->Int->Yb->Prop,(∀(last6:Int)(t62:Int)(m12294:Yb),Zcs PG K P0 last6 m1.locals (m1.locals.length:Int) t62 m12294->P0 last6 t62 m12294)->P0 (-1) 0 m12294
def Zl7 (PG:Za)(K:Int->Prop)(m1:Zg)(m12294:Yb):Prop:=
  ((m12294.slots.length:Int)>16->K 8)/\(¬((m12294.slots.length:Int)>16)->((m12294.name.length:Int)>16->K 8)/\(¬((m12294.name.length:Int)>16)->(m1.pos<0->K 8)/\(¬(m1.pos<0)->(m1.pos>=(m12294.code.length:Int)->K 8)/\(¬(m1.pos>=(m12294.code.length:Int))->∃c,(∀e:Zl,Ym PG 122 [.sl e (List.map Yz.row m12294.slots),.fn 123 []] (fun r=>r=.b c))/\(c=true->K 8)/\(c=false->Zot PG K m1 m12294)))))
def Zi4 (PG:Za)(K:Int->Prop)(m0:Zf)(m1:Zg):Prop:=
  0<=m1.func/\∃c,m0.funcs[(m1.func).toNat]?=some c/\Zl7 PG K m1 c
def Zrj (PG:Za)(K:Int->Prop)(m0:Zf)(m1:Zg):Prop:=
  (m1.func<0->K 8)/\(¬(m1.func<0)->(m1.func>=(m0.funcs.length:Int)->K 8)/\(¬(m1.func>=(m0.funcs.length:Int))->(m1.mode>3->K 8)/\(¬(m1.mode>3)->Zi4 PG K m0 m1)))
def Zjp (PG:Za)(K:Int->Prop)(m0:Zf)(x1:Zg):Prop:=
  Zrj PG K m0 x1
section
variable {PG:Za}{d:Nat}{Q:AE->Sl->St->Prop}{K:Int->Prop}(hQ:H1 (AV.i .i64) 4 Q K){σ:Sl}{st:St}
include hQ
variable {last6:Int}{t60:List Zz}{t61 t62:Int}{m12294:Yb}{P0:Int->Int->Yb->Prop}{o_t60:Zl}{v12294:Nat}{m1:Zg}{v1:Nat}{m0:Zf}{v0:Nat}{x1:Zg}
variable (kP0 :∀(last6:Int)(t62:Int)(m12294:Yb),P0 last6 t62 m12294->Zxf PG d Q t60 t61 last6 t62 m12294)(H2:σ 2=.p (d,0) v0 0)(H0:σ 0=m0.av)(H3:σ 3=.p (d,1) v1 0)(H1:σ 1=x1.av)(H5:σ 5=.p (d,12294) v12294 0)(B0:lk st.bx (d,0)=some (v0,Zf.cs m0))(H6:σ 6=.i .i64 last6)(B1:lk st.bx (d,1)=some (v1,Zg.cs m1))(H60:σ 60=.sl o_t60 (List.map Zz.row t60))(H61:σ 61=.i .i64 t61)(H62:σ 62=.i .i64 t62)(B12294:lk st.bx (d,12294)=some (v12294,Yb.cs m12294))
theorem Yvl (h:Zj1 PG K ):W PG d Zf9 σ st Q:=
 au trivial
include kP0 H5 H6 H60 H61 H62 B12294 in
theorem Yzz (h:Zcs PG K P0 last6 t60 t61 t62 m12294):W PG d Zbf σ st (Zs PG d (.loop Zbf) (Ya 0 (Zs PG d Zf9 Q))):=
 au @Yvl
include H3 H5 B1 B12294 in
theorem Xwc (h:Zot PG K m1 m12294):W PG d Zwu σ st Q:=
 q_ J (m_ (e_ (Zm (q_ J (f_ H3 (l_ J B1 J J (Xc J (m_ (e_ (Yj (h (Zxf PG d Q m1.locals (m1.locals.length:Int)) (fun _ _ _ hb _ _ _ _ H5 H6 H60 H61 H62 B12294=>W.loop (Yzz hQ (fun _ _ _ x=>x) H5 H6 H60 H61 H62 B12294 hb)) _ _ _ _ H5 J J J J B12294)))))))))))
include H3 H5 B1 B12294 in
theorem Wa0 (h:Zl7 PG K m1 m12294):W PG d Yjz σ st Q:=
 Zm (q_ J (f_ H5 (l_ J B12294 J J (Xc J (b_ J J Vz (Yt J (Yq (g:=35) J (fun c=>z_ 23 J (e_ (Yr J (q_ J (m_ (Zp (hQ J (h.1 c)))))))) (fun c=>Zd J (f_ H5 (Zd J (l_ J B12294 J J (Zd J (Hf J (Zd J (b_ J J Vz (z_ 2 J (Yq (g:=41) J (fun e=>z_ 17 J (e_ (Yr J (q_ J (m_ (Zp (hQ J ((h.2 c).1 e)))))))) (fun e=>Zd J (f_ H3 (Zd J (l_ J B1 J J (Zd J (b_ J J Wx (z_ 2 J (Yq (g:=46) J (fun i=>z_ 12 J (e_ (Yr J (q_ J (m_ (Zp (hQ J (((h.2 c).2 e).1 i)))))))) (fun i=>Zd J (f_ H3 (Zd J (l_ J B1 J J (Zd J (f_ H5 (Zd J (l_ J B12294 J J (Zd J (Xc J (Zd J (b_ J J Gb (z_ 2 J (Yq (g:=54) J (fun o=>z_ 4 J (e_ (Yr J (q_ J (m_ (Zp (hQ J ((((h.2 c).2 e).2 i).1 o)))))))) (fun o=>Zd J (f_ H5 (Zd J (l_ J B12294 J J (Zd J (((((h.2 c).2 e).2 i).2 o).elim fun _ j=>Gx (Zy J (Zy J Yn)) (j.1 _) (fun _ p=>Vp J J (e_ (Xl J (fun k=>q_ J (m_ (Zp (hQ J (j.2.1 k))))) (fun k=>Yd (Xwc hQ H3 H5 ((p.1 (d,1) (Nat.lt_succ_self d) Us).trans B1) ((p.1 (d,12294) (Nat.lt_succ_self d) Us).trans B12294) (j.2.2 k)))))))))))))))))))))))))))))))))))))))))))))))))))
include H2 H3 B0 B1 in
theorem Yoa (h:Zi4 PG K m0 m1):W PG d Yb5 σ st Q:=
 au @Wa0
include H2 H3 B0 B1 in
theorem Ysz (h:Zrj PG K m0 m1):W PG d Zrd σ st Q:=
 au @Yoa
include H0 H1 in
theorem Xsm (h:Zjp PG K m0 x1):W PG d (sR 0 Ykx Zrd) σ st Q:=
 au @Ysz
end
theorem p86 {PG:Za}(hf:PG.fn 86=some Zec){m0:Zf}{x1:Zg}{K:Int->Prop}(h:Zjp PG K m0 x1) :∃res0:Int,K res0/\Ze PG 86 [m0.av,x1.av] (.i .i64 res0):=
 P1 hf J (Xsm (h1 J fun _=>J) J J h)
def Ylo:List AI:=[oY 3 3 0,oY 5 4 2,oC 6 (.sl .full []),oI 7 0]
def Wdm:List AI:=[oM 15 1,oV 16 .lss 15 0,oM 17 16,gF 17 (oM 18 1),gF 17 (oV 19 .geq 18 170),oR 20 17 19]
def Xql:List AI:=[oC 6 (.sl .full []),oI 7 2]
def Xu6:List AI:=[oK 21 3 3,oK 22 4 5,oQ 23 86 [21,22],oM 8 23]
def Wey:List AI:=[oM 24 8,oV 25 .neq 24 0]
def Xff:List AI:=[oM 26 8,oC 6 (.sl .full []),oM 7 26]
def Yop:List AI:=[oF 27 2 3,oL 28 27,oF 29 0 5,oL 30 29,oX 31 7 28 30,oK 32 7 31,oO 9 (.alloc [zs,z6,z6,zl,zl,zl,zl]),oS 7 9 32]
def Waj:List AI:=[oM 33 1,oQ 34 111 [33],oB 35 .add (.c (.s [35])) (.t 34),oB 36 .add (.t 35) (.c (.s [32])),oF 37 0 5,oL 38 37,oQ 39 111 [38],oT 40 .add 36 39,oB 41 .add (.t 40) (.c (.s [32])),oF 42 0 9,oL 43 42,oQ 44 112 [43],oT 45 .add 41 44,oB 46 .add (.t 45) (.c (.s [32,97,116,32])),oF 47 1 5,oL 48 47,oQ 49 111 [48],oT 50 .add 46 49,oB 51 .add (.t 50) (.c (.s [32])),oQ 52 113 [],oF 53 2 5,oL 54 53,oO 55 (.ixA 4 1 false (.t 52) (.t 54)),oT 56 .add 51 55,oO 57 (.bslice [zs] 1 [(0,(.t 56))]),oM 10 57]
def Xej:List AI:=[oF 58 3 5,oL 59 58,oJ 60 59,oI 61 0]
def Wb5:List AI:=[oT 62 .lss 61 60]
def Xk2:List AI:=[oX 63 6 59 61,oK 64 6 63,oO 12 (.alloc [z6,z8,z6,zs,zl,zb]),oS 6 12 64]
def Ypd:List AI:=[oF 66 1 12,oK 67 5 66,oQ 68 72 [67],oM 65 68,oE 69 0 65,oE 70 1 65,oM 13 69,oM 14 70]
def Wbu:List AI:=[oM 71 14,oV 72 .neq 71 0]
def Wg2:List AI:=[oM 73 14,oC 6 (.sl .full []),oM 7 73]
def Xl3:List AI:=[oM 74 10,oF 75 0 12,oL 76 75,oQ 77 111 [76],oB 78 .add (.c (.s [32,32])) (.t 77),oB 79 .add (.t 78) (.c (.s [32])),oF 80 3 9,oL 81 80,oF 82 0 12,oL 83 82,oX 84 2 81 83,oF 85 0 84,oL 86 85,oQ 87 112 [86],oT 88 .add 79 87,oB 89 .add (.t 88) (.c (.s [32,61,32])),oM 90 13,oT 91 .add 89 90,oO 92 (.bslice [zs] 1 [(0,(.t 91))]),oO 93 (.app 1 16 (.t 74) (.t 92)),oM 10 93]
def Xa8:List AI:=[oV 94 .add 61 1,oM 61 94]
def Wep:List AI:=[oM 95 10,oM 6 95,oI 7 0]
abbrev Zdl:AC:=(sR 9 Wb5 (.seq (.cond (.t 62) .skip (.exit 0)) (.seq (.block 1 (sR 10 Xk2 (sR 11 Ypd (.seq (sR 12 Wbu (.cond (.t 72) (sR 13 Wg2 .ret) .skip)) (.reg 14 Xl3))))) (.reg 15 Xa8))))
abbrev Zh2:AC:=(sR 16 Wep .ret)
abbrev Yip:AC:=(sR 7 Waj (.seq (sR 8 Xej (.block 0 (.loop Zdl))) Zh2))
abbrev Ygu:AC:=(sR 6 Yop Yip)
abbrev Yjt:AC:=(.seq (sR 3 Xu6 (sR 4 Wey (.cond (.t 25) (sR 5 Xff .ret) .skip))) Ygu)
abbrev Zj4:AC:=(.seq (sR 1 Wdm (.cond (.t 20) (sR 2 Xql .ret) .skip)) Yjt)
abbrev b82:AC:=(sR 0 Ylo Zj4)
def Zbv:AF:={ nt:=96,res:=[.tmp 6,.tmp 7],body:=b82 }
abbrev Ylp (PG:Za)(d:Nat)(Q:AE->Sl->St->Prop)(t59:List Zz)(t60:Int)(out10:LB)(t61:Int)(m24582:Yb):Prop:=
  ∀(σ:Sl)(st:St) (o_out10 o_t59:Zl)(v24582:Nat),σ 9=.p (d,24582) v24582 0->σ 10=.sl o_out10 (List.map Zv out10)->σ 59=.sl o_t59 (List.map Zz.row t59)->σ 60=.i .i64 t60->σ 61=.i .i64 t61->Xe d st.ow o_out10 out10.length->lk st.bx (d,24582)=some (v24582,Yb.cs m24582)->W PG d (.loop Zdl) σ st (Ya 0 (Zs PG d Zh2 Q))
def Zmo (PG:Za)(K:LB->Int->Prop)(out10:LB):Prop:=
  K out10 0
def Zgo (PG:Za)(K:LB->Int->Prop)(P0:LB->Int->Yb->Prop)(out10:LB)(t59:List Zz)(t60:Int)(t61:Int)(m24582:Yb):Prop:=
  (t61<t60->0<=t61/\∃j:Zz,t59[(t61).toNat]?=some j/\∃k:BS,∃o,Ze PG 72 [j.value.av] (.tup [.s k,.i .i64 o])/\(o≠0->K ([]:LB) o)/\(¬(o≠0)->∃c:BS,Ze PG 111 [.i .i64 j.slot] (.s c)/\([32,32]:BS).length+c.length<=We/\(([32,32]:BS)++c).length+([32]:BS).length<=We/\0<=j.slot/\∃p:Yz,m24582.slots[(j.slot).toNat]?=some p/\∃e:BS,Ze PG 112 [.s p.name] (.s e)/\((([32,32]:BS)++c)++([32]:BS)).length+e.length<=We/\(((([32,32]:BS)++c)++([32]:BS))++e).length+([32,61,32]:BS).length<=We/\((((([32,32]:BS)++c)++([32]:BS))++e)++([32,61,32]:BS)).length+k.length<=We/\Qn (out10.length+[(((((([32,32]:BS)++c)++([32]:BS))++e)++([32,61,32]:BS))++k)].length) 16/\P0 (out10++[(((((([32,32]:BS)++c)++([32]:BS))++e)++([32,61,32]:BS))++k)]) (IntKind.i64.wrap (t61+1)) m24582))/\(¬(t61<t60)->Zmo PG K out10)
def Zme (PG:Za)(K:LB->Int->Prop)(k1:Int)(m1:Zg)(m24582:Yb):Prop:=
  ∃c:BS,Ze PG 111 [.i .i64 k1] (.s c)/\([35]:BS).length+c.length<=We/\(([35]:BS)++c).length+([32]:BS).length<=We/\∃e:BS,Ze PG 111 [.i .i64 m1.func] (.s e)/\((([35]:BS)++c)++([32]:BS)).length+e.length<=We/\(((([35]:BS)++c)++([32]:BS))++e).length+([32]:BS).length<=We/\∃j:BS,Ze PG 112 [.s m24582.name] (.s j)/\((((([35]:BS)++c)++([32]:BS))++e)++([32]:BS)).length+j.length<=We/\(((((([35]:BS)++c)++([32]:BS))++e)++([32]:BS))++j).length+([32,97,116,32]:BS).length<=We/\∃k:BS,Ze PG 111 [.i .i64 m1.pos] (.s k)/\((((((([35]:BS)++c)++([32]:BS))++e)++([32]:BS))++j)++([32,97,116,32]:BS)).length+k.length<=We/\(((((((([35]:BS)++c)++([32]:BS))++e)++([32]:BS))++j)++([32,97,116,32]:BS))++k).length+([32]:BS).length<=We/\∃o:LB,Ze PG 113 [] (.ag (List.map AV.s o))/\o.length=4/\0<=m1.mode/\∃p:BS,(o:LB)[(m1.mode).toNat]?=some p/\((((((((([35]:BS)++c)++([32]:BS))++e)++([32]:BS))++j)++([32,97,116,32]:BS))++k)++([32]:BS)).length+p.length<=We/\∀P0:LB->Int->Yb->Prop,(∀(out10:LB)(t61:Int)(m24582:Yb),Zgo PG K P0 out10 m1.locals (m1.locals.length:Int) t61 m24582->P0 out10 t61 m24582)->P0 [(((((((((([35]:BS)++c)++([32]:BS))++e)++([32]:BS))++j)++([32,97,116,32]:BS))++k)++([32]:BS))++p)] 0 m24582
def Znv (PG:Za)(K:LB->Int->Prop)(k1:Int)(m0:Zf)(m1:Zg):Prop:=
  0<=m1.func/\∃c,m0.funcs[(m1.func).toNat]?=some c/\Zme PG K k1 m1 c
def Zo6 (PG:Za)(K:LB->Int->Prop)(k1:Int)(m0:Zf)(m1:Zg):Prop:=
  ∃c,Ze PG 86 [m0.av,m1.av] (.i .i64 c)/\(c≠0->K ([]:LB) c)/\(¬(c≠0)->Znv PG K k1 m0 m1)
def Zm5 (PG:Za)(K:LB->Int->Prop)(k1:Int)(m0:Zf)(m1:Zg):Prop:=
  (k1<0->K ([]:LB) 2)/\(¬(k1<0)->(k1>=170->K ([]:LB) 2)/\(¬(k1>=170)->Zo6 PG K k1 m0 m1))
def Zhk (PG:Za)(K:LB->Int->Prop)(m0:Zf)(k1:Int)(x2:Zg):Prop:=
  Zm5 PG K k1 m0 x2
section
variable {PG:Za}{d:Nat}{Q:AE->Sl->St->Prop}{K:LB->Int->Prop}(hQ:HM Zv (AV.i .i64) 6 7 Q K){σ:Sl}{st:St}
include hQ
variable {out10:LB}{o_out10:Zl}{t59:List Zz}{t60 t61:Int}{m24582:Yb}{P0:LB->Int->Yb->Prop}{o_t59:Zl}{v24582:Nat}{k1:Int}{m1:Zg}{v1:Nat}{m0:Zf}{v0:Nat}{x2:Zg}
variable (kP0 :∀(out10:LB)(t61:Int)(m24582:Yb),P0 out10 t61 m24582->Ylp PG d Q t59 t60 out10 t61 m24582)(H0:σ 0=m0.av)(H1:σ 1=.i .i64 k1)(H3:σ 3=.p (d,0) v0 0)(H2:σ 2=x2.av)(H5:σ 5=.p (d,1) v1 0)(H9:σ 9=.p (d,24582) v24582 0)(B0:lk st.bx (d,0)=some (v0,Zf.cs m0))(H10:σ 10=.sl o_out10 (List.map Zv out10))(B1:lk st.bx (d,1)=some (v1,Zg.cs m1))(H59:σ 59=.sl o_t59 (List.map Zz.row t59))(H60:σ 60=.i .i64 t60)(H61:σ 61=.i .i64 t61)(A10:Xe d st.ow o_out10 out10.length)(B24582:lk st.bx (d,24582)=some (v24582,Yb.cs m24582))
include H10 A10 in
theorem Xt8 (h:Zmo PG K out10):W PG d Zh2 σ st Q:=
 au trivial
include kP0 H9 H10 H59 H60 H61 A10 B24582 in
theorem Wdr (h:Zgo PG K P0 out10 t59 t60 t61 m24582):W PG d Zdl σ st (Zs PG d (.loop Zdl) (Ya 0 (Zs PG d Zh2 Q))):=
 q_ J (b_ H61 H60 Wx (e_ (Zm (Yk J (fun j=>Yd (Zm (Yj (Zm (W.reg ((h.1 j).2.elim fun v q=>Wz H59 H61 (h.1 j).1 q.1 (Zz.row_eq v) J (Xp J J J (Xs (Ye J (show lk _ (d,40962)=some (_,([.i .i64 0,.i .u8 0,.i .i64 0,.s [],.sl .full (List.map Zb.row ([]:List Zb)),.b false]:List AV)) from Zi) J J J (e_ (q_ J (f_ J (l_ J Zi J J (x2 q.2 fun y _ k=>Yg (Wm J J) k.1 (m_ (x_ J J (x_ J J (m_ (m_ (e_ (Zm (q_ J (m_ (b_ J J Vd (e_ (Yk J (fun o=>q_ J (m_ (Yi (f:=Zv) (l:=[]) J (m_ (Zp (hQ J J (k.2.1 o))))))) (fun o=>Yd (W.reg0 J fun _ _=>Yi H10 (f_ J (l_ J Zi J J ((k.2.2 o).elim fun z e=>Yg (Wm J J) e.1 (b_ J J (Vy e.2.1) (b_ J J (Vy e.2.2.1) (f_ H9 (l_ J (Zt J (Zt J B24582)) J J (f_ J (l_ J Zi J J (e.2.2.2.2.elim fun u p=>Wz J J e.2.2.2.1 p.1 (Yz.row_eq u) J (Kb J (Xp J J J (p.2.elim fun x c=>Yg (Wm J J) c.1 (b_ J J (Vy c.2.1) (b_ J J (Vy c.2.2.1) (m_ (b_ J J (Vy c.2.2.2.1) (Vt (f:=Zv) (l:=[(((((([32,32]:BS)++z)++([32]:BS))++x)++([32,61,32]:BS))++y)]) J J (Wg J J J Vl) J (Qo Cc J J J A10.1 c.2.2.2.2.1 J (fun _ _ r _ w=>Yi J (e_ (W.reg0 J fun _ _=>b_ H61 J Jf (m_ (e_ (kP0 _ _ _ c.2.2.2.2.2 _ _ _ _ _ H9 J H59 H60 J (Xe.mk r (Gr.app A10.2 J w)) (Zt J (Zt J B24582))))))))))))))))))))))))))))))))))))))))))))))))))))))) (fun j=>Vr (Xt8 hQ H10 A10 (h.2 j)))))))
include H1 H5 H9 B1 B24582 in
theorem Xhx (h:Zme PG K k1 m1 m24582):W PG d Yip σ st Q:=
 q_ J (m_ (h.elim fun q e=>Yg (Wm H1 J) e.1 (b_ J J (Vy e.2.1) (b_ J J (Vy e.2.2.1) (f_ H5 (l_ J B1 J J (e.2.2.2.elim fun r i=>Yg (Wm J J) i.1 (b_ J J (Vy i.2.1) (b_ J J (Vy i.2.2.1) (f_ H9 (l_ J B24582 J J (i.2.2.2.elim fun u j=>Yg (Wm J J) j.1 (b_ J J (Vy j.2.1) (b_ J J (Vy j.2.2.1) (f_ H5 (l_ J B1 J J (j.2.2.2.elim fun v k=>Yg (Wm J J) k.1 (b_ J J (Vy k.2.1) (b_ J J (Vy k.2.2.1) (k.2.2.2.elim fun _ c=>Yg sn c.1 (f_ H5 (l_ J B1 J J (c.2.2.2.elim fun p o=>Tu (f:=AV.s) c.2.1 J J c.2.2.1 o.1 (b_ J J (Vy o.2.1) (Vt (f:=Zv) (l:=[(((((((((([35]:BS)++q)++([32]:BS))++r)++([32]:BS))++u)++([32,97,116,32]:BS))++v)++([32]:BS))++p)]) J J (Wg J J J Vl) J (Yi J (e_ (Zm (q_ J (f_ H5 (l_ J B1 J J (Xc J (m_ (e_ (Yj (o.2.2 (Ylp PG d Q m1.locals (m1.locals.length:Int)) (fun _ _ _ hb _ _ _ _ _ H9 H10 H59 H60 H61 A10 B24582=>W.loop (Wdr hQ (fun _ _ _ x=>x) H9 H10 H59 H60 H61 A10 B24582 hb)) _ _ _ _ _ H9 J J J J Xe.full B24582))))))))))))))))))))))))))))))))))))
include H1 H3 H5 B0 B1 in
theorem Xtt (h:Znv PG K k1 m0 m1):W PG d Ygu σ st Q:=
 Zm (W.reg (f_ H3 (l_ J (Zt J B0) J J (f_ H5 (l_ J (Zt J B1) J J (h.2.elim fun e c=>Wz J J h.1 c.1 (Yb.row_eq e) J (Xp J J J (Xs (Ye J (show lk _ (d,24582)=some (_,([.s [],.i .i64 0,.i .i64 0,.sl .full (List.map Yz.row ([]:List Yz)),.sl .full (List.map Jn.row ([]:List Jn)),.sl .full (List.map Vg.row ([]:List Vg)),.sl .full (List.map Vg.row ([]:List Vg))]:List AV)) from Zi) J J J (e_ (Xhx hQ H1 H5 J (Zt J (Zt J B1)) Zi c.2)))))))))))
include H1 H3 H5 B0 B1 in
theorem Wj1 (h:Zo6 PG K k1 m0 m1):W PG d Yjt σ st Q:=
 au @Xtt
include H1 H3 H5 B0 B1 in
theorem Weq (h:Zm5 PG K k1 m0 m1):W PG d Zj4 σ st Q:=
 Zm (q_ J (Xh H1 (b_ J J Wx (Yt J (Yq (g:=17) J (fun c=>z_ 3 J (e_ (Yr J (q_ J (Yi (f:=Zv) (l:=[]) J (m_ (Zp (hQ J J (h.1 c))))))))) (fun c=>Zd J (Xh H1 (Zd J (b_ J J Gb (Vp J J (e_ (Yk J (fun e=>q_ J (Yi (f:=Zv) (l:=[]) J (m_ (Zp (hQ J J ((h.2 c).1 e)))))) (fun e=>Yd (Wj1 hQ H1 H3 H5 B0 B1 ((h.2 c).2 e)))))))))))))))
include H0 H1 H2 in
theorem Xlr (h:Zhk PG K m0 k1 x2):W PG d (sR 0 Ylo Zj4) σ st Q:=
 au @Weq
end
theorem p82 {PG:Za}(hf:PG.fn 82=some Zbv){m0:Zf}{k1:Int}{x2:Zg}{K:LB->Int->Prop}(h:Zhk PG K m0 k1 x2) :∃res0:LB,∃res1:Int,K res0 res1/\Ze PG 82 [m0.av,.i .i64 k1,x2.av] (.tup [.sl .ext (List.map Zv res0),.i .i64 res1]):=
 P2 hf J (Xlr (hM J fun _ _ _=>J) J J J h)
end Go.AM

/- Yf of the proof. -/
namespace Go.AM
open Go
set_option linter.unusedVariables false
set_option linter.unusedSimpArgs false
set_option maxRecDepth 4000
set_option maxHeartbeats 2000000
attribute [local irreducible] Decidable.decide W WO Wq Ws
def Yet:List AI:=[oI 4 0,oC 5 (.b false)]
def Yaz:List AI:=[oM 9 0,oO 10 (.call true 131 [(.t 9)]),oM 8 10,oE 11 0 8,oE 12 1 8,oM 6 11,oM 7 12]
def Zxr:List AI:=[oM 13 6,oM 14 7,oM 15 14,gT 15 (oM 16 6),gT 15 (oV 17 .geq 16 0),oA 18 15 17,oM 19 18,gT 19 (oM 20 6),gT 19 (oM 21 1),gT 19 (oT 22 .lss 20 21),oA 23 19 22,oM 4 13,oM 5 23]
abbrev Xl8:AC:=(sR 0 Yet (sR 1 Yaz (sR 2 Zxr .ret)))
def Ll:AF:={ nt:=24,res:=[.tmp 4,.tmp 5],body:=Xl8 }
abbrev Xov (d:Nat)(Zj:St)(kp:Zo)(vp:Nat)(Q:AE->Sl->St->Prop)(K:Int->Bool->Sc->Prop):Prop:=∀(σ:Sl)(st:St)(res0:Int)(res1:Bool)(b_:Sc),σ 4=.i .i64 res0->σ 5=.b res1->lk st.bx kp=some (vp,[.s b_.left])->Fr d kp Zj.bx Zj.ow st.bx st.ow->K res0 res1 b_->Q .ret σ st
def Zn0 (PG:Za)(K:Int->Bool->Sc->Prop)(n1:Int)(mP:Sc):Prop:=
  ∃c j,∃e:Sc,Yp PG 131 (Bx [.s mP.left]) [] (fun r=>r=.tup [.i .i64 c,.b j]) ((Bx [.s e.left]))/\(j=true->(c>=0->K c (decide (c<n1)) e)/\(¬(c>=0)->K c false e))/\(j=false->K c false e)
section
variable {PG:Za}{d:Nat}{Q:AE->Sl->St->Prop}{K:Int->Bool->Sc->Prop}{Zj:St}{kp:Zo}{vp:Nat}(hQ:Xov d Zj kp vp Q K)(hkp:kp.1<d){σ:Sl}{st:St}
include hQ hkp
variable {n1:Int}{mP:Sc}
variable (H0:σ 0=.p kp vp 0)(H1:σ 1=.i .i64 n1)(BP:lk st.bx kp=some (vp,[.s mP.left]))(FR:Fr d kp Zj.bx Zj.ow st.bx st.ow)
include H0 H1 BP FR in
theorem Wcm (h:Zn0 PG K n1 mP):W PG d (sR 0 Yet (sR 1 Yaz (sR 2 Zxr .ret))) σ st Q:=
 q_ J (m_ (m_ (e_ (q_ J (m_ (x2 h fun _ _ o=>o.elim fun _ c=>Wa (Zy H0 Yn) c.1 (Nat.lt_succ_of_lt hkp) BP (fun _ j k=>m_ (x_ J J (x_ J J (m_ (m_ (e_ (q_ J (Xh J (z_ 2 J (Qf (g:=15) J (fun e=>Zd J (Xh J (Zd J (b_ J J Gb (z_ 2 J (Yq (g:=19) J (fun i=>Zd J (Xh J (Zd J (Xh H1 (Zd J (b_ J J Wx (Dh J J (Xh J (Yt J (Zp (hQ _ _ _ _ _ J J j (Fr.pass FR k) ((c.2.1 e).1 i)))))))))))) (fun i=>z_ 4 J (Xh J (Yt J (Zp (hQ _ _ _ _ _ J J j (Fr.pass FR k) ((c.2.1 e).2 i)))))))))))) (fun e=>z_ 8 J (Xh J (Yt J (Zp (hQ _ _ _ _ _ J J j (Fr.pass FR k) (c.2.2 e))))))))))))))))))))))
end
theorem Wbg {PG:Za}(hf:PG.fn 140=some Ll){n1:Int}{mP:Sc}{K:Int->Bool->Sc->Prop}(h:Zn0 PG K n1 mP):Qk PG 140 (Bx [.s mP.left]) [.i .i64 n1] (fun r (b_:Sc)=>∃res0:Int,∃res1:Bool,(r=.tup [.i .i64 res0,.b res1])/\K res0 res1 b_) (fun b_=>(Bx [.s b_.left])):=
  Qk.of hf rfl (fun _=>Bx.out) fun d st kp vp hkp hB=>Wcm (Zj:=st) (Q:=fun e σ st'=>(e=.normal\/e=.ret)/\∃r b_,Xg σ st' Ll.res=some r/\_/\_/\Fr d kp st.bx st.ow st'.bx st'.ow) (fun σ st'   res0 res1 b_ H4 H5 hb hf hk=>⟨.inr rfl,.tup [.i .i64 res0,.b res1],b_,by simp only [Ll,Xg,Vc,H4,H5,Ki,Option.map_some,H4,H5],⟨res0,res1,rfl,hk⟩,hb,hf⟩) hkp (σ:=Xz [.p kp vp 0,.i .i64 n1]) rfl rfl hB Fr.refl h
def Zsa:List AI:=[oY 2 3 0,oI 4 0,oO 5 (.alloc [z6,z6,z7,zl]),oC 6 (.b false)]
def Xn0:List AI:=[oM 13 1,oO 14 (.build [zs] [(0,1,(.t 13))]),oY 15 1 14,oM 7 15]
def Xbm:List AI:=[oO 8 (.alloc [z6,z6,z7,zl])]
def Xy1:List AI:=[oM 16 7,oO 17 (.call true 128 [(.t 16),(.c (.s [35]))]),oZ 18 17]
def Ywa:List AI:=[oK 19 4 8,oI 4 0,oS 4 5 19,oC 6 (.b false)]
def Xl2:List AI:=[oM 21 7,oO 22 (.call true 140 [(.t 21),(.c (.i .i64 170))]),oM 20 22,oE 23 0 20,oE 24 1 20,oM 9 23,oM 10 24]
def Xbp:List AI:=[oM 25 10,oZ 26 25,oM 27 26,gF 27 (oM 28 7),gF 27 (oO 29 (.call true 128 [(.t 28),(.c (.s [32]))])),gF 27 (oZ 30 29),oR 31 27 30]
def Xav:List AI:=[oK 32 4 8,oI 4 0,oS 4 5 32,oC 6 (.b false)]
def Xn1:List AI:=[oM 34 7,oF 35 2 2,oL 36 35,oJ 37 36,oO 38 (.call true 140 [(.t 34),(.t 37)]),oM 33 38,oE 39 0 33,oE 40 1 33,oF 41 0 8,oS 1 41 39,oM 10 40]
def Yq2:List AI:=[oM 42 10,oZ 43 42,oM 44 43,gF 44 (oM 45 7),gF 44 (oF 46 2 2),gF 44 (oL 47 46),gF 44 (oF 48 0 8),gF 44 (oL 49 48),gF 44 (oX 50 7 47 49),gF 44 (oF 51 0 50),gF 44 (oL 52 51),gF 44 (oQ 53 112 [52]),gF 44 (oB 54 .add (.c (.s [32])) (.t 53)),gF 44 (oB 55 .add (.t 54) (.c (.s [32,97,116,32]))),gF 44 (oO 56 (.call true 128 [(.t 45),(.t 55)])),gF 44 (oZ 57 56),oR 58 44 57]
def Xhh:List AI:=[oK 59 4 8,oI 4 0,oS 4 5 59,oC 6 (.b false)]
def Xqm:List AI:=[oM 61 7,oF 62 2 2,oL 63 62,oF 64 0 8,oL 65 64,oX 66 7 63 65,oF 67 4 66,oL 68 67,oJ 69 68,oO 70 (.call true 140 [(.t 61),(.t 69)]),oM 60 70,oE 71 0 60,oE 72 1 60,oF 73 1 8,oS 1 73 71,oM 10 72]
def Ytx:List AI:=[oM 74 10,oZ 75 74,oM 76 75,gF 76 (oM 77 7),gF 76 (oO 78 (.call true 128 [(.t 77),(.c (.s [32]))])),gF 76 (oZ 79 78),oR 80 76 79]
def Yqx:List AI:=[oK 81 4 8,oI 4 0,oS 4 5 81,oC 6 (.b false)]
def Wb1:List AI:=[oQ 82 113 [],oO 11 (.alloc [zs,zs,zs,zs]),oS 4 11 82]
def Xr6:List AI:=[oO 83 (.slA 4 1 (.t 11) none none),oM 84 7,oN 85 84,oF 86 0 85,oL 87 86,oQ 88 141 [83,87],oM 12 88]
def Xun:List AI:=[oM 89 12,oO 90 (.max (.c (.i .i64 0)) (.t 89)),oO 91 (.cvi .u64 (.t 90)),oF 92 2 8,oS 1 92 91]
def Xtd:List AI:=[oM 93 9,oK 94 4 8,oM 95 12,oV 96 .geq 95 0,oM 4 93,oS 4 5 94,oM 6 96]
abbrev Yaq:AC:=(.cond (.t 31) (sR 7 Xav .ret) .skip)
abbrev Yl1:AC:=(.cond (.t 58) (sR 10 Xhh .ret) .skip)
abbrev Ybv:AC:=(.cond (.t 80) (sR 13 Yqx .ret) .skip)
abbrev Zoo:AC:=(sR 14 Wb1 (sR 15 Xr6 (sR 16 Xun (sR 17 Xtd .ret))))
abbrev Zm4:AC:=(sR 11 Xqm (.seq (sR 12 Ytx Ybv) Zoo))
abbrev Zxd:AC:=(.seq (sR 9 Yq2 Yl1) Zm4)
abbrev Zpo:AC:=(sR 8 Xn1 Zxd)
abbrev Ye3:AC:=(.seq (sR 6 Xbp Yaq) Zpo)
abbrev Yg5:AC:=(sR 5 Xl2 Ye3)
abbrev Ydx:AC:=(.seq (sR 3 Xy1 (.cond (.t 18) (sR 4 Ywa .ret) .skip)) Yg5)
abbrev Ym1:AC:=(sR 2 Xbm Ydx)
abbrev Zpt:AC:=(sR 1 Xn0 Ym1)
abbrev Xdo:AC:=(sR 0 Zsa Zpt)
def Ph:AF:={ nt:=97,res:=[.tmp 4,.cell 5 4 true,.tmp 6],body:=Xdo }
abbrev Wgz (d:Nat)(Zj:St)(Q:AE->Sl->St->Prop)(K:Int->Zg->Bool->Prop):Prop:=∀(σ:Sl)(st:St)(k1:Zo)(v1:Nat)(res0:Int)(res1:Zg)(res2:Bool),σ 4=.i .i64 res0->σ 5=.p k1 v1 0->lk st.bx k1=some (v1,[.i .i64 res1.func,.i .i64 res1.pos,.i .u64 res1.mode,.sl .full (List.map Zz.row res1.locals)])->σ 6=.b res2->Fr d (d,0) Zj.bx Zj.ow st.bx st.ow->K res0 res1 res2->Q .ret σ st
def Zjd (PG:Za)(K:Int->Zg->Bool->Prop)(k9:Int)(m2:Zg)(m4098:Sc)(m8192:Zg):Prop:=
  ∃e:LB,Ze PG 113 [] (.ag (List.map AV.s e))/\e.length=4/\e.length=4/\∃c,Ze PG 141 [.sl .ext (List.map Zv e),.s m4098.left] (.i .i64 c)/\K k9 (Zg.mk m8192.func m8192.pos (IntKind.u64.wrap (if 0<c then c else 0)) m8192.locals) (decide (c>=0))
def Zbe (PG:Za)(K:Int->Zg->Bool->Prop)(k9:Int)(t80:Bool)(m2:Zg)(m4098:Sc)(m8192:Zg):Prop:=
  (t80=true->K 0 m8192 false)/\(t80=false->Zjd PG K k9 m2 m4098 m8192)
def Znl (PG:Za)(K:Int->Zg->Bool->Prop)(k9:Int)(m0:Zf)(m2:Zg)(m4098:Sc)(m8192:Zg):Prop:=
  0<=m8192.func/\∃o:Yb,m0.funcs[(m8192.func).toNat]?=some o/\∃e c,∃j:Sc,Yp PG 140 (Bx [.s m4098.left]) [.i .i64 (o.code.length:Int)] (fun r=>r=.tup [.i .i64 e,.b c]) ((Bx [.s j.left]))/\((!c)=true->Zbe PG K k9 true m2 j (Zg.mk m8192.func e m8192.mode m8192.locals))/\((!c)=false->∃p,∃k:Sc,Yp PG 128 (Bx [.s j.left]) [.s ([32]:BS)] (fun r=>r=.b p) ((Bx [.s k.left]))/\Zbe PG K k9 (!p) m2 k (Zg.mk m8192.func e m8192.mode m8192.locals))
def Zgk (PG:Za)(K:Int->Zg->Bool->Prop)(k9:Int)(t58:Bool)(m0:Zf)(m2:Zg)(m4098:Sc)(m8192:Zg):Prop:=
  (t58=true->K 0 m8192 false)/\(t58=false->Znl PG K k9 m0 m2 m4098 m8192)
def Zhj (PG:Za)(K:Int->Zg->Bool->Prop)(k9:Int)(ok10:Bool)(m0:Zf)(m2:Zg)(m4098:Sc)(m8192:Zg):Prop:=
  ((!ok10)=true->Zgk PG K k9 true m0 m2 m4098 m8192)/\((!ok10)=false->0<=m8192.func/\∃e:Yb,m0.funcs[(m8192.func).toNat]?=some e/\∃c:BS,Ze PG 112 [.s e.name] (.s c)/\([32]:BS).length+c.length<=We/\(([32]:BS)++c).length+([32,97,116,32]:BS).length<=We/\∃j,∃i:Sc,Yp PG 128 (Bx [.s m4098.left]) [.s ((([32]:BS)++c)++([32,97,116,32]:BS))] (fun r=>r=.b j) ((Bx [.s i.left]))/\Zgk PG K k9 (!j) m0 m2 i m8192)
def Zq2 (PG:Za)(K:Int->Zg->Bool->Prop)(k9:Int)(m0:Zf)(m2:Zg)(m4098:Sc)(m8192:Zg):Prop:=
  ∃c e,∃j:Sc,Yp PG 140 (Bx [.s m4098.left]) [.i .i64 (m0.funcs.length:Int)] (fun r=>r=.tup [.i .i64 c,.b e]) ((Bx [.s j.left]))/\Zhj PG K k9 e m0 m2 j (Zg.mk c m8192.pos m8192.mode m8192.locals)
def Zd8 (PG:Za)(K:Int->Zg->Bool->Prop)(k9:Int)(t31:Bool)(m0:Zf)(m2:Zg)(m4098:Sc)(m8192:Zg):Prop:=
  (t31=true->K 0 m8192 false)/\(t31=false->Zq2 PG K k9 m0 m2 m4098 m8192)
def Zs2 (PG:Za)(K:Int->Zg->Bool->Prop)(k9:Int)(ok10:Bool)(m0:Zf)(m2:Zg)(m4098:Sc)(m8192:Zg):Prop:=
  ((!ok10)=true->Zd8 PG K k9 true m0 m2 m4098 m8192)/\((!ok10)=false->∃c,∃e:Sc,Yp PG 128 (Bx [.s m4098.left]) [.s ([32]:BS)] (fun r=>r=.b c) ((Bx [.s e.left]))/\Zd8 PG K k9 (!c) m0 m2 e m8192)
def Zrc (PG:Za)(K:Int->Zg->Bool->Prop)(m0:Zf)(m2:Zg)(m4098:Sc)(m8192:Zg):Prop:=
  ∃c e,∃j:Sc,Yp PG 140 (Bx [.s m4098.left]) [.i .i64 170] (fun r=>r=.tup [.i .i64 c,.b e]) ((Bx [.s j.left]))/\Zs2 PG K c e m0 m2 j m8192
def Zn7 (PG:Za)(K:Int->Zg->Bool->Prop)(m0:Zf)(m2:Zg)(m4098:Sc)(m8192:Zg):Prop:=
  ∃c,∃e:Sc,Yp PG 128 (Bx [.s m4098.left]) [.s ([35]:BS)] (fun r=>r=.b c) ((Bx [.s e.left]))/\((!c)=true->K 0 m8192 false)/\((!c)=false->Zrc PG K m0 m2 e m8192)
def Zpb (PG:Za)(K:Int->Zg->Bool->Prop)(m0:Zf)(m2:Zg)(m4098:Sc):Prop:=
  Zn7 PG K m0 m2 m4098 (Zg.mk 0 0 0 ([]:List Zz))
def Zh7 (PG:Za)(K:Int->Zg->Bool->Prop)(line1:BS)(m0:Zf)(m2:Zg):Prop:=
  Zpb PG K m0 m2 (Sc.mk line1)
def Zin (PG:Za)(K:Int->Zg->Bool->Prop)(m0:Zf)(line1:BS):Prop:=
  Zh7 PG K line1 m0 (Zg.mk 0 0 0 ([]:List Zz))
section
variable {PG:Za}{d:Nat}{Q:AE->Sl->St->Prop}{K:Int->Zg->Bool->Prop}{Zj:St}(hQ:Wgz d Zj Q K){σ:Sl}{st:St}
include hQ
variable {k9:Int}{m2:Zg}{m4098:Sc}{m8192:Zg}{v2 v4098 v8192:Nat}{t80:Bool}{m0:Zf}{v0:Nat}{t58 ok10 t31:Bool}{line1:BS}
variable (H0:σ 0=m0.av)(H1:σ 1=.s line1)(H2:σ 2=.p (d,0) v0 0)(H5:σ 5=.p (d,2) v2 0)(H7:σ 7=.p (d,4098) v4098 0)(H8:σ 8=.p (d,8192) v8192 0)(H9:σ 9=.i .i64 k9)(H80:σ 80=.b t80)(H58:σ 58=.b t58)(H10:σ 10=.b ok10)(H31:σ 31=.b t31)(B0:lk st.bx (d,0)=some (v0,Zf.cs m0))(B2:lk st.bx (d,2)=some (v2,[.i .i64 m2.func,.i .i64 m2.pos,.i .u64 m2.mode,.sl .full (List.map Zz.row m2.locals)]))(B4098:lk st.bx (d,4098)=some (v4098,[.s m4098.left]))(B8192:lk st.bx (d,8192)=some (v8192,[.i .i64 m8192.func,.i .i64 m8192.pos,.i .u64 m8192.mode,.sl .full (List.map Zz.row m8192.locals)]))(FR:Fr d (d,0) Zj.bx Zj.ow st.bx st.ow)
include H5 H7 H8 H9 B2 B4098 B8192 FR in
theorem Xzo (h:Zjd PG K k9 m2 m4098 m8192):W PG d Zoo σ st Q:=
 Zm (W.reg (h.elim fun _ c=>Yg sn c.1 (Xs (Lb (f:=AV.s) (fun _=>J) J (show lk _ (d,57345)=some (_,(List.map AV.s (List.replicate 4 ([]:BS)):List AV)) from Zi) (by simp) J c.2.1 (e_ (q_ J (Ykg J Zi c.2.2.1 J (m_ (Wh H7 (f_ J (l_ J (Iq J (Zt J (Zt J B4098))) J J (c.2.2.2.elim fun _ e=>Yg (Vq J J J) e.1 (m_ (e_ (q_ J (m_ (Xv9 J J (An J (f_ H8 (Ye J (Iq J (Zt J (Zt J B8192))) J J J (e_ (q_ J (m_ (l_ H8 Zi J J (m_ (b_ J J Gb (m_ (Ye H5 (Zt J (Iq J (Zt J (Zt J B2)))) J J J (m_ (Zp (hQ _ _ _ _ _ _ _ H9 H5 Zi J (Fr.box (Fr.box (Fr.del (Fr.box (Fr.box FR))))) e.2)))))))))))))))))))))))))))))))
include H5 H7 H8 H9 H80 B2 B4098 B8192 FR in
theorem Zy4 (h:Zbe PG K k9 t80 m2 m4098 m8192):W PG d Ybv σ st (Zs PG d Zoo Q):=
 Xl H80 (fun c=>q_ J (l_ H8 B8192 J J (m_ (Ye H5 B2 J J J (m_ (Zp (hQ _ _ _ _ _ _ _ J H5 Zi J (Fr.box FR) (h.1 c)))))))) (fun c=>Yd (Xzo hQ H5 H7 H8 H9 B2 B4098 B8192 FR (h.2 c)))
include H2 H5 H7 H8 H9 B0 B2 B4098 B8192 FR in
theorem Xf8 (h:Znl PG K k9 m0 m2 m4098 m8192):W PG d Zm4 σ st Q:=
 q_ J (m_ (f_ H2 (l_ J B0 J J (f_ H8 (l_ J B8192 J J (h.2.elim fun r o=>Wz J J h.1 o.1 (Yb.row_eq r) J (Kb J (Xp J J J (Xc J (x2 o.2 fun q _ u=>u.elim fun _ e=>Wa (Zy H7 (Zy J Yn)) e.1 (Nat.lt_succ_self d) B4098 (fun _ p c=>m_ (x_ J J (x_ J J (f_ H8 (Ye J ((c.1 (d,8192) (Nat.lt_succ_self d) (Wc J)).trans B8192) J J J (m_ (e_ (Zm (q_ J (Yt J (Xx J (Yt J (Qf (g:=76) J (fun i=>z_ 4 J (e_ (Zy4 (m8192:=(Zg.mk m8192.func q m8192.mode m8192.locals)) hQ H5 H7 H8 H9 J (Zt J ((c.1 (d,2) (Nat.lt_succ_self d) (Wc J)).trans B2)) (Zt J p) Zi (Fr.box (Fr.call FR c)) (e.2.1 i)))) (fun i=>Zd J (Ve H7 (Zd J ((e.2.2 i).elim fun _ s=>s.elim fun _ k=>Wa (Zy J (Zy J Yn)) k.1 (Nat.lt_succ_self d) (Zt J p) (fun _ v j=>Zd J (Xx J (Vp J J (e_ (Zy4 (m8192:=(Zg.mk m8192.func q m8192.mode m8192.locals)) hQ H5 H7 H8 H9 J ((j.1 (d,2) (Nat.lt_succ_self d) (Wc J)).trans (Zt J ((c.1 (d,2) (Nat.lt_succ_self d) (Wc J)).trans B2))) v ((j.1 (d,8192) (Nat.lt_succ_self d) (Wc J)).trans Zi) (Fr.call (Fr.box (Fr.call FR c)) j) k.2))))))))))))))))))))))))))))))))
include H2 H5 H7 H8 H9 H58 B0 B2 B4098 B8192 FR in
theorem Yiq (h:Zgk PG K k9 t58 m0 m2 m4098 m8192):W PG d Yl1 σ st (Zs PG d Zm4 Q):=
 Xl H58 (fun c=>q_ J (l_ H8 B8192 J J (m_ (Ye H5 B2 J J J (m_ (Zp (hQ _ _ _ _ _ _ _ J H5 Zi J (Fr.box FR) (h.1 c)))))))) (fun c=>Yd (Xf8 hQ H2 H5 H7 H8 H9 B0 B2 B4098 B8192 FR (h.2 c)))
include H2 H5 H7 H8 H9 H10 B0 B2 B4098 B8192 FR in
theorem Yoz (h:Zhj PG K k9 ok10 m0 m2 m4098 m8192):W PG d Zxd σ st Q:=
 Zm (q_ J (Yt H10 (Xx J (Yt J (Qf (g:=44) J (fun e=>z_ 14 J (e_ (Yiq hQ H2 H5 H7 H8 H9 J B0 B2 B4098 B8192 FR (h.1 e)))) (fun e=>Zd J (Ve H7 (Zd J (f_ H2 (Zd J (l_ J B0 J J (Zd J (f_ H8 (Zd J (l_ J B8192 J J (Zd J ((h.2 e).2.elim fun o j=>Wz J J (h.2 e).1 j.1 (Yb.row_eq o) J (Zd J (Kb J (Zd J (Xp J J J (Zd J (j.2.elim fun _ c=>Yg (Wm J J) c.1 (Zd J (b_ J J (Vy c.2.1) (Zd J (b_ J J (Vy c.2.2.1) (Zd J (c.2.2.2.elim fun _ p=>p.elim fun _ k=>Wa (Zy J (Zy J Yn)) k.1 (Nat.lt_succ_self d) B4098 (fun _ q i=>Zd J (Xx J (Vp J J (e_ (Yiq hQ H2 H5 H7 H8 H9 J ((i.1 (d,0) (Nat.lt_succ_self d) (Wc J)).trans B0) ((i.1 (d,2) (Nat.lt_succ_self d) (Wc J)).trans B2) q ((i.1 (d,8192) (Nat.lt_succ_self d) (Wc J)).trans B8192) (Fr.call FR i) k.2))))))))))))))))))))))))))))))))))
include H2 H5 H7 H8 H9 B0 B2 B4098 B8192 FR in
theorem Wg5 (h:Zq2 PG K k9 m0 m2 m4098 m8192):W PG d Zpo σ st Q:=
 q_ J (m_ (f_ H2 (l_ J B0 J J (Xc J (x2 h fun k _ i=>i.elim fun _ e=>Wa (Zy H7 (Zy J Yn)) e.1 (Nat.lt_succ_self d) B4098 (fun _ j c=>m_ (x_ J J (x_ J J (f_ H8 (Ye J ((c.1 (d,8192) (Nat.lt_succ_self d) (Wc J)).trans B8192) J J J (m_ (e_ (Yoz (m8192:=(Zg.mk k m8192.pos m8192.mode m8192.locals)) hQ H2 H5 H7 H8 H9 J (Zt J ((c.1 (d,0) (Nat.lt_succ_self d) (Wc J)).trans B0)) (Zt J ((c.1 (d,2) (Nat.lt_succ_self d) (Wc J)).trans B2)) (Zt J j) Zi (Fr.box (Fr.call FR c)) e.2)))))))))))))
include H2 H5 H7 H8 H9 H31 B0 B2 B4098 B8192 FR in
theorem Yc3 (h:Zd8 PG K k9 t31 m0 m2 m4098 m8192):W PG d Yaq σ st (Zs PG d Zpo Q):=
 Xl H31 (fun c=>q_ J (l_ H8 B8192 J J (m_ (Ye H5 B2 J J J (m_ (Zp (hQ _ _ _ _ _ _ _ J H5 Zi J (Fr.box FR) (h.1 c)))))))) (fun c=>Yd (Wg5 hQ H2 H5 H7 H8 H9 B0 B2 B4098 B8192 FR (h.2 c)))
include H2 H5 H7 H8 H9 H10 B0 B2 B4098 B8192 FR in
theorem Wd5 (h:Zs2 PG K k9 ok10 m0 m2 m4098 m8192):W PG d Ye3 σ st Q:=
 Zm (q_ J (Yt H10 (Xx J (Yt J (Qf (g:=27) J (fun e=>z_ 4 J (e_ (Yc3 hQ H2 H5 H7 H8 H9 J B0 B2 B4098 B8192 FR (h.1 e)))) (fun e=>Zd J (Ve H7 (Zd J ((h.2 e).elim fun _ j=>j.elim fun _ i=>Wa (Zy J (Zy J Yn)) i.1 (Nat.lt_succ_self d) B4098 (fun _ k c=>Zd J (Xx J (Vp J J (e_ (Yc3 hQ H2 H5 H7 H8 H9 J ((c.1 (d,0) (Nat.lt_succ_self d) (Wc J)).trans B0) ((c.1 (d,2) (Nat.lt_succ_self d) (Wc J)).trans B2) k ((c.1 (d,8192) (Nat.lt_succ_self d) (Wc J)).trans B8192) (Fr.call FR c) i.2))))))))))))))
include H2 H5 H7 H8 B0 B2 B4098 B8192 FR in
theorem Xsp (h:Zrc PG K m0 m2 m4098 m8192):W PG d Yg5 σ st Q:=
 q_ J (m_ (x2 h fun _ _ i=>i.elim fun _ e=>Wa (Zy H7 (Zy J Yn)) e.1 (Nat.lt_succ_self d) B4098 (fun _ j c=>m_ (x_ J J (x_ J J (m_ (m_ (e_ (Wd5 hQ H2 H5 H7 H8 J J ((c.1 (d,0) (Nat.lt_succ_self d) (Wc J)).trans B0) ((c.1 (d,2) (Nat.lt_succ_self d) (Wc J)).trans B2) j ((c.1 (d,8192) (Nat.lt_succ_self d) (Wc J)).trans B8192) (Fr.call FR c) e.2)))))))))
include H2 H5 H7 H8 B0 B2 B4098 B8192 FR in
theorem Xkh (h:Zn7 PG K m0 m2 m4098 m8192):W PG d Ydx σ st Q:=
 Zm (q_ J (m_ (h.elim fun _ j=>j.elim fun _ e=>Wa (Zy H7 (Zy J Yn)) e.1 (Nat.lt_succ_self d) B4098 (fun _ k c=>Xx J (e_ (Xl J (fun i=>q_ J (l_ H8 ((c.1 (d,8192) (Nat.lt_succ_self d) (Wc J)).trans B8192) J J (m_ (Ye H5 ((c.1 (d,2) (Nat.lt_succ_self d) (Wc J)).trans B2) J J J (m_ (Zp (hQ _ _ _ _ _ _ _ J H5 Zi J (Fr.box (Fr.call FR c)) (e.2.1 i)))))))) (fun i=>Yd (Xsp hQ H2 H5 H7 H8 ((c.1 (d,0) (Nat.lt_succ_self d) (Wc J)).trans B0) ((c.1 (d,2) (Nat.lt_succ_self d) (Wc J)).trans B2) k ((c.1 (d,8192) (Nat.lt_succ_self d) (Wc J)).trans B8192) (Fr.call FR c) (e.2.2 i)))))))))
include H2 H5 H7 B0 B2 B4098 FR in
theorem Xgu (h:Zpb PG K m0 m2 m4098):W PG d Ym1 σ st Q:=
 Zm (W.reg (Xs (e_ (Xkh (m8192:=(Zg.mk 0 0 0 ([]:List Zz))) hQ H2 H5 H7 J (Zt J B0) (Zt J B2) (Zt J B4098) (show lk _ (d,8192)=some (_,([.i .i64 0,.i .i64 0,.i .u64 0,.sl .full (List.map Zz.row ([]:List Zz))]:List AV)) from Zi) (Fr.box FR) h))))
include H1 H2 H5 B0 B2 FR in
theorem Xkr (h:Zh7 PG K line1 m0 m2):W PG d Zpt σ st Q:=
 q_ J (m_ (Xv (Yl H1 J Xn) (Vs J J (m_ (e_ (Xgu (m4098:=(Sc.mk line1)) hQ H2 H5 J (Zt J B0) (Zt J B2) Zi (Fr.box FR) h))))))
include H0 H1 FR in
theorem Wa3 (h:Zin PG K m0 line1):W PG d (sR 0 Zsa Zpt) σ st Q:=
 Zm (W.reg (Vs H0 J (m_ (Xs (m_ (e_ (Xkr (m2:=(Zg.mk 0 0 0 ([]:List Zz))) hQ H1 J J Zi (Zt J (show lk _ (d,2)=some (_,([.i .i64 0,.i .i64 0,.i .u64 0,.sl .full (List.map Zz.row ([]:List Zz))]:List AV)) from Zi)) (Fr.box (Fr.box FR)) h)))))))
end
theorem Xw0 {PG:Za}(hf:PG.fn 117=some Ph){m0:Zf}{line1:BS}{K:Int->Zg->Bool->Prop}(h:Zin PG K m0 line1):Ym PG 117 [m0.av,.s line1] (fun r=>∃res0:Int,∃res1:Zg,∃res2:Bool,(r=.tup [.i .i64 res0,res1.avo .full,.b res2])/\K res0 res1 res2):=
  Ym.of hf rfl fun d st=>Wa3 (Zj:=st) (Q:=fun e σ st'=>(e=.normal\/e=.ret)/\∃r,Xg σ st' Ph.res=some r/\_/\Fr d (d,0) st.bx st.ow st'.bx st'.ow) (fun σ st' k1 v1  res0 res1 res2 H4 H5 HB5 H6 hf hk=>⟨.inr rfl,.tup [.i .i64 res0,res1.avo .full,.b res2],by simp only [Ph,Xg,Vc,H4,Jq (n:=4) H5 HB5 rfl,H6,Ks,Option.map_some,H4,Jq (n:=4) H5 HB5 rfl,H6],⟨res0,res1,res2,rfl,hk⟩,hf⟩) (σ:=Xz [m0.av,.s line1]) rfl rfl Fr.refl h
def Yja:List AI:=[oY 2 7 0,oO 4 (.alloc [z6,z8,z6,zs,zl,zb]),oC 5 (.b false)]
def Zts:List AI:=[oM 11 1,oO 12 (.build [zs] [(0,1,(.t 11))]),oY 13 1 12,oM 6 13]
def Yf9:List AI:=[oM 14 6,oO 15 (.call true 128 [(.t 14),(.c (.s [32,32]))]),oZ 16 15]
def Zz5:List AI:=[oO 17 (.build [z6,z8,z6,zs,zl,zb] []),oS 6 4 17,oC 5 (.b false)]
def Ycf:List AI:=[oM 19 6,oF 20 3 2,oL 21 20,oJ 22 21,oO 23 (.call true 140 [(.t 19),(.t 22)]),oM 18 23,oE 24 0 18,oE 25 1 18,oM 7 24,oM 8 25]
def Ya2:List AI:=[oM 26 8,oZ 27 26,oM 28 27,gF 28 (oM 29 6),gF 28 (oF 30 3 2),gF 28 (oL 31 30),gF 28 (oM 32 7),gF 28 (oX 33 2 31 32),gF 28 (oF 34 0 33),gF 28 (oL 35 34),gF 28 (oQ 36 112 [35]),gF 28 (oB 37 .add (.c (.s [32])) (.t 36)),gF 28 (oB 38 .add (.t 37) (.c (.s [32,61,32]))),gF 28 (oO 39 (.call true 128 [(.t 29),(.t 38)])),gF 28 (oZ 40 39),oR 41 28 40]
def Yji:List AI:=[oO 42 (.build [z6,z8,z6,zs,zl,zb] []),oS 6 4 42,oC 5 (.b false)]
def Yoj:List AI:=[oM 44 6,oN 45 44,oF 46 0 45,oL 47 46,oQ 48 74 [47],oM 43 48,oE 49 0 43,oE 50 1 43,oO 9 (.alloc [z8,z6,zs,zl,zb]),oS 5 9 49,oM 10 50]
def Yxa:List AI:=[oM 51 7,oK 52 5 9,oO 53 (.build [z6,z8,z6,zs,zl,zb] [(0,1,(.t 51)),(1,5,(.t 52))]),oM 54 10,oV 55 .eql 54 0,oS 6 4 53,oM 5 55]
abbrev Zkk:AC:=(sR 7 Yoj (sR 8 Yxa .ret))
abbrev Was:AC:=(sR 0 Yja (sR 1 Zts (.seq (sR 2 Yf9 (.cond (.t 16) (sR 3 Zz5 .ret) .skip)) (sR 4 Ycf (.seq (sR 5 Ya2 (.cond (.t 41) (sR 6 Yji .ret) .skip)) Zkk)))))
def Af:AF:={ nt:=56,res:=[.cell 4 6 true,.tmp 5],body:=Was }
abbrev Xnv (Q:AE->Sl->St->Prop)(K:Zz->Bool->Prop):Prop:=∀(σ:Sl)(st:St)(k0:Zo)(v0:Nat)(o0_0:Zl)(res0:Zz)(res1:Bool),σ 4=.p k0 v0 0->lk st.bx k0=some (v0,[.i .i64 res0.slot,.i .u8 res0.value.kind,.i .i64 res0.value.int,.s res0.value.text,.sl o0_0 (List.map Zb.row res0.value.list),.b res0.value.cut])->σ 5=.b res1->K res0 res1->Q .ret σ st
def Zpd (PG:Za)(K:Zz->Bool->Prop)(i7:Int)(m1:Zz)(m4098:Sc):Prop:=
  ∃c:Zb,∃e,Ze PG 74 [.s m4098.left] (.tup [c.av,.i .i64 e])/\K (Zz.mk i7 c) (decide (e=0))
def Zki (PG:Za)(K:Zz->Bool->Prop)(f0:Yb)(line1:BS):Prop:=
  ∃c,∃v:Sc,Yp PG 128 (Bx [.s line1]) [.s ([32,32]:BS)] (fun r=>r=.b c) ((Bx [.s v.left]))/\((!c)=true->K (Zz.mk 0 (Zb.mk 0 0 [] ([]:List Zb) false)) false)/\((!c)=false->∃j k,∃q:Sc,Yp PG 140 (Bx [.s v.left]) [.i .i64 (f0.slots.length:Int)] (fun r=>r=.tup [.i .i64 j,.b k]) ((Bx [.s q.left]))/\((!k)=true->K (Zz.mk 0 (Zb.mk 0 0 [] ([]:List Zb) false)) false)/\((!k)=false->0<=j/\∃u:Yz,f0.slots[(j).toNat]?=some u/\∃e:BS,Ze PG 112 [.s u.name] (.s e)/\([32]:BS).length+e.length<=We/\(([32]:BS)++e).length+([32,61,32]:BS).length<=We/\∃o,∃p:Sc,Yp PG 128 (Bx [.s q.left]) [.s ((([32]:BS)++e)++([32,61,32]:BS))] (fun r=>r=.b o) ((Bx [.s p.left]))/\((!o)=true->K (Zz.mk 0 (Zb.mk 0 0 [] ([]:List Zb) false)) false)/\((!o)=false->Zpd PG K j (Zz.mk 0 (Zb.mk 0 0 [] ([]:List Zb) false)) p)))
section
variable {PG:Za}{d:Nat}{Q:AE->Sl->St->Prop}{K:Zz->Bool->Prop}(hQ:Xnv Q K){σ:Sl}{st:St}
include hQ
variable {i7:Int}{m1:Zz}{m4098:Sc}{o_m1_4:Zl}{v1 v4098:Nat}{f0:Yb}{line1:BS}
variable (H4:σ 4=.p (d,1) v1 0)(H0:σ 0=f0.av)(H6:σ 6=.p (d,4098) v4098 0)(H1:σ 1=.s line1)(H7:σ 7=.i .i64 i7)(B1:lk st.bx (d,1)=some (v1,[.i .i64 m1.slot,.i .u8 m1.value.kind,.i .i64 m1.value.int,.s m1.value.text,.sl o_m1_4 (List.map Zb.row m1.value.list),.b m1.value.cut]))(B4098:lk st.bx (d,4098)=some (v4098,[.s m4098.left]))
include H4 H6 H7 B1 B4098 in
theorem Xfk (h:Zpd PG K i7 m1 m4098):W PG d Zkk σ st Q:=
 Zm (W.reg (m_ (Wh H6 (f_ J (l_ J (Zt J B4098) J J (x2 h fun _ _ c=>Yg (Wm J J) c.1 (m_ (x_ J J (x_ J J (Xs (Ye J (show lk _ (d,28680)=some (_,([.i .u8 0,.i .i64 0,.s [],.sl .full (List.map Zb.row ([]:List Zb)),.b false]:List AV)) from Zi) J J J (m_ (e_ (q_ J (m_ (l_ J Zi J J (Xv (Yl H7 J (Yl J J Xn)) (m_ (b_ J J Xk (Ye H4 (Zt J (Zt J B1)) J J J (m_ (Zp (hQ _ _ _ _ _ _ _ H4 Zi J c.2)))))))))))))))))))))))
include H0 H1 in
theorem Xj2 (h:Zki PG K f0 line1):W PG d (sR 0 Yja (sR 1 Zts (.seq (sR 2 Yf9 (.cond (.t 16) (sR 3 Zz5 .ret) .skip)) (sR 4 Ycf (.seq (sR 5 Ya2 (.cond (.t 41) (sR 6 Yji .ret) .skip)) Zkk))))) σ st Q:=
 Zm (W.reg (Vs H0 J (Xs (m_ (e_ (q_ J (m_ (Xv (Yl H1 J Xn) (Vs J J (m_ (e_ (Zm (q_ J (m_ (h.elim fun _ a0=>a0.elim fun _ q=>Wa (Zy J (Zy J Yn)) q.1 (Nat.lt_succ_self d) Zi (fun _ a3 c=>Xx J (e_ (Xl J (fun u=>q_ J (Xv Xn (Ye J ((c.1 (d,1) (Nat.lt_succ_self d) (Wc J)).trans (Zt J (Zt J (show lk _ (d,1)=some (_,([.i .i64 0,.i .u8 0,.i .i64 0,.s [],.sl .full (List.map Zb.row ([]:List Zb)),.b false]:List AV)) from Zi)))) J J J (m_ (Zp (hQ _ _ _ _ _ _ _ J Zi J (q.2.1 u))))))) (fun u=>Yd (q_ J (m_ (f_ J (l_ J ((c.1 (d,0) (Nat.lt_succ_self d) (Wc J)).trans (Zt J Zi)) J J (Xc J (x2 (q.2.2 u) fun _ _ z=>z.elim fun _ e=>Wa (Zy J (Zy J Yn)) e.1 (Nat.lt_succ_self d) a3 (fun _ a1 o=>m_ (x_ J J (x_ J J (m_ (m_ (e_ (Zm (q_ J (Yt J (Xx J (Yt J (Qf (g:=28) J (fun k=>z_ 13 J (e_ (Yr J (q_ J (Xv Xn (Ye J ((o.1 (d,1) (Nat.lt_succ_self d) (Wc J)).trans ((c.1 (d,1) (Nat.lt_succ_self d) (Wc J)).trans (Zt J (Zt J (show lk _ (d,1)=some (_,([.i .i64 0,.i .u8 0,.i .i64 0,.s [],.sl .full (List.map Zb.row ([]:List Zb)),.b false]:List AV)) from Zi))))) J J J (m_ (Zp (hQ _ _ _ _ _ _ _ J Zi J (e.2.1 k)))))))))) (fun k=>Zd J (Ve J (Zd J (f_ J (Zd J (l_ J ((o.1 (d,0) (Nat.lt_succ_self d) (Wc J)).trans ((c.1 (d,0) (Nat.lt_succ_self d) (Wc J)).trans (Zt J Zi))) J J (Zd J (Xh J (Zd J ((e.2.2 k).2.elim fun x v=>Wz J J (e.2.2 k).1 v.1 (Yz.row_eq x) J (Zd J (Kb J (Zd J (Xp J J J (Zd J (v.2.elim fun _ j=>Yg (Wm J J) j.1 (Zd J (b_ J J (Vy j.2.1) (Zd J (b_ J J (Vy j.2.2.1) (Zd J (j.2.2.2.elim fun _ y=>y.elim fun _ p=>Wa (Zy J (Zy J Yn)) p.1 (Nat.lt_succ_self d) a1 (fun _ a2 w=>Zd J (Xx J (Vp J J (e_ (Xl J (fun r=>q_ J (Xv Xn (Ye J ((w.1 (d,1) (Nat.lt_succ_self d) (Wc J)).trans ((o.1 (d,1) (Nat.lt_succ_self d) (Wc J)).trans ((c.1 (d,1) (Nat.lt_succ_self d) (Wc J)).trans (Zt J (Zt J (show lk _ (d,1)=some (_,([.i .i64 0,.i .u8 0,.i .i64 0,.s [],.sl .full (List.map Zb.row ([]:List Zb)),.b false]:List AV)) from Zi)))))) J J J (m_ (Zp (hQ _ _ _ _ _ _ _ J Zi J (p.2.1 r))))))) (fun r=>Yd (Xfk (m1:=(Zz.mk 0 (Zb.mk 0 0 [] ([]:List Zb) false))) hQ J J J ((w.1 (d,1) (Nat.lt_succ_self d) (Wc J)).trans ((o.1 (d,1) (Nat.lt_succ_self d) (Wc J)).trans ((c.1 (d,1) (Nat.lt_succ_self d) (Wc J)).trans (Zt J (Zt J (show lk _ (d,1)=some (_,([.i .i64 0,.i .u8 0,.i .i64 0,.s [],.sl .full (List.map Zb.row ([]:List Zb)),.b false]:List AV)) from Zi)))))) a2 (p.2.2 r)))))))))))))))))))))))))))))))))))))))))))))))))))))))))))))))))))
end
theorem Ywh {PG:Za}(hf:PG.fn 118=some Af){f0:Yb}{line1:BS}{K:Zz->Bool->Prop}(h:Zki PG K f0 line1) :∃res0:Zz,∃res1:Bool,K res0 res1/\Ze PG 118 [f0.av,.s line1] (.tup [res0.av,.b res1]):=by
  obtain ⟨v,hv,res0,res1,hk,rfl⟩:=Ze.of (K:=fun v=>∃res0:Zz,∃res1:Bool,K res0 res1/\v=.tup [res0.av,.b res1]) hf rfl (Xj2 (σ:=Xz [f0.av,.s line1]) (fun σ st k0 v0 o0_0 res0 res1 H4 HB4 H5 hk=>⟨.tup [res0.avo o0_0,.b res1],by simp only [Af,Xg,Vc,Jq (n:=6) H4 HB4 rfl,H5,Ks,Option.map_some],_,rfl,res0,res1,hk,rfl⟩) rfl rfl h)
  exact ⟨res0,res1,hk,hv⟩
def Ybz:List AI:=[oY 2 3 0,oI 4 0,oO 5 (.alloc [z6,z6,z7,zl]),oI 6 0]
def Xad:List AI:=[oM 16 1,oJ 17 16,oV 18 .gtr 17 17,oM 19 18,gF 19 (oM 20 1),gF 19 (oO 21 (.call true 115 [(.t 20),(.c (.fn 116 []))])),oR 22 19 21]
def Xmd:List AI:=[oO 23 (.build [z6,z6,z7,zl] []),oI 4 0,oS 4 5 23,oI 6 4]
def Xd4:List AI:=[oM 24 1,oJ 25 24,oV 26 .eql 25 0]
def Wa7:List AI:=[oO 27 (.build [z6,z6,z7,zl] []),oI 4 0,oS 4 5 27,oI 6 12]
def Xjy:List AI:=[oK 29 3 2,oM 30 1,oO 31 (.iaL 1 (.t 30) (.c (.i .i64 0))),oL 32 31,oO 33 (.call true 117 [(.t 29),(.t 32)]),oM 28 33,oE 34 0 28,oE 35 1 28,oE 36 2 28,oO 8 (.alloc [z6,z6,z7,zl]),oM 7 34,oS 4 8 35,oM 9 36]
def Xcp:List AI:=[oM 37 9,oZ 38 37]
def Xqf:List AI:=[oO 39 (.build [z6,z6,z7,zl] []),oI 4 0,oS 4 5 39,oI 6 12]
def Xq7:List AI:=[oM 40 1,oO 41 (.slL 1 (.t 40) (some (.c (.i .i64 1))) none),oJ 42 41,oI 43 0]
def Xpo:List AI:=[oT 44 .lss 43 42]
def Xct:List AI:=[oX 45 1 41 43,oL 46 45,oM 11 46]
def Yty:List AI:=[oF 48 2 2,oL 49 48,oF 50 0 8,oL 51 50,oX 52 7 49 51,oK 53 7 52,oM 54 11,oQ 55 118 [53,54],oM 47 55,oE 56 0 47,oE 57 1 47,oO 12 (.alloc [z6,z8,z6,zs,zl,zb]),oS 6 12 56,oM 13 57]
def Wag:List AI:=[oM 58 13,oZ 59 58]
def Yxy:List AI:=[oO 60 (.build [z6,z6,z7,zl] []),oI 4 0,oS 4 5 60,oI 6 12]
def Wgk:List AI:=[oF 61 3 8,oL 62 61,oK 63 6 12,oO 64 (.bslice [z6,z8,z6,zs,zl,zb] 1 [(0,(.t 63))]),oO 65 (.app 6 72 (.t 62) (.t 64)),oF 66 3 8,oS 1 66 65]
def Yqg:List AI:=[oV 67 .add 43 1,oM 43 67]
def Yyh:List AI:=[oK 69 3 2,oM 70 7,oK 71 4 8,oQ 72 82 [69,70,71],oM 68 72,oE 73 0 68,oE 74 1 68,oM 14 73,oM 15 74]
def Yzb:List AI:=[oM 75 15,oV 76 .neq 75 0,oM 77 76,gF 77 (oM 78 14),gF 77 (oM 79 1),gF 77 (oQ 80 119 [78,79]),gF 77 (oZ 81 80),oR 82 77 81]
def Wj9:List AI:=[oO 83 (.build [z6,z6,z7,zl] []),oI 4 0,oS 4 5 83,oI 6 12]
def Xhy:List AI:=[oM 84 7,oK 85 4 8,oM 4 84,oS 4 5 85,oI 6 0]
abbrev Zu5:AC:=(.cond (.t 22) (sR 2 Xmd .ret) .skip)
abbrev Zgp:AC:=(sR 9 Xpo (.seq (.cond (.t 44) .skip (.exit 0)) (.seq (.block 1 (sR 10 Xct (sR 11 Yty (.seq (sR 12 Wag (.cond (.t 59) (sR 13 Yxy .ret) .skip)) (.reg 14 Wgk))))) (.reg 15 Yqg))))
abbrev Zx4:AC:=(.cond (.t 82) (sR 18 Wj9 .ret) .skip)
abbrev Zks:AC:=(sR 19 Xhy .ret)
abbrev Zeo:AC:=(.seq (sR 16 Yyh (sR 17 Yzb Zx4)) Zks)
abbrev Zz0:AC:=(.seq (sR 8 Xq7 (.block 0 (.loop Zgp))) Zeo)
abbrev Yc0:AC:=(.seq (sR 6 Xcp (.cond (.t 38) (sR 7 Xqf .ret) .skip)) Zz0)
abbrev Yaf:AC:=(sR 5 Xjy Yc0)
abbrev Znr:AC:=(.seq (sR 3 Xd4 (.cond (.t 26) (sR 4 Wa7 .ret) .skip)) Yaf)
abbrev Zk8:AC:=(.seq (sR 1 Xad Zu5) Znr)
abbrev b84:AC:=(sR 0 Ybz Zk8)
def Zap:AF:={ nt:=86,res:=[.tmp 4,.cell 5 4 true,.tmp 6],body:=b84 }
abbrev H84 (Q:AE->Sl->St->Prop)(K:Int->Zg->Int->Prop):Prop:=∀(σ:Sl)(st:St)(k1:Zo)(v1:Nat)(o1_0:Zl)(res0:Int)(res1:Zg)(res2:Int),σ 4=.i .i64 res0->σ 5=.p k1 v1 0->lk st.bx k1=some (v1,[.i .i64 res1.func,.i .i64 res1.pos,.i .u64 res1.mode,.sl o1_0 (List.map Zz.row res1.locals)])->σ 6=.i .i64 res2->K res0 res1 res2->Q .ret σ st
abbrev Yjv (PG:Za)(d:Nat)(Q:AE->Sl->St->Prop)(l1:LB)(k7:Int)(t41:LB)(t42:Int)(t43:Int)(m0:Zf)(m2:Zg)(m20489:Zg):Prop:=
  ∀(σ:Sl)(st:St) (o_l1 o_t41 o_m2_3 o_m20489_3:Zl) (v0 v2 v20489:Nat),σ 1=.sl o_l1 (List.map Zv l1)->σ 2=.p (d,0) v0 0->σ 5=.p (d,2) v2 0->σ 7=.i .i64 k7->σ 8=.p (d,20489) v20489 0->σ 41=.sl o_t41 (List.map Zv t41)->σ 42=.i .i64 t42->σ 43=.i .i64 t43->Xe d st.ow o_m20489_3 m20489.locals.length->lk st.bx (d,0)=some (v0,Zf.cs m0)->lk st.bx (d,2)=some (v2,[.i .i64 m2.func,.i .i64 m2.pos,.i .u64 m2.mode,.sl o_m2_3 (List.map Zz.row m2.locals)])->lk st.bx (d,20489)=some (v20489,[.i .i64 m20489.func,.i .i64 m20489.pos,.i .u64 m20489.mode,.sl o_m20489_3 (List.map Zz.row m20489.locals)])->W PG d (.loop Zgp) σ st (Ya 0 (Zs PG d Zeo Q))
def Znc (PG:Za)(K:Int->Zg->Int->Prop)(k7:Int)(m2:Zg)(m20489:Zg):Prop:=
  K k7 m20489 0
def Ey (PG:Za)(K:Int->Zg->Int->Prop)(k7:Int)(t82:Bool)(m2:Zg)(m20489:Zg):Prop:=
  (t82=true->K 0 (Zg.mk 0 0 0 ([]:List Zz)) 12)/\(t82=false->Znc PG K k7 m2 m20489)
def Zib (PG:Za)(K:Int->Zg->Int->Prop)(l1:LB)(k7:Int)(m0:Zf)(m2:Zg)(m20489:Zg):Prop:=
  ∃e c,Ze PG 82 [m0.av,.i .i64 k7,m20489.av] (.tup [.sl .ext (List.map Zv e),.i .i64 c])/\(c≠0->Ey PG K k7 true m2 m20489)/\(¬(c≠0)->∃j,Ze PG 119 [.sl .ext (List.map Zv e),.sl .ext (List.map Zv l1)] (.b j)/\Ey PG K k7 (!j) m2 m20489)
def Zbw (PG:Za)(K:Int->Zg->Int->Prop)(P0:Int->Zf->Zg->Zg->Prop)(l1:LB)(k7:Int)(t41:LB)(t42:Int)(t43:Int)(m0:Zf)(m2:Zg)(m20489:Zg):Prop:=
  (t43<t42->0<=t43/\∃i,t41[(t43).toNat]?=some i/\0<=m20489.func/\∃j:Yb,m0.funcs[(m20489.func).toNat]?=some j/\∃e:Zz,∃c,Ze PG 118 [j.av,.s i] (.tup [e.av,.b c])/\((!c)=true->K 0 (Zg.mk 0 0 0 ([]:List Zz)) 12)/\((!c)=false->Qn (m20489.locals.length+[e].length) 72/\P0 (IntKind.i64.wrap (t43+1)) m0 m2 (Zg.mk m20489.func m20489.pos m20489.mode (m20489.locals++[e]))))/\(¬(t43<t42)->Zib PG K l1 k7 m0 m2 m20489)
def Zqp (PG:Za)(K:Int->Zg->Int->Prop)(l1:LB)(k7:Int)(m0:Zf)(m2:Zg)(m20489:Zg):Prop:=
  1<=l1.length/\∀P0:Int->Zf->Zg->Zg->Prop,(∀(t43:Int)(m0:Zf)(m2:Zg)(m20489:Zg),Zbw PG K P0 l1 k7 (l1.drop 1) ((l1.drop 1).length:Int) t43 m0 m2 m20489->P0 t43 m0 m2 m20489)->P0 0 m0 m2 m20489
def Zhp (PG:Za)(K:Int->Zg->Int->Prop)(l1:LB)(k7:Int)(ok9:Bool)(m0:Zf)(m2:Zg)(m20489:Zg):Prop:=
  ((!ok9)=true->K 0 (Zg.mk 0 0 0 ([]:List Zz)) 12)/\((!ok9)=false->Zqp PG K l1 k7 m0 m2 m20489)
def Zp9 (PG:Za)(K:Int->Zg->Int->Prop)(l1:LB)(m0:Zf)(m2:Zg):Prop:=
  ∃e,l1[0]?=some e/\∃c,∃j:Zg,∃k,(Ym PG 117 [m0.av,.s e] (fun r=>r=.tup [.i .i64 c,j.avo .full,.b k]))/\Zhp PG K l1 c k m0 m2 j
def Zhl (PG:Za)(K:Int->Zg->Int->Prop)(l1:LB)(m0:Zf)(m2:Zg):Prop:=
  ((l1.length:Int)=0->K 0 (Zg.mk 0 0 0 ([]:List Zz)) 12)/\(¬((l1.length:Int)=0)->Zp9 PG K l1 m0 m2)
def Zdz (PG:Za)(K:Int->Zg->Int->Prop)(l1:LB)(t22:Bool)(m0:Zf)(m2:Zg):Prop:=
  (t22=true->K 0 (Zg.mk 0 0 0 ([]:List Zz)) 4)/\(t22=false->Zhl PG K l1 m0 m2)
def Zqa (PG:Za)(K:Int->Zg->Int->Prop)(l1:LB)(m0:Zf)(m2:Zg):Prop:=
  ((l1.length:Int)>17->Zdz PG K l1 true m0 m2)/\(¬((l1.length:Int)>17)->∃c,(∀e:Zl,Ym PG 115 [.sl e (List.map Zv l1),.fn 116 []] (fun r=>r=.b c))/\Zdz PG K l1 c m0 m2)
def Zoz (PG:Za)(K:Int->Zg->Int->Prop)(m0:Zf)(l1:LB):Prop:=
  Zqa PG K l1 m0 (Zg.mk 0 0 0 ([]:List Zz))
section
variable {PG:Za}{d:Nat}{Q:AE->Sl->St->Prop}{K:Int->Zg->Int->Prop}(hQ:H84 Q K){σ:Sl}{st:St}
include hQ
variable {k7:Int}{m2 m20489:Zg}{o_m2_3 o_m20489_3:Zl}{v2 v20489:Nat}{t82:Bool}{l1:LB}{m0:Zf}{o_l1:Zl}{v0:Nat}{t41:LB}{t42 t43:Int}{P0:Int->Zf->Zg->Zg->Prop}{o_t41:Zl}{ok9 t22:Bool}
variable (kP0 :∀(t43:Int)(m0:Zf)(m2:Zg)(m20489:Zg),P0 t43 m0 m2 m20489->Yjv PG d Q l1 k7 t41 t42 t43 m0 m2 m20489)(H0:σ 0=m0.av)(H1:σ 1=.sl o_l1 (List.map Zv l1))(H2:σ 2=.p (d,0) v0 0)(H5:σ 5=.p (d,2) v2 0)(H7:σ 7=.i .i64 k7)(Kl:σ 22=.b t22)(H8:σ 8=.p (d,20489) v20489 0)(H82:σ 82=.b t82)(Ta:σ 41=.sl o_t41 (List.map Zv t41))(H9:σ 9=.b ok9)(H42:σ 42=.i .i64 t42)(H43:σ 43=.i .i64 t43)(Ab20489:Xe d st.ow o_m20489_3 m20489.locals.length)(B0:lk st.bx (d,0)=some (v0,Zf.cs m0))(B2:lk st.bx (d,2)=some (v2,[.i .i64 m2.func,.i .i64 m2.pos,.i .u64 m2.mode,.sl o_m2_3 (List.map Zz.row m2.locals)]))(B20489:lk st.bx (d,20489)=some (v20489,[.i .i64 m20489.func,.i .i64 m20489.pos,.i .u64 m20489.mode,.sl o_m20489_3 (List.map Zz.row m20489.locals)]))
include H5 H7 H8 Ab20489 B2 B20489 in
theorem Yov (h:Znc PG K k7 m2 m20489):W PG d Zks σ st Q:=
 au trivial
include H5 H7 H8 H82 Ab20489 B2 B20489 in
theorem Ybp (h:Ey PG K k7 t82 m2 m20489):W PG d Zx4 σ st (Zs PG d Zks Q):=
 au @Yov
include H1 H2 H5 H7 H8 Ab20489 B0 B2 B20489 in
theorem Ysf (h:Zib PG K l1 k7 m0 m2 m20489):W PG d Zeo σ st Q:=
 Zm (q_ J (l_ H2 B0 J J (m_ (l_ H8 B20489 J J (x2 h fun _ _ c=>Yg (sc3 J H7 J J) c.1 (m_ (x_ J J (x_ J J (Yi J (m_ (e_ (q_ J (Xh J (b_ J J Vd (Yt J (Yq (g:=77) J (fun e=>z_ 5 J (e_ (Ybp hQ H5 H7 H8 J Ab20489 B2 B20489 (c.2.1 e)))) (fun e=>Zd J (Yi J (Zd J (Yi H1 (Zd J ((c.2.2 e).elim fun _ i=>Yg (Vq J J J) i.1 (Zd J (Xx J (Vp J J (e_ (Ybp hQ H5 H7 H8 J Ab20489 B2 B20489 i.2)))))))))))))))))))))))))))
include kP0 H1 H2 H5 H7 H8 Ta H42 H43 Ab20489 B0 B2 B20489 in
theorem Yrk (h:Zbw PG K P0 l1 k7 t41 t42 t43 m0 m2 m20489):W PG d Zgp σ st (Zs PG d (.loop Zgp) (Ya 0 (Zs PG d Zeo Q))):=
 q_ J (b_ H43 H42 Wx (e_ (Zm (Yk J (fun e=>Yd (Zm (Yj (q_ J ((h.1 e).2.elim fun _ k=>Wz Ta H43 (h.1 e).1 k.1 J J (Xp J J J (m_ (e_ (Zm (W.reg (f_ H2 (l_ J (Zt J B0) J J (f_ H8 (l_ J (Zt J B20489) J J (k.2.2.elim fun q o=>Wz J J k.2.1 o.1 (Yb.row_eq q) J (Xp J J J (m_ (x2 o.2 fun u _ c=>Yg (Vq J J J) c.1 (m_ (x_ J J (x_ J J (Xs (Ye J (show lk _ (d,45067)=some (_,([.i .i64 0,.i .u8 0,.i .i64 0,.s [],.sl .full (List.map Zb.row ([]:List Zb)),.b false]:List AV)) from Zi) J J J (m_ (e_ (Zm (q_ J (m_ (Xx J (e_ (Xl J (fun j=>q_ J (Xv Xn (m_ (Ye H5 (Zt J (Zt J B2)) J J J (m_ (Zp (hQ _ _ _ _ _ _ _ _ J H5 Zi J (c.2.1 j)))))))) (fun j=>Yd (W.reg0 J fun _ _=>f_ H8 (l_ J (Zt J (Zt J B20489)) J J (l_ J Zi J J (Vt (f:=Zz.row) (l:=[u]) J J (Wg J J J Vl) (by simp only [List.map_cons,List.map_nil,Zz.row_eq];rfl) (Qo Zz.row_len J J J Ab20489.1 (c.2.2 j).1 J (fun _ _ p _ r=>f_ H8 (Ye J (Zt J (Zt J B20489)) J J J (e_ (W.reg0 J fun _ _=>b_ H43 J Jf (m_ (e_ (kP0 _ _ _ _ (c.2.2 j).2 _ _ _ _ _ _ _ _ _ H1 H2 H5 H7 H8 Ta H42 J (Xe.mk p (Gr.app Ab20489.2 J r)) (Zt J (Zt J (Zt J B0))) (Zt J (Zt J (Zt J B2))) Zi)))))))))))))))))))))))))))))))))))))))))))) (fun e=>Vr (Ysf hQ H1 H2 H5 H7 H8 Ab20489 B0 B2 B20489 (h.2 e)))))))
include H1 H2 H5 H7 H8 Ab20489 B0 B2 B20489 in
theorem Wdk (h:Zqp PG K l1 k7 m0 m2 m20489):W PG d Zz0 σ st Q:=
 Zm (q_ J (Yi H1 (Zv5 Cc J J (by decide) h.1 (Xc J (m_ (e_ (Yj (h.2 (Yjv PG d Q l1 k7 (l1.drop 1) ((l1.drop 1).length:Int)) (fun _ _ _ _ hb _ _ _ _ _ _ _ _ _ H1 H2 H5 H7 H8 Ta H42 H43 Ab20489 B0 B2 B20489=>W.loop (Yrk hQ (fun _ _ _ _ x=>x) H1 H2 H5 H7 H8 Ta H42 H43 Ab20489 B0 B2 B20489 hb)) _ _ _ _ _ _ _ _ _ H1 H2 H5 H7 H8 J J J Ab20489 B0 B2 B20489))))))))
include H1 H2 H5 H7 H8 H9 Ab20489 B0 B2 B20489 in
theorem Yy2 (h:Zhp PG K l1 k7 ok9 m0 m2 m20489):W PG d Yc0 σ st Q:=
 au @Wdk
include H1 H2 H5 B0 B2 in
theorem Xa9 (h:Zp9 PG K l1 m0 m2):W PG d Yaf σ st Q:=
 Zm (W.reg (l_ H2 (Zt J B0) J J (Yi H1 (h.elim fun _ e=>Wz J J (by decide) e.1 J J (Xp J J J (x2 e.2 fun _ _ k=>k.elim fun _ j=>Gx (Zy J (Zy J Yn)) (j.1) (fun _ c=>m_ (x_ J J (x_ J J (x_ J J (Xs (m_ (Ye J ((c.1 (d,20489) (Nat.lt_succ_self d) Us).trans (show lk _ (d,20489)=some (_,([.i .i64 0,.i .i64 0,.i .u64 0,.sl .full (List.map Zz.row ([]:List Zz))]:List AV)) from Zi)) J J J (m_ (e_ (Yy2 hQ H1 H2 H5 J J J Xe.full (Zt J ((c.1 (d,0) (Nat.lt_succ_self d) Us).trans (Zt J B0))) (Zt J ((c.1 (d,2) (Nat.lt_succ_self d) Us).trans (Zt J B2))) Zi j.2))))))))))))))))
include H1 H2 H5 B0 B2 in
theorem Xfu (h:Zhl PG K l1 m0 m2):W PG d Znr σ st Q:=
 Zm (q_ J (Yi H1 (Xc J (b_ J J Xk (e_ (Yk J (fun c=>q_ J (Xv Xn (m_ (Ye H5 B2 J J J (m_ (Zp (hQ _ _ _ _ _ _ _ _ J H5 Zi J (h.1 c)))))))) (fun c=>Yd (Xa9 hQ H1 H2 H5 B0 B2 (h.2 c)))))))))
include H1 H2 H5 Kl B0 B2 in
theorem Yab (h:Zdz PG K l1 t22 m0 m2):W PG d Zu5 σ st (Zs PG d Znr Q):=
 au @Xfu
include H1 H2 H5 B0 B2 in
theorem Xii (h:Zqa PG K l1 m0 m2):W PG d Zk8 σ st Q:=
 Zm (q_ J (Yi H1 (Xc J (b_ J J Vz (Yt J (Yq (g:=19) J (fun c=>z_ 3 J (e_ (Yab hQ H1 H2 H5 J B0 B2 (h.1 c)))) (fun c=>Zd J (Yi H1 (Zd J ((h.2 c).elim fun _ e=>Gx (Zy J (Zy J Yn)) (e.1 _) (fun _ i=>Vp J J (e_ (Yab hQ H1 H2 H5 J ((i.1 (d,0) (Nat.lt_succ_self d) Us).trans B0) ((i.1 (d,2) (Nat.lt_succ_self d) Us).trans B2) e.2)))))))))))))
include H0 H1 in
theorem Wg0 (h:Zoz PG K m0 l1):W PG d (sR 0 Ybz Zk8) σ st Q:=
 au @Xii
end
theorem p84 {PG:Za}(hf:PG.fn 84=some Zap){m0:Zf}{l1:LB}{K:Int->Zg->Int->Prop}(h:Zoz PG K m0 l1) :∃res0:Int,∃res1:Zg,∃res2:Int,K res0 res1 res2/\Ze PG 84 [m0.av,.sl .ext (List.map Zv l1)] (.tup [.i .i64 res0,res1.av,.i .i64 res2]):=by
  obtain ⟨v,hv,res0,res1,res2,hk,rfl⟩:=Ze.of (K:=fun v=>∃res0:Int,∃res1:Zg,∃res2:Int,K res0 res1 res2/\v=.tup [.i .i64 res0,res1.av,.i .i64 res2]) hf rfl (Wg0 (σ:=Xz [m0.av,.sl .ext (List.map Zv l1)]) (fun σ st k1 v1 o1_0 res0 res1 res2 H4 H5 HB5 H6 hk=>⟨.tup [.i .i64 res0,res1.avo o1_0,.i .i64 res2],by simp only [Zap,Xg,Vc,H4,Jq (n:=4) H5 HB5 rfl,H6,Ks,Option.map_some],_,rfl,res0,res1,res2,hk,rfl⟩) rfl rfl h)
  exact ⟨res0,res1,res2,hk,hv⟩
end Go.AM

/- Yf of the proof. -/
namespace Go.AM
open Go
set_option linter.unusedVariables false
set_option linter.unusedSimpArgs false
set_option maxRecDepth 4000
set_option maxHeartbeats 2000000
attribute [local irreducible] Decidable.decide W WO Wq Ws
abbrev H81 (Q:AE->Sl->St->Prop)(K:Bool->Prop):Prop:=∀(σ:Sl)(st:St)(res0:Bool),σ 2=.b res0->K res0->Q .ret σ st
section
variable {PG:Za}{d:Nat}{Q:AE->Sl->St->Prop}{K:Bool->Prop}(hQ:H81 Q K){σ:Sl}{st:St}
include hQ
end
def Yjx:List AI:=[oY 1 3 0,oC 2 (.b false)]
def Ylw:List AI:=[oI 3 0]
def Yub:List AI:=[oM 6 3,oF 7 2 1,oL 8 7,oJ 9 8,oT 10 .lss 6 9,oM 11 10,gT 11 (oM 12 3),gT 11 (oV 13 .leq 12 40),oA 14 11 13]
def Xve:List AI:=[oF 17 2 1,oL 18 17,oM 19 3,oX 20 7 18 19,oK 21 7 20,oO 4 (.alloc [zs,z6,z6,zl,zl,zl,zl]),oS 7 4 21]
def Xlx:List AI:=[oF 22 0 4,oL 23 22,oH 24 23,oV 25 .gtr 24 40,oM 26 25,gF 26 (oF 27 3 4),gF 26 (oL 28 27),gF 26 (oJ 29 28),gF 26 (oV 30 .gtr 29 30),oR 31 26 30,oM 32 31,gF 32 (oF 33 4 4),gF 32 (oL 34 33),gF 32 (oJ 35 34),gF 32 (oV 36 .gtr 35 300),oR 37 32 36]
def Xmf:List AI:=[oC 2 (.b true)]
def Wgl:List AI:=[oI 5 0]
def Xaj:List AI:=[oM 38 5,oF 39 3 4,oL 40 39,oJ 41 40,oT 42 .lss 38 41]
def Ysd:List AI:=[oF 45 3 4,oL 46 45,oM 47 5,oX 48 2 46 47,oF 49 0 48,oL 50 49,oH 51 50,oV 52 .gtr 51 40]
def Xmg:List AI:=[oC 2 (.b true)]
def Xqt:List AI:=[oM 43 5,oV 44 .add 43 1,oM 5 44]
def Xdk:List AI:=[oM 15 3,oV 16 .add 15 1,oM 3 16]
def Xw9:List AI:=[oF 53 2 1,oL 54 53,oJ 55 54,oV 56 .gtr 55 40,oM 2 56]
abbrev Zcz:AC:=(.seq (sR 8 Xaj (.cond (.t 42) .skip (.exit 2))) (.seq (.block 3 (sR 10 Ysd (.cond (.t 52) (sR 11 Xmg .ret) .skip))) (.reg 9 Xqt)))
abbrev Yjy:AC:=(sR 7 Wgl (.block 2 (.loop Zcz)))
abbrev Zat:AC:=(.reg 3 Xdk)
abbrev Yfv:AC:=(.seq (.block 1 (sR 4 Xve (.seq (sR 5 Xlx (.cond (.t 37) (sR 6 Xmf .ret) .skip)) Yjy))) Zat)
abbrev Mf:AC:=(.seq (sR 2 Yub (.cond (.t 14) .skip (.exit 0))) Yfv)
abbrev Bz:AC:=(sR 12 Xw9 .ret)
abbrev b79:AC:=(sR 0 Yjx (.seq (sR 1 Ylw (.block 0 (.loop Mf))) Bz))
def Zgl:AF:={ nt:=57,res:=[.tmp 2],body:=b79 }
abbrev Yfy (PG:Za)(d:Nat)(Q:AE->Sl->St->Prop)(i3:Int)(m0:Zf):Prop:=
  ∀(σ:Sl)(st:St)(v0:Nat),σ 1=.p (d,0) v0 0->σ 3=.i .i64 i3->lk st.bx (d,0)=some (v0,Zf.cs m0)->W PG d (.loop Mf) σ st (Ya 0 (Zs PG d Bz Q))
abbrev Ylx (PG:Za)(d:Nat)(Q:AE->Sl->St->Prop)(i3:Int)(k5:Int)(m0:Zf)(m16389:Yb):Prop:=
  ∀(σ:Sl)(st:St) (v0 v16389:Nat),σ 1=.p (d,0) v0 0->σ 3=.i .i64 i3->σ 4=.p (d,16389) v16389 0->σ 5=.i .i64 k5->lk st.bx (d,0)=some (v0,Zf.cs m0)->lk st.bx (d,16389)=some (v16389,Yb.cs m16389)->W PG d (.loop Zcz) σ st (Ya 2 (Ya 1 (Zs PG d Zat (Zs PG d (.loop Mf) (Ya 0 (Zs PG d Bz Q))))))
def Zit (PG:Za)(K:Bool->Prop)(P0:Int->Zf->Prop)(i3:Int)(m0:Zf):Prop:=
  P0 (IntKind.i64.wrap (i3+1)) m0
def Zcg (PG:Za)(K:Bool->Prop)(P1:Int->Zf->Yb->Prop)(P0:Int->Zf->Prop)(i3:Int)(k5:Int)(m0:Zf)(m16389:Yb):Prop:=
  (k5<(m16389.slots.length:Int)->0<=k5/\∃c:Yz,m16389.slots[(k5).toNat]?=some c/\((c.name.length:Int)>40->K true)/\(¬((c.name.length:Int)>40)->P1 (IntKind.i64.wrap (k5+1)) m0 m16389))/\(¬(k5<(m16389.slots.length:Int))->Zit PG K P0 i3 m0)
def Zr1 (PG:Za)(K:Bool->Prop)(P0:Int->Zf->Prop)(i3:Int)(m0:Zf)(m16389:Yb):Prop:=
  ∀P1:Int->Zf->Yb->Prop,(∀(k5:Int)(m0:Zf)(m16389:Yb),Zcg PG K P1 P0 i3 k5 m0 m16389->P1 k5 m0 m16389)->P1 0 m0 m16389
def Zhs (PG:Za)(K:Bool->Prop)(P0:Int->Zf->Prop)(i3:Int)(m0:Zf):Prop:=
  0<=i3/\∃c:Yb,m0.funcs[(i3).toNat]?=some c/\((c.name.length:Int)>40->K true)/\(¬((c.name.length:Int)>40)->((c.slots.length:Int)>30->K true)/\(¬((c.slots.length:Int)>30)->((c.code.length:Int)>300->K true)/\(¬((c.code.length:Int)>300)->Zr1 PG K P0 i3 m0 c)))
def Ag (PG:Za)(K:Bool->Prop)(m0:Zf):Prop:=
  K (decide ((m0.funcs.length:Int)>40))
def Zg9 (PG:Za)(K:Bool->Prop)(P0:Int->Zf->Prop)(i3:Int)(m0:Zf):Prop:=
  (i3<(m0.funcs.length:Int)->(i3<=40->Zhs PG K P0 i3 m0)/\(¬(i3<=40)->Ag PG K m0))/\(¬(i3<(m0.funcs.length:Int))->Ag PG K m0)
def Zpk (PG:Za)(K:Bool->Prop)(m0:Zf):Prop:=
  ∀P0:Int->Zf->Prop,(∀(i3:Int)(m0:Zf),Zg9 PG K P0 i3 m0->P0 i3 m0)->P0 0 m0
section
variable {PG:Za}{d:Nat}{Q:AE->Sl->St->Prop}{K:Bool->Prop}(hQ:H1 AV.b 2 Q K){σ:Sl}{st:St}
include hQ
variable {i3:Int}{m0:Zf}{P0:Int->Zf->Prop}{v0:Nat}{k5:Int}{m16389:Yb}{P1:Int->Zf->Yb->Prop}{v16389:Nat}
variable (kP1 :∀(k5:Int)(m0:Zf)(m16389:Yb),P1 k5 m0 m16389->Ylx PG d Q i3 k5 m0 m16389)(H0:σ 0=m0.av) (kP0 :∀(i3:Int)(m0:Zf),P0 i3 m0->Yfy PG d Q i3 m0)(H1:σ 1=.p (d,0) v0 0)(H3:σ 3=.i .i64 i3)(H4:σ 4=.p (d,16389) v16389 0)(H5:σ 5=.i .i64 k5)(B0:lk st.bx (d,0)=some (v0,Zf.cs m0))(B16389:lk st.bx (d,16389)=some (v16389,Yb.cs m16389))
include kP0 H1 H3 B0 in
theorem Ymj (h:Zit PG K P0 i3 m0):W PG d Zat σ st (Zs PG d (.loop Mf) (Ya 0 (Zs PG d Bz Q))):=
 au trivial
include kP1 kP0 H1 H3 H4 H5 B0 B16389 in
theorem Yxv (h:Zcg PG K P1 P0 i3 k5 m0 m16389):W PG d Zcz σ st (Zs PG d (.loop Zcz) (Ya 2 (Ya 1 (Zs PG d Zat (Zs PG d (.loop Mf) (Ya 0 (Zs PG d Bz Q))))))):=
 au @Ymj
include kP0 H1 H3 H4 B0 B16389 in
theorem Wie (h:Zr1 PG K P0 i3 m0 m16389):W PG d Yjy σ st (Ya 1 (Zs PG d Zat (Zs PG d (.loop Mf) (Ya 0 (Zs PG d Bz Q))))):=
 q_ J (m_ (e_ (Yj (h (Ylx PG d Q i3) (fun _ _ _ hb _ _ _ _ H1 H3 H4 H5 B0 B16389=>W.loop (Yxv hQ (fun _ _ _ x=>x) kP0 H1 H3 H4 H5 B0 B16389 hb)) _ _ _ _ H1 H3 H4 J B0 B16389))))
include kP0 H1 H3 B0 in
theorem Yy6 (h:Zhs PG K P0 i3 m0):W PG d Yfv σ st (Zs PG d (.loop Mf) (Ya 0 (Zs PG d Bz Q))):=
 Zm (Yj (Zm (W.reg (f_ H1 (l_ J (Zt J B0) J J (m_ (h.2.elim fun o c=>Wz J H3 h.1 c.1 (Yb.row_eq o) J (Xp J J J (Xs (Ye J (show lk _ (d,16389)=some (_,([.s [],.i .i64 0,.i .i64 0,.sl .full (List.map Yz.row ([]:List Yz)),.sl .full (List.map Jn.row ([]:List Jn)),.sl .full (List.map Vg.row ([]:List Vg)),.sl .full (List.map Vg.row ([]:List Vg))]:List AV)) from Zi) J J J (e_ (Zm (q_ J (f_ J (l_ J Zi J J (Hf J (b_ J J Vz (Yt J (Yq (g:=26) J (fun e=>z_ 11 J (e_ (Yr J (q_ J (m_ (Zp (hQ J (c.2.1 e)))))))) (fun e=>Zd J (f_ J (Zd J (l_ J Zi J J (Zd J (Xc J (Zd J (b_ J J Vz (z_ 2 J (Yq (g:=32) J (fun j=>z_ 5 J (e_ (Yr J (q_ J (m_ (Zp (hQ J ((c.2.2 e).1 j)))))))) (fun j=>Zd J (f_ J (Zd J (l_ J Zi J J (Zd J (Xc J (Zd J (b_ J J Vz (Vp J J (e_ (Yk J (fun k=>q_ J (m_ (Zp (hQ J (((c.2.2 e).2 j).1 k))))) (fun k=>Yd (Wie hQ kP0 H1 H3 J (Zt J (Zt J B0)) Zi (((c.2.2 e).2 j).2 k)))))))))))))))))))))))))))))))))))))))))))
include H1 B0 in
theorem Ywt (h:Ag PG K m0):W PG d Bz σ st Q:=
 au trivial
include kP0 H1 H3 B0 in
theorem Yto (h:Zg9 PG K P0 i3 m0):W PG d Mf σ st (Zs PG d (.loop Mf) (Ya 0 (Zs PG d Bz Q))):=
 au (And.intro @Yy6 @Ywt)
include H0 in
theorem Yvt (h:Zpk PG K m0):W PG d (sR 0 Yjx (.seq (sR 1 Ylw (.block 0 (.loop Mf))) Bz)) σ st Q:=
 q_ J (Vs H0 J (m_ (e_ (Zm (q_ J (m_ (e_ (Yj (h (Yfy PG d Q ) (fun _ _ hb _ _ _ H1 H3 B0=>W.loop (Yto hQ (fun _ _ x=>x) H1 H3 B0 hb)) _ _ _ J J Zi)))))))))
end
theorem p79 {PG:Za}(hf:PG.fn 79=some Zgl){m0:Zf}{K:Bool->Prop}(h:Zpk PG K m0) :∃res0:Bool,K res0/\Ze PG 79 [m0.av] (.b res0):=
 P1 hf J (Yvt (h1 J fun _=>J) J h)
def Zxb:List AI:=[oY 1 4 0,oC 2 (.b false)]
def Zze:List AI:=[oI 3 0]
def Yxf:List AI:=[oM 4 3,oF 5 3 1,oL 6 5,oJ 7 6,oT 8 .lss 4 7,oM 9 8,gT 9 (oM 10 3),gT 9 (oV 11 .leq 10 20),oA 12 9 11]
def Wd4:List AI:=[oF 15 3 1,oL 16 15,oM 17 3,oX 18 6 16 17,oF 19 1 18,oK 20 5 19,oQ 21 71 [20]]
def Xaf:List AI:=[oC 2 (.b true)]
def Xru:List AI:=[oM 13 3,oV 14 .add 13 1,oM 3 14]
def Wdi:List AI:=[oF 22 3 1,oL 23 22,oJ 24 23,oV 25 .gtr 24 20,oM 2 25]
abbrev Yaj:AC:=(.seq (.block 1 (sR 4 Wd4 (.cond (.t 21) (sR 5 Xaf .ret) .skip))) (.reg 3 Xru))
abbrev Fe:AC:=(.seq (sR 2 Yxf (.cond (.t 12) .skip (.exit 0))) Yaj)
abbrev Cr:AC:=(sR 6 Wdi .ret)
abbrev b80:AC:=(sR 0 Zxb (.seq (sR 1 Zze (.block 0 (.loop Fe))) Cr))
def Zdr:AF:={ nt:=26,res:=[.tmp 2],body:=b80 }
abbrev Zuz (PG:Za)(d:Nat)(Q:AE->Sl->St->Prop)(i3:Int)(m0:Zg):Prop:=
  ∀(σ:Sl)(st:St)(v0:Nat),σ 1=.p (d,0) v0 0->σ 3=.i .i64 i3->lk st.bx (d,0)=some (v0,Zg.cs m0)->W PG d (.loop Fe) σ st (Ya 0 (Zs PG d Cr Q))
def Znt (PG:Za)(K:Bool->Prop)(P0:Int->Zg->Prop)(i3:Int)(m0:Zg):Prop:=
  0<=i3/\∃e:Zz,m0.locals[(i3).toNat]?=some e/\∃c,Ze PG 71 [e.value.av] (.b c)/\(c=true->K true)/\(c=false->P0 (IntKind.i64.wrap (i3+1)) m0)
def Fl (PG:Za)(K:Bool->Prop)(m0:Zg):Prop:=
  K (decide ((m0.locals.length:Int)>20))
def Zfr (PG:Za)(K:Bool->Prop)(P0:Int->Zg->Prop)(i3:Int)(m0:Zg):Prop:=
  (i3<(m0.locals.length:Int)->(i3<=20->Znt PG K P0 i3 m0)/\(¬(i3<=20)->Fl PG K m0))/\(¬(i3<(m0.locals.length:Int))->Fl PG K m0)
def Zik (PG:Za)(K:Bool->Prop)(x0:Zg):Prop:=
  ∀P0:Int->Zg->Prop,(∀(i3:Int)(m0:Zg),Zfr PG K P0 i3 m0->P0 i3 m0)->P0 0 x0
section
variable {PG:Za}{d:Nat}{Q:AE->Sl->St->Prop}{K:Bool->Prop}(hQ:H1 AV.b 2 Q K){σ:Sl}{st:St}
include hQ
variable {i3:Int}{m0:Zg}{P0:Int->Zg->Prop}{v0:Nat}{x0:Zg}
variable (kP0 :∀(i3:Int)(m0:Zg),P0 i3 m0->Zuz PG d Q i3 m0)(H0:σ 0=x0.av)(H1:σ 1=.p (d,0) v0 0)(H3:σ 3=.i .i64 i3)(B0:lk st.bx (d,0)=some (v0,Zg.cs m0))
include kP0 H1 H3 B0 in
theorem Wfd (h:Znt PG K P0 i3 m0):W PG d Yaj σ st (Zs PG d (.loop Fe) (Ya 0 (Zs PG d Cr Q))):=
 au trivial
include H1 B0 in
theorem Wak (h:Fl PG K m0):W PG d Cr σ st Q:=
 au trivial
include kP0 H1 H3 B0 in
theorem Wef (h:Zfr PG K P0 i3 m0):W PG d Fe σ st (Zs PG d (.loop Fe) (Ya 0 (Zs PG d Cr Q))):=
 au (And.intro @Wfd @Wak)
include H0 in
theorem Xj7 (h:Zik PG K x0):W PG d (sR 0 Zxb (.seq (sR 1 Zze (.block 0 (.loop Fe))) Cr)) σ st Q:=
 q_ J (Vs H0 J (m_ (e_ (Zm (q_ J (m_ (e_ (Yj (h (Zuz PG d Q ) (fun _ _ hb _ _ _ H1 H3 B0=>W.loop (Wef hQ (fun _ _ x=>x) H1 H3 B0 hb)) _ _ _ J J Zi)))))))))
end
theorem p80 {PG:Za}(hf:PG.fn 80=some Zdr){x0:Zg}{K:Bool->Prop}(h:Zik PG K x0) :∃res0:Bool,K res0/\Ze PG 80 [x0.av] (.b res0):=
 P1 hf J (Xj7 (h1 J fun _=>J) J h)
abbrev H83 (Q:AE->Sl->St->Prop)(K:LB->Int->Prop):Prop:=∀(σ:Sl)(st:St)(o0:Zl)(res0:LB)(res1:Int),σ 6=.sl o0 (List.map Zv res0)->σ 7=.i .i64 res1->K res0 res1->Q .ret σ st
section
variable {PG:Za}{d:Nat}{Q:AE->Sl->St->Prop}{K:LB->Int->Prop}(hQ:H83 Q K){σ:Sl}{st:St}
include hQ
end
abbrev H87 (Q:AE->Sl->St->Prop)(K:Int->Prop):Prop:=∀(σ:Sl)(st:St)(res0:Int),σ 4=.i .i64 res0->K res0->Q .ret σ st
section
variable {PG:Za}{d:Nat}{Q:AE->Sl->St->Prop}{K:Int->Prop}(hQ:H87 Q K){σ:Sl}{st:St}
include hQ
end
abbrev Xaz (Q:AE->Sl->St->Prop)(K:LB->Prop):Prop:=∀(σ:Sl)(st:St)(o0:Zl)(res0:LB),σ 6=.sl o0 (List.map Zv res0)->K res0->Q .ret σ st
section
variable {PG:Za}{d:Nat}{Q:AE->Sl->St->Prop}{K:LB->Prop}(hQ:Xaz Q K){σ:Sl}{st:St}
include hQ
end
abbrev Wgh (Q:AE->Sl->St->Prop)(K:BS->Prop):Prop:=∀(σ:Sl)(st:St)(res0:BS),σ 2=.s res0->K res0->Q .ret σ st
section
variable {PG:Za}{d:Nat}{Q:AE->Sl->St->Prop}{K:BS->Prop}(hQ:Wgh Q K){σ:Sl}{st:St}
include hQ
end
def Yye:List AI:=[oC 2 (.s [])]
def Xwb:List AI:=[oO 4 (.bslice [zs] 4 [(0,(.c (.s [99,97,108,108]))),(1,(.c (.s [100,101,102,101,114]))),(2,(.c (.s [112,97,110,105,99]))),(3,(.c (.s [101,120,105,116])))]),oM 3 4]
def Xs1:List AI:=[oM 5 3,oM 6 0,oX 7 1 5 6,oL 8 7,oM 2 8]
abbrev Wel:AC:=(sR 0 Yye (sR 1 Xwb (sR 2 Xs1 .ret)))
def Zpf:AF:={ nt:=9,res:=[.tmp 2],body:=Wel }
abbrev Xa6 (Q:AE->Sl->St->Prop)(K:BS->Prop):Prop:=∀(σ:Sl)(st:St)(res0:BS),σ 2=.s res0->K res0->Q .ret σ st
section
variable {PG:Za}{d:Nat}{Q:AE->Sl->St->Prop}{K:BS->Prop}(hQ:Xa6 Q K){σ:Sl}{st:St}
include hQ
end
def Yh4:List AI:=[oY 2 4 0,oY 3 4 1,oC 4 (.b false)]
def Yf4:List AI:=[oF 5 0 2,oL 6 5,oF 7 0 3,oL 8 7,oT 9 .eql 6 8,oM 10 9,gT 10 (oF 11 1 2),gT 10 (oL 12 11),gT 10 (oF 13 1 3),gT 10 (oL 14 13),gT 10 (oT 15 .eql 12 14),oA 16 10 15,oM 17 16,gT 17 (oF 18 2 2),gT 17 (oL 19 18),gT 17 (oF 20 2 3),gT 17 (oL 21 20),gT 17 (oT 22 .eql 19 21),oA 23 17 22,oM 24 23,gT 24 (oF 25 3 2),gT 24 (oL 26 25),gT 24 (oF 27 3 3),gT 24 (oL 28 27),gT 24 (oQ 29 124 [26,28]),oA 30 24 29,oM 4 30]
abbrev b88:AC:=(sR 0 Yh4 (sR 1 Yf4 .ret))
def Zdf:AF:={ nt:=31,res:=[.tmp 4],body:=b88 }
def Zry (PG:Za)(K:Bool->Prop)(a0:Zg)(b1:Zg):Prop:=
  (a0.func=b1.func->(a0.pos=b1.pos->(a0.mode=b1.mode->∃c,Ze PG 124 [.sl .ext (List.map Zz.row a0.locals),.sl .ext (List.map Zz.row b1.locals)] (.b c)/\K c)/\(¬(a0.mode=b1.mode)->K false))/\(¬(a0.pos=b1.pos)->K false))/\(¬(a0.func=b1.func)->K false)
section
variable {PG:Za}{d:Nat}{Q:AE->Sl->St->Prop}{K:Bool->Prop}(hQ:H1 AV.b 4 Q K){σ:Sl}{st:St}
include hQ
variable {a0 b1:Zg}
variable (H0:σ 0=a0.av)(H1:σ 1=b1.av)
include H0 H1 in
theorem Xbv (h:Zry PG K a0 b1):W PG d (sR 0 Yh4 (sR 1 Yf4 .ret)) σ st Q:=
 au trivial
end
theorem p88 {PG:Za}(hf:PG.fn 88=some Zdf){a0:Zg}{b1:Zg}{K:Bool->Prop}(h:Zry PG K a0 b1) :∃res0:Bool,K res0/\Ze PG 88 [a0.av,b1.av] (.b res0):=
 P1 hf J (Xbv (h1 J fun _=>J) J J h)
def Zy7:List AI:=[oC 4 (.b false)]
def Zsv:List AI:=[oM 6 0,oJ 7 6,oM 8 1,oJ 9 8,oT 10 .neq 7 9]
def Zwb:List AI:=[oC 4 (.b false)]
def Zu3:List AI:=[oI 5 0]
def Xoh:List AI:=[oM 11 5,oM 12 0,oJ 13 12,oT 14 .lss 11 13]
def Xtu:List AI:=[oM 17 0,oM 18 5,oX 19 6 17 18,oF 20 0 19,oL 21 20,oM 22 1,oM 23 5,oX 24 6 22 23,oF 25 0 24,oL 26 25,oT 27 .neq 21 26,oM 28 27,gF 28 (oM 29 0),gF 28 (oM 30 5),gF 28 (oX 31 6 29 30),gF 28 (oF 32 1 31),gF 28 (oK 33 5 32),gF 28 (oM 34 1),gF 28 (oM 35 5),gF 28 (oX 36 6 34 35),gF 28 (oF 37 1 36),gF 28 (oK 38 5 37),gF 28 (oQ 39 78 [33,38]),gF 28 (oZ 40 39),oR 41 28 40]
def Xnf:List AI:=[oC 4 (.b false)]
def Wca:List AI:=[oM 15 5,oV 16 .add 15 1,oM 5 16]
def Xsj:List AI:=[oC 4 (.b true)]
abbrev Zal:AC:=(.seq (sR 4 Xoh (.cond (.t 14) .skip (.exit 0))) (.seq (.block 1 (sR 6 Xtu (.cond (.t 41) (sR 7 Xnf .ret) .skip))) (.reg 5 Wca)))
abbrev Zar:AC:=(sR 8 Xsj .ret)
abbrev Xnp:AC:=(sR 0 Zy7 (.seq (sR 1 Zsv (.cond (.t 10) (sR 2 Zwb .ret) .skip)) (.seq (sR 3 Zu3 (.block 0 (.loop Zal))) Zar)))
def Zfg:AF:={ nt:=42,res:=[.tmp 4],body:=Xnp }
abbrev Yln (PG:Za)(d:Nat)(Q:AE->Sl->St->Prop)(a0:List Zz)(b1:List Zz)(i5:Int):Prop:=
  ∀(σ:Sl)(st:St) (o_a0 o_b1:Zl),σ 0=.sl o_a0 (List.map Zz.row a0)->σ 1=.sl o_b1 (List.map Zz.row b1)->σ 5=.i .i64 i5->W PG d (.loop Zal) σ st (Ya 0 (Zs PG d Zar Q))
def Zni (PG:Za)(K:Bool->Prop) :Prop:=
  K true
def Zfu (PG:Za)(K:Bool->Prop)(P0:Int->Prop)(a0:List Zz)(b1:List Zz)(i5:Int):Prop:=
  (i5<(a0.length:Int)->0<=i5/\∃e:Zz,a0[(i5).toNat]?=some e/\0<=i5/\∃c:Zz,b1[(i5).toNat]?=some c/\(e.slot≠c.slot->K false)/\(¬(e.slot≠c.slot)->0<=i5/\∃k:Zz,a0[(i5).toNat]?=some k/\0<=i5/\∃j:Zz,b1[(i5).toNat]?=some j/\∃i,Ze PG 78 [k.value.av,j.value.av] (.b i)/\((!i)=true->K false)/\((!i)=false->P0 (IntKind.i64.wrap (i5+1)))))/\(¬(i5<(a0.length:Int))->Zni PG K )
def Zq3 (PG:Za)(K:Bool->Prop)(a0:List Zz)(b1:List Zz):Prop:=
  ((a0.length:Int)≠(b1.length:Int)->K false)/\(¬((a0.length:Int)≠(b1.length:Int))->∀P0:Int->Prop,(∀(i5:Int),Zfu PG K P0 a0 b1 i5->P0 i5)->P0 0)
section
variable {PG:Za}{d:Nat}{Q:AE->Sl->St->Prop}{K:Bool->Prop}(hQ:H1 AV.b 4 Q K){σ:Sl}{st:St}
include hQ
variable {a0 b1:List Zz}{i5:Int}{P0:Int->Prop}{o_a0 o_b1:Zl}
variable (kP0 :∀(i5:Int),P0 i5->Yln PG d Q a0 b1 i5)(H0:σ 0=.sl o_a0 (List.map Zz.row a0))(H1:σ 1=.sl o_b1 (List.map Zz.row b1))(H5:σ 5=.i .i64 i5)
theorem Ywj (h:Zni PG K ):W PG d Zar σ st Q:=
 au trivial
include kP0 H0 H1 H5 in
theorem Ymo (h:Zfu PG K P0 a0 b1 i5):W PG d Zal σ st (Zs PG d (.loop Zal) (Ya 0 (Zs PG d Zar Q))):=
 au @Ywj
include H0 H1 in
theorem Ymz (h:Zq3 PG K a0 b1):W PG d (sR 0 Zy7 (.seq (sR 1 Zsv (.cond (.t 10) (sR 2 Zwb .ret) .skip)) (.seq (sR 3 Zu3 (.block 0 (.loop Zal))) Zar))) σ st Q:=
 q_ J (m_ (e_ (Zm (q_ J (Yi H0 (Xc J (Yi H1 (Xc J (b_ J J Vd (e_ (Yk J (fun c=>q_ J (m_ (Zp (hQ J (h.1 c))))) (fun c=>Yd (Zm (q_ J (m_ (e_ (Yj ((h.2 c) (Yln PG d Q a0 b1) (fun _ hb _ _ _ _ H0 H1 H5=>W.loop (Ymo hQ (fun _ x=>x) H0 H1 H5 hb)) _ _ _ _ H0 H1 J))))))))))))))))))
end
theorem Yn8 {PG:Za}(hf:PG.fn 124=some Zfg){a0:List Zz}{b1:List Zz}{K:Bool->Prop}(h:Zq3 PG K a0 b1) :∃res0:Bool,K res0/\Ze PG 124 [.sl .ext (List.map Zz.row a0),.sl .ext (List.map Zz.row b1)] (.b res0):=
 P1 hf J (Ymz (h1 J fun _=>J) J J h)
end Go.AM

/- Yf of the proof. -/
namespace Go.AM
open Go
set_option linter.unusedVariables false
set_option linter.unusedSimpArgs false
set_option maxRecDepth 4000
attribute [local irreducible] WO Wq Ws
abbrev H85 (Q:AE->Sl->St->Prop)(K:Int->Zg->Int->Prop):Prop:=∀(σ:Sl)(st:St)(k1:Zo)(v1:Nat)(o1_0:Zl)(res0:Int)(res1:Zg)(res2:Int),σ 4=.i .i64 res0->σ 5=.p k1 v1 0->lk st.bx k1=some (v1,[.i .i64 res1.func,.i .i64 res1.pos,.i .u64 res1.mode,.sl o1_0 (List.map Zz.row res1.locals)])->σ 6=.i .i64 res2->K res0 res1 res2->Q .ret σ st
section
variable {PG:Za}{d:Nat}{Q:AE->Sl->St->Prop}{K:Int->Zg->Int->Prop}(hQ:H85 Q K){σ:Sl}{st:St}
include hQ
end
abbrev Xkj (d:Nat)(Zj:St)(Q:AE->Sl->St->Prop)(K:Int->Zg->Bool->Prop):Prop:=∀(σ:Sl)(st:St)(k1:Zo)(v1:Nat)(res0:Int)(res1:Zg)(res2:Bool),σ 4=.i .i64 res0->σ 5=.p k1 v1 0->lk st.bx k1=some (v1,[.i .i64 res1.func,.i .i64 res1.pos,.i .u64 res1.mode,.sl .full (List.map Zz.row res1.locals)])->σ 6=.b res2->Fr d (d,0) Zj.bx Zj.ow st.bx st.ow->K res0 res1 res2->Q .ret σ st
section
variable {PG:Za}{d:Nat}{Q:AE->Sl->St->Prop}{K:Int->Zg->Bool->Prop}{Zj:St}(hQ:Xkj d Zj Q K){σ:Sl}{st:St}
include hQ
end
abbrev Xji (Q:AE->Sl->St->Prop)(K:Zz->Bool->Prop):Prop:=∀(σ:Sl)(st:St)(k0:Zo)(v0:Nat)(o0_0:Zl)(res0:Zz)(res1:Bool),σ 4=.p k0 v0 0->lk st.bx k0=some (v0,[.i .i64 res0.slot,.i .u8 res0.value.kind,.i .i64 res0.value.int,.s res0.value.text,.sl o0_0 (List.map Zb.row res0.value.list),.b res0.value.cut])->σ 5=.b res1->K res0 res1->Q .ret σ st
section
variable {PG:Za}{d:Nat}{Q:AE->Sl->St->Prop}{K:Zz->Bool->Prop}(hQ:Xji Q K){σ:Sl}{st:St}
include hQ
end
abbrev Yox (Q:AE->Sl->St->Prop)(K:BS->Bool->Prop):Prop:=∀(σ:Sl)(st:St)(res0:BS)(res1:Bool),σ 4=.s res0->σ 5=.b res1->K res0 res1->Q .ret σ st
section
variable {PG:Za}{d:Nat}{Q:AE->Sl->St->Prop}{K:BS->Bool->Prop}(hQ:Yox Q K){σ:Sl}{st:St}
include hQ
end
def Xbq:List AI:=[oI 4 0,oC 5 (.s []),oC 6 (.b false)]
def Yn5:List AI:=[oM 10 0,oQ 11 135 [10],oM 7 11]
def Xnb:List AI:=[oM 13 0,oM 14 7,oO 15 (.slS (.t 13) none (some (.t 14))),oQ 16 22 [15],oM 12 16,oE 17 0 12,oE 18 1 12,oM 8 17,oM 9 18]
def Xsr:List AI:=[oM 19 8,oM 20 0,oM 21 7,oO 22 (.slS (.t 20) (some (.t 21)) none),oM 23 9,oV 24 .eql 23 0,oM 25 24,gT 25 (oM 26 8),gT 25 (oV 27 .geq 26 0),oA 28 25 27,oM 29 28,gT 29 (oM 30 8),gT 29 (oM 31 1),gT 29 (oT 32 .leq 30 31),oA 33 29 32,oM 4 19,oM 5 22,oM 6 33]
abbrev Xyf:AC:=(sR 0 Xbq (sR 1 Yn5 (sR 2 Xnb (sR 3 Xsr .ret))))
def Zow:AF:={ nt:=34,res:=[.tmp 4,.tmp 5,.tmp 6],body:=Xyf }
abbrev Yys (Q:AE->Sl->St->Prop)(K:Int->BS->Bool->Prop):Prop:=∀(σ:Sl)(st:St)(res0:Int)(res1:BS)(res2:Bool),σ 4=.i .i64 res0->σ 5=.s res1->σ 6=.b res2->K res0 res1 res2->Q .ret σ st
section
variable {PG:Za}{d:Nat}{Q:AE->Sl->St->Prop}{K:Int->BS->Bool->Prop}(hQ:Yys Q K){σ:Sl}{st:St}
include hQ
end
end Go.AM

/- Yf of the proof. -/
namespace Go.AM
open Go
set_option linter.unusedVariables false
set_option linter.unusedSimpArgs false
set_option maxRecDepth 4000
attribute [local irreducible] WO Wq Ws
abbrev H67 (Q:AE->Sl->St->Prop)(K:Bool->Prop):Prop:=∀(σ:Sl)(st:St)(res0:Bool),σ 8=.b res0->K res0->Q .ret σ st
section
variable {PG:Za}{d:Nat}{Q:AE->Sl->St->Prop}{K:Bool->Prop}(hQ:H67 Q K){σ:Sl}{st:St}
include hQ
end
abbrev H69 (Q:AE->Sl->St->Prop)(K:Bool->Prop):Prop:=∀(σ:Sl)(st:St)(res0:Bool),σ 4=.b res0->K res0->Q .ret σ st
section
variable {PG:Za}{d:Nat}{Q:AE->Sl->St->Prop}{K:Bool->Prop}(hQ:H69 Q K){σ:Sl}{st:St}
include hQ
end
abbrev H70 (Q:AE->Sl->St->Prop)(K:Bool->Prop):Prop:=∀(σ:Sl)(st:St)(res0:Bool),σ 4=.b res0->K res0->Q .ret σ st
section
variable {PG:Za}{d:Nat}{Q:AE->Sl->St->Prop}{K:Bool->Prop}(hQ:H70 Q K){σ:Sl}{st:St}
include hQ
end
abbrev H89 (d:Nat)(Zj:St)(Q:AE->Sl->St->Prop)(K:Zb->Prop):Prop:=∀(σ:Sl)(st:St)(k0:Zo)(v0:Nat)(res0:Zb),σ 4=.p k0 v0 0->lk st.bx k0=some (v0,[.i .u8 res0.kind,.i .i64 res0.int,.s res0.text,.sl .full (List.map Zb.row res0.list),.b res0.cut])->Fr d (d,0) Zj.bx Zj.ow st.bx st.ow->K res0->Q .ret σ st
section
variable {PG:Za}{d:Nat}{Q:AE->Sl->St->Prop}{K:Zb->Prop}{Zj:St}(hQ:H89 d Zj Q K){σ:Sl}{st:St}
include hQ
end
abbrev H90 (Q:AE->Sl->St->Prop)(K:Zb->Prop):Prop:=∀(σ:Sl)(st:St)(k0:Zo)(v0:Nat)(o0_0:Zl)(res0:Zb),σ 0=.p k0 v0 0->lk st.bx k0=some (v0,[.i .u8 res0.kind,.i .i64 res0.int,.s res0.text,.sl o0_0 (List.map Zb.row res0.list),.b res0.cut])->K res0->Q .ret σ st
section
variable {PG:Za}{d:Nat}{Q:AE->Sl->St->Prop}{K:Zb->Prop}(hQ:H90 Q K){σ:Sl}{st:St}
include hQ
end
abbrev H91 (Q:AE->Sl->St->Prop)(K:Bool->Prop):Prop:=∀(σ:Sl)(st:St)(res0:Bool),σ 4=.b res0->K res0->Q .ret σ st
section
variable {PG:Za}{d:Nat}{Q:AE->Sl->St->Prop}{K:Bool->Prop}(hQ:H91 Q K){σ:Sl}{st:St}
include hQ
end
abbrev H92 (Q:AE->Sl->St->Prop)(K:Zb->Prop):Prop:=∀(σ:Sl)(st:St)(k0:Zo)(v0:Nat)(o0_0:Zl)(res0:Zb),σ 2=.p k0 v0 0->lk st.bx k0=some (v0,[.i .u8 res0.kind,.i .i64 res0.int,.s res0.text,.sl o0_0 (List.map Zb.row res0.list),.b res0.cut])->K res0->Q .ret σ st
section
variable {PG:Za}{d:Nat}{Q:AE->Sl->St->Prop}{K:Zb->Prop}(hQ:H92 Q K){σ:Sl}{st:St}
include hQ
end
abbrev H93 (Q:AE->Sl->St->Prop)(K:Zb->Prop):Prop:=∀(σ:Sl)(st:St)(k0:Zo)(v0:Nat)(o0_0:Zl)(res0:Zb),σ 2=.p k0 v0 0->lk st.bx k0=some (v0,[.i .u8 res0.kind,.i .i64 res0.int,.s res0.text,.sl o0_0 (List.map Zb.row res0.list),.b res0.cut])->K res0->Q .ret σ st
section
variable {PG:Za}{d:Nat}{Q:AE->Sl->St->Prop}{K:Zb->Prop}(hQ:H93 Q K){σ:Sl}{st:St}
include hQ
end
abbrev H98 (Q:AE->Sl->St->Prop)(K:Bool->Prop):Prop:=∀(σ:Sl)(st:St)(res0:Bool),σ 2=.b res0->K res0->Q .ret σ st
section
variable {PG:Za}{d:Nat}{Q:AE->Sl->St->Prop}{K:Bool->Prop}(hQ:H98 Q K){σ:Sl}{st:St}
include hQ
end
abbrev H99 (Q:AE->Sl->St->Prop)(K:Zf->Prop):Prop:=∀(σ:Sl)(st:St)(k0:Zo)(v0:Nat) (o0_0 o0_1 o0_2:Zl)(res0:Zf),σ 0=.p k0 v0 0->lk st.bx k0=some (v0,[.sl o0_0 (List.map Wu.row res0.types),.sl o0_1 (List.map Zv res0.texts),.sl o0_2 (List.map Yb.row res0.funcs)])->K res0->Q .ret σ st
section
variable {PG:Za}{d:Nat}{Q:AE->Sl->St->Prop}{K:Zf->Prop}(hQ:H99 Q K){σ:Sl}{st:St}
include hQ
end
abbrev Te (Q:AE->Sl->St->Prop)(K:Bool->Prop):Prop:=∀(σ:Sl)(st:St)(res0:Bool),σ 0=.b res0->K res0->Q .ret σ st
section
variable {PG:Za}{d:Nat}{Q:AE->Sl->St->Prop}{K:Bool->Prop}(hQ:Te Q K){σ:Sl}{st:St}
include hQ
end
abbrev Yws (Q:AE->Sl->St->Prop)(K:Zb->Prop):Prop:=∀(σ:Sl)(st:St)(k0:Zo)(v0:Nat)(o0_0:Zl)(res0:Zb),σ 0=.p k0 v0 0->lk st.bx k0=some (v0,[.i .u8 res0.kind,.i .i64 res0.int,.s res0.text,.sl o0_0 (List.map Zb.row res0.list),.b res0.cut])->K res0->Q .ret σ st
section
variable {PG:Za}{d:Nat}{Q:AE->Sl->St->Prop}{K:Zb->Prop}(hQ:Yws Q K){σ:Sl}{st:St}
include hQ
end
end Go.AM
