/- Parts of the proof: U30b, U38a, U38b, U38c, U38d, U38e. -/
import Derived.Test.YtheacfnopahmjaaGreatDoorG2
import Derived.Test.YtheacfnopahmjaaGreatDoorG0
set_option linter.all false
/- Yg of the proof. -/
namespace Go.AM
open Go
set_option linter.unusedVariables false
set_option linter.unusedSimpArgs false
set_option maxRecDepth 4000
set_option maxHeartbeats 2000000
attribute [local irreducible] Decidable.decide W WO Ww Wx
abbrev Ht (Q:AE->Sl->St->Prop)(K:BS->Prop):Prop:=∀(σ:Sl)(st:St)(x0:BS),σ 2=.s x0->K x0->Q .ret σ st
section
variable {PG:Za}{d:Nat}{Q:AE->Sl->St->Prop}{K:BS->Prop}(hQ:Ht Q K){σ:Sl}{st:St}
include hQ
end
abbrev Kv (Q:AE->Sl->St->Prop)(K:Int->Int->Prop):Prop:=∀(σ:Sl)(st:St)(x0:Int)(x1:Int),σ 2=.i .i64 x0->σ 3=.i .i64 x1->K x0 x1->Q .ret σ st
section
variable {PG:Za}{d:Nat}{Q:AE->Sl->St->Prop}{K:Int->Int->Prop}(hQ:Kv Q K){σ:Sl}{st:St}
include hQ
end
abbrev Tm (Q:AE->Sl->St->Prop)(K:BS->Int->Prop):Prop:=∀(σ:Sl)(st:St)(x0:BS)(x1:Int),σ 2=.s x0->σ 3=.i .i64 x1->K x0 x1->Q .ret σ st
section
variable {PG:Za}{d:Nat}{Q:AE->Sl->St->Prop}{K:BS->Int->Prop}(hQ:Tm Q K){σ:Sl}{st:St}
include hQ
end
def Yoo:List AI:=[oC 4 (.b false)]
def Yqr:List AI:=[oM 6 0,oJ 7 6,oM 8 1,oJ 9 8,oT 10 .neq 7 9]
def Ypa:List AI:=[oC 4 (.b false)]
def Ycc:List AI:=[oI 5 0]
def Xx7:List AI:=[oM 11 5,oM 12 0,oJ 13 12,oT 14 .lss 11 13]
def Wl8:List AI:=[oM 17 0,oM 18 5,oX 19 1 17 18,oL 20 19,oM 21 1,oM 22 5,oX 23 1 21 22,oL 24 23,oT 25 .neq 20 24]
def Xn2:List AI:=[oC 4 (.b false)]
def Ysg:List AI:=[oM 15 5,oV 16 .add 15 1,oM 5 16]
def Xx9:List AI:=[oC 4 (.b true)]
abbrev Zaj:AC:=(.seq (sR 4 Xx7 (.cond (.t 14) .skip (.exit 0))) (.seq (.block 1 (sR 6 Wl8 (.cond (.t 25) (sR 7 Xn2 .ret) .skip))) (.reg 5 Ysg)))
abbrev Zan:AC:=(sR 8 Xx9 .ret)
abbrev b29:AC:=(sR 0 Yoo (.seq (sR 1 Yqr (.cond (.t 10) (sR 2 Ypa .ret) .skip)) (.seq (sR 3 Ycc (.block 0 (.loop Zaj))) Zan)))
def Zc1:AF:={ nt:=26,res:=[.tmp 4],body:=b29 }
abbrev Ynh (PG:Za)(d:Nat)(Q:AE->Sl->St->Prop)(a0:LB)(b1:LB)(i5:Int):Prop:=
  ∀(σ:Sl)(st:St) (o_a0 o_b1:Zn),σ 0=.sl o_a0 (List.map Zv a0)->σ 1=.sl o_b1 (List.map Zv b1)->σ 5=.i .i64 i5->W PG d (.loop Zaj) σ st (Zw 0 (Zl PG d Zan Q))
def Zs3 (PG:Za)(K:Bool->Prop) :Prop:=
  K true
def Zh1 (PG:Za)(K:Bool->Prop)(P0:Int->Prop)(a0:LB)(b1:LB)(i5:Int):Prop:=
  (i5<(a0.length:Int)->0<=i5/\∃c,a0[(i5).toNat]?=some c/\0<=i5/\∃e,b1[(i5).toNat]?=some e/\(c≠e->K false)/\(¬(c≠e)->P0 (IntKind.i64.wrap (i5+1))))/\(¬(i5<(a0.length:Int))->Zs3 PG K )
def Zmx (PG:Za)(K:Bool->Prop)(a0:LB)(b1:LB):Prop:=
  ((a0.length:Int)≠(b1.length:Int)->K false)/\(¬((a0.length:Int)≠(b1.length:Int))->∀P0:Int->Prop,(∀(i5:Int),Zh1 PG K P0 a0 b1 i5->P0 i5)->P0 0)
section
variable {PG:Za}{d:Nat}{Q:AE->Sl->St->Prop}{K:Bool->Prop}(hQ:H1 AV.b 4 Q K){σ:Sl}{st:St}
include hQ
variable {a0 b1:LB}{i5:Int}{P0:Int->Prop}{o_a0 o_b1:Zn}
variable (kP0 :∀(i5:Int),P0 i5->Ynh PG d Q a0 b1 i5)(H0:σ 0=.sl o_a0 (List.map Zv a0))(H1:σ 1=.sl o_b1 (List.map Zv b1))(H5:σ 5=.i .i64 i5)
theorem Xdh (h:Zs3 PG K ):W PG d Zan σ st Q:=
 au trivial
include kP0 H0 H1 H5 in
theorem Xi0 (h:Zh1 PG K P0 a0 b1 i5):W PG d Zaj σ st (Zl PG d (.loop Zaj) (Zw 0 (Zl PG d Zan Q))):=
 au @Xdh
include H0 H1 in
theorem Xz7 (h:Zmx PG K a0 b1):W PG d (sR 0 Yoo (.seq (sR 1 Yqr (.cond (.t 10) (sR 2 Ypa .ret) .skip)) (.seq (sR 3 Ycc (.block 0 (.loop Zaj))) Zan))) σ st Q:=
 q_ J (m_ (e_ (Zk (q_ J (Yf H0 (Yo J (Yf H1 (Yo J (b_ J J Ws (e_ (Yj J (fun c=>q_ J (m_ (Zo (hQ J (h.1 c))))) (fun c=>Yc (Zk (q_ J (m_ (e_ (Yh ((h.2 c) (Ynh PG d Q a0 b1) (fun _ hb _ _ _ _ H0 H1 H5=>W.loop (Xi0 hQ (fun _ x=>x) H0 H1 H5 hb)) _ _ _ _ H0 H1 J))))))))))))))))))
end
theorem p29 {PG:Za}(hf:PG.fn 29=some Zc1){a0:LB}{b1:LB}{K:Bool->Prop}(h:Zmx PG K a0 b1) :∃x0:Bool,K x0/\Zf PG 29 [.sl .ext (List.map Zv a0),.sl .ext (List.map Zv b1)] (.b x0):=
 P1 hf J (Xz7 (h1 J fun _=>J) J J h)
abbrev H31 (Q:AE->Sl->St->Prop)(K:BS->Prop):Prop:=∀(σ:Sl)(st:St)(x0:BS),σ 2=.s x0->K x0->Q .ret σ st
section
variable {PG:Za}{d:Nat}{Q:AE->Sl->St->Prop}{K:BS->Prop}(hQ:H31 Q K){σ:Sl}{st:St}
include hQ
end
abbrev H35 (Q:AE->Sl->St->Prop)(K:BS->Prop):Prop:=∀(σ:Sl)(st:St)(x0:BS),σ 4=.s x0->K x0->Q .ret σ st
section
variable {PG:Za}{d:Nat}{Q:AE->Sl->St->Prop}{K:BS->Prop}(hQ:H35 Q K){σ:Sl}{st:St}
include hQ
end
abbrev Gg (Q:AE->Sl->St->Prop)(K:Int->Int->Prop):Prop:=∀(σ:Sl)(st:St)(x0:Int)(x1:Int),σ 6=.i .u64 x0->σ 7=.i .i64 x1->K x0 x1->Q .ret σ st
section
variable {PG:Za}{d:Nat}{Q:AE->Sl->St->Prop}{K:Int->Int->Prop}(hQ:Gg Q K){σ:Sl}{st:St}
include hQ
end
abbrev Hc (Q:AE->Sl->St->Prop)(K:BS->BS->Bool->Prop):Prop:=∀(σ:Sl)(st:St)(x0:BS)(x1:BS)(x2:Bool),σ 2=.s x0->σ 3=.s x1->σ 4=.b x2->K x0 x1 x2->Q .ret σ st
section
variable {PG:Za}{d:Nat}{Q:AE->Sl->St->Prop}{K:BS->BS->Bool->Prop}(hQ:Hc Q K){σ:Sl}{st:St}
include hQ
end
abbrev Tn (Q:AE->Sl->St->Prop)(K:BS->Prop):Prop:=∀(σ:Sl)(st:St)(x0:BS),σ 2=.s x0->K x0->Q .ret σ st
section
variable {PG:Za}{d:Nat}{Q:AE->Sl->St->Prop}{K:BS->Prop}(hQ:Tn Q K){σ:Sl}{st:St}
include hQ
end
abbrev Gf (Q:AE->Sl->St->Prop)(K:Int->Prop):Prop:=∀(σ:Sl)(st:St)(x0:Int),σ 4=.i .i64 x0->K x0->Q .ret σ st
section
variable {PG:Za}{d:Nat}{Q:AE->Sl->St->Prop}{K:Int->Prop}(hQ:Gf Q K){σ:Sl}{st:St}
include hQ
end
end Go.AM

/- Yg of the proof. -/
namespace Go.AM
open Go
set_option linter.unusedVariables false
set_option linter.unusedSimpArgs false
set_option maxRecDepth 4000
set_option maxHeartbeats 2000000
attribute [local irreducible] Decidable.decide W WO Ww Wx
def Yh5:List AI:=[oY 1 5 0,oC 2 (.b false)]
def Yk9:List AI:=[oK 3 5 1,oO 4 (.call false 102 [(.t 3),(.c (.i .i64 14))]),oM 5 4,gF 5 (oK 6 5 1),gF 5 (oQ 7 103 [6]),gF 5 (oV 8 .gtr 7 400),oR 9 5 8,oM 2 9]
abbrev b71:AC:=(sR 0 Yh5 (sR 1 Yk9 .ret))
def Zhi:AF:={ nt:=10,res:=[.tmp 2],body:=b71 }
def Znd (PG:Za)(K:Bool->Prop)(v0:Zb):Prop:=
  ∃c,Zf PG 102 [v0.av,.i .i64 14] (.b c)/\(c=true->K true)/\(c=false->∃e,Zf PG 103 [v0.av] (.i .i64 e)/\K (decide (e>400)))
section
variable {PG:Za}{d:Nat}{Q:AE->Sl->St->Prop}{K:Bool->Prop}(hQ:H1 AV.b 2 Q K){σ:Sl}{st:St}
include hQ
variable {v0:Zb}
variable (H0:σ 0=v0.av)
include H0 in
theorem Wls (h:Znd PG K v0):W PG d (sR 0 Yh5 (sR 1 Yk9 .ret)) σ st Q:=
 au trivial
end
theorem p71 {PG:Za}(hf:PG.fn 71=some Zhi){v0:Zb}{K:Bool->Prop}(h:Znd PG K v0) :∃res0:Bool,K res0/\Zf PG 71 [v0.av] (.b res0):=
 P1 hf J (Wls (h1 J fun _=>J) J h)
def Yhn:List AI:=[oY 1 5 0,oC 2 (.s []),oI 3 0]
def Yog:List AI:=[oK 7 5 1,oQ 8 76 [7],oM 4 8]
def Yil:List AI:=[oM 9 4,oV 10 .neq 9 0]
def Yhi:List AI:=[oM 11 4,oC 2 (.s []),oM 3 11]
def Yh3:List AI:=[oO 5 (.alloc [.np,.sl .full []])]
def Yjr:List AI:=[oK 12 5 1,oO 13 (.call true 104 [(.t 5),(.t 12)]),oM 6 13]
def Ypd:List AI:=[oM 14 6,oV 15 .neq 14 0]
def Yg3:List AI:=[oM 16 6,oC 2 (.s []),oM 3 16]
def Ynv:List AI:=[oO 17 (.call true 105 [(.t 5)]),oM 2 17,oI 3 0]
abbrev b72:AC:=(sR 0 Yhn (.seq (sR 1 Yog (sR 2 Yil (.cond (.t 10) (sR 3 Yhi .ret) .skip))) (sR 1000004 Yh3 (.seq (sR 5 Yjr (sR 6 Ypd (.cond (.t 15) (sR 7 Yg3 .ret) .skip))) (sR 8 Ynv .ret)))))
def Zis:AF:={ nt:=18,res:=[.tmp 2,.tmp 3],body:=b72 }
def Zuv (PG:Za)(K:BS->Int->Prop)(v0:Zb):Prop:=
  ∃c,Zf PG 76 [v0.av] (.i .i64 c)/\(c≠0->K ([]:BS) c)/\(¬(c≠0)->∃e,∃k:BS,Yt PG 104 (Bl ([]:BS)) [v0.av] (fun r=>r=.i .i64 e) ((Bl k))/\(e≠0->K ([]:BS) e)/\(¬(e≠0)->∃j,Yt PG 105 (Bl k) [] (fun r=>r=.s j) (fun _ _ _ _=>True)/\K j 0))
section
variable {PG:Za}{d:Nat}{Q:AE->Sl->St->Prop}{K:BS->Int->Prop}(hQ:H2 AV.s (AV.i .i64) 2 3 Q K){σ:Sl}{st:St}
include hQ
variable {v0:Zb}
variable (H0:σ 0=v0.av)
include H0 in
theorem Wk8 (h:Zuv PG K v0):W PG d (sR 0 Yhn (.seq (sR 1 Yog (sR 2 Yil (.cond (.t 10) (sR 3 Yhi .ret) .skip))) (sR 1000004 Yh3 (.seq (sR 5 Yjr (sR 6 Ypd (.cond (.t 15) (sR 7 Yg3 .ret) .skip))) (sR 8 Ynv .ret))))) σ st Q:=
 q_ J (Vx H0 J (m_ (m_ (e_ (Zk (q_ J (l_ J Zj J J (h.elim fun _ e=>Yi (Wr J J) e.1 (m_ (e_ (q_ J (m_ (b_ J J Ws (e_ (Yj J (fun j=>q_ J (m_ (m_ (m_ (Zo (hQ J J (e.2.1 j))))))) (fun j=>Yc (Zk (W.regB J (fun _ _ _ q r=>Zk (q_ J (l_ J ((r (d,0) (Wk J)).trans Zj) J J ((e.2.2 j).elim fun _ o=>o.elim fun _ c=>Wi (Ya J (Ya J Yr)) c.1 (Nat.lt_succ_self d) q (fun _ p _=>m_ (e_ (q_ J (m_ (b_ J J Ws (e_ (Yj J (fun i=>q_ J (m_ (m_ (m_ (Zo (hQ J J (c.2.1 i))))))) (fun i=>Yc (q_ J ((c.2.2 i).elim fun _ k=>Wi (Ya J Yr) k.1 (Nat.lt_succ_self d) p (fun _ _ _=>m_ (m_ (Zo (hQ J J k.2))))))))))))))))))))))))))))))))))))
end
theorem p72 {PG:Za}(hf:PG.fn 72=some Zis){v0:Zb}{K:BS->Int->Prop}(h:Zuv PG K v0) :∃res0:BS,∃res1:Int,K res0 res1/\Zf PG 72 [v0.av] (.tup [.s res0,.i .i64 res1]):=
 P2 hf J (Wk8 (h2 J fun _ _=>J) J h)
abbrev H73 (Q:AE->Sl->St->Prop)(K:BS->Int->Prop):Prop:=∀(σ:Sl)(st:St)(res0:BS)(res1:Int),σ 2=.s res0->σ 3=.i .i64 res1->K res0 res1->Q .ret σ st
section
variable {PG:Za}{d:Nat}{Q:AE->Sl->St->Prop}{K:BS->Int->Prop}(hQ:H73 Q K){σ:Sl}{st:St}
include hQ
end
def Ye1:List AI:=[oY 1 5 0,oI 2 0]
def Yht:List AI:=[oK 6 5 1,oO 7 (.call false 109 [(.t 6),(.c (.i .i64 130))]),oM 5 7,oE 8 0 5,oE 9 1 5,oM 3 8,oM 4 9]
def Yid:List AI:=[oM 10 4,oZ 11 10]
def Ypq:List AI:=[oI 2 8]
def Yp0:List AI:=[oI 2 0]
abbrev b76:AC:=(sR 0 Ye1 (.seq (sR 1 Yht (sR 2 Yid (.cond (.t 11) (sR 3 Ypq .ret) .skip))) (sR 4 Yp0 .ret)))
def Zdw:AF:={ nt:=12,res:=[.tmp 2],body:=b76 }
def Zjq (PG:Za)(K:Int->Prop)(v0:Zb):Prop:=
  ∃e c,Zf PG 109 [v0.av,.i .i64 130] (.tup [.i .i64 e,.b c])/\((!c)=true->K 8)/\((!c)=false->K 0)
section
variable {PG:Za}{d:Nat}{Q:AE->Sl->St->Prop}{K:Int->Prop}(hQ:H1 (AV.i .i64) 2 Q K){σ:Sl}{st:St}
include hQ
variable {v0:Zb}
variable (H0:σ 0=v0.av)
include H0 in
theorem Xul (h:Zjq PG K v0):W PG d (sR 0 Ye1 (.seq (sR 1 Yht (sR 2 Yid (.cond (.t 11) (sR 3 Ypq .ret) .skip))) (sR 4 Yp0 .ret))) σ st Q:=
 au trivial
end
theorem p76 {PG:Za}(hf:PG.fn 76=some Zdw){v0:Zb}{K:Int->Prop}(h:Zjq PG K v0) :∃res0:Int,K res0/\Zf PG 76 [v0.av] (.i .i64 res0):=
 P1 hf J (Xul (h1 J fun _=>J) J h)
def Yoz:List AI:=[oY 1 5 0,oI 2 0]
def Ye8:List AI:=[oK 3 5 1,oO 4 (.call false 110 [(.t 3),(.c (.i .i64 130))]),oZ 5 4,oM 6 5,gF 6 (oK 7 5 1),gF 6 (oQ 8 103 [7]),gF 6 (oV 9 .gtr 8 5000),oR 10 6 9]
def Ylb:List AI:=[oI 2 8]
def Yre:List AI:=[oI 2 0]
abbrev b77:AC:=(sR 0 Yoz (.seq (sR 1 Ye8 (.cond (.t 10) (sR 2 Ylb .ret) .skip)) (sR 3 Yre .ret)))
def Zfp:AF:={ nt:=11,res:=[.tmp 2],body:=b77 }
def Zrm (PG:Za)(K:Int->Prop)(v0:Zb):Prop:=
  ∃e,Zf PG 110 [v0.av,.i .i64 130] (.b e)/\((!e)=true->K 8)/\((!e)=false->∃c,Zf PG 103 [v0.av] (.i .i64 c)/\(c>5000->K 8)/\(¬(c>5000)->K 0))
section
variable {PG:Za}{d:Nat}{Q:AE->Sl->St->Prop}{K:Int->Prop}(hQ:H1 (AV.i .i64) 2 Q K){σ:Sl}{st:St}
include hQ
variable {v0:Zb}
variable (H0:σ 0=v0.av)
include H0 in
theorem Xup (h:Zrm PG K v0):W PG d (sR 0 Yoz (.seq (sR 1 Ye8 (.cond (.t 10) (sR 2 Ylb .ret) .skip)) (sR 3 Yre .ret))) σ st Q:=
 au trivial
end
theorem p77 {PG:Za}(hf:PG.fn 77=some Zfp){v0:Zb}{K:Int->Prop}(h:Zrm PG K v0) :∃res0:Int,K res0/\Zf PG 77 [v0.av] (.i .i64 res0):=
 P1 hf J (Xup (h1 J fun _=>J) J h)
def Zx9:List AI:=[oY 2 5 0,oC 4 (.b false)]
def Ynq:List AI:=[oM 6 1,oV 7 .eql 6 0,oM 8 7,gF 8 (oF 9 2 2),gF 8 (oL 10 9),gF 8 (oH 11 10),gF 8 (oV 12 .gtr 11 100),oR 13 8 12,oM 14 13,gF 14 (oF 15 3 2),gF 14 (oL 16 15),gF 14 (oJ 17 16),gF 14 (oV 18 .gtr 17 400),oR 19 14 18]
def Yf9:List AI:=[oC 4 (.b true)]
def Zzj:List AI:=[oI 5 0]
def Wru:List AI:=[oM 20 5,oF 21 3 2,oL 22 21,oJ 23 22,oT 24 .lss 20 23]
def Xj4:List AI:=[oF 27 3 2,oL 28 27,oM 29 5,oX 30 5 28 29,oK 31 5 30,oM 32 1,oV 33 .sub 32 1,oQ 34 102 [31,33]]
def Yzn:List AI:=[oC 4 (.b true)]
def Yy9:List AI:=[oM 25 5,oV 26 .add 25 1,oM 5 26]
def Xc6:List AI:=[oC 4 (.b false)]
abbrev Zb2:AC:=(.seq (sR 4 Wru (.cond (.t 24) .skip (.exit 0))) (.seq (.block 1 (sR 6 Xj4 (.cond (.t 34) (sR 7 Yzn .ret) .skip))) (.reg 5 Yy9)))
abbrev Za9:AC:=(sR 8 Xc6 .ret)
abbrev Xz4:AC:=(sR 0 Zx9 (.seq (sR 1 Ynq (.cond (.t 19) (sR 2 Yf9 .ret) .skip)) (.seq (sR 3 Zzj (.block 0 (.loop Zb2))) Za9)))
def Zfa:AF:={ nt:=35,res:=[.tmp 4],body:=Xz4 }
abbrev Yp1 (PG:Za)(d:Nat)(Q:AE->Sl->St->Prop)(most1:Int)(i5:Int)(m0:Zb):Prop:=
  ∀(σ:Sl)(st:St)(v0:Nat),σ 1=.i .i64 most1->σ 2=.p (d,0) v0 0->σ 5=.i .i64 i5->lk st.bx (d,0)=some (v0,Zb.cs m0)->W PG d (.loop Zb2) σ st (Zw 0 (Zl PG d Za9 Q))
def Zqf (PG:Za)(K:Bool->Prop) :Prop:=
  K false
def Zf6 (PG:Za)(K:Bool->Prop)(P0:Int->Zb->Prop)(most1:Int)(i5:Int)(m0:Zb):Prop:=
  (i5<(m0.list.length:Int)->0<=i5/\∃e:Zb,m0.list[(i5).toNat]?=some e/\∃c,Zf PG 102 [e.av,.i .i64 (IntKind.i64.wrap (most1-1))] (.b c)/\(c=true->K true)/\(c=false->P0 (IntKind.i64.wrap (i5+1)) m0))/\(¬(i5<(m0.list.length:Int))->Zqf PG K )
def Zdd (PG:Za)(K:Bool->Prop)(v0:Zb)(most1:Int):Prop:=
  (most1=0->K true)/\(¬(most1=0)->((v0.text.length:Int)>100->K true)/\(¬((v0.text.length:Int)>100)->((v0.list.length:Int)>400->K true)/\(¬((v0.list.length:Int)>400)->∀P0:Int->Zb->Prop,(∀(i5:Int)(m0:Zb),Zf6 PG K P0 most1 i5 m0->P0 i5 m0)->P0 0 v0)))
section
variable {PG:Za}{d:Nat}{Q:AE->Sl->St->Prop}{K:Bool->Prop}(hQ:H1 AV.b 4 Q K){σ:Sl}{st:St}
include hQ
variable {most1 i5:Int}{m0:Zb}{P0:Int->Zb->Prop}{v0:Nat}
variable (kP0 :∀(i5:Int)(m0:Zb),P0 i5 m0->Yp1 PG d Q most1 i5 m0)(H1:σ 1=.i .i64 most1)(H2:σ 2=.p (d,0) v0 0)(H5:σ 5=.i .i64 i5)(B0:lk st.bx (d,0)=some (v0,Zb.cs m0))
theorem Xdy (h:Zqf PG K ):W PG d Za9 σ st Q:=
 au trivial
include kP0 H1 H2 H5 B0 in
theorem Xk5 (h:Zf6 PG K P0 most1 i5 m0):W PG d Zb2 σ st (Zl PG d (.loop Zb2) (Zw 0 (Zl PG d Za9 Q))):=
 au @Xdy
theorem Yv4 {v0:Zb}{most1:Int}(H0:σ 0=v0.av)(H1:σ 1=.i .i64 most1)(h:Zdd PG K v0 most1):W PG d (sR 0 Zx9 (.seq (sR 1 Ynq (.cond (.t 19) (sR 2 Yf9 .ret) .skip)) (.seq (sR 3 Zzj (.block 0 (.loop Zb2))) Za9))) σ st Q:=
 q_ J (Vx H0 J (m_ (e_ (Zk (q_ J (Xa H1 (b_ J J Xo (Yq J (Ym (g:=8) J (fun c=>z_ 11 J (e_ (Yl J (q_ J (m_ (Zo (hQ J (h.1 c)))))))) (fun c=>Zc J (f_ J (Zc J (l_ J Zj J J (Zc J (Dl J (Zc J (b_ J J Vt (z_ 2 J (Ym (g:=14) J (fun e=>z_ 5 J (e_ (Yl J (q_ J (m_ (Zo (hQ J ((h.2 c).1 e)))))))) (fun e=>Zc J (f_ J (Zc J (l_ J Zj J J (Zc J (Yo J (Zc J (b_ J J Vt (Vf J J (e_ (Yj J (fun i=>q_ J (m_ (Zo (hQ J (((h.2 c).2 e).1 i))))) (fun i=>Yc (Zk (q_ J (m_ (e_ (Yh ((((h.2 c).2 e).2 i) (Yp1 PG d Q most1) (fun _ _ hb _ _ _ H1 H2 H5 B0=>W.loop (Xk5 hQ (fun _ _ x=>x) H1 H2 H5 B0 hb)) _ _ _ H1 J J Zj)))))))))))))))))))))))))))))))))))))
end
theorem Ylg {PG:Za}(hf:PG.fn 102=some Zfa){v0:Zb}{most1:Int}{K:Bool->Prop}(h:Zdd PG K v0 most1) :∃res0:Bool,K res0/\Zf PG 102 [v0.av,.i .i64 most1] (.b res0):=
 P1 hf J (Yv4 (h1 J fun _=>J) J J h)
def Zzo:List AI:=[oY 1 5 0,oI 2 0]
def Zwm:List AI:=[oI 3 1]
def Yox:List AI:=[oI 4 0]
def Wc3:List AI:=[oM 5 4,oF 6 3 1,oL 7 6,oJ 8 7,oT 9 .lss 5 8,oM 10 9,gT 10 (oM 11 3),gT 10 (oV 12 .leq 11 5000),oA 13 10 12]
def Wry:List AI:=[oM 16 3,oF 17 3 1,oL 18 17,oM 19 4,oX 20 5 18 19,oK 21 5 20,oQ 22 103 [21],oT 23 .add 16 22,oM 3 23]
def Xbd:List AI:=[oM 14 4,oV 15 .add 14 1,oM 4 15]
def Xq6:List AI:=[oM 24 3,oM 2 24]
abbrev Ae:AC:=(.seq (sR 3 Wc3 (.cond (.t 13) .skip (.exit 0))) (.seq (.block 1 (.reg 5 Wry)) (.reg 4 Xbd)))
abbrev Zbk:AC:=(sR 6 Xq6 .ret)
abbrev Xjk:AC:=(sR 0 Zzo (sR 1 Zwm (.seq (sR 2 Yox (.block 0 (.loop Ae))) Zbk)))
def Zct:AF:={ nt:=25,res:=[.tmp 2],body:=Xjk }
abbrev Yfc (PG:Za)(d:Nat)(Q:AE->Sl->St->Prop)(n3:Int)(i4:Int)(m0:Zb):Prop:=
  ∀(σ:Sl)(st:St)(v0:Nat),σ 1=.p (d,0) v0 0->σ 3=.i .i64 n3->σ 4=.i .i64 i4->lk st.bx (d,0)=some (v0,Zb.cs m0)->W PG d (.loop Ae) σ st (Zw 0 (Zl PG d Zbk Q))
def Za4 (PG:Za)(K:Int->Prop)(n3:Int):Prop:=
  K n3
def Zg3 (PG:Za)(K:Int->Prop)(P0:Int->Int->Zb->Prop)(n3:Int)(i4:Int)(m0:Zb):Prop:=
  (i4<(m0.list.length:Int)->(n3<=5000->0<=i4/\∃c:Zb,m0.list[(i4).toNat]?=some c/\∃e,Zf PG 103 [c.av] (.i .i64 e)/\P0 (IntKind.i64.wrap (n3+e)) (IntKind.i64.wrap (i4+1)) m0)/\(¬(n3<=5000)->Za4 PG K n3))/\(¬(i4<(m0.list.length:Int))->Za4 PG K n3)
def Zv4 (PG:Za)(K:Int->Prop)(v0:Zb):Prop:=
  ∀P0:Int->Int->Zb->Prop,(∀(n3:Int)(i4:Int)(m0:Zb),Zg3 PG K P0 n3 i4 m0->P0 n3 i4 m0)->P0 1 0 v0
section
variable {PG:Za}{d:Nat}{Q:AE->Sl->St->Prop}{K:Int->Prop}(hQ:H1 (AV.i .i64) 2 Q K){σ:Sl}{st:St}
include hQ
variable {n3 i4:Int}{m0:Zb}{P0:Int->Int->Zb->Prop}{v0:Nat}
variable (kP0 :∀(n3:Int)(i4:Int)(m0:Zb),P0 n3 i4 m0->Yfc PG d Q n3 i4 m0)(H1:σ 1=.p (d,0) v0 0)(H3:σ 3=.i .i64 n3)(H4:σ 4=.i .i64 i4)(B0:lk st.bx (d,0)=some (v0,Zb.cs m0))
include H3 in
theorem Ysl (h:Za4 PG K n3):W PG d Zbk σ st Q:=
 au trivial
include kP0 H1 H3 H4 B0 in
theorem Wh0 (h:Zg3 PG K P0 n3 i4 m0):W PG d Ae σ st (Zl PG d (.loop Ae) (Zw 0 (Zl PG d Zbk Q))):=
 au @Ysl
theorem Yu7 {v0:Zb}(H0:σ 0=v0.av)(h:Zv4 PG K v0):W PG d (sR 0 Zzo (sR 1 Zwm (.seq (sR 2 Yox (.block 0 (.loop Ae))) Zbk))) σ st Q:=
 q_ J (Vx H0 J (m_ (e_ (q_ J (m_ (e_ (Zk (q_ J (m_ (e_ (Yh (h (Yfc PG d Q ) (fun _ _ _ hb _ _ _ H1 H3 H4 B0=>W.loop (Wh0 hQ (fun _ _ _ x=>x) H1 H3 H4 B0 hb)) _ _ _ J J J Zj))))))))))))
end
theorem Xa9 {PG:Za}(hf:PG.fn 103=some Zct){v0:Zb}{K:Int->Prop}(h:Zv4 PG K v0) :∃res0:Int,K res0/\Zf PG 103 [v0.av] (.i .i64 res0):=
 P1 hf J (Yu7 (h1 J fun _=>J) J h)
def Yne:List AI:=[oY 3 5 1,oI 4 0]
def Wlu:List AI:=[oO 11 (.build [zs,zs,zs,zs,zs,zs,zs,zs] [(5,1,(.c (.s [123,125]))),(6,1,(.c (.s [91,93]))),(7,1,(.c (.s [60,62])))]),oF 12 0 3,oL 13 12,oO 14 (.ixA 8 1 false (.t 11) (.t 13)),oM 5 14]
def Whi:List AI:=[oF 43 0 3,oL 44 43,oW 45 .eql 44 1,oM 46 45,gT 46 (oF 47 1 3),gT 46 (oL 48 47),gT 46 (oV 49 .eql 48 1),oA 50 46 49,oM 42 50]
def Xks:List AI:=[oM 51 0,oO 52 (.call true 126 [(.t 51),(.c (.s [116,114,117,101]))])]
def Xgb:List AI:=[oF 54 0 3,oL 55 54,oW 56 .eql 55 1,oM 53 56]
def Wc4:List AI:=[oM 57 0,oO 58 (.call true 126 [(.t 57),(.c (.s [102,97,108,115,101]))])]
def Xlv:List AI:=[oF 60 0 3,oL 61 60,oW 62 .eql 61 2,oM 59 62]
def Xam:List AI:=[oM 63 0,oF 64 1 3,oL 65 64,oQ 66 15 [65],oO 67 (.call true 126 [(.t 63),(.t 66)])]
def Xtz:List AI:=[oF 69 0 3,oL 70 69,oW 71 .eql 70 3,oM 68 71]
def Wt0:List AI:=[oF 73 2 3,oL 74 73,oQ 75 11 [74],oM 72 75,oE 76 0 72,oE 77 1 72,oM 6 76,oM 7 77]
def Xhp:List AI:=[oM 78 0,oM 79 6,oO 80 (.call true 126 [(.t 78),(.t 79)])]
def Yv5:List AI:=[oM 81 7,oM 4 81]
def Xxg:List AI:=[oF 83 0 3,oL 84 83,oW 85 .eql 84 4,oM 86 85,gT 86 (oF 87 4 3),gT 86 (oL 88 87),oA 89 86 88,oM 82 89]
def Xib:List AI:=[oM 90 0,oO 91 (.call true 126 [(.t 90),(.c (.s [38,46,46,46]))])]
def Wc6:List AI:=[oF 93 0 3,oL 94 93,oW 95 .eql 94 4,oM 96 95,gT 96 (oF 97 3 3),gT 96 (oL 98 97),gT 96 (oJ 99 98),gT 96 (oV 100 .eql 99 0),oA 101 96 100,oM 92 101]
def Wq1:List AI:=[oM 102 0,oO 103 (.call true 126 [(.t 102),(.c (.s [110,105,108]))])]
def Yzp:List AI:=[oF 105 0 3,oL 106 105,oW 107 .eql 106 4,oM 104 107]
def Xv9:List AI:=[oM 108 0,oO 109 (.call true 126 [(.t 108),(.c (.s [38]))])]
def Wkl:List AI:=[oM 110 0,oF 111 3 3,oL 112 111,oO 113 (.iaL 5 (.t 112) (.c (.i .i64 0))),oK 114 5 113,oO 115 (.call true 104 [(.t 110),(.t 114)]),oM 4 115]
def Xk3:List AI:=[oF 117 4 3,oL 118 117,oM 116 118]
def Xxv:List AI:=[oM 119 0,oO 120 (.call true 126 [(.t 119),(.c (.s [60,46,46,46,62]))])]
def Xlf:List AI:=[oM 15 0,oM 16 5,oO 17 (.slS (.t 16) none (some (.c (.i .i64 1)))),oO 18 (.call true 126 [(.t 15),(.t 17)])]
def Wrh:List AI:=[oF 19 3 3,oL 20 19,oJ 21 20,oI 22 0]
def Yyd:List AI:=[oT 23 .lss 22 21]
def Wdq:List AI:=[oM 24 22,oX 25 5 20 22,oK 26 5 25,oO 9 (.alloc [z8,z6,zs,zl,zb]),oM 8 24,oS 5 9 26]
def Wft:List AI:=[oM 27 8,oV 28 .gtr 27 0]
def Wn1:List AI:=[oM 29 0,oO 30 (.call true 126 [(.t 29),(.c (.s [44,32]))])]
def Whu:List AI:=[oM 31 0,oK 32 5 9,oO 33 (.call true 104 [(.t 31),(.t 32)]),oM 10 33]
def Yts:List AI:=[oM 34 10,oV 35 .neq 34 0]
def Xms:List AI:=[oM 36 10,oM 4 36]
def Yeq:List AI:=[oV 37 .add 22 1,oM 22 37]
def Xsj:List AI:=[oM 38 0,oM 39 5,oO 40 (.slS (.t 39) (some (.c (.i .i64 1))) none),oO 41 (.call true 126 [(.t 38),(.t 40)])]
def Xmo:List AI:=[oI 4 0]
abbrev Yd7:AC:=(sR 8 Whu (sR 9 Yts (.cond (.t 35) (sR 10 Xms .ret) .skip)))
abbrev Zbq:AC:=(sR 4 Yyd (.seq (.cond (.t 23) .skip (.exit 1)) (.seq (.block 2 (sR 5 Wdq (.seq (sR 6 Wft (.cond (.t 28) (.reg 7 Wn1) .skip)) Yd7))) (.reg 11 Yeq))))
abbrev Ab:AC:=(.reg 12 Xsj)
abbrev Ygl:AC:=(.cond (.t 82) (.reg 24 Xib) (sR 25 Wc6 (.cond (.t 92) (.reg 26 Wq1) (sR 27 Yzp (.cond (.t 104) (sR 28 Xv9 (sR 29 Wkl .ret)) (sR 30 Xk3 (.cond (.t 116) (.reg 31 Xxv) (sR 2 Xlf (.seq (sR 3 Wrh (.block 1 (.loop Zbq))) Ab)))))))))
abbrev Ypo:AC:=(.cond (.t 68) (sR 20 Wt0 (sR 21 Xhp (sR 22 Yv5 .ret))) (sR 23 Xxg Ygl))
abbrev Ym0:AC:=(.cond (.t 59) (.reg 18 Xam) (sR 19 Xtz Ypo))
abbrev Ybu:AC:=(.cond (.t 53) (.reg 16 Wc4) (sR 17 Xlv Ym0))
abbrev Zw2:AC:=(.cond (.t 42) (.reg 14 Xks) (sR 15 Xgb Ybu))
abbrev Dy:AC:=(sR 32 Xmo .ret)
abbrev Zvz:AC:=(.seq (.block 0 (sR 13 Whi Zw2)) Dy)
abbrev Znh:AC:=(sR 1 Wlu Zvz)
abbrev Yse:AC:=(sR 0 Yne Znh)
def Pl:AF:={ nt:=121,res:=[.tmp 4],body:=Yse }
abbrev Wkp (d:Nat)(Zm:St)(kp:Zq)(vp:Nat)(Q:AE->Sl->St->Prop)(K:Int->BS->Prop):Prop:=∀(σ:Sl)(st:St)(res0:Int)(b_:BS),σ 4=.i .i64 res0->Bl b_ st.bx st.ow kp vp->Fr d kp Zm.bx Zm.ow st.bx st.ow->K res0 b_->Q .ret σ st
def Dv (PG:Za)(K:Int->BS->Prop)(mP:BS):Prop:=
  K 0 mP
abbrev Zow (PG:Za)(d:Nat)(Q:AE->Sl->St->Prop)(Zm:St)(kp:Zq)(vp:Nat)(ends5:BS)(t20:List Zb)(t21:Int)(t22:Int)(mP:BS):Prop:=
  ∀(σ:Sl)(st:St)(o_t20:Zn),σ 0=.p kp vp 0->σ 5=.s ends5->σ 20=.sl o_t20 (List.map Zb.row t20)->σ 21=.i .i64 t21->σ 22=.i .i64 t22->Bl mP st.bx st.ow kp vp->Fr d kp Zm.bx Zm.ow st.bx st.ow->W PG d (.loop Zbq) σ st (Zw 1 (Zl PG d Ab (Zw 0 (Zl PG d Dy Q))))
def Zdj (PG:Za)(K:Int->BS->Prop)(P0:Int->BS->Prop)(ends5:BS)(t20:List Zb)(t21:Int)(t22:Int)(m20483:Zb)(mP:BS):Prop:=
  ∃c,∃e:BS,Yt PG 104 (Bl mP) [m20483.av] (fun r=>r=.i .i64 c) ((Bl e))/\(c≠0->K c e)/\(¬(c≠0)->P0 (IntKind.i64.wrap (t22+1)) e)
def Zup (PG:Za)(K:Int->BS->Prop)(ends5:BS)(mP:BS):Prop:=
  1<=ends5.length/\∃e,∃c:BS,Yt PG 126 (Bl mP) [.s (ends5.drop 1)] (fun r=>r=.tup [.i .i64 e,.ni]) ((Bl c))/\Dv PG K c
def Py (PG:Za)(K:Int->BS->Prop)(P0:Int->BS->Prop)(ends5:BS)(t20:List Zb)(t21:Int)(t22:Int)(mP:BS):Prop:=
  (t22<t21->0<=t22/\∃c,t20[(t22).toNat]?=some c/\(t22>0->∃j,∃e:BS,Yt PG 126 (Bl mP) [.s ([44,32]:BS)] (fun r=>r=.tup [.i .i64 j,.ni]) ((Bl e))/\Zdj PG K P0 ends5 t20 t21 t22 c e)/\(¬(t22>0)->Zdj PG K P0 ends5 t20 t21 t22 c mP))/\(¬(t22<t21)->Zup PG K ends5 mP)
def Ts (PG:Za)(K:Int->BS->Prop)(ends5:BS)(t82:Bool)(m0:Zb)(mP:BS):Prop:=
  (t82=true->∃e,∃c:BS,Yt PG 126 (Bl mP) [.s ([38,46,46,46]:BS)] (fun r=>r=.tup [.i .i64 e,.ni]) ((Bl c))/\Dv PG K c)/\(t82=false->(m0.kind=4->((m0.list.length:Int)=0->∃a4,∃k:BS,Yt PG 126 (Bl mP) [.s ([110,105,108]:BS)] (fun r=>r=.tup [.i .i64 a4,.ni]) ((Bl k))/\Dv PG K k)/\(¬((m0.list.length:Int)=0)->(m0.kind=4->∃a2,∃j:BS,Yt PG 126 (Bl mP) [.s ([38]:BS)] (fun r=>r=.tup [.i .i64 a2,.ni]) ((Bl j))/\∃a1:Zb,m0.list[0]?=some a1/\∃v,∃u:BS,Yt PG 104 (Bl j) [a1.av] (fun r=>r=.i .i64 v) ((Bl u))/\K v u)/\(¬(m0.kind=4)->(m0.cut=true->∃a8,∃w:BS,Yt PG 126 (Bl mP) [.s ([60,46,46,46,62]:BS)] (fun r=>r=.tup [.i .i64 a8,.ni]) ((Bl w))/\Dv PG K w)/\(m0.cut=false->1<=ends5.length/\∃a7,∃z:BS,Yt PG 126 (Bl mP) [.s (ends5.take 1)] (fun r=>r=.tup [.i .i64 a7,.ni]) ((Bl z))/\∀P0:Int->BS->Prop,(∀(t22:Int)(mP:BS),Py PG K P0 ends5 m0.list (m0.list.length:Int) t22 mP->P0 t22 mP)->P0 0 z))))/\(¬(m0.kind=4)->(m0.kind=4->∃a6,∃x:BS,Yt PG 126 (Bl mP) [.s ([38]:BS)] (fun r=>r=.tup [.i .i64 a6,.ni]) ((Bl x))/\∃a0:Zb,m0.list[0]?=some a0/\∃y,∃q:BS,Yt PG 104 (Bl x) [a0.av] (fun r=>r=.i .i64 y) ((Bl q))/\K y q)/\(¬(m0.kind=4)->(m0.cut=true->∃a3,∃o:BS,Yt PG 126 (Bl mP) [.s ([60,46,46,46,62]:BS)] (fun r=>r=.tup [.i .i64 a3,.ni]) ((Bl o))/\Dv PG K o)/\(m0.cut=false->1<=ends5.length/\∃a5,∃p:BS,Yt PG 126 (Bl mP) [.s (ends5.take 1)] (fun r=>r=.tup [.i .i64 a5,.ni]) ((Bl p))/\∀P0:Int->BS->Prop,(∀(t22:Int)(mP:BS),Py PG K P0 ends5 m0.list (m0.list.length:Int) t22 mP->P0 t22 mP)->P0 0 p))))
def Cu (PG:Za)(K:Int->BS->Prop)(ends5:BS)(t68:Bool)(m0:Zb)(mP:BS):Prop:=
  (t68=true->∃c j,Zf PG 11 [.s m0.text] (.tup [.s c,.i .i64 j])/\∃k,∃e:BS,Yt PG 126 (Bl mP) [.s c] (fun r=>r=.tup [.i .i64 k,.ni]) ((Bl e))/\K j e)/\(t68=false->(m0.kind=4->Ts PG K ends5 m0.cut m0 mP)/\(¬(m0.kind=4)->Ts PG K ends5 false m0 mP))
def Rp (PG:Za)(K:Int->BS->Prop)(ends5:BS)(t59:Bool)(m0:Zb)(mP:BS):Prop:=
  (t59=true->∃c,Zf PG 15 [.i .i64 m0.int] (.s c)/\∃j,∃e:BS,Yt PG 126 (Bl mP) [.s c] (fun r=>r=.tup [.i .i64 j,.ni]) ((Bl e))/\Dv PG K e)/\(t59=false->Cu PG K ends5 (decide (m0.kind=3)) m0 mP)
def Np (PG:Za)(K:Int->BS->Prop)(ends5:BS)(t53:Bool)(m0:Zb)(mP:BS):Prop:=
  (t53=true->∃e,∃c:BS,Yt PG 126 (Bl mP) [.s ([102,97,108,115,101]:BS)] (fun r=>r=.tup [.i .i64 e,.ni]) ((Bl c))/\Dv PG K c)/\(t53=false->Rp PG K ends5 (decide (m0.kind=2)) m0 mP)
def Mc (PG:Za)(K:Int->BS->Prop)(ends5:BS)(t42:Bool)(m0:Zb)(mP:BS):Prop:=
  (t42=true->∃e,∃c:BS,Yt PG 126 (Bl mP) [.s ([116,114,117,101]:BS)] (fun r=>r=.tup [.i .i64 e,.ni]) ((Bl c))/\Dv PG K c)/\(t42=false->Np PG K ends5 (decide (m0.kind=1)) m0 mP)
def Nx (PG:Za)(K:Int->BS->Prop)(ends5:BS)(m0:Zb)(mP:BS):Prop:=
  (m0.kind=1->Mc PG K ends5 (decide (m0.int=1)) m0 mP)/\(¬(m0.kind=1)->Mc PG K ends5 false m0 mP)
def Zlx (PG:Za)(K:Int->BS->Prop)(m0:Zb)(mP:BS):Prop:=
  0<=m0.kind/\∃c,([[],[],[],[],[],([123,125]:BS),([91,93]:BS),([60,62]:BS)]:LB)[(m0.kind).toNat]?=some c/\Nx PG K c m0 mP
def Zri (PG:Za)(K:Int->BS->Prop)(v1:Zb)(mP:BS):Prop:=
  Zlx PG K v1 mP
section
variable {PG:Za}{d:Nat}{Q:AE->Sl->St->Prop}{K:Int->BS->Prop}{Zm:St}{kp:Zq}{vp:Nat}(hQ:Wkp d Zm kp vp Q K)(hkp:kp.1<d){σ:Sl}{st:St}
include hQ hkp
variable {mP ends5:BS}{t20:List Zb}{t21 t22:Int}{m20483:Zb}{P0:Int->BS->Prop}{o_t20:Zn}{v20483:Nat}{t82:Bool}{m0:Zb}{v0:Nat}{t68 t59 t53 t42:Bool}{v1:Zb}
variable (kP0 :∀(t22:Int)(mP:BS),P0 t22 mP->Zow PG d Q Zm kp vp ends5 t20 t21 t22 mP)(H0:σ 0=.p kp vp 0)(H3:σ 3=.p (d,0) v0 0)(H1:σ 1=v1.av)(H5:σ 5=.s ends5)(H9:σ 9=.p (d,20483) v20483 0)(H82:σ 82=.b t82)(H68:σ 68=.b t68)(H59:σ 59=.b t59)(H53:σ 53=.b t53)(H42:σ 42=.b t42)(H20:σ 20=.sl o_t20 (List.map Zb.row t20))(B0:lk st.bx (d,0)=some (v0,Zb.cs m0))(H21:σ 21=.i .i64 t21)(Kv:σ 22=.i .i64 t22)(B20483:lk st.bx (d,20483)=some (v20483,Zb.cs m20483))(BP:Bl mP st.bx st.ow kp vp)(FR:Fr d kp Zm.bx Zm.ow st.bx st.ow)
include BP FR in
theorem Rz (h:Dv PG K mP):W PG d Dy σ st Q:=
 au trivial
include kP0 H0 H5 H9 H20 H21 Kv B20483 BP FR in
theorem Yj5 (h:Zdj PG K P0 ends5 t20 t21 t22 m20483 mP):W PG d Yd7 σ st (Zw 2 (Zl PG d (.reg 11 Yeq) (Zl PG d (.loop Zbq) (Zw 1 (Zl PG d Ab (Zw 0 (Zl PG d Dy Q))))))):=
 q_ J (m_ (l_ H9 B20483 J J (h.elim fun _ k=>k.elim fun _ c=>Wi (Ya H0 (Ya J Yr)) c.1 (Nat.lt_succ_of_lt hkp) BP (fun _ i j=>m_ (e_ (q_ J (m_ (b_ J J Ws (e_ (Yj J (fun e=>q_ J (m_ (m_ (Zo (hQ _ _ _ _ J i (Fr.pass FR j) (c.2.1 e)))))) (fun e=>Yc (W.reg0 J fun _ _=>b_ Kv J Vd (m_ (e_ (kP0 _ _ (c.2.2 e) _ _ _ H0 H5 H20 H21 J i (Fr.pass FR j))))))))))))))))
include H0 H5 BP FR in
theorem Wal (h:Zup PG K ends5 mP):W PG d Ab σ st (Zw 0 (Zl PG d Dy Q)):=
 W.reg0 J fun _ _=>m_ (m_ (Hb H5 J (by decide) h.1 (h.2.elim fun _ e=>e.elim fun _ c=>Wi (Ya H0 (Ya J Yr)) c.1 (Nat.lt_succ_of_lt hkp) BP (fun _ i j=>e_ (Rz hQ hkp i (Fr.pass FR j) c.2)))))
include kP0 H0 H5 H20 H21 Kv BP FR in
theorem Ydn (h:Py PG K P0 ends5 t20 t21 t22 mP):W PG d Zbq σ st (Zl PG d (.loop Zbq) (Zw 1 (Zl PG d Ab (Zw 0 (Zl PG d Dy Q))))):=
 q_ J (b_ Kv H21 Wn (e_ (Zk (Yj J (fun c=>Yc (Zk (Yh (Zk (W.reg (m_ ((h.1 c).2.elim fun p e=>Wq H20 Kv (h.1 c).1 e.1 (Zb.row_eq p) J (Xk J J J (Xy (m_ (Ye J (show lk _ (d,20483)=some (_,([.i .u8 0,.i .i64 0,.s [],.sl .full (List.map Zb.row ([]:List Zb)),.b false]:List AV)) from Zj) J J J (e_ (Zk (q_ J (m_ (b_ Kv J Vt (e_ (Yj J (fun j=>W.reg0 J fun _ _=>m_ ((e.2.1 j).elim fun _ q=>q.elim fun _ k=>Wi (Ya H0 (Ya J Yr)) k.1 (Nat.lt_succ_of_lt hkp) (Bl.other (Xn hkp) (Bl.other (Xn hkp) BP)) (fun _ r o=>e_ (Yj5 hQ hkp kP0 H0 H5 J H20 H21 Kv ((o.1 (d,20483) (Nat.lt_succ_self d) (Xn hkp)).trans Zj) r (Fr.pass (Fr.box (Fr.box FR)) o) k.2)))) (fun j=>Yc (Yj5 hQ hkp kP0 H0 H5 J H20 H21 Kv Zj (Bl.other (Xn hkp) (Bl.other (Xn hkp) BP)) (Fr.box (Fr.box FR)) (e.2.2 j))))))))))))))))))))) (fun c=>Vm (Wal hQ hkp H0 H5 BP FR (h.2 c)))))))
include H0 H3 H5 H82 B0 BP FR in
theorem Yac (h:Ts PG K ends5 t82 m0 mP):W PG d Ygl σ st (Zw 0 (Zl PG d Dy Q)):=
 Xs H82 (fun c=>W.reg0 J fun _ _=>m_ ((h.1 c).elim fun _ b8=>b8.elim fun _ v=>Wi (Ya H0 (Ya J Yr)) v.1 (Nat.lt_succ_of_lt hkp) BP (fun _ c5 d4=>e_ (Rz hQ hkp c5 (Fr.pass FR d4) v.2)))) (fun c=>q_ J (f_ H3 (l_ J B0 J J (b_ J J Xo (Yq J (Ym (g:=96) J (fun e=>Zc J (f_ H3 (Zc J (l_ J B0 J J (Zc J (Yo J (Zc J (b_ J J Xo (z_ 2 J (e_ (Yj J (fun i=>W.reg0 J fun _ _=>m_ ((((h.2 c).1 e).1 i).elim fun _ b0=>b0.elim fun _ q=>Wi (Ya H0 (Ya J Yr)) q.1 (Nat.lt_succ_of_lt hkp) BP (fun _ c0 d1=>e_ (Rz hQ hkp c0 (Fr.pass FR d1) q.2)))) (fun i=>q_ J (f_ H3 (l_ J B0 J J (b_ J J Xo (m_ (e_ (Yj J (fun j=>q_ J (m_ (((((h.2 c).1 e).2 i).1 j).elim fun _ b2=>b2.elim fun _ r=>Wi (Ya H0 (Ya J Yr)) r.1 (Nat.lt_succ_of_lt hkp) BP (fun _ c1 a4=>e_ (q_ J (m_ (f_ H3 (l_ J ((a4.1 (d,0) (Nat.lt_succ_self d) (Xn hkp)).trans B0) J J (r.2.elim fun a8 s=>Wq J J (by decide) s.1 (Zb.row_eq a8) J (Xk J J J (s.2.elim fun _ b1=>b1.elim fun _ u=>Wi (Ya H0 (Ya J Yr)) u.1 (Nat.lt_succ_of_lt hkp) c1 (fun _ c2 d2=>m_ (Zo (hQ _ _ _ _ J c2 (Fr.pass (Fr.pass FR a4) d2) u.2)))))))))))))) (fun j=>q_ J (f_ H3 (l_ J B0 J J (m_ (e_ (Xs J (fun o=>W.reg0 J fun _ _=>m_ ((((((h.2 c).1 e).2 i).2 j).1 o).elim fun _ b3=>b3.elim fun _ w=>Wi (Ya H0 (Ya J Yr)) w.1 (Nat.lt_succ_of_lt hkp) BP (fun _ c3 d3=>e_ (Rz hQ hkp c3 (Fr.pass FR d3) w.2)))) (fun o=>q_ J (m_ (m_ (Md H5 J (by decide) (((((h.2 c).1 e).2 i).2 j).2 o).1 ((((((h.2 c).1 e).2 i).2 j).2 o).2.elim fun _ b4=>b4.elim fun _ y=>Wi (Ya H0 (Ya J Yr)) y.1 (Nat.lt_succ_of_lt hkp) BP (fun _ c4 a5=>e_ (Zk (q_ J (f_ H3 (l_ J ((a5.1 (d,0) (Nat.lt_succ_self d) (Xn hkp)).trans B0) J J (Yo J (m_ (e_ (Yh (y.2 (Zow PG d Q Zm kp vp ends5 m0.list (m0.list.length:Int)) (fun _ _ hb _ _ _ H0 H5 H20 H21 Kv BP FR=>W.loop (Ydn hQ hkp (fun _ _ x=>x) H0 H5 H20 H21 Kv BP FR hb)) _ _ _ H0 H5 J J J c4 (Fr.pass FR a5)))))))))))))))))))))))))))))))))))))))) (fun e=>z_ 6 J (e_ (Ur J (q_ J (f_ H3 (l_ J B0 J J (b_ J J Xo (m_ (e_ (Yj J (fun k=>q_ J (m_ ((((h.2 c).2 e).1 k).elim fun _ b6=>b6.elim fun _ z=>Wi (Ya H0 (Ya J Yr)) z.1 (Nat.lt_succ_of_lt hkp) BP (fun _ c6 a6=>e_ (q_ J (m_ (f_ H3 (l_ J ((a6.1 (d,0) (Nat.lt_succ_self d) (Xn hkp)).trans B0) J J (z.2.elim fun a9 a0=>Wq J J (by decide) a0.1 (Zb.row_eq a9) J (Xk J J J (a0.2.elim fun _ b5=>b5.elim fun _ a1=>Wi (Ya H0 (Ya J Yr)) a1.1 (Nat.lt_succ_of_lt hkp) c6 (fun _ c7 d5=>m_ (Zo (hQ _ _ _ _ J c7 (Fr.pass (Fr.pass FR a6) d5) a1.2)))))))))))))) (fun k=>q_ J (f_ H3 (l_ J B0 J J (m_ (e_ (Xs J (fun p=>W.reg0 J fun _ _=>m_ (((((h.2 c).2 e).2 k).1 p).elim fun _ b7=>b7.elim fun _ a2=>Wi (Ya H0 (Ya J Yr)) a2.1 (Nat.lt_succ_of_lt hkp) BP (fun _ c9 d6=>e_ (Rz hQ hkp c9 (Fr.pass FR d6) a2.2)))) (fun p=>q_ J (m_ (m_ (Md H5 J (by decide) ((((h.2 c).2 e).2 k).2 p).1 (((((h.2 c).2 e).2 k).2 p).2.elim fun _ b9=>b9.elim fun _ a3=>Wi (Ya H0 (Ya J Yr)) a3.1 (Nat.lt_succ_of_lt hkp) BP (fun _ d0 a7=>e_ (Zk (q_ J (f_ H3 (l_ J ((a7.1 (d,0) (Nat.lt_succ_self d) (Xn hkp)).trans B0) J J (Yo J (m_ (e_ (Yh (a3.2 (Zow PG d Q Zm kp vp ends5 m0.list (m0.list.length:Int)) (fun _ _ hb _ _ _ H0 H5 H20 H21 Kv BP FR=>W.loop (Ydn hQ hkp (fun _ _ x=>x) H0 H5 H20 H21 Kv BP FR hb)) _ _ _ H0 H5 J J J d0 (Fr.pass FR a7))))))))))))))))))))))))))))))))))))))
include H0 H3 H5 H68 B0 BP FR in
theorem Wqa (h:Cu PG K ends5 t68 m0 mP):W PG d Ypo σ st (Zw 0 (Zl PG d Dy Q)):=
 Xs H68 (fun c=>q_ J (f_ H3 (l_ J B0 J J (x2 (h.1 c) fun _ _ i=>Yi (Wr J J) i.1 (m_ (x_ J J (x_ J J (m_ (m_ (e_ (q_ J (m_ (m_ (i.2.elim fun _ k=>k.elim fun _ j=>Wi (Ya H0 (Ya J Yr)) j.1 (Nat.lt_succ_of_lt hkp) BP (fun _ o p=>e_ (q_ J (m_ (m_ (Zo (hQ _ _ _ _ J o (Fr.pass FR p) j.2)))))))))))))))))))) (fun c=>q_ J (f_ H3 (l_ J B0 J J (b_ J J Xo (Yq J (Ym (g:=86) J (fun e=>Zc J (f_ H3 (Zc J (l_ J B0 J J (z_ 2 J (e_ (Yac hQ hkp H0 H3 H5 J B0 BP FR ((h.2 c).1 e)))))))) (fun e=>z_ 4 J (e_ (Yac hQ hkp H0 H3 H5 J B0 BP FR ((h.2 c).2 e))))))))))
include H0 H3 H5 H59 B0 BP FR in
theorem Xsh (h:Rp PG K ends5 t59 m0 mP):W PG d Ym0 σ st (Zw 0 (Zl PG d Dy Q)):=
 Xs H59 (fun c=>W.reg0 J fun _ _=>m_ (f_ H3 (l_ J B0 J J ((h.1 c).elim fun _ e=>Yi (Wr J J) e.1 (e.2.elim fun _ j=>j.elim fun _ i=>Wi (Ya H0 (Ya J Yr)) i.1 (Nat.lt_succ_of_lt hkp) BP (fun _ k o=>e_ (Rz hQ hkp k (Fr.pass FR o) i.2))))))) (fun c=>q_ J (f_ H3 (l_ J B0 J J (b_ J J Xo (m_ (e_ (Wqa hQ hkp H0 H3 H5 J B0 BP FR (h.2 c))))))))
include H0 H3 H5 H53 B0 BP FR in
theorem Xu6 (h:Np PG K ends5 t53 m0 mP):W PG d Ybu σ st (Zw 0 (Zl PG d Dy Q)):=
 Xs H53 (fun c=>W.reg0 J fun _ _=>m_ ((h.1 c).elim fun _ i=>i.elim fun _ e=>Wi (Ya H0 (Ya J Yr)) e.1 (Nat.lt_succ_of_lt hkp) BP (fun _ j k=>e_ (Rz hQ hkp j (Fr.pass FR k) e.2)))) (fun c=>q_ J (f_ H3 (l_ J B0 J J (b_ J J Xo (m_ (e_ (Xsh hQ hkp H0 H3 H5 J B0 BP FR (h.2 c))))))))
include H0 H3 H5 H42 B0 BP FR in
theorem Yqu (h:Mc PG K ends5 t42 m0 mP):W PG d Zw2 σ st (Zw 0 (Zl PG d Dy Q)):=
 Xs H42 (fun c=>W.reg0 J fun _ _=>m_ ((h.1 c).elim fun _ i=>i.elim fun _ e=>Wi (Ya H0 (Ya J Yr)) e.1 (Nat.lt_succ_of_lt hkp) BP (fun _ j k=>e_ (Rz hQ hkp j (Fr.pass FR k) e.2)))) (fun c=>q_ J (f_ H3 (l_ J B0 J J (b_ J J Xo (m_ (e_ (Xu6 hQ hkp H0 H3 H5 J B0 BP FR (h.2 c))))))))
include H0 H3 H5 B0 BP FR in
theorem Wg6 (h:Nx PG K ends5 m0 mP):W PG d Zvz σ st Q:=
 Zk (Yh (q_ J (f_ H3 (l_ J B0 J J (b_ J J Xo (Yq J (Ym (g:=46) J (fun c=>Zc J (f_ H3 (Zc J (l_ J B0 J J (Zc J (b_ J J Xo (z_ 2 J (e_ (Yqu hQ hkp H0 H3 H5 J B0 BP FR (h.1 c)))))))))) (fun c=>z_ 5 J (e_ (Yqu hQ hkp H0 H3 H5 J B0 BP FR (h.2 c)))))))))))
include H0 H3 B0 BP FR in
theorem Wkm (h:Zlx PG K m0 mP):W PG d Znh σ st Q:=
 q_ J (Lv (f:=AV.s) (l:=[[],[],[],[],[],([123,125]:BS),([91,93]:BS),([60,62]:BS)]) (Yn J J (Yn J J (Yn J J Xr))) J (f_ H3 (l_ J B0 J J (h.2.elim fun _ c=>Tl (f:=AV.s) J J J h.1 c.1 (m_ (e_ (Wg6 hQ hkp H0 H3 J B0 BP FR c.2)))))))
include H0 H1 BP FR in
theorem Xgm (h:Zri PG K v1 mP):W PG d (sR 0 Yne Znh) σ st Q:=
 q_ J (Vx H1 J (m_ (e_ (Wkm hQ hkp H0 J Zj (Bl.other (Xn hkp) BP) (Fr.box FR) h))))
end
theorem Xsa {PG:Za}(hf:PG.fn 104=some Pl){v1:Zb}{mP:BS}{K:Int->BS->Prop}(h:Zri PG K v1 mP):Qv PG 104 (Bl mP) [v1.av] (fun r (b_:BS)=>∃res0:Int,(r=.i .i64 res0)/\K res0 b_) (fun b_=>(Bl b_)):=
  Qv.of hf rfl (fun _=>Bl.out) fun d st kp vp hkp hB=>Xgm (Zm:=st) (Q:=fun e σ st'=>(e=.normal\/e=.ret)/\∃r b_,Xm σ st' Pl.res=some r/\_/\_/\Fr d kp st.bx st.ow st'.bx st'.ow) (fun σ st'   res0 b_ H4 hb hf hk=>⟨.inr rfl,.i .i64 res0,b_,by simp only [Pl,Xm,Vk,H4,Kp,Option.map_some,H4],⟨res0,rfl,hk⟩,hb,hf⟩) hkp (σ:=Wh [.p kp vp 0,v1.av]) rfl rfl hB Fr.refl h
abbrev Wog (Q:AE->Sl->St->Prop)(K:BS->Prop):Prop:=∀(σ:Sl)(st:St)(res0:BS),σ 2=.s res0->K res0->Q .ret σ st
section
variable {PG:Za}{d:Nat}{Q:AE->Sl->St->Prop}{K:BS->Prop}(hQ:Wog Q K){σ:Sl}{st:St}
include hQ
end
def Zvq:List AI:=[oY 2 5 0,oI 4 0,oC 5 (.b false)]
def Wq2:List AI:=[oF 15 0 2,oL 16 15,oO 17 (.build [z8,z6,zs,zl,zb] [(0,1,(.t 16))]),oO 6 (.alloc [z8,z6,zs,zl,zb]),oS 5 6 17,oI 7 0,oI 8 0]
def Wqd:List AI:=[oF 18 0 2,oL 19 18]
def Wrp:List AI:=[oW 21 .eql 19 1,oM 20 21]
def Xo6:List AI:=[oF 22 1 2,oL 23 22,oV 24 .and 23 1,oF 25 1 6,oS 1 25 24]
def Wiq:List AI:=[oW 27 .eql 19 2,oM 26 27]
def Xxh:List AI:=[oF 28 1 2,oL 29 28,oF 30 1 6,oS 1 30 29]
def Wp0:List AI:=[oW 32 .eql 19 3,oM 31 32]
def Wtd:List AI:=[oF 33 2 2,oL 34 33,oF 35 2 6,oS 1 35 34]
def Wqk:List AI:=[oW 37 .eql 19 4,oM 36 37]
def Wir:List AI:=[oF 38 4 2,oL 39 38,oF 40 4 6,oS 1 40 39,oI 7 1]
def Xgd:List AI:=[oW 42 .eql 19 5,oM 41 42]
def Xop:List AI:=[oI 7 8]
def Xlw:List AI:=[oW 44 .eql 19 6,oM 43 44]
def Wot:List AI:=[oI 7 16,oI 8 1]
def Xxn:List AI:=[oW 46 .eql 19 7,oM 45 46]
def Ws2:List AI:=[oF 47 4 2,oL 48 47,oF 49 4 6,oS 1 49 48,oI 7 16]
def Wst:List AI:=[oI 4 0,oC 5 (.b false)]
def Xoj:List AI:=[oF 50 3 2,oL 51 50,oJ 52 51,oM 9 52]
def Wl6:List AI:=[oM 53 1,oV 54 .eql 53 0,oM 55 54,gF 55 (oF 56 1 6),gF 55 (oL 57 56),gF 55 (oF 58 1 2),gF 55 (oL 59 58),gF 55 (oT 60 .neq 57 59),oR 61 55 60,oM 62 61,gF 62 (oF 63 2 6),gF 62 (oL 64 63),gF 62 (oF 65 2 2),gF 62 (oL 66 65),gF 62 (oT 67 .neq 64 66),oR 68 62 67,oM 69 68,gF 69 (oF 70 2 2),gF 69 (oL 71 70),gF 69 (oH 72 71),gF 69 (oV 73 .gtr 72 64),oR 74 69 73,oM 75 74,gF 75 (oF 76 4 6),gF 75 (oL 77 76),gF 75 (oF 78 4 2),gF 75 (oL 79 78),gF 75 (oO 80 (.beq true (.t 77) (.t 79))),oR 81 75 80,oM 82 81,gF 82 (oF 83 4 2),gF 82 (oL 84 83),gF 82 (oM 85 84),gT 85 (oM 86 9),gT 85 (oV 87 .gtr 86 0),gF 82 (oA 88 85 87),oR 89 82 88,oM 90 89,gF 90 (oM 91 9),gF 90 (oM 92 7),gF 90 (oT 93 .gtr 91 92),oR 94 90 93,oM 95 94,gF 95 (oM 96 9),gF 95 (oM 97 8),gF 95 (oT 98 .lss 96 97),oR 99 95 98]
def Xzl:List AI:=[oI 4 0,oC 5 (.b false)]
def Wdg:List AI:=[oI 10 1]
def Wku:List AI:=[oF 100 3 2,oL 101 100,oJ 102 101,oI 103 0]
def Ywg:List AI:=[oT 104 .lss 103 102]
def Xu4:List AI:=[oX 105 5 101 103,oK 106 5 105,oO 12 (.alloc [z8,z6,zs,zl,zb]),oS 5 12 106]
def Xjp:List AI:=[oK 108 5 12,oM 109 1,oV 110 .sub 109 1,oQ 111 109 [108,110],oM 107 111,oE 112 0 107,oE 113 1 107,oM 13 112,oM 14 113]
def Wb0:List AI:=[oM 114 10,oM 115 13,oT 116 .add 114 115,oM 10 116]
def Wmv:List AI:=[oM 117 14,oZ 118 117,oM 119 118,gF 119 (oM 120 10),gF 119 (oV 121 .gtr 120 5000),oR 122 119 121]
def Xd3:List AI:=[oI 4 0,oC 5 (.b false)]
def Wq7:List AI:=[oV 123 .add 103 1,oM 103 123]
def Xl9:List AI:=[oM 124 10,oM 4 124,oC 5 (.b true)]
abbrev Zcx:AC:=(sR 23 Ywg (.seq (.cond (.t 104) .skip (.exit 1)) (.seq (.block 2 (sR 24 Xu4 (sR 25 Xjp (sR 26 Wb0 (sR 27 Wmv (.cond (.t 122) (sR 28 Xd3 .ret) .skip)))))) (.reg 29 Wq7))))
abbrev Zi3:AC:=(sR 30 Xl9 .ret)
abbrev Ydf:AC:=(.seq (sR 19 Wl6 (.cond (.t 99) (sR 20 Xzl .ret) .skip)) (sR 21 Wdg (.seq (sR 22 Wku (.block 1 (.loop Zcx))) Zi3)))
abbrev Ylp:AC:=(sR 18 Xoj Ydf)
abbrev Yi1:AC:=(.seq (sR 2 Wqd (.block 0 (sR 4 Wrp (.cond (.t 20) (.reg 5 Xo6) (sR 6 Wiq (.cond (.t 26) (.reg 7 Xxh) (sR 8 Wp0 (.cond (.t 31) (.reg 9 Wtd) (sR 10 Wqk (.cond (.t 36) (.reg 11 Wir) (sR 12 Xgd (.cond (.t 41) (.reg 13 Xop) (sR 14 Xlw (.cond (.t 43) (.reg 15 Wot) (sR 16 Xxn (.cond (.t 45) (.reg 17 Ws2) (sR 3 Wst .ret))))))))))))))))) Ylp)
abbrev Zj9:AC:=(sR 1 Wq2 Yi1)
abbrev Xfz:AC:=(sR 0 Zvq Zj9)
def Zc9:AF:={ nt:=125,res:=[.tmp 4,.tmp 5],body:=Xfz }
abbrev Zu2 (PG:Za)(d:Nat)(Q:AE->Sl->St->Prop)(nest1:Int)(t101:List Zb)(t102:Int)(sum10:Int)(t103:Int):Prop:=
  ∀(σ:Sl)(st:St)(o_t101:Zn),σ 1=.i .i64 nest1->σ 10=.i .i64 sum10->σ 101=.sl o_t101 (List.map Zb.row t101)->σ 102=.i .i64 t102->σ 103=.i .i64 t103->W PG d (.loop Zcx) σ st (Zw 1 (Zl PG d Zi3 Q))
def Zrc (PG:Za)(K:Int->Bool->Prop)(sum10:Int):Prop:=
  K sum10 true
def Pj (PG:Za)(K:Int->Bool->Prop)(P0:Int->Int->Prop)(nest1:Int)(sum10:Int)(t101:List Zb)(t102:Int)(t103:Int):Prop:=
  (t103<t102->0<=t103/\∃j:Zb,t101[(t103).toNat]?=some j/\∃c e,Zf PG 109 [j.av,.i .i64 (IntKind.i64.wrap (nest1-1))] (.tup [.i .i64 c,.b e])/\((!e)=true->K 0 false)/\((!e)=false->((IntKind.i64.wrap (sum10+c))>5000->K 0 false)/\(¬((IntKind.i64.wrap (sum10+c))>5000)->P0 (IntKind.i64.wrap (sum10+c)) (IntKind.i64.wrap (t103+1)))))/\(¬(t103<t102)->Zrc PG K sum10)
def Zf9 (PG:Za)(K:Int->Bool->Prop)(nest1:Int)(most7:Int)(least8:Int)(n9:Int)(m0:Zb)(m4099:Zb):Prop:=
  (nest1=0->K 0 false)/\(¬(nest1=0)->(m4099.int≠m0.int->K 0 false)/\(¬(m4099.int≠m0.int)->(m4099.text≠m0.text->K 0 false)/\(¬(m4099.text≠m0.text)->((m0.text.length:Int)>64->K 0 false)/\(¬((m0.text.length:Int)>64)->(m4099.cut≠m0.cut->K 0 false)/\(¬(m4099.cut≠m0.cut)->(m0.cut=true->(n9>0->K 0 false)/\(¬(n9>0)->(n9>most7->K 0 false)/\(¬(n9>most7)->(n9<least8->K 0 false)/\(¬(n9<least8)->∀P0:Int->Int->Prop,(∀(sum10:Int)(t103:Int),Pj PG K P0 nest1 sum10 m0.list (m0.list.length:Int) t103->P0 sum10 t103)->P0 1 0))))/\(m0.cut=false->(n9>most7->K 0 false)/\(¬(n9>most7)->(n9<least8->K 0 false)/\(¬(n9<least8)->∀P0:Int->Int->Prop,(∀(sum10:Int)(t103:Int),Pj PG K P0 nest1 sum10 m0.list (m0.list.length:Int) t103->P0 sum10 t103)->P0 1 0))))))))
def Mg (PG:Za)(K:Int->Bool->Prop)(nest1:Int)(most7:Int)(least8:Int)(m0:Zb)(m4099:Zb):Prop:=
  Zf9 PG K nest1 most7 least8 (m0.list.length:Int) m0 m4099
def Zgt (PG:Za)(K:Int->Bool->Prop)(nest1:Int)(most7:Int)(least8:Int)(m0:Zb)(m4099:Zb):Prop:=
  (m0.kind=1->Mg PG K nest1 most7 least8 m0 (Zb.mk m4099.kind (Gl .i64 m0.int 1) m4099.text m4099.list m4099.cut))/\(¬(m0.kind=1)->(m0.kind=2->Mg PG K nest1 most7 least8 m0 (Zb.mk m4099.kind m0.int m4099.text m4099.list m4099.cut))/\(¬(m0.kind=2)->(m0.kind=3->Mg PG K nest1 most7 least8 m0 (Zb.mk m4099.kind m4099.int m0.text m4099.list m4099.cut))/\(¬(m0.kind=3)->(m0.kind=4->Mg PG K nest1 1 least8 m0 (Zb.mk m4099.kind m4099.int m4099.text m4099.list m0.cut))/\(¬(m0.kind=4)->(m0.kind=5->Mg PG K nest1 8 least8 m0 m4099)/\(¬(m0.kind=5)->(m0.kind=6->Mg PG K nest1 16 1 m0 m4099)/\(¬(m0.kind=6)->(m0.kind=7->Mg PG K nest1 16 least8 m0 (Zb.mk m4099.kind m4099.int m4099.text m4099.list m0.cut))/\(¬(m0.kind=7)->K 0 false)))))))
def Zfz (PG:Za)(K:Int->Bool->Prop)(nest1:Int)(m0:Zb):Prop:=
  Zgt PG K nest1 0 0 m0 (Zb.mk m0.kind 0 [] ([]:List Zb) false)
def Zd1 (PG:Za)(K:Int->Bool->Prop)(v0:Zb)(nest1:Int):Prop:=
  Zfz PG K nest1 v0
section
variable {PG:Za}{d:Nat}{Q:AE->Sl->St->Prop}{K:Int->Bool->Prop}(hQ:H2 (AV.i .i64) AV.b 4 5 Q K){σ:Sl}{st:St}
include hQ
variable {sum10 nest1:Int}{t101:List Zb}{t102 t103:Int}{P0:Int->Int->Prop}{o_t101:Zn}{most7 least8 n9:Int}{m0 m4099:Zb}{o_m4099_3:Zn}{v0 v4099:Nat}
variable (kP0 :∀(sum10:Int)(t103:Int),P0 sum10 t103->Zu2 PG d Q nest1 t101 t102 sum10 t103)(H1:σ 1=.i .i64 nest1)(H10:σ 10=.i .i64 sum10)(H2:σ 2=.p (d,0) v0 0)(Tg:σ 101=.sl o_t101 (List.map Zb.row t101))(H6:σ 6=.p (d,4099) v4099 0)(H102:σ 102=.i .i64 t102)(H7:σ 7=.i .i64 most7)(H103:σ 103=.i .i64 t103)(H8:σ 8=.i .i64 least8)(H9:σ 9=.i .i64 n9)(Ab4099:Xe d st.ow o_m4099_3 m4099.list.length)(B0:lk st.bx (d,0)=some (v0,Zb.cs m0))(B4099:lk st.bx (d,4099)=some (v4099,[.i .u8 m4099.kind,.i .i64 m4099.int,.s m4099.text,.sl o_m4099_3 (List.map Zb.row m4099.list),.b m4099.cut]))
include H10 in
theorem Xqo (h:Zrc PG K sum10):W PG d Zi3 σ st Q:=
 au trivial
include kP0 H1 H10 Tg H102 H103 in
theorem Yg1 (h:Pj PG K P0 nest1 sum10 t101 t102 t103):W PG d Zcx σ st (Zl PG d (.loop Zcx) (Zw 1 (Zl PG d Zi3 Q))):=
 au @Xqo
include H1 H2 H6 H7 H8 H9 Ab4099 B0 B4099 in
theorem Xzr (h:Zf9 PG K nest1 most7 least8 n9 m0 m4099):W PG d Ydf σ st Q:=
 Zk (q_ J (Xa H1 (b_ J J Xo (Yq J (Ym (g:=55) J (fun c=>z_ 30 J (Xj J (Xj J (z_ 12 J (e_ (Yl J (q_ J (m_ (m_ (Zo (hQ J J (h.1 c)))))))))))) (fun c=>Zc J (f_ H6 (Zc J (l_ J B4099 J J (Zc J (f_ H2 (Zc J (l_ J B0 J J (Zc J (b_ J J Ws (z_ 2 J (Ym (g:=62) J (fun e=>z_ 23 J (Xj J (Xj J (z_ 12 J (e_ (Yl J (q_ J (m_ (m_ (Zo (hQ J J ((h.2 c).1 e)))))))))))) (fun e=>Zc J (f_ H6 (Zc J (l_ J B4099 J J (Zc J (f_ H2 (Zc J (l_ J B0 J J (Zc J (b_ J J By (z_ 2 J (Ym (g:=69) J (fun i=>z_ 16 J (Xj J (Xj J (z_ 12 J (e_ (Yl J (q_ J (m_ (m_ (Zo (hQ J J (((h.2 c).2 e).1 i)))))))))))) (fun i=>Zc J (f_ H2 (Zc J (l_ J B0 J J (Zc J (Dl J (Zc J (b_ J J Vt (z_ 2 J (Ym (g:=75) J (fun j=>z_ 10 J (Xj J (Xj J (z_ 12 J (e_ (Yl J (q_ J (m_ (m_ (Zo (hQ J J ((((h.2 c).2 e).2 i).1 j)))))))))))) (fun j=>Zc J (f_ H6 (Zc J (l_ J B4099 J J (Zc J (f_ H2 (Zc J (l_ J B0 J J (Zc J (Ztc J J (z_ 2 J (Ym (g:=82) J (fun k=>z_ 3 J (Xj J (Xj J (z_ 12 J (e_ (Yl J (q_ J (m_ (m_ (Zo (hQ J J (((((h.2 c).2 e).2 i).2 j).1 k)))))))))))) (fun k=>Zc J (f_ H2 (Zc J (l_ J B0 J J (Zc J (Yq J (Kt (g:=85) J (fun o=>Zc J (Xa H9 (Zc J (b_ J J Vt (Zc J (z_ 3 J (Ym (g:=90) J (fun p=>z_ 9 J (e_ (Yl J (q_ J (m_ (m_ (Zo (hQ J J (((((((h.2 c).2 e).2 i).2 j).2 k).1 o).1 p))))))))) (fun p=>Zc J (Xa H9 (Zc J (Xa H7 (Zc J (b_ J J Vt (z_ 2 J (Ym (g:=95) J (fun r=>z_ 4 J (e_ (Yl J (q_ J (m_ (m_ (Zo (hQ J J ((((((((h.2 c).2 e).2 i).2 j).2 k).1 o).2 p).1 r))))))))) (fun r=>Zc J (Xa H9 (Zc J (Xa H8 (Zc J (b_ J J Wn (Vf J J (e_ (Yj J (fun u=>q_ J (m_ (m_ (Zo (hQ J J (((((((((h.2 c).2 e).2 i).2 j).2 k).1 o).2 p).2 r).1 u)))))) (fun u=>Yc (q_ J (m_ (e_ (Zk (q_ J (f_ H2 (l_ J B0 J J (Yo J (m_ (e_ (Yh ((((((((((h.2 c).2 e).2 i).2 j).2 k).1 o).2 p).2 r).2 u) (Zu2 PG d Q nest1 m0.list (m0.list.length:Int)) (fun _ _ hb _ _ _ H1 H10 Tg H102 H103=>W.loop (Yg1 hQ (fun _ _ x=>x) H1 H10 Tg H102 H103 hb)) _ _ _ H1 J J J J))))))))))))))))))))))))))))))))))))) (fun o=>z_ 2 J (Zc J (z_ 3 J (Zc J (Xa H9 (Zc J (Xa H7 (Zc J (b_ J J Vt (z_ 2 J (Ym (g:=95) J (fun q=>z_ 4 J (e_ (Yl J (q_ J (m_ (m_ (Zo (hQ J J (((((((h.2 c).2 e).2 i).2 j).2 k).2 o).1 q))))))))) (fun q=>Zc J (Xa H9 (Zc J (Xa H8 (Zc J (b_ J J Wn (Vf J J (e_ (Yj J (fun s=>q_ J (m_ (m_ (Zo (hQ J J ((((((((h.2 c).2 e).2 i).2 j).2 k).2 o).2 q).1 s)))))) (fun s=>Yc (q_ J (m_ (e_ (Zk (q_ J (f_ H2 (l_ J B0 J J (Yo J (m_ (e_ (Yh (((((((((h.2 c).2 e).2 i).2 j).2 k).2 o).2 q).2 s) (Zu2 PG d Q nest1 m0.list (m0.list.length:Int)) (fun _ _ hb _ _ _ H1 H10 Tg H102 H103=>W.loop (Yg1 hQ (fun _ _ x=>x) H1 H10 Tg H102 H103 hb)) _ _ _ H1 J J J J)))))))))))))))))))))))))))))))))))))))))))))))))))))))))))))))))))))))))))))))))))))))))))
include H1 H2 H6 H7 H8 Ab4099 B0 B4099 in
theorem Su (h:Mg PG K nest1 most7 least8 m0 m4099):W PG d Ylp σ st Q:=
 au @Xzr
include H1 H2 H6 H7 H8 Ab4099 B0 B4099 in
theorem Xhx (h:Zgt PG K nest1 most7 least8 m0 m4099):W PG d Yi1 σ st Q:=
 Zk (q_ J (f_ H2 (l_ J B0 J J (e_ (Yh (q_ J (b_ J J Xo (m_ (e_ (Yj J (fun c=>W.reg0 J fun _ _=>f_ H2 (l_ J B0 J J (b_ J J (Zev _ _ _) (f_ H6 (Ye J B4099 J J J (e_ (Su (m4099:=(Zb.mk m4099.kind (Gl .i64 m0.int 1) m4099.text m4099.list m4099.cut)) hQ H1 H2 H6 H7 H8 Ab4099 (Zs J B0) Zj (h.1 c)))))))) (fun c=>q_ J (b_ J J Xo (m_ (e_ (Yj J (fun e=>W.reg0 J fun _ _=>f_ H2 (l_ J B0 J J (f_ H6 (Ye J B4099 J J J (e_ (Su (m4099:=(Zb.mk m4099.kind m0.int m4099.text m4099.list m4099.cut)) hQ H1 H2 H6 H7 H8 Ab4099 (Zs J B0) Zj ((h.2 c).1 e))))))) (fun e=>q_ J (b_ J J Xo (m_ (e_ (Yj J (fun i=>W.reg0 J fun _ _=>f_ H2 (l_ J B0 J J (f_ H6 (Ye J B4099 J J J (e_ (Su (m4099:=(Zb.mk m4099.kind m4099.int m0.text m4099.list m4099.cut)) hQ H1 H2 H6 H7 H8 Ab4099 (Zs J B0) Zj (((h.2 c).2 e).1 i))))))) (fun i=>q_ J (b_ J J Xo (m_ (e_ (Yj J (fun j=>W.reg0 J fun _ _=>f_ H2 (l_ J B0 J J (f_ H6 (Ye J B4099 J J J (m_ (e_ (Su (m4099:=(Zb.mk m4099.kind m4099.int m4099.text m4099.list m0.cut)) hQ H1 H2 H6 J H8 Ab4099 (Zs J B0) Zj ((((h.2 c).2 e).2 i).1 j)))))))) (fun j=>q_ J (b_ J J Xo (m_ (e_ (Yj J (fun k=>W.reg0 J fun _ _=>m_ (e_ (Su hQ H1 H2 H6 J H8 Ab4099 B0 B4099 (((((h.2 c).2 e).2 i).2 j).1 k)))) (fun k=>q_ J (b_ J J Xo (m_ (e_ (Yj J (fun o=>W.reg0 J fun _ _=>m_ (m_ (e_ (Su hQ H1 H2 H6 J J Ab4099 B0 B4099 ((((((h.2 c).2 e).2 i).2 j).2 k).1 o))))) (fun o=>q_ J (b_ J J Xo (m_ (e_ (Yj J (fun p=>W.reg0 J fun _ _=>f_ H2 (l_ J B0 J J (f_ H6 (Ye J B4099 J J J (m_ (e_ (Su (m4099:=(Zb.mk m4099.kind m4099.int m4099.text m4099.list m0.cut)) hQ H1 H2 H6 J H8 Ab4099 (Zs J B0) Zj (((((((h.2 c).2 e).2 i).2 j).2 k).2 o).1 p)))))))) (fun p=>q_ J (m_ (m_ (Zo (hQ J J (((((((h.2 c).2 e).2 i).2 j).2 k).2 o).2 p))))))))))))))))))))))))))))))))))))))))))))))
include H1 H2 B0 in
theorem Wds (h:Zfz PG K nest1 m0):W PG d Zj9 σ st Q:=
 Zk (W.reg (f_ H2 (l_ J (Zs J B0) J J (Wb (Yn J J Xr) (Xy (Ye J (show lk _ (d,4099)=some (_,([.i .u8 0,.i .i64 0,.s [],.sl .full (List.map Zb.row ([]:List Zb)),.b false]:List AV)) from Zj) J J J (m_ (m_ (e_ (Xhx (m4099:=(Zb.mk m0.kind 0 [] ([]:List Zb) false)) hQ H1 H2 J J J Xe.full (Zs J (Zs J B0)) Zj h))))))))))
theorem Xle {v0:Zb}{nest1:Int}(H0:σ 0=v0.av)(H1:σ 1=.i .i64 nest1)(h:Zd1 PG K v0 nest1):W PG d (sR 0 Zvq Zj9) σ st Q:=
 au @Wds
end
theorem Zym {PG:Za}(hf:PG.fn 109=some Zc9){v0:Zb}{nest1:Int}{K:Int->Bool->Prop}(h:Zd1 PG K v0 nest1) :∃res0:Int,∃res1:Bool,K res0 res1/\Zf PG 109 [v0.av,.i .i64 nest1] (.tup [.i .i64 res0,.b res1]):=
 P2 hf J (Xle (h2 J fun _ _=>J) J J h)
def Ynz:List AI:=[oY 2 5 0,oC 4 (.b false)]
def Xrp:List AI:=[oM 7 1,oV 8 .eql 7 0]
def Xky:List AI:=[oC 4 (.b false)]
def Wcw:List AI:=[oF 9 0 2,oL 10 9]
def Ws6:List AI:=[oW 12 .eql 10 1,oM 11 12]
def Yvw:List AI:=[oK 13 5 2,oQ 14 136 [13],oM 15 14,gT 15 (oF 16 2 2),gT 15 (oL 17 16),gT 15 (oB 18 .eql (.t 17) (.c (.s []))),oA 19 15 18,oM 20 19,gT 20 (oF 21 1 2),gT 20 (oL 22 21),gT 20 (oV 23 .eql 22 0),gT 20 (oM 24 23),gF 24 (oF 25 1 2),gF 24 (oL 26 25),gF 24 (oV 27 .eql 26 1),gT 20 (oR 28 24 27),oA 29 20 28,oM 4 29]
def Wao:List AI:=[oW 31 .eql 10 2,oM 30 31]
def Xyq:List AI:=[oK 32 5 2,oQ 33 136 [32],oM 34 33,gT 34 (oF 35 2 2),gT 34 (oL 36 35),gT 34 (oB 37 .eql (.t 36) (.c (.s []))),oA 38 34 37,oM 4 38]
def Yxv:List AI:=[oW 40 .eql 10 3,oM 39 40]
def Xko:List AI:=[oK 41 5 2,oQ 42 136 [41],oM 43 42,gT 43 (oF 44 1 2),gT 43 (oL 45 44),gT 43 (oV 46 .eql 45 0),oA 47 43 46,oM 48 47,gT 48 (oF 49 2 2),gT 48 (oL 50 49),gT 48 (oH 51 50),gT 48 (oV 52 .leq 51 64),oA 53 48 52,oM 4 53]
def Wfg:List AI:=[oF 54 0 2,oL 55 54,oW 56 .lss 55 4,oM 57 56,gF 57 (oF 58 0 2),gF 57 (oL 59 58),gF 57 (oW 60 .gtr 59 7),oR 61 57 60,oM 62 61,gF 62 (oF 63 1 2),gF 62 (oL 64 63),gF 62 (oV 65 .neq 64 0),oR 66 62 65,oM 67 66,gF 67 (oF 68 2 2),gF 67 (oL 69 68),gF 67 (oB 70 .neq (.t 69) (.c (.s []))),oR 71 67 70]
def Xl6:List AI:=[oC 4 (.b false)]
def Wpi:List AI:=[oI 5 16]
def Yvs:List AI:=[oF 72 0 2,oL 73 72,oW 74 .eql 73 4]
def Xd1:List AI:=[oI 5 1]
def Wq8:List AI:=[oF 75 0 2,oL 76 75,oW 77 .eql 76 5]
def Xzk:List AI:=[oI 5 8]
def Wj9:List AI:=[oF 78 3 2,oL 79 78,oJ 80 79,oM 81 5,oT 82 .gtr 80 81,oM 83 82,gF 83 (oF 84 0 2),gF 83 (oL 85 84),gF 83 (oW 86 .eql 85 6),gF 83 (oM 87 86),gT 87 (oF 88 3 2),gT 87 (oL 89 88),gT 87 (oJ 90 89),gT 87 (oV 91 .eql 90 0),gF 83 (oA 92 87 91),oR 93 83 92]
def Wso:List AI:=[oC 4 (.b false)]
def Xqs:List AI:=[oF 94 4 2,oL 95 94,oM 96 95,gT 96 (oF 97 3 2),gT 96 (oL 98 97),gT 96 (oJ 99 98),gT 96 (oV 100 .gtr 99 0),gT 96 (oM 101 100),gF 101 (oF 102 0 2),gF 101 (oL 103 102),gF 101 (oW 104 .neq 103 4),gF 101 (oM 105 104),gT 105 (oF 106 0 2),gT 105 (oL 107 106),gT 105 (oW 108 .neq 107 7),gF 101 (oA 109 105 108),gT 96 (oR 110 101 109),oA 111 96 110]
def Whg:List AI:=[oC 4 (.b false)]
def Wmm:List AI:=[oI 6 0]
def Yuf:List AI:=[oM 112 6,oF 113 3 2,oL 114 113,oJ 115 114,oT 116 .lss 112 115]
def Wob:List AI:=[oF 119 3 2,oL 120 119,oM 121 6,oX 122 5 120 121,oK 123 5 122,oM 124 1,oV 125 .sub 124 1,oQ 126 110 [123,125],oZ 127 126]
def Yzm:List AI:=[oC 4 (.b false)]
def Xhe:List AI:=[oM 117 6,oV 118 .add 117 1,oM 6 118]
def Wrf:List AI:=[oC 4 (.b true)]
abbrev Zig:AC:=(.seq (sR 22 Yuf (.cond (.t 116) .skip (.exit 1))) (.seq (.block 2 (sR 24 Wob (.cond (.t 127) (sR 25 Yzm .ret) .skip))) (.reg 23 Xhe)))
abbrev Zi0:AC:=(sR 26 Wrf .ret)
abbrev Yl8:AC:=(.seq (sR 17 Wj9 (.cond (.t 93) (sR 18 Wso .ret) .skip)) (.seq (sR 19 Xqs (.cond (.t 111) (sR 20 Whg .ret) .skip)) (.seq (sR 21 Wmm (.block 1 (.loop Zig))) Zi0)))
abbrev Ykm:AC:=(.seq (sR 15 Wq8 (.cond (.t 77) (.reg 16 Xzk) .skip)) Yl8)
abbrev Ygo:AC:=(.seq (sR 13 Yvs (.cond (.t 74) (.reg 14 Xd1) .skip)) Ykm)
abbrev Yra:AC:=(sR 12 Wpi Ygo)
abbrev Yjl:AC:=(.seq (sR 10 Wfg (.cond (.t 71) (sR 11 Xl6 .ret) .skip)) Yra)
abbrev Zyn:AC:=(.seq (sR 3 Wcw (.block 0 (sR 4 Ws6 (.cond (.t 11) (sR 5 Yvw .ret) (sR 6 Wao (.cond (.t 30) (sR 7 Xyq .ret) (sR 8 Yxv (.cond (.t 39) (sR 9 Xko .ret) .skip)))))))) Yjl)
abbrev Zn1:AC:=(.seq (sR 1 Xrp (.cond (.t 8) (sR 2 Xky .ret) .skip)) Zyn)
abbrev Xnv:AC:=(sR 0 Ynz Zn1)
def Zfg:AF:={ nt:=128,res:=[.tmp 4],body:=Xnv }
abbrev Ty (PG:Za)(d:Nat)(Q:AE->Sl->St->Prop)(deep1:Int)(i6:Int)(m0:Zb):Prop:=
  ∀(σ:Sl)(st:St)(v0:Nat),σ 1=.i .i64 deep1->σ 2=.p (d,0) v0 0->σ 6=.i .i64 i6->lk st.bx (d,0)=some (v0,Zb.cs m0)->W PG d (.loop Zig) σ st (Zw 1 (Zl PG d Zi0 Q))
def Zkw (PG:Za)(K:Bool->Prop) :Prop:=
  K true
def Mh (PG:Za)(K:Bool->Prop)(P0:Int->Zb->Prop)(deep1:Int)(i6:Int)(m0:Zb):Prop:=
  (i6<(m0.list.length:Int)->0<=i6/\∃e:Zb,m0.list[(i6).toNat]?=some e/\∃c,Zf PG 110 [e.av,.i .i64 (IntKind.i64.wrap (deep1-1))] (.b c)/\((!c)=true->K false)/\((!c)=false->P0 (IntKind.i64.wrap (i6+1)) m0))/\(¬(i6<(m0.list.length:Int))->Zkw PG K )
def Zgw (PG:Za)(K:Bool->Prop)(deep1:Int)(most5:Int)(m0:Zb):Prop:=
  ((m0.list.length:Int)>most5->K false)/\(¬((m0.list.length:Int)>most5)->(m0.kind=6->((m0.list.length:Int)=0->K false)/\(¬((m0.list.length:Int)=0)->(m0.cut=true->((m0.list.length:Int)>0->K false)/\(¬((m0.list.length:Int)>0)->(m0.kind≠4->(m0.kind≠7->K false)/\(¬(m0.kind≠7)->∀P0:Int->Zb->Prop,(∀(i6:Int)(m0:Zb),Mh PG K P0 deep1 i6 m0->P0 i6 m0)->P0 0 m0))/\(¬(m0.kind≠4)->∀P0:Int->Zb->Prop,(∀(i6:Int)(m0:Zb),Mh PG K P0 deep1 i6 m0->P0 i6 m0)->P0 0 m0)))/\(m0.cut=false->∀P0:Int->Zb->Prop,(∀(i6:Int)(m0:Zb),Mh PG K P0 deep1 i6 m0->P0 i6 m0)->P0 0 m0)))/\(¬(m0.kind=6)->(m0.cut=true->((m0.list.length:Int)>0->K false)/\(¬((m0.list.length:Int)>0)->(m0.kind≠4->(m0.kind≠7->K false)/\(¬(m0.kind≠7)->∀P0:Int->Zb->Prop,(∀(i6:Int)(m0:Zb),Mh PG K P0 deep1 i6 m0->P0 i6 m0)->P0 0 m0))/\(¬(m0.kind≠4)->∀P0:Int->Zb->Prop,(∀(i6:Int)(m0:Zb),Mh PG K P0 deep1 i6 m0->P0 i6 m0)->P0 0 m0)))/\(m0.cut=false->∀P0:Int->Zb->Prop,(∀(i6:Int)(m0:Zb),Mh PG K P0 deep1 i6 m0->P0 i6 m0)->P0 0 m0)))
def Ze7 (PG:Za)(K:Bool->Prop)(deep1:Int)(most5:Int)(m0:Zb):Prop:=
  (m0.kind=5->Zgw PG K deep1 8 m0)/\(¬(m0.kind=5)->Zgw PG K deep1 most5 m0)
def Zo5 (PG:Za)(K:Bool->Prop)(deep1:Int)(most5:Int)(m0:Zb):Prop:=
  (m0.kind=4->Ze7 PG K deep1 1 m0)/\(¬(m0.kind=4)->Ze7 PG K deep1 most5 m0)
def Zl9 (PG:Za)(K:Bool->Prop)(deep1:Int)(m0:Zb):Prop:=
  Zo5 PG K deep1 16 m0
def Zp3 (PG:Za)(K:Bool->Prop)(deep1:Int)(m0:Zb):Prop:=
  (m0.kind<4->K false)/\(¬(m0.kind<4)->(m0.kind>7->K false)/\(¬(m0.kind>7)->(m0.int≠0->K false)/\(¬(m0.int≠0)->(m0.text≠([]:BS)->K false)/\(¬(m0.text≠([]:BS))->Zl9 PG K deep1 m0))))
def Zqu (PG:Za)(K:Bool->Prop)(deep1:Int)(m0:Zb):Prop:=
  (m0.kind=1->∃c,Zf PG 136 [m0.av] (.b c)/\(c=true->(m0.text=([]:BS)->(m0.int=0->K true)/\(¬(m0.int=0)->K (decide (m0.int=1))))/\(¬(m0.text=([]:BS))->K false))/\(c=false->K false))/\(¬(m0.kind=1)->(m0.kind=2->∃e,Zf PG 136 [m0.av] (.b e)/\(e=true->K (decide (m0.text=([]:BS))))/\(e=false->K false))/\(¬(m0.kind=2)->(m0.kind=3->∃i,Zf PG 136 [m0.av] (.b i)/\(i=true->(m0.int=0->K (decide ((m0.text.length:Int)<=64)))/\(¬(m0.int=0)->K false))/\(i=false->K false))/\(¬(m0.kind=3)->Zp3 PG K deep1 m0)))
def Zha (PG:Za)(K:Bool->Prop)(deep1:Int)(m0:Zb):Prop:=
  (deep1=0->K false)/\(¬(deep1=0)->Zqu PG K deep1 m0)
def Zed (PG:Za)(K:Bool->Prop)(v0:Zb)(deep1:Int):Prop:=
  Zha PG K deep1 v0
section
variable {PG:Za}{d:Nat}{Q:AE->Sl->St->Prop}{K:Bool->Prop}(hQ:H1 AV.b 4 Q K){σ:Sl}{st:St}
include hQ
variable {deep1 i6:Int}{m0:Zb}{P0:Int->Zb->Prop}{v0:Nat}{most5:Int}
variable (kP0 :∀(i6:Int)(m0:Zb),P0 i6 m0->Ty PG d Q deep1 i6 m0)(H1:σ 1=.i .i64 deep1)(H2:σ 2=.p (d,0) v0 0)(H6:σ 6=.i .i64 i6)(H5:σ 5=.i .i64 most5)(B0:lk st.bx (d,0)=some (v0,Zb.cs m0))
theorem Wkv (h:Zkw PG K ):W PG d Zi0 σ st Q:=
 au trivial
include kP0 H1 H2 H6 B0 in
theorem Ls (h:Mh PG K P0 deep1 i6 m0):W PG d Zig σ st (Zl PG d (.loop Zig) (Zw 1 (Zl PG d Zi0 Q))):=
 au @Wkv
include H1 H2 H5 B0 in
theorem Xkc (h:Zgw PG K deep1 most5 m0):W PG d Yl8 σ st Q:=
 Zk (q_ J (f_ H2 (l_ J B0 J J (Yo J (Xa H5 (b_ J J Vt (Yq J (Ym (g:=83) J (fun c=>z_ 4 J (Xj J (Xj J (Xj J (Xj J (z_ 2 J (e_ (Yl J (q_ J (m_ (Zo (hQ J (h.1 c))))))))))))) (fun c=>Zc J (f_ H2 (Zc J (l_ J B0 J J (Zc J (b_ J J Xo (Zc J (Yq J (Ym (g:=87) J (fun e=>Zc J (f_ H2 (Zc J (l_ J B0 J J (Zc J (Yo J (Zc J (b_ J J Xo (Zc J (z_ 2 J (e_ (Yj J (fun i=>q_ J (m_ (Zo (hQ J (((h.2 c).1 e).1 i))))) (fun i=>Yc (Zk (q_ J (f_ H2 (l_ J B0 J J (Yq J (Kt (g:=96) J (fun j=>Zc J (f_ H2 (Zc J (l_ J B0 J J (Zc J (Yo J (Zc J (b_ J J Vt (Zc J (Yq J (Ym (g:=101) J (fun o=>z_ 4 J (Xj J (Xj J (Xj J (nT J (Zc J (z_ 2 J (e_ (Yl J (q_ J (m_ (Zo (hQ J (((((h.2 c).1 e).2 i).1 j).1 o)))))))))))))) (fun o=>Zc J (f_ H2 (Zc J (l_ J B0 J J (Zc J (b_ J J Ws (Zc J (Yq J (Ym (g:=105) J (fun r=>Zc J (f_ H2 (Zc J (l_ J B0 J J (Zc J (b_ J J Ws (Zc J (Hr J J (Zc J (z_ 2 J (e_ (Yj J (fun u=>q_ J (m_ (Zo (hQ J (((((((h.2 c).1 e).2 i).1 j).2 o).1 r).1 u))))) (fun u=>Yc (Zk (q_ J (m_ (e_ (Yh ((((((((h.2 c).1 e).2 i).1 j).2 o).1 r).2 u) (Ty PG d Q deep1) (fun _ _ hb _ _ _ H1 H2 H6 B0=>W.loop (Ls hQ (fun _ _ x=>x) H1 H2 H6 B0 hb)) _ _ _ H1 H2 J B0))))))))))))))))))) (fun r=>z_ 3 J (Zc J (Vf J J (Zc J (z_ 2 J (e_ (Ur J (Yc (Zk (q_ J (m_ (e_ (Yh (((((((h.2 c).1 e).2 i).1 j).2 o).2 r) (Ty PG d Q deep1) (fun _ _ hb _ _ _ H1 H2 H6 B0=>W.loop (Ls hQ (fun _ _ x=>x) H1 H2 H6 B0 hb)) _ _ _ H1 H2 J B0)))))))))))))))))))))))))))))))))) (fun j=>z_ 5 J (Xj J (Xj J (Xj J (Xj J (Xj J (Xj J (Xj J (Xj J (z_ 2 J (e_ (Ur J (Yc (Zk (q_ J (m_ (e_ (Yh (((((h.2 c).1 e).2 i).2 j) (Ty PG d Q deep1) (fun _ _ hb _ _ _ H1 H2 H6 B0=>W.loop (Ls hQ (fun _ _ x=>x) H1 H2 H6 B0 hb)) _ _ _ H1 H2 J B0)))))))))))))))))))))))))))))))))))))) (fun e=>z_ 4 J (Zc J (z_ 2 J (e_ (Ur J (Yc (Zk (q_ J (f_ H2 (l_ J B0 J J (Yq J (Kt (g:=96) J (fun k=>Zc J (f_ H2 (Zc J (l_ J B0 J J (Zc J (Yo J (Zc J (b_ J J Vt (Zc J (Yq J (Ym (g:=101) J (fun p=>z_ 4 J (Xj J (Xj J (Xj J (nT J (Zc J (z_ 2 J (e_ (Yl J (q_ J (m_ (Zo (hQ J ((((h.2 c).2 e).1 k).1 p)))))))))))))) (fun p=>Zc J (f_ H2 (Zc J (l_ J B0 J J (Zc J (b_ J J Ws (Zc J (Yq J (Ym (g:=105) J (fun q=>Zc J (f_ H2 (Zc J (l_ J B0 J J (Zc J (b_ J J Ws (Zc J (Hr J J (Zc J (z_ 2 J (e_ (Yj J (fun s=>q_ J (m_ (Zo (hQ J ((((((h.2 c).2 e).1 k).2 p).1 q).1 s))))) (fun s=>Yc (Zk (q_ J (m_ (e_ (Yh (((((((h.2 c).2 e).1 k).2 p).1 q).2 s) (Ty PG d Q deep1) (fun _ _ hb _ _ _ H1 H2 H6 B0=>W.loop (Ls hQ (fun _ _ x=>x) H1 H2 H6 B0 hb)) _ _ _ H1 H2 J B0))))))))))))))))))) (fun q=>z_ 3 J (Zc J (Vf J J (Zc J (z_ 2 J (e_ (Ur J (Yc (Zk (q_ J (m_ (e_ (Yh ((((((h.2 c).2 e).1 k).2 p).2 q) (Ty PG d Q deep1) (fun _ _ hb _ _ _ H1 H2 H6 B0=>W.loop (Ls hQ (fun _ _ x=>x) H1 H2 H6 B0 hb)) _ _ _ H1 H2 J B0)))))))))))))))))))))))))))))))))) (fun k=>z_ 5 J (Xj J (Xj J (Xj J (Xj J (Xj J (Xj J (Xj J (Xj J (z_ 2 J (e_ (Ur J (Yc (Zk (q_ J (m_ (e_ (Yh ((((h.2 c).2 e).2 k) (Ty PG d Q deep1) (fun _ _ hb _ _ _ H1 H2 H6 B0=>W.loop (Ls hQ (fun _ _ x=>x) H1 H2 H6 B0 hb)) _ _ _ H1 H2 J B0))))))))))))))))))))))))))))))))))))))))))))))))
include H1 H2 H5 B0 in
theorem Wgk (h:Ze7 PG K deep1 most5 m0):W PG d Ykm σ st Q:=
 au @Xkc
include H1 H2 H5 B0 in
theorem Xre (h:Zo5 PG K deep1 most5 m0):W PG d Ygo σ st Q:=
 au @Wgk
include H1 H2 B0 in
theorem Xxq (h:Zl9 PG K deep1 m0):W PG d Yra σ st Q:=
 au @Xre
include H1 H2 B0 in
theorem Yys (h:Zp3 PG K deep1 m0):W PG d Yjl σ st Q:=
 Zk (q_ J (f_ H2 (l_ J B0 J J (b_ J J Wn (Yq J (Ym (g:=57) J (fun c=>z_ 14 J (e_ (Yl J (q_ J (m_ (Zo (hQ J (h.1 c)))))))) (fun c=>Zc J (f_ H2 (Zc J (l_ J B0 J J (Zc J (b_ J J Vt (z_ 2 J (Ym (g:=62) J (fun e=>z_ 9 J (e_ (Yl J (q_ J (m_ (Zo (hQ J ((h.2 c).1 e)))))))) (fun e=>Zc J (f_ H2 (Zc J (l_ J B0 J J (Zc J (b_ J J Ws (z_ 2 J (Ym (g:=67) J (fun i=>z_ 4 J (e_ (Yl J (q_ J (m_ (Zo (hQ J (((h.2 c).2 e).1 i)))))))) (fun i=>Zc J (f_ H2 (Zc J (l_ J B0 J J (Zc J (b_ J J By (Vf J J (e_ (Yj J (fun j=>q_ J (m_ (Zo (hQ J ((((h.2 c).2 e).2 i).1 j))))) (fun j=>Yc (Xxq hQ H1 H2 B0 ((((h.2 c).2 e).2 i).2 j))))))))))))))))))))))))))))))))))
include H1 H2 B0 in
theorem Ywh (h:Zqu PG K deep1 m0):W PG d Zyn σ st Q:=
 au @Yys
include H1 H2 B0 in
theorem Wlt (h:Zha PG K deep1 m0):W PG d Zn1 σ st Q:=
 au @Ywh
theorem Wjr {v0:Zb}{deep1:Int}(H0:σ 0=v0.av)(H1:σ 1=.i .i64 deep1)(h:Zed PG K v0 deep1):W PG d (sR 0 Ynz Zn1) σ st Q:=
 au @Wlt
end
theorem Ycj {PG:Za}(hf:PG.fn 110=some Zfg){v0:Zb}{deep1:Int}{K:Bool->Prop}(h:Zed PG K v0 deep1) :∃res0:Bool,K res0/\Zf PG 110 [v0.av,.i .i64 deep1] (.b res0):=
 P1 hf J (Wjr (h1 J fun _=>J) J J h)
abbrev Xmn (Q:AE->Sl->St->Prop)(K:BS->Prop):Prop:=∀(σ:Sl)(st:St)(res0:BS),σ 2=.s res0->K res0->Q .ret σ st
section
variable {PG:Za}{d:Nat}{Q:AE->Sl->St->Prop}{K:BS->Prop}(hQ:Xmn Q K){σ:Sl}{st:St}
include hQ
end
def Yns:List AI:=[oY 1 5 0,oC 2 (.b false)]
def Yea:List AI:=[oF 3 3 1,oL 4 3,oJ 5 4,oV 6 .eql 5 0,oM 7 6,gT 7 (oF 8 4 1),gT 7 (oL 9 8),gT 7 (oZ 10 9),oA 11 7 10,oM 2 11]
abbrev Wmc:AC:=(sR 0 Yns (sR 1 Yea .ret))
def Zdz:AF:={ nt:=12,res:=[.tmp 2],body:=Wmc }
def Znp (PG:Za)(K:Bool->Prop)(v0:Zb):Prop:=
  ((v0.list.length:Int)=0->K (!v0.cut))/\(¬((v0.list.length:Int)=0)->K false)
section
variable {PG:Za}{d:Nat}{Q:AE->Sl->St->Prop}{K:Bool->Prop}(hQ:H1 AV.b 2 Q K){σ:Sl}{st:St}
include hQ
variable {v0:Zb}
variable (H0:σ 0=v0.av)
include H0 in
theorem Xoh (h:Znp PG K v0):W PG d (sR 0 Yns (sR 1 Yea .ret)) σ st Q:=
 au trivial
end
theorem Wlb {PG:Za}(hf:PG.fn 136=some Zdz){v0:Zb}{K:Bool->Prop}(h:Znp PG K v0) :∃res0:Bool,K res0/\Zf PG 136 [v0.av] (.b res0):=
 P1 hf J (Xoh (h1 J fun _=>J) J h)
end Go.AM

/- Yg of the proof. -/
namespace Go.AM
open Go
set_option linter.unusedVariables false
set_option linter.unusedSimpArgs false
set_option maxRecDepth 4000
set_option maxHeartbeats 2000000
attribute [local irreducible] Decidable.decide W WO Ww Wx
def Ylq:List AI:=[oC 4 (.b false)]
def Yol:List AI:=[oM 8 0,oN 9 8,oF 10 0 9,oL 11 10,oM 12 1,oQ 13 36 [11,12],oM 7 13,oE 14 0 7,oE 15 1 7,oM 5 14,oM 6 15]
def Yiu:List AI:=[oM 16 0,oM 17 5,oN 18 16,oF 19 0 18,oS 1 19 17]
def Zx6:List AI:=[oM 20 6,oM 4 20]
abbrev Xi7:AC:=(sR 0 Ylq (sR 1 Yol (sR 2 Yiu (sR 3 Zx6 .ret))))
def Fa:AF:={ nt:=21,res:=[.tmp 4],body:=Xi7 }
abbrev Yyb (d:Nat)(Zm:St)(kp:Zq)(vp:Nat)(Q:AE->Sl->St->Prop)(K:Bool->Sc->Prop):Prop:=∀(σ:Sl)(st:St)(res0:Bool)(b_:Sc),σ 4=.b res0->lk st.bx kp=some (vp,[.s b_.left])->Fr d kp Zm.bx Zm.ow st.bx st.ow->K res0 b_->Q .ret σ st
def Zml (PG:Za)(K:Bool->Sc->Prop)(what1:BS)(mP:Sc):Prop:=
  ∃e c,Zf PG 36 [.s mP.left,.s what1] (.tup [.s e,.b c])/\K c (Sc.mk e)
section
variable {PG:Za}{d:Nat}{Q:AE->Sl->St->Prop}{K:Bool->Sc->Prop}{Zm:St}{kp:Zq}{vp:Nat}(hQ:Yyb d Zm kp vp Q K)(hkp:kp.1<d){σ:Sl}{st:St}
include hQ hkp
variable {what1:BS}{mP:Sc}
variable (H0:σ 0=.p kp vp 0)(H1:σ 1=.s what1)(BP:lk st.bx kp=some (vp,[.s mP.left]))(FR:Fr d kp Zm.bx Zm.ow st.bx st.ow)
include H0 H1 BP FR in
theorem Wtx (h:Zml PG K what1 mP):W PG d (sR 0 Ylq (sR 1 Yol (sR 2 Yiu (sR 3 Zx6 .ret)))) σ st Q:=
 q_ J (m_ (e_ (q_ J (m_ (Wp H0 (f_ J (l_ J BP J J (m_ (x2 h fun _ _ c=>Yi (Je J H1 J) c.1 (m_ (x_ J J (x_ J J (m_ (m_ (e_ (q_ J (m_ (m_ (Wp H0 (f_ J (Ye J BP J J J (e_ (q_ J (m_ (m_ (Zo (hQ _ _ _ _ J Zj (Fr.own FR) c.2)))))))))))))))))))))))))))
end
theorem Xqz {PG:Za}(hf:PG.fn 128=some Fa){what1:BS}{mP:Sc}{K:Bool->Sc->Prop}(h:Zml PG K what1 mP):Qv PG 128 (Bx [.s mP.left]) [.s what1] (fun r (b_:Sc)=>∃res0:Bool,(r=.b res0)/\K res0 b_) (fun b_=>(Bx [.s b_.left])):=
  Qv.of hf rfl (fun _=>Bx.out) fun d st kp vp hkp hB=>Wtx (Zm:=st) (Q:=fun e σ st'=>(e=.normal\/e=.ret)/\∃r b_,Xm σ st' Fa.res=some r/\_/\_/\Fr d kp st.bx st.ow st'.bx st'.ow) (fun σ st'   res0 b_ H4 hb hf hk=>⟨.inr rfl,.b res0,b_,by simp only [Fa,Xm,Vk,H4,Kp,Option.map_some,H4],⟨res0,rfl,hk⟩,hb,hf⟩) hkp (σ:=Wh [.p kp vp 0,.s what1]) rfl rfl hB Fr.refl h
def Yg0:List AI:=[oO 8 (.alloc [z8,z6,zs,zl,zb]),oC 9 (.b false)]
def Yeo:List AI:=[oM 13 1,oO 14 (.build [z8,z6,zs,zl,zb] [(0,1,(.t 13))]),oO 10 (.alloc [z8,z6,zs,zl,zb]),oS 5 10 14]
def Yen:List AI:=[oM 15 0,oM 16 2,oO 17 (.call true 128 [(.t 15),(.t 16)])]
def Yr9:List AI:=[oK 18 5 10,oS 5 8 18,oC 9 (.b true)]
def Xj2:List AI:=[oF 19 3 10,oL 20 19,oJ 21 20,oV 22 .leq 21 16]
def Yu1:List AI:=[oM 24 0,oM 25 3,oO 26 (.call true 107 [(.t 24),(.t 25)]),oM 23 26,oE 27 0 23,oE 28 1 23,oO 11 (.alloc [z8,z6,zs,zl,zb]),oS 5 11 27,oM 12 28]
def Wgz:List AI:=[oM 29 12,oZ 30 29]
def Yxc:List AI:=[oK 31 5 10,oS 5 8 31,oC 9 (.b false)]
def Wge:List AI:=[oF 32 3 10,oL 33 32,oK 34 5 11,oO 35 (.bslice [z8,z6,zs,zl,zb] 1 [(0,(.t 34))]),oO 36 (.app 5 64 (.t 33) (.t 35)),oF 37 3 10,oS 1 37 36]
def Yvn:List AI:=[oM 38 0,oM 39 2,oO 40 (.call true 128 [(.t 38),(.t 39)])]
def Yuk:List AI:=[oK 41 5 10,oS 5 8 41,oC 9 (.b true)]
def Xca:List AI:=[oM 42 0,oO 43 (.call true 128 [(.t 42),(.c (.s [44,32]))]),oZ 44 43]
def Yss:List AI:=[oK 45 5 10,oS 5 8 45,oC 9 (.b false)]
def Whd:List AI:=[oK 46 5 10,oS 5 8 46,oC 9 (.b false)]
abbrev Zam:AC:=(.seq (sR 4 Xj2 (.cond (.t 22) .skip (.exit 0))) (.block 1 (sR 5 Yu1 (.seq (sR 6 Wgz (.cond (.t 30) (sR 7 Yxc .ret) .skip)) (sR 8 Wge (.seq (sR 9 Yvn (.cond (.t 40) (sR 10 Yuk .ret) .skip)) (sR 11 Xca (.cond (.t 44) (sR 12 Yss .ret) .skip))))))))
abbrev Im:AC:=(sR 13 Whd .ret)
abbrev Xns:AC:=(sR 0 Yg0 (sR 1 Yeo (.seq (sR 2 Yen (.cond (.t 17) (sR 3 Yr9 .ret) .skip)) (.seq (.block 0 (.loop Zam)) Im))))
def Pf:AF:={ nt:=47,res:=[.cell 8 5 true,.tmp 9],body:=Xns }
abbrev Wlm (d:Nat)(Zm:St)(kp:Zq)(vp:Nat)(Q:AE->Sl->St->Prop)(K:Zb->Bool->Sc->Prop):Prop:=∀(σ:Sl)(st:St)(k0:Zq)(v0:Nat)(o0_0:Zn)(res0:Zb)(res1:Bool)(b_:Sc),σ 8=.p k0 v0 0->lk st.bx k0=some (v0,[.i .u8 res0.kind,.i .i64 res0.int,.s res0.text,.sl o0_0 (List.map Zb.row res0.list),.b res0.cut])->σ 9=.b res1->lk st.bx kp=some (vp,[.s b_.left])->Fr d kp Zm.bx Zm.ow st.bx st.ow->K res0 res1 b_->Q .ret σ st
abbrev Yfu (PG:Za)(d:Nat)(Q:AE->Sl->St->Prop)(Zm:St)(kp:Zq)(vp:Nat)(end2:BS)(nest3:Int)(m0:Zb)(m4098:Zb)(mP:Sc):Prop:=
  ∀(σ:Sl)(st:St) (o_m0_3 o_m4098_3:Zn) (v0 v4098:Nat),σ 0=.p kp vp 0->σ 2=.s end2->σ 3=.i .i64 nest3->σ 8=.p (d,0) v0 0->σ 10=.p (d,4098) v4098 0->Xe d st.ow o_m4098_3 m4098.list.length->lk st.bx (d,0)=some (v0,[.i .u8 m0.kind,.i .i64 m0.int,.s m0.text,.sl o_m0_3 (List.map Zb.row m0.list),.b m0.cut])->lk st.bx (d,4098)=some (v4098,[.i .u8 m4098.kind,.i .i64 m4098.int,.s m4098.text,.sl o_m4098_3 (List.map Zb.row m4098.list),.b m4098.cut])->lk st.bx kp=some (vp,[.s mP.left])->Fr d kp Zm.bx Zm.ow st.bx st.ow->W PG d (.loop Zam) σ st (Zw 0 (Zl PG d Im Q))
def Zp5 (PG:Za)(K:Zb->Bool->Sc->Prop)(m0:Zb)(m4098:Zb)(mP:Sc):Prop:=
  K m4098 false mP
def Zby (PG:Za)(K:Zb->Bool->Sc->Prop)(P0:Zb->Zb->Sc->Prop)(end2:BS)(nest3:Int)(m0:Zb)(m4098:Zb)(mP:Sc):Prop:=
  ((m4098.list.length:Int)<=16->∃c:Zb,∃k,∃j:Sc,Yt PG 107 (Bx [.s mP.left]) [.i .i64 nest3] (fun r=>∃o'4_0:Zn,r=.tup [c.avo o'4_0,.b k]) ((Bx [.s j.left]))/\((!k)=true->K m4098 false j)/\((!k)=false->Qn (m4098.list.length+[c].length) 64/\∃e,∃p:Sc,Yt PG 128 (Bx [.s j.left]) [.s end2] (fun r=>r=.b e) ((Bx [.s p.left]))/\(e=true->K (Zb.mk m4098.kind m4098.int m4098.text (m4098.list++[c]) m4098.cut) true p)/\(e=false->∃q,∃o:Sc,Yt PG 128 (Bx [.s p.left]) [.s ([44,32]:BS)] (fun r=>r=.b q) ((Bx [.s o.left]))/\((!q)=true->K (Zb.mk m4098.kind m4098.int m4098.text (m4098.list++[c]) m4098.cut) false o)/\((!q)=false->P0 m0 (Zb.mk m4098.kind m4098.int m4098.text (m4098.list++[c]) m4098.cut) o))))/\(¬((m4098.list.length:Int)<=16)->Zp5 PG K m0 m4098 mP)
def Zp2 (PG:Za)(K:Zb->Bool->Sc->Prop)(kind1:Int)(end2:BS)(nest3:Int)(mP:Sc):Prop:=
  ∃e,∃c:Sc,Yt PG 128 (Bx [.s mP.left]) [.s end2] (fun r=>r=.b e) ((Bx [.s c.left]))/\(e=true->K (Zb.mk kind1 0 [] ([]:List Zb) false) true c)/\(e=false->∀P0:Zb->Zb->Sc->Prop,(∀(m0:Zb)(m4098:Zb)(mP:Sc),Zby PG K P0 end2 nest3 m0 m4098 mP->P0 m0 m4098 mP)->P0 (Zb.mk 0 0 [] ([]:List Zb) false) (Zb.mk kind1 0 [] ([]:List Zb) false) c)
section
variable {PG:Za}{d:Nat}{Q:AE->Sl->St->Prop}{K:Zb->Bool->Sc->Prop}{Zm:St}{kp:Zq}{vp:Nat}(hQ:Wlm d Zm kp vp Q K)(hkp:kp.1<d){σ:Sl}{st:St}
include hQ hkp
variable {m0 m4098:Zb}{mP:Sc}{o_m0_3 o_m4098_3:Zn}{v0 v4098:Nat}{end2:BS}{nest3:Int}{P0:Zb->Zb->Sc->Prop}{kind1:Int}
variable (kP0 :∀(m0:Zb)(m4098:Zb)(mP:Sc),P0 m0 m4098 mP->Yfu PG d Q Zm kp vp end2 nest3 m0 m4098 mP)(H0:σ 0=.p kp vp 0)(H1:σ 1=.i .u8 kind1)(H2:σ 2=.s end2)(H3:σ 3=.i .i64 nest3)(H8:σ 8=.p (d,0) v0 0)(H10:σ 10=.p (d,4098) v4098 0)(Ab4098:Xe d st.ow o_m4098_3 m4098.list.length)(B0:lk st.bx (d,0)=some (v0,[.i .u8 m0.kind,.i .i64 m0.int,.s m0.text,.sl o_m0_3 (List.map Zb.row m0.list),.b m0.cut]))(B4098:lk st.bx (d,4098)=some (v4098,[.i .u8 m4098.kind,.i .i64 m4098.int,.s m4098.text,.sl o_m4098_3 (List.map Zb.row m4098.list),.b m4098.cut]))(BP:lk st.bx kp=some (vp,[.s mP.left]))(FR:Fr d kp Zm.bx Zm.ow st.bx st.ow)
include H8 H10 Ab4098 B0 B4098 BP FR in
theorem Xrv (h:Zp5 PG K m0 m4098 mP):W PG d Im σ st Q:=
 q_ J (l_ H10 B4098 J J (Ye H8 B0 J J J (m_ (Zo (hQ _ _ _ _ _ _ _ _ H8 Zj J (Jq hkp BP) (Fr.box FR) h)))))
include kP0 H0 H2 H3 H8 H10 Ab4098 B0 B4098 BP FR in
theorem Xdc (h:Zby PG K P0 end2 nest3 m0 m4098 mP):W PG d Zam σ st (Zl PG d (.loop Zam) (Zw 0 (Zl PG d Im Q))):=
 Zk (q_ J (f_ H10 (l_ J B4098 J J (Yo J (b_ J J Zcg (e_ (Yj J (fun u=>Yc (Yh (Zk (W.reg (m_ (m_ (x2 (h.1 u) fun a5 _ a3=>a3.elim fun _ k=>Ee (Ya H0 (Ya H3 Yr)) k.1 (Nat.lt_succ_of_lt hkp) (Jq hkp BP) (fun o'4_0 _ z c=>m_ (x_ J J (x_ J J (Xy (Ye J ((c.1 (d,20486) (Nat.lt_succ_self d) (Xn hkp)).trans (show lk _ (d,20486)=some (_,([.i .u8 0,.i .i64 0,.s [],.sl .full (List.map Zb.row ([]:List Zb)),.b false]:List AV)) from Zj)) J J J (m_ (e_ (Zk (q_ J (m_ (Xx J (e_ (Xs J (fun o=>q_ J (l_ H10 (Zs J ((c.1 (d,4098) (Nat.lt_succ_self d) (Xn hkp)).trans (Zs J B4098))) J J (Ye H8 (Zs J ((c.1 (d,0) (Nat.lt_succ_self d) (Xn hkp)).trans (Zs J B0))) J J J (m_ (Zo (hQ _ _ _ _ _ _ _ _ H8 Zj J (Jq hkp (Jq hkp z)) (Fr.box (Fr.box (Fr.pass (Fr.box FR) c))) (k.2.1 o))))))) (fun o=>Yc (q_ J (f_ H10 (l_ J (Zs J ((c.1 (d,4098) (Nat.lt_succ_self d) (Xn hkp)).trans (Zs J B4098))) J J (l_ J Zj J J (Ja (f:=Zb.row) (l:=[a5]) J J (Xw J J J Vn) (by simp only [List.map_cons,List.map_nil,Zb.row_eq];rfl) (Qk Zb.row_len J J J ((Xe.call Ab4098 c).1) (k.2.2 o).1 J (fun _ _ a0 r a4=>f_ H10 (Ye J (Zs J ((c.1 (d,4098) (Nat.lt_succ_self d) (Xn hkp)).trans (Zs J B4098))) J J J (e_ (Zk (q_ J (m_ (m_ ((k.2.2 o).2.elim fun _ a2=>a2.elim fun _ p=>Wi (Ya H0 (Ya H2 Yr)) p.1 (Nat.lt_succ_of_lt hkp) (Jq hkp (Jq hkp z)) (fun _ x e=>e_ (Xs J (fun v=>q_ J (l_ H10 ((e.1 (d,4098) (Nat.lt_succ_self d) (Xn hkp)).trans Zj) J J (Ye H8 ((e.1 (d,0) (Nat.lt_succ_self d) (Xn hkp)).trans (Zs J (Zs J ((c.1 (d,0) (Nat.lt_succ_self d) (Xn hkp)).trans (Zs J B0))))) J J J (m_ (Zo (hQ _ _ _ _ _ _ _ _ H8 Zj J (Jq hkp x) (Fr.box (Fr.pass (Fr.box (Fr.app (Fr.box (Fr.pass (Fr.box FR) c)) (Xe.call Ab4098 c).2 r)) e)) (p.2.1 v))))))) (fun v=>Yc (q_ J (m_ ((p.2.2 v).elim fun _ a1=>a1.elim fun _ q=>Wi (Ya H0 (Ya J Yr)) q.1 (Nat.lt_succ_of_lt hkp) x (fun _ y j=>Xx J (e_ (Xs J (fun w=>q_ J (l_ H10 ((j.1 (d,4098) (Nat.lt_succ_self d) (Xn hkp)).trans ((e.1 (d,4098) (Nat.lt_succ_self d) (Xn hkp)).trans Zj)) J J (Ye H8 ((j.1 (d,0) (Nat.lt_succ_self d) (Xn hkp)).trans ((e.1 (d,0) (Nat.lt_succ_self d) (Xn hkp)).trans (Zs J (Zs J ((c.1 (d,0) (Nat.lt_succ_self d) (Xn hkp)).trans (Zs J B0)))))) J J J (m_ (Zo (hQ _ _ _ _ _ _ _ _ H8 Zj J (Jq hkp y) (Fr.box (Fr.pass (Fr.pass (Fr.box (Fr.app (Fr.box (Fr.pass (Fr.box FR) c)) (Xe.call Ab4098 c).2 r)) e) j)) (q.2.1 w))))))) (fun w=>Yc (kP0 _ _ _ (q.2.2 w) _ _ _ _ _ _ H0 H2 H3 H8 H10 (Xe.call (Xe.call (Xe.mk a0 (Gi.app (Xe.call Ab4098 c).2 J a4)) e) j) ((j.1 (d,0) (Nat.lt_succ_self d) (Xn hkp)).trans ((e.1 (d,0) (Nat.lt_succ_self d) (Xn hkp)).trans (Zs J (Zs J ((c.1 (d,0) (Nat.lt_succ_self d) (Xn hkp)).trans (Zs J B0)))))) ((j.1 (d,4098) (Nat.lt_succ_self d) (Xn hkp)).trans ((e.1 (d,4098) (Nat.lt_succ_self d) (Xn hkp)).trans Zj)) y (Fr.pass (Fr.pass (Fr.box (Fr.app (Fr.box (Fr.pass (Fr.box FR) c)) (Xe.call Ab4098 c).2 r)) e) j))))))))))))))))))))))))))))))))))))))))))))))) (fun u=>Vm (Xrv hQ hkp H8 H10 Ab4098 B0 B4098 BP FR (h.2 u))))))))))
include H0 H1 H2 H3 BP FR in
theorem Xhm (h:Zp2 PG K kind1 end2 nest3 mP):W PG d (sR 0 Yg0 (sR 1 Yeo (.seq (sR 2 Yen (.cond (.t 17) (sR 3 Yr9 .ret) .skip)) (.seq (.block 0 (.loop Zam)) Im)))) σ st Q:=
 Zk (W.reg (Xy (m_ (e_ (Zk (W.reg (m_ (Wb (Yn H1 J Xr) (Xy (Ye J (show lk _ (d,4098)=some (_,([.i .u8 0,.i .i64 0,.s [],.sl .full (List.map Zb.row ([]:List Zb)),.b false]:List AV)) from Zj) J J J (e_ (Zk (q_ J (m_ (m_ (h.elim fun _ o=>o.elim fun _ e=>Wi (Ya H0 (Ya H2 Yr)) e.1 (Nat.lt_succ_of_lt hkp) (Jq hkp (Jq hkp (Jq hkp BP))) (fun _ k c=>e_ (Xs J (fun j=>q_ J (l_ J ((c.1 (d,4098) (Nat.lt_succ_self d) (Xn hkp)).trans Zj) J J (Ye J ((c.1 (d,0) (Nat.lt_succ_self d) (Xn hkp)).trans (Zs J (Zs J (show lk _ (d,0)=some (_,([.i .u8 0,.i .i64 0,.s [],.sl .full (List.map Zb.row ([]:List Zb)),.b false]:List AV)) from Zj)))) J J J (m_ (Zo (hQ _ _ _ _ _ _ _ _ J Zj J (Jq hkp k) (Fr.box (Fr.pass (Fr.box (Fr.box (Fr.box FR))) c)) (e.2.1 j))))))) (fun j=>Yc (Zk (Yh ((e.2.2 j) (Yfu PG d Q Zm kp vp end2 nest3) (fun _ _ _ hb _ _ _ _ _ _ H0 H2 H3 H8 H10 Ab4098 B0 B4098 BP FR=>W.loop (Xdc hQ hkp (fun _ _ _ x=>x) H0 H2 H3 H8 H10 Ab4098 B0 B4098 BP FR hb)) _ _ _ _ _ _ H0 H2 H3 J J Xe.full ((c.1 (d,0) (Nat.lt_succ_self d) (Xn hkp)).trans (Zs J (Zs J (show lk _ (d,0)=some (_,([.i .u8 0,.i .i64 0,.s [],.sl .full (List.map Zb.row ([]:List Zb)),.b false]:List AV)) from Zj)))) ((c.1 (d,4098) (Nat.lt_succ_self d) (Xn hkp)).trans Zj) k (Fr.pass (Fr.box (Fr.box (Fr.box FR))) c)))))))))))))))))))))))
end
theorem Wod {PG:Za}(hf:PG.fn 129=some Pf){kind1:Int}{end2:BS}{nest3:Int}{mP:Sc}{K:Zb->Bool->Sc->Prop}(h:Zp2 PG K kind1 end2 nest3 mP):Qv PG 129 (Bx [.s mP.left]) [.i .u8 kind1,.s end2,.i .i64 nest3] (fun r (b_:Sc)=>∃res0:Zb,∃res1:Bool,(∃o_0:Zn,r=.tup [res0.avo o_0,.b res1])/\K res0 res1 b_) (fun b_=>(Bx [.s b_.left])):=
  Qv.of hf rfl (fun _=>Bx.out) fun d st kp vp hkp hB=>Xhm (Zm:=st) (Q:=fun e σ st'=>(e=.normal\/e=.ret)/\∃r b_,Xm σ st' Pf.res=some r/\_/\_/\Fr d kp st.bx st.ow st'.bx st'.ow) (fun σ st' k0 v0 o_0 res0 res1 b_ H8 HB8 H9 hb hf hk=>⟨.inr rfl,.tup [res0.avo o_0,.b res1],b_,by simp only [Pf,Xm,Vk,Jz (n:=5) H8 HB8 rfl,H9,Qb,Option.map_some,Jz (n:=5) H8 HB8 rfl,H9],⟨res0,res1,⟨o_0,rfl⟩,hk⟩,hb,hf⟩) hkp (σ:=Wh [.p kp vp 0,.i .u8 kind1,.s end2,.i .i64 nest3]) rfl rfl rfl rfl hB Fr.refl h
def Zyv:List AI:=[oO 4 (.alloc [z8,z6,zs,zl,zb]),oC 5 (.b false)]
def Ysr:List AI:=[oM 12 1,oV 13 .eql 12 0,oM 14 13,gF 14 (oM 15 0),gF 14 (oN 16 15),gF 14 (oF 17 0 16),gF 14 (oL 18 17),gF 14 (oB 19 .eql (.t 18) (.c (.s []))),oR 20 14 19]
def Yz6:List AI:=[oO 21 (.build [z8,z6,zs,zl,zb] []),oS 5 4 21,oC 5 (.b false)]
def Xv2:List AI:=[oM 23 0,oO 24 (.call true 128 [(.t 23),(.c (.s [116,114,117,101]))]),oM 22 24]
def Xgr:List AI:=[oO 25 (.build [z8,z6,zs,zl,zb] [(0,1,(.c (.i .u8 1))),(1,1,(.c (.i .i64 1)))]),oS 5 4 25,oC 5 (.b true)]
def Xws:List AI:=[oM 27 0,oO 28 (.call true 128 [(.t 27),(.c (.s [102,97,108,115,101]))]),oM 26 28]
def Yxh:List AI:=[oO 29 (.build [z8,z6,zs,zl,zb] [(0,1,(.c (.i .u8 1)))]),oS 5 4 29,oC 5 (.b true)]
def Xlh:List AI:=[oM 31 0,oO 32 (.call true 128 [(.t 31),(.c (.s [110,105,108]))]),oM 30 32]
def Woi:List AI:=[oO 33 (.build [z8,z6,zs,zl,zb] [(0,1,(.c (.i .u8 4)))]),oS 5 4 33,oC 5 (.b true)]
def Wen:List AI:=[oM 35 0,oO 36 (.call true 128 [(.t 35),(.c (.s [38,46,46,46]))]),oM 34 36]
def Wln:List AI:=[oO 37 (.build [z8,z6,zs,zl,zb] [(0,1,(.c (.i .u8 4))),(4,1,(.c (.b true)))]),oS 5 4 37,oC 5 (.b true)]
def Xp4:List AI:=[oM 39 0,oO 40 (.call true 128 [(.t 39),(.c (.s [60,46,46,46,62]))]),oM 38 40]
def Xls:List AI:=[oO 41 (.build [z8,z6,zs,zl,zb] [(0,1,(.c (.i .u8 7))),(4,1,(.c (.b true)))]),oS 5 4 41,oC 5 (.b true)]
def Xx2:List AI:=[oM 43 0,oO 44 (.call true 128 [(.t 43),(.c (.s [38]))]),oM 42 44]
def Xmm:List AI:=[oM 46 0,oM 47 1,oV 48 .sub 47 1,oO 49 (.call true 107 [(.t 46),(.t 48)]),oM 45 49,oE 50 0 45,oE 51 1 45,oO 6 (.alloc [z8,z6,zs,zl,zb]),oS 5 6 50,oM 7 51]
def Wsb:List AI:=[oK 52 5 6,oO 53 (.bslice [z8,z6,zs,zl,zb] 1 [(0,(.t 52))]),oO 54 (.build [z8,z6,zs,zl,zb] [(0,1,(.c (.i .u8 4))),(3,1,(.t 53))]),oM 55 7,oS 5 4 54,oM 5 55]
def Wla:List AI:=[oM 57 0,oO 58 (.call true 128 [(.t 57),(.c (.s [123]))]),oM 56 58]
def Xkp:List AI:=[oM 59 0,oM 60 1,oV 61 .sub 60 1,oO 62 (.call true 129 [(.t 59),(.c (.i .u8 5)),(.c (.s [125])),(.t 61)]),oE 63 0 62,oE 64 1 62,oS 5 4 63,oM 5 64]
def Xpq:List AI:=[oM 66 0,oO 67 (.call true 128 [(.t 66),(.c (.s [91]))]),oM 65 67]
def Xvn:List AI:=[oM 68 0,oM 69 1,oV 70 .sub 69 1,oO 71 (.call true 129 [(.t 68),(.c (.i .u8 6)),(.c (.s [93])),(.t 70)]),oE 72 0 71,oE 73 1 71,oS 5 4 72,oM 5 73]
def We2:List AI:=[oM 75 0,oO 76 (.call true 128 [(.t 75),(.c (.s [60]))]),oM 74 76]
def Xp5:List AI:=[oM 77 0,oM 78 1,oV 79 .sub 78 1,oO 80 (.call true 129 [(.t 77),(.c (.i .u8 7)),(.c (.s [62])),(.t 79)]),oE 81 0 80,oE 82 1 80,oS 5 4 81,oM 5 82]
def Xbw:List AI:=[oM 84 0,oN 85 84,oF 86 0 85,oL 87 86,oO 88 (.ixS (.t 87) (.c (.i .i64 0))),oW 89 .eql 88 34,oM 83 89]
def Wih:List AI:=[oM 91 0,oO 92 (.call true 130 [(.t 91)]),oM 90 92,oE 93 0 90,oE 94 1 90,oM 8 93,oM 9 94]
def Xif:List AI:=[oM 95 8,oO 96 (.build [z8,z6,zs,zl,zb] [(0,1,(.c (.i .u8 3))),(2,1,(.t 95))]),oM 97 9,oS 5 4 96,oM 5 97]
def Ci:List AI:=[oM 99 0,oO 100 (.call true 131 [(.t 99)]),oM 98 100,oE 101 0 98,oE 102 1 98,oM 10 101,oM 11 102]
def Co:List AI:=[oM 103 10,oO 104 (.build [z8,z6,zs,zl,zb] [(0,1,(.c (.i .u8 2))),(1,1,(.t 103))]),oM 105 11,oS 5 4 104,oM 5 105]
abbrev Yl5:AC:=(.cond (.t 42) (sR 14 Xmm (sR 15 Wsb .ret)) (sR 16 Wla (.cond (.t 56) (sR 17 Xkp .ret) (sR 18 Xpq (.cond (.t 65) (sR 19 Xvn .ret) (sR 20 We2 (.cond (.t 74) (sR 21 Xp5 .ret) (sR 22 Xbw (.cond (.t 83) (sR 23 Wih (sR 24 Xif .ret)) .skip)))))))))
abbrev Ynd:AC:=(.cond (.t 38) (sR 12 Xls .ret) (sR 13 Xx2 Yl5))
abbrev Zyg:AC:=(.cond (.t 34) (sR 10 Wln .ret) (sR 11 Xp4 Ynd))
abbrev Ybt:AC:=(.cond (.t 30) (sR 8 Woi .ret) (sR 9 Wen Zyg))
abbrev Yf5:AC:=(.cond (.t 26) (sR 6 Yxh .ret) (sR 7 Xlh Ybt))
abbrev Ygv:AC:=(.cond (.t 22) (sR 4 Xgr .ret) (sR 5 Xws Yf5))
abbrev Yjd:AC:=(.seq (.block 0 (sR 3 Xv2 Ygv)) (sR 25 Ci (sR 26 Co .ret)))
abbrev Zmo:AC:=(.seq (sR 1 Ysr (.cond (.t 20) (sR 2 Yz6 .ret) .skip)) Yjd)
abbrev Yzo:AC:=(sR 0 Zyv Zmo)
def Lg:AF:={ nt:=106,res:=[.cell 4 5 true,.tmp 5],body:=Yzo }
abbrev Wnu (d:Nat)(Zm:St)(kp:Zq)(vp:Nat)(Q:AE->Sl->St->Prop)(K:Zb->Bool->Sc->Prop):Prop:=∀(σ:Sl)(st:St)(k0:Zq)(v0:Nat)(o0_0:Zn)(res0:Zb)(res1:Bool)(b_:Sc),σ 4=.p k0 v0 0->lk st.bx k0=some (v0,[.i .u8 res0.kind,.i .i64 res0.int,.s res0.text,.sl o0_0 (List.map Zb.row res0.list),.b res0.cut])->σ 5=.b res1->lk st.bx kp=some (vp,[.s b_.left])->Fr d kp Zm.bx Zm.ow st.bx st.ow->K res0 res1 b_->Q .ret σ st
def Zmv (PG:Za)(K:Zb->Bool->Sc->Prop)(nest1:Int)(t42:Bool)(m0:Zb)(mP:Sc):Prop:=
  (t42=true->∃e:Zb,∃c,∃a8:Sc,Yt PG 107 (Bx [.s mP.left]) [.i .i64 (IntKind.i64.wrap (nest1-1))] (fun r=>∃o'4_0:Zn,r=.tup [e.avo o'4_0,.b c]) ((Bx [.s a8.left]))/\K (Zb.mk 4 0 [] [e] false) c a8)/\(t42=false->∃o,∃k:Sc,Yt PG 128 (Bx [.s mP.left]) [.s ([123]:BS)] (fun r=>r=.b o) ((Bx [.s k.left]))/\(o=true->∃a4:Zb,∃y,∃w:Sc,Yt PG 129 (Bx [.s k.left]) [.i .u8 5,.s ([125]:BS),.i .i64 (IntKind.i64.wrap (nest1-1))] (fun r=>∃o'22_0:Zn,r=.tup [a4.avo o'22_0,.b y]) ((Bx [.s w.left]))/\K a4 y w)/\(o=false->∃v,∃q:Sc,Yt PG 128 (Bx [.s k.left]) [.s ([91]:BS)] (fun r=>r=.b v) ((Bx [.s q.left]))/\(v=true->∃z:Zb,∃a2,∃a6:Sc,Yt PG 129 (Bx [.s q.left]) [.i .u8 6,.s ([93]:BS),.i .i64 (IntKind.i64.wrap (nest1-1))] (fun r=>∃o'40_0:Zn,r=.tup [z.avo o'40_0,.b a2]) ((Bx [.s a6.left]))/\K z a2 a6)/\(v=false->∃u,∃j:Sc,Yt PG 128 (Bx [.s q.left]) [.s ([60]:BS)] (fun r=>r=.b u) ((Bx [.s j.left]))/\(u=true->∃a1:Zb,∃a7,∃b1:Sc,Yt PG 129 (Bx [.s j.left]) [.i .u8 7,.s ([62]:BS),.i .i64 (IntKind.i64.wrap (nest1-1))] (fun r=>∃o'58_0:Zn,r=.tup [a1.avo o'58_0,.b a7]) ((Bx [.s b1.left]))/\K a1 a7 b1)/\(u=false->∃p:UInt8,j.left[0]?=some p/\((p.toNat:Int)=34->∃x a3,∃a9:Sc,Yt PG 130 (Bx [.s j.left]) [] (fun r=>r=.tup [.s x,.b a3]) ((Bx [.s a9.left]))/\K (Zb.mk 3 0 x ([]:List Zb) false) a3 a9)/\(¬((p.toNat:Int)=34)->∃a0 a5,∃b0:Sc,Yt PG 131 (Bx [.s j.left]) [] (fun r=>r=.tup [.i .i64 a0,.b a5]) ((Bx [.s b0.left]))/\K (Zb.mk 2 a0 [] ([]:List Zb) false) a5 b0)))))
def Zkm (PG:Za)(K:Zb->Bool->Sc->Prop)(nest1:Int)(t38:Bool)(m0:Zb)(mP:Sc):Prop:=
  (t38=true->K (Zb.mk 7 0 [] ([]:List Zb) true) true mP)/\(t38=false->∃c,∃e:Sc,Yt PG 128 (Bx [.s mP.left]) [.s ([38]:BS)] (fun r=>r=.b c) ((Bx [.s e.left]))/\Zmv PG K nest1 c m0 e)
def Zvm (PG:Za)(K:Zb->Bool->Sc->Prop)(nest1:Int)(t34:Bool)(m0:Zb)(mP:Sc):Prop:=
  (t34=true->K (Zb.mk 4 0 [] ([]:List Zb) true) true mP)/\(t34=false->∃c,∃e:Sc,Yt PG 128 (Bx [.s mP.left]) [.s ([60,46,46,46,62]:BS)] (fun r=>r=.b c) ((Bx [.s e.left]))/\Zkm PG K nest1 c m0 e)
def Zj3 (PG:Za)(K:Zb->Bool->Sc->Prop)(nest1:Int)(t30:Bool)(m0:Zb)(mP:Sc):Prop:=
  (t30=true->K (Zb.mk 4 0 [] ([]:List Zb) false) true mP)/\(t30=false->∃c,∃e:Sc,Yt PG 128 (Bx [.s mP.left]) [.s ([38,46,46,46]:BS)] (fun r=>r=.b c) ((Bx [.s e.left]))/\Zvm PG K nest1 c m0 e)
def Zua (PG:Za)(K:Zb->Bool->Sc->Prop)(nest1:Int)(t26:Bool)(m0:Zb)(mP:Sc):Prop:=
  (t26=true->K (Zb.mk 1 0 [] ([]:List Zb) false) true mP)/\(t26=false->∃c,∃e:Sc,Yt PG 128 (Bx [.s mP.left]) [.s ([110,105,108]:BS)] (fun r=>r=.b c) ((Bx [.s e.left]))/\Zj3 PG K nest1 c m0 e)
def Zrk (PG:Za)(K:Zb->Bool->Sc->Prop)(nest1:Int)(t22:Bool)(m0:Zb)(mP:Sc):Prop:=
  (t22=true->K (Zb.mk 1 1 [] ([]:List Zb) false) true mP)/\(t22=false->∃c,∃e:Sc,Yt PG 128 (Bx [.s mP.left]) [.s ([102,97,108,115,101]:BS)] (fun r=>r=.b c) ((Bx [.s e.left]))/\Zua PG K nest1 c m0 e)
def Zlj (PG:Za)(K:Zb->Bool->Sc->Prop)(nest1:Int)(m0:Zb)(mP:Sc):Prop:=
  ∃e,∃c:Sc,Yt PG 128 (Bx [.s mP.left]) [.s ([116,114,117,101]:BS)] (fun r=>r=.b e) ((Bx [.s c.left]))/\Zrk PG K nest1 e m0 c
def Zce (PG:Za)(K:Zb->Bool->Sc->Prop)(nest1:Int)(m0:Zb)(mP:Sc):Prop:=
  (nest1=0->K (Zb.mk 0 0 [] ([]:List Zb) false) false mP)/\(¬(nest1=0)->(mP.left=([]:BS)->K (Zb.mk 0 0 [] ([]:List Zb) false) false mP)/\(¬(mP.left=([]:BS))->Zlj PG K nest1 m0 mP))
def Zd2 (PG:Za)(K:Zb->Bool->Sc->Prop)(nest1:Int)(mP:Sc):Prop:=
  Zce PG K nest1 (Zb.mk 0 0 [] ([]:List Zb) false) mP
section
variable {PG:Za}{d:Nat}{Q:AE->Sl->St->Prop}{K:Zb->Bool->Sc->Prop}{Zm:St}{kp:Zq}{vp:Nat}(hQ:Wnu d Zm kp vp Q K)(hkp:kp.1<d){σ:Sl}{st:St}
include hQ hkp
variable {nest1:Int}{t42:Bool}{m0:Zb}{mP:Sc}{o_m0_3:Zn}{v0:Nat}{t38 t34 t30 t26 t22:Bool}
variable (H0:σ 0=.p kp vp 0)(H1:σ 1=.i .i64 nest1)(H4:σ 4=.p (d,0) v0 0)(H42:σ 42=.b t42)(Gg:σ 38=.b t38)(H34:σ 34=.b t34)(H30:σ 30=.b t30)(Tm:σ 26=.b t26)(Kv:σ 22=.b t22)(B0:lk st.bx (d,0)=some (v0,[.i .u8 m0.kind,.i .i64 m0.int,.s m0.text,.sl o_m0_3 (List.map Zb.row m0.list),.b m0.cut]))(BP:lk st.bx kp=some (vp,[.s mP.left]))(FR:Fr d kp Zm.bx Zm.ow st.bx st.ow)
include H0 H1 H4 H42 B0 BP FR in
theorem Wp7 (h:Zmv PG K nest1 t42 m0 mP):W PG d Yl5 σ st (Zw 0 (Zl PG d (sR 25 Ci (sR 26 Co .ret)) Q)):=
 Xs H42 (fun u=>Zk (W.reg (m_ (m_ (b_ H1 J Px (x2 (h.1 u) fun c9 _ b3=>b3.elim fun _ a2=>Ee (Ya H0 (Ya J Yr)) a2.1 (Nat.lt_succ_of_lt hkp) (Jq hkp BP) (fun o'4_0 _ c5 z=>m_ (x_ J J (x_ J J (Xy (Ye J ((z.1 (d,57351) (Nat.lt_succ_self d) (Xn hkp)).trans (show lk _ (d,57351)=some (_,([.i .u8 0,.i .i64 0,.s [],.sl .full (List.map Zb.row ([]:List Zb)),.b false]:List AV)) from Zj)) J J J (m_ (e_ (q_ J (l_ J Zj J J (Ja (f:=Zb.row) (l:=[c9]) J J (Xw J J J Vn) (by simp only [List.map_cons,List.map_nil,Zb.row_eq];rfl) (Wb (Yn J J (Yn J J Xr)) (m_ (Ye H4 (Zs J ((z.1 (d,0) (Nat.lt_succ_self d) (Xn hkp)).trans (Zs J B0))) J J J (m_ (Zo (hQ _ _ _ _ _ _ _ _ H4 Zj J (Jq hkp (Jq hkp c5)) (Fr.box (Fr.box (Fr.pass (Fr.box FR) z))) a2.2)))))))))))))))))))))) (fun u=>q_ J (m_ ((h.2 u).elim fun _ c1=>c1.elim fun _ o=>Wi (Ya H0 (Ya J Yr)) o.1 (Nat.lt_succ_of_lt hkp) BP (fun _ a6 c=>m_ (e_ (Xs J (fun v=>q_ J (m_ (m_ (b_ H1 J Px (x2 (o.2.1 v) fun _ _ b4=>b4.elim fun _ a0=>Ee (Ya H0 (Ya J (Ya J (Ya J Yr)))) a0.1 (Nat.lt_succ_of_lt hkp) a6 (fun o'22_0 _ c2 a8=>x_ J J (x_ J J (Ye H4 ((a8.1 (d,0) (Nat.lt_succ_self d) (Xn hkp)).trans ((c.1 (d,0) (Nat.lt_succ_self d) (Xn hkp)).trans B0)) J J J (m_ (Zo (hQ _ _ _ _ _ _ _ _ H4 Zj J (Jq hkp c2) (Fr.box (Fr.pass (Fr.pass FR c) a8)) a0.2))))))))))) (fun v=>q_ J (m_ ((o.2.2 v).elim fun _ c0=>c0.elim fun _ p=>Wi (Ya H0 (Ya J Yr)) p.1 (Nat.lt_succ_of_lt hkp) a6 (fun _ a7 e=>m_ (e_ (Xs J (fun w=>q_ J (m_ (m_ (b_ H1 J Px (x2 (p.2.1 w) fun _ _ b5=>b5.elim fun _ a1=>Ee (Ya H0 (Ya J (Ya J (Ya J Yr)))) a1.1 (Nat.lt_succ_of_lt hkp) a7 (fun o'40_0 _ c3 a9=>x_ J J (x_ J J (Ye H4 ((a9.1 (d,0) (Nat.lt_succ_self d) (Xn hkp)).trans ((e.1 (d,0) (Nat.lt_succ_self d) (Xn hkp)).trans ((c.1 (d,0) (Nat.lt_succ_self d) (Xn hkp)).trans B0))) J J J (m_ (Zo (hQ _ _ _ _ _ _ _ _ H4 Zj J (Jq hkp c3) (Fr.box (Fr.pass (Fr.pass (Fr.pass FR c) e) a9)) a1.2))))))))))) (fun w=>q_ J (m_ ((p.2.2 w).elim fun _ b9=>b9.elim fun _ q=>Wi (Ya H0 (Ya J Yr)) q.1 (Nat.lt_succ_of_lt hkp) a7 (fun _ k j=>m_ (e_ (Xs J (fun x=>q_ J (m_ (m_ (b_ H1 J Px (x2 (q.2.1 x) fun _ _ b6=>b6.elim fun _ a3=>Ee (Ya H0 (Ya J (Ya J (Ya J Yr)))) a3.1 (Nat.lt_succ_of_lt hkp) k (fun o'58_0 _ c4 b0=>x_ J J (x_ J J (Ye H4 ((b0.1 (d,0) (Nat.lt_succ_self d) (Xn hkp)).trans ((j.1 (d,0) (Nat.lt_succ_self d) (Xn hkp)).trans ((e.1 (d,0) (Nat.lt_succ_self d) (Xn hkp)).trans ((c.1 (d,0) (Nat.lt_succ_self d) (Xn hkp)).trans B0)))) J J J (m_ (Zo (hQ _ _ _ _ _ _ _ _ H4 Zj J (Jq hkp c4) (Fr.box (Fr.pass (Fr.pass (Fr.pass (Fr.pass FR c) e) j) b0)) a3.2))))))))))) (fun x=>q_ J (m_ (Wp H0 (f_ J (l_ J k J J ((q.2.2 x).elim fun _ r=>Uw J J (by decide) r.1 (b_ J J Xo (m_ (e_ (Yj J (fun y=>q_ J (m_ (x2 (r.2.1 y) fun _ _ b7=>b7.elim fun _ a4=>Wi (Ya H0 Yr) a4.1 (Nat.lt_succ_of_lt hkp) k (fun _ c6 b1=>m_ (x_ J J (x_ J J (m_ (m_ (e_ (q_ J (m_ (Wb (Yn J J (Yn J J Xr)) (m_ (Ye H4 ((b1.1 (d,0) (Nat.lt_succ_self d) (Xn hkp)).trans ((j.1 (d,0) (Nat.lt_succ_self d) (Xn hkp)).trans ((e.1 (d,0) (Nat.lt_succ_self d) (Xn hkp)).trans ((c.1 (d,0) (Nat.lt_succ_self d) (Xn hkp)).trans B0)))) J J J (m_ (Zo (hQ _ _ _ _ _ _ _ _ H4 Zj J (Jq hkp c6) (Fr.box (Fr.pass (Fr.pass (Fr.pass (Fr.pass FR c) e) j) b1)) a4.2))))))))))))))))) (fun y=>Yc (q_ J (m_ (x2 (r.2.2 y) fun _ _ b8=>b8.elim fun _ a5=>Wi (Ya H0 Yr) a5.1 (Nat.lt_succ_of_lt hkp) k (fun _ c7 b2=>m_ (x_ J J (x_ J J (m_ (m_ (e_ (q_ J (m_ (Wb (Yn J J (Yn J J Xr)) (m_ (Ye H4 ((b2.1 (d,0) (Nat.lt_succ_self d) (Xn hkp)).trans ((j.1 (d,0) (Nat.lt_succ_self d) (Xn hkp)).trans ((e.1 (d,0) (Nat.lt_succ_self d) (Xn hkp)).trans ((c.1 (d,0) (Nat.lt_succ_self d) (Xn hkp)).trans B0)))) J J J (m_ (Zo (hQ _ _ _ _ _ _ _ _ H4 Zj J (Jq hkp c7) (Fr.box (Fr.pass (Fr.pass (Fr.pass (Fr.pass FR c) e) j) b2)) a5.2))))))))))))))))))))))))))))))))))))))))))))))
include H0 H1 H4 Gg B0 BP FR in
theorem Wpl (h:Zkm PG K nest1 t38 m0 mP):W PG d Ynd σ st (Zw 0 (Zl PG d (sR 25 Ci (sR 26 Co .ret)) Q)):=
 Xs Gg (fun c=>q_ J (Wb (Yn J J (Yn J J Xr)) (Ye H4 B0 J J J (m_ (Zo (hQ _ _ _ _ _ _ _ _ H4 Zj J (Jq hkp BP) (Fr.box FR) (h.1 c))))))) (fun c=>q_ J (m_ ((h.2 c).elim fun _ j=>j.elim fun _ e=>Wi (Ya H0 (Ya J Yr)) e.1 (Nat.lt_succ_of_lt hkp) BP (fun _ k i=>m_ (e_ (Wp7 hQ hkp H0 H1 H4 J ((i.1 (d,0) (Nat.lt_succ_self d) (Xn hkp)).trans B0) k (Fr.pass FR i) e.2))))))
include H0 H1 H4 H34 B0 BP FR in
theorem Wgg (h:Zvm PG K nest1 t34 m0 mP):W PG d Zyg σ st (Zw 0 (Zl PG d (sR 25 Ci (sR 26 Co .ret)) Q)):=
 Xs H34 (fun c=>q_ J (Wb (Yn J J (Yn J J Xr)) (Ye H4 B0 J J J (m_ (Zo (hQ _ _ _ _ _ _ _ _ H4 Zj J (Jq hkp BP) (Fr.box FR) (h.1 c))))))) (fun c=>q_ J (m_ ((h.2 c).elim fun _ j=>j.elim fun _ e=>Wi (Ya H0 (Ya J Yr)) e.1 (Nat.lt_succ_of_lt hkp) BP (fun _ k i=>m_ (e_ (Wpl hQ hkp H0 H1 H4 J ((i.1 (d,0) (Nat.lt_succ_self d) (Xn hkp)).trans B0) k (Fr.pass FR i) e.2))))))
include H0 H1 H4 H30 B0 BP FR in
theorem Xki (h:Zj3 PG K nest1 t30 m0 mP):W PG d Ybt σ st (Zw 0 (Zl PG d (sR 25 Ci (sR 26 Co .ret)) Q)):=
 Xs H30 (fun c=>q_ J (Wb (Yn J J Xr) (Ye H4 B0 J J J (m_ (Zo (hQ _ _ _ _ _ _ _ _ H4 Zj J (Jq hkp BP) (Fr.box FR) (h.1 c))))))) (fun c=>q_ J (m_ ((h.2 c).elim fun _ j=>j.elim fun _ e=>Wi (Ya H0 (Ya J Yr)) e.1 (Nat.lt_succ_of_lt hkp) BP (fun _ k i=>m_ (e_ (Wgg hQ hkp H0 H1 H4 J ((i.1 (d,0) (Nat.lt_succ_self d) (Xn hkp)).trans B0) k (Fr.pass FR i) e.2))))))
include H0 H1 H4 Tm B0 BP FR in
theorem Xsc (h:Zua PG K nest1 t26 m0 mP):W PG d Yf5 σ st (Zw 0 (Zl PG d (sR 25 Ci (sR 26 Co .ret)) Q)):=
 Xs Tm (fun c=>q_ J (Wb (Yn J J Xr) (Ye H4 B0 J J J (m_ (Zo (hQ _ _ _ _ _ _ _ _ H4 Zj J (Jq hkp BP) (Fr.box FR) (h.1 c))))))) (fun c=>q_ J (m_ ((h.2 c).elim fun _ j=>j.elim fun _ e=>Wi (Ya H0 (Ya J Yr)) e.1 (Nat.lt_succ_of_lt hkp) BP (fun _ k i=>m_ (e_ (Xki hQ hkp H0 H1 H4 J ((i.1 (d,0) (Nat.lt_succ_self d) (Xn hkp)).trans B0) k (Fr.pass FR i) e.2))))))
include H0 H1 H4 Kv B0 BP FR in
theorem Xjy (h:Zrk PG K nest1 t22 m0 mP):W PG d Ygv σ st (Zw 0 (Zl PG d (sR 25 Ci (sR 26 Co .ret)) Q)):=
 Xs Kv (fun c=>q_ J (Wb (Yn J J (Yn J J Xr)) (Ye H4 B0 J J J (m_ (Zo (hQ _ _ _ _ _ _ _ _ H4 Zj J (Jq hkp BP) (Fr.box FR) (h.1 c))))))) (fun c=>q_ J (m_ ((h.2 c).elim fun _ j=>j.elim fun _ e=>Wi (Ya H0 (Ya J Yr)) e.1 (Nat.lt_succ_of_lt hkp) BP (fun _ k i=>m_ (e_ (Xsc hQ hkp H0 H1 H4 J ((i.1 (d,0) (Nat.lt_succ_self d) (Xn hkp)).trans B0) k (Fr.pass FR i) e.2))))))
include H0 H1 H4 B0 BP FR in
theorem Xt7 (h:Zlj PG K nest1 m0 mP):W PG d Yjd σ st Q:=
 Zk (Yh (q_ J (m_ (h.elim fun _ i=>i.elim fun _ c=>Wi (Ya H0 (Ya J Yr)) c.1 (Nat.lt_succ_of_lt hkp) BP (fun _ j e=>m_ (e_ (Xjy hQ hkp H0 H1 H4 J ((e.1 (d,0) (Nat.lt_succ_self d) (Xn hkp)).trans B0) j (Fr.pass FR e) c.2)))))))
include H0 H1 H4 B0 BP FR in
theorem Xso (h:Zce PG K nest1 m0 mP):W PG d Zmo σ st Q:=
 Zk (q_ J (Xa H1 (b_ J J Xo (Yq J (Ym (g:=14) J (fun c=>z_ 6 J (e_ (Yl J (q_ J (Wb Xr (Ye H4 B0 J J J (m_ (Zo (hQ _ _ _ _ _ _ _ _ H4 Zj J (Jq hkp BP) (Fr.box FR) (h.1 c)))))))))) (fun c=>Zc J (Vo H0 (Zc J (Wp J (Zc J (f_ J (Zc J (l_ J BP J J (Zc J (b_ J J Sp (Vf J J (e_ (Yj J (fun e=>q_ J (Wb Xr (Ye H4 B0 J J J (m_ (Zo (hQ _ _ _ _ _ _ _ _ H4 Zj J (Jq hkp BP) (Fr.box FR) ((h.2 c).1 e))))))) (fun e=>Yc (Xt7 hQ hkp H0 H1 H4 B0 BP FR ((h.2 c).2 e)))))))))))))))))))))
include H0 H1 BP FR in
theorem Yyq (h:Zd2 PG K nest1 mP):W PG d (sR 0 Zyv Zmo) σ st Q:=
 Zk (W.reg (Xy (m_ (e_ (Xso (m0:=(Zb.mk 0 0 [] ([]:List Zb) false)) hQ hkp H0 H1 J (show lk _ (d,0)=some (_,([.i .u8 0,.i .i64 0,.s [],.sl .full (List.map Zb.row ([]:List Zb)),.b false]:List AV)) from Zj) (Jq hkp BP) (Fr.box FR) h)))))
end
theorem Yiv {PG:Za}(hf:PG.fn 107=some Lg){nest1:Int}{mP:Sc}{K:Zb->Bool->Sc->Prop}(h:Zd2 PG K nest1 mP):Qv PG 107 (Bx [.s mP.left]) [.i .i64 nest1] (fun r (b_:Sc)=>∃res0:Zb,∃res1:Bool,(∃o_0:Zn,r=.tup [res0.avo o_0,.b res1])/\K res0 res1 b_) (fun b_=>(Bx [.s b_.left])):=
  Qv.of hf rfl (fun _=>Bx.out) fun d st kp vp hkp hB=>Yyq (Zm:=st) (Q:=fun e σ st'=>(e=.normal\/e=.ret)/\∃r b_,Xm σ st' Lg.res=some r/\_/\_/\Fr d kp st.bx st.ow st'.bx st'.ow) (fun σ st' k0 v0 o_0 res0 res1 b_ H4 HB4 H5 hb hf hk=>⟨.inr rfl,.tup [res0.avo o_0,.b res1],b_,by simp only [Lg,Xm,Vk,Jz (n:=5) H4 HB4 rfl,H5,Qb,Option.map_some,Jz (n:=5) H4 HB4 rfl,H5],⟨res0,res1,⟨o_0,rfl⟩,hk⟩,hb,hf⟩) hkp (σ:=Wh [.p kp vp 0,.i .i64 nest1]) rfl rfl hB Fr.refl h
def Yak:List AI:=[oO 2 (.alloc [z8,z6,zs,zl,zb]),oI 3 0]
def Yb0:List AI:=[oM 9 0,oH 10 9,oV 11 .gtr 10 1400000]
def Ykg:List AI:=[oO 12 (.build [z8,z6,zs,zl,zb] []),oS 5 2 12,oI 3 4]
def Ycu:List AI:=[oM 13 0,oO 14 (.build [zs] [(0,1,(.t 13))]),oY 15 1 14,oM 4 15]
def Yjh:List AI:=[oM 17 4,oO 18 (.call true 107 [(.t 17),(.c (.i .i64 130))]),oM 16 18,oE 19 0 16,oE 20 1 16,oO 5 (.alloc [z8,z6,zs,zl,zb]),oS 5 5 19,oM 6 20]
def Zx3:List AI:=[oM 21 6,oZ 22 21,oM 23 22,gF 23 (oM 24 4),gF 23 (oN 25 24),gF 23 (oF 26 0 25),gF 23 (oL 27 26),gF 23 (oB 28 .neq (.t 27) (.c (.s []))),oR 29 23 28]
def Ydb:List AI:=[oO 30 (.build [z8,z6,zs,zl,zb] []),oS 5 2 30,oI 3 12]
def Yh2:List AI:=[oK 32 5 5,oQ 33 72 [32],oM 31 33,oE 34 0 31,oE 35 1 31,oM 7 34,oM 8 35]
def Ykd:List AI:=[oM 36 8,oV 37 .neq 36 0,oM 38 37,gF 38 (oM 39 7),gF 38 (oM 40 0),gF 38 (oT 41 .neq 39 40),oR 42 38 41]
def Yiw:List AI:=[oO 43 (.build [z8,z6,zs,zl,zb] []),oS 5 2 43,oI 3 12]
def Yaf:List AI:=[oK 44 5 5,oS 5 2 44,oI 3 0]
abbrev b74:AC:=(sR 0 Yak (.seq (sR 1 Yb0 (.cond (.t 11) (sR 2 Ykg .ret) .skip)) (sR 3 Ycu (sR 4 Yjh (.seq (sR 5 Zx3 (.cond (.t 29) (sR 6 Ydb .ret) .skip)) (.seq (sR 7 Yh2 (sR 8 Ykd (.cond (.t 42) (sR 9 Yiw .ret) .skip))) (sR 10 Yaf .ret)))))))
def Zaz:AF:={ nt:=45,res:=[.cell 2 5 true,.tmp 3],body:=b74 }
abbrev H74 (Q:AE->Sl->St->Prop)(K:Zb->Int->Prop):Prop:=∀(σ:Sl)(st:St)(k0:Zq)(v0:Nat)(o0_0:Zn)(res0:Zb)(res1:Int),σ 2=.p k0 v0 0->lk st.bx k0=some (v0,[.i .u8 res0.kind,.i .i64 res0.int,.s res0.text,.sl o0_0 (List.map Zb.row res0.list),.b res0.cut])->σ 3=.i .i64 res1->K res0 res1->Q .ret σ st
def Ztr (PG:Za)(K:Zb->Int->Prop)(s0:BS):Prop:=
  ((s0.length:Int)>1400000->K (Zb.mk 0 0 [] ([]:List Zb) false) 4)/\(¬((s0.length:Int)>1400000)->∃j:Zb,∃e,∃c:Sc,Yt PG 107 (Bx [.s s0]) [.i .i64 130] (fun r=>∃o'4_0:Zn,r=.tup [j.avo o'4_0,.b e]) ((Bx [.s c.left]))/\((!e)=true->K (Zb.mk 0 0 [] ([]:List Zb) false) 12)/\((!e)=false->(c.left≠([]:BS)->K (Zb.mk 0 0 [] ([]:List Zb) false) 12)/\(¬(c.left≠([]:BS))->∃k o,Zf PG 72 [j.av] (.tup [.s k,.i .i64 o])/\(o≠0->K (Zb.mk 0 0 [] ([]:List Zb) false) 12)/\(¬(o≠0)->(k≠s0->K (Zb.mk 0 0 [] ([]:List Zb) false) 12)/\(¬(k≠s0)->K j 0)))))
section
variable {PG:Za}{d:Nat}{Q:AE->Sl->St->Prop}{K:Zb->Int->Prop}(hQ:H74 Q K){σ:Sl}{st:St}
include hQ
variable {s0:BS}
variable (H0:σ 0=.s s0)
include H0 in
theorem Wo6 (h:Ztr PG K s0):W PG d (sR 0 Yak (.seq (sR 1 Yb0 (.cond (.t 11) (sR 2 Ykg .ret) .skip)) (sR 3 Ycu (sR 4 Yjh (.seq (sR 5 Zx3 (.cond (.t 29) (sR 6 Ydb .ret) .skip)) (.seq (sR 7 Yh2 (sR 8 Ykd (.cond (.t 42) (sR 9 Yiw .ret) .skip))) (sR 10 Yaf .ret))))))) σ st Q:=
 Zk (W.reg (Xy (m_ (e_ (Zk (q_ J (m_ (Dl H0 (b_ J J Vt (e_ (Yj J (fun p=>q_ J (Wb Xr (Ye J (show lk _ (d,0)=some (_,([.i .u8 0,.i .i64 0,.s [],.sl .full (List.map Zb.row ([]:List Zb)),.b false]:List AV)) from Zj) J J J (m_ (Zo (hQ _ _ _ _ _ _ _ J Zj J (h.1 p))))))) (fun p=>Yc (q_ J (m_ (Wb (Yn H0 J Xr) (Vx J J (m_ (e_ (Zk (W.reg (m_ (x2 (h.2 p) fun _ _ u=>u.elim fun _ j=>Ee (Ya J (Ya J Yr)) j.1 (Nat.lt_succ_self d) (Zs J Zj) (fun o'4_0 _ v c=>m_ (x_ J J (x_ J J (Xy (Ye J ((c.1 (d,16389) (Nat.lt_succ_self d) (Wk J)).trans (show lk _ (d,16389)=some (_,([.i .u8 0,.i .i64 0,.s [],.sl .full (List.map Zb.row ([]:List Zb)),.b false]:List AV)) from Zj)) J J J (m_ (e_ (Zk (q_ J (Yq J (Xx J (Yq J (Kt (g:=23) J (fun k=>z_ 6 J (e_ (Yl J (q_ J (Wb Xr (Ye J (Zs J ((c.1 (d,0) (Nat.lt_succ_self d) (Wk J)).trans (Zs J (Zs J (show lk _ (d,0)=some (_,([.i .u8 0,.i .i64 0,.s [],.sl .full (List.map Zb.row ([]:List Zb)),.b false]:List AV)) from Zj))))) J J J (m_ (Zo (hQ _ _ _ _ _ _ _ J Zj J (j.2.1 k)))))))))) (fun k=>Zc J (Vo J (Zc J (Wp J (Zc J (f_ J (Zc J (l_ J (Zs J v) J J (Zc J (b_ J J By (Vf J J (e_ (Yj J (fun q=>q_ J (Wb Xr (Ye J (Zs J ((c.1 (d,0) (Nat.lt_succ_self d) (Wk J)).trans (Zs J (Zs J (show lk _ (d,0)=some (_,([.i .u8 0,.i .i64 0,.s [],.sl .full (List.map Zb.row ([]:List Zb)),.b false]:List AV)) from Zj))))) J J J (m_ (Zo (hQ _ _ _ _ _ _ _ J Zj J ((j.2.2 k).1 q))))))) (fun q=>Yc (Zk (q_ J (l_ J Zj J J (x2 ((j.2.2 k).2 q) fun _ _ e=>Yi (Wr J J) e.1 (m_ (x_ J J (x_ J J (m_ (m_ (e_ (q_ J (Xa J (b_ J J Ws (Yq J (Ym (g:=38) J (fun o=>z_ 4 J (e_ (Yl J (q_ J (Wb Xr (Ye J (Zs J ((c.1 (d,0) (Nat.lt_succ_self d) (Wk J)).trans (Zs J (Zs J (show lk _ (d,0)=some (_,([.i .u8 0,.i .i64 0,.s [],.sl .full (List.map Zb.row ([]:List Zb)),.b false]:List AV)) from Zj))))) J J J (m_ (Zo (hQ _ _ _ _ _ _ _ J Zj J (e.2.1 o)))))))))) (fun o=>Zc J (He J (Zc J (He H0 (Zc J (b_ J J By (Vf J J (e_ (Yj J (fun r=>q_ J (Wb Xr (Ye J (Zs J ((c.1 (d,0) (Nat.lt_succ_self d) (Wk J)).trans (Zs J (Zs J (show lk _ (d,0)=some (_,([.i .u8 0,.i .i64 0,.s [],.sl .full (List.map Zb.row ([]:List Zb)),.b false]:List AV)) from Zj))))) J J J (m_ (Zo (hQ _ _ _ _ _ _ _ J Zj J ((e.2.2 o).1 r))))))) (fun r=>Yc (q_ J (l_ J Zj J J (Ye J (Zs J ((c.1 (d,0) (Nat.lt_succ_self d) (Wk J)).trans (Zs J (Zs J (show lk _ (d,0)=some (_,([.i .u8 0,.i .i64 0,.s [],.sl .full (List.map Zb.row ([]:List Zb)),.b false]:List AV)) from Zj))))) J J J (m_ (Zo (hQ _ _ _ _ _ _ _ J Zj J ((e.2.2 o).2 r)))))))))))))))))))))))))))))))))))))))))))))))))))))))))))))))))))))))))))))))))
end
theorem p74 {PG:Za}(hf:PG.fn 74=some Zaz){s0:BS}{K:Zb->Int->Prop}(h:Ztr PG K s0) :∃res0:Zb,∃res1:Int,K res0 res1/\Zf PG 74 [.s s0] (.tup [res0.av,.i .i64 res1]):=by
  obtain ⟨v,hv,res0,res1,hk,rfl⟩:=Zf.of (K:=fun v=>∃res0:Zb,∃res1:Int,K res0 res1/\v=.tup [res0.av,.i .i64 res1]) hf rfl (Wo6 (σ:=Wh [.s s0]) (fun σ st k0 v0 o0_0 res0 res1 H2 HB2 H3 hk=>⟨.tup [res0.avo o0_0,.i .i64 res1],by simp only [Zaz,Xm,Vk,Jz (n:=5) H2 HB2 rfl,H3,Qb,Option.map_some],_,rfl,res0,res1,hk,rfl⟩) rfl h)
  exact ⟨res0,res1,hk,hv⟩
abbrev H75 (Q:AE->Sl->St->Prop)(K:Zb->Int->Prop):Prop:=∀(σ:Sl)(st:St)(k0:Zq)(v0:Nat)(o0_0:Zn)(res0:Zb)(res1:Int),σ 2=.p k0 v0 0->lk st.bx k0=some (v0,[.i .u8 res0.kind,.i .i64 res0.int,.s res0.text,.sl o0_0 (List.map Zb.row res0.list),.b res0.cut])->σ 3=.i .i64 res1->K res0 res1->Q .ret σ st
section
variable {PG:Za}{d:Nat}{Q:AE->Sl->St->Prop}{K:Zb->Int->Prop}(hQ:H75 Q K){σ:Sl}{st:St}
include hQ
end
abbrev Xhz (Q:AE->Sl->St->Prop)(K:Zb->BS->Bool->Prop):Prop:=∀(σ:Sl)(st:St)(k0:Zq)(v0:Nat)(o0_0:Zn)(res0:Zb)(res1:BS)(res2:Bool),σ 4=.p k0 v0 0->lk st.bx k0=some (v0,[.i .u8 res0.kind,.i .i64 res0.int,.s res0.text,.sl o0_0 (List.map Zb.row res0.list),.b res0.cut])->σ 5=.s res1->σ 6=.b res2->K res0 res1 res2->Q .ret σ st
section
variable {PG:Za}{d:Nat}{Q:AE->Sl->St->Prop}{K:Zb->BS->Bool->Prop}(hQ:Xhz Q K){σ:Sl}{st:St}
include hQ
end
abbrev Won (Q:AE->Sl->St->Prop)(K:Bool->Prop):Prop:=∀(σ:Sl)(st:St)(res0:Bool),σ 4=.b res0->K res0->Q .ret σ st
section
variable {PG:Za}{d:Nat}{Q:AE->Sl->St->Prop}{K:Bool->Prop}(hQ:Won Q K){σ:Sl}{st:St}
include hQ
end
abbrev Wto (Q:AE->Sl->St->Prop)(K:Zb->BS->Bool->Prop):Prop:=∀(σ:Sl)(st:St)(k0:Zq)(v0:Nat)(o0_0:Zn)(res0:Zb)(res1:BS)(res2:Bool),σ 8=.p k0 v0 0->lk st.bx k0=some (v0,[.i .u8 res0.kind,.i .i64 res0.int,.s res0.text,.sl o0_0 (List.map Zb.row res0.list),.b res0.cut])->σ 9=.s res1->σ 10=.b res2->K res0 res1 res2->Q .ret σ st
section
variable {PG:Za}{d:Nat}{Q:AE->Sl->St->Prop}{K:Zb->BS->Bool->Prop}(hQ:Wto Q K){σ:Sl}{st:St}
include hQ
end
abbrev Xp6 (Q:AE->Sl->St->Prop)(K:Int->Prop):Prop:=∀(σ:Sl)(st:St)(res0:Int),σ 2=.i .i64 res0->K res0->Q .ret σ st
section
variable {PG:Za}{d:Nat}{Q:AE->Sl->St->Prop}{K:Int->Prop}(hQ:Xp6 Q K){σ:Sl}{st:St}
include hQ
end
abbrev Wsx (Q:AE->Sl->St->Prop)(K:Int->Prop):Prop:=∀(σ:Sl)(st:St)(res0:Int),σ 2=.i .i64 res0->K res0->Q .ret σ st
section
variable {PG:Za}{d:Nat}{Q:AE->Sl->St->Prop}{K:Int->Prop}(hQ:Wsx Q K){σ:Sl}{st:St}
include hQ
end
def Yc4:List AI:=[oY 2 5 0,oY 3 5 1,oC 4 (.b false)]
def Ykr:List AI:=[oF 6 0 2,oL 7 6,oF 8 0 3,oL 9 8,oT 10 .neq 7 9,oM 11 10,gF 11 (oF 12 1 2),gF 11 (oL 13 12),gF 11 (oF 14 1 3),gF 11 (oL 15 14),gF 11 (oT 16 .neq 13 15),oR 17 11 16,oM 18 17,gF 18 (oF 19 2 2),gF 18 (oL 20 19),gF 18 (oF 21 2 3),gF 18 (oL 22 21),gF 18 (oT 23 .neq 20 22),oR 24 18 23,oM 25 24,gF 25 (oF 26 4 2),gF 25 (oL 27 26),gF 25 (oF 28 4 3),gF 25 (oL 29 28),gF 25 (oO 30 (.beq true (.t 27) (.t 29))),oR 31 25 30,oM 32 31,gF 32 (oF 33 3 2),gF 32 (oL 34 33),gF 32 (oJ 35 34),gF 32 (oF 36 3 3),gF 32 (oL 37 36),gF 32 (oJ 38 37),gF 32 (oT 39 .neq 35 38),oR 40 32 39]
def Yml:List AI:=[oC 4 (.b false)]
def Yae:List AI:=[oI 5 0]
def Xzc:List AI:=[oM 41 5,oF 42 3 2,oL 43 42,oJ 44 43,oT 45 .lss 41 44]
def Xwf:List AI:=[oF 48 3 2,oL 49 48,oM 50 5,oX 51 5 49 50,oK 52 5 51,oF 53 3 3,oL 54 53,oM 55 5,oX 56 5 54 55,oK 57 5 56,oQ 58 78 [52,57],oZ 59 58]
def Wr0:List AI:=[oC 4 (.b false)]
def Wc2:List AI:=[oM 46 5,oV 47 .add 46 1,oM 5 47]
def Wio:List AI:=[oC 4 (.b true)]
abbrev Zbo:AC:=(.seq (sR 4 Xzc (.cond (.t 45) .skip (.exit 0))) (.seq (.block 1 (sR 6 Xwf (.cond (.t 59) (sR 7 Wr0 .ret) .skip))) (.reg 5 Wc2)))
abbrev Ox:AC:=(sR 8 Wio .ret)
abbrev b78:AC:=(sR 0 Yc4 (.seq (sR 1 Ykr (.cond (.t 40) (sR 2 Yml .ret) .skip)) (.seq (sR 3 Yae (.block 0 (.loop Zbo))) Ox)))
def Zca:AF:={ nt:=60,res:=[.tmp 4],body:=b78 }
abbrev Yfb (PG:Za)(d:Nat)(Q:AE->Sl->St->Prop)(i5:Int)(m0:Zb)(m1:Zb):Prop:=
  ∀(σ:Sl)(st:St) (v0 v1:Nat),σ 2=.p (d,0) v0 0->σ 3=.p (d,1) v1 0->σ 5=.i .i64 i5->lk st.bx (d,0)=some (v0,Zb.cs m0)->lk st.bx (d,1)=some (v1,Zb.cs m1)->W PG d (.loop Zbo) σ st (Zw 0 (Zl PG d Ox Q))
def Zrz (PG:Za)(K:Bool->Prop) :Prop:=
  K true
def Zcz (PG:Za)(K:Bool->Prop)(P0:Int->Zb->Zb->Prop)(i5:Int)(m0:Zb)(m1:Zb):Prop:=
  (i5<(m0.list.length:Int)->0<=i5/\∃e:Zb,m0.list[(i5).toNat]?=some e/\0<=i5/\∃i:Zb,m1.list[(i5).toNat]?=some i/\∃c,Zf PG 78 [e.av,i.av] (.b c)/\((!c)=true->K false)/\((!c)=false->P0 (IntKind.i64.wrap (i5+1)) m0 m1))/\(¬(i5<(m0.list.length:Int))->Zrz PG K )
def Zoh (PG:Za)(K:Bool->Prop)(a0:Zb)(b1:Zb):Prop:=
  (a0.kind≠b1.kind->K false)/\(¬(a0.kind≠b1.kind)->(a0.int≠b1.int->K false)/\(¬(a0.int≠b1.int)->(a0.text≠b1.text->K false)/\(¬(a0.text≠b1.text)->(a0.cut≠b1.cut->K false)/\(¬(a0.cut≠b1.cut)->((a0.list.length:Int)≠(b1.list.length:Int)->K false)/\(¬((a0.list.length:Int)≠(b1.list.length:Int))->∀P0:Int->Zb->Zb->Prop,(∀(i5:Int)(m0:Zb)(m1:Zb),Zcz PG K P0 i5 m0 m1->P0 i5 m0 m1)->P0 0 a0 b1)))))
section
variable {PG:Za}{d:Nat}{Q:AE->Sl->St->Prop}{K:Bool->Prop}(hQ:H1 AV.b 4 Q K){σ:Sl}{st:St}
include hQ
variable {i5:Int}{m0 m1:Zb}{P0:Int->Zb->Zb->Prop}{v0 v1:Nat}{a0 b1:Zb}
variable (kP0 :∀(i5:Int)(m0:Zb)(m1:Zb),P0 i5 m0 m1->Yfb PG d Q i5 m0 m1)(H0:σ 0=a0.av)(H2:σ 2=.p (d,0) v0 0)(H1:σ 1=b1.av)(H3:σ 3=.p (d,1) v1 0)(H5:σ 5=.i .i64 i5)(B0:lk st.bx (d,0)=some (v0,Zb.cs m0))(B1:lk st.bx (d,1)=some (v1,Zb.cs m1))
theorem Xg1 (h:Zrz PG K ):W PG d Ox σ st Q:=
 au trivial
include kP0 H2 H3 H5 B0 B1 in
theorem Ysp (h:Zcz PG K P0 i5 m0 m1):W PG d Zbo σ st (Zl PG d (.loop Zbo) (Zw 0 (Zl PG d Ox Q))):=
 au @Xg1
include H0 H1 in
theorem Wrg (h:Zoh PG K a0 b1):W PG d (sR 0 Yc4 (.seq (sR 1 Ykr (.cond (.t 40) (sR 2 Yml .ret) .skip)) (.seq (sR 3 Yae (.block 0 (.loop Zbo))) Ox))) σ st Q:=
 q_ J (Vx H0 J (Vx H1 J (m_ (e_ (Zk (q_ J (f_ J (l_ J (Zs J Zj) J J (f_ J (l_ J Zj J J (b_ J J Ws (Yq J (Ym (g:=11) J (fun c=>z_ 29 J (e_ (Yl J (q_ J (m_ (Zo (hQ J (h.1 c)))))))) (fun c=>Zc J (f_ J (Zc J (l_ J (Zs J Zj) J J (Zc J (f_ J (Zc J (l_ J Zj J J (Zc J (b_ J J Ws (z_ 2 J (Ym (g:=18) J (fun e=>z_ 22 J (e_ (Yl J (q_ J (m_ (Zo (hQ J ((h.2 c).1 e)))))))) (fun e=>Zc J (f_ J (Zc J (l_ J (Zs J Zj) J J (Zc J (f_ J (Zc J (l_ J Zj J J (Zc J (b_ J J By (z_ 2 J (Ym (g:=25) J (fun i=>z_ 15 J (e_ (Yl J (q_ J (m_ (Zo (hQ J (((h.2 c).2 e).1 i)))))))) (fun i=>Zc J (f_ J (Zc J (l_ J (Zs J Zj) J J (Zc J (f_ J (Zc J (l_ J Zj J J (Zc J (Ztc J J (z_ 2 J (Ym (g:=32) J (fun j=>z_ 8 J (e_ (Yl J (q_ J (m_ (Zo (hQ J ((((h.2 c).2 e).2 i).1 j)))))))) (fun j=>Zc J (f_ J (Zc J (l_ J (Zs J Zj) J J (Zc J (Yo J (Zc J (f_ J (Zc J (l_ J Zj J J (Zc J (Yo J (Zc J (b_ J J Ws (Vf J J (e_ (Yj J (fun k=>q_ J (m_ (Zo (hQ J (((((h.2 c).2 e).2 i).2 j).1 k))))) (fun k=>Yc (Zk (q_ J (m_ (e_ (Yh ((((((h.2 c).2 e).2 i).2 j).2 k) (Yfb PG d Q ) (fun _ _ _ hb _ _ _ _ H2 H3 H5 B0 B1=>W.loop (Ysp hQ (fun _ _ _ x=>x) H2 H3 H5 B0 B1 hb)) _ _ _ _ J J J (Zs J Zj) Zj)))))))))))))))))))))))))))))))))))))))))))))))))))))))))))))))))))))))))
end
theorem p78 {PG:Za}(hf:PG.fn 78=some Zca){a0:Zb}{b1:Zb}{K:Bool->Prop}(h:Zoh PG K a0 b1) :∃res0:Bool,K res0/\Zf PG 78 [a0.av,b1.av] (.b res0):=
 P1 hf J (Wrg (h1 J fun _=>J) J J h)
end Go.AM

/- Yg of the proof. -/
namespace Go.AM
open Go
set_option linter.unusedVariables false
set_option linter.unusedSimpArgs false
set_option maxRecDepth 4000
set_option maxHeartbeats 2000000
attribute [local irreducible] Decidable.decide W WO Ww Wx
def You:List AI:=[oC 2 (.s []),oC 3 (.b false)]
def Wnh:List AI:=[oI 4 1]
def Whp:List AI:=[oM 8 4,oM 9 0,oN 10 9,oF 11 0 10,oL 12 11,oH 13 12,oT 14 .geq 8 13,oM 7 14]
def Xzu:List AI:=[oC 2 (.s []),oC 3 (.b false)]
def Xxd:List AI:=[oM 16 0,oN 17 16,oF 18 0 17,oL 19 18,oM 20 4,oO 21 (.ixS (.t 19) (.t 20)),oW 22 .eql 21 92,oM 15 22]
def Wcm:List AI:=[oM 23 4,oV 24 .add 23 2,oM 4 24]
def Xg8:List AI:=[oM 26 0,oN 27 26,oF 28 0 27,oL 29 28,oM 30 4,oO 31 (.ixS (.t 29) (.t 30)),oW 32 .neq 31 34,oM 25 32]
def Xow:List AI:=[oM 33 4,oV 34 .add 33 1,oM 4 34]
def Wqn:List AI:=[oM 36 0,oN 37 36,oF 38 0 37,oL 39 38,oM 40 4,oV 41 .add 40 1,oO 42 (.slS (.t 39) none (some (.t 41))),oQ 43 25 [42],oM 35 43,oE 44 0 35,oE 45 1 35,oM 5 44,oM 6 45]
def Yyh:List AI:=[oM 46 0,oM 47 0,oN 48 47,oF 49 0 48,oL 50 49,oM 51 4,oV 52 .add 51 1,oO 53 (.slS (.t 50) (some (.t 52)) none),oN 54 46,oF 55 0 54,oS 1 55 53]
def Wha:List AI:=[oM 56 5,oM 57 6,oV 58 .eql 57 0,oM 2 56,oM 3 58]
abbrev Zi4:AC:=(.seq (.block 0 (sR 2 Whp (.cond (.t 7) (sR 3 Xzu .ret) (sR 4 Xxd (.cond (.t 15) (sR 5 Wcm (.goto 0)) (sR 6 Xg8 (.cond (.t 25) (sR 7 Xow (.goto 0)) .skip))))))) (sR 8 Wqn (sR 9 Yyh (sR 10 Wha .ret))))
abbrev Zro:AC:=(.gscope 0 (.reg 1 Wnh) Zi4)
abbrev Xun:AC:=(sR 0 You Zro)
def Pw:AF:={ nt:=59,res:=[.tmp 2,.tmp 3],body:=Xun }
abbrev Yvu (d:Nat)(Zm:St)(kp:Zq)(vp:Nat)(Q:AE->Sl->St->Prop)(K:BS->Bool->Sc->Prop):Prop:=∀(σ:Sl)(st:St)(res0:BS)(res1:Bool)(b_:Sc),σ 2=.s res0->σ 3=.b res1->lk st.bx kp=some (vp,[.s b_.left])->Fr d kp Zm.bx Zm.ow st.bx st.ow->K res0 res1 b_->Q .ret σ st
abbrev Yk4 (PG:Za)(d:Nat)(Q:AE->Sl->St->Prop)(Zm:St)(kp:Zq)(vp:Nat)(n4:Int)(mP:Sc):Prop:=
  ∀(σ:Sl)(st:St),σ 0=.p kp vp 0->σ 4=.i .i64 n4->lk st.bx kp=some (vp,[.s mP.left])->Fr d kp Zm.bx Zm.ow st.bx st.ow->WG PG d 0 Zi4 σ st Q
def Zr0 (PG:Za)(K:BS->Bool->Sc->Prop)(P0:Int->Sc->Prop)(n4:Int)(mP:Sc):Prop:=
  (n4>=(mP.left.length:Int)->K ([]:BS) false mP)/\(¬(n4>=(mP.left.length:Int))->0<=n4/\∃c:UInt8,mP.left[(n4).toNat]?=some c/\((c.toNat:Int)=92->P0 (IntKind.i64.wrap (n4+2)) mP)/\(¬((c.toNat:Int)=92)->0<=n4/\∃e:UInt8,mP.left[(n4).toNat]?=some e/\((e.toNat:Int)≠34->P0 (IntKind.i64.wrap (n4+1)) mP)/\(¬((e.toNat:Int)≠34)->0<=(IntKind.i64.wrap (n4+1))/\(IntKind.i64.wrap (n4+1)).toNat<=mP.left.length/\∃k j,Zf PG 25 [.s (mP.left.take (IntKind.i64.wrap (n4+1)).toNat)] (.tup [.s k,.i .i64 j])/\0<=(IntKind.i64.wrap (n4+1))/\(IntKind.i64.wrap (n4+1)).toNat<=mP.left.length/\K k (decide (j=0)) (Sc.mk (mP.left.drop (IntKind.i64.wrap (n4+1)).toNat)))))
def Zuh (PG:Za)(K:BS->Bool->Sc->Prop)(mP:Sc):Prop:=
  ∀P0:Int->Sc->Prop,(∀(n4:Int)(mP:Sc),Zr0 PG K P0 n4 mP->P0 n4 mP)->P0 1 mP
def Zn3 (PG:Za)(K:BS->Bool->Sc->Prop)(mP:Sc):Prop:=
  Zuh PG K mP
section
variable {PG:Za}{d:Nat}{Q:AE->Sl->St->Prop}{K:BS->Bool->Sc->Prop}{Zm:St}{kp:Zq}{vp:Nat}(hQ:Yvu d Zm kp vp Q K)(hkp:kp.1<d){σ:Sl}{st:St}
include hQ hkp
variable {n4:Int}{mP:Sc}{P0:Int->Sc->Prop}
variable (kP0 :∀(n4:Int)(mP:Sc),P0 n4 mP->Yk4 PG d Q Zm kp vp n4 mP)(H0:σ 0=.p kp vp 0)(H4:σ 4=.i .i64 n4)(BP:lk st.bx kp=some (vp,[.s mP.left]))(FR:Fr d kp Zm.bx Zm.ow st.bx st.ow)
include kP0 H0 H4 BP FR in
theorem War (h:Zr0 PG K P0 n4 mP):W PG d Zi4 σ st (Zq0 PG d 0 Zi4 Q):=
 Zk (Yh (q_ J (m_ (m_ (Wp H0 (f_ J (l_ J BP J J (Dl J (b_ H4 J Ul (m_ (e_ (Yj J (fun k=>q_ J (m_ (m_ (Zo (hQ _ _ _ _ _ J J BP FR (h.1 k)))))) (fun k=>q_ J (m_ (Wp H0 (f_ J (l_ J BP J J (m_ ((h.2 k).2.elim fun _ j=>Uw J H4 (h.2 k).1 j.1 (b_ J J Xo (m_ (e_ (Yj J (fun o=>q_ J (m_ (b_ H4 J Vd (m_ (e_ (W.goto ⟨rfl,kP0 _ _ (j.2.1 o) _ _ H0 J BP FR⟩)))))) (fun o=>q_ J (m_ (Wp H0 (f_ J (l_ J BP J J (m_ ((j.2.2 o).2.elim fun _ c=>Uw J H4 (j.2.2 o).1 c.1 (b_ J J Ws (m_ (e_ (Yj J (fun e=>q_ J (m_ (b_ H4 J Vd (m_ (e_ (W.goto ⟨rfl,kP0 _ _ (c.2.1 e) _ _ H0 J BP FR⟩)))))) (fun e=>Yc (q_ J (m_ (Wp H0 (f_ J (l_ J BP J J (m_ (b_ H4 J Vd (Md J J (c.2.2 e).1 (c.2.2 e).2.1 (x2 (c.2.2 e).2.2 fun _ _ i=>Yi (Wr J J) i.1 (m_ (x_ J J (x_ J J (m_ (m_ (e_ (q_ J (m_ (m_ (Wp H0 (f_ J (l_ J BP J J (m_ (b_ H4 J Vd (Hb J J i.2.1 i.2.2.1 (Wp H0 (f_ J (Ye J BP J J J (e_ (q_ J (m_ (m_ (b_ J J Xo (m_ (m_ (Zo (hQ _ _ _ _ _ J J Zj (Fr.own FR) i.2.2.2)))))))))))))))))))))))))))))))))))))))))))))))))))))))))))))))))))))))
include H0 BP FR in
theorem Ytf (h:Zuh PG K mP):W PG d Zro σ st Q:=
 W.gscope' (W.reg0 J fun _ _=>m_ (e_ (h (Yk4 PG d Q Zm kp vp ) (fun _ _ hb _ _ H0 H4 BP FR=>WG.step (War hQ hkp (fun _ _ x=>x) H0 H4 BP FR hb)) _ _ H0 J BP FR)))
include H0 BP FR in
theorem Yzy (h:Zn3 PG K mP):W PG d (sR 0 You Zro) σ st Q:=
 au @Ytf
end
theorem Xw6 {PG:Za}(hf:PG.fn 130=some Pw){mP:Sc}{K:BS->Bool->Sc->Prop}(h:Zn3 PG K mP):Qv PG 130 (Bx [.s mP.left]) [] (fun r (b_:Sc)=>∃res0:BS,∃res1:Bool,(r=.tup [.s res0,.b res1])/\K res0 res1 b_) (fun b_=>(Bx [.s b_.left])):=
  Qv.of hf rfl (fun _=>Bx.out) fun d st kp vp hkp hB=>Yzy (Zm:=st) (Q:=fun e σ st'=>(e=.normal\/e=.ret)/\∃r b_,Xm σ st' Pw.res=some r/\_/\_/\Fr d kp st.bx st.ow st'.bx st'.ow) (fun σ st'   res0 res1 b_ H2 H3 hb hf hk=>⟨.inr rfl,.tup [.s res0,.b res1],b_,by simp only [Pw,Xm,Vk,H2,H3,Kp,Option.map_some,H2,H3],⟨res0,res1,rfl,hk⟩,hb,hf⟩) hkp (σ:=Wh [.p kp vp 0]) rfl hB Fr.refl h
def Ydh:List AI:=[oI 2 0,oC 3 (.b false)]
def Xvm:List AI:=[oI 4 0]
def Xmd:List AI:=[oM 7 4,oM 8 0,oN 9 8,oF 10 0 9,oL 11 10,oH 12 11,oT 13 .lss 7 12,oM 14 13,gT 14 (oM 15 0),gT 14 (oN 16 15),gT 14 (oF 17 0 16),gT 14 (oL 18 17),gT 14 (oM 19 4),gT 14 (oO 20 (.ixS (.t 18) (.t 19))),gT 14 (oW 21 .geq 20 48),gT 14 (oM 22 21),gT 22 (oM 23 0),gT 22 (oN 24 23),gT 22 (oF 25 0 24),gT 22 (oL 26 25),gT 22 (oM 27 4),gT 22 (oO 28 (.ixS (.t 26) (.t 27))),gT 22 (oW 29 .leq 28 57),gT 14 (oA 30 22 29),gT 14 (oM 31 30),gF 31 (oM 32 4),gF 31 (oV 33 .eql 32 0),gF 31 (oM 34 33),gT 34 (oM 35 0),gT 34 (oN 36 35),gT 34 (oF 37 0 36),gT 34 (oL 38 37),gT 34 (oM 39 4),gT 34 (oO 40 (.ixS (.t 38) (.t 39))),gT 34 (oW 41 .eql 40 45),gF 31 (oA 42 34 41),gT 14 (oR 43 31 42),oA 44 14 43]
def Wbi:List AI:=[oM 45 4,oV 46 .add 45 1,oM 4 46]
def Wrz:List AI:=[oM 48 0,oN 49 48,oF 50 0 49,oL 51 50,oM 52 4,oO 53 (.slS (.t 51) none (some (.t 52))),oQ 54 21 [53],oM 47 54,oE 55 0 47,oE 56 1 47,oM 5 55,oM 6 56]
def Xv8:List AI:=[oM 57 0,oM 58 0,oN 59 58,oF 60 0 59,oL 61 60,oM 62 4,oO 63 (.slS (.t 61) (some (.t 62)) none),oN 64 57,oF 65 0 64,oS 1 65 63]
def Wlg:List AI:=[oM 66 5,oM 67 6,oV 68 .eql 67 0,oM 2 66,oM 3 68]
abbrev Ze2:AC:=(.seq (sR 2 Xmd (.cond (.t 44) (sR 3 Wbi (.goto 0)) .skip)) (sR 4 Wrz (sR 5 Xv8 (sR 6 Wlg .ret))))
abbrev Zp0:AC:=(.gscope 0 (.reg 1 Xvm) Ze2)
abbrev Xfe:AC:=(sR 0 Ydh Zp0)
def Lq:AF:={ nt:=69,res:=[.tmp 2,.tmp 3],body:=Xfe }
abbrev Wtv (d:Nat)(Zm:St)(kp:Zq)(vp:Nat)(Q:AE->Sl->St->Prop)(K:Int->Bool->Sc->Prop):Prop:=∀(σ:Sl)(st:St)(res0:Int)(res1:Bool)(b_:Sc),σ 2=.i .i64 res0->σ 3=.b res1->lk st.bx kp=some (vp,[.s b_.left])->Fr d kp Zm.bx Zm.ow st.bx st.ow->K res0 res1 b_->Q .ret σ st
abbrev Yg5 (PG:Za)(d:Nat)(Q:AE->Sl->St->Prop)(Zm:St)(kp:Zq)(vp:Nat)(n4:Int)(mP:Sc):Prop:=
  ∀(σ:Sl)(st:St),σ 0=.p kp vp 0->σ 4=.i .i64 n4->lk st.bx kp=some (vp,[.s mP.left])->Fr d kp Zm.bx Zm.ow st.bx st.ow->WG PG d 0 Ze2 σ st Q
def Zhq (PG:Za)(K:Int->Bool->Sc->Prop)(P0:Int->Sc->Prop)(n4:Int)(mP:Sc):Prop:=
  (n4<(mP.left.length:Int)->0<=n4/\∃c:UInt8,mP.left[(n4).toNat]?=some c/\((c.toNat:Int)>=48->0<=n4/\∃k:UInt8,mP.left[(n4).toNat]?=some k/\((k.toNat:Int)<=57->P0 (IntKind.i64.wrap (n4+1)) mP)/\(¬((k.toNat:Int)<=57)->(n4=0->0<=n4/\∃j:UInt8,mP.left[(n4).toNat]?=some j/\((j.toNat:Int)=45->P0 (IntKind.i64.wrap (n4+1)) mP)/\(¬((j.toNat:Int)=45)->0<=n4/\(n4).toNat<=mP.left.length/\∃w x,Zf PG 21 [.s (mP.left.take (n4).toNat)] (.tup [.i .i64 w,.i .i64 x])/\0<=n4/\(n4).toNat<=mP.left.length/\K w (decide (x=0)) (Sc.mk (mP.left.drop (n4).toNat))))/\(¬(n4=0)->0<=n4/\(n4).toNat<=mP.left.length/\∃o q,Zf PG 21 [.s (mP.left.take (n4).toNat)] (.tup [.i .i64 o,.i .i64 q])/\0<=n4/\(n4).toNat<=mP.left.length/\K o (decide (q=0)) (Sc.mk (mP.left.drop (n4).toNat)))))/\(¬((c.toNat:Int)>=48)->(n4=0->0<=n4/\∃e:UInt8,mP.left[(n4).toNat]?=some e/\((e.toNat:Int)=45->P0 (IntKind.i64.wrap (n4+1)) mP)/\(¬((e.toNat:Int)=45)->0<=n4/\(n4).toNat<=mP.left.length/\∃r v,Zf PG 21 [.s (mP.left.take (n4).toNat)] (.tup [.i .i64 r,.i .i64 v])/\0<=n4/\(n4).toNat<=mP.left.length/\K r (decide (v=0)) (Sc.mk (mP.left.drop (n4).toNat))))/\(¬(n4=0)->0<=n4/\(n4).toNat<=mP.left.length/\∃u p,Zf PG 21 [.s (mP.left.take (n4).toNat)] (.tup [.i .i64 u,.i .i64 p])/\0<=n4/\(n4).toNat<=mP.left.length/\K u (decide (p=0)) (Sc.mk (mP.left.drop (n4).toNat)))))/\(¬(n4<(mP.left.length:Int))->0<=n4/\(n4).toNat<=mP.left.length/\∃y z,Zf PG 21 [.s (mP.left.take (n4).toNat)] (.tup [.i .i64 y,.i .i64 z])/\0<=n4/\(n4).toNat<=mP.left.length/\K y (decide (z=0)) (Sc.mk (mP.left.drop (n4).toNat)))
def Zqd (PG:Za)(K:Int->Bool->Sc->Prop)(mP:Sc):Prop:=
  ∀P0:Int->Sc->Prop,(∀(n4:Int)(mP:Sc),Zhq PG K P0 n4 mP->P0 n4 mP)->P0 0 mP
def Ztx (PG:Za)(K:Int->Bool->Sc->Prop)(mP:Sc):Prop:=
  Zqd PG K mP
section
variable {PG:Za}{d:Nat}{Q:AE->Sl->St->Prop}{K:Int->Bool->Sc->Prop}{Zm:St}{kp:Zq}{vp:Nat}(hQ:Wtv d Zm kp vp Q K)(hkp:kp.1<d){σ:Sl}{st:St}
include hQ hkp
variable {n4:Int}{mP:Sc}{P0:Int->Sc->Prop}
variable (kP0 :∀(n4:Int)(mP:Sc),P0 n4 mP->Yg5 PG d Q Zm kp vp n4 mP)(H0:σ 0=.p kp vp 0)(H4:σ 4=.i .i64 n4)(BP:lk st.bx kp=some (vp,[.s mP.left]))(FR:Fr d kp Zm.bx Zm.ow st.bx st.ow)
include kP0 H0 H4 BP FR in
theorem Xg5 (h:Zhq PG K P0 n4 mP):W PG d Ze2 σ st (Zq0 PG d 0 Ze2 Q):=
 Zk (q_ J (Xa H4 (Vo H0 (Wp J (f_ J (l_ J BP J J (Dl J (b_ J J Wn (Yq J (Ym (g:=14) J (fun k=>Zc J (Vo H0 (Zc J (Wp J (Zc J (f_ J (Zc J (l_ J BP J J (Zc J (Xa H4 (Zc J ((h.1 k).2.elim fun _ c=>Uw J J (h.1 k).1 c.1 (Zc J (b_ J J Ul (Zc J (Yq J (Ym (g:=22) J (fun e=>Zc J (Vo H0 (Zc J (Wp J (Zc J (f_ J (Zc J (l_ J BP J J (Zc J (Xa H4 (Zc J ((c.2.1 e).2.elim fun _ i=>Uw J J (c.2.1 e).1 i.1 (Zc J (b_ J J Zcg (Zc J (Hr J J (Zc J (Yq J (Ym (g:=31) J (fun j=>z_ 3 J (Xj J (Xj J (Xj J (Xj J (Xj J (Xj J (Xj J (nT J (Zc J (z_ 2 J (e_ (Yl J (q_ J (m_ (b_ H4 J Vd (m_ (e_ (W.goto ⟨rfl,kP0 _ _ (i.2.1 j) _ _ H0 J BP FR⟩))))))))))))))))))) (fun j=>Zc J (Xa H4 (Zc J (b_ J J Xo (Zc J (Yq J (Ym (g:=34) J (fun p=>Zc J (Vo H0 (Zc J (Wp J (Zc J (f_ J (Zc J (l_ J BP J J (Zc J (Xa H4 (Zc J (((i.2.2 j).1 p).2.elim fun _ q=>Uw J J ((i.2.2 j).1 p).1 q.1 (Zc J (b_ J J Xo (Zc J (Hr J J (Zc J (z_ 2 J (e_ (Yj J (fun s=>q_ J (m_ (b_ H4 J Vd (m_ (e_ (W.goto ⟨rfl,kP0 _ _ (q.2.1 s) _ _ H0 J BP FR⟩)))))) (fun s=>Yc (q_ J (m_ (Wp H0 (f_ J (l_ J BP J J (m_ (Md J H4 (q.2.2 s).1 (q.2.2 s).2.1 (x2 (q.2.2 s).2.2 fun _ _ v=>Yi (Wr J J) v.1 (m_ (x_ J J (x_ J J (m_ (m_ (e_ (q_ J (m_ (m_ (Wp H0 (f_ J (l_ J BP J J (m_ (Hb J H4 v.2.1 v.2.2.1 (Wp H0 (f_ J (Ye J BP J J J (e_ (q_ J (m_ (m_ (b_ J J Xo (m_ (m_ (Zo (hQ _ _ _ _ _ J J Zj (Fr.own FR) v.2.2.2))))))))))))))))))))))))))))))))))))))))))))))))))))))) (fun p=>z_ 7 J (Zc J (Vf J J (Zc J (z_ 2 J (e_ (Ur J (Yc (q_ J (m_ (Wp H0 (f_ J (l_ J BP J J (m_ (Md J H4 ((i.2.2 j).2 p).1 ((i.2.2 j).2 p).2.1 (x2 ((i.2.2 j).2 p).2.2 fun _ _ w=>Yi (Wr J J) w.1 (m_ (x_ J J (x_ J J (m_ (m_ (e_ (q_ J (m_ (m_ (Wp H0 (f_ J (l_ J BP J J (m_ (Hb J H4 w.2.1 w.2.2.1 (Wp H0 (f_ J (Ye J BP J J J (e_ (q_ J (m_ (m_ (b_ J J Xo (m_ (m_ (Zo (hQ _ _ _ _ _ J J Zj (Fr.own FR) w.2.2.2)))))))))))))))))))))))))))))))))))))))))))))))))))))))))))))))))))) (fun e=>z_ 7 J (Zc J (Vf J J (Zc J (Yq J (Zc J (Xa H4 (Zc J (b_ J J Xo (Zc J (Yq J (Ym (g:=34) J (fun o=>Zc J (Vo H0 (Zc J (Wp J (Zc J (f_ J (Zc J (l_ J BP J J (Zc J (Xa H4 (Zc J (((c.2.2 e).1 o).2.elim fun _ r=>Uw J J ((c.2.2 e).1 o).1 r.1 (Zc J (b_ J J Xo (Zc J (Hr J J (Zc J (z_ 2 J (e_ (Yj J (fun u=>q_ J (m_ (b_ H4 J Vd (m_ (e_ (W.goto ⟨rfl,kP0 _ _ (r.2.1 u) _ _ H0 J BP FR⟩)))))) (fun u=>Yc (q_ J (m_ (Wp H0 (f_ J (l_ J BP J J (m_ (Md J H4 (r.2.2 u).1 (r.2.2 u).2.1 (x2 (r.2.2 u).2.2 fun _ _ x=>Yi (Wr J J) x.1 (m_ (x_ J J (x_ J J (m_ (m_ (e_ (q_ J (m_ (m_ (Wp H0 (f_ J (l_ J BP J J (m_ (Hb J H4 x.2.1 x.2.2.1 (Wp H0 (f_ J (Ye J BP J J J (e_ (q_ J (m_ (m_ (b_ J J Xo (m_ (m_ (Zo (hQ _ _ _ _ _ J J Zj (Fr.own FR) x.2.2.2))))))))))))))))))))))))))))))))))))))))))))))))))))))) (fun o=>z_ 7 J (Zc J (Vf J J (Zc J (z_ 2 J (e_ (Ur J (Yc (q_ J (m_ (Wp H0 (f_ J (l_ J BP J J (m_ (Md J H4 ((c.2.2 e).2 o).1 ((c.2.2 e).2 o).2.1 (x2 ((c.2.2 e).2 o).2.2 fun _ _ y=>Yi (Wr J J) y.1 (m_ (x_ J J (x_ J J (m_ (m_ (e_ (q_ J (m_ (m_ (Wp H0 (f_ J (l_ J BP J J (m_ (Hb J H4 y.2.1 y.2.2.1 (Wp H0 (f_ J (Ye J BP J J J (e_ (q_ J (m_ (m_ (b_ J J Xo (m_ (m_ (Zo (hQ _ _ _ _ _ J J Zj (Fr.own FR) y.2.2.2))))))))))))))))))))))))))))))))))))))))))))))))))))))))))))))))))))))) (fun k=>z_ 8 J (Xj J (Xj J (Xj J (Xj J (Xj J (Xj J (Xj J (z_ 2 J (Xj J (Xj J (Xj J (Xj J (Xj J (Xj J (Xj J (Xj J (Xj J (Xj J (Xj J (z_ 2 J (e_ (Ur J (Yc (q_ J (m_ (Wp H0 (f_ J (l_ J BP J J (m_ (Md J H4 (h.2 k).1 (h.2 k).2.1 (x2 (h.2 k).2.2 fun _ _ z=>Yi (Wr J J) z.1 (m_ (x_ J J (x_ J J (m_ (m_ (e_ (q_ J (m_ (m_ (Wp H0 (f_ J (l_ J BP J J (m_ (Hb J H4 z.2.1 z.2.2.1 (Wp H0 (f_ J (Ye J BP J J J (e_ (q_ J (m_ (m_ (b_ J J Xo (m_ (m_ (Zo (hQ _ _ _ _ _ J J Zj (Fr.own FR) z.2.2.2))))))))))))))))))))))))))))))))))))))))))))))))))))))))))))))))))))
include H0 BP FR in
theorem Wcg (h:Zqd PG K mP):W PG d Zp0 σ st Q:=
 W.gscope' (W.reg0 J fun _ _=>m_ (e_ (h (Yg5 PG d Q Zm kp vp ) (fun _ _ hb _ _ H0 H4 BP FR=>WG.step (Xg5 hQ hkp (fun _ _ x=>x) H0 H4 BP FR hb)) _ _ H0 J BP FR)))
include H0 BP FR in
theorem Wfx (h:Ztx PG K mP):W PG d (sR 0 Ydh Zp0) σ st Q:=
 au @Wcg
end
theorem Xjw {PG:Za}(hf:PG.fn 131=some Lq){mP:Sc}{K:Int->Bool->Sc->Prop}(h:Ztx PG K mP):Qv PG 131 (Bx [.s mP.left]) [] (fun r (b_:Sc)=>∃res0:Int,∃res1:Bool,(r=.tup [.i .i64 res0,.b res1])/\K res0 res1 b_) (fun b_=>(Bx [.s b_.left])):=
  Qv.of hf rfl (fun _=>Bx.out) fun d st kp vp hkp hB=>Wfx (Zm:=st) (Q:=fun e σ st'=>(e=.normal\/e=.ret)/\∃r b_,Xm σ st' Lq.res=some r/\_/\_/\Fr d kp st.bx st.ow st'.bx st'.ow) (fun σ st'   res0 res1 b_ H2 H3 hb hf hk=>⟨.inr rfl,.tup [.i .i64 res0,.b res1],b_,by simp only [Lq,Xm,Vk,H2,H3,Kp,Option.map_some,H2,H3],⟨res0,res1,rfl,hk⟩,hb,hf⟩) hkp (σ:=Wh [.p kp vp 0]) rfl hB Fr.refl h
abbrev H66 (Q:AE->Sl->St->Prop)(K:Bool->Prop):Prop:=∀(σ:Sl)(st:St)(res0:Bool),σ 4=.b res0->K res0->Q .ret σ st
section
variable {PG:Za}{d:Nat}{Q:AE->Sl->St->Prop}{K:Bool->Prop}(hQ:H66 Q K){σ:Sl}{st:St}
include hQ
end
end Go.AM

/- Yg of the proof. -/
namespace Go.AM
open Go
set_option linter.unusedVariables false
set_option linter.unusedSimpArgs false
set_option maxRecDepth 4000
set_option maxHeartbeats 2000000
attribute [local irreducible] Decidable.decide W WO Ww Wx
def Zx2:List AI:=[oC 2 (.s [])]
def Zzy:List AI:=[oM 3 0,oQ 4 15 [3],oM 2 4]
abbrev Xwx:AC:=(sR 0 Zx2 (sR 1 Zzy .ret))
def Zbz:AF:={ nt:=5,res:=[.tmp 2],body:=Xwx }
def Zjf (PG:Za)(K:BS->Prop)(n0:Int):Prop:=
  ∃c,Zf PG 15 [.i .i64 n0] (.s c)/\K c
section
variable {PG:Za}{d:Nat}{Q:AE->Sl->St->Prop}{K:BS->Prop}(hQ:H1 AV.s 2 Q K){σ:Sl}{st:St}
include hQ
variable {n0:Int}
variable (H0:σ 0=.i .i64 n0)
include H0 in
theorem Xqj (h:Zjf PG K n0):W PG d (sR 0 Zx2 (sR 1 Zzy .ret)) σ st Q:=
 au trivial
end
theorem Ws5 {PG:Za}(hf:PG.fn 111=some Zbz){n0:Int}{K:BS->Prop}(h:Zjf PG K n0) :∃res0:BS,K res0/\Zf PG 111 [.i .i64 n0] (.s res0):=
 P1 hf J (Xqj (h1 J fun _=>J) J h)
def Yb4:List AI:=[oC 2 (.s [])]
def Yd4:List AI:=[oM 6 0,oQ 7 11 [6],oM 5 7,oE 8 0 5,oE 9 1 5,oM 3 8,oM 4 9]
def Ych:List AI:=[oM 10 3,oM 2 10]
abbrev Wbl:AC:=(sR 0 Yb4 (sR 1 Yd4 (sR 2 Ych .ret)))
def Zhs:AF:={ nt:=11,res:=[.tmp 2],body:=Wbl }
def Zjl (PG:Za)(K:BS->Prop)(s0:BS):Prop:=
  ∃c e,Zf PG 11 [.s s0] (.tup [.s c,.i .i64 e])/\K c
section
variable {PG:Za}{d:Nat}{Q:AE->Sl->St->Prop}{K:BS->Prop}(hQ:H1 AV.s 2 Q K){σ:Sl}{st:St}
include hQ
variable {s0:BS}
variable (H0:σ 0=.s s0)
include H0 in
theorem Xde (h:Zjl PG K s0):W PG d (sR 0 Yb4 (sR 1 Yd4 (sR 2 Ych .ret))) σ st Q:=
 au trivial
end
theorem Wnn {PG:Za}(hf:PG.fn 112=some Zhs){s0:BS}{K:BS->Prop}(h:Zjl PG K s0) :∃res0:BS,K res0/\Zf PG 112 [.s s0] (.s res0):=
 P1 hf J (Xde (h1 J fun _=>J) J h)
def Zxh:List AI:=[oO 0 (.alloc [zs,zs,zs,zs])]
def Yob:List AI:=[oO 1 (.build [zs,zs,zs,zs] [(0,1,(.c (.s [99,97,108,108]))),(1,1,(.c (.s [100,101,102,101,114]))),(2,1,(.c (.s [112,97,110,105,99]))),(3,1,(.c (.s [101,120,105,116])))]),oS 4 0 1]
abbrev Wd3:AC:=(sR 0 Zxh (sR 1 Yob .ret))
def Za0:AF:={ nt:=2,res:=[.cell 0 4 true],body:=Wd3 }
abbrev Woz (Q:AE->Sl->St->Prop)(K:LB->Prop):Prop:=∀(σ:Sl)(st:St)(k0:Zq)(v0:Nat)(res0:LB),σ 0=.p k0 v0 0->lk st.bx k0=some (v0,List.map AV.s res0)->res0.length=4->K res0->Q .ret σ st
def Zn8 (PG:Za)(K:LB->Prop) :Prop:=
  K [([99,97,108,108]:BS),([100,101,102,101,114]:BS),([112,97,110,105,99]:BS),([101,120,105,116]:BS)]
section
variable {PG:Za}{d:Nat}{Q:AE->Sl->St->Prop}{K:LB->Prop}(hQ:Woz Q K){σ:Sl}{st:St}
include hQ
theorem Xf2 (h:Zn8 PG K ):W PG d (sR 0 Zxh (sR 1 Yob .ret)) σ st Q:=
 Zk (W.reg (Xy (e_ (q_ J (Lv (f:=AV.s) (l:=[([99,97,108,108]:BS),([100,101,102,101,114]:BS),([112,97,110,105,99]:BS),([101,120,105,116]:BS)]) (Yn J J (Yn J J (Yn J J (Yn J J Xr)))) J (Pz (f:=AV.s) (fun _=>J) J (show lk _ (d,0)=some (_,(List.map AV.s (List.replicate 4 ([]:BS)):List AV)) from Zj) (by simp) J J (Zo (hQ _ _ _ _ _ J Zj (by simp) h))))))))
end
theorem Xom {PG:Za}(hf:PG.fn 113=some Za0)  {K:LB->Prop}(h:Zn8 PG K ) :∃res0:LB,K res0/\Zf PG 113 [] (.ag (List.map AV.s res0)):=by
  obtain ⟨v,hv,res0,hk,rfl⟩:=Zf.of (K:=fun v=>∃res0:LB,K res0/\v=.ag (List.map AV.s res0)) hf rfl (Xf2 (σ:=Wh []) (fun σ st k0 v0  res0 H0 HB0 HL0 hk=>⟨.ag (List.map AV.s res0),by simp only [Za0,Xm,Vk,Jz (n:=4) H0 HB0 (by simpa using HL0),Qb,Option.map_some],_,Zhg AV.s (fun _=>rfl) _,res0,hk,rfl⟩)  h)
  exact ⟨res0,hk,hv⟩
def Yky:List AI:=[oC 4 (.b false)]
def Yfm:List AI:=[oM 5 0,oM 6 1,oO 7 (.call true 139 [(.t 5),(.t 6)]),oV 8 .geq 7 0,oM 4 8]
abbrev Xsm:AC:=(sR 0 Yky (sR 1 Yfm .ret))
def Zgx:AF:={ nt:=9,res:=[.tmp 4],body:=Xsm }
def Zr8 (PG:Za)(K:Bool->Prop)(s0:LB)(f1:Nat × List AV):Prop:=
  ∃c,(∀e:Zn,Yp PG 139 [.sl e (List.map Zv s0),.fn f1.1 f1.2] (fun r=>r=.i .i64 c))/\K (decide (c>=0))
section
variable {PG:Za}{d:Nat}{Q:AE->Sl->St->Prop}{K:Bool->Prop}{Zm:St}(hQ:HF d Zm AV.b 4 Q K){σ:Sl}{st:St}
include hQ
variable {s0:LB}{f1:Nat × List AV}{o_s0:Zn}
variable (H0:σ 0=.sl o_s0 (List.map Zv s0))(H1:σ 1=.fn f1.1 f1.2)(FR:Fr d (d,0) Zm.bx Zm.ow st.bx st.ow)
include H0 H1 FR in
theorem Wg2 (h:Zr8 PG K s0 f1):W PG d (sR 0 Yky (sR 1 Yfm .ret)) σ st Q:=
 q_ J (m_ (e_ (q_ J (Yf H0 (m_ (h.elim fun _ c=>Hf (Ya J (Ya H1 Yr)) (c.1 _) (fun _ e=>b_ J J Ul (m_ (Zo (hQ J (Fr.raw FR e) c.2))))))))))
end
theorem Wh2 {PG:Za}(hf:PG.fn 115=some Zgx){s0:LB}{f1:Nat × List AV}{K:Bool->Prop}(h:Zr8 PG K s0 f1)(o_s0:Zn):Yp PG 115 [.sl o_s0 (List.map Zv s0),.fn f1.1 f1.2] (fun r=>∃res0:Bool,(r=.b res0)/\K res0):=
 PF hf J J fun d st Q q=>Wg2 q J J Fr.refl h
def Yl6:List AI:=[oC 2 (.b false)]
def Yhu:List AI:=[oM 3 0,oH 4 3,oV 5 .gtr 4 1400060,oM 2 5]
abbrev Xid:AC:=(sR 0 Yl6 (sR 1 Yhu .ret))
def Zdx:AF:={ nt:=6,res:=[.tmp 2],body:=Xid }
def Zs2 (PG:Za)(K:Bool->Prop)(s0:BS):Prop:=
  K (decide ((s0.length:Int)>1400060))
section
variable {PG:Za}{d:Nat}{Q:AE->Sl->St->Prop}{K:Bool->Prop}{Zm:St}(hQ:HF d Zm AV.b 2 Q K){σ:Sl}{st:St}
include hQ
variable {s0:BS}
variable (H0:σ 0=.s s0)(FR:Fr d (d,0) Zm.bx Zm.ow st.bx st.ow)
include H0 FR in
theorem Who (h:Zs2 PG K s0):W PG d (sR 0 Yl6 (sR 1 Yhu .ret)) σ st Q:=
 au trivial
end
theorem Wdm {PG:Za}(hf:PG.fn 116=some Zdx){s0:BS}{K:Bool->Prop}(h:Zs2 PG K s0):Yp PG 116 [.s s0] (fun r=>∃res0:Bool,(r=.b res0)/\K res0):=
 PF hf J J fun d st Q q=>Who q J Fr.refl h
def Ybl:List AI:=[oI 4 0]
def Yfi:List AI:=[oM 6 0,oJ 7 6,oI 8 0]
def Xsg:List AI:=[oT 9 .lss 8 7]
def Xii:List AI:=[oM 10 8,oM 5 10]
def Xfs:List AI:=[oM 11 1,oM 12 0,oM 13 5,oX 14 1 12 13,oL 15 14,oO 16 (.callv (.t 11) [(.t 15)])]
def Yrn:List AI:=[oM 17 5,oM 4 17]
def Ywr:List AI:=[oV 18 .add 8 1,oM 8 18]
def Xus:List AI:=[oI 4 (-1)]
abbrev An:AC:=(sR 2 Xsg (.seq (.cond (.t 9) .skip (.exit 0)) (.seq (.block 1 (sR 3 Xii (sR 4 Xfs (.cond (.t 16) (sR 5 Yrn .ret) .skip)))) (.reg 6 Ywr))))
abbrev Zag:AC:=(sR 7 Xus .ret)
abbrev Xue:AC:=(sR 0 Ybl (.seq (sR 1 Yfi (.block 0 (.loop An))) Zag))
def Zh6:AF:={ nt:=19,res:=[.tmp 4],body:=Xue }
abbrev Yp4 (PG:Za)(d:Nat)(Q:AE->Sl->St->Prop)(Zm:St)(s0:LB)(f1:Nat × List AV)(t7:Int)(t8:Int):Prop:=
  ∀(σ:Sl)(st:St)(o_s0:Zn),σ 0=.sl o_s0 (List.map Zv s0)->σ 1=.fn f1.1 f1.2->σ 7=.i .i64 t7->σ 8=.i .i64 t8->Fr d (d,0) Zm.bx Zm.ow st.bx st.ow->W PG d (.loop An) σ st (Zw 0 (Zl PG d Zag Q))
def Zji (PG:Za)(K:Int->Prop) :Prop:=
  K (-1)
def In (PG:Za)(K:Int->Prop)(P0:Int->Prop)(s0:LB)(f1:Nat × List AV)(t7:Int)(t8:Int):Prop:=
  (t8<t7->0<=t8/\∃e,s0[(t8).toNat]?=some e/\∃c,(Yp PG f1.1 ([.s e]++f1.2) (fun r=>r=.b c))/\(c=true->K t8)/\(c=false->P0 (IntKind.i64.wrap (t8+1))))/\(¬(t8<t7)->Zji PG K )
def Zss (PG:Za)(K:Int->Prop)(s0:LB)(f1:Nat × List AV):Prop:=
  ∀P0:Int->Prop,(∀(t8:Int),In PG K P0 s0 f1 (s0.length:Int) t8->P0 t8)->P0 0
section
variable {PG:Za}{d:Nat}{Q:AE->Sl->St->Prop}{K:Int->Prop}{Zm:St}(hQ:HF d Zm (AV.i .i64) 4 Q K){σ:Sl}{st:St}
include hQ
variable {s0:LB}{f1:Nat × List AV}{t7 t8:Int}{P0:Int->Prop}{o_s0:Zn}
variable (kP0 :∀(t8:Int),P0 t8->Yp4 PG d Q Zm s0 f1 t7 t8)(H0:σ 0=.sl o_s0 (List.map Zv s0))(H1:σ 1=.fn f1.1 f1.2)(H7:σ 7=.i .i64 t7)(H8:σ 8=.i .i64 t8)(FR:Fr d (d,0) Zm.bx Zm.ow st.bx st.ow)
include FR in
theorem Yzx (h:Zji PG K ):W PG d Zag σ st Q:=
 au trivial
include kP0 H0 H1 H7 H8 FR in
theorem Xv0 (h:In PG K P0 s0 f1 t7 t8):W PG d An σ st (Zl PG d (.loop An) (Zw 0 (Zl PG d Zag Q))):=
 q_ J (b_ H8 H7 Wn (e_ (Zk (Yj J (fun c=>Yc (Zk (Yh (q_ J (m_ (m_ (e_ (q_ J (m_ (Yf H0 (m_ ((h.1 c).2.elim fun _ j=>Wq J H8 (h.1 c).1 j.1 J J (Xk J J J (j.2.elim fun _ e=>Ll H1 (Ya J Yr) (e.1) (fun _ k=>e_ (Xs J (fun i=>q_ J (m_ (m_ (Zo (hQ H8 (Fr.raw FR k) (e.2.1 i)))))) (fun i=>Yc (W.reg0 J fun _ _=>b_ H8 J Vd (m_ (e_ (kP0 _ (e.2.2 i) _ _ _ H0 H1 H7 J (Fr.raw FR k)))))))))))))))))))))) (fun c=>Vm (Yzx hQ FR (h.2 c)))))))
include H0 H1 FR in
theorem Wd9 (h:Zss PG K s0 f1):W PG d (sR 0 Ybl (.seq (sR 1 Yfi (.block 0 (.loop An))) Zag)) σ st Q:=
 q_ J (m_ (e_ (Zk (q_ J (Yf H0 (Yo J (m_ (e_ (Yh (h (Yp4 PG d Q Zm s0 f1 (s0.length:Int)) (fun _ hb _ _ _ H0 H1 H7 H8 FR=>W.loop (Xv0 hQ (fun _ x=>x) H0 H1 H7 H8 FR hb)) _ _ _ H0 H1 J J FR))))))))))
end
theorem Xyy {PG:Za}(hf:PG.fn 139=some Zh6){s0:LB}{f1:Nat × List AV}{K:Int->Prop}(h:Zss PG K s0 f1)(o_s0:Zn):Yp PG 139 [.sl o_s0 (List.map Zv s0),.fn f1.1 f1.2] (fun r=>∃res0:Int,(r=.i .i64 res0)/\K res0):=
 PF hf J J fun d st Q q=>Wd9 q J J Fr.refl h
def Zz6:List AI:=[oC 4 (.b false)]
def Yh7:List AI:=[oM 5 0,oM 6 1,oO 7 (.call true 144 [(.t 5),(.t 6)]),oV 8 .geq 7 0,oM 4 8]
abbrev Ywb:AC:=(sR 0 Zz6 (sR 1 Yh7 .ret))
def Zeb:AF:={ nt:=9,res:=[.tmp 4],body:=Ywb }
def Zmn (PG:Za)(K:Bool->Prop)(s0:List Xd)(f1:Nat × List AV):Prop:=
  ∃c,(∀e:Zn,Yp PG 144 [.sl e (List.map Xd.row s0),.fn f1.1 f1.2] (fun r=>r=.i .i64 c))/\K (decide (c>=0))
section
variable {PG:Za}{d:Nat}{Q:AE->Sl->St->Prop}{K:Bool->Prop}{Zm:St}(hQ:HF d Zm AV.b 4 Q K){σ:Sl}{st:St}
include hQ
variable {s0:List Xd}{f1:Nat × List AV}{o_s0:Zn}
variable (H0:σ 0=.sl o_s0 (List.map Xd.row s0))(H1:σ 1=.fn f1.1 f1.2)(FR:Fr d (d,0) Zm.bx Zm.ow st.bx st.ow)
include H0 H1 FR in
theorem Yvp (h:Zmn PG K s0 f1):W PG d (sR 0 Zz6 (sR 1 Yh7 .ret)) σ st Q:=
 q_ J (m_ (e_ (q_ J (Yf H0 (m_ (h.elim fun _ c=>Hf (Ya J (Ya H1 Yr)) (c.1 _) (fun _ e=>b_ J J Ul (m_ (Zo (hQ J (Fr.raw FR e) c.2))))))))))
end
theorem Xr1 {PG:Za}(hf:PG.fn 122=some Zeb){s0:List Xd}{f1:Nat × List AV}{K:Bool->Prop}(h:Zmn PG K s0 f1)(o_s0:Zn):Yp PG 122 [.sl o_s0 (List.map Xd.row s0),.fn f1.1 f1.2] (fun r=>∃res0:Bool,(r=.b res0)/\K res0):=
 PF hf J J fun d st Q q=>Yvp q J J Fr.refl h
def Zzm:List AI:=[oY 1 2 0,oC 2 (.b false)]
def Yl1:List AI:=[oF 3 0 1,oL 4 3,oH 5 4,oV 6 .gtr 5 16,oM 2 6]
abbrev Wk2:AC:=(sR 0 Zzm (sR 1 Yl1 .ret))
def Zdu:AF:={ nt:=7,res:=[.tmp 2],body:=Wk2 }
def Zqo (PG:Za)(K:Bool->Prop)(s0:Xd):Prop:=
  K (decide ((s0.name.length:Int)>16))
section
variable {PG:Za}{d:Nat}{Q:AE->Sl->St->Prop}{K:Bool->Prop}{Zm:St}(hQ:HF d Zm AV.b 2 Q K){σ:Sl}{st:St}
include hQ
variable {s0:Xd}
variable (H0:σ 0=s0.av)(FR:Fr d (d,0) Zm.bx Zm.ow st.bx st.ow)
include H0 FR in
theorem Wtt (h:Zqo PG K s0):W PG d (sR 0 Zzm (sR 1 Yl1 .ret)) σ st Q:=
 au trivial
end
theorem Wa5 {PG:Za}(hf:PG.fn 123=some Zdu){s0:Xd}{K:Bool->Prop}(h:Zqo PG K s0):Yp PG 123 [s0.av] (fun r=>∃res0:Bool,(r=.b res0)/\K res0):=
 PF hf J J fun d st Q q=>Wtt q J Fr.refl h
def Yiz:List AI:=[oI 4 0]
def Ykj:List AI:=[oM 6 0,oJ 7 6,oI 8 0]
def Wkn:List AI:=[oT 9 .lss 8 7]
def Wr9:List AI:=[oM 10 8,oM 5 10]
def Wt5:List AI:=[oM 11 1,oM 12 0,oM 13 5,oX 14 2 12 13,oK 15 2 14,oO 16 (.callv (.t 11) [(.t 15)])]
def Xta:List AI:=[oM 17 5,oM 4 17]
def Xhd:List AI:=[oV 18 .add 8 1,oM 8 18]
def Wem:List AI:=[oI 4 (-1)]
abbrev Zb4:AC:=(sR 2 Wkn (.seq (.cond (.t 9) .skip (.exit 0)) (.seq (.block 1 (sR 3 Wr9 (sR 4 Wt5 (.cond (.t 16) (sR 5 Xta .ret) .skip)))) (.reg 6 Xhd))))
abbrev Zbp:AC:=(sR 7 Wem .ret)
abbrev Wqy:AC:=(sR 0 Yiz (.seq (sR 1 Ykj (.block 0 (.loop Zb4))) Zbp))
def Zcw:AF:={ nt:=19,res:=[.tmp 4],body:=Wqy }
abbrev Yet (PG:Za)(d:Nat)(Q:AE->Sl->St->Prop)(Zm:St)(s0:List Xd)(f1:Nat × List AV)(t7:Int)(t8:Int):Prop:=
  ∀(σ:Sl)(st:St)(o_s0:Zn),σ 0=.sl o_s0 (List.map Xd.row s0)->σ 1=.fn f1.1 f1.2->σ 7=.i .i64 t7->σ 8=.i .i64 t8->Fr d (d,0) Zm.bx Zm.ow st.bx st.ow->W PG d (.loop Zb4) σ st (Zw 0 (Zl PG d Zbp Q))
def Zka (PG:Za)(K:Int->Prop) :Prop:=
  K (-1)
def Ap (PG:Za)(K:Int->Prop)(P0:Int->Prop)(s0:List Xd)(f1:Nat × List AV)(t7:Int)(t8:Int):Prop:=
  (t8<t7->0<=t8/\∃e:Xd,s0[(t8).toNat]?=some e/\∃c,(Yp PG f1.1 ([e.av]++f1.2) (fun r=>r=.b c))/\(c=true->K t8)/\(c=false->P0 (IntKind.i64.wrap (t8+1))))/\(¬(t8<t7)->Zka PG K )
def Zje (PG:Za)(K:Int->Prop)(s0:List Xd)(f1:Nat × List AV):Prop:=
  ∀P0:Int->Prop,(∀(t8:Int),Ap PG K P0 s0 f1 (s0.length:Int) t8->P0 t8)->P0 0
section
variable {PG:Za}{d:Nat}{Q:AE->Sl->St->Prop}{K:Int->Prop}{Zm:St}(hQ:HF d Zm (AV.i .i64) 4 Q K){σ:Sl}{st:St}
include hQ
variable {s0:List Xd}{f1:Nat × List AV}{t7 t8:Int}{P0:Int->Prop}{o_s0:Zn}
variable (kP0 :∀(t8:Int),P0 t8->Yet PG d Q Zm s0 f1 t7 t8)(H0:σ 0=.sl o_s0 (List.map Xd.row s0))(H1:σ 1=.fn f1.1 f1.2)(H7:σ 7=.i .i64 t7)(H8:σ 8=.i .i64 t8)(FR:Fr d (d,0) Zm.bx Zm.ow st.bx st.ow)
include FR in
theorem Wi4 (h:Zka PG K ):W PG d Zbp σ st Q:=
 au trivial
include kP0 H0 H1 H7 H8 FR in
theorem Yxm (h:Ap PG K P0 s0 f1 t7 t8):W PG d Zb4 σ st (Zl PG d (.loop Zb4) (Zw 0 (Zl PG d Zbp Q))):=
 q_ J (b_ H8 H7 Wn (e_ (Zk (Yj J (fun c=>Yc (Zk (Yh (q_ J (m_ (m_ (e_ (q_ J (m_ (Yf H0 (m_ ((h.1 c).2.elim fun o j=>Wq J H8 (h.1 c).1 j.1 (Xd.row_eq o) J (Xk J J J (j.2.elim fun _ e=>Ll H1 (Ya J Yr) (e.1) (fun _ k=>e_ (Xs J (fun i=>q_ J (m_ (m_ (Zo (hQ H8 (Fr.raw FR k) (e.2.1 i)))))) (fun i=>Yc (W.reg0 J fun _ _=>b_ H8 J Vd (m_ (e_ (kP0 _ (e.2.2 i) _ _ _ H0 H1 H7 J (Fr.raw FR k)))))))))))))))))))))) (fun c=>Vm (Wi4 hQ FR (h.2 c)))))))
include H0 H1 FR in
theorem Xg7 (h:Zje PG K s0 f1):W PG d (sR 0 Yiz (.seq (sR 1 Ykj (.block 0 (.loop Zb4))) Zbp)) σ st Q:=
 q_ J (m_ (e_ (Zk (q_ J (Yf H0 (Yo J (m_ (e_ (Yh (h (Yet PG d Q Zm s0 f1 (s0.length:Int)) (fun _ hb _ _ _ H0 H1 H7 H8 FR=>W.loop (Yxm hQ (fun _ x=>x) H0 H1 H7 H8 FR hb)) _ _ _ H0 H1 J J FR))))))))))
end
theorem Wgl {PG:Za}(hf:PG.fn 144=some Zcw){s0:List Xd}{f1:Nat × List AV}{K:Int->Prop}(h:Zje PG K s0 f1)(o_s0:Zn):Yp PG 144 [.sl o_s0 (List.map Xd.row s0),.fn f1.1 f1.2] (fun r=>∃res0:Int,(r=.i .i64 res0)/\K res0):=
 PF hf J J fun d st Q q=>Xg7 q J J Fr.refl h
def Yjw:List AI:=[oI 4 0]
def Ypk:List AI:=[oM 6 0,oJ 7 6,oI 8 0]
def Wnx:List AI:=[oT 9 .lss 8 7]
def Yte:List AI:=[oM 10 8,oM 5 10]
def Xsu:List AI:=[oM 11 1,oM 12 0,oM 13 5,oX 14 1 12 13,oL 15 14,oT 16 .eql 11 15]
def Xp3:List AI:=[oM 17 5,oM 4 17]
def Xie:List AI:=[oV 18 .add 8 1,oM 8 18]
def Xd5:List AI:=[oI 4 (-1)]
abbrev Ej:AC:=(sR 2 Wnx (.seq (.cond (.t 9) .skip (.exit 0)) (.seq (.block 1 (sR 3 Yte (sR 4 Xsu (.cond (.t 16) (sR 5 Xp3 .ret) .skip)))) (.reg 6 Xie))))
abbrev Zbg:AC:=(sR 7 Xd5 .ret)
abbrev Wtz:AC:=(sR 0 Yjw (.seq (sR 1 Ypk (.block 0 (.loop Ej))) Zbg))
def Ziy:AF:={ nt:=19,res:=[.tmp 4],body:=Wtz }
abbrev Ym3 (PG:Za)(d:Nat)(Q:AE->Sl->St->Prop)(s0:LB)(v1:BS)(t7:Int)(t8:Int):Prop:=
  ∀(σ:Sl)(st:St)(o_s0:Zn),σ 0=.sl o_s0 (List.map Zv s0)->σ 1=.s v1->σ 7=.i .i64 t7->σ 8=.i .i64 t8->W PG d (.loop Ej) σ st (Zw 0 (Zl PG d Zbg Q))
def Zon (PG:Za)(K:Int->Prop) :Prop:=
  K (-1)
def Za5 (PG:Za)(K:Int->Prop)(P0:Int->Prop)(s0:LB)(v1:BS)(t7:Int)(t8:Int):Prop:=
  (t8<t7->0<=t8/\∃c,s0[(t8).toNat]?=some c/\(v1=c->K t8)/\(¬(v1=c)->P0 (IntKind.i64.wrap (t8+1))))/\(¬(t8<t7)->Zon PG K )
def Ztl (PG:Za)(K:Int->Prop)(s0:LB)(v1:BS):Prop:=
  ∀P0:Int->Prop,(∀(t8:Int),Za5 PG K P0 s0 v1 (s0.length:Int) t8->P0 t8)->P0 0
section
variable {PG:Za}{d:Nat}{Q:AE->Sl->St->Prop}{K:Int->Prop}(hQ:H1 (AV.i .i64) 4 Q K){σ:Sl}{st:St}
include hQ
variable {s0:LB}{v1:BS}{t7 t8:Int}{P0:Int->Prop}{o_s0:Zn}
variable (kP0 :∀(t8:Int),P0 t8->Ym3 PG d Q s0 v1 t7 t8)(H0:σ 0=.sl o_s0 (List.map Zv s0))(H1:σ 1=.s v1)(H7:σ 7=.i .i64 t7)(H8:σ 8=.i .i64 t8)
theorem Xbe (h:Zon PG K ):W PG d Zbg σ st Q:=
 au trivial
include kP0 H0 H1 H7 H8 in
theorem Wbp (h:Za5 PG K P0 s0 v1 t7 t8):W PG d Ej σ st (Zl PG d (.loop Ej) (Zw 0 (Zl PG d Zbg Q))):=
 au @Xbe
include H0 H1 in
theorem Wq3 (h:Ztl PG K s0 v1):W PG d (sR 0 Yjw (.seq (sR 1 Ypk (.block 0 (.loop Ej))) Zbg)) σ st Q:=
 q_ J (m_ (e_ (Zk (q_ J (Yf H0 (Yo J (m_ (e_ (Yh (h (Ym3 PG d Q s0 v1 (s0.length:Int)) (fun _ hb _ _ _ H0 H1 H7 H8=>W.loop (Wbp hQ (fun _ x=>x) H0 H1 H7 H8 hb)) _ _ _ H0 H1 J J))))))))))
end
theorem Wqc {PG:Za}(hf:PG.fn 141=some Ziy){s0:LB}{v1:BS}{K:Int->Prop}(h:Ztl PG K s0 v1) :∃res0:Int,K res0/\Zf PG 141 [.sl .ext (List.map Zv s0),.s v1] (.i .i64 res0):=
 P1 hf J (Wq3 (h1 J fun _=>J) J J h)
def Zz4:List AI:=[oC 4 (.b false)]
def Yj6:List AI:=[oM 6 0,oJ 7 6,oM 8 1,oJ 9 8,oT 10 .neq 7 9]
def Zx0:List AI:=[oC 4 (.b false)]
def Yd1:List AI:=[oM 11 0,oJ 12 11,oI 13 0]
def Xld:List AI:=[oT 14 .lss 13 12]
def Wrd:List AI:=[oM 15 13,oM 5 15]
def Xdt:List AI:=[oM 16 0,oM 17 5,oX 18 1 16 17,oL 19 18,oM 20 1,oM 21 5,oX 22 1 20 21,oL 23 22,oT 24 .neq 19 23]
def Yzv:List AI:=[oC 4 (.b false)]
def Xbu:List AI:=[oV 25 .add 13 1,oM 13 25]
def Xil:List AI:=[oC 4 (.b true)]
abbrev Za2:AC:=(sR 4 Xld (.seq (.cond (.t 14) .skip (.exit 0)) (.seq (.block 1 (sR 5 Wrd (sR 6 Xdt (.cond (.t 24) (sR 7 Yzv .ret) .skip)))) (.reg 8 Xbu))))
abbrev Za8:AC:=(sR 9 Xil .ret)
abbrev Ysk:AC:=(sR 0 Zz4 (.seq (sR 1 Yj6 (.cond (.t 10) (sR 2 Zx0 .ret) .skip)) (.seq (sR 3 Yd1 (.block 0 (.loop Za2))) Za8)))
def Zgm:AF:={ nt:=26,res:=[.tmp 4],body:=Ysk }
abbrev Yha (PG:Za)(d:Nat)(Q:AE->Sl->St->Prop)(s10:LB)(s21:LB)(t12:Int)(t13:Int):Prop:=
  ∀(σ:Sl)(st:St) (o_s10 o_s21:Zn),σ 0=.sl o_s10 (List.map Zv s10)->σ 1=.sl o_s21 (List.map Zv s21)->σ 12=.i .i64 t12->σ 13=.i .i64 t13->W PG d (.loop Za2) σ st (Zw 0 (Zl PG d Za8 Q))
def Zv7 (PG:Za)(K:Bool->Prop) :Prop:=
  K true
def Zir (PG:Za)(K:Bool->Prop)(P0:Int->Prop)(s10:LB)(s21:LB)(t12:Int)(t13:Int):Prop:=
  (t13<t12->0<=t13/\∃c,s10[(t13).toNat]?=some c/\0<=t13/\∃e,s21[(t13).toNat]?=some e/\(c≠e->K false)/\(¬(c≠e)->P0 (IntKind.i64.wrap (t13+1))))/\(¬(t13<t12)->Zv7 PG K )
def Zlh (PG:Za)(K:Bool->Prop)(s10:LB)(s21:LB):Prop:=
  ((s10.length:Int)≠(s21.length:Int)->K false)/\(¬((s10.length:Int)≠(s21.length:Int))->∀P0:Int->Prop,(∀(t13:Int),Zir PG K P0 s10 s21 (s10.length:Int) t13->P0 t13)->P0 0)
section
variable {PG:Za}{d:Nat}{Q:AE->Sl->St->Prop}{K:Bool->Prop}(hQ:H1 AV.b 4 Q K){σ:Sl}{st:St}
include hQ
variable {s10 s21:LB}{t12 t13:Int}{P0:Int->Prop}{o_s10 o_s21:Zn}
variable (kP0 :∀(t13:Int),P0 t13->Yha PG d Q s10 s21 t12 t13)(H0:σ 0=.sl o_s10 (List.map Zv s10))(H1:σ 1=.sl o_s21 (List.map Zv s21))(H12:σ 12=.i .i64 t12)(H13:σ 13=.i .i64 t13)
theorem Xcv (h:Zv7 PG K ):W PG d Za8 σ st Q:=
 au trivial
include kP0 H0 H1 H12 H13 in
theorem Wsn (h:Zir PG K P0 s10 s21 t12 t13):W PG d Za2 σ st (Zl PG d (.loop Za2) (Zw 0 (Zl PG d Za8 Q))):=
 au @Xcv
include H0 H1 in
theorem Wd6 (h:Zlh PG K s10 s21):W PG d (sR 0 Zz4 (.seq (sR 1 Yj6 (.cond (.t 10) (sR 2 Zx0 .ret) .skip)) (.seq (sR 3 Yd1 (.block 0 (.loop Za2))) Za8))) σ st Q:=
 q_ J (m_ (e_ (Zk (q_ J (Yf H0 (Yo J (Yf H1 (Yo J (b_ J J Ws (e_ (Yj J (fun c=>q_ J (m_ (Zo (hQ J (h.1 c))))) (fun c=>Yc (Zk (q_ J (Yf H0 (Yo J (m_ (e_ (Yh ((h.2 c) (Yha PG d Q s10 s21 (s10.length:Int)) (fun _ hb _ _ _ _ H0 H1 H12 H13=>W.loop (Wsn hQ (fun _ x=>x) H0 H1 H12 H13 hb)) _ _ _ _ H0 H1 J J))))))))))))))))))))
end
theorem Xnb {PG:Za}(hf:PG.fn 119=some Zgm){s10:LB}{s21:LB}{K:Bool->Prop}(h:Zlh PG K s10 s21) :∃res0:Bool,K res0/\Zf PG 119 [.sl .ext (List.map Zv s10),.sl .ext (List.map Zv s21)] (.b res0):=
 P1 hf J (Wd6 (h1 J fun _=>J) J J h)
def Yn4:List AI:=[oY 2 3 0,oY 3 4 1,oI 4 0]
def Xal:List AI:=[oF 9 0 3,oL 10 9,oV 11 .lss 10 0,oM 12 11,gF 12 (oF 13 0 3),gF 12 (oL 14 13),gF 12 (oF 15 2 2),gF 12 (oL 16 15),gF 12 (oJ 17 16),gF 12 (oT 18 .geq 14 17),oR 19 12 18,oM 20 19,gF 20 (oF 21 2 3),gF 20 (oL 22 21),gF 20 (oB 23 .gtr (.t 22) (.c (.i .u64 3))),oR 24 20 23]
def Xfr:List AI:=[oI 4 8]
def Xnn:List AI:=[oF 25 2 2,oL 26 25,oF 27 0 3,oL 28 27,oX 29 7 26 28,oK 30 7 29,oO 5 (.alloc [zs,z6,z6,zl,zl,zl,zl]),oS 7 5 30]
def Xnr:List AI:=[oF 31 3 5,oL 32 31,oJ 33 32,oV 34 .gtr 33 16,oM 35 34,gF 35 (oF 36 0 5),gF 35 (oL 37 36),gF 35 (oH 38 37),gF 35 (oV 39 .gtr 38 16),oR 40 35 39,oM 41 40,gF 41 (oF 42 1 3),gF 41 (oL 43 42),gF 41 (oV 44 .lss 43 0),oR 45 41 44,oM 46 45,gF 46 (oF 47 1 3),gF 46 (oL 48 47),gF 46 (oF 49 4 5),gF 46 (oL 50 49),gF 46 (oJ 51 50),gF 46 (oT 52 .geq 48 51),oR 53 46 52,oM 54 53,gF 54 (oF 55 3 5),gF 54 (oL 56 55),gF 54 (oO 57 (.call true 122 [(.t 56),(.c (.fn 123 []))])),oR 58 54 57]
def Yz1:List AI:=[oI 4 8]
def Xxr:List AI:=[oI 6 (-1)]
def Xr2:List AI:=[oF 59 3 3,oL 60 59,oJ 61 60,oI 62 0]
def Xe5:List AI:=[oT 63 .lss 62 61]
def Weh:List AI:=[oX 64 6 60 62,oK 65 6 64,oO 8 (.alloc [z6,z8,z6,zs,zl,zb]),oS 6 8 65]
def Wbm:List AI:=[oF 66 0 8,oL 67 66,oM 68 6,oT 69 .leq 67 68,oM 70 69,gF 70 (oF 71 0 8),gF 70 (oL 72 71),gF 70 (oF 73 3 5),gF 70 (oL 74 73),gF 70 (oJ 75 74),gF 70 (oT 76 .geq 72 75),oR 77 70 76,oM 78 77,gF 78 (oF 79 1 8),gF 78 (oK 80 5 79),gF 78 (oQ 81 76 [80]),gF 78 (oV 82 .neq 81 0),oR 83 78 82]
def Wof:List AI:=[oI 4 8]
def Wfo:List AI:=[oF 84 0 8,oL 85 84,oM 6 85]
def Wse:List AI:=[oV 86 .add 62 1,oM 62 86]
def Ysa:List AI:=[oI 4 0]
abbrev Zgk:AC:=(sR 8 Xe5 (.seq (.cond (.t 63) .skip (.exit 0)) (.seq (.block 1 (sR 9 Weh (.seq (sR 10 Wbm (.cond (.t 83) (sR 11 Wof .ret) .skip)) (.reg 12 Wfo)))) (.reg 13 Wse))))
abbrev Zf8:AC:=(sR 14 Ysa .ret)
abbrev Yal:AC:=(sR 6 Xxr (.seq (sR 7 Xr2 (.block 0 (.loop Zgk))) Zf8))
abbrev Yew:AC:=(.seq (sR 4 Xnr (.cond (.t 58) (sR 5 Yz1 .ret) .skip)) Yal)
abbrev Zws:AC:=(sR 3 Xnn Yew)
abbrev Zta:AC:=(.seq (sR 1 Xal (.cond (.t 24) (sR 2 Xfr .ret) .skip)) Zws)
abbrev b86:AC:=(sR 0 Yn4 Zta)
def Zht:AF:={ nt:=87,res:=[.tmp 4],body:=b86 }
abbrev Yag (PG:Za)(d:Nat)(Q:AE->Sl->St->Prop)(t60:List Yb)(t61:Int)(last6:Int)(t62:Int)(m12294:Zz):Prop:=
  ∀(σ:Sl)(st:St)(o_t60:Zn)(v12294:Nat),σ 5=.p (d,12294) v12294 0->σ 6=.i .i64 last6->σ 60=.sl o_t60 (List.map Yb.row t60)->σ 61=.i .i64 t61->σ 62=.i .i64 t62->lk st.bx (d,12294)=some (v12294,Zz.cs m12294)->W PG d (.loop Zgk) σ st (Zw 0 (Zl PG d Zf8 Q))
def Zqi (PG:Za)(K:Int->Prop) :Prop:=
  K 0
def Zhf (PG:Za)(K:Int->Prop)(P0:Int->Int->Zz->Prop)(last6:Int)(t60:List Yb)(t61:Int)(t62:Int)(m12294:Zz):Prop:=
  (t62<t61->0<=t62/\∃c:Yb,t60[(t62).toNat]?=some c/\(c.slot<=last6->K 8)/\(¬(c.slot<=last6)->(c.slot>=(m12294.slots.length:Int)->K 8)/\(¬(c.slot>=(m12294.slots.length:Int))->∃e,Zf PG 76 [c.value.av] (.i .i64 e)/\(e≠0->K 8)/\(¬(e≠0)->P0 c.slot (IntKind.i64.wrap (t62+1)) m12294))))/\(¬(t62<t61)->Zqi PG K )
def Zqr (PG:Za)(K:Int->Prop)(m1:Zg)(m12294:Zz):Prop:=
  ∀P0:Int->Int->Zz->Prop,(∀(last6:Int)(t62:Int)(m12294:Zz),Zhf PG K P0 last6 m1.locals (m1.locals.length:Int) t62 m12294->P0 last6 t62 m12294)->P0 (-1) 0 m12294
def Zuy (PG:Za)(K:Int->Prop)(m1:Zg)(m12294:Zz):Prop:=
  ((m12294.slots.length:Int)>16->K 8)/\(¬((m12294.slots.length:Int)>16)->((m12294.name.length:Int)>16->K 8)/\(¬((m12294.name.length:Int)>16)->(m1.pos<0->K 8)/\(¬(m1.pos<0)->(m1.pos>=(m12294.code.length:Int)->K 8)/\(¬(m1.pos>=(m12294.code.length:Int))->∃c,(∀e:Zn,Yp PG 122 [.sl e (List.map Xd.row m12294.slots),.fn 123 []] (fun r=>r=.b c))/\(c=true->K 8)/\(c=false->Zqr PG K m1 m12294)))))
def Zo3 (PG:Za)(K:Int->Prop)(m0:Ze)(m1:Zg):Prop:=
  0<=m1.func/\∃c,m0.funcs[(m1.func).toNat]?=some c/\Zuy PG K m1 c
def Zu0 (PG:Za)(K:Int->Prop)(m0:Ze)(m1:Zg):Prop:=
  (m1.func<0->K 8)/\(¬(m1.func<0)->(m1.func>=(m0.funcs.length:Int)->K 8)/\(¬(m1.func>=(m0.funcs.length:Int))->(m1.mode>3->K 8)/\(¬(m1.mode>3)->Zo3 PG K m0 m1)))
def Zpn (PG:Za)(K:Int->Prop)(m0:Ze)(x1:Zg):Prop:=
  Zu0 PG K m0 x1
section
variable {PG:Za}{d:Nat}{Q:AE->Sl->St->Prop}{K:Int->Prop}(hQ:H1 (AV.i .i64) 4 Q K){σ:Sl}{st:St}
include hQ
variable {last6:Int}{t60:List Yb}{t61 t62:Int}{m12294:Zz}{P0:Int->Int->Zz->Prop}{o_t60:Zn}{v12294:Nat}{m1:Zg}{v1:Nat}{m0:Ze}{v0:Nat}{x1:Zg}
variable (kP0 :∀(last6:Int)(t62:Int)(m12294:Zz),P0 last6 t62 m12294->Yag PG d Q t60 t61 last6 t62 m12294)(H2:σ 2=.p (d,0) v0 0)(H0:σ 0=m0.av)(H3:σ 3=.p (d,1) v1 0)(H1:σ 1=x1.av)(H5:σ 5=.p (d,12294) v12294 0)(B0:lk st.bx (d,0)=some (v0,Ze.cs m0))(H6:σ 6=.i .i64 last6)(B1:lk st.bx (d,1)=some (v1,Zg.cs m1))(H60:σ 60=.sl o_t60 (List.map Yb.row t60))(H61:σ 61=.i .i64 t61)(H62:σ 62=.i .i64 t62)(B12294:lk st.bx (d,12294)=some (v12294,Zz.cs m12294))
theorem Xpg (h:Zqi PG K ):W PG d Zf8 σ st Q:=
 au trivial
include kP0 H5 H6 H60 H61 H62 B12294 in
theorem Xac (h:Zhf PG K P0 last6 t60 t61 t62 m12294):W PG d Zgk σ st (Zl PG d (.loop Zgk) (Zw 0 (Zl PG d Zf8 Q))):=
 au @Xpg
include H3 H5 B1 B12294 in
theorem Wf2 (h:Zqr PG K m1 m12294):W PG d Yal σ st Q:=
 q_ J (m_ (e_ (Zk (q_ J (f_ H3 (l_ J B1 J J (Yo J (m_ (e_ (Yh (h (Yag PG d Q m1.locals (m1.locals.length:Int)) (fun _ _ _ hb _ _ _ _ H5 H6 H60 H61 H62 B12294=>W.loop (Xac hQ (fun _ _ _ x=>x) H5 H6 H60 H61 H62 B12294 hb)) _ _ _ _ H5 J J J J B12294)))))))))))
include H3 H5 B1 B12294 in
theorem Wtn (h:Zuy PG K m1 m12294):W PG d Yew σ st Q:=
 Zk (q_ J (f_ H5 (l_ J B12294 J J (Yo J (b_ J J Vt (Yq J (Ym (g:=35) J (fun c=>z_ 23 J (e_ (Yl J (q_ J (m_ (Zo (hQ J (h.1 c)))))))) (fun c=>Zc J (f_ H5 (Zc J (l_ J B12294 J J (Zc J (Dl J (Zc J (b_ J J Vt (z_ 2 J (Ym (g:=41) J (fun e=>z_ 17 J (e_ (Yl J (q_ J (m_ (Zo (hQ J ((h.2 c).1 e)))))))) (fun e=>Zc J (f_ H3 (Zc J (l_ J B1 J J (Zc J (b_ J J Wn (z_ 2 J (Ym (g:=46) J (fun i=>z_ 12 J (e_ (Yl J (q_ J (m_ (Zo (hQ J (((h.2 c).2 e).1 i)))))))) (fun i=>Zc J (f_ H3 (Zc J (l_ J B1 J J (Zc J (f_ H5 (Zc J (l_ J B12294 J J (Zc J (Yo J (Zc J (b_ J J Ul (z_ 2 J (Ym (g:=54) J (fun o=>z_ 4 J (e_ (Yl J (q_ J (m_ (Zo (hQ J ((((h.2 c).2 e).2 i).1 o)))))))) (fun o=>Zc J (f_ H5 (Zc J (l_ J B12294 J J (Zc J (((((h.2 c).2 e).2 i).2 o).elim fun _ j=>Hf (Ya J (Ya J Yr)) (j.1 _) (fun _ p=>Vf J J (e_ (Xs J (fun k=>q_ J (m_ (Zo (hQ J (j.2.1 k))))) (fun k=>Yc (Wf2 hQ H3 H5 ((p.1 (d,1) (Nat.lt_succ_self d) Gc).trans B1) ((p.1 (d,12294) (Nat.lt_succ_self d) Gc).trans B12294) (j.2.2 k)))))))))))))))))))))))))))))))))))))))))))))))))))
include H2 H3 B0 B1 in
theorem Xs4 (h:Zo3 PG K m0 m1):W PG d Zws σ st Q:=
 au @Wtn
include H2 H3 B0 B1 in
theorem Yyt (h:Zu0 PG K m0 m1):W PG d Zta σ st Q:=
 au @Xs4
include H0 H1 in
theorem Xve (h:Zpn PG K m0 x1):W PG d (sR 0 Yn4 Zta) σ st Q:=
 au @Yyt
end
theorem p86 {PG:Za}(hf:PG.fn 86=some Zht){m0:Ze}{x1:Zg}{K:Int->Prop}(h:Zpn PG K m0 x1) :∃res0:Int,K res0/\Zf PG 86 [m0.av,x1.av] (.i .i64 res0):=
 P1 hf J (Xve (h1 J fun _=>J) J J h)
def Yct:List AI:=[oY 3 3 0,oY 5 4 2,oC 6 (.sl .full []),oI 7 0]
def Xwn:List AI:=[oM 15 1,oV 16 .lss 15 0,oM 17 16,gF 17 (oM 18 1),gF 17 (oV 19 .geq 18 170),oR 20 17 19]
def Wa6:List AI:=[oC 6 (.sl .full []),oI 7 2]
def Wqe:List AI:=[oK 21 3 3,oK 22 4 5,oQ 23 86 [21,22],oM 8 23]
def Xsn:List AI:=[oM 24 8,oV 25 .neq 24 0]
def Ysv:List AI:=[oM 26 8,oC 6 (.sl .full []),oM 7 26]
def Xt2:List AI:=[oF 27 2 3,oL 28 27,oF 29 0 5,oL 30 29,oX 31 7 28 30,oK 32 7 31,oO 9 (.alloc [zs,z6,z6,zl,zl,zl,zl]),oS 7 9 32]
def Waa:List AI:=[oM 33 1,oQ 34 111 [33],oB 35 .add (.c (.s [35])) (.t 34),oB 36 .add (.t 35) (.c (.s [32])),oF 37 0 5,oL 38 37,oQ 39 111 [38],oT 40 .add 36 39,oB 41 .add (.t 40) (.c (.s [32])),oF 42 0 9,oL 43 42,oQ 44 112 [43],oT 45 .add 41 44,oB 46 .add (.t 45) (.c (.s [32,97,116,32])),oF 47 1 5,oL 48 47,oQ 49 111 [48],oT 50 .add 46 49,oB 51 .add (.t 50) (.c (.s [32])),oQ 52 113 [],oF 53 2 5,oL 54 53,oO 55 (.ixA 4 1 false (.t 52) (.t 54)),oT 56 .add 51 55,oO 57 (.bslice [zs] 1 [(0,(.t 56))]),oM 10 57]
def Xy1:List AI:=[oF 58 3 5,oL 59 58,oJ 60 59,oI 61 0]
def We9:List AI:=[oT 62 .lss 61 60]
def Xb1:List AI:=[oX 63 6 59 61,oK 64 6 63,oO 12 (.alloc [z6,z8,z6,zs,zl,zb]),oS 6 12 64]
def Wbv:List AI:=[oF 66 1 12,oK 67 5 66,oQ 68 72 [67],oM 65 68,oE 69 0 65,oE 70 1 65,oM 13 69,oM 14 70]
def Ywi:List AI:=[oM 71 14,oV 72 .neq 71 0]
def Yu3:List AI:=[oM 73 14,oC 6 (.sl .full []),oM 7 73]
def Whx:List AI:=[oM 74 10,oF 75 0 12,oL 76 75,oQ 77 111 [76],oB 78 .add (.c (.s [32,32])) (.t 77),oB 79 .add (.t 78) (.c (.s [32])),oF 80 3 9,oL 81 80,oF 82 0 12,oL 83 82,oX 84 2 81 83,oF 85 0 84,oL 86 85,oQ 87 112 [86],oT 88 .add 79 87,oB 89 .add (.t 88) (.c (.s [32,61,32])),oM 90 13,oT 91 .add 89 90,oO 92 (.bslice [zs] 1 [(0,(.t 91))]),oO 93 (.app 1 16 (.t 74) (.t 92)),oM 10 93]
def Xix:List AI:=[oV 94 .add 61 1,oM 61 94]
def Wh5:List AI:=[oM 95 10,oM 6 95,oI 7 0]
abbrev Ze0:AC:=(sR 9 We9 (.seq (.cond (.t 62) .skip (.exit 0)) (.seq (.block 1 (sR 10 Xb1 (sR 11 Wbv (.seq (sR 12 Ywi (.cond (.t 72) (sR 13 Yu3 .ret) .skip)) (.reg 14 Whx))))) (.reg 15 Xix))))
abbrev Zez:AC:=(sR 16 Wh5 .ret)
abbrev Yjo:AC:=(sR 7 Waa (.seq (sR 8 Xy1 (.block 0 (.loop Ze0))) Zez))
abbrev Ymm:AC:=(sR 6 Xt2 Yjo)
abbrev Yey:AC:=(.seq (sR 3 Wqe (sR 4 Xsn (.cond (.t 25) (sR 5 Ysv .ret) .skip))) Ymm)
abbrev Zqe:AC:=(.seq (sR 1 Xwn (.cond (.t 20) (sR 2 Wa6 .ret) .skip)) Yey)
abbrev b82:AC:=(sR 0 Yct Zqe)
def Zeh:AF:={ nt:=96,res:=[.tmp 6,.tmp 7],body:=b82 }
abbrev Ye7 (PG:Za)(d:Nat)(Q:AE->Sl->St->Prop)(t59:List Yb)(t60:Int)(out10:LB)(t61:Int)(m24582:Zz):Prop:=
  ∀(σ:Sl)(st:St) (o_out10 o_t59:Zn)(v24582:Nat),σ 9=.p (d,24582) v24582 0->σ 10=.sl o_out10 (List.map Zv out10)->σ 59=.sl o_t59 (List.map Yb.row t59)->σ 60=.i .i64 t60->σ 61=.i .i64 t61->Xe d st.ow o_out10 out10.length->lk st.bx (d,24582)=some (v24582,Zz.cs m24582)->W PG d (.loop Ze0) σ st (Zw 0 (Zl PG d Zez Q))
def Zpe (PG:Za)(K:LB->Int->Prop)(out10:LB):Prop:=
  K out10 0
def Zds (PG:Za)(K:LB->Int->Prop)(P0:LB->Int->Zz->Prop)(out10:LB)(t59:List Yb)(t60:Int)(t61:Int)(m24582:Zz):Prop:=
  (t61<t60->0<=t61/\∃j:Yb,t59[(t61).toNat]?=some j/\∃o:BS,∃k,Zf PG 72 [j.value.av] (.tup [.s o,.i .i64 k])/\(k≠0->K ([]:LB) k)/\(¬(k≠0)->∃c:BS,Zf PG 111 [.i .i64 j.slot] (.s c)/\([32,32]:BS).length+c.length<=We/\(([32,32]:BS)++c).length+([32]:BS).length<=We/\0<=j.slot/\∃p:Xd,m24582.slots[(j.slot).toNat]?=some p/\∃e:BS,Zf PG 112 [.s p.name] (.s e)/\((([32,32]:BS)++c)++([32]:BS)).length+e.length<=We/\(((([32,32]:BS)++c)++([32]:BS))++e).length+([32,61,32]:BS).length<=We/\((((([32,32]:BS)++c)++([32]:BS))++e)++([32,61,32]:BS)).length+o.length<=We/\Qn (out10.length+[(((((([32,32]:BS)++c)++([32]:BS))++e)++([32,61,32]:BS))++o)].length) 16/\P0 (out10++[(((((([32,32]:BS)++c)++([32]:BS))++e)++([32,61,32]:BS))++o)]) (IntKind.i64.wrap (t61+1)) m24582))/\(¬(t61<t60)->Zpe PG K out10)
def Zv2 (PG:Za)(K:LB->Int->Prop)(k1:Int)(m1:Zg)(m24582:Zz):Prop:=
  ∃c:BS,Zf PG 111 [.i .i64 k1] (.s c)/\([35]:BS).length+c.length<=We/\(([35]:BS)++c).length+([32]:BS).length<=We/\∃e:BS,Zf PG 111 [.i .i64 m1.func] (.s e)/\((([35]:BS)++c)++([32]:BS)).length+e.length<=We/\(((([35]:BS)++c)++([32]:BS))++e).length+([32]:BS).length<=We/\∃j:BS,Zf PG 112 [.s m24582.name] (.s j)/\((((([35]:BS)++c)++([32]:BS))++e)++([32]:BS)).length+j.length<=We/\(((((([35]:BS)++c)++([32]:BS))++e)++([32]:BS))++j).length+([32,97,116,32]:BS).length<=We/\∃k:BS,Zf PG 111 [.i .i64 m1.pos] (.s k)/\((((((([35]:BS)++c)++([32]:BS))++e)++([32]:BS))++j)++([32,97,116,32]:BS)).length+k.length<=We/\(((((((([35]:BS)++c)++([32]:BS))++e)++([32]:BS))++j)++([32,97,116,32]:BS))++k).length+([32]:BS).length<=We/\∃o:LB,Zf PG 113 [] (.ag (List.map AV.s o))/\o.length=4/\0<=m1.mode/\∃p:BS,(o:LB)[(m1.mode).toNat]?=some p/\((((((((([35]:BS)++c)++([32]:BS))++e)++([32]:BS))++j)++([32,97,116,32]:BS))++k)++([32]:BS)).length+p.length<=We/\∀P0:LB->Int->Zz->Prop,(∀(out10:LB)(t61:Int)(m24582:Zz),Zds PG K P0 out10 m1.locals (m1.locals.length:Int) t61 m24582->P0 out10 t61 m24582)->P0 [(((((((((([35]:BS)++c)++([32]:BS))++e)++([32]:BS))++j)++([32,97,116,32]:BS))++k)++([32]:BS))++p)] 0 m24582
def Zo9 (PG:Za)(K:LB->Int->Prop)(k1:Int)(m0:Ze)(m1:Zg):Prop:=
  0<=m1.func/\∃c,m0.funcs[(m1.func).toNat]?=some c/\Zv2 PG K k1 m1 c
def Zqk (PG:Za)(K:LB->Int->Prop)(k1:Int)(m0:Ze)(m1:Zg):Prop:=
  ∃c,Zf PG 86 [m0.av,m1.av] (.i .i64 c)/\(c≠0->K ([]:LB) c)/\(¬(c≠0)->Zo9 PG K k1 m0 m1)
def Zsc (PG:Za)(K:LB->Int->Prop)(k1:Int)(m0:Ze)(m1:Zg):Prop:=
  (k1<0->K ([]:LB) 2)/\(¬(k1<0)->(k1>=170->K ([]:LB) 2)/\(¬(k1>=170)->Zqk PG K k1 m0 m1))
def Zjn (PG:Za)(K:LB->Int->Prop)(m0:Ze)(k1:Int)(x2:Zg):Prop:=
  Zsc PG K k1 m0 x2
section
variable {PG:Za}{d:Nat}{Q:AE->Sl->St->Prop}{K:LB->Int->Prop}(hQ:HM Zv (AV.i .i64) 6 7 Q K){σ:Sl}{st:St}
include hQ
variable {out10:LB}{o_out10:Zn}{t59:List Yb}{t60 t61:Int}{m24582:Zz}{P0:LB->Int->Zz->Prop}{o_t59:Zn}{v24582:Nat}{k1:Int}{m1:Zg}{v1:Nat}{m0:Ze}{v0:Nat}{x2:Zg}
variable (kP0 :∀(out10:LB)(t61:Int)(m24582:Zz),P0 out10 t61 m24582->Ye7 PG d Q t59 t60 out10 t61 m24582)(H0:σ 0=m0.av)(H1:σ 1=.i .i64 k1)(H3:σ 3=.p (d,0) v0 0)(H2:σ 2=x2.av)(H5:σ 5=.p (d,1) v1 0)(H9:σ 9=.p (d,24582) v24582 0)(B0:lk st.bx (d,0)=some (v0,Ze.cs m0))(H10:σ 10=.sl o_out10 (List.map Zv out10))(B1:lk st.bx (d,1)=some (v1,Zg.cs m1))(H59:σ 59=.sl o_t59 (List.map Yb.row t59))(H60:σ 60=.i .i64 t60)(H61:σ 61=.i .i64 t61)(A10:Xe d st.ow o_out10 out10.length)(B24582:lk st.bx (d,24582)=some (v24582,Zz.cs m24582))
include H10 A10 in
theorem Xz3 (h:Zpe PG K out10):W PG d Zez σ st Q:=
 au trivial
include kP0 H9 H10 H59 H60 H61 A10 B24582 in
theorem Xlz (h:Zds PG K P0 out10 t59 t60 t61 m24582):W PG d Ze0 σ st (Zl PG d (.loop Ze0) (Zw 0 (Zl PG d Zez Q))):=
 q_ J (b_ H61 H60 Wn (e_ (Zk (Yj J (fun j=>Yc (Zk (Yh (Zk (W.reg ((h.1 j).2.elim fun v q=>Wq H59 H61 (h.1 j).1 q.1 (Yb.row_eq v) J (Xk J J J (Xy (Ye J (show lk _ (d,40962)=some (_,([.i .i64 0,.i .u8 0,.i .i64 0,.s [],.sl .full (List.map Zb.row ([]:List Zb)),.b false]:List AV)) from Zj) J J J (e_ (q_ J (f_ J (l_ J Zj J J (x2 q.2 fun y _ k=>Yi (Wr J J) k.1 (m_ (x_ J J (x_ J J (m_ (m_ (e_ (Zk (q_ J (m_ (b_ J J Ws (e_ (Yj J (fun o=>q_ J (m_ (Yf (f:=Zv) (l:=[]) J (m_ (Zo (hQ J J (k.2.1 o))))))) (fun o=>Yc (W.reg0 J fun _ _=>Yf H10 (f_ J (l_ J Zj J J ((k.2.2 o).elim fun z e=>Yi (Wr J J) e.1 (b_ J J (Jc e.2.1) (b_ J J (Jc e.2.2.1) (f_ H9 (l_ J (Zs J (Zs J B24582)) J J (f_ J (l_ J Zj J J (e.2.2.2.2.elim fun u p=>Wq J J e.2.2.2.1 p.1 (Xd.row_eq u) J (Ke J (Xk J J J (p.2.elim fun x c=>Yi (Wr J J) c.1 (b_ J J (Jc c.2.1) (b_ J J (Jc c.2.2.1) (m_ (b_ J J (Jc c.2.2.2.1) (Ja (f:=Zv) (l:=[(((((([32,32]:BS)++z)++([32]:BS))++x)++([32,61,32]:BS))++y)]) J J (Xw J J J Vn) J (Qk Nh J J J A10.1 c.2.2.2.2.1 J (fun _ _ r _ w=>Yf J (e_ (W.reg0 J fun _ _=>b_ H61 J Vd (m_ (e_ (kP0 _ _ _ c.2.2.2.2.2 _ _ _ _ _ H9 J H59 H60 J (Xe.mk r (Gi.app A10.2 J w)) (Zs J (Zs J B24582))))))))))))))))))))))))))))))))))))))))))))))))))))))) (fun j=>Vm (Xz3 hQ H10 A10 (h.2 j)))))))
include H1 H5 H9 B1 B24582 in
theorem Yzr (h:Zv2 PG K k1 m1 m24582):W PG d Yjo σ st Q:=
 q_ J (m_ (h.elim fun q e=>Yi (Wr H1 J) e.1 (b_ J J (Jc e.2.1) (b_ J J (Jc e.2.2.1) (f_ H5 (l_ J B1 J J (e.2.2.2.elim fun r i=>Yi (Wr J J) i.1 (b_ J J (Jc i.2.1) (b_ J J (Jc i.2.2.1) (f_ H9 (l_ J B24582 J J (i.2.2.2.elim fun u j=>Yi (Wr J J) j.1 (b_ J J (Jc j.2.1) (b_ J J (Jc j.2.2.1) (f_ H5 (l_ J B1 J J (j.2.2.2.elim fun v k=>Yi (Wr J J) k.1 (b_ J J (Jc k.2.1) (b_ J J (Jc k.2.2.1) (k.2.2.2.elim fun _ c=>Yi sn c.1 (f_ H5 (l_ J B1 J J (c.2.2.2.elim fun p o=>Tl (f:=AV.s) c.2.1 J J c.2.2.1 o.1 (b_ J J (Jc o.2.1) (Ja (f:=Zv) (l:=[(((((((((([35]:BS)++q)++([32]:BS))++r)++([32]:BS))++u)++([32,97,116,32]:BS))++v)++([32]:BS))++p)]) J J (Xw J J J Vn) J (Yf J (e_ (Zk (q_ J (f_ H5 (l_ J B1 J J (Yo J (m_ (e_ (Yh (o.2.2 (Ye7 PG d Q m1.locals (m1.locals.length:Int)) (fun _ _ _ hb _ _ _ _ _ H9 H10 H59 H60 H61 A10 B24582=>W.loop (Xlz hQ (fun _ _ _ x=>x) H9 H10 H59 H60 H61 A10 B24582 hb)) _ _ _ _ _ H9 J J J J Xe.full B24582))))))))))))))))))))))))))))))))))))
include H1 H3 H5 B0 B1 in
theorem Wew (h:Zo9 PG K k1 m0 m1):W PG d Ymm σ st Q:=
 Zk (W.reg (f_ H3 (l_ J (Zs J B0) J J (f_ H5 (l_ J (Zs J B1) J J (h.2.elim fun e c=>Wq J J h.1 c.1 (Zz.row_eq e) J (Xk J J J (Xy (Ye J (show lk _ (d,24582)=some (_,([.s [],.i .i64 0,.i .i64 0,.sl .full (List.map Xd.row ([]:List Xd)),.sl .full (List.map Jx.row ([]:List Jx)),.sl .full (List.map Vq.row ([]:List Vq)),.sl .full (List.map Vq.row ([]:List Vq))]:List AV)) from Zj) J J J (e_ (Yzr hQ H1 H5 J (Zs J (Zs J B1)) Zj c.2)))))))))))
include H1 H3 H5 B0 B1 in
theorem Yxg (h:Zqk PG K k1 m0 m1):W PG d Yey σ st Q:=
 au @Wew
include H1 H3 H5 B0 B1 in
theorem Xqt (h:Zsc PG K k1 m0 m1):W PG d Zqe σ st Q:=
 Zk (q_ J (Xa H1 (b_ J J Wn (Yq J (Ym (g:=17) J (fun c=>z_ 3 J (e_ (Yl J (q_ J (Yf (f:=Zv) (l:=[]) J (m_ (Zo (hQ J J (h.1 c))))))))) (fun c=>Zc J (Xa H1 (Zc J (b_ J J Ul (Vf J J (e_ (Yj J (fun e=>q_ J (Yf (f:=Zv) (l:=[]) J (m_ (Zo (hQ J J ((h.2 c).1 e)))))) (fun e=>Yc (Yxg hQ H1 H3 H5 B0 B1 ((h.2 c).2 e)))))))))))))))
include H0 H1 H2 in
theorem Ytu (h:Zjn PG K m0 k1 x2):W PG d (sR 0 Yct Zqe) σ st Q:=
 au @Xqt
end
theorem p82 {PG:Za}(hf:PG.fn 82=some Zeh){m0:Ze}{k1:Int}{x2:Zg}{K:LB->Int->Prop}(h:Zjn PG K m0 k1 x2) :∃res0:LB,∃res1:Int,K res0 res1/\Zf PG 82 [m0.av,.i .i64 k1,x2.av] (.tup [.sl .ext (List.map Zv res0),.i .i64 res1]):=
 P2 hf J (Ytu (hM J fun _ _ _=>J) J J J h)
end Go.AM

/- Yg of the proof. -/
namespace Go.AM
open Go
set_option linter.unusedVariables false
set_option linter.unusedSimpArgs false
set_option maxRecDepth 4000
set_option maxHeartbeats 2000000
attribute [local irreducible] Decidable.decide W WO Ww Wx
def Yhd:List AI:=[oI 4 0,oC 5 (.b false)]
def Yok:List AI:=[oM 9 0,oO 10 (.call true 131 [(.t 9)]),oM 8 10,oE 11 0 8,oE 12 1 8,oM 6 11,oM 7 12]
def Ync:List AI:=[oM 13 6,oM 14 7,oM 15 14,gT 15 (oM 16 6),gT 15 (oV 17 .geq 16 0),oA 18 15 17,oM 19 18,gT 19 (oM 20 6),gT 19 (oM 21 1),gT 19 (oT 22 .lss 20 21),oA 23 19 22,oM 4 13,oM 5 23]
abbrev Wbr:AC:=(sR 0 Yhd (sR 1 Yok (sR 2 Ync .ret)))
def Lm:AF:={ nt:=24,res:=[.tmp 4,.tmp 5],body:=Wbr }
abbrev Yud (d:Nat)(Zm:St)(kp:Zq)(vp:Nat)(Q:AE->Sl->St->Prop)(K:Int->Bool->Sc->Prop):Prop:=∀(σ:Sl)(st:St)(res0:Int)(res1:Bool)(b_:Sc),σ 4=.i .i64 res0->σ 5=.b res1->lk st.bx kp=some (vp,[.s b_.left])->Fr d kp Zm.bx Zm.ow st.bx st.ow->K res0 res1 b_->Q .ret σ st
def Zvi (PG:Za)(K:Int->Bool->Sc->Prop)(n1:Int)(mP:Sc):Prop:=
  ∃c j,∃e:Sc,Yt PG 131 (Bx [.s mP.left]) [] (fun r=>r=.tup [.i .i64 c,.b j]) ((Bx [.s e.left]))/\(j=true->(c>=0->K c (decide (c<n1)) e)/\(¬(c>=0)->K c false e))/\(j=false->K c false e)
section
variable {PG:Za}{d:Nat}{Q:AE->Sl->St->Prop}{K:Int->Bool->Sc->Prop}{Zm:St}{kp:Zq}{vp:Nat}(hQ:Yud d Zm kp vp Q K)(hkp:kp.1<d){σ:Sl}{st:St}
include hQ hkp
variable {n1:Int}{mP:Sc}
variable (H0:σ 0=.p kp vp 0)(H1:σ 1=.i .i64 n1)(BP:lk st.bx kp=some (vp,[.s mP.left]))(FR:Fr d kp Zm.bx Zm.ow st.bx st.ow)
include H0 H1 BP FR in
theorem Wkk (h:Zvi PG K n1 mP):W PG d (sR 0 Yhd (sR 1 Yok (sR 2 Ync .ret))) σ st Q:=
 q_ J (m_ (m_ (e_ (q_ J (m_ (x2 h fun _ _ o=>o.elim fun _ c=>Wi (Ya H0 Yr) c.1 (Nat.lt_succ_of_lt hkp) BP (fun _ j k=>m_ (x_ J J (x_ J J (m_ (m_ (e_ (q_ J (Xa J (z_ 2 J (Kt (g:=15) J (fun e=>Zc J (Xa J (Zc J (b_ J J Ul (z_ 2 J (Ym (g:=19) J (fun i=>Zc J (Xa J (Zc J (Xa H1 (Zc J (b_ J J Wn (Hr J J (Xa J (Yq J (Zo (hQ _ _ _ _ _ J J j (Fr.pass FR k) ((c.2.1 e).1 i)))))))))))) (fun i=>z_ 4 J (Xa J (Yq J (Zo (hQ _ _ _ _ _ J J j (Fr.pass FR k) ((c.2.1 e).2 i)))))))))))) (fun e=>z_ 8 J (Xa J (Yq J (Zo (hQ _ _ _ _ _ J J j (Fr.pass FR k) (c.2.2 e))))))))))))))))))))))
end
theorem Wfs {PG:Za}(hf:PG.fn 140=some Lm){n1:Int}{mP:Sc}{K:Int->Bool->Sc->Prop}(h:Zvi PG K n1 mP):Qv PG 140 (Bx [.s mP.left]) [.i .i64 n1] (fun r (b_:Sc)=>∃res0:Int,∃res1:Bool,(r=.tup [.i .i64 res0,.b res1])/\K res0 res1 b_) (fun b_=>(Bx [.s b_.left])):=
  Qv.of hf rfl (fun _=>Bx.out) fun d st kp vp hkp hB=>Wkk (Zm:=st) (Q:=fun e σ st'=>(e=.normal\/e=.ret)/\∃r b_,Xm σ st' Lm.res=some r/\_/\_/\Fr d kp st.bx st.ow st'.bx st'.ow) (fun σ st'   res0 res1 b_ H4 H5 hb hf hk=>⟨.inr rfl,.tup [.i .i64 res0,.b res1],b_,by simp only [Lm,Xm,Vk,H4,H5,Kp,Option.map_some,H4,H5],⟨res0,res1,rfl,hk⟩,hb,hf⟩) hkp (σ:=Wh [.p kp vp 0,.i .i64 n1]) rfl rfl hB Fr.refl h
def Yap:List AI:=[oY 2 3 0,oI 4 0,oO 5 (.alloc [z6,z6,z7,zl]),oC 6 (.b false)]
def Wjp:List AI:=[oM 13 1,oO 14 (.build [zs] [(0,1,(.t 13))]),oY 15 1 14,oM 7 15]
def Xqh:List AI:=[oO 8 (.alloc [z6,z6,z7,zl])]
def Yvk:List AI:=[oM 16 7,oO 17 (.call true 128 [(.t 16),(.c (.s [35]))]),oZ 18 17]
def Wk6:List AI:=[oK 19 4 8,oI 4 0,oS 4 5 19,oC 6 (.b false)]
def Wnb:List AI:=[oM 21 7,oO 22 (.call true 140 [(.t 21),(.c (.i .i64 170))]),oM 20 22,oE 23 0 20,oE 24 1 20,oM 9 23,oM 10 24]
def Xgt:List AI:=[oM 25 10,oZ 26 25,oM 27 26,gF 27 (oM 28 7),gF 27 (oO 29 (.call true 128 [(.t 28),(.c (.s [32]))])),gF 27 (oZ 30 29),oR 31 27 30]
def Wki:List AI:=[oK 32 4 8,oI 4 0,oS 4 5 32,oC 6 (.b false)]
def Xoa:List AI:=[oM 34 7,oF 35 2 2,oL 36 35,oJ 37 36,oO 38 (.call true 140 [(.t 34),(.t 37)]),oM 33 38,oE 39 0 33,oE 40 1 33,oF 41 0 8,oS 1 41 39,oM 10 40]
def Wky:List AI:=[oM 42 10,oZ 43 42,oM 44 43,gF 44 (oM 45 7),gF 44 (oF 46 2 2),gF 44 (oL 47 46),gF 44 (oF 48 0 8),gF 44 (oL 49 48),gF 44 (oX 50 7 47 49),gF 44 (oF 51 0 50),gF 44 (oL 52 51),gF 44 (oQ 53 112 [52]),gF 44 (oB 54 .add (.c (.s [32])) (.t 53)),gF 44 (oB 55 .add (.t 54) (.c (.s [32,97,116,32]))),gF 44 (oO 56 (.call true 128 [(.t 45),(.t 55)])),gF 44 (oZ 57 56),oR 58 44 57]
def Xdu:List AI:=[oK 59 4 8,oI 4 0,oS 4 5 59,oC 6 (.b false)]
def Wg8:List AI:=[oM 61 7,oF 62 2 2,oL 63 62,oF 64 0 8,oL 65 64,oX 66 7 63 65,oF 67 4 66,oL 68 67,oJ 69 68,oO 70 (.call true 140 [(.t 61),(.t 69)]),oM 60 70,oE 71 0 60,oE 72 1 60,oF 73 1 8,oS 1 73 71,oM 10 72]
def Wax:List AI:=[oM 74 10,oZ 75 74,oM 76 75,gF 76 (oM 77 7),gF 76 (oO 78 (.call true 128 [(.t 77),(.c (.s [32]))])),gF 76 (oZ 79 78),oR 80 76 79]
def Wb4:List AI:=[oK 81 4 8,oI 4 0,oS 4 5 81,oC 6 (.b false)]
def Weq:List AI:=[oQ 82 113 [],oO 11 (.alloc [zs,zs,zs,zs]),oS 4 11 82]
def Xy9:List AI:=[oO 83 (.slA 4 1 (.t 11) none none),oM 84 7,oN 85 84,oF 86 0 85,oL 87 86,oQ 88 141 [83,87],oM 12 88]
def Xq9:List AI:=[oM 89 12,oO 90 (.max (.c (.i .i64 0)) (.t 89)),oO 91 (.cvi .u64 (.t 90)),oF 92 2 8,oS 1 92 91]
def Ywn:List AI:=[oM 93 9,oK 94 4 8,oM 95 12,oV 96 .geq 95 0,oM 4 93,oS 4 5 94,oM 6 96]
abbrev Yfn:AC:=(.cond (.t 31) (sR 7 Wki .ret) .skip)
abbrev Zwo:AC:=(.cond (.t 58) (sR 10 Xdu .ret) .skip)
abbrev Yan:AC:=(.cond (.t 80) (sR 13 Wb4 .ret) .skip)
abbrev Zv8:AC:=(sR 14 Weq (sR 15 Xy9 (sR 16 Xq9 (sR 17 Ywn .ret))))
abbrev Zjg:AC:=(sR 11 Wg8 (.seq (sR 12 Wax Yan) Zv8))
abbrev Ygp:AC:=(.seq (sR 9 Wky Zwo) Zjg)
abbrev Zqg:AC:=(sR 8 Xoa Ygp)
abbrev Ymu:AC:=(.seq (sR 6 Xgt Yfn) Zqg)
abbrev Yrb:AC:=(sR 5 Wnb Ymu)
abbrev Yep:AC:=(.seq (sR 3 Yvk (.cond (.t 18) (sR 4 Wk6 .ret) .skip)) Yrb)
abbrev Yjg:AC:=(sR 2 Xqh Yep)
abbrev Zmp:AC:=(sR 1 Wjp Yjg)
abbrev Wsv:AC:=(sR 0 Yap Zmp)
def Pp:AF:={ nt:=97,res:=[.tmp 4,.cell 5 4 true,.tmp 6],body:=Wsv }
abbrev Xy7 (d:Nat)(Zm:St)(Q:AE->Sl->St->Prop)(K:Int->Zg->Bool->Prop):Prop:=∀(σ:Sl)(st:St)(k1:Zq)(v1:Nat)(res0:Int)(res1:Zg)(res2:Bool),σ 4=.i .i64 res0->σ 5=.p k1 v1 0->lk st.bx k1=some (v1,[.i .i64 res1.func,.i .i64 res1.pos,.i .u64 res1.mode,.sl .full (List.map Yb.row res1.locals)])->σ 6=.b res2->Fr d (d,0) Zm.bx Zm.ow st.bx st.ow->K res0 res1 res2->Q .ret σ st
def Zne (PG:Za)(K:Int->Zg->Bool->Prop)(k9:Int)(m2:Zg)(m4098:Sc)(m8192:Zg):Prop:=
  ∃c:LB,Zf PG 113 [] (.ag (List.map AV.s c))/\c.length=4/\c.length=4/\∃e,Zf PG 141 [.sl .ext (List.map Zv c),.s m4098.left] (.i .i64 e)/\K k9 (Zg.mk m8192.func m8192.pos (IntKind.u64.wrap (if 0<e then e else 0)) m8192.locals) (decide (e>=0))
def Zf7 (PG:Za)(K:Int->Zg->Bool->Prop)(k9:Int)(t80:Bool)(m2:Zg)(m4098:Sc)(m8192:Zg):Prop:=
  (t80=true->K 0 m8192 false)/\(t80=false->Zne PG K k9 m2 m4098 m8192)
def Zod (PG:Za)(K:Int->Zg->Bool->Prop)(k9:Int)(m0:Ze)(m2:Zg)(m4098:Sc)(m8192:Zg):Prop:=
  0<=m8192.func/\∃o:Zz,m0.funcs[(m8192.func).toNat]?=some o/\∃c j,∃e:Sc,Yt PG 140 (Bx [.s m4098.left]) [.i .i64 (o.code.length:Int)] (fun r=>r=.tup [.i .i64 c,.b j]) ((Bx [.s e.left]))/\((!j)=true->Zf7 PG K k9 true m2 e (Zg.mk m8192.func c m8192.mode m8192.locals))/\((!j)=false->∃p,∃k:Sc,Yt PG 128 (Bx [.s e.left]) [.s ([32]:BS)] (fun r=>r=.b p) ((Bx [.s k.left]))/\Zf7 PG K k9 (!p) m2 k (Zg.mk m8192.func c m8192.mode m8192.locals))
def Zex (PG:Za)(K:Int->Zg->Bool->Prop)(k9:Int)(t58:Bool)(m0:Ze)(m2:Zg)(m4098:Sc)(m8192:Zg):Prop:=
  (t58=true->K 0 m8192 false)/\(t58=false->Zod PG K k9 m0 m2 m4098 m8192)
def Ztp (PG:Za)(K:Int->Zg->Bool->Prop)(k9:Int)(ok10:Bool)(m0:Ze)(m2:Zg)(m4098:Sc)(m8192:Zg):Prop:=
  ((!ok10)=true->Zex PG K k9 true m0 m2 m4098 m8192)/\((!ok10)=false->0<=m8192.func/\∃i:Zz,m0.funcs[(m8192.func).toNat]?=some i/\∃c:BS,Zf PG 112 [.s i.name] (.s c)/\([32]:BS).length+c.length<=We/\(([32]:BS)++c).length+([32,97,116,32]:BS).length<=We/\∃j,∃e:Sc,Yt PG 128 (Bx [.s m4098.left]) [.s ((([32]:BS)++c)++([32,97,116,32]:BS))] (fun r=>r=.b j) ((Bx [.s e.left]))/\Zex PG K k9 (!j) m0 m2 e m8192)
def Zkg (PG:Za)(K:Int->Zg->Bool->Prop)(k9:Int)(m0:Ze)(m2:Zg)(m4098:Sc)(m8192:Zg):Prop:=
  ∃j c,∃e:Sc,Yt PG 140 (Bx [.s m4098.left]) [.i .i64 (m0.funcs.length:Int)] (fun r=>r=.tup [.i .i64 j,.b c]) ((Bx [.s e.left]))/\Ztp PG K k9 c m0 m2 e (Zg.mk j m8192.pos m8192.mode m8192.locals)
def Zik (PG:Za)(K:Int->Zg->Bool->Prop)(k9:Int)(t31:Bool)(m0:Ze)(m2:Zg)(m4098:Sc)(m8192:Zg):Prop:=
  (t31=true->K 0 m8192 false)/\(t31=false->Zkg PG K k9 m0 m2 m4098 m8192)
def Zuq (PG:Za)(K:Int->Zg->Bool->Prop)(k9:Int)(ok10:Bool)(m0:Ze)(m2:Zg)(m4098:Sc)(m8192:Zg):Prop:=
  ((!ok10)=true->Zik PG K k9 true m0 m2 m4098 m8192)/\((!ok10)=false->∃c,∃e:Sc,Yt PG 128 (Bx [.s m4098.left]) [.s ([32]:BS)] (fun r=>r=.b c) ((Bx [.s e.left]))/\Zik PG K k9 (!c) m0 m2 e m8192)
def Zmz (PG:Za)(K:Int->Zg->Bool->Prop)(m0:Ze)(m2:Zg)(m4098:Sc)(m8192:Zg):Prop:=
  ∃j c,∃e:Sc,Yt PG 140 (Bx [.s m4098.left]) [.i .i64 170] (fun r=>r=.tup [.i .i64 j,.b c]) ((Bx [.s e.left]))/\Zuq PG K j c m0 m2 e m8192
def Zlp (PG:Za)(K:Int->Zg->Bool->Prop)(m0:Ze)(m2:Zg)(m4098:Sc)(m8192:Zg):Prop:=
  ∃c,∃e:Sc,Yt PG 128 (Bx [.s m4098.left]) [.s ([35]:BS)] (fun r=>r=.b c) ((Bx [.s e.left]))/\((!c)=true->K 0 m8192 false)/\((!c)=false->Zmz PG K m0 m2 e m8192)
def Zuc (PG:Za)(K:Int->Zg->Bool->Prop)(m0:Ze)(m2:Zg)(m4098:Sc):Prop:=
  Zlp PG K m0 m2 m4098 (Zg.mk 0 0 0 ([]:List Yb))
def Zmb (PG:Za)(K:Int->Zg->Bool->Prop)(line1:BS)(m0:Ze)(m2:Zg):Prop:=
  Zuc PG K m0 m2 (Sc.mk line1)
def Zou (PG:Za)(K:Int->Zg->Bool->Prop)(m0:Ze)(line1:BS):Prop:=
  Zmb PG K line1 m0 (Zg.mk 0 0 0 ([]:List Yb))
section
variable {PG:Za}{d:Nat}{Q:AE->Sl->St->Prop}{K:Int->Zg->Bool->Prop}{Zm:St}(hQ:Xy7 d Zm Q K){σ:Sl}{st:St}
include hQ
variable {k9:Int}{m2:Zg}{m4098:Sc}{m8192:Zg}{v2 v4098 v8192:Nat}{t80:Bool}{m0:Ze}{v0:Nat}{t58 ok10 t31:Bool}{line1:BS}
variable (H0:σ 0=m0.av)(H1:σ 1=.s line1)(H2:σ 2=.p (d,0) v0 0)(H5:σ 5=.p (d,2) v2 0)(H7:σ 7=.p (d,4098) v4098 0)(H8:σ 8=.p (d,8192) v8192 0)(H9:σ 9=.i .i64 k9)(H80:σ 80=.b t80)(H58:σ 58=.b t58)(H10:σ 10=.b ok10)(H31:σ 31=.b t31)(B0:lk st.bx (d,0)=some (v0,Ze.cs m0))(B2:lk st.bx (d,2)=some (v2,[.i .i64 m2.func,.i .i64 m2.pos,.i .u64 m2.mode,.sl .full (List.map Yb.row m2.locals)]))(B4098:lk st.bx (d,4098)=some (v4098,[.s m4098.left]))(B8192:lk st.bx (d,8192)=some (v8192,[.i .i64 m8192.func,.i .i64 m8192.pos,.i .u64 m8192.mode,.sl .full (List.map Yb.row m8192.locals)]))(FR:Fr d (d,0) Zm.bx Zm.ow st.bx st.ow)
include H5 H7 H8 H9 B2 B4098 B8192 FR in
theorem Xez (h:Zne PG K k9 m2 m4098 m8192):W PG d Zv8 σ st Q:=
 Zk (W.reg (h.elim fun _ c=>Yi sn c.1 (Xy (Pz (f:=AV.s) (fun _=>J) J (show lk _ (d,57345)=some (_,(List.map AV.s (List.replicate 4 ([]:BS)):List AV)) from Zj) (by simp) J c.2.1 (e_ (q_ J (Zzg J Zj c.2.2.1 J (m_ (Wp H7 (f_ J (l_ J (Za7 J (Zs J (Zs J B4098))) J J (c.2.2.2.elim fun _ e=>Yi (Je J J J) e.1 (m_ (e_ (q_ J (m_ (Xps J J (Zb8 J (f_ H8 (Ye J (Za7 J (Zs J (Zs J B8192))) J J J (e_ (q_ J (m_ (l_ H8 Zj J J (m_ (b_ J J Ul (m_ (Ye H5 (Zs J (Za7 J (Zs J (Zs J B2)))) J J J (m_ (Zo (hQ _ _ _ _ _ _ _ H9 H5 Zj J (Fr.box (Fr.box (Fr.del (Fr.box (Fr.box FR))))) e.2)))))))))))))))))))))))))))))))
include H5 H7 H8 H9 H80 B2 B4098 B8192 FR in
theorem Yq7 (h:Zf7 PG K k9 t80 m2 m4098 m8192):W PG d Yan σ st (Zl PG d Zv8 Q):=
 Xs H80 (fun c=>q_ J (l_ H8 B8192 J J (m_ (Ye H5 B2 J J J (m_ (Zo (hQ _ _ _ _ _ _ _ J H5 Zj J (Fr.box FR) (h.1 c)))))))) (fun c=>Yc (Xez hQ H5 H7 H8 H9 B2 B4098 B8192 FR (h.2 c)))
include H2 H5 H7 H8 H9 B0 B2 B4098 B8192 FR in
theorem Xkv (h:Zod PG K k9 m0 m2 m4098 m8192):W PG d Zjg σ st Q:=
 q_ J (m_ (f_ H2 (l_ J B0 J J (f_ H8 (l_ J B8192 J J (h.2.elim fun r o=>Wq J J h.1 o.1 (Zz.row_eq r) J (Ke J (Xk J J J (Yo J (x2 o.2 fun q _ u=>u.elim fun _ e=>Wi (Ya H7 (Ya J Yr)) e.1 (Nat.lt_succ_self d) B4098 (fun _ p c=>m_ (x_ J J (x_ J J (f_ H8 (Ye J ((c.1 (d,8192) (Nat.lt_succ_self d) (Wk J)).trans B8192) J J J (m_ (e_ (Zk (q_ J (Yq J (Xx J (Yq J (Kt (g:=76) J (fun i=>z_ 4 J (e_ (Yq7 (m8192:=(Zg.mk m8192.func q m8192.mode m8192.locals)) hQ H5 H7 H8 H9 J (Zs J ((c.1 (d,2) (Nat.lt_succ_self d) (Wk J)).trans B2)) (Zs J p) Zj (Fr.box (Fr.call FR c)) (e.2.1 i)))) (fun i=>Zc J (Vo H7 (Zc J ((e.2.2 i).elim fun _ s=>s.elim fun _ k=>Wi (Ya J (Ya J Yr)) k.1 (Nat.lt_succ_self d) (Zs J p) (fun _ v j=>Zc J (Xx J (Vf J J (e_ (Yq7 (m8192:=(Zg.mk m8192.func q m8192.mode m8192.locals)) hQ H5 H7 H8 H9 J ((j.1 (d,2) (Nat.lt_succ_self d) (Wk J)).trans (Zs J ((c.1 (d,2) (Nat.lt_succ_self d) (Wk J)).trans B2))) v ((j.1 (d,8192) (Nat.lt_succ_self d) (Wk J)).trans Zj) (Fr.call (Fr.box (Fr.call FR c)) j) k.2))))))))))))))))))))))))))))))))
include H2 H5 H7 H8 H9 H58 B0 B2 B4098 B8192 FR in
theorem Yqv (h:Zex PG K k9 t58 m0 m2 m4098 m8192):W PG d Zwo σ st (Zl PG d Zjg Q):=
 Xs H58 (fun c=>q_ J (l_ H8 B8192 J J (m_ (Ye H5 B2 J J J (m_ (Zo (hQ _ _ _ _ _ _ _ J H5 Zj J (Fr.box FR) (h.1 c)))))))) (fun c=>Yc (Xkv hQ H2 H5 H7 H8 H9 B0 B2 B4098 B8192 FR (h.2 c)))
include H2 H5 H7 H8 H9 H10 B0 B2 B4098 B8192 FR in
theorem Wg0 (h:Ztp PG K k9 ok10 m0 m2 m4098 m8192):W PG d Ygp σ st Q:=
 Zk (q_ J (Yq H10 (Xx J (Yq J (Kt (g:=44) J (fun e=>z_ 14 J (e_ (Yqv hQ H2 H5 H7 H8 H9 J B0 B2 B4098 B8192 FR (h.1 e)))) (fun e=>Zc J (Vo H7 (Zc J (f_ H2 (Zc J (l_ J B0 J J (Zc J (f_ H8 (Zc J (l_ J B8192 J J (Zc J ((h.2 e).2.elim fun o j=>Wq J J (h.2 e).1 j.1 (Zz.row_eq o) J (Zc J (Ke J (Zc J (Xk J J J (Zc J (j.2.elim fun _ c=>Yi (Wr J J) c.1 (Zc J (b_ J J (Jc c.2.1) (Zc J (b_ J J (Jc c.2.2.1) (Zc J (c.2.2.2.elim fun _ p=>p.elim fun _ k=>Wi (Ya J (Ya J Yr)) k.1 (Nat.lt_succ_self d) B4098 (fun _ q i=>Zc J (Xx J (Vf J J (e_ (Yqv hQ H2 H5 H7 H8 H9 J ((i.1 (d,0) (Nat.lt_succ_self d) (Wk J)).trans B0) ((i.1 (d,2) (Nat.lt_succ_self d) (Wk J)).trans B2) q ((i.1 (d,8192) (Nat.lt_succ_self d) (Wk J)).trans B8192) (Fr.call FR i) k.2))))))))))))))))))))))))))))))))))
include H2 H5 H7 H8 H9 B0 B2 B4098 B8192 FR in
theorem Xll (h:Zkg PG K k9 m0 m2 m4098 m8192):W PG d Zqg σ st Q:=
 q_ J (m_ (f_ H2 (l_ J B0 J J (Yo J (x2 h fun k _ i=>i.elim fun _ e=>Wi (Ya H7 (Ya J Yr)) e.1 (Nat.lt_succ_self d) B4098 (fun _ j c=>m_ (x_ J J (x_ J J (f_ H8 (Ye J ((c.1 (d,8192) (Nat.lt_succ_self d) (Wk J)).trans B8192) J J J (m_ (e_ (Wg0 (m8192:=(Zg.mk k m8192.pos m8192.mode m8192.locals)) hQ H2 H5 H7 H8 H9 J (Zs J ((c.1 (d,0) (Nat.lt_succ_self d) (Wk J)).trans B0)) (Zs J ((c.1 (d,2) (Nat.lt_succ_self d) (Wk J)).trans B2)) (Zs J j) Zj (Fr.box (Fr.call FR c)) e.2)))))))))))))
include H2 H5 H7 H8 H9 H31 B0 B2 B4098 B8192 FR in
theorem Ya1 (h:Zik PG K k9 t31 m0 m2 m4098 m8192):W PG d Yfn σ st (Zl PG d Zqg Q):=
 Xs H31 (fun c=>q_ J (l_ H8 B8192 J J (m_ (Ye H5 B2 J J J (m_ (Zo (hQ _ _ _ _ _ _ _ J H5 Zj J (Fr.box FR) (h.1 c)))))))) (fun c=>Yc (Xll hQ H2 H5 H7 H8 H9 B0 B2 B4098 B8192 FR (h.2 c)))
include H2 H5 H7 H8 H9 H10 B0 B2 B4098 B8192 FR in
theorem Xs6 (h:Zuq PG K k9 ok10 m0 m2 m4098 m8192):W PG d Ymu σ st Q:=
 Zk (q_ J (Yq H10 (Xx J (Yq J (Kt (g:=27) J (fun e=>z_ 4 J (e_ (Ya1 hQ H2 H5 H7 H8 H9 J B0 B2 B4098 B8192 FR (h.1 e)))) (fun e=>Zc J (Vo H7 (Zc J ((h.2 e).elim fun _ j=>j.elim fun _ i=>Wi (Ya J (Ya J Yr)) i.1 (Nat.lt_succ_self d) B4098 (fun _ k c=>Zc J (Xx J (Vf J J (e_ (Ya1 hQ H2 H5 H7 H8 H9 J ((c.1 (d,0) (Nat.lt_succ_self d) (Wk J)).trans B0) ((c.1 (d,2) (Nat.lt_succ_self d) (Wk J)).trans B2) k ((c.1 (d,8192) (Nat.lt_succ_self d) (Wk J)).trans B8192) (Fr.call FR c) i.2))))))))))))))
include H2 H5 H7 H8 B0 B2 B4098 B8192 FR in
theorem Xr7 (h:Zmz PG K m0 m2 m4098 m8192):W PG d Yrb σ st Q:=
 q_ J (m_ (x2 h fun _ _ i=>i.elim fun _ e=>Wi (Ya H7 (Ya J Yr)) e.1 (Nat.lt_succ_self d) B4098 (fun _ j c=>m_ (x_ J J (x_ J J (m_ (m_ (e_ (Xs6 hQ H2 H5 H7 H8 J J ((c.1 (d,0) (Nat.lt_succ_self d) (Wk J)).trans B0) ((c.1 (d,2) (Nat.lt_succ_self d) (Wk J)).trans B2) j ((c.1 (d,8192) (Nat.lt_succ_self d) (Wk J)).trans B8192) (Fr.call FR c) e.2)))))))))
include H2 H5 H7 H8 B0 B2 B4098 B8192 FR in
theorem Wfu (h:Zlp PG K m0 m2 m4098 m8192):W PG d Yep σ st Q:=
 Zk (q_ J (m_ (h.elim fun _ j=>j.elim fun _ e=>Wi (Ya H7 (Ya J Yr)) e.1 (Nat.lt_succ_self d) B4098 (fun _ k c=>Xx J (e_ (Xs J (fun i=>q_ J (l_ H8 ((c.1 (d,8192) (Nat.lt_succ_self d) (Wk J)).trans B8192) J J (m_ (Ye H5 ((c.1 (d,2) (Nat.lt_succ_self d) (Wk J)).trans B2) J J J (m_ (Zo (hQ _ _ _ _ _ _ _ J H5 Zj J (Fr.box (Fr.call FR c)) (e.2.1 i)))))))) (fun i=>Yc (Xr7 hQ H2 H5 H7 H8 ((c.1 (d,0) (Nat.lt_succ_self d) (Wk J)).trans B0) ((c.1 (d,2) (Nat.lt_succ_self d) (Wk J)).trans B2) k ((c.1 (d,8192) (Nat.lt_succ_self d) (Wk J)).trans B8192) (Fr.call FR c) (e.2.2 i)))))))))
include H2 H5 H7 B0 B2 B4098 FR in
theorem Wcy (h:Zuc PG K m0 m2 m4098):W PG d Yjg σ st Q:=
 Zk (W.reg (Xy (e_ (Wfu (m8192:=(Zg.mk 0 0 0 ([]:List Yb))) hQ H2 H5 H7 J (Zs J B0) (Zs J B2) (Zs J B4098) (show lk _ (d,8192)=some (_,([.i .i64 0,.i .i64 0,.i .u64 0,.sl .full (List.map Yb.row ([]:List Yb))]:List AV)) from Zj) (Fr.box FR) h))))
include H1 H2 H5 B0 B2 FR in
theorem Yuq (h:Zmb PG K line1 m0 m2):W PG d Zmp σ st Q:=
 q_ J (m_ (Wb (Yn H1 J Xr) (Vx J J (m_ (e_ (Wcy (m4098:=(Sc.mk line1)) hQ H2 H5 J (Zs J B0) (Zs J B2) Zj (Fr.box FR) h))))))
include H0 H1 FR in
theorem Xb9 (h:Zou PG K m0 line1):W PG d (sR 0 Yap Zmp) σ st Q:=
 Zk (W.reg (Vx H0 J (m_ (Xy (m_ (e_ (Yuq (m2:=(Zg.mk 0 0 0 ([]:List Yb))) hQ H1 J J Zj (Zs J (show lk _ (d,2)=some (_,([.i .i64 0,.i .i64 0,.i .u64 0,.sl .full (List.map Yb.row ([]:List Yb))]:List AV)) from Zj)) (Fr.box (Fr.box FR)) h)))))))
end
theorem Xwi {PG:Za}(hf:PG.fn 117=some Pp){m0:Ze}{line1:BS}{K:Int->Zg->Bool->Prop}(h:Zou PG K m0 line1):Yp PG 117 [m0.av,.s line1] (fun r=>∃res0:Int,∃res1:Zg,∃res2:Bool,(r=.tup [.i .i64 res0,res1.avo .full,.b res2])/\K res0 res1 res2):=
  Yp.of hf rfl fun d st=>Xb9 (Zm:=st) (Q:=fun e σ st'=>(e=.normal\/e=.ret)/\∃r,Xm σ st' Pp.res=some r/\_/\Fr d (d,0) st.bx st.ow st'.bx st'.ow) (fun σ st' k1 v1  res0 res1 res2 H4 H5 HB5 H6 hf hk=>⟨.inr rfl,.tup [.i .i64 res0,res1.avo .full,.b res2],by simp only [Pp,Xm,Vk,H4,Jz (n:=4) H5 HB5 rfl,H6,Qb,Option.map_some,H4,Jz (n:=4) H5 HB5 rfl,H6],⟨res0,res1,res2,rfl,hk⟩,hf⟩) (σ:=Wh [m0.av,.s line1]) rfl rfl Fr.refl h
def Zyc:List AI:=[oY 2 7 0,oO 4 (.alloc [z6,z8,z6,zs,zl,zb]),oC 5 (.b false)]
def Ym4:List AI:=[oM 11 1,oO 12 (.build [zs] [(0,1,(.t 11))]),oY 13 1 12,oM 6 13]
def Yd9:List AI:=[oM 14 6,oO 15 (.call true 128 [(.t 14),(.c (.s [32,32]))]),oZ 16 15]
def Yc8:List AI:=[oO 17 (.build [z6,z8,z6,zs,zl,zb] []),oS 6 4 17,oC 5 (.b false)]
def Ygi:List AI:=[oM 19 6,oF 20 3 2,oL 21 20,oJ 22 21,oO 23 (.call true 140 [(.t 19),(.t 22)]),oM 18 23,oE 24 0 18,oE 25 1 18,oM 7 24,oM 8 25]
def Yp7:List AI:=[oM 26 8,oZ 27 26,oM 28 27,gF 28 (oM 29 6),gF 28 (oF 30 3 2),gF 28 (oL 31 30),gF 28 (oM 32 7),gF 28 (oX 33 2 31 32),gF 28 (oF 34 0 33),gF 28 (oL 35 34),gF 28 (oQ 36 112 [35]),gF 28 (oB 37 .add (.c (.s [32])) (.t 36)),gF 28 (oB 38 .add (.t 37) (.c (.s [32,61,32]))),gF 28 (oO 39 (.call true 128 [(.t 29),(.t 38)])),gF 28 (oZ 40 39),oR 41 28 40]
def Ygr:List AI:=[oO 42 (.build [z6,z8,z6,zs,zl,zb] []),oS 6 4 42,oC 5 (.b false)]
def Yrz:List AI:=[oM 44 6,oN 45 44,oF 46 0 45,oL 47 46,oQ 48 74 [47],oM 43 48,oE 49 0 43,oE 50 1 43,oO 9 (.alloc [z8,z6,zs,zl,zb]),oS 5 9 49,oM 10 50]
def Wai:List AI:=[oM 51 7,oK 52 5 9,oO 53 (.build [z6,z8,z6,zs,zl,zb] [(0,1,(.t 51)),(1,5,(.t 52))]),oM 54 10,oV 55 .eql 54 0,oS 6 4 53,oM 5 55]
abbrev Zv5:AC:=(sR 7 Yrz (sR 8 Wai .ret))
abbrev Xq5:AC:=(sR 0 Zyc (sR 1 Ym4 (.seq (sR 2 Yd9 (.cond (.t 16) (sR 3 Yc8 .ret) .skip)) (sR 4 Ygi (.seq (sR 5 Yp7 (.cond (.t 41) (sR 6 Ygr .ret) .skip)) Zv5)))))
def It:AF:={ nt:=56,res:=[.cell 4 6 true,.tmp 5],body:=Xq5 }
abbrev Wss (Q:AE->Sl->St->Prop)(K:Yb->Bool->Prop):Prop:=∀(σ:Sl)(st:St)(k0:Zq)(v0:Nat)(o0_0:Zn)(res0:Yb)(res1:Bool),σ 4=.p k0 v0 0->lk st.bx k0=some (v0,[.i .i64 res0.slot,.i .u8 res0.value.kind,.i .i64 res0.value.int,.s res0.value.text,.sl o0_0 (List.map Zb.row res0.value.list),.b res0.value.cut])->σ 5=.b res1->K res0 res1->Q .ret σ st
def Zn0 (PG:Za)(K:Yb->Bool->Prop)(i7:Int)(m1:Yb)(m4098:Sc):Prop:=
  ∃e:Zb,∃c,Zf PG 74 [.s m4098.left] (.tup [e.av,.i .i64 c])/\K (Yb.mk i7 e) (decide (c=0))
def Zvf (PG:Za)(K:Yb->Bool->Prop)(f0:Zz)(line1:BS):Prop:=
  ∃c,∃p:Sc,Yt PG 128 (Bx [.s line1]) [.s ([32,32]:BS)] (fun r=>r=.b c) ((Bx [.s p.left]))/\((!c)=true->K (Yb.mk 0 (Zb.mk 0 0 [] ([]:List Zb) false)) false)/\((!c)=false->∃e k,∃v:Sc,Yt PG 140 (Bx [.s p.left]) [.i .i64 (f0.slots.length:Int)] (fun r=>r=.tup [.i .i64 e,.b k]) ((Bx [.s v.left]))/\((!k)=true->K (Yb.mk 0 (Zb.mk 0 0 [] ([]:List Zb) false)) false)/\((!k)=false->0<=e/\∃u:Xd,f0.slots[(e).toNat]?=some u/\∃j:BS,Zf PG 112 [.s u.name] (.s j)/\([32]:BS).length+j.length<=We/\(([32]:BS)++j).length+([32,61,32]:BS).length<=We/\∃o,∃q:Sc,Yt PG 128 (Bx [.s v.left]) [.s ((([32]:BS)++j)++([32,61,32]:BS))] (fun r=>r=.b o) ((Bx [.s q.left]))/\((!o)=true->K (Yb.mk 0 (Zb.mk 0 0 [] ([]:List Zb) false)) false)/\((!o)=false->Zn0 PG K e (Yb.mk 0 (Zb.mk 0 0 [] ([]:List Zb) false)) q)))
section
variable {PG:Za}{d:Nat}{Q:AE->Sl->St->Prop}{K:Yb->Bool->Prop}(hQ:Wss Q K){σ:Sl}{st:St}
include hQ
variable {i7:Int}{m1:Yb}{m4098:Sc}{o_m1_4:Zn}{v1 v4098:Nat}{f0:Zz}{line1:BS}
variable (H4:σ 4=.p (d,1) v1 0)(H0:σ 0=f0.av)(H6:σ 6=.p (d,4098) v4098 0)(H1:σ 1=.s line1)(H7:σ 7=.i .i64 i7)(B1:lk st.bx (d,1)=some (v1,[.i .i64 m1.slot,.i .u8 m1.value.kind,.i .i64 m1.value.int,.s m1.value.text,.sl o_m1_4 (List.map Zb.row m1.value.list),.b m1.value.cut]))(B4098:lk st.bx (d,4098)=some (v4098,[.s m4098.left]))
include H4 H6 H7 B1 B4098 in
theorem Wa4 (h:Zn0 PG K i7 m1 m4098):W PG d Zv5 σ st Q:=
 Zk (W.reg (m_ (Wp H6 (f_ J (l_ J (Zs J B4098) J J (x2 h fun _ _ c=>Yi (Wr J J) c.1 (m_ (x_ J J (x_ J J (Xy (Ye J (show lk _ (d,28680)=some (_,([.i .u8 0,.i .i64 0,.s [],.sl .full (List.map Zb.row ([]:List Zb)),.b false]:List AV)) from Zj) J J J (m_ (e_ (q_ J (m_ (l_ J Zj J J (Wb (Yn H7 J (Yn J J Xr)) (m_ (b_ J J Xo (Ye H4 (Zs J (Zs J B1)) J J J (m_ (Zo (hQ _ _ _ _ _ _ _ H4 Zj J c.2)))))))))))))))))))))))
include H0 H1 in
theorem Wmq (h:Zvf PG K f0 line1):W PG d (sR 0 Zyc (sR 1 Ym4 (.seq (sR 2 Yd9 (.cond (.t 16) (sR 3 Yc8 .ret) .skip)) (sR 4 Ygi (.seq (sR 5 Yp7 (.cond (.t 41) (sR 6 Ygr .ret) .skip)) Zv5))))) σ st Q:=
 Zk (W.reg (Vx H0 J (Xy (m_ (e_ (q_ J (m_ (Wb (Yn H1 J Xr) (Vx J J (m_ (e_ (Zk (q_ J (m_ (h.elim fun _ a0=>a0.elim fun _ q=>Wi (Ya J (Ya J Yr)) q.1 (Nat.lt_succ_self d) Zj (fun _ a3 c=>Xx J (e_ (Xs J (fun u=>q_ J (Wb Xr (Ye J ((c.1 (d,1) (Nat.lt_succ_self d) (Wk J)).trans (Zs J (Zs J (show lk _ (d,1)=some (_,([.i .i64 0,.i .u8 0,.i .i64 0,.s [],.sl .full (List.map Zb.row ([]:List Zb)),.b false]:List AV)) from Zj)))) J J J (m_ (Zo (hQ _ _ _ _ _ _ _ J Zj J (q.2.1 u))))))) (fun u=>Yc (q_ J (m_ (f_ J (l_ J ((c.1 (d,0) (Nat.lt_succ_self d) (Wk J)).trans (Zs J Zj)) J J (Yo J (x2 (q.2.2 u) fun _ _ z=>z.elim fun _ e=>Wi (Ya J (Ya J Yr)) e.1 (Nat.lt_succ_self d) a3 (fun _ a1 o=>m_ (x_ J J (x_ J J (m_ (m_ (e_ (Zk (q_ J (Yq J (Xx J (Yq J (Kt (g:=28) J (fun k=>z_ 13 J (e_ (Yl J (q_ J (Wb Xr (Ye J ((o.1 (d,1) (Nat.lt_succ_self d) (Wk J)).trans ((c.1 (d,1) (Nat.lt_succ_self d) (Wk J)).trans (Zs J (Zs J (show lk _ (d,1)=some (_,([.i .i64 0,.i .u8 0,.i .i64 0,.s [],.sl .full (List.map Zb.row ([]:List Zb)),.b false]:List AV)) from Zj))))) J J J (m_ (Zo (hQ _ _ _ _ _ _ _ J Zj J (e.2.1 k)))))))))) (fun k=>Zc J (Vo J (Zc J (f_ J (Zc J (l_ J ((o.1 (d,0) (Nat.lt_succ_self d) (Wk J)).trans ((c.1 (d,0) (Nat.lt_succ_self d) (Wk J)).trans (Zs J Zj))) J J (Zc J (Xa J (Zc J ((e.2.2 k).2.elim fun x v=>Wq J J (e.2.2 k).1 v.1 (Xd.row_eq x) J (Zc J (Ke J (Zc J (Xk J J J (Zc J (v.2.elim fun _ j=>Yi (Wr J J) j.1 (Zc J (b_ J J (Jc j.2.1) (Zc J (b_ J J (Jc j.2.2.1) (Zc J (j.2.2.2.elim fun _ y=>y.elim fun _ p=>Wi (Ya J (Ya J Yr)) p.1 (Nat.lt_succ_self d) a1 (fun _ a2 w=>Zc J (Xx J (Vf J J (e_ (Xs J (fun r=>q_ J (Wb Xr (Ye J ((w.1 (d,1) (Nat.lt_succ_self d) (Wk J)).trans ((o.1 (d,1) (Nat.lt_succ_self d) (Wk J)).trans ((c.1 (d,1) (Nat.lt_succ_self d) (Wk J)).trans (Zs J (Zs J (show lk _ (d,1)=some (_,([.i .i64 0,.i .u8 0,.i .i64 0,.s [],.sl .full (List.map Zb.row ([]:List Zb)),.b false]:List AV)) from Zj)))))) J J J (m_ (Zo (hQ _ _ _ _ _ _ _ J Zj J (p.2.1 r))))))) (fun r=>Yc (Wa4 (m1:=(Yb.mk 0 (Zb.mk 0 0 [] ([]:List Zb) false))) hQ J J J ((w.1 (d,1) (Nat.lt_succ_self d) (Wk J)).trans ((o.1 (d,1) (Nat.lt_succ_self d) (Wk J)).trans ((c.1 (d,1) (Nat.lt_succ_self d) (Wk J)).trans (Zs J (Zs J (show lk _ (d,1)=some (_,([.i .i64 0,.i .u8 0,.i .i64 0,.s [],.sl .full (List.map Zb.row ([]:List Zb)),.b false]:List AV)) from Zj)))))) a2 (p.2.2 r)))))))))))))))))))))))))))))))))))))))))))))))))))))))))))))))))))
end
theorem Xvh {PG:Za}(hf:PG.fn 118=some It){f0:Zz}{line1:BS}{K:Yb->Bool->Prop}(h:Zvf PG K f0 line1) :∃res0:Yb,∃res1:Bool,K res0 res1/\Zf PG 118 [f0.av,.s line1] (.tup [res0.av,.b res1]):=by
  obtain ⟨v,hv,res0,res1,hk,rfl⟩:=Zf.of (K:=fun v=>∃res0:Yb,∃res1:Bool,K res0 res1/\v=.tup [res0.av,.b res1]) hf rfl (Wmq (σ:=Wh [f0.av,.s line1]) (fun σ st k0 v0 o0_0 res0 res1 H4 HB4 H5 hk=>⟨.tup [res0.avo o0_0,.b res1],by simp only [It,Xm,Vk,Jz (n:=6) H4 HB4 rfl,H5,Qb,Option.map_some],_,rfl,res0,res1,hk,rfl⟩) rfl rfl h)
  exact ⟨res0,res1,hk,hv⟩
def Yg4:List AI:=[oY 2 3 0,oI 4 0,oO 5 (.alloc [z6,z6,z7,zl]),oI 6 0]
def Xj3:List AI:=[oM 16 1,oJ 17 16,oV 18 .gtr 17 17,oM 19 18,gF 19 (oM 20 1),gF 19 (oO 21 (.call true 115 [(.t 20),(.c (.fn 116 []))])),oR 22 19 21]
def Wtr:List AI:=[oO 23 (.build [z6,z6,z7,zl] []),oI 4 0,oS 4 5 23,oI 6 4]
def Xf0:List AI:=[oM 24 1,oJ 25 24,oV 26 .eql 25 0]
def Xvs:List AI:=[oO 27 (.build [z6,z6,z7,zl] []),oI 4 0,oS 4 5 27,oI 6 12]
def Xm6:List AI:=[oK 29 3 2,oM 30 1,oO 31 (.iaL 1 (.t 30) (.c (.i .i64 0))),oL 32 31,oO 33 (.call true 117 [(.t 29),(.t 32)]),oM 28 33,oE 34 0 28,oE 35 1 28,oE 36 2 28,oO 8 (.alloc [z6,z6,z7,zl]),oM 7 34,oS 4 8 35,oM 9 36]
def Wny:List AI:=[oM 37 9,oZ 38 37]
def Xwk:List AI:=[oO 39 (.build [z6,z6,z7,zl] []),oI 4 0,oS 4 5 39,oI 6 12]
def Xsp:List AI:=[oM 40 1,oO 41 (.slL 1 (.t 40) (some (.c (.i .i64 1))) none),oJ 42 41,oI 43 0]
def Xa0:List AI:=[oT 44 .lss 43 42]
def Xne:List AI:=[oX 45 1 41 43,oL 46 45,oM 11 46]
def Yvh:List AI:=[oF 48 2 2,oL 49 48,oF 50 0 8,oL 51 50,oX 52 7 49 51,oK 53 7 52,oM 54 11,oQ 55 118 [53,54],oM 47 55,oE 56 0 47,oE 57 1 47,oO 12 (.alloc [z6,z8,z6,zs,zl,zb]),oS 6 12 56,oM 13 57]
def Wg5:List AI:=[oM 58 13,oZ 59 58]
def Xr8:List AI:=[oO 60 (.build [z6,z6,z7,zl] []),oI 4 0,oS 4 5 60,oI 6 12]
def Xy6:List AI:=[oF 61 3 8,oL 62 61,oK 63 6 12,oO 64 (.bslice [z6,z8,z6,zs,zl,zb] 1 [(0,(.t 63))]),oO 65 (.app 6 72 (.t 62) (.t 64)),oF 66 3 8,oS 1 66 65]
def Wsp:List AI:=[oV 67 .add 43 1,oM 43 67]
def Xhn:List AI:=[oK 69 3 2,oM 70 7,oK 71 4 8,oQ 72 82 [69,70,71],oM 68 72,oE 73 0 68,oE 74 1 68,oM 14 73,oM 15 74]
def Whs:List AI:=[oM 75 15,oV 76 .neq 75 0,oM 77 76,gF 77 (oM 78 14),gF 77 (oM 79 1),gF 77 (oQ 80 119 [78,79]),gF 77 (oZ 81 80),oR 82 77 81]
def Xvk:List AI:=[oO 83 (.build [z6,z6,z7,zl] []),oI 4 0,oS 4 5 83,oI 6 12]
def Xnk:List AI:=[oM 84 7,oK 85 4 8,oM 4 84,oS 4 5 85,oI 6 0]
abbrev Yia:AC:=(.cond (.t 22) (sR 2 Wtr .ret) .skip)
abbrev Zfe:AC:=(sR 9 Xa0 (.seq (.cond (.t 44) .skip (.exit 0)) (.seq (.block 1 (sR 10 Xne (sR 11 Yvh (.seq (sR 12 Wg5 (.cond (.t 59) (sR 13 Xr8 .ret) .skip)) (.reg 14 Xy6))))) (.reg 15 Wsp))))
abbrev Yau:AC:=(.cond (.t 82) (sR 18 Xvk .ret) .skip)
abbrev Zpb:AC:=(sR 19 Xnk .ret)
abbrev Zib:AC:=(.seq (sR 16 Xhn (sR 17 Whs Yau)) Zpb)
abbrev Ycr:AC:=(.seq (sR 8 Xsp (.block 0 (.loop Zfe))) Zib)
abbrev Yr7:AC:=(.seq (sR 6 Wny (.cond (.t 38) (sR 7 Xwk .ret) .skip)) Ycr)
abbrev Yn0:AC:=(sR 5 Xm6 Yr7)
abbrev Znq:AC:=(.seq (sR 3 Xf0 (.cond (.t 26) (sR 4 Xvs .ret) .skip)) Yn0)
abbrev Zkh:AC:=(.seq (sR 1 Xj3 Yia) Znq)
abbrev b84:AC:=(sR 0 Yg4 Zkh)
def Il:AF:={ nt:=86,res:=[.tmp 4,.cell 5 4 true,.tmp 6],body:=b84 }
abbrev H84 (Q:AE->Sl->St->Prop)(K:Int->Zg->Int->Prop):Prop:=∀(σ:Sl)(st:St)(k1:Zq)(v1:Nat)(o1_0:Zn)(res0:Int)(res1:Zg)(res2:Int),σ 4=.i .i64 res0->σ 5=.p k1 v1 0->lk st.bx k1=some (v1,[.i .i64 res1.func,.i .i64 res1.pos,.i .u64 res1.mode,.sl o1_0 (List.map Yb.row res1.locals)])->σ 6=.i .i64 res2->K res0 res1 res2->Q .ret σ st
abbrev Yf7 (PG:Za)(d:Nat)(Q:AE->Sl->St->Prop)(l1:LB)(k7:Int)(t41:LB)(t42:Int)(t43:Int)(m0:Ze)(m2:Zg)(m20489:Zg):Prop:=
  ∀(σ:Sl)(st:St) (o_l1 o_t41 o_m2_3 o_m20489_3:Zn) (v0 v2 v20489:Nat),σ 1=.sl o_l1 (List.map Zv l1)->σ 2=.p (d,0) v0 0->σ 5=.p (d,2) v2 0->σ 7=.i .i64 k7->σ 8=.p (d,20489) v20489 0->σ 41=.sl o_t41 (List.map Zv t41)->σ 42=.i .i64 t42->σ 43=.i .i64 t43->Xe d st.ow o_m20489_3 m20489.locals.length->lk st.bx (d,0)=some (v0,Ze.cs m0)->lk st.bx (d,2)=some (v2,[.i .i64 m2.func,.i .i64 m2.pos,.i .u64 m2.mode,.sl o_m2_3 (List.map Yb.row m2.locals)])->lk st.bx (d,20489)=some (v20489,[.i .i64 m20489.func,.i .i64 m20489.pos,.i .u64 m20489.mode,.sl o_m20489_3 (List.map Yb.row m20489.locals)])->W PG d (.loop Zfe) σ st (Zw 0 (Zl PG d Zib Q))
def Zn7 (PG:Za)(K:Int->Zg->Int->Prop)(k7:Int)(m2:Zg)(m20489:Zg):Prop:=
  K k7 m20489 0
def Ou (PG:Za)(K:Int->Zg->Int->Prop)(k7:Int)(t82:Bool)(m2:Zg)(m20489:Zg):Prop:=
  (t82=true->K 0 (Zg.mk 0 0 0 ([]:List Yb)) 12)/\(t82=false->Zn7 PG K k7 m2 m20489)
def Zth (PG:Za)(K:Int->Zg->Int->Prop)(l1:LB)(k7:Int)(m0:Ze)(m2:Zg)(m20489:Zg):Prop:=
  ∃e c,Zf PG 82 [m0.av,.i .i64 k7,m20489.av] (.tup [.sl .ext (List.map Zv e),.i .i64 c])/\(c≠0->Ou PG K k7 true m2 m20489)/\(¬(c≠0)->∃j,Zf PG 119 [.sl .ext (List.map Zv e),.sl .ext (List.map Zv l1)] (.b j)/\Ou PG K k7 (!j) m2 m20489)
def Zbx (PG:Za)(K:Int->Zg->Int->Prop)(P0:Int->Ze->Zg->Zg->Prop)(l1:LB)(k7:Int)(t41:LB)(t42:Int)(t43:Int)(m0:Ze)(m2:Zg)(m20489:Zg):Prop:=
  (t43<t42->0<=t43/\∃i,t41[(t43).toNat]?=some i/\0<=m20489.func/\∃j:Zz,m0.funcs[(m20489.func).toNat]?=some j/\∃c:Yb,∃e,Zf PG 118 [j.av,.s i] (.tup [c.av,.b e])/\((!e)=true->K 0 (Zg.mk 0 0 0 ([]:List Yb)) 12)/\((!e)=false->Qn (m20489.locals.length+[c].length) 72/\P0 (IntKind.i64.wrap (t43+1)) m0 m2 (Zg.mk m20489.func m20489.pos m20489.mode (m20489.locals++[c]))))/\(¬(t43<t42)->Zth PG K l1 k7 m0 m2 m20489)
def Zlz (PG:Za)(K:Int->Zg->Int->Prop)(l1:LB)(k7:Int)(m0:Ze)(m2:Zg)(m20489:Zg):Prop:=
  1<=l1.length/\∀P0:Int->Ze->Zg->Zg->Prop,(∀(t43:Int)(m0:Ze)(m2:Zg)(m20489:Zg),Zbx PG K P0 l1 k7 (l1.drop 1) ((l1.drop 1).length:Int) t43 m0 m2 m20489->P0 t43 m0 m2 m20489)->P0 0 m0 m2 m20489
def Zkr (PG:Za)(K:Int->Zg->Int->Prop)(l1:LB)(k7:Int)(ok9:Bool)(m0:Ze)(m2:Zg)(m20489:Zg):Prop:=
  ((!ok9)=true->K 0 (Zg.mk 0 0 0 ([]:List Yb)) 12)/\((!ok9)=false->Zlz PG K l1 k7 m0 m2 m20489)
def Zku (PG:Za)(K:Int->Zg->Int->Prop)(l1:LB)(m0:Ze)(m2:Zg):Prop:=
  ∃k,l1[0]?=some k/\∃j,∃c:Zg,∃e,(Yp PG 117 [m0.av,.s k] (fun r=>r=.tup [.i .i64 j,c.avo .full,.b e]))/\Zkr PG K l1 j e m0 m2 c
def Zrv (PG:Za)(K:Int->Zg->Int->Prop)(l1:LB)(m0:Ze)(m2:Zg):Prop:=
  ((l1.length:Int)=0->K 0 (Zg.mk 0 0 0 ([]:List Yb)) 12)/\(¬((l1.length:Int)=0)->Zku PG K l1 m0 m2)
def Ze3 (PG:Za)(K:Int->Zg->Int->Prop)(l1:LB)(t22:Bool)(m0:Ze)(m2:Zg):Prop:=
  (t22=true->K 0 (Zg.mk 0 0 0 ([]:List Yb)) 4)/\(t22=false->Zrv PG K l1 m0 m2)
def Zl5 (PG:Za)(K:Int->Zg->Int->Prop)(l1:LB)(m0:Ze)(m2:Zg):Prop:=
  ((l1.length:Int)>17->Ze3 PG K l1 true m0 m2)/\(¬((l1.length:Int)>17)->∃c,(∀e:Zn,Yp PG 115 [.sl e (List.map Zv l1),.fn 116 []] (fun r=>r=.b c))/\Ze3 PG K l1 c m0 m2)
def Zlb (PG:Za)(K:Int->Zg->Int->Prop)(m0:Ze)(l1:LB):Prop:=
  Zl5 PG K l1 m0 (Zg.mk 0 0 0 ([]:List Yb))
section
variable {PG:Za}{d:Nat}{Q:AE->Sl->St->Prop}{K:Int->Zg->Int->Prop}(hQ:H84 Q K){σ:Sl}{st:St}
include hQ
variable {k7:Int}{m2 m20489:Zg}{o_m2_3 o_m20489_3:Zn}{v2 v20489:Nat}{t82:Bool}{l1:LB}{m0:Ze}{o_l1:Zn}{v0:Nat}{t41:LB}{t42 t43:Int}{P0:Int->Ze->Zg->Zg->Prop}{o_t41:Zn}{ok9 t22:Bool}
variable (kP0 :∀(t43:Int)(m0:Ze)(m2:Zg)(m20489:Zg),P0 t43 m0 m2 m20489->Yf7 PG d Q l1 k7 t41 t42 t43 m0 m2 m20489)(H0:σ 0=m0.av)(H1:σ 1=.sl o_l1 (List.map Zv l1))(H2:σ 2=.p (d,0) v0 0)(H5:σ 5=.p (d,2) v2 0)(H7:σ 7=.i .i64 k7)(Kv:σ 22=.b t22)(H8:σ 8=.p (d,20489) v20489 0)(H82:σ 82=.b t82)(Tn:σ 41=.sl o_t41 (List.map Zv t41))(H9:σ 9=.b ok9)(H42:σ 42=.i .i64 t42)(H43:σ 43=.i .i64 t43)(Ab20489:Xe d st.ow o_m20489_3 m20489.locals.length)(B0:lk st.bx (d,0)=some (v0,Ze.cs m0))(B2:lk st.bx (d,2)=some (v2,[.i .i64 m2.func,.i .i64 m2.pos,.i .u64 m2.mode,.sl o_m2_3 (List.map Yb.row m2.locals)]))(B20489:lk st.bx (d,20489)=some (v20489,[.i .i64 m20489.func,.i .i64 m20489.pos,.i .u64 m20489.mode,.sl o_m20489_3 (List.map Yb.row m20489.locals)]))
include H5 H7 H8 Ab20489 B2 B20489 in
theorem Yua (h:Zn7 PG K k7 m2 m20489):W PG d Zpb σ st Q:=
 au trivial
include H5 H7 H8 H82 Ab20489 B2 B20489 in
theorem Ydt (h:Ou PG K k7 t82 m2 m20489):W PG d Yau σ st (Zl PG d Zpb Q):=
 au @Yua
include H1 H2 H5 H7 H8 Ab20489 B0 B2 B20489 in
theorem Yti (h:Zth PG K l1 k7 m0 m2 m20489):W PG d Zib σ st Q:=
 Zk (q_ J (l_ H2 B0 J J (m_ (l_ H8 B20489 J J (x2 h fun _ _ c=>Yi (Ce J H7 J J) c.1 (m_ (x_ J J (x_ J J (Yf J (m_ (e_ (q_ J (Xa J (b_ J J Ws (Yq J (Ym (g:=77) J (fun e=>z_ 5 J (e_ (Ydt hQ H5 H7 H8 J Ab20489 B2 B20489 (c.2.1 e)))) (fun e=>Zc J (Yf J (Zc J (Yf H1 (Zc J ((c.2.2 e).elim fun _ i=>Yi (Je J J J) i.1 (Zc J (Xx J (Vf J J (e_ (Ydt hQ H5 H7 H8 J Ab20489 B2 B20489 i.2)))))))))))))))))))))))))))
include kP0 H1 H2 H5 H7 H8 Tn H42 H43 Ab20489 B0 B2 B20489 in
theorem Xgs (h:Zbx PG K P0 l1 k7 t41 t42 t43 m0 m2 m20489):W PG d Zfe σ st (Zl PG d (.loop Zfe) (Zw 0 (Zl PG d Zib Q))):=
 q_ J (b_ H43 H42 Wn (e_ (Zk (Yj J (fun e=>Yc (Zk (Yh (q_ J ((h.1 e).2.elim fun _ k=>Wq Tn H43 (h.1 e).1 k.1 J J (Xk J J J (m_ (e_ (Zk (W.reg (f_ H2 (l_ J (Zs J B0) J J (f_ H8 (l_ J (Zs J B20489) J J (k.2.2.elim fun q o=>Wq J J k.2.1 o.1 (Zz.row_eq q) J (Xk J J J (m_ (x2 o.2 fun u _ c=>Yi (Je J J J) c.1 (m_ (x_ J J (x_ J J (Xy (Ye J (show lk _ (d,45067)=some (_,([.i .i64 0,.i .u8 0,.i .i64 0,.s [],.sl .full (List.map Zb.row ([]:List Zb)),.b false]:List AV)) from Zj) J J J (m_ (e_ (Zk (q_ J (m_ (Xx J (e_ (Xs J (fun j=>q_ J (Wb Xr (m_ (Ye H5 (Zs J (Zs J B2)) J J J (m_ (Zo (hQ _ _ _ _ _ _ _ _ J H5 Zj J (c.2.1 j)))))))) (fun j=>Yc (W.reg0 J fun _ _=>f_ H8 (l_ J (Zs J (Zs J B20489)) J J (l_ J Zj J J (Ja (f:=Yb.row) (l:=[u]) J J (Xw J J J Vn) (by simp only [List.map_cons,List.map_nil,Yb.row_eq];rfl) (Qk Yb.row_len J J J Ab20489.1 (c.2.2 j).1 J (fun _ _ p _ r=>f_ H8 (Ye J (Zs J (Zs J B20489)) J J J (e_ (W.reg0 J fun _ _=>b_ H43 J Vd (m_ (e_ (kP0 _ _ _ _ (c.2.2 j).2 _ _ _ _ _ _ _ _ _ H1 H2 H5 H7 H8 Tn H42 J (Xe.mk p (Gi.app Ab20489.2 J r)) (Zs J (Zs J (Zs J B0))) (Zs J (Zs J (Zs J B2))) Zj)))))))))))))))))))))))))))))))))))))))))))) (fun e=>Vm (Yti hQ H1 H2 H5 H7 H8 Ab20489 B0 B2 B20489 (h.2 e)))))))
include H1 H2 H5 H7 H8 Ab20489 B0 B2 B20489 in
theorem Xo2 (h:Zlz PG K l1 k7 m0 m2 m20489):W PG d Ycr σ st Q:=
 Zk (q_ J (Yf H1 (Yef Nh J J (by decide) h.1 (Yo J (m_ (e_ (Yh (h.2 (Yf7 PG d Q l1 k7 (l1.drop 1) ((l1.drop 1).length:Int)) (fun _ _ _ _ hb _ _ _ _ _ _ _ _ _ H1 H2 H5 H7 H8 Tn H42 H43 Ab20489 B0 B2 B20489=>W.loop (Xgs hQ (fun _ _ _ _ x=>x) H1 H2 H5 H7 H8 Tn H42 H43 Ab20489 B0 B2 B20489 hb)) _ _ _ _ _ _ _ _ _ H1 H2 H5 H7 H8 J J J Ab20489 B0 B2 B20489))))))))
include H1 H2 H5 H7 H8 H9 Ab20489 B0 B2 B20489 in
theorem Wi7 (h:Zkr PG K l1 k7 ok9 m0 m2 m20489):W PG d Yr7 σ st Q:=
 au @Xo2
include H1 H2 H5 B0 B2 in
theorem Wsm (h:Zku PG K l1 m0 m2):W PG d Yn0 σ st Q:=
 Zk (W.reg (l_ H2 (Zs J B0) J J (Yf H1 (h.elim fun _ e=>Wq J J (by decide) e.1 J J (Xk J J J (x2 e.2 fun _ _ k=>k.elim fun _ j=>Hf (Ya J (Ya J Yr)) (j.1) (fun _ c=>m_ (x_ J J (x_ J J (x_ J J (Xy (m_ (Ye J ((c.1 (d,20489) (Nat.lt_succ_self d) Gc).trans (show lk _ (d,20489)=some (_,([.i .i64 0,.i .i64 0,.i .u64 0,.sl .full (List.map Yb.row ([]:List Yb))]:List AV)) from Zj)) J J J (m_ (e_ (Wi7 hQ H1 H2 H5 J J J Xe.full (Zs J ((c.1 (d,0) (Nat.lt_succ_self d) Gc).trans (Zs J B0))) (Zs J ((c.1 (d,2) (Nat.lt_succ_self d) Gc).trans (Zs J B2))) Zj j.2))))))))))))))))
include H1 H2 H5 B0 B2 in
theorem Wpz (h:Zrv PG K l1 m0 m2):W PG d Znq σ st Q:=
 Zk (q_ J (Yf H1 (Yo J (b_ J J Xo (e_ (Yj J (fun c=>q_ J (Wb Xr (m_ (Ye H5 B2 J J J (m_ (Zo (hQ _ _ _ _ _ _ _ _ J H5 Zj J (h.1 c)))))))) (fun c=>Yc (Wsm hQ H1 H2 H5 B0 B2 (h.2 c)))))))))
include H1 H2 H5 Kv B0 B2 in
theorem Ym7 (h:Ze3 PG K l1 t22 m0 m2):W PG d Yia σ st (Zl PG d Znq Q):=
 au @Wpz
include H1 H2 H5 B0 B2 in
theorem Xwz (h:Zl5 PG K l1 m0 m2):W PG d Zkh σ st Q:=
 Zk (q_ J (Yf H1 (Yo J (b_ J J Vt (Yq J (Ym (g:=19) J (fun c=>z_ 3 J (e_ (Ym7 hQ H1 H2 H5 J B0 B2 (h.1 c)))) (fun c=>Zc J (Yf H1 (Zc J ((h.2 c).elim fun _ e=>Hf (Ya J (Ya J Yr)) (e.1 _) (fun _ i=>Vf J J (e_ (Ym7 hQ H1 H2 H5 J ((i.1 (d,0) (Nat.lt_succ_self d) Gc).trans B0) ((i.1 (d,2) (Nat.lt_succ_self d) Gc).trans B2) e.2)))))))))))))
include H0 H1 in
theorem Xz8 (h:Zlb PG K m0 l1):W PG d (sR 0 Yg4 Zkh) σ st Q:=
 au @Xwz
end
theorem p84 {PG:Za}(hf:PG.fn 84=some Il){m0:Ze}{l1:LB}{K:Int->Zg->Int->Prop}(h:Zlb PG K m0 l1) :∃res0:Int,∃res1:Zg,∃res2:Int,K res0 res1 res2/\Zf PG 84 [m0.av,.sl .ext (List.map Zv l1)] (.tup [.i .i64 res0,res1.av,.i .i64 res2]):=by
  obtain ⟨v,hv,res0,res1,res2,hk,rfl⟩:=Zf.of (K:=fun v=>∃res0:Int,∃res1:Zg,∃res2:Int,K res0 res1 res2/\v=.tup [.i .i64 res0,res1.av,.i .i64 res2]) hf rfl (Xz8 (σ:=Wh [m0.av,.sl .ext (List.map Zv l1)]) (fun σ st k1 v1 o1_0 res0 res1 res2 H4 H5 HB5 H6 hk=>⟨.tup [.i .i64 res0,res1.avo o1_0,.i .i64 res2],by simp only [Il,Xm,Vk,H4,Jz (n:=4) H5 HB5 rfl,H6,Qb,Option.map_some],_,rfl,res0,res1,res2,hk,rfl⟩) rfl rfl h)
  exact ⟨res0,res1,res2,hk,hv⟩
end Go.AM
