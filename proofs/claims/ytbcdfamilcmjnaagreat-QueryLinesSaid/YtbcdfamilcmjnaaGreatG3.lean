/- Parts of the proof: U38a, U38b, U38c, U38d, U38e, U38f, U38g, U38h, U39a, U39b, U39c, U39d. -/
import Derived.Test.YtbcdfamilcmjnaaGreatG2
set_option linter.all false
/- Parts of the proof. -/
namespace Go.AM
open Go
set_option linter.unusedVariables false
set_option linter.unusedSimpArgs false
set_option maxRecDepth 4000
attribute [local irreducible] WO fillCells fillRows
def r71_0:List AI:=[oY 1 5 0,oC 2 (.b false)]
def r71_1:List AI:=[oK 3 5 1,oO 4 (.call false 102 [(.t 3),(.c (.i .i64 14))]),oM 5 4,gF 5 (oK 6 5 1),gF 5 (oQ 7 103 [6]),gF 5 (oV 8 .gtr 7 400),oR 9 5 8,oM 2 9]
abbrev b71:AC:=(sR 0 r71_0 (sR 1 r71_1 .ret))
def pf71:AF:={ nt:=10,res:=[.tmp 2],body:=b71 }
def T71_0 (prog:Prog)(K:Bool→Prop)(v0:Val):Prop:=
  ∃c,Pus prog 102 [v0.av,.i .i64 14] (.b c)∧(c=true→K true)∧(c=false→∃e,Pus prog 103 [v0.av] (.i .i64 e)∧K (decide (e>400)))
section
variable {prog:Prog}{d:Nat}{Q:AE→Sl→St→Prop}{K:Bool→Prop}(hQ:H1 AV.b 2 Q K){σ:Sl}{st:St}
include hQ
variable {v0:Val}
variable (H0:σ 0=v0.av)
include H0 in
theorem w71_0 (h:T71_0 prog K v0):W prog d (sR 0 r71_0 (sR 1 r71_1 .ret)) σ st Q:=
 q_ J (s_box H0 J (m_ (e_ (q_ J (l_ J lk_here J J (h.elim fun _ c=>ca_ (sc2 J J J) c.1 (s_mvB J (eb_ (g:=5) J (fun e=>z_ 5 J (er_ (hQ J (c.2.1 e)))) (fun e=>gy_ J (l_ J lk_here J J (gy_ J ((c.2.2 e).elim fun _ i=>ca_ (sc1 J J) i.1 (gy_ J (b_ J J gtr_ (z_ 2 J (er_ (hQ J i.2)))))))))))))))))
end
theorem p71 {prog:Prog}(hf:prog.fn 71=some pf71){v0:Val}{K:Bool→Prop}(h:T71_0 prog K v0) :∃res0:Bool,K res0∧Pus prog 71 [v0.av] (.b res0):=
 P1 hf J (w71_0 (h1 J fun _=>J) J h)
def r72_0:List AI:=[oY 1 5 0,oC 2 (.s []),oI 3 0]
def r72_1:List AI:=[oK 7 5 1,oQ 8 76 [7],oM 4 8]
def r72_2:List AI:=[oM 9 4,oV 10 .neq 9 0]
def r72_3:List AI:=[oM 11 4,oC 2 (.s []),oM 3 11]
def r72_4:List AI:=[oO 5 (.alloc [.np,.sl .full []])]
def r72_5:List AI:=[oK 12 5 1,oO 13 (.call true 104 [(.t 5),(.t 12)]),oM 6 13]
def r72_6:List AI:=[oM 14 6,oV 15 .neq 14 0]
def r72_7:List AI:=[oM 16 6,oC 2 (.s []),oM 3 16]
def r72_8:List AI:=[oO 17 (.call true 105 [(.t 5)]),oM 2 17,oI 3 0]
abbrev b72:AC:=(sR 0 r72_0 (.seq (sR 1 r72_1 (sR 2 r72_2 (.cond (.t 10) (sR 3 r72_3 .ret) .skip))) (sR 1000004 r72_4 (.seq (sR 5 r72_5 (sR 6 r72_6 (.cond (.t 15) (sR 7 r72_7 .ret) .skip))) (sR 8 r72_8 .ret)))))
def pf72:AF:={ nt:=18,res:=[.tmp 2,.tmp 3],body:=b72 }
def T72_0 (prog:Prog)(K:BS→Int→Prop)(v0:Val):Prop:=
  ∃c,Pus prog 76 [v0.av] (.i .i64 c)∧(c≠0→K ([]:BS) c)∧(¬(c≠0)→∃e,∃k:BS,PuX prog 104 (Bl ([]:BS)) [v0.av] (fun r=>r=.i .i64 e) ((Bl k))∧(e≠0→K ([]:BS) e)∧(¬(e≠0)→∃j,PuX prog 105 (Bl k) [] (fun r=>r=.s j) (fun _ _ _ _=>True)∧K j 0))
section
variable {prog:Prog}{d:Nat}{Q:AE→Sl→St→Prop}{K:BS→Int→Prop}(hQ:H2 AV.s (AV.i .i64) 2 3 Q K){σ:Sl}{st:St}
include hQ
variable {v0:Val}
variable (H0:σ 0=v0.av)
include H0 in
theorem w72_0 (h:T72_0 prog K v0):W prog d (sR 0 r72_0 (.seq (sR 1 r72_1 (sR 2 r72_2 (.cond (.t 10) (sR 3 r72_3 .ret) .skip))) (sR 1000004 r72_4 (.seq (sR 5 r72_5 (sR 6 r72_6 (.cond (.t 15) (sR 7 r72_7 .ret) .skip))) (sR 8 r72_8 .ret))))) σ st Q:=
 q_ J (s_box H0 J (m_ (m_ (e_ (sq_ (q_ J (l_ J lk_here J J (h.elim fun _ e=>ca_ (sc1 J J) e.1 (m_ (e_ (q_ J (m_ (b_ J J neq_ (e_ (cs_ J (fun j=>q_ J (m_ (m_ (m_ (er_ (hQ J J (e.2.1 j))))))) (fun j=>sk_ (sq_ (W.regB J (fun _ _ _ q r=>sq_ (q_ J (l_ J ((r (d,0) (key_LL J)).trans lk_here) J J ((e.2.2 j).elim fun _ o=>o.elim fun _ c=>cX_ (sec J (sec J sen)) c.1 (Nat.lt_succ_self d) q (fun _ p _=>m_ (e_ (q_ J (m_ (b_ J J neq_ (e_ (cs_ J (fun i=>q_ J (m_ (m_ (m_ (er_ (hQ J J (c.2.1 i))))))) (fun i=>sk_ (q_ J ((c.2.2 i).elim fun _ k=>cX_ (sec J sen) k.1 (Nat.lt_succ_self d) p (fun _ _ _=>m_ (m_ (er_ (hQ J J k.2))))))))))))))))))))))))))))))))))))
end
theorem p72 {prog:Prog}(hf:prog.fn 72=some pf72){v0:Val}{K:BS→Int→Prop}(h:T72_0 prog K v0) :∃res0:BS,∃res1:Int,K res0 res1∧Pus prog 72 [v0.av] (.tup [.s res0,.i .i64 res1]):=
 P2 hf J (w72_0 (h2 J fun _ _=>J) J h)
abbrev H73 (Q:AE→Sl→St→Prop)(K:BS→Int→Prop):Prop:=∀(σ:Sl)(st:St)(res0:BS)(res1:Int),σ 2=.s res0→σ 3=.i .i64 res1→K res0 res1→Q .ret σ st
section
variable {prog:Prog}{d:Nat}{Q:AE→Sl→St→Prop}{K:BS→Int→Prop}(hQ:H73 Q K){σ:Sl}{st:St}
include hQ
end
def r76_0:List AI:=[oY 1 5 0,oI 2 0]
def r76_1:List AI:=[oK 6 5 1,oO 7 (.call false 109 [(.t 6),(.c (.i .i64 130))]),oM 5 7,oE 8 0 5,oE 9 1 5,oM 3 8,oM 4 9]
def r76_2:List AI:=[oM 10 4,oZ 11 10]
def r76_3:List AI:=[oI 2 8]
def r76_4:List AI:=[oI 2 0]
abbrev b76:AC:=(sR 0 r76_0 (.seq (sR 1 r76_1 (sR 2 r76_2 (.cond (.t 11) (sR 3 r76_3 .ret) .skip))) (sR 4 r76_4 .ret)))
def pf76:AF:={ nt:=12,res:=[.tmp 2],body:=b76 }
def T76_0 (prog:Prog)(K:Int→Prop)(v0:Val):Prop:=
  ∃e c,Pus prog 109 [v0.av,.i .i64 130] (.tup [.i .i64 e,.b c])∧((!c)=true→K 8)∧((!c)=false→K 0)
section
variable {prog:Prog}{d:Nat}{Q:AE→Sl→St→Prop}{K:Int→Prop}(hQ:H1 (AV.i .i64) 2 Q K){σ:Sl}{st:St}
include hQ
variable {v0:Val}
variable (H0:σ 0=v0.av)
include H0 in
theorem w76_0 (h:T76_0 prog K v0):W prog d (sR 0 r76_0 (.seq (sR 1 r76_1 (sR 2 r76_2 (.cond (.t 11) (sR 3 r76_3 .ret) .skip))) (sR 4 r76_4 .ret))) σ st Q:=
 q_ J (s_box H0 J (m_ (e_ (sq_ (q_ J (l_ J lk_here J J (x2 h fun _ _ c=>ca_ (sc2 J J J) c.1 (m_ (x_ J J (x_ J J (m_ (m_ (e_ (q_ J (m_ (nt_ J (e_ (cb_ J (fun e=>q_ J (m_ (er_ (hQ J (c.2.1 e))))) (fun e=>sk_ (q_ J (m_ (er_ (hQ J (c.2.2 e))))))))))))))))))))))))
end
theorem p76 {prog:Prog}(hf:prog.fn 76=some pf76){v0:Val}{K:Int→Prop}(h:T76_0 prog K v0) :∃res0:Int,K res0∧Pus prog 76 [v0.av] (.i .i64 res0):=
 P1 hf J (w76_0 (h1 J fun _=>J) J h)
def r77_0:List AI:=[oY 1 5 0,oI 2 0]
def r77_1:List AI:=[oK 3 5 1,oO 4 (.call false 110 [(.t 3),(.c (.i .i64 130))]),oZ 5 4,oM 6 5,gF 6 (oK 7 5 1),gF 6 (oQ 8 103 [7]),gF 6 (oV 9 .gtr 8 5000),oR 10 6 9]
def r77_2:List AI:=[oI 2 8]
def r77_3:List AI:=[oI 2 0]
abbrev b77:AC:=(sR 0 r77_0 (.seq (sR 1 r77_1 (.cond (.t 10) (sR 2 r77_2 .ret) .skip)) (sR 3 r77_3 .ret)))
def pf77:AF:={ nt:=11,res:=[.tmp 2],body:=b77 }
def T77_0 (prog:Prog)(K:Int→Prop)(v0:Val):Prop:=
  ∃c,Pus prog 110 [v0.av,.i .i64 130] (.b c)∧((!c)=true→K 8)∧((!c)=false→∃e,Pus prog 103 [v0.av] (.i .i64 e)∧(e>5000→K 8)∧(¬(e>5000)→K 0))
section
variable {prog:Prog}{d:Nat}{Q:AE→Sl→St→Prop}{K:Int→Prop}(hQ:H1 (AV.i .i64) 2 Q K){σ:Sl}{st:St}
include hQ
variable {v0:Val}
variable (H0:σ 0=v0.av)
include H0 in
theorem w77_0 (h:T77_0 prog K v0):W prog d (sR 0 r77_0 (.seq (sR 1 r77_1 (.cond (.t 10) (sR 2 r77_2 .ret) .skip)) (sR 3 r77_3 .ret))) σ st Q:=
 q_ J (s_box H0 J (m_ (e_ (sq_ (q_ J (l_ J lk_here J J (h.elim fun _ c=>ca_ (sc2 J J J) c.1 (nt_ J (s_mvB J (eb_ (g:=6) J (fun i=>z_ 4 J (e_ (ct_ J (q_ J (m_ (er_ (hQ J (c.2.1 i)))))))) (fun i=>gy_ J (l_ J lk_here J J (gy_ J ((c.2.2 i).elim fun _ e=>ca_ (sc1 J J) e.1 (gy_ J (b_ J J gtr_ (pf_ J J (e_ (cs_ J (fun j=>q_ J (m_ (er_ (hQ J (e.2.1 j))))) (fun j=>sk_ (q_ J (m_ (er_ (hQ J (e.2.2 j)))))))))))))))))))))))))
end
theorem p77 {prog:Prog}(hf:prog.fn 77=some pf77){v0:Val}{K:Int→Prop}(h:T77_0 prog K v0) :∃res0:Int,K res0∧Pus prog 77 [v0.av] (.i .i64 res0):=
 P1 hf J (w77_0 (h1 J fun _=>J) J h)
def r102_0:List AI:=[oY 2 5 0,oC 4 (.b false)]
def r102_1:List AI:=[oM 6 1,oV 7 .eql 6 0,oM 8 7,gF 8 (oF 9 2 2),gF 8 (oL 10 9),gF 8 (oH 11 10),gF 8 (oV 12 .gtr 11 100),oR 13 8 12,oM 14 13,gF 14 (oF 15 3 2),gF 14 (oL 16 15),gF 14 (oJ 17 16),gF 14 (oV 18 .gtr 17 400),oR 19 14 18]
def r102_2:List AI:=[oC 4 (.b true)]
def r102_3:List AI:=[oI 5 0]
def r102_4:List AI:=[oM 20 5,oF 21 3 2,oL 22 21,oJ 23 22,oT 24 .lss 20 23]
def r102_5:List AI:=[oF 27 3 2,oL 28 27,oM 29 5,oX 30 5 28 29,oK 31 5 30,oM 32 1,oV 33 .sub 32 1,oQ 34 102 [31,33]]
def r102_6:List AI:=[oC 4 (.b true)]
def r102_7:List AI:=[oM 25 5,oV 26 .add 25 1,oM 5 26]
def r102_8:List AI:=[oC 4 (.b false)]
abbrev l102_0:AC:=(.seq (sR 4 r102_4 (.cond (.t 24) .skip (.exit 0))) (.seq (.block 1 (sR 6 r102_5 (.cond (.t 34) (sR 7 r102_6 .ret) .skip))) (.reg 5 r102_7)))
abbrev c102_1:AC:=(sR 8 r102_8 .ret)
abbrev b102:AC:=(sR 0 r102_0 (.seq (sR 1 r102_1 (.cond (.t 19) (sR 2 r102_2 .ret) .skip)) (.seq (sR 3 r102_3 (.block 0 (.loop l102_0))) c102_1)))
def pf102:AF:={ nt:=35,res:=[.tmp 4],body:=b102 }
abbrev I102_0 (prog:Prog)(d:Nat)(Q:AE→Sl→St→Prop)(most1:Int)(i5:Int)(m0:Val):Prop:=
  ∀(σ:Sl)(st:St)(v0:Nat),σ 1=.i .i64 most1→σ 2=.p (d,0) v0 0→σ 5=.i .i64 i5→lk st.bx (d,0)=some (v0,[.i .u8 m0.kind,.i .i64 m0.int,.s m0.text,.sl .ext (List.map Val.row m0.list),.b m0.cut])→W prog d (.loop l102_0) σ st (blockW 0 (thenW prog d c102_1 Q))
def T102_2 (prog:Prog)(K:Bool→Prop) :Prop:=
  K false
def T102_1 (prog:Prog)(K:Bool→Prop)(P0:Int→Val→Prop)(most1:Int)(i5:Int)(m0:Val):Prop:=
  (i5<(m0.list.length:Int)→0≤i5∧∃e:Val,m0.list[(i5).toNat]?=some e∧∃c,Pus prog 102 [e.av,.i .i64 (IntKind.i64.wrap (most1-1))] (.b c)∧(c=true→K true)∧(c=false→P0 (IntKind.i64.wrap (i5+1)) m0))∧(¬(i5<(m0.list.length:Int))→T102_2 prog K )
def T102_0 (prog:Prog)(K:Bool→Prop)(v0:Val)(most1:Int):Prop:=
  (most1=0→K true)∧(¬(most1=0)→((v0.text.length:Int)>100→K true)∧(¬((v0.text.length:Int)>100)→((v0.list.length:Int)>400→K true)∧(¬((v0.list.length:Int)>400)→∀P0:Int→Val→Prop,(∀(i5:Int)(m0:Val),T102_1 prog K P0 most1 i5 m0→P0 i5 m0)→P0 0 v0)))
section
variable {prog:Prog}{d:Nat}{Q:AE→Sl→St→Prop}{K:Bool→Prop}(hQ:H1 AV.b 4 Q K){σ:Sl}{st:St}
include hQ
variable {most1 i5:Int}{m0:Val}{P0:Int→Val→Prop}{v0:Nat}
variable (kP0 :∀(i5:Int)(m0:Val),P0 i5 m0→I102_0 prog d Q most1 i5 m0)(H1:σ 1=.i .i64 most1)(H2:σ 2=.p (d,0) v0 0)(H5:σ 5=.i .i64 i5)(B0:lk st.bx (d,0)=some (v0,[.i .u8 m0.kind,.i .i64 m0.int,.s m0.text,.sl .ext (List.map Val.row m0.list),.b m0.cut]))
theorem w102_2 (h:T102_2 prog K ):W prog d c102_1 σ st Q:=
 q_ J (m_ (er_ (hQ J h)))
include kP0 H1 H2 H5 B0 in
theorem w102_1 (h:T102_1 prog K P0 most1 i5 m0):W prog d l102_0 σ st (thenW prog d (.loop l102_0) (blockW 0 (thenW prog d c102_1 Q))):=
 sq_ (q_ J (m_ (f_ H2 (l_ J B0 J J (ll_ J (b_ H5 J lss_ (e_ (cs_ J (fun c=>sk_ (sq_ (bk_ (q_ J (f_ H2 (l_ J B0 J J (m_ ((h.1 c).2.elim fun k j=>ia_ J H5 (h.1 c).1 j.1 (Val.row_eq k) J (lf_ J J J (m_ (b_ H1 J sub_ (j.2.elim fun _ e=>ca_ (sc2 J J J) e.1 (e_ (cb_ J (fun i=>q_ J (m_ (er_ (hQ J (e.2.1 i))))) (fun i=>sk_ (W.reg0 J fun _ _=>m_ (b_ H5 J add_ (m_ (e_ (kP0 _ _ (e.2.2 i) _ _ _ H1 H2 J B0)))))))))))))))))))) (fun c=>ex_ (w102_2 hQ (h.2 c)))))))))))
theorem w102_0 {v0:Val}{most1:Int}(H0:σ 0=v0.av)(H1:σ 1=.i .i64 most1)(h:T102_0 prog K v0 most1):W prog d (sR 0 r102_0 (.seq (sR 1 r102_1 (.cond (.t 19) (sR 2 r102_2 .ret) .skip)) (.seq (sR 3 r102_3 (.block 0 (.loop l102_0))) c102_1))) σ st Q:=
 q_ J (s_box H0 J (m_ (e_ (sq_ (q_ J (s_mvI H1 (b_ J J eql_ (s_mvB J (em_ (g:=8) J (fun c=>z_ 11 J (e_ (ct_ J (q_ J (m_ (er_ (hQ J (h.1 c)))))))) (fun c=>gy_ J (f_ J (gy_ J (l_ J lk_here J J (gy_ J (ln_ J (gy_ J (b_ J J gtr_ (z_ 2 J (em_ (g:=14) J (fun e=>z_ 5 J (e_ (ct_ J (q_ J (m_ (er_ (hQ J ((h.2 c).1 e)))))))) (fun e=>gy_ J (f_ J (gy_ J (l_ J lk_here J J (gy_ J (ll_ J (gy_ J (b_ J J gtr_ (pf_ J J (e_ (cs_ J (fun i=>q_ J (m_ (er_ (hQ J (((h.2 c).2 e).1 i))))) (fun i=>sk_ (sq_ (q_ J (m_ (e_ (bk_ ((((h.2 c).2 e).2 i) (I102_0 prog d Q most1) (fun _ _ hb _ _ _ H1 H2 H5 B0=>W.loop (w102_1 hQ (fun _ _ x=>x) H1 H2 H5 B0 hb)) _ _ _ H1 J J lk_here)))))))))))))))))))))))))))))))))))))
end
theorem p102 {prog:Prog}(hf:prog.fn 102=some pf102){v0:Val}{most1:Int}{K:Bool→Prop}(h:T102_0 prog K v0 most1) :∃res0:Bool,K res0∧Pus prog 102 [v0.av,.i .i64 most1] (.b res0):=
 P1 hf J (w102_0 (h1 J fun _=>J) J J h)
def r103_0:List AI:=[oY 1 5 0,oI 2 0]
def r103_1:List AI:=[oI 3 1]
def r103_2:List AI:=[oI 4 0]
def r103_3:List AI:=[oM 5 4,oF 6 3 1,oL 7 6,oJ 8 7,oT 9 .lss 5 8,oM 10 9,gT 10 (oM 11 3),gT 10 (oV 12 .leq 11 5000),oA 13 10 12]
def r103_4:List AI:=[oM 16 3,oF 17 3 1,oL 18 17,oM 19 4,oX 20 5 18 19,oK 21 5 20,oQ 22 103 [21],oT 23 .add 16 22,oM 3 23]
def r103_5:List AI:=[oM 14 4,oV 15 .add 14 1,oM 4 15]
def r103_6:List AI:=[oM 24 3,oM 2 24]
abbrev l103_0:AC:=(.seq (sR 3 r103_3 (.cond (.t 13) .skip (.exit 0))) (.seq (.block 1 (.reg 5 r103_4)) (.reg 4 r103_5)))
abbrev c103_1:AC:=(sR 6 r103_6 .ret)
abbrev b103:AC:=(sR 0 r103_0 (sR 1 r103_1 (.seq (sR 2 r103_2 (.block 0 (.loop l103_0))) c103_1)))
def pf103:AF:={ nt:=25,res:=[.tmp 2],body:=b103 }
abbrev I103_0 (prog:Prog)(d:Nat)(Q:AE→Sl→St→Prop)(n3:Int)(i4:Int)(m0:Val):Prop:=
  ∀(σ:Sl)(st:St)(v0:Nat),σ 1=.p (d,0) v0 0→σ 3=.i .i64 n3→σ 4=.i .i64 i4→lk st.bx (d,0)=some (v0,[.i .u8 m0.kind,.i .i64 m0.int,.s m0.text,.sl .ext (List.map Val.row m0.list),.b m0.cut])→W prog d (.loop l103_0) σ st (blockW 0 (thenW prog d c103_1 Q))
def T103_2 (prog:Prog)(K:Int→Prop)(n3:Int):Prop:=
  K n3
def T103_1 (prog:Prog)(K:Int→Prop)(P0:Int→Int→Val→Prop)(n3:Int)(i4:Int)(m0:Val):Prop:=
  (i4<(m0.list.length:Int)→(n3≤5000→0≤i4∧∃e:Val,m0.list[(i4).toNat]?=some e∧∃c,Pus prog 103 [e.av] (.i .i64 c)∧P0 (IntKind.i64.wrap (n3+c)) (IntKind.i64.wrap (i4+1)) m0)∧(¬(n3≤5000)→T103_2 prog K n3))∧(¬(i4<(m0.list.length:Int))→T103_2 prog K n3)
def T103_0 (prog:Prog)(K:Int→Prop)(v0:Val):Prop:=
  ∀P0:Int→Int→Val→Prop,(∀(n3:Int)(i4:Int)(m0:Val),T103_1 prog K P0 n3 i4 m0→P0 n3 i4 m0)→P0 1 0 v0
section
variable {prog:Prog}{d:Nat}{Q:AE→Sl→St→Prop}{K:Int→Prop}(hQ:H1 (AV.i .i64) 2 Q K){σ:Sl}{st:St}
include hQ
variable {n3 i4:Int}{m0:Val}{P0:Int→Int→Val→Prop}{v0:Nat}
variable (kP0 :∀(n3:Int)(i4:Int)(m0:Val),P0 n3 i4 m0→I103_0 prog d Q n3 i4 m0)(H1:σ 1=.p (d,0) v0 0)(H3:σ 3=.i .i64 n3)(H4:σ 4=.i .i64 i4)(B0:lk st.bx (d,0)=some (v0,[.i .u8 m0.kind,.i .i64 m0.int,.s m0.text,.sl .ext (List.map Val.row m0.list),.b m0.cut]))
include H3 in
theorem w103_2 (h:T103_2 prog K n3):W prog d c103_1 σ st Q:=
 q_ J (m_ (m_ (er_ (hQ H3 h))))
include kP0 H1 H3 H4 B0 in
theorem w103_1 (h:T103_1 prog K P0 n3 i4 m0):W prog d l103_0 σ st (thenW prog d (.loop l103_0) (blockW 0 (thenW prog d c103_1 Q))):=
 sq_ (q_ J (s_mvI H4 (f_ H1 (l_ J B0 J J (ll_ J (b_ J J lss_ (s_mvB J (em_ (g:=10) J (fun c=>gy_ J (s_mvI H3 (gy_ J (b_ J J leq_ (pt_ J J (e_ (cs_ J (fun e=>sk_ (sq_ (bk_ (W.reg0 J fun _ _=>m_ (f_ H1 (l_ J B0 J J (m_ (((h.1 c).1 e).2.elim fun k i=>ia_ J H4 ((h.1 c).1 e).1 i.1 (Val.row_eq k) J (lf_ J J J (i.2.elim fun _ j=>ca_ (sc1 J J) j.1 (b_ H3 J add_ (m_ (e_ (W.reg0 J fun _ _=>m_ (b_ H4 J add_ (m_ (e_ (kP0 _ _ _ j.2 _ _ _ H1 J J B0)))))))))))))))))) (fun e=>ex_ (w103_2 hQ H3 ((h.1 c).2 e)))))))))) (fun c=>z_ 3 J (e_ (cf_ J (ex_ (w103_2 hQ H3 (h.2 c))))))))))))))
theorem w103_0 {v0:Val}(H0:σ 0=v0.av)(h:T103_0 prog K v0):W prog d (sR 0 r103_0 (sR 1 r103_1 (.seq (sR 2 r103_2 (.block 0 (.loop l103_0))) c103_1))) σ st Q:=
 q_ J (s_box H0 J (m_ (e_ (q_ J (m_ (e_ (sq_ (q_ J (m_ (e_ (bk_ (h (I103_0 prog d Q ) (fun _ _ _ hb _ _ _ H1 H3 H4 B0=>W.loop (w103_1 hQ (fun _ _ _ x=>x) H1 H3 H4 B0 hb)) _ _ _ J J J lk_here))))))))))))
end
theorem p103 {prog:Prog}(hf:prog.fn 103=some pf103){v0:Val}{K:Int→Prop}(h:T103_0 prog K v0) :∃res0:Int,K res0∧Pus prog 103 [v0.av] (.i .i64 res0):=
 P1 hf J (w103_0 (h1 J fun _=>J) J h)
def r104_0:List AI:=[oY 3 5 1,oI 4 0]
def r104_1:List AI:=[oO 11 (.build [zs,zs,zs,zs,zs,zs,zs,zs] [(5,1,(.c (.s [123,125]))),(6,1,(.c (.s [91,93]))),(7,1,(.c (.s [60,62])))]),oF 12 0 3,oL 13 12,oO 14 (.ixA 8 1 false (.t 11) (.t 13)),oM 5 14]
def r104_2:List AI:=[oF 43 0 3,oL 44 43,oW 45 .eql 44 1,oM 46 45,gT 46 (oF 47 1 3),gT 46 (oL 48 47),gT 46 (oV 49 .eql 48 1),oA 50 46 49,oM 42 50]
def r104_3:List AI:=[oM 51 0,oO 52 (.call true 126 [(.t 51),(.c (.s [116,114,117,101]))])]
def r104_4:List AI:=[oF 54 0 3,oL 55 54,oW 56 .eql 55 1,oM 53 56]
def r104_5:List AI:=[oM 57 0,oO 58 (.call true 126 [(.t 57),(.c (.s [102,97,108,115,101]))])]
def r104_6:List AI:=[oF 60 0 3,oL 61 60,oW 62 .eql 61 2,oM 59 62]
def r104_7:List AI:=[oM 63 0,oF 64 1 3,oL 65 64,oQ 66 15 [65],oO 67 (.call true 126 [(.t 63),(.t 66)])]
def r104_8:List AI:=[oF 69 0 3,oL 70 69,oW 71 .eql 70 3,oM 68 71]
def r104_9:List AI:=[oF 73 2 3,oL 74 73,oQ 75 11 [74],oM 72 75,oE 76 0 72,oE 77 1 72,oM 6 76,oM 7 77]
def r104_10:List AI:=[oM 78 0,oM 79 6,oO 80 (.call true 126 [(.t 78),(.t 79)])]
def r104_11:List AI:=[oM 81 7,oM 4 81]
def r104_12:List AI:=[oF 83 0 3,oL 84 83,oW 85 .eql 84 4,oM 86 85,gT 86 (oF 87 4 3),gT 86 (oL 88 87),oA 89 86 88,oM 82 89]
def r104_13:List AI:=[oM 90 0,oO 91 (.call true 126 [(.t 90),(.c (.s [38,46,46,46]))])]
def r104_14:List AI:=[oF 93 0 3,oL 94 93,oW 95 .eql 94 4,oM 96 95,gT 96 (oF 97 3 3),gT 96 (oL 98 97),gT 96 (oJ 99 98),gT 96 (oV 100 .eql 99 0),oA 101 96 100,oM 92 101]
def r104_15:List AI:=[oM 102 0,oO 103 (.call true 126 [(.t 102),(.c (.s [110,105,108]))])]
def r104_16:List AI:=[oF 105 0 3,oL 106 105,oW 107 .eql 106 4,oM 104 107]
def r104_17:List AI:=[oM 108 0,oO 109 (.call true 126 [(.t 108),(.c (.s [38]))])]
def r104_18:List AI:=[oM 110 0,oF 111 3 3,oL 112 111,oO 113 (.iaL 5 (.t 112) (.c (.i .i64 0))),oK 114 5 113,oO 115 (.call true 104 [(.t 110),(.t 114)]),oM 4 115]
def r104_19:List AI:=[oF 117 4 3,oL 118 117,oM 116 118]
def r104_20:List AI:=[oM 119 0,oO 120 (.call true 126 [(.t 119),(.c (.s [60,46,46,46,62]))])]
def r104_21:List AI:=[oM 15 0,oM 16 5,oO 17 (.slS (.t 16) none (some (.c (.i .i64 1)))),oO 18 (.call true 126 [(.t 15),(.t 17)])]
def r104_22:List AI:=[oF 19 3 3,oL 20 19,oJ 21 20,oI 22 0]
def r104_23:List AI:=[oT 23 .lss 22 21]
def r104_24:List AI:=[oM 24 22,oX 25 5 20 22,oK 26 5 25,oO 9 (.alloc [z8,z6,zs,zl,zb]),oM 8 24,oS 5 9 26]
def r104_25:List AI:=[oM 27 8,oV 28 .gtr 27 0]
def r104_26:List AI:=[oM 29 0,oO 30 (.call true 126 [(.t 29),(.c (.s [44,32]))])]
def r104_27:List AI:=[oM 31 0,oK 32 5 9,oO 33 (.call true 104 [(.t 31),(.t 32)]),oM 10 33]
def r104_28:List AI:=[oM 34 10,oV 35 .neq 34 0]
def r104_29:List AI:=[oM 36 10,oM 4 36]
def r104_30:List AI:=[oV 37 .add 22 1,oM 22 37]
def r104_31:List AI:=[oM 38 0,oM 39 5,oO 40 (.slS (.t 39) (some (.c (.i .i64 1))) none),oO 41 (.call true 126 [(.t 38),(.t 40)])]
def r104_32:List AI:=[oI 4 0]
abbrev c104_0:AC:=(sR 8 r104_27 (sR 9 r104_28 (.cond (.t 35) (sR 10 r104_29 .ret) .skip)))
abbrev l104_0:AC:=(sR 4 r104_23 (.seq (.cond (.t 23) .skip (.exit 1)) (.seq (.block 2 (sR 5 r104_24 (.seq (sR 6 r104_25 (.cond (.t 28) (.reg 7 r104_26) .skip)) c104_0))) (.reg 11 r104_30))))
abbrev c104_2:AC:=(.reg 12 r104_31)
abbrev c104_3:AC:=(.cond (.t 82) (.reg 24 r104_13) (sR 25 r104_14 (.cond (.t 92) (.reg 26 r104_15) (sR 27 r104_16 (.cond (.t 104) (sR 28 r104_17 (sR 29 r104_18 .ret)) (sR 30 r104_19 (.cond (.t 116) (.reg 31 r104_20) (sR 2 r104_21 (.seq (sR 3 r104_22 (.block 1 (.loop l104_0))) c104_2)))))))))
abbrev c104_4:AC:=(.cond (.t 68) (sR 20 r104_9 (sR 21 r104_10 (sR 22 r104_11 .ret))) (sR 23 r104_12 c104_3))
abbrev c104_5:AC:=(.cond (.t 59) (.reg 18 r104_7) (sR 19 r104_8 c104_4))
abbrev c104_6:AC:=(.cond (.t 53) (.reg 16 r104_5) (sR 17 r104_6 c104_5))
abbrev c104_7:AC:=(.cond (.t 42) (.reg 14 r104_3) (sR 15 r104_4 c104_6))
abbrev c104_8:AC:=(sR 32 r104_32 .ret)
abbrev c104_9:AC:=(.seq (.block 0 (sR 13 r104_2 c104_7)) c104_8)
abbrev c104_10:AC:=(sR 1 r104_1 c104_9)
abbrev b104:AC:=(sR 0 r104_0 c104_10)
def pf104:AF:={ nt:=121,res:=[.tmp 4],body:=b104 }
abbrev H104 (d:Nat)(st0:St)(kp:Key)(vp:Nat)(Q:AE→Sl→St→Prop)(K:Int→BS→Prop):Prop:=∀(σ:Sl)(st:St)(res0:Int)(b_:BS),σ 4=.i .i64 res0→Bl b_ st.bx st.ow kp vp→Fr d kp st0.bx st0.ow st.bx st.ow→K res0 b_→Q .ret σ st
def T104_4 (prog:Prog)(K:Int→BS→Prop)(mP:BS):Prop:=
  K 0 mP
abbrev I104_0 (prog:Prog)(d:Nat)(Q:AE→Sl→St→Prop)(st0:St)(kp:Key)(vp:Nat)(ends5:BS)(t20:List Val)(t21:Int)(t22:Int)(mP:BS):Prop:=
  ∀(σ:Sl)(st:St)(o_t20:Own),σ 0=.p kp vp 0→σ 5=.s ends5→σ 20=.sl o_t20 (List.map Val.row t20)→σ 21=.i .i64 t21→σ 22=.i .i64 t22→Bl mP st.bx st.ow kp vp→Fr d kp st0.bx st0.ow st.bx st.ow→W prog d (.loop l104_0) σ st (blockW 1 (thenW prog d c104_2 (blockW 0 (thenW prog d c104_8 Q))))
def T104_10 (prog:Prog)(K:Int→BS→Prop)(P0:Int→BS→Prop)(ends5:BS)(t20:List Val)(t21:Int)(t22:Int)(m20483:Val)(mP:BS):Prop:=
  ∃c,∃e:BS,PuX prog 104 (Bl mP) [m20483.av] (fun r=>r=.i .i64 c) ((Bl e))∧(c≠0→K c e)∧(¬(c≠0)→P0 (IntKind.i64.wrap (t22+1)) e)
def T104_11 (prog:Prog)(K:Int→BS→Prop)(ends5:BS)(mP:BS):Prop:=
  1≤ends5.length∧∃e,∃c:BS,PuX prog 126 (Bl mP) [.s (ends5.drop 1)] (fun r=>r=.tup [.i .i64 e,.ni]) ((Bl c))∧T104_4 prog K c
def T104_9 (prog:Prog)(K:Int→BS→Prop)(P0:Int→BS→Prop)(ends5:BS)(t20:List Val)(t21:Int)(t22:Int)(mP:BS):Prop:=
  (t22<t21→0≤t22∧∃c,t20[(t22).toNat]?=some c∧(t22>0→∃j,∃e:BS,PuX prog 126 (Bl mP) [.s ([44,32]:BS)] (fun r=>r=.tup [.i .i64 j,.ni]) ((Bl e))∧T104_10 prog K P0 ends5 t20 t21 t22 c e)∧(¬(t22>0)→T104_10 prog K P0 ends5 t20 t21 t22 c mP))∧(¬(t22<t21)→T104_11 prog K ends5 mP)
def T104_8 (prog:Prog)(K:Int→BS→Prop)(ends5:BS)(t82:Bool)(m0:Val)(mP:BS):Prop:=
  (t82=true→∃e,∃c:BS,PuX prog 126 (Bl mP) [.s ([38,46,46,46]:BS)] (fun r=>r=.tup [.i .i64 e,.ni]) ((Bl c))∧T104_4 prog K c)∧(t82=false→(m0.kind=4→((m0.list.length:Int)=0→∃a3,∃x:BS,PuX prog 126 (Bl mP) [.s ([110,105,108]:BS)] (fun r=>r=.tup [.i .i64 a3,.ni]) ((Bl x))∧T104_4 prog K x)∧(¬((m0.list.length:Int)=0)→(m0.kind=4→∃a4,∃k:BS,PuX prog 126 (Bl mP) [.s ([38]:BS)] (fun r=>r=.tup [.i .i64 a4,.ni]) ((Bl k))∧∃a1:Val,m0.list[0]?=some a1∧∃u,∃a0:BS,PuX prog 104 (Bl k) [a1.av] (fun r=>r=.i .i64 u) ((Bl a0))∧K u a0)∧(¬(m0.kind=4)→(m0.cut=true→∃a6,∃y:BS,PuX prog 126 (Bl mP) [.s ([60,46,46,46,62]:BS)] (fun r=>r=.tup [.i .i64 a6,.ni]) ((Bl y))∧T104_4 prog K y)∧(m0.cut=false→1≤ends5.length∧∃a2,∃o:BS,PuX prog 126 (Bl mP) [.s (ends5.take 1)] (fun r=>r=.tup [.i .i64 a2,.ni]) ((Bl o))∧∀P0:Int→BS→Prop,(∀(t22:Int)(mP:BS),T104_9 prog K P0 ends5 m0.list (m0.list.length:Int) t22 mP→P0 t22 mP)→P0 0 o))))∧(¬(m0.kind=4)→(m0.kind=4→∃a8,∃w:BS,PuX prog 126 (Bl mP) [.s ([38]:BS)] (fun r=>r=.tup [.i .i64 a8,.ni]) ((Bl w))∧∃q:Val,m0.list[0]?=some q∧∃p,∃z:BS,PuX prog 104 (Bl w) [q.av] (fun r=>r=.i .i64 p) ((Bl z))∧K p z)∧(¬(m0.kind=4)→(m0.cut=true→∃a7,∃j:BS,PuX prog 126 (Bl mP) [.s ([60,46,46,46,62]:BS)] (fun r=>r=.tup [.i .i64 a7,.ni]) ((Bl j))∧T104_4 prog K j)∧(m0.cut=false→1≤ends5.length∧∃a5,∃v:BS,PuX prog 126 (Bl mP) [.s (ends5.take 1)] (fun r=>r=.tup [.i .i64 a5,.ni]) ((Bl v))∧∀P0:Int→BS→Prop,(∀(t22:Int)(mP:BS),T104_9 prog K P0 ends5 m0.list (m0.list.length:Int) t22 mP→P0 t22 mP)→P0 0 v))))
def T104_7 (prog:Prog)(K:Int→BS→Prop)(ends5:BS)(t68:Bool)(m0:Val)(mP:BS):Prop:=
  (t68=true→∃c j,Pus prog 11 [.s m0.text] (.tup [.s c,.i .i64 j])∧∃k,∃e:BS,PuX prog 126 (Bl mP) [.s c] (fun r=>r=.tup [.i .i64 k,.ni]) ((Bl e))∧K j e)∧(t68=false→(m0.kind=4→T104_8 prog K ends5 m0.cut m0 mP)∧(¬(m0.kind=4)→T104_8 prog K ends5 false m0 mP))
def T104_6 (prog:Prog)(K:Int→BS→Prop)(ends5:BS)(t59:Bool)(m0:Val)(mP:BS):Prop:=
  (t59=true→∃c,Pus prog 15 [.i .i64 m0.int] (.s c)∧∃j,∃e:BS,PuX prog 126 (Bl mP) [.s c] (fun r=>r=.tup [.i .i64 j,.ni]) ((Bl e))∧T104_4 prog K e)∧(t59=false→T104_7 prog K ends5 (decide (m0.kind=3)) m0 mP)
def T104_5 (prog:Prog)(K:Int→BS→Prop)(ends5:BS)(t53:Bool)(m0:Val)(mP:BS):Prop:=
  (t53=true→∃e,∃c:BS,PuX prog 126 (Bl mP) [.s ([102,97,108,115,101]:BS)] (fun r=>r=.tup [.i .i64 e,.ni]) ((Bl c))∧T104_4 prog K c)∧(t53=false→T104_6 prog K ends5 (decide (m0.kind=2)) m0 mP)
def T104_3 (prog:Prog)(K:Int→BS→Prop)(ends5:BS)(t42:Bool)(m0:Val)(mP:BS):Prop:=
  (t42=true→∃e,∃c:BS,PuX prog 126 (Bl mP) [.s ([116,114,117,101]:BS)] (fun r=>r=.tup [.i .i64 e,.ni]) ((Bl c))∧T104_4 prog K c)∧(t42=false→T104_5 prog K ends5 (decide (m0.kind=1)) m0 mP)
def T104_2 (prog:Prog)(K:Int→BS→Prop)(ends5:BS)(m0:Val)(mP:BS):Prop:=
  (m0.kind=1→T104_3 prog K ends5 (decide (m0.int=1)) m0 mP)∧(¬(m0.kind=1)→T104_3 prog K ends5 false m0 mP)
def T104_1 (prog:Prog)(K:Int→BS→Prop)(m0:Val)(mP:BS):Prop:=
  0≤m0.kind∧∃c,([[],[],[],[],[],([123,125]:BS),([91,93]:BS),([60,62]:BS)]:LB)[(m0.kind).toNat]?=some c∧T104_2 prog K c m0 mP
def T104_0 (prog:Prog)(K:Int→BS→Prop)(v1:Val)(mP:BS):Prop:=
  T104_1 prog K v1 mP
section
variable {prog:Prog}{d:Nat}{Q:AE→Sl→St→Prop}{K:Int→BS→Prop}{st0:St}{kp:Key}{vp:Nat}(hQ:H104 d st0 kp vp Q K)(hkp:kp.1<d){σ:Sl}{st:St}
include hQ hkp
variable {mP ends5:BS}{t20:List Val}{t21 t22:Int}{m20483:Val}{P0:Int→BS→Prop}{o_t20:Own}{v20483:Nat}{t82:Bool}{m0:Val}{v0:Nat}{t68 t59 t53 t42:Bool}{v1:Val}
variable (kP0 :∀(t22:Int)(mP:BS),P0 t22 mP→I104_0 prog d Q st0 kp vp ends5 t20 t21 t22 mP)(H0:σ 0=.p kp vp 0)(H3:σ 3=.p (d,0) v0 0)(H1:σ 1=v1.av)(H5:σ 5=.s ends5)(H9:σ 9=.p (d,20483) v20483 0)(H82:σ 82=.b t82)(H68:σ 68=.b t68)(H59:σ 59=.b t59)(H53:σ 53=.b t53)(H42:σ 42=.b t42)(H20:σ 20=.sl o_t20 (List.map Val.row t20))(B0:lk st.bx (d,0)=some (v0,[.i .u8 m0.kind,.i .i64 m0.int,.s m0.text,.sl .ext (List.map Val.row m0.list),.b m0.cut]))(H21:σ 21=.i .i64 t21)(H22:σ 22=.i .i64 t22)(B20483:lk st.bx (d,20483)=some (v20483,[.i .u8 m20483.kind,.i .i64 m20483.int,.s m20483.text,.sl .ext (List.map Val.row m20483.list),.b m20483.cut]))(BP:Bl mP st.bx st.ow kp vp)(FR:Fr d kp st0.bx st0.ow st.bx st.ow)
include BP FR in
theorem w104_4 (h:T104_4 prog K mP):W prog d c104_8 σ st Q:=
 q_ J (m_ (er_ (hQ _ _ _ _ J BP FR h)))
include kP0 H0 H5 H9 H20 H21 H22 B20483 BP FR in
theorem w104_10 (h:T104_10 prog K P0 ends5 t20 t21 t22 m20483 mP):W prog d c104_0 σ st (blockW 2 (thenW prog d (.reg 11 r104_30) (thenW prog d (.loop l104_0) (blockW 1 (thenW prog d c104_2 (blockW 0 (thenW prog d c104_8 Q))))))):=
 q_ J (m_ (l_ H9 B20483 J J (h.elim fun _ k=>k.elim fun _ c=>cX_ (sec H0 (sec J sen)) c.1 (Nat.lt_succ_of_lt hkp) BP (fun _ i j=>m_ (e_ (q_ J (m_ (b_ J J neq_ (e_ (cs_ J (fun e=>q_ J (m_ (m_ (er_ (hQ _ _ _ _ J i (Fr.pass FR j) (c.2.1 e)))))) (fun e=>sk_ (W.reg0 J fun _ _=>b_ H22 J add_ (m_ (e_ (kP0 _ _ (c.2.2 e) _ _ _ H0 H5 H20 H21 J i (Fr.pass FR j))))))))))))))))
include H0 H5 BP FR in
theorem w104_11 (h:T104_11 prog K ends5 mP):W prog d c104_2 σ st (blockW 0 (thenW prog d c104_8 Q)):=
 W.reg0 J fun _ _=>m_ (m_ (s_slS_lo H5 J (by decide) h.1 (h.2.elim fun _ e=>e.elim fun _ c=>cX_ (sec H0 (sec J sen)) c.1 (Nat.lt_succ_of_lt hkp) BP (fun _ i j=>e_ (w104_4 hQ hkp i (Fr.pass FR j) c.2)))))
include kP0 H0 H5 H20 H21 H22 BP FR in
theorem w104_9 (h:T104_9 prog K P0 ends5 t20 t21 t22 mP):W prog d l104_0 σ st (thenW prog d (.loop l104_0) (blockW 1 (thenW prog d c104_2 (blockW 0 (thenW prog d c104_8 Q))))):=
 q_ J (b_ H22 H21 lss_ (e_ (sq_ (cs_ J (fun c=>sk_ (sq_ (bk_ (sq_ (W.reg (m_ ((h.1 c).2.elim fun p e=>ia_ H20 H22 (h.1 c).1 e.1 (Val.row_eq p) J (lf_ J J J (s_alloc (m_ (so_ J (show lk _ (d,20483)=some (_,([.i .u8 0,.i .i64 0,.s [],.sl .full (List.map Val.row ([]:List Val)),.b false]:List AV)) from lk_here) J J J (e_ (sq_ (q_ J (m_ (b_ H22 J gtr_ (e_ (cs_ J (fun j=>W.reg0 J fun _ _=>m_ ((e.2.1 j).elim fun _ q=>q.elim fun _ k=>cX_ (sec H0 (sec J sen)) k.1 (Nat.lt_succ_of_lt hkp) (Bl.other (key_LP hkp) (Bl.other (key_LP hkp) BP)) (fun _ r o=>e_ (w104_10 hQ hkp kP0 H0 H5 J H20 H21 H22 ((o.1 (d,20483) (Nat.lt_succ_self d) (key_LP hkp)).trans lk_here) r (Fr.pass (Fr.box (Fr.box FR)) o) k.2)))) (fun j=>sk_ (w104_10 hQ hkp kP0 H0 H5 J H20 H21 H22 lk_here (Bl.other (key_LP hkp) (Bl.other (key_LP hkp) BP)) (Fr.box (Fr.box FR)) (e.2.2 j))))))))))))))))))))) (fun c=>ex_ (w104_11 hQ hkp H0 H5 BP FR (h.2 c)))))))
include H0 H3 H5 H82 B0 BP FR in
theorem w104_8 (h:T104_8 prog K ends5 t82 m0 mP):W prog d c104_3 σ st (blockW 0 (thenW prog d c104_8 Q)):=
 cb_ H82 (fun c=>W.reg0 J fun _ _=>m_ ((h.1 c).elim fun _ b8=>b8.elim fun _ v=>cX_ (sec H0 (sec J sen)) v.1 (Nat.lt_succ_of_lt hkp) BP (fun _ c5 d4=>e_ (w104_4 hQ hkp c5 (Fr.pass FR d4) v.2)))) (fun c=>q_ J (f_ H3 (l_ J B0 J J (b_ J J eql_ (s_mvB J (em_ (g:=96) J (fun e=>gy_ J (f_ H3 (gy_ J (l_ J B0 J J (gy_ J (ll_ J (gy_ J (b_ J J eql_ (z_ 2 J (e_ (cs_ J (fun i=>W.reg0 J fun _ _=>m_ ((((h.2 c).1 e).1 i).elim fun _ b0=>b0.elim fun _ q=>cX_ (sec H0 (sec J sen)) q.1 (Nat.lt_succ_of_lt hkp) BP (fun _ c0 d1=>e_ (w104_4 hQ hkp c0 (Fr.pass FR d1) q.2)))) (fun i=>q_ J (f_ H3 (l_ J B0 J J (b_ J J eql_ (m_ (e_ (cs_ J (fun j=>q_ J (m_ (((((h.2 c).1 e).2 i).1 j).elim fun _ b2=>b2.elim fun _ r=>cX_ (sec H0 (sec J sen)) r.1 (Nat.lt_succ_of_lt hkp) BP (fun _ c1 a4=>e_ (q_ J (m_ (f_ H3 (l_ J ((a4.1 (d,0) (Nat.lt_succ_self d) (key_LP hkp)).trans B0) J J (r.2.elim fun a8 s=>ia_ J J (by decide) s.1 (Val.row_eq a8) J (lf_ J J J (s.2.elim fun _ b1=>b1.elim fun _ u=>cX_ (sec H0 (sec J sen)) u.1 (Nat.lt_succ_of_lt hkp) c1 (fun _ c2 d2=>m_ (er_ (hQ _ _ _ _ J c2 (Fr.pass (Fr.pass FR a4) d2) u.2)))))))))))))) (fun j=>q_ J (f_ H3 (l_ J B0 J J (m_ (e_ (cb_ J (fun o=>W.reg0 J fun _ _=>m_ ((((((h.2 c).1 e).2 i).2 j).1 o).elim fun _ b3=>b3.elim fun _ w=>cX_ (sec H0 (sec J sen)) w.1 (Nat.lt_succ_of_lt hkp) BP (fun _ c3 d3=>e_ (w104_4 hQ hkp c3 (Fr.pass FR d3) w.2)))) (fun o=>q_ J (m_ (m_ (s_slS_hi H5 J (by decide) (((((h.2 c).1 e).2 i).2 j).2 o).1 ((((((h.2 c).1 e).2 i).2 j).2 o).2.elim fun _ b4=>b4.elim fun _ y=>cX_ (sec H0 (sec J sen)) y.1 (Nat.lt_succ_of_lt hkp) BP (fun _ c4 a5=>e_ (sq_ (q_ J (f_ H3 (l_ J ((a5.1 (d,0) (Nat.lt_succ_self d) (key_LP hkp)).trans B0) J J (ll_ J (m_ (e_ (bk_ (y.2 (I104_0 prog d Q st0 kp vp ends5 m0.list (m0.list.length:Int)) (fun _ _ hb _ _ _ H0 H5 H20 H21 H22 BP FR=>W.loop (w104_9 hQ hkp (fun _ _ x=>x) H0 H5 H20 H21 H22 BP FR hb)) _ _ _ H0 H5 J J J c4 (Fr.pass FR a5)))))))))))))))))))))))))))))))))))))))) (fun e=>z_ 6 J (e_ (cf_ J (q_ J (f_ H3 (l_ J B0 J J (b_ J J eql_ (m_ (e_ (cs_ J (fun k=>q_ J (m_ ((((h.2 c).2 e).1 k).elim fun _ b6=>b6.elim fun _ z=>cX_ (sec H0 (sec J sen)) z.1 (Nat.lt_succ_of_lt hkp) BP (fun _ c6 a6=>e_ (q_ J (m_ (f_ H3 (l_ J ((a6.1 (d,0) (Nat.lt_succ_self d) (key_LP hkp)).trans B0) J J (z.2.elim fun a9 a0=>ia_ J J (by decide) a0.1 (Val.row_eq a9) J (lf_ J J J (a0.2.elim fun _ b5=>b5.elim fun _ a1=>cX_ (sec H0 (sec J sen)) a1.1 (Nat.lt_succ_of_lt hkp) c6 (fun _ c7 d5=>m_ (er_ (hQ _ _ _ _ J c7 (Fr.pass (Fr.pass FR a6) d5) a1.2)))))))))))))) (fun k=>q_ J (f_ H3 (l_ J B0 J J (m_ (e_ (cb_ J (fun p=>W.reg0 J fun _ _=>m_ (((((h.2 c).2 e).2 k).1 p).elim fun _ b7=>b7.elim fun _ a2=>cX_ (sec H0 (sec J sen)) a2.1 (Nat.lt_succ_of_lt hkp) BP (fun _ c9 d6=>e_ (w104_4 hQ hkp c9 (Fr.pass FR d6) a2.2)))) (fun p=>q_ J (m_ (m_ (s_slS_hi H5 J (by decide) ((((h.2 c).2 e).2 k).2 p).1 (((((h.2 c).2 e).2 k).2 p).2.elim fun _ b9=>b9.elim fun _ a3=>cX_ (sec H0 (sec J sen)) a3.1 (Nat.lt_succ_of_lt hkp) BP (fun _ d0 a7=>e_ (sq_ (q_ J (f_ H3 (l_ J ((a7.1 (d,0) (Nat.lt_succ_self d) (key_LP hkp)).trans B0) J J (ll_ J (m_ (e_ (bk_ (a3.2 (I104_0 prog d Q st0 kp vp ends5 m0.list (m0.list.length:Int)) (fun _ _ hb _ _ _ H0 H5 H20 H21 H22 BP FR=>W.loop (w104_9 hQ hkp (fun _ _ x=>x) H0 H5 H20 H21 H22 BP FR hb)) _ _ _ H0 H5 J J J d0 (Fr.pass FR a7))))))))))))))))))))))))))))))))))))))
include H0 H3 H5 H68 B0 BP FR in
theorem w104_7 (h:T104_7 prog K ends5 t68 m0 mP):W prog d c104_4 σ st (blockW 0 (thenW prog d c104_8 Q)):=
 cb_ H68 (fun c=>q_ J (f_ H3 (l_ J B0 J J (x2 (h.1 c) fun _ _ i=>ca_ (sc1 J J) i.1 (m_ (x_ J J (x_ J J (m_ (m_ (e_ (q_ J (m_ (m_ (i.2.elim fun _ k=>k.elim fun _ j=>cX_ (sec H0 (sec J sen)) j.1 (Nat.lt_succ_of_lt hkp) BP (fun _ o p=>e_ (q_ J (m_ (m_ (er_ (hQ _ _ _ _ J o (Fr.pass FR p) j.2)))))))))))))))))))) (fun c=>q_ J (f_ H3 (l_ J B0 J J (b_ J J eql_ (s_mvB J (em_ (g:=86) J (fun e=>gy_ J (f_ H3 (gy_ J (l_ J B0 J J (z_ 2 J (e_ (w104_8 hQ hkp H0 H3 H5 J B0 BP FR ((h.2 c).1 e)))))))) (fun e=>z_ 4 J (e_ (w104_8 hQ hkp H0 H3 H5 J B0 BP FR ((h.2 c).2 e))))))))))
include H0 H3 H5 H59 B0 BP FR in
theorem w104_6 (h:T104_6 prog K ends5 t59 m0 mP):W prog d c104_5 σ st (blockW 0 (thenW prog d c104_8 Q)):=
 cb_ H59 (fun c=>W.reg0 J fun _ _=>m_ (f_ H3 (l_ J B0 J J ((h.1 c).elim fun _ e=>ca_ (sc1 J J) e.1 (e.2.elim fun _ j=>j.elim fun _ i=>cX_ (sec H0 (sec J sen)) i.1 (Nat.lt_succ_of_lt hkp) BP (fun _ k o=>e_ (w104_4 hQ hkp k (Fr.pass FR o) i.2))))))) (fun c=>q_ J (f_ H3 (l_ J B0 J J (b_ J J eql_ (m_ (e_ (w104_7 hQ hkp H0 H3 H5 J B0 BP FR (h.2 c))))))))
include H0 H3 H5 H53 B0 BP FR in
theorem w104_5 (h:T104_5 prog K ends5 t53 m0 mP):W prog d c104_6 σ st (blockW 0 (thenW prog d c104_8 Q)):=
 cb_ H53 (fun c=>W.reg0 J fun _ _=>m_ ((h.1 c).elim fun _ i=>i.elim fun _ e=>cX_ (sec H0 (sec J sen)) e.1 (Nat.lt_succ_of_lt hkp) BP (fun _ j k=>e_ (w104_4 hQ hkp j (Fr.pass FR k) e.2)))) (fun c=>q_ J (f_ H3 (l_ J B0 J J (b_ J J eql_ (m_ (e_ (w104_6 hQ hkp H0 H3 H5 J B0 BP FR (h.2 c))))))))
include H0 H3 H5 H42 B0 BP FR in
theorem w104_3 (h:T104_3 prog K ends5 t42 m0 mP):W prog d c104_7 σ st (blockW 0 (thenW prog d c104_8 Q)):=
 cb_ H42 (fun c=>W.reg0 J fun _ _=>m_ ((h.1 c).elim fun _ i=>i.elim fun _ e=>cX_ (sec H0 (sec J sen)) e.1 (Nat.lt_succ_of_lt hkp) BP (fun _ j k=>e_ (w104_4 hQ hkp j (Fr.pass FR k) e.2)))) (fun c=>q_ J (f_ H3 (l_ J B0 J J (b_ J J eql_ (m_ (e_ (w104_5 hQ hkp H0 H3 H5 J B0 BP FR (h.2 c))))))))
include H0 H3 H5 B0 BP FR in
theorem w104_2 (h:T104_2 prog K ends5 m0 mP):W prog d c104_9 σ st Q:=
 sq_ (bk_ (q_ J (f_ H3 (l_ J B0 J J (b_ J J eql_ (s_mvB J (em_ (g:=46) J (fun c=>gy_ J (f_ H3 (gy_ J (l_ J B0 J J (gy_ J (b_ J J eql_ (z_ 2 J (e_ (w104_3 hQ hkp H0 H3 H5 J B0 BP FR (h.1 c)))))))))) (fun c=>z_ 5 J (e_ (w104_3 hQ hkp H0 H3 H5 J B0 BP FR (h.2 c)))))))))))
include H0 H3 B0 BP FR in
theorem w104_1 (h:T104_1 prog K m0 mP):W prog d c104_10 σ st Q:=
 q_ J (s_buildM (f:=AV.s) (l:=[[],[],[],[],[],([123,125]:BS),([91,93]:BS),([60,62]:BS)]) (f_cons J J (f_cons J J (f_cons J J f_nil))) J (f_ H3 (l_ J B0 J J (h.2.elim fun _ c=>s_ixA (f:=AV.s) J J J h.1 c.1 (m_ (e_ (w104_2 hQ hkp H0 H3 J B0 BP FR c.2)))))))
include H0 H1 BP FR in
theorem w104_0 (h:T104_0 prog K v1 mP):W prog d (sR 0 r104_0 c104_10) σ st Q:=
 q_ J (s_box H1 J (m_ (e_ (w104_1 hQ hkp H0 J lk_here (Bl.other (key_LP hkp) BP) (Fr.box FR) h))))
end
theorem p104 {prog:Prog}(hf:prog.fn 104=some pf104){v1:Val}{mP:BS}{K:Int→BS→Prop}(h:T104_0 prog K v1 mP):PuXK prog 104 (Bl mP) [v1.av] (fun r (b_:BS)=>∃res0:Int,(r=.i .i64 res0)∧K res0 b_) (fun b_=>(Bl b_)):=
  PuXK.of hf rfl (fun _=>Bl.out) fun d st kp vp hkp hB=>w104_0 (st0:=st) (Q:=fun e σ st'=>(e=.normal∨e=.ret)∧∃r b_,ares σ st' pf104.res=some r∧_∧_∧Fr d kp st.bx st.ow st'.bx st'.ow) (fun σ st'   res0 b_ H4 hb hf hk=>⟨.inr rfl,.i .i64 res0,b_,by simp only [pf104,ares,aresL,H4,ares1,Option.map_some,H4],⟨res0,rfl,hk⟩,hb,hf⟩) hkp (σ:=sl0 [.p kp vp 0,v1.av]) rfl rfl hB Fr.refl h
abbrev H106 (Q:AE→Sl→St→Prop)(K:BS→Prop):Prop:=∀(σ:Sl)(st:St)(res0:BS),σ 2=.s res0→K res0→Q .ret σ st
section
variable {prog:Prog}{d:Nat}{Q:AE→Sl→St→Prop}{K:BS→Prop}(hQ:H106 Q K){σ:Sl}{st:St}
include hQ
end
def r109_0:List AI:=[oY 2 5 0,oI 4 0,oC 5 (.b false)]
def r109_1:List AI:=[oF 15 0 2,oL 16 15,oO 17 (.build [z8,z6,zs,zl,zb] [(0,1,(.t 16))]),oO 6 (.alloc [z8,z6,zs,zl,zb]),oS 5 6 17,oI 7 0,oI 8 0]
def r109_2:List AI:=[oF 18 0 2,oL 19 18]
def r109_3:List AI:=[oW 21 .eql 19 1,oM 20 21]
def r109_4:List AI:=[oF 22 1 2,oL 23 22,oV 24 .and 23 1,oF 25 1 6,oS 1 25 24]
def r109_5:List AI:=[oW 27 .eql 19 2,oM 26 27]
def r109_6:List AI:=[oF 28 1 2,oL 29 28,oF 30 1 6,oS 1 30 29]
def r109_7:List AI:=[oW 32 .eql 19 3,oM 31 32]
def r109_8:List AI:=[oF 33 2 2,oL 34 33,oF 35 2 6,oS 1 35 34]
def r109_9:List AI:=[oW 37 .eql 19 4,oM 36 37]
def r109_10:List AI:=[oF 38 4 2,oL 39 38,oF 40 4 6,oS 1 40 39,oI 7 1]
def r109_11:List AI:=[oW 42 .eql 19 5,oM 41 42]
def r109_12:List AI:=[oI 7 8]
def r109_13:List AI:=[oW 44 .eql 19 6,oM 43 44]
def r109_14:List AI:=[oI 7 16,oI 8 1]
def r109_15:List AI:=[oW 46 .eql 19 7,oM 45 46]
def r109_16:List AI:=[oF 47 4 2,oL 48 47,oF 49 4 6,oS 1 49 48,oI 7 16]
def r109_17:List AI:=[oI 4 0,oC 5 (.b false)]
def r109_18:List AI:=[oF 50 3 2,oL 51 50,oJ 52 51,oM 9 52]
def r109_19:List AI:=[oM 53 1,oV 54 .eql 53 0,oM 55 54,gF 55 (oF 56 1 6),gF 55 (oL 57 56),gF 55 (oF 58 1 2),gF 55 (oL 59 58),gF 55 (oT 60 .neq 57 59),oR 61 55 60,oM 62 61,gF 62 (oF 63 2 6),gF 62 (oL 64 63),gF 62 (oF 65 2 2),gF 62 (oL 66 65),gF 62 (oT 67 .neq 64 66),oR 68 62 67,oM 69 68,gF 69 (oF 70 2 2),gF 69 (oL 71 70),gF 69 (oH 72 71),gF 69 (oV 73 .gtr 72 64),oR 74 69 73,oM 75 74,gF 75 (oF 76 4 6),gF 75 (oL 77 76),gF 75 (oF 78 4 2),gF 75 (oL 79 78),gF 75 (oO 80 (.beq true (.t 77) (.t 79))),oR 81 75 80,oM 82 81,gF 82 (oF 83 4 2),gF 82 (oL 84 83),gF 82 (oM 85 84),gT 85 (oM 86 9),gT 85 (oV 87 .gtr 86 0),gF 82 (oA 88 85 87),oR 89 82 88,oM 90 89,gF 90 (oM 91 9),gF 90 (oM 92 7),gF 90 (oT 93 .gtr 91 92),oR 94 90 93,oM 95 94,gF 95 (oM 96 9),gF 95 (oM 97 8),gF 95 (oT 98 .lss 96 97),oR 99 95 98]
def r109_20:List AI:=[oI 4 0,oC 5 (.b false)]
def r109_21:List AI:=[oI 10 1]
def r109_22:List AI:=[oF 100 3 2,oL 101 100,oJ 102 101,oI 103 0]
def r109_23:List AI:=[oT 104 .lss 103 102]
def r109_24:List AI:=[oX 105 5 101 103,oK 106 5 105,oO 12 (.alloc [z8,z6,zs,zl,zb]),oS 5 12 106]
def r109_25:List AI:=[oK 108 5 12,oM 109 1,oV 110 .sub 109 1,oQ 111 109 [108,110],oM 107 111,oE 112 0 107,oE 113 1 107,oM 13 112,oM 14 113]
def r109_26:List AI:=[oM 114 10,oM 115 13,oT 116 .add 114 115,oM 10 116]
def r109_27:List AI:=[oM 117 14,oZ 118 117,oM 119 118,gF 119 (oM 120 10),gF 119 (oV 121 .gtr 120 5000),oR 122 119 121]
def r109_28:List AI:=[oI 4 0,oC 5 (.b false)]
def r109_29:List AI:=[oV 123 .add 103 1,oM 103 123]
def r109_30:List AI:=[oM 124 10,oM 4 124,oC 5 (.b true)]
abbrev l109_0:AC:=(sR 23 r109_23 (.seq (.cond (.t 104) .skip (.exit 1)) (.seq (.block 2 (sR 24 r109_24 (sR 25 r109_25 (sR 26 r109_26 (sR 27 r109_27 (.cond (.t 122) (sR 28 r109_28 .ret) .skip)))))) (.reg 29 r109_29))))
abbrev c109_1:AC:=(sR 30 r109_30 .ret)
abbrev c109_2:AC:=(.seq (sR 19 r109_19 (.cond (.t 99) (sR 20 r109_20 .ret) .skip)) (sR 21 r109_21 (.seq (sR 22 r109_22 (.block 1 (.loop l109_0))) c109_1)))
abbrev c109_3:AC:=(sR 18 r109_18 c109_2)
abbrev c109_4:AC:=(.seq (sR 2 r109_2 (.block 0 (sR 4 r109_3 (.cond (.t 20) (.reg 5 r109_4) (sR 6 r109_5 (.cond (.t 26) (.reg 7 r109_6) (sR 8 r109_7 (.cond (.t 31) (.reg 9 r109_8) (sR 10 r109_9 (.cond (.t 36) (.reg 11 r109_10) (sR 12 r109_11 (.cond (.t 41) (.reg 13 r109_12) (sR 14 r109_13 (.cond (.t 43) (.reg 15 r109_14) (sR 16 r109_15 (.cond (.t 45) (.reg 17 r109_16) (sR 3 r109_17 .ret))))))))))))))))) c109_3)
abbrev c109_5:AC:=(sR 1 r109_1 c109_4)
abbrev b109:AC:=(sR 0 r109_0 c109_5)
def pf109:AF:={ nt:=125,res:=[.tmp 4,.tmp 5],body:=b109 }
abbrev I109_0 (prog:Prog)(d:Nat)(Q:AE→Sl→St→Prop)(nest1:Int)(t101:List Val)(t102:Int)(sum10:Int)(t103:Int):Prop:=
  ∀(σ:Sl)(st:St)(o_t101:Own),σ 1=.i .i64 nest1→σ 10=.i .i64 sum10→σ 101=.sl o_t101 (List.map Val.row t101)→σ 102=.i .i64 t102→σ 103=.i .i64 t103→W prog d (.loop l109_0) σ st (blockW 1 (thenW prog d c109_1 Q))
def T109_6 (prog:Prog)(K:Int→Bool→Prop)(sum10:Int):Prop:=
  K sum10 true
def T109_5 (prog:Prog)(K:Int→Bool→Prop)(P0:Int→Int→Prop)(nest1:Int)(sum10:Int)(t101:List Val)(t102:Int)(t103:Int):Prop:=
  (t103<t102→0≤t103∧∃j:Val,t101[(t103).toNat]?=some j∧∃c e,Pus prog 109 [j.av,.i .i64 (IntKind.i64.wrap (nest1-1))] (.tup [.i .i64 c,.b e])∧((!e)=true→K 0 false)∧((!e)=false→((IntKind.i64.wrap (sum10+c))>5000→K 0 false)∧(¬((IntKind.i64.wrap (sum10+c))>5000)→P0 (IntKind.i64.wrap (sum10+c)) (IntKind.i64.wrap (t103+1)))))∧(¬(t103<t102)→T109_6 prog K sum10)
def T109_4 (prog:Prog)(K:Int→Bool→Prop)(nest1:Int)(most7:Int)(least8:Int)(n9:Int)(m0:Val)(m4099:Val):Prop:=
  (nest1=0→K 0 false)∧(¬(nest1=0)→(m4099.int≠m0.int→K 0 false)∧(¬(m4099.int≠m0.int)→(m4099.text≠m0.text→K 0 false)∧(¬(m4099.text≠m0.text)→((m0.text.length:Int)>64→K 0 false)∧(¬((m0.text.length:Int)>64)→(m4099.cut≠m0.cut→K 0 false)∧(¬(m4099.cut≠m0.cut)→(m0.cut=true→(n9>0→K 0 false)∧(¬(n9>0)→(n9>most7→K 0 false)∧(¬(n9>most7)→(n9<least8→K 0 false)∧(¬(n9<least8)→∀P0:Int→Int→Prop,(∀(sum10:Int)(t103:Int),T109_5 prog K P0 nest1 sum10 m0.list (m0.list.length:Int) t103→P0 sum10 t103)→P0 1 0))))∧(m0.cut=false→(n9>most7→K 0 false)∧(¬(n9>most7)→(n9<least8→K 0 false)∧(¬(n9<least8)→∀P0:Int→Int→Prop,(∀(sum10:Int)(t103:Int),T109_5 prog K P0 nest1 sum10 m0.list (m0.list.length:Int) t103→P0 sum10 t103)→P0 1 0))))))))
def T109_3 (prog:Prog)(K:Int→Bool→Prop)(nest1:Int)(most7:Int)(least8:Int)(m0:Val)(m4099:Val):Prop:=
  T109_4 prog K nest1 most7 least8 (m0.list.length:Int) m0 m4099
def T109_2 (prog:Prog)(K:Int→Bool→Prop)(nest1:Int)(most7:Int)(least8:Int)(m0:Val)(m4099:Val):Prop:=
  (m0.kind=1→T109_3 prog K nest1 most7 least8 m0 (Val.mk m4099.kind (bAnd .i64 m0.int 1) m4099.text m4099.list m4099.cut))∧(¬(m0.kind=1)→(m0.kind=2→T109_3 prog K nest1 most7 least8 m0 (Val.mk m4099.kind m0.int m4099.text m4099.list m4099.cut))∧(¬(m0.kind=2)→(m0.kind=3→T109_3 prog K nest1 most7 least8 m0 (Val.mk m4099.kind m4099.int m0.text m4099.list m4099.cut))∧(¬(m0.kind=3)→(m0.kind=4→T109_3 prog K nest1 1 least8 m0 (Val.mk m4099.kind m4099.int m4099.text m4099.list m0.cut))∧(¬(m0.kind=4)→(m0.kind=5→T109_3 prog K nest1 8 least8 m0 m4099)∧(¬(m0.kind=5)→(m0.kind=6→T109_3 prog K nest1 16 1 m0 m4099)∧(¬(m0.kind=6)→(m0.kind=7→T109_3 prog K nest1 16 least8 m0 (Val.mk m4099.kind m4099.int m4099.text m4099.list m0.cut))∧(¬(m0.kind=7)→K 0 false)))))))
def T109_1 (prog:Prog)(K:Int→Bool→Prop)(nest1:Int)(m0:Val):Prop:=
  T109_2 prog K nest1 0 0 m0 (Val.mk m0.kind 0 [] ([]:List Val) false)
def T109_0 (prog:Prog)(K:Int→Bool→Prop)(v0:Val)(nest1:Int):Prop:=
  T109_1 prog K nest1 v0
section
variable {prog:Prog}{d:Nat}{Q:AE→Sl→St→Prop}{K:Int→Bool→Prop}(hQ:H2 (AV.i .i64) AV.b 4 5 Q K){σ:Sl}{st:St}
include hQ
variable {sum10 nest1:Int}{t101:List Val}{t102 t103:Int}{P0:Int→Int→Prop}{o_t101:Own}{most7 least8 n9:Int}{m0 m4099:Val}{o_m4099_3:Own}{v0 v4099:Nat}
variable (kP0 :∀(sum10:Int)(t103:Int),P0 sum10 t103→I109_0 prog d Q nest1 t101 t102 sum10 t103)(H1:σ 1=.i .i64 nest1)(H10:σ 10=.i .i64 sum10)(H2:σ 2=.p (d,0) v0 0)(H101:σ 101=.sl o_t101 (List.map Val.row t101))(H6:σ 6=.p (d,4099) v4099 0)(H102:σ 102=.i .i64 t102)(H7:σ 7=.i .i64 most7)(H103:σ 103=.i .i64 t103)(H8:σ 8=.i .i64 least8)(H9:σ 9=.i .i64 n9)(Ab4099:ApM d st.ow o_m4099_3 m4099.list.length)(B0:lk st.bx (d,0)=some (v0,[.i .u8 m0.kind,.i .i64 m0.int,.s m0.text,.sl .ext (List.map Val.row m0.list),.b m0.cut]))(B4099:lk st.bx (d,4099)=some (v4099,[.i .u8 m4099.kind,.i .i64 m4099.int,.s m4099.text,.sl o_m4099_3 (List.map Val.row m4099.list),.b m4099.cut]))
include H10 in
theorem w109_6 (h:T109_6 prog K sum10):W prog d c109_1 σ st Q:=
 q_ J (m_ (m_ (m_ (er_ (hQ H10 J h)))))
include kP0 H1 H10 H101 H102 H103 in
theorem w109_5 (h:T109_5 prog K P0 nest1 sum10 t101 t102 t103):W prog d l109_0 σ st (thenW prog d (.loop l109_0) (blockW 1 (thenW prog d c109_1 Q))):=
 q_ J (b_ H103 H102 lss_ (e_ (sq_ (cs_ J (fun e=>sk_ (sq_ (bk_ (sq_ (W.reg ((h.1 e).2.elim fun p o=>ia_ H101 H103 (h.1 e).1 o.1 (Val.row_eq p) J (lf_ J J J (s_alloc (so_ J (show lk _ (d,98306)=some (_,([.i .u8 0,.i .i64 0,.s [],.sl .full (List.map Val.row ([]:List Val)),.b false]:List AV)) from lk_here) J J J (e_ (q_ J (l_ J lk_here J J (m_ (b_ H1 J sub_ (x2 o.2 fun _ _ c=>ca_ (sc2 J J J) c.1 (m_ (x_ J J (x_ J J (m_ (m_ (e_ (q_ J (m_ (m_ (b_ H10 J add_ (m_ (e_ (q_ J (s_mvB J (nt_ J (s_mvB J (eb_ (g:=119) J (fun j=>z_ 3 J (e_ (ct_ J (q_ J (m_ (m_ (er_ (hQ J J (c.2.1 j))))))))) (fun j=>gy_ J (s_mvI J (gy_ J (b_ J J gtr_ (pf_ J J (e_ (cs_ J (fun k=>q_ J (m_ (m_ (er_ (hQ J J ((c.2.2 j).1 k)))))) (fun k=>sk_ (W.reg0 J fun _ _=>b_ H103 J add_ (m_ (e_ (kP0 _ _ ((c.2.2 j).2 k) _ _ _ H1 J H101 H102 J)))))))))))))))))))))))))))))))))))))))))))) (fun e=>ex_ (w109_6 hQ H10 (h.2 e)))))))
include H1 H2 H6 H7 H8 H9 Ab4099 B0 B4099 in
theorem w109_4 (h:T109_4 prog K nest1 most7 least8 n9 m0 m4099):W prog d c109_2 σ st Q:=
 sq_ (q_ J (s_mvI H1 (b_ J J eql_ (s_mvB J (em_ (g:=55) J (fun c=>z_ 30 J (gt_ J (gt_ J (z_ 12 J (e_ (ct_ J (q_ J (m_ (m_ (er_ (hQ J J (h.1 c)))))))))))) (fun c=>gy_ J (f_ H6 (gy_ J (l_ J B4099 J J (gy_ J (f_ H2 (gy_ J (l_ J B0 J J (gy_ J (b_ J J neq_ (z_ 2 J (em_ (g:=62) J (fun e=>z_ 23 J (gt_ J (gt_ J (z_ 12 J (e_ (ct_ J (q_ J (m_ (m_ (er_ (hQ J J ((h.2 c).1 e)))))))))))) (fun e=>gy_ J (f_ H6 (gy_ J (l_ J B4099 J J (gy_ J (f_ H2 (gy_ J (l_ J B0 J J (gy_ J (b_ J J sne_ (z_ 2 J (em_ (g:=69) J (fun i=>z_ 16 J (gt_ J (gt_ J (z_ 12 J (e_ (ct_ J (q_ J (m_ (m_ (er_ (hQ J J (((h.2 c).2 e).1 i)))))))))))) (fun i=>gy_ J (f_ H2 (gy_ J (l_ J B0 J J (gy_ J (ln_ J (gy_ J (b_ J J gtr_ (z_ 2 J (em_ (g:=75) J (fun j=>z_ 10 J (gt_ J (gt_ J (z_ 12 J (e_ (ct_ J (q_ J (m_ (m_ (er_ (hQ J J ((((h.2 c).2 e).2 i).1 j)))))))))))) (fun j=>gy_ J (f_ H6 (gy_ J (l_ J B4099 J J (gy_ J (f_ H2 (gy_ J (l_ J B0 J J (gy_ J (s_bne J J (z_ 2 J (em_ (g:=82) J (fun k=>z_ 3 J (gt_ J (gt_ J (z_ 12 J (e_ (ct_ J (q_ J (m_ (m_ (er_ (hQ J J (((((h.2 c).2 e).2 i).2 j).1 k)))))))))))) (fun k=>gy_ J (f_ H2 (gy_ J (l_ J B0 J J (gy_ J (s_mvB J (eb_ (g:=85) J (fun o=>gy_ J (s_mvI H9 (gy_ J (b_ J J gtr_ (gy_ J (z_ 3 J (em_ (g:=90) J (fun p=>z_ 9 J (e_ (ct_ J (q_ J (m_ (m_ (er_ (hQ J J (((((((h.2 c).2 e).2 i).2 j).2 k).1 o).1 p))))))))) (fun p=>gy_ J (s_mvI H9 (gy_ J (s_mvI H7 (gy_ J (b_ J J gtr_ (z_ 2 J (em_ (g:=95) J (fun r=>z_ 4 J (e_ (ct_ J (q_ J (m_ (m_ (er_ (hQ J J ((((((((h.2 c).2 e).2 i).2 j).2 k).1 o).2 p).1 r))))))))) (fun r=>gy_ J (s_mvI H9 (gy_ J (s_mvI H8 (gy_ J (b_ J J lss_ (pf_ J J (e_ (cs_ J (fun u=>q_ J (m_ (m_ (er_ (hQ J J (((((((((h.2 c).2 e).2 i).2 j).2 k).1 o).2 p).2 r).1 u)))))) (fun u=>sk_ (q_ J (m_ (e_ (sq_ (q_ J (f_ H2 (l_ J B0 J J (ll_ J (m_ (e_ (bk_ ((((((((((h.2 c).2 e).2 i).2 j).2 k).1 o).2 p).2 r).2 u) (I109_0 prog d Q nest1 m0.list (m0.list.length:Int)) (fun _ _ hb _ _ _ H1 H10 H101 H102 H103=>W.loop (w109_5 hQ (fun _ _ x=>x) H1 H10 H101 H102 H103 hb)) _ _ _ H1 J J J J))))))))))))))))))))))))))))))))))))) (fun o=>z_ 2 J (gy_ J (z_ 3 J (gy_ J (s_mvI H9 (gy_ J (s_mvI H7 (gy_ J (b_ J J gtr_ (z_ 2 J (em_ (g:=95) J (fun q=>z_ 4 J (e_ (ct_ J (q_ J (m_ (m_ (er_ (hQ J J (((((((h.2 c).2 e).2 i).2 j).2 k).2 o).1 q))))))))) (fun q=>gy_ J (s_mvI H9 (gy_ J (s_mvI H8 (gy_ J (b_ J J lss_ (pf_ J J (e_ (cs_ J (fun s=>q_ J (m_ (m_ (er_ (hQ J J ((((((((h.2 c).2 e).2 i).2 j).2 k).2 o).2 q).1 s)))))) (fun s=>sk_ (q_ J (m_ (e_ (sq_ (q_ J (f_ H2 (l_ J B0 J J (ll_ J (m_ (e_ (bk_ (((((((((h.2 c).2 e).2 i).2 j).2 k).2 o).2 q).2 s) (I109_0 prog d Q nest1 m0.list (m0.list.length:Int)) (fun _ _ hb _ _ _ H1 H10 H101 H102 H103=>W.loop (w109_5 hQ (fun _ _ x=>x) H1 H10 H101 H102 H103 hb)) _ _ _ H1 J J J J)))))))))))))))))))))))))))))))))))))))))))))))))))))))))))))))))))))))))))))))))))))))))))
include H1 H2 H6 H7 H8 Ab4099 B0 B4099 in
theorem w109_3 (h:T109_3 prog K nest1 most7 least8 m0 m4099):W prog d c109_3 σ st Q:=
 q_ J (f_ H2 (l_ J B0 J J (ll_ J (m_ (e_ (w109_4 hQ H1 H2 H6 H7 H8 J Ab4099 B0 B4099 h))))))
include H1 H2 H6 H7 H8 Ab4099 B0 B4099 in
theorem w109_2 (h:T109_2 prog K nest1 most7 least8 m0 m4099):W prog d c109_4 σ st Q:=
 sq_ (q_ J (f_ H2 (l_ J B0 J J (e_ (bk_ (q_ J (b_ J J eql_ (m_ (e_ (cs_ J (fun c=>W.reg0 J fun _ _=>f_ H2 (l_ J B0 J J (b_ J J (abin_and _ _ _) (f_ H6 (so_ J B4099 J J J (e_ (w109_3 (m4099:=(Val.mk m4099.kind (bAnd .i64 m0.int 1) m4099.text m4099.list m4099.cut)) hQ H1 H2 H6 H7 H8 Ab4099 (lk_other J B0) lk_here (h.1 c)))))))) (fun c=>q_ J (b_ J J eql_ (m_ (e_ (cs_ J (fun e=>W.reg0 J fun _ _=>f_ H2 (l_ J B0 J J (f_ H6 (so_ J B4099 J J J (e_ (w109_3 (m4099:=(Val.mk m4099.kind m0.int m4099.text m4099.list m4099.cut)) hQ H1 H2 H6 H7 H8 Ab4099 (lk_other J B0) lk_here ((h.2 c).1 e))))))) (fun e=>q_ J (b_ J J eql_ (m_ (e_ (cs_ J (fun i=>W.reg0 J fun _ _=>f_ H2 (l_ J B0 J J (f_ H6 (so_ J B4099 J J J (e_ (w109_3 (m4099:=(Val.mk m4099.kind m4099.int m0.text m4099.list m4099.cut)) hQ H1 H2 H6 H7 H8 Ab4099 (lk_other J B0) lk_here (((h.2 c).2 e).1 i))))))) (fun i=>q_ J (b_ J J eql_ (m_ (e_ (cs_ J (fun j=>W.reg0 J fun _ _=>f_ H2 (l_ J B0 J J (f_ H6 (so_ J B4099 J J J (m_ (e_ (w109_3 (m4099:=(Val.mk m4099.kind m4099.int m4099.text m4099.list m0.cut)) hQ H1 H2 H6 J H8 Ab4099 (lk_other J B0) lk_here ((((h.2 c).2 e).2 i).1 j)))))))) (fun j=>q_ J (b_ J J eql_ (m_ (e_ (cs_ J (fun k=>W.reg0 J fun _ _=>m_ (e_ (w109_3 hQ H1 H2 H6 J H8 Ab4099 B0 B4099 (((((h.2 c).2 e).2 i).2 j).1 k)))) (fun k=>q_ J (b_ J J eql_ (m_ (e_ (cs_ J (fun o=>W.reg0 J fun _ _=>m_ (m_ (e_ (w109_3 hQ H1 H2 H6 J J Ab4099 B0 B4099 ((((((h.2 c).2 e).2 i).2 j).2 k).1 o))))) (fun o=>q_ J (b_ J J eql_ (m_ (e_ (cs_ J (fun p=>W.reg0 J fun _ _=>f_ H2 (l_ J B0 J J (f_ H6 (so_ J B4099 J J J (m_ (e_ (w109_3 (m4099:=(Val.mk m4099.kind m4099.int m4099.text m4099.list m0.cut)) hQ H1 H2 H6 J H8 Ab4099 (lk_other J B0) lk_here (((((((h.2 c).2 e).2 i).2 j).2 k).2 o).1 p)))))))) (fun p=>q_ J (m_ (m_ (er_ (hQ J J (((((((h.2 c).2 e).2 i).2 j).2 k).2 o).2 p))))))))))))))))))))))))))))))))))))))))))))))
include H1 H2 B0 in
theorem w109_1 (h:T109_1 prog K nest1 m0):W prog d c109_5 σ st Q:=
 sq_ (W.reg (f_ H2 (l_ J (lk_other J B0) J J (s_build (f_cons J J f_nil) (s_alloc (so_ J (show lk _ (d,4099)=some (_,([.i .u8 0,.i .i64 0,.s [],.sl .full (List.map Val.row ([]:List Val)),.b false]:List AV)) from lk_here) J J J (m_ (m_ (e_ (w109_2 (m4099:=(Val.mk m0.kind 0 [] ([]:List Val) false)) hQ H1 H2 J J J ApM.full (lk_other J (lk_other J B0)) lk_here h))))))))))
theorem w109_0 {v0:Val}{nest1:Int}(H0:σ 0=v0.av)(H1:σ 1=.i .i64 nest1)(h:T109_0 prog K v0 nest1):W prog d (sR 0 r109_0 c109_5) σ st Q:=
 q_ J (s_box H0 J (m_ (m_ (e_ (w109_1 hQ H1 J lk_here h)))))
end
theorem p109 {prog:Prog}(hf:prog.fn 109=some pf109){v0:Val}{nest1:Int}{K:Int→Bool→Prop}(h:T109_0 prog K v0 nest1) :∃res0:Int,∃res1:Bool,K res0 res1∧Pus prog 109 [v0.av,.i .i64 nest1] (.tup [.i .i64 res0,.b res1]):=
 P2 hf J (w109_0 (h2 J fun _ _=>J) J J h)
def r110_0:List AI:=[oY 2 5 0,oC 4 (.b false)]
def r110_1:List AI:=[oM 7 1,oV 8 .eql 7 0]
def r110_2:List AI:=[oC 4 (.b false)]
def r110_3:List AI:=[oF 9 0 2,oL 10 9]
def r110_4:List AI:=[oW 12 .eql 10 1,oM 11 12]
def r110_5:List AI:=[oK 13 5 2,oQ 14 136 [13],oM 15 14,gT 15 (oF 16 2 2),gT 15 (oL 17 16),gT 15 (oB 18 .eql (.t 17) (.c (.s []))),oA 19 15 18,oM 20 19,gT 20 (oF 21 1 2),gT 20 (oL 22 21),gT 20 (oV 23 .eql 22 0),gT 20 (oM 24 23),gF 24 (oF 25 1 2),gF 24 (oL 26 25),gF 24 (oV 27 .eql 26 1),gT 20 (oR 28 24 27),oA 29 20 28,oM 4 29]
def r110_6:List AI:=[oW 31 .eql 10 2,oM 30 31]
def r110_7:List AI:=[oK 32 5 2,oQ 33 136 [32],oM 34 33,gT 34 (oF 35 2 2),gT 34 (oL 36 35),gT 34 (oB 37 .eql (.t 36) (.c (.s []))),oA 38 34 37,oM 4 38]
def r110_8:List AI:=[oW 40 .eql 10 3,oM 39 40]
def r110_9:List AI:=[oK 41 5 2,oQ 42 136 [41],oM 43 42,gT 43 (oF 44 1 2),gT 43 (oL 45 44),gT 43 (oV 46 .eql 45 0),oA 47 43 46,oM 48 47,gT 48 (oF 49 2 2),gT 48 (oL 50 49),gT 48 (oH 51 50),gT 48 (oV 52 .leq 51 64),oA 53 48 52,oM 4 53]
def r110_10:List AI:=[oF 54 0 2,oL 55 54,oW 56 .lss 55 4,oM 57 56,gF 57 (oF 58 0 2),gF 57 (oL 59 58),gF 57 (oW 60 .gtr 59 7),oR 61 57 60,oM 62 61,gF 62 (oF 63 1 2),gF 62 (oL 64 63),gF 62 (oV 65 .neq 64 0),oR 66 62 65,oM 67 66,gF 67 (oF 68 2 2),gF 67 (oL 69 68),gF 67 (oB 70 .neq (.t 69) (.c (.s []))),oR 71 67 70]
def r110_11:List AI:=[oC 4 (.b false)]
def r110_12:List AI:=[oI 5 16]
def r110_13:List AI:=[oF 72 0 2,oL 73 72,oW 74 .eql 73 4]
def r110_14:List AI:=[oI 5 1]
def r110_15:List AI:=[oF 75 0 2,oL 76 75,oW 77 .eql 76 5]
def r110_16:List AI:=[oI 5 8]
def r110_17:List AI:=[oF 78 3 2,oL 79 78,oJ 80 79,oM 81 5,oT 82 .gtr 80 81,oM 83 82,gF 83 (oF 84 0 2),gF 83 (oL 85 84),gF 83 (oW 86 .eql 85 6),gF 83 (oM 87 86),gT 87 (oF 88 3 2),gT 87 (oL 89 88),gT 87 (oJ 90 89),gT 87 (oV 91 .eql 90 0),gF 83 (oA 92 87 91),oR 93 83 92]
def r110_18:List AI:=[oC 4 (.b false)]
def r110_19:List AI:=[oF 94 4 2,oL 95 94,oM 96 95,gT 96 (oF 97 3 2),gT 96 (oL 98 97),gT 96 (oJ 99 98),gT 96 (oV 100 .gtr 99 0),gT 96 (oM 101 100),gF 101 (oF 102 0 2),gF 101 (oL 103 102),gF 101 (oW 104 .neq 103 4),gF 101 (oM 105 104),gT 105 (oF 106 0 2),gT 105 (oL 107 106),gT 105 (oW 108 .neq 107 7),gF 101 (oA 109 105 108),gT 96 (oR 110 101 109),oA 111 96 110]
def r110_20:List AI:=[oC 4 (.b false)]
def r110_21:List AI:=[oI 6 0]
def r110_22:List AI:=[oM 112 6,oF 113 3 2,oL 114 113,oJ 115 114,oT 116 .lss 112 115]
def r110_23:List AI:=[oF 119 3 2,oL 120 119,oM 121 6,oX 122 5 120 121,oK 123 5 122,oM 124 1,oV 125 .sub 124 1,oQ 126 110 [123,125],oZ 127 126]
def r110_24:List AI:=[oC 4 (.b false)]
def r110_25:List AI:=[oM 117 6,oV 118 .add 117 1,oM 6 118]
def r110_26:List AI:=[oC 4 (.b true)]
abbrev l110_0:AC:=(.seq (sR 22 r110_22 (.cond (.t 116) .skip (.exit 1))) (.seq (.block 2 (sR 24 r110_23 (.cond (.t 127) (sR 25 r110_24 .ret) .skip))) (.reg 23 r110_25)))
abbrev c110_1:AC:=(sR 26 r110_26 .ret)
abbrev c110_2:AC:=(.seq (sR 17 r110_17 (.cond (.t 93) (sR 18 r110_18 .ret) .skip)) (.seq (sR 19 r110_19 (.cond (.t 111) (sR 20 r110_20 .ret) .skip)) (.seq (sR 21 r110_21 (.block 1 (.loop l110_0))) c110_1)))
abbrev c110_3:AC:=(.seq (sR 15 r110_15 (.cond (.t 77) (.reg 16 r110_16) .skip)) c110_2)
abbrev c110_4:AC:=(.seq (sR 13 r110_13 (.cond (.t 74) (.reg 14 r110_14) .skip)) c110_3)
abbrev c110_5:AC:=(sR 12 r110_12 c110_4)
abbrev c110_6:AC:=(.seq (sR 10 r110_10 (.cond (.t 71) (sR 11 r110_11 .ret) .skip)) c110_5)
abbrev c110_7:AC:=(.seq (sR 3 r110_3 (.block 0 (sR 4 r110_4 (.cond (.t 11) (sR 5 r110_5 .ret) (sR 6 r110_6 (.cond (.t 30) (sR 7 r110_7 .ret) (sR 8 r110_8 (.cond (.t 39) (sR 9 r110_9 .ret) .skip)))))))) c110_6)
abbrev c110_8:AC:=(.seq (sR 1 r110_1 (.cond (.t 8) (sR 2 r110_2 .ret) .skip)) c110_7)
abbrev b110:AC:=(sR 0 r110_0 c110_8)
def pf110:AF:={ nt:=128,res:=[.tmp 4],body:=b110 }
abbrev I110_0 (prog:Prog)(d:Nat)(Q:AE→Sl→St→Prop)(deep1:Int)(i6:Int)(m0:Val):Prop:=
  ∀(σ:Sl)(st:St)(v0:Nat),σ 1=.i .i64 deep1→σ 2=.p (d,0) v0 0→σ 6=.i .i64 i6→lk st.bx (d,0)=some (v0,[.i .u8 m0.kind,.i .i64 m0.int,.s m0.text,.sl .ext (List.map Val.row m0.list),.b m0.cut])→W prog d (.loop l110_0) σ st (blockW 1 (thenW prog d c110_1 Q))
def T110_9 (prog:Prog)(K:Bool→Prop) :Prop:=
  K true
def T110_8 (prog:Prog)(K:Bool→Prop)(P0:Int→Val→Prop)(deep1:Int)(i6:Int)(m0:Val):Prop:=
  (i6<(m0.list.length:Int)→0≤i6∧∃e:Val,m0.list[(i6).toNat]?=some e∧∃c,Pus prog 110 [e.av,.i .i64 (IntKind.i64.wrap (deep1-1))] (.b c)∧((!c)=true→K false)∧((!c)=false→P0 (IntKind.i64.wrap (i6+1)) m0))∧(¬(i6<(m0.list.length:Int))→T110_9 prog K )
def T110_7 (prog:Prog)(K:Bool→Prop)(deep1:Int)(most5:Int)(m0:Val):Prop:=
  ((m0.list.length:Int)>most5→K false)∧(¬((m0.list.length:Int)>most5)→(m0.kind=6→((m0.list.length:Int)=0→K false)∧(¬((m0.list.length:Int)=0)→(m0.cut=true→((m0.list.length:Int)>0→K false)∧(¬((m0.list.length:Int)>0)→(m0.kind≠4→(m0.kind≠7→K false)∧(¬(m0.kind≠7)→∀P0:Int→Val→Prop,(∀(i6:Int)(m0:Val),T110_8 prog K P0 deep1 i6 m0→P0 i6 m0)→P0 0 m0))∧(¬(m0.kind≠4)→∀P0:Int→Val→Prop,(∀(i6:Int)(m0:Val),T110_8 prog K P0 deep1 i6 m0→P0 i6 m0)→P0 0 m0)))∧(m0.cut=false→∀P0:Int→Val→Prop,(∀(i6:Int)(m0:Val),T110_8 prog K P0 deep1 i6 m0→P0 i6 m0)→P0 0 m0)))∧(¬(m0.kind=6)→(m0.cut=true→((m0.list.length:Int)>0→K false)∧(¬((m0.list.length:Int)>0)→(m0.kind≠4→(m0.kind≠7→K false)∧(¬(m0.kind≠7)→∀P0:Int→Val→Prop,(∀(i6:Int)(m0:Val),T110_8 prog K P0 deep1 i6 m0→P0 i6 m0)→P0 0 m0))∧(¬(m0.kind≠4)→∀P0:Int→Val→Prop,(∀(i6:Int)(m0:Val),T110_8 prog K P0 deep1 i6 m0→P0 i6 m0)→P0 0 m0)))∧(m0.cut=false→∀P0:Int→Val→Prop,(∀(i6:Int)(m0:Val),T110_8 prog K P0 deep1 i6 m0→P0 i6 m0)→P0 0 m0)))
def T110_6 (prog:Prog)(K:Bool→Prop)(deep1:Int)(most5:Int)(m0:Val):Prop:=
  (m0.kind=5→T110_7 prog K deep1 8 m0)∧(¬(m0.kind=5)→T110_7 prog K deep1 most5 m0)
def T110_5 (prog:Prog)(K:Bool→Prop)(deep1:Int)(most5:Int)(m0:Val):Prop:=
  (m0.kind=4→T110_6 prog K deep1 1 m0)∧(¬(m0.kind=4)→T110_6 prog K deep1 most5 m0)
def T110_4 (prog:Prog)(K:Bool→Prop)(deep1:Int)(m0:Val):Prop:=
  T110_5 prog K deep1 16 m0
def T110_3 (prog:Prog)(K:Bool→Prop)(deep1:Int)(m0:Val):Prop:=
  (m0.kind<4→K false)∧(¬(m0.kind<4)→(m0.kind>7→K false)∧(¬(m0.kind>7)→(m0.int≠0→K false)∧(¬(m0.int≠0)→(m0.text≠([]:BS)→K false)∧(¬(m0.text≠([]:BS))→T110_4 prog K deep1 m0))))
def T110_2 (prog:Prog)(K:Bool→Prop)(deep1:Int)(m0:Val):Prop:=
  (m0.kind=1→∃c,Pus prog 136 [m0.av] (.b c)∧(c=true→(m0.text=([]:BS)→(m0.int=0→K true)∧(¬(m0.int=0)→K (decide (m0.int=1))))∧(¬(m0.text=([]:BS))→K false))∧(c=false→K false))∧(¬(m0.kind=1)→(m0.kind=2→∃i,Pus prog 136 [m0.av] (.b i)∧(i=true→K (decide (m0.text=([]:BS))))∧(i=false→K false))∧(¬(m0.kind=2)→(m0.kind=3→∃e,Pus prog 136 [m0.av] (.b e)∧(e=true→(m0.int=0→K (decide ((m0.text.length:Int)≤64)))∧(¬(m0.int=0)→K false))∧(e=false→K false))∧(¬(m0.kind=3)→T110_3 prog K deep1 m0)))
def T110_1 (prog:Prog)(K:Bool→Prop)(deep1:Int)(m0:Val):Prop:=
  (deep1=0→K false)∧(¬(deep1=0)→T110_2 prog K deep1 m0)
def T110_0 (prog:Prog)(K:Bool→Prop)(v0:Val)(deep1:Int):Prop:=
  T110_1 prog K deep1 v0
section
variable {prog:Prog}{d:Nat}{Q:AE→Sl→St→Prop}{K:Bool→Prop}(hQ:H1 AV.b 4 Q K){σ:Sl}{st:St}
include hQ
variable {deep1 i6:Int}{m0:Val}{P0:Int→Val→Prop}{v0:Nat}{most5:Int}
variable (kP0 :∀(i6:Int)(m0:Val),P0 i6 m0→I110_0 prog d Q deep1 i6 m0)(H1:σ 1=.i .i64 deep1)(H2:σ 2=.p (d,0) v0 0)(H6:σ 6=.i .i64 i6)(H5:σ 5=.i .i64 most5)(B0:lk st.bx (d,0)=some (v0,[.i .u8 m0.kind,.i .i64 m0.int,.s m0.text,.sl .ext (List.map Val.row m0.list),.b m0.cut]))
theorem w110_9 (h:T110_9 prog K ):W prog d c110_1 σ st Q:=
 q_ J (m_ (er_ (hQ J h)))
include kP0 H1 H2 H6 B0 in
theorem w110_8 (h:T110_8 prog K P0 deep1 i6 m0):W prog d l110_0 σ st (thenW prog d (.loop l110_0) (blockW 1 (thenW prog d c110_1 Q))):=
 sq_ (q_ J (m_ (f_ H2 (l_ J B0 J J (ll_ J (b_ H6 J lss_ (e_ (cs_ J (fun c=>sk_ (sq_ (bk_ (q_ J (f_ H2 (l_ J B0 J J (m_ ((h.1 c).2.elim fun k j=>ia_ J H6 (h.1 c).1 j.1 (Val.row_eq k) J (lf_ J J J (m_ (b_ H1 J sub_ (j.2.elim fun _ e=>ca_ (sc2 J J J) e.1 (nt_ J (e_ (cb_ J (fun i=>q_ J (m_ (er_ (hQ J (e.2.1 i))))) (fun i=>sk_ (W.reg0 J fun _ _=>m_ (b_ H6 J add_ (m_ (e_ (kP0 _ _ (e.2.2 i) _ _ _ H1 H2 J B0))))))))))))))))))))) (fun c=>ex_ (w110_9 hQ (h.2 c)))))))))))
include H1 H2 H5 B0 in
theorem w110_7 (h:T110_7 prog K deep1 most5 m0):W prog d c110_2 σ st Q:=
 sq_ (q_ J (f_ H2 (l_ J B0 J J (ll_ J (s_mvI H5 (b_ J J gtr_ (s_mvB J (em_ (g:=83) J (fun c=>z_ 4 J (gt_ J (gt_ J (gt_ J (gt_ J (z_ 2 J (e_ (ct_ J (q_ J (m_ (er_ (hQ J (h.1 c))))))))))))) (fun c=>gy_ J (f_ H2 (gy_ J (l_ J B0 J J (gy_ J (b_ J J eql_ (gy_ J (s_mvB J (em_ (g:=87) J (fun e=>gy_ J (f_ H2 (gy_ J (l_ J B0 J J (gy_ J (ll_ J (gy_ J (b_ J J eql_ (gy_ J (z_ 2 J (e_ (cs_ J (fun i=>q_ J (m_ (er_ (hQ J (((h.2 c).1 e).1 i))))) (fun i=>sk_ (sq_ (q_ J (f_ H2 (l_ J B0 J J (s_mvB J (eb_ (g:=96) J (fun j=>gy_ J (f_ H2 (gy_ J (l_ J B0 J J (gy_ J (ll_ J (gy_ J (b_ J J gtr_ (gy_ J (s_mvB J (em_ (g:=101) J (fun o=>z_ 4 J (gt_ J (gt_ J (gt_ J (nT J (gy_ J (z_ 2 J (e_ (ct_ J (q_ J (m_ (er_ (hQ J (((((h.2 c).1 e).2 i).1 j).1 o)))))))))))))) (fun o=>gy_ J (f_ H2 (gy_ J (l_ J B0 J J (gy_ J (b_ J J neq_ (gy_ J (s_mvB J (em_ (g:=105) J (fun r=>gy_ J (f_ H2 (gy_ J (l_ J B0 J J (gy_ J (b_ J J neq_ (gy_ J (pt_ J J (gy_ J (z_ 2 J (e_ (cs_ J (fun u=>q_ J (m_ (er_ (hQ J (((((((h.2 c).1 e).2 i).1 j).2 o).1 r).1 u))))) (fun u=>sk_ (sq_ (q_ J (m_ (e_ (bk_ ((((((((h.2 c).1 e).2 i).1 j).2 o).1 r).2 u) (I110_0 prog d Q deep1) (fun _ _ hb _ _ _ H1 H2 H6 B0=>W.loop (w110_8 hQ (fun _ _ x=>x) H1 H2 H6 B0 hb)) _ _ _ H1 H2 J B0))))))))))))))))))) (fun r=>z_ 3 J (gy_ J (pf_ J J (gy_ J (z_ 2 J (e_ (cf_ J (sk_ (sq_ (q_ J (m_ (e_ (bk_ (((((((h.2 c).1 e).2 i).1 j).2 o).2 r) (I110_0 prog d Q deep1) (fun _ _ hb _ _ _ H1 H2 H6 B0=>W.loop (w110_8 hQ (fun _ _ x=>x) H1 H2 H6 B0 hb)) _ _ _ H1 H2 J B0)))))))))))))))))))))))))))))))))) (fun j=>z_ 5 J (gt_ J (gt_ J (gt_ J (gt_ J (gt_ J (gt_ J (gt_ J (gt_ J (z_ 2 J (e_ (cf_ J (sk_ (sq_ (q_ J (m_ (e_ (bk_ (((((h.2 c).1 e).2 i).2 j) (I110_0 prog d Q deep1) (fun _ _ hb _ _ _ H1 H2 H6 B0=>W.loop (w110_8 hQ (fun _ _ x=>x) H1 H2 H6 B0 hb)) _ _ _ H1 H2 J B0)))))))))))))))))))))))))))))))))))))) (fun e=>z_ 4 J (gy_ J (z_ 2 J (e_ (cf_ J (sk_ (sq_ (q_ J (f_ H2 (l_ J B0 J J (s_mvB J (eb_ (g:=96) J (fun k=>gy_ J (f_ H2 (gy_ J (l_ J B0 J J (gy_ J (ll_ J (gy_ J (b_ J J gtr_ (gy_ J (s_mvB J (em_ (g:=101) J (fun p=>z_ 4 J (gt_ J (gt_ J (gt_ J (nT J (gy_ J (z_ 2 J (e_ (ct_ J (q_ J (m_ (er_ (hQ J ((((h.2 c).2 e).1 k).1 p)))))))))))))) (fun p=>gy_ J (f_ H2 (gy_ J (l_ J B0 J J (gy_ J (b_ J J neq_ (gy_ J (s_mvB J (em_ (g:=105) J (fun q=>gy_ J (f_ H2 (gy_ J (l_ J B0 J J (gy_ J (b_ J J neq_ (gy_ J (pt_ J J (gy_ J (z_ 2 J (e_ (cs_ J (fun s=>q_ J (m_ (er_ (hQ J ((((((h.2 c).2 e).1 k).2 p).1 q).1 s))))) (fun s=>sk_ (sq_ (q_ J (m_ (e_ (bk_ (((((((h.2 c).2 e).1 k).2 p).1 q).2 s) (I110_0 prog d Q deep1) (fun _ _ hb _ _ _ H1 H2 H6 B0=>W.loop (w110_8 hQ (fun _ _ x=>x) H1 H2 H6 B0 hb)) _ _ _ H1 H2 J B0))))))))))))))))))) (fun q=>z_ 3 J (gy_ J (pf_ J J (gy_ J (z_ 2 J (e_ (cf_ J (sk_ (sq_ (q_ J (m_ (e_ (bk_ ((((((h.2 c).2 e).1 k).2 p).2 q) (I110_0 prog d Q deep1) (fun _ _ hb _ _ _ H1 H2 H6 B0=>W.loop (w110_8 hQ (fun _ _ x=>x) H1 H2 H6 B0 hb)) _ _ _ H1 H2 J B0)))))))))))))))))))))))))))))))))) (fun k=>z_ 5 J (gt_ J (gt_ J (gt_ J (gt_ J (gt_ J (gt_ J (gt_ J (gt_ J (z_ 2 J (e_ (cf_ J (sk_ (sq_ (q_ J (m_ (e_ (bk_ ((((h.2 c).2 e).2 k) (I110_0 prog d Q deep1) (fun _ _ hb _ _ _ H1 H2 H6 B0=>W.loop (w110_8 hQ (fun _ _ x=>x) H1 H2 H6 B0 hb)) _ _ _ H1 H2 J B0))))))))))))))))))))))))))))))))))))))))))))))))
include H1 H2 H5 B0 in
theorem w110_6 (h:T110_6 prog K deep1 most5 m0):W prog d c110_3 σ st Q:=
 sq_ (q_ J (f_ H2 (l_ J B0 J J (b_ J J eql_ (e_ (cs_ J (fun c=>W.reg0 J fun _ _=>m_ (e_ (w110_7 hQ H1 H2 J B0 (h.1 c)))) (fun c=>sk_ (w110_7 hQ H1 H2 H5 B0 (h.2 c)))))))))
include H1 H2 H5 B0 in
theorem w110_5 (h:T110_5 prog K deep1 most5 m0):W prog d c110_4 σ st Q:=
 sq_ (q_ J (f_ H2 (l_ J B0 J J (b_ J J eql_ (e_ (cs_ J (fun c=>W.reg0 J fun _ _=>m_ (e_ (w110_6 hQ H1 H2 J B0 (h.1 c)))) (fun c=>sk_ (w110_6 hQ H1 H2 H5 B0 (h.2 c)))))))))
include H1 H2 B0 in
theorem w110_4 (h:T110_4 prog K deep1 m0):W prog d c110_5 σ st Q:=
 q_ J (m_ (e_ (w110_5 hQ H1 H2 J B0 h)))
include H1 H2 B0 in
theorem w110_3 (h:T110_3 prog K deep1 m0):W prog d c110_6 σ st Q:=
 sq_ (q_ J (f_ H2 (l_ J B0 J J (b_ J J lss_ (s_mvB J (em_ (g:=57) J (fun c=>z_ 14 J (e_ (ct_ J (q_ J (m_ (er_ (hQ J (h.1 c)))))))) (fun c=>gy_ J (f_ H2 (gy_ J (l_ J B0 J J (gy_ J (b_ J J gtr_ (z_ 2 J (em_ (g:=62) J (fun e=>z_ 9 J (e_ (ct_ J (q_ J (m_ (er_ (hQ J ((h.2 c).1 e)))))))) (fun e=>gy_ J (f_ H2 (gy_ J (l_ J B0 J J (gy_ J (b_ J J neq_ (z_ 2 J (em_ (g:=67) J (fun i=>z_ 4 J (e_ (ct_ J (q_ J (m_ (er_ (hQ J (((h.2 c).2 e).1 i)))))))) (fun i=>gy_ J (f_ H2 (gy_ J (l_ J B0 J J (gy_ J (b_ J J sne_ (pf_ J J (e_ (cs_ J (fun j=>q_ J (m_ (er_ (hQ J ((((h.2 c).2 e).2 i).1 j))))) (fun j=>sk_ (w110_4 hQ H1 H2 B0 ((((h.2 c).2 e).2 i).2 j))))))))))))))))))))))))))))))))))
include H1 H2 B0 in
theorem w110_2 (h:T110_2 prog K deep1 m0):W prog d c110_7 σ st Q:=
 sq_ (q_ J (f_ H2 (l_ J B0 J J (e_ (bk_ (q_ J (b_ J J eql_ (m_ (e_ (cs_ J (fun e=>q_ J (l_ H2 B0 J J ((h.1 e).elim fun _ c=>ca_ (sc1 J J) c.1 (s_mvB J (eb_ (g:=15) J (fun i=>gy_ J (f_ H2 (gy_ J (l_ J B0 J J (gy_ J (b_ J J seq_ (z_ 2 J (em_ (g:=20) J (fun o=>gy_ J (f_ H2 (gy_ J (l_ J B0 J J (gy_ J (b_ J J eql_ (gy_ J (s_mvB J (em_ (g:=24) J (fun v=>z_ 3 J (gy_ J (z_ 3 J (er_ (hQ J (((c.2.1 i).1 o).1 v)))))) (fun v=>gy_ J (f_ H2 (gy_ J (l_ J B0 J J (gy_ J (b_ J J eql_ (gy_ J (z_ 3 J (er_ (hQ J (((c.2.1 i).1 o).2 v)))))))))))))))))))) (fun o=>z_ 4 J (gt_ J (gt_ J (gt_ J (z_ 3 J (er_ (hQ J ((c.2.1 i).2 o)))))))))))))))) (fun i=>z_ 9 J (gt_ J (gt_ J (gt_ J (z_ 3 J (er_ (hQ J (c.2.2 i))))))))))))) (fun e=>q_ J (b_ J J eql_ (m_ (e_ (cs_ J (fun p=>q_ J (l_ H2 B0 J J (((h.2 e).1 p).elim fun _ q=>ca_ (sc1 J J) q.1 (s_mvB J (eb_ (g:=34) J (fun r=>gy_ J (f_ H2 (gy_ J (l_ J B0 J J (gy_ J (b_ J J seq_ (z_ 2 J (er_ (hQ J (q.2.1 r)))))))))) (fun r=>z_ 5 J (er_ (hQ J (q.2.2 r))))))))) (fun p=>q_ J (b_ J J eql_ (m_ (e_ (cs_ J (fun s=>q_ J (l_ H2 B0 J J ((((h.2 e).2 p).1 s).elim fun _ j=>ca_ (sc1 J J) j.1 (s_mvB J (eb_ (g:=43) J (fun k=>gy_ J (f_ H2 (gy_ J (l_ J B0 J J (gy_ J (b_ J J eql_ (z_ 2 J (em_ (g:=48) J (fun u=>gy_ J (f_ H2 (gy_ J (l_ J B0 J J (gy_ J (ln_ J (gy_ J (b_ J J leq_ (z_ 2 J (er_ (hQ J ((j.2.1 k).1 u)))))))))))) (fun u=>z_ 6 J (er_ (hQ J ((j.2.1 k).2 u)))))))))))) (fun k=>z_ 11 J (er_ (hQ J (j.2.2 k))))))))) (fun s=>sk_ (w110_3 hQ H1 H2 B0 (((h.2 e).2 p).2 s)))))))))))))))))))))))
include H1 H2 B0 in
theorem w110_1 (h:T110_1 prog K deep1 m0):W prog d c110_8 σ st Q:=
 sq_ (q_ J (m_ (b_ H1 J eql_ (e_ (cs_ J (fun c=>q_ J (m_ (er_ (hQ J (h.1 c))))) (fun c=>sk_ (w110_2 hQ H1 H2 B0 (h.2 c))))))))
theorem w110_0 {v0:Val}{deep1:Int}(H0:σ 0=v0.av)(H1:σ 1=.i .i64 deep1)(h:T110_0 prog K v0 deep1):W prog d (sR 0 r110_0 c110_8) σ st Q:=
 q_ J (s_box H0 J (m_ (e_ (w110_1 hQ H1 J lk_here h))))
end
theorem p110 {prog:Prog}(hf:prog.fn 110=some pf110){v0:Val}{deep1:Int}{K:Bool→Prop}(h:T110_0 prog K v0 deep1) :∃res0:Bool,K res0∧Pus prog 110 [v0.av,.i .i64 deep1] (.b res0):=
 P1 hf J (w110_0 (h1 J fun _=>J) J J h)
abbrev H127 (Q:AE→Sl→St→Prop)(K:BS→Prop):Prop:=∀(σ:Sl)(st:St)(res0:BS),σ 2=.s res0→K res0→Q .ret σ st
section
variable {prog:Prog}{d:Nat}{Q:AE→Sl→St→Prop}{K:BS→Prop}(hQ:H127 Q K){σ:Sl}{st:St}
include hQ
end
def r136_0:List AI:=[oY 1 5 0,oC 2 (.b false)]
def r136_1:List AI:=[oF 3 3 1,oL 4 3,oJ 5 4,oV 6 .eql 5 0,oM 7 6,gT 7 (oF 8 4 1),gT 7 (oL 9 8),gT 7 (oZ 10 9),oA 11 7 10,oM 2 11]
abbrev b136:AC:=(sR 0 r136_0 (sR 1 r136_1 .ret))
def pf136:AF:={ nt:=12,res:=[.tmp 2],body:=b136 }
def T136_0 (prog:Prog)(K:Bool→Prop)(v0:Val):Prop:=
  ((v0.list.length:Int)=0→K (!v0.cut))∧(¬((v0.list.length:Int)=0)→K false)
section
variable {prog:Prog}{d:Nat}{Q:AE→Sl→St→Prop}{K:Bool→Prop}(hQ:H1 AV.b 2 Q K){σ:Sl}{st:St}
include hQ
variable {v0:Val}
variable (H0:σ 0=v0.av)
include H0 in
theorem w136_0 (h:T136_0 prog K v0):W prog d (sR 0 r136_0 (sR 1 r136_1 .ret)) σ st Q:=
 q_ J (s_box H0 J (m_ (e_ (q_ J (f_ J (l_ J lk_here J J (ll_ J (b_ J J eql_ (s_mvB J (em_ (g:=7) J (fun c=>gy_ J (f_ J (gy_ J (l_ J lk_here J J (gy_ J (nt_ J (z_ 2 J (er_ (hQ J (h.1 c)))))))))) (fun c=>z_ 5 J (er_ (hQ J (h.2 c))))))))))))))
end
theorem p136 {prog:Prog}(hf:prog.fn 136=some pf136){v0:Val}{K:Bool→Prop}(h:T136_0 prog K v0) :∃res0:Bool,K res0∧Pus prog 136 [v0.av] (.b res0):=
 P1 hf J (w136_0 (h1 J fun _=>J) J h)
end Go.AM

/- Parts of the proof. -/
namespace Go.AM
open Go
set_option linter.unusedVariables false
set_option linter.unusedSimpArgs false
set_option maxRecDepth 4000
attribute [local irreducible] WO fillCells fillRows
abbrev H128 (d:Nat)(st0:St)(kp:Key)(vp:Nat)(Q:AE→Sl→St→Prop)(K:Bool→Sc→Prop):Prop:=∀(σ:Sl)(st:St)(res0:Bool)(b_:Sc),σ 4=.b res0→lk st.bx kp=some (vp,[.s b_.left])→Fr d kp st0.bx st0.ow st.bx st.ow→K res0 b_→Q .ret σ st
section
variable {prog:Prog}{d:Nat}{Q:AE→Sl→St→Prop}{K:Bool→Sc→Prop}{st0:St}{kp:Key}{vp:Nat}(hQ:H128 d st0 kp vp Q K)(hkp:kp.1<d){σ:Sl}{st:St}
include hQ hkp
end
abbrev H129 (d:Nat)(st0:St)(kp:Key)(vp:Nat)(Q:AE→Sl→St→Prop)(K:Val→Bool→Sc→Prop):Prop:=∀(σ:Sl)(st:St)(k0:Key)(v0:Nat)(o0_0:Own)(res0:Val)(res1:Bool)(b_:Sc),σ 8=.p k0 v0 0→lk st.bx k0=some (v0,[.i .u8 res0.kind,.i .i64 res0.int,.s res0.text,.sl o0_0 (List.map Val.row res0.list),.b res0.cut])→σ 9=.b res1→lk st.bx kp=some (vp,[.s b_.left])→Fr d kp st0.bx st0.ow st.bx st.ow→K res0 res1 b_→Q .ret σ st
section
variable {prog:Prog}{d:Nat}{Q:AE→Sl→St→Prop}{K:Val→Bool→Sc→Prop}{st0:St}{kp:Key}{vp:Nat}(hQ:H129 d st0 kp vp Q K)(hkp:kp.1<d){σ:Sl}{st:St}
include hQ hkp
end
abbrev H107 (d:Nat)(st0:St)(kp:Key)(vp:Nat)(Q:AE→Sl→St→Prop)(K:Val→Bool→Sc→Prop):Prop:=∀(σ:Sl)(st:St)(k0:Key)(v0:Nat)(o0_0:Own)(res0:Val)(res1:Bool)(b_:Sc),σ 4=.p k0 v0 0→lk st.bx k0=some (v0,[.i .u8 res0.kind,.i .i64 res0.int,.s res0.text,.sl o0_0 (List.map Val.row res0.list),.b res0.cut])→σ 5=.b res1→lk st.bx kp=some (vp,[.s b_.left])→Fr d kp st0.bx st0.ow st.bx st.ow→K res0 res1 b_→Q .ret σ st
section
variable {prog:Prog}{d:Nat}{Q:AE→Sl→St→Prop}{K:Val→Bool→Sc→Prop}{st0:St}{kp:Key}{vp:Nat}(hQ:H107 d st0 kp vp Q K)(hkp:kp.1<d){σ:Sl}{st:St}
include hQ hkp
end
abbrev H74 (Q:AE→Sl→St→Prop)(K:Val→Int→Prop):Prop:=∀(σ:Sl)(st:St)(k0:Key)(v0:Nat)(o0_0:Own)(res0:Val)(res1:Int),σ 2=.p k0 v0 0→lk st.bx k0=some (v0,[.i .u8 res0.kind,.i .i64 res0.int,.s res0.text,.sl o0_0 (List.map Val.row res0.list),.b res0.cut])→σ 3=.i .i64 res1→K res0 res1→Q .ret σ st
section
variable {prog:Prog}{d:Nat}{Q:AE→Sl→St→Prop}{K:Val→Int→Prop}(hQ:H74 Q K){σ:Sl}{st:St}
include hQ
end
abbrev H75 (Q:AE→Sl→St→Prop)(K:Val→Int→Prop):Prop:=∀(σ:Sl)(st:St)(k0:Key)(v0:Nat)(o0_0:Own)(res0:Val)(res1:Int),σ 2=.p k0 v0 0→lk st.bx k0=some (v0,[.i .u8 res0.kind,.i .i64 res0.int,.s res0.text,.sl o0_0 (List.map Val.row res0.list),.b res0.cut])→σ 3=.i .i64 res1→K res0 res1→Q .ret σ st
section
variable {prog:Prog}{d:Nat}{Q:AE→Sl→St→Prop}{K:Val→Int→Prop}(hQ:H75 Q K){σ:Sl}{st:St}
include hQ
end
abbrev H108 (Q:AE→Sl→St→Prop)(K:Val→BS→Bool→Prop):Prop:=∀(σ:Sl)(st:St)(k0:Key)(v0:Nat)(o0_0:Own)(res0:Val)(res1:BS)(res2:Bool),σ 4=.p k0 v0 0→lk st.bx k0=some (v0,[.i .u8 res0.kind,.i .i64 res0.int,.s res0.text,.sl o0_0 (List.map Val.row res0.list),.b res0.cut])→σ 5=.s res1→σ 6=.b res2→K res0 res1 res2→Q .ret σ st
section
variable {prog:Prog}{d:Nat}{Q:AE→Sl→St→Prop}{K:Val→BS→Bool→Prop}(hQ:H108 Q K){σ:Sl}{st:St}
include hQ
end
abbrev H132 (Q:AE→Sl→St→Prop)(K:Bool→Prop):Prop:=∀(σ:Sl)(st:St)(res0:Bool),σ 4=.b res0→K res0→Q .ret σ st
section
variable {prog:Prog}{d:Nat}{Q:AE→Sl→St→Prop}{K:Bool→Prop}(hQ:H132 Q K){σ:Sl}{st:St}
include hQ
end
abbrev H133 (Q:AE→Sl→St→Prop)(K:Val→BS→Bool→Prop):Prop:=∀(σ:Sl)(st:St)(k0:Key)(v0:Nat)(o0_0:Own)(res0:Val)(res1:BS)(res2:Bool),σ 8=.p k0 v0 0→lk st.bx k0=some (v0,[.i .u8 res0.kind,.i .i64 res0.int,.s res0.text,.sl o0_0 (List.map Val.row res0.list),.b res0.cut])→σ 9=.s res1→σ 10=.b res2→K res0 res1 res2→Q .ret σ st
section
variable {prog:Prog}{d:Nat}{Q:AE→Sl→St→Prop}{K:Val→BS→Bool→Prop}(hQ:H133 Q K){σ:Sl}{st:St}
include hQ
end
abbrev H134 (Q:AE→Sl→St→Prop)(K:Int→Prop):Prop:=∀(σ:Sl)(st:St)(res0:Int),σ 2=.i .i64 res0→K res0→Q .ret σ st
section
variable {prog:Prog}{d:Nat}{Q:AE→Sl→St→Prop}{K:Int→Prop}(hQ:H134 Q K){σ:Sl}{st:St}
include hQ
end
abbrev H135 (Q:AE→Sl→St→Prop)(K:Int→Prop):Prop:=∀(σ:Sl)(st:St)(res0:Int),σ 2=.i .i64 res0→K res0→Q .ret σ st
section
variable {prog:Prog}{d:Nat}{Q:AE→Sl→St→Prop}{K:Int→Prop}(hQ:H135 Q K){σ:Sl}{st:St}
include hQ
end
def r78_0:List AI:=[oY 2 5 0,oY 3 5 1,oC 4 (.b false)]
def r78_1:List AI:=[oF 6 0 2,oL 7 6,oF 8 0 3,oL 9 8,oT 10 .neq 7 9,oM 11 10,gF 11 (oF 12 1 2),gF 11 (oL 13 12),gF 11 (oF 14 1 3),gF 11 (oL 15 14),gF 11 (oT 16 .neq 13 15),oR 17 11 16,oM 18 17,gF 18 (oF 19 2 2),gF 18 (oL 20 19),gF 18 (oF 21 2 3),gF 18 (oL 22 21),gF 18 (oT 23 .neq 20 22),oR 24 18 23,oM 25 24,gF 25 (oF 26 4 2),gF 25 (oL 27 26),gF 25 (oF 28 4 3),gF 25 (oL 29 28),gF 25 (oO 30 (.beq true (.t 27) (.t 29))),oR 31 25 30,oM 32 31,gF 32 (oF 33 3 2),gF 32 (oL 34 33),gF 32 (oJ 35 34),gF 32 (oF 36 3 3),gF 32 (oL 37 36),gF 32 (oJ 38 37),gF 32 (oT 39 .neq 35 38),oR 40 32 39]
def r78_2:List AI:=[oC 4 (.b false)]
def r78_3:List AI:=[oI 5 0]
def r78_4:List AI:=[oM 41 5,oF 42 3 2,oL 43 42,oJ 44 43,oT 45 .lss 41 44]
def r78_5:List AI:=[oF 48 3 2,oL 49 48,oM 50 5,oX 51 5 49 50,oK 52 5 51,oF 53 3 3,oL 54 53,oM 55 5,oX 56 5 54 55,oK 57 5 56,oQ 58 78 [52,57],oZ 59 58]
def r78_6:List AI:=[oC 4 (.b false)]
def r78_7:List AI:=[oM 46 5,oV 47 .add 46 1,oM 5 47]
def r78_8:List AI:=[oC 4 (.b true)]
abbrev l78_0:AC:=(.seq (sR 4 r78_4 (.cond (.t 45) .skip (.exit 0))) (.seq (.block 1 (sR 6 r78_5 (.cond (.t 59) (sR 7 r78_6 .ret) .skip))) (.reg 5 r78_7)))
abbrev c78_1:AC:=(sR 8 r78_8 .ret)
abbrev b78:AC:=(sR 0 r78_0 (.seq (sR 1 r78_1 (.cond (.t 40) (sR 2 r78_2 .ret) .skip)) (.seq (sR 3 r78_3 (.block 0 (.loop l78_0))) c78_1)))
def pf78:AF:={ nt:=60,res:=[.tmp 4],body:=b78 }
abbrev I78_0 (prog:Prog)(d:Nat)(Q:AE→Sl→St→Prop)(i5:Int)(m0:Val)(m1:Val):Prop:=
  ∀(σ:Sl)(st:St) (v0 v1:Nat),σ 2=.p (d,0) v0 0→σ 3=.p (d,1) v1 0→σ 5=.i .i64 i5→lk st.bx (d,0)=some (v0,[.i .u8 m0.kind,.i .i64 m0.int,.s m0.text,.sl .ext (List.map Val.row m0.list),.b m0.cut])→lk st.bx (d,1)=some (v1,[.i .u8 m1.kind,.i .i64 m1.int,.s m1.text,.sl .ext (List.map Val.row m1.list),.b m1.cut])→W prog d (.loop l78_0) σ st (blockW 0 (thenW prog d c78_1 Q))
def T78_2 (prog:Prog)(K:Bool→Prop) :Prop:=
  K true
def T78_1 (prog:Prog)(K:Bool→Prop)(P0:Int→Val→Val→Prop)(i5:Int)(m0:Val)(m1:Val):Prop:=
  (i5<(m0.list.length:Int)→0≤i5∧∃i:Val,m0.list[(i5).toNat]?=some i∧0≤i5∧∃e:Val,m1.list[(i5).toNat]?=some e∧∃c,Pus prog 78 [i.av,e.av] (.b c)∧((!c)=true→K false)∧((!c)=false→P0 (IntKind.i64.wrap (i5+1)) m0 m1))∧(¬(i5<(m0.list.length:Int))→T78_2 prog K )
def T78_0 (prog:Prog)(K:Bool→Prop)(a0:Val)(b1:Val):Prop:=
  (a0.kind≠b1.kind→K false)∧(¬(a0.kind≠b1.kind)→(a0.int≠b1.int→K false)∧(¬(a0.int≠b1.int)→(a0.text≠b1.text→K false)∧(¬(a0.text≠b1.text)→(a0.cut≠b1.cut→K false)∧(¬(a0.cut≠b1.cut)→((a0.list.length:Int)≠(b1.list.length:Int)→K false)∧(¬((a0.list.length:Int)≠(b1.list.length:Int))→∀P0:Int→Val→Val→Prop,(∀(i5:Int)(m0:Val)(m1:Val),T78_1 prog K P0 i5 m0 m1→P0 i5 m0 m1)→P0 0 a0 b1)))))
section
variable {prog:Prog}{d:Nat}{Q:AE→Sl→St→Prop}{K:Bool→Prop}(hQ:H1 AV.b 4 Q K){σ:Sl}{st:St}
include hQ
variable {i5:Int}{m0 m1:Val}{P0:Int→Val→Val→Prop}{v0 v1:Nat}{a0 b1:Val}
variable (kP0 :∀(i5:Int)(m0:Val)(m1:Val),P0 i5 m0 m1→I78_0 prog d Q i5 m0 m1)(H0:σ 0=a0.av)(H2:σ 2=.p (d,0) v0 0)(H1:σ 1=b1.av)(H3:σ 3=.p (d,1) v1 0)(H5:σ 5=.i .i64 i5)(B0:lk st.bx (d,0)=some (v0,[.i .u8 m0.kind,.i .i64 m0.int,.s m0.text,.sl .ext (List.map Val.row m0.list),.b m0.cut]))(B1:lk st.bx (d,1)=some (v1,[.i .u8 m1.kind,.i .i64 m1.int,.s m1.text,.sl .ext (List.map Val.row m1.list),.b m1.cut]))
theorem w78_2 (h:T78_2 prog K ):W prog d c78_1 σ st Q:=
 q_ J (m_ (er_ (hQ J h)))
include kP0 H2 H3 H5 B0 B1 in
theorem w78_1 (h:T78_1 prog K P0 i5 m0 m1):W prog d l78_0 σ st (thenW prog d (.loop l78_0) (blockW 0 (thenW prog d c78_1 Q))):=
 sq_ (q_ J (m_ (f_ H2 (l_ J B0 J J (ll_ J (b_ H5 J lss_ (e_ (cs_ J (fun c=>sk_ (sq_ (bk_ (q_ J (f_ H2 (l_ J B0 J J (m_ ((h.1 c).2.elim fun o e=>ia_ J H5 (h.1 c).1 e.1 (Val.row_eq o) J (lf_ J J J (f_ H3 (l_ J B1 J J (m_ (e.2.2.elim fun p k=>ia_ J H5 e.2.1 k.1 (Val.row_eq p) J (lf_ J J J (k.2.elim fun _ i=>ca_ (sc2 J J J) i.1 (nt_ J (e_ (cb_ J (fun j=>q_ J (m_ (er_ (hQ J (i.2.1 j))))) (fun j=>sk_ (W.reg0 J fun _ _=>m_ (b_ H5 J add_ (m_ (e_ (kP0 _ _ _ (i.2.2 j) _ _ _ _ H2 H3 J B0 B1)))))))))))))))))))))))) (fun c=>ex_ (w78_2 hQ (h.2 c)))))))))))
include H0 H1 in
theorem w78_0 (h:T78_0 prog K a0 b1):W prog d (sR 0 r78_0 (.seq (sR 1 r78_1 (.cond (.t 40) (sR 2 r78_2 .ret) .skip)) (.seq (sR 3 r78_3 (.block 0 (.loop l78_0))) c78_1))) σ st Q:=
 q_ J (s_box H0 J (s_box H1 J (m_ (e_ (sq_ (q_ J (f_ J (l_ J (lk_other J lk_here) J J (f_ J (l_ J lk_here J J (b_ J J neq_ (s_mvB J (em_ (g:=11) J (fun c=>z_ 29 J (e_ (ct_ J (q_ J (m_ (er_ (hQ J (h.1 c)))))))) (fun c=>gy_ J (f_ J (gy_ J (l_ J (lk_other J lk_here) J J (gy_ J (f_ J (gy_ J (l_ J lk_here J J (gy_ J (b_ J J neq_ (z_ 2 J (em_ (g:=18) J (fun e=>z_ 22 J (e_ (ct_ J (q_ J (m_ (er_ (hQ J ((h.2 c).1 e)))))))) (fun e=>gy_ J (f_ J (gy_ J (l_ J (lk_other J lk_here) J J (gy_ J (f_ J (gy_ J (l_ J lk_here J J (gy_ J (b_ J J sne_ (z_ 2 J (em_ (g:=25) J (fun i=>z_ 15 J (e_ (ct_ J (q_ J (m_ (er_ (hQ J (((h.2 c).2 e).1 i)))))))) (fun i=>gy_ J (f_ J (gy_ J (l_ J (lk_other J lk_here) J J (gy_ J (f_ J (gy_ J (l_ J lk_here J J (gy_ J (s_bne J J (z_ 2 J (em_ (g:=32) J (fun j=>z_ 8 J (e_ (ct_ J (q_ J (m_ (er_ (hQ J ((((h.2 c).2 e).2 i).1 j)))))))) (fun j=>gy_ J (f_ J (gy_ J (l_ J (lk_other J lk_here) J J (gy_ J (ll_ J (gy_ J (f_ J (gy_ J (l_ J lk_here J J (gy_ J (ll_ J (gy_ J (b_ J J neq_ (pf_ J J (e_ (cs_ J (fun k=>q_ J (m_ (er_ (hQ J (((((h.2 c).2 e).2 i).2 j).1 k))))) (fun k=>sk_ (sq_ (q_ J (m_ (e_ (bk_ ((((((h.2 c).2 e).2 i).2 j).2 k) (I78_0 prog d Q ) (fun _ _ _ hb _ _ _ _ H2 H3 H5 B0 B1=>W.loop (w78_1 hQ (fun _ _ _ x=>x) H2 H3 H5 B0 B1 hb)) _ _ _ _ J J J (lk_other J lk_here) lk_here)))))))))))))))))))))))))))))))))))))))))))))))))))))))))))))))))))))))))
end
theorem p78 {prog:Prog}(hf:prog.fn 78=some pf78){a0:Val}{b1:Val}{K:Bool→Prop}(h:T78_0 prog K a0 b1) :∃res0:Bool,K res0∧Pus prog 78 [a0.av,b1.av] (.b res0):=
 P1 hf J (w78_0 (h1 J fun _=>J) J J h)
end Go.AM

/- Parts of the proof. -/
namespace Go.AM
open Go
set_option linter.unusedVariables false
set_option linter.unusedSimpArgs false
set_option maxRecDepth 4000
attribute [local irreducible] WO fillCells fillRows
abbrev H130 (d:Nat)(st0:St)(kp:Key)(vp:Nat)(Q:AE→Sl→St→Prop)(K:BS→Bool→Sc→Prop):Prop:=∀(σ:Sl)(st:St)(res0:BS)(res1:Bool)(b_:Sc),σ 2=.s res0→σ 3=.b res1→lk st.bx kp=some (vp,[.s b_.left])→Fr d kp st0.bx st0.ow st.bx st.ow→K res0 res1 b_→Q .ret σ st
section
variable {prog:Prog}{d:Nat}{Q:AE→Sl→St→Prop}{K:BS→Bool→Sc→Prop}{st0:St}{kp:Key}{vp:Nat}(hQ:H130 d st0 kp vp Q K)(hkp:kp.1<d){σ:Sl}{st:St}
include hQ hkp
end
abbrev H131 (d:Nat)(st0:St)(kp:Key)(vp:Nat)(Q:AE→Sl→St→Prop)(K:Int→Bool→Sc→Prop):Prop:=∀(σ:Sl)(st:St)(res0:Int)(res1:Bool)(b_:Sc),σ 2=.i .i64 res0→σ 3=.b res1→lk st.bx kp=some (vp,[.s b_.left])→Fr d kp st0.bx st0.ow st.bx st.ow→K res0 res1 b_→Q .ret σ st
section
variable {prog:Prog}{d:Nat}{Q:AE→Sl→St→Prop}{K:Int→Bool→Sc→Prop}{st0:St}{kp:Key}{vp:Nat}(hQ:H131 d st0 kp vp Q K)(hkp:kp.1<d){σ:Sl}{st:St}
include hQ hkp
end
abbrev H66 (Q:AE→Sl→St→Prop)(K:Bool→Prop):Prop:=∀(σ:Sl)(st:St)(res0:Bool),σ 4=.b res0→K res0→Q .ret σ st
section
variable {prog:Prog}{d:Nat}{Q:AE→Sl→St→Prop}{K:Bool→Prop}(hQ:H66 Q K){σ:Sl}{st:St}
include hQ
end
end Go.AM

/- Parts of the proof. -/
namespace Go.AM
open Go
set_option linter.unusedVariables false
set_option linter.unusedSimpArgs false
set_option maxRecDepth 4000
attribute [local irreducible] WO fillCells fillRows
def r111_0:List AI:=[oC 2 (.s [])]
def r111_1:List AI:=[oM 3 0,oQ 4 15 [3],oM 2 4]
abbrev b111:AC:=(sR 0 r111_0 (sR 1 r111_1 .ret))
def pf111:AF:={ nt:=5,res:=[.tmp 2],body:=b111 }
def T111_0 (prog:Prog)(K:BS→Prop)(n0:Int):Prop:=
  ∃c,Pus prog 15 [.i .i64 n0] (.s c)∧K c
section
variable {prog:Prog}{d:Nat}{Q:AE→Sl→St→Prop}{K:BS→Prop}(hQ:H1 AV.s 2 Q K){σ:Sl}{st:St}
include hQ
variable {n0:Int}
variable (H0:σ 0=.i .i64 n0)
include H0 in
theorem w111_0 (h:T111_0 prog K n0):W prog d (sR 0 r111_0 (sR 1 r111_1 .ret)) σ st Q:=
 q_ J (m_ (e_ (q_ J (m_ (h.elim fun _ c=>ca_ (sc1 H0 J) c.1 (m_ (er_ (hQ J c.2))))))))
end
theorem p111 {prog:Prog}(hf:prog.fn 111=some pf111){n0:Int}{K:BS→Prop}(h:T111_0 prog K n0) :∃res0:BS,K res0∧Pus prog 111 [.i .i64 n0] (.s res0):=
 P1 hf J (w111_0 (h1 J fun _=>J) J h)
def r112_0:List AI:=[oC 2 (.s [])]
def r112_1:List AI:=[oM 6 0,oQ 7 11 [6],oM 5 7,oE 8 0 5,oE 9 1 5,oM 3 8,oM 4 9]
def r112_2:List AI:=[oM 10 3,oM 2 10]
abbrev b112:AC:=(sR 0 r112_0 (sR 1 r112_1 (sR 2 r112_2 .ret)))
def pf112:AF:={ nt:=11,res:=[.tmp 2],body:=b112 }
def T112_0 (prog:Prog)(K:BS→Prop)(s0:BS):Prop:=
  ∃c e,Pus prog 11 [.s s0] (.tup [.s c,.i .i64 e])∧K c
section
variable {prog:Prog}{d:Nat}{Q:AE→Sl→St→Prop}{K:BS→Prop}(hQ:H1 AV.s 2 Q K){σ:Sl}{st:St}
include hQ
variable {s0:BS}
variable (H0:σ 0=.s s0)
include H0 in
theorem w112_0 (h:T112_0 prog K s0):W prog d (sR 0 r112_0 (sR 1 r112_1 (sR 2 r112_2 .ret))) σ st Q:=
 q_ J (m_ (e_ (q_ J (m_ (x2 h fun _ _ c=>ca_ (sc1 H0 J) c.1 (m_ (x_ J J (x_ J J (m_ (m_ (e_ (q_ J (m_ (m_ (er_ (hQ J c.2))))))))))))))))
end
theorem p112 {prog:Prog}(hf:prog.fn 112=some pf112){s0:BS}{K:BS→Prop}(h:T112_0 prog K s0) :∃res0:BS,K res0∧Pus prog 112 [.s s0] (.s res0):=
 P1 hf J (w112_0 (h1 J fun _=>J) J h)
def r113_0:List AI:=[oO 0 (.alloc [zs,zs,zs,zs])]
def r113_1:List AI:=[oO 1 (.build [zs,zs,zs,zs] [(0,1,(.c (.s [99,97,108,108]))),(1,1,(.c (.s [100,101,102,101,114]))),(2,1,(.c (.s [112,97,110,105,99]))),(3,1,(.c (.s [101,120,105,116])))]),oS 4 0 1]
abbrev b113:AC:=(sR 0 r113_0 (sR 1 r113_1 .ret))
def pf113:AF:={ nt:=2,res:=[.cell 0 4 true],body:=b113 }
abbrev H113 (Q:AE→Sl→St→Prop)(K:LB→Prop):Prop:=∀(σ:Sl)(st:St)(k0:Key)(v0:Nat)(res0:LB),σ 0=.p k0 v0 0→lk st.bx k0=some (v0,List.map AV.s res0)→res0.length=4→K res0→Q .ret σ st
def T113_0 (prog:Prog)(K:LB→Prop) :Prop:=
  K [([99,97,108,108]:BS),([100,101,102,101,114]:BS),([112,97,110,105,99]:BS),([101,120,105,116]:BS)]
section
variable {prog:Prog}{d:Nat}{Q:AE→Sl→St→Prop}{K:LB→Prop}(hQ:H113 Q K){σ:Sl}{st:St}
include hQ
theorem w113_0 (h:T113_0 prog K ):W prog d (sR 0 r113_0 (sR 1 r113_1 .ret)) σ st Q:=
 sq_ (W.reg (s_alloc (e_ (q_ J (s_buildM (f:=AV.s) (l:=[([99,97,108,108]:BS),([100,101,102,101,114]:BS),([112,97,110,105,99]:BS),([101,120,105,116]:BS)]) (f_cons J J (f_cons J J (f_cons J J (f_cons J J f_nil)))) J (s_storeArr (f:=AV.s) (fun _=>J) J (show lk _ (d,0)=some (_,(List.map AV.s (List.replicate 4 ([]:BS)):List AV)) from lk_here) (by simp) J J (er_ (hQ _ _ _ _ _ J lk_here (by simp) h))))))))
end
theorem p113 {prog:Prog}(hf:prog.fn 113=some pf113)  {K:LB→Prop}(h:T113_0 prog K ) :∃res0:LB,K res0∧Pus prog 113 [] (.ag (List.map AV.s res0)):=by
  obtain ⟨v,hv,res0,hk,rfl⟩:=Pus.of (K:=fun v=>∃res0:LB,K res0∧v=.ag (List.map AV.s res0)) hf rfl (w113_0 (σ:=sl0 []) (fun σ st k0 v0  res0 H0 HB0 HL0 hk=>⟨.ag (List.map AV.s res0),by simp only [pf113,ares,aresL,ares_cellA (n:=4) H0 HB0 (by simpa using HL0),ares_tmp,Option.map_some],_,strip_ag AV.s (fun _=>rfl) _,res0,hk,rfl⟩)  h)
  exact ⟨res0,hk,hv⟩
abbrev H115 (d:Nat)(st0:St)(Q:AE→Sl→St→Prop)(K:Bool→Prop):Prop:=∀(σ:Sl)(st:St)(res0:Bool),σ 4=.b res0→Fr d (d,0) st0.bx st0.ow st.bx st.ow→K res0→Q .ret σ st
section
variable {prog:Prog}{d:Nat}{Q:AE→Sl→St→Prop}{K:Bool→Prop}{st0:St}(hQ:H115 d st0 Q K){σ:Sl}{st:St}
include hQ
end
abbrev H116 (d:Nat)(st0:St)(Q:AE→Sl→St→Prop)(K:Bool→Prop):Prop:=∀(σ:Sl)(st:St)(res0:Bool),σ 2=.b res0→Fr d (d,0) st0.bx st0.ow st.bx st.ow→K res0→Q .ret σ st
section
variable {prog:Prog}{d:Nat}{Q:AE→Sl→St→Prop}{K:Bool→Prop}{st0:St}(hQ:H116 d st0 Q K){σ:Sl}{st:St}
include hQ
end
abbrev H139 (d:Nat)(st0:St)(Q:AE→Sl→St→Prop)(K:Int→Prop):Prop:=∀(σ:Sl)(st:St)(res0:Int),σ 4=.i .i64 res0→Fr d (d,0) st0.bx st0.ow st.bx st.ow→K res0→Q .ret σ st
section
variable {prog:Prog}{d:Nat}{Q:AE→Sl→St→Prop}{K:Int→Prop}{st0:St}(hQ:H139 d st0 Q K){σ:Sl}{st:St}
include hQ
end
def r122_0:List AI:=[oC 4 (.b false)]
def r122_1:List AI:=[oM 5 0,oM 6 1,oO 7 (.call true 144 [(.t 5),(.t 6)]),oV 8 .geq 7 0,oM 4 8]
abbrev b122:AC:=(sR 0 r122_0 (sR 1 r122_1 .ret))
def pf122:AF:={ nt:=9,res:=[.tmp 4],body:=b122 }
def T122_0 (prog:Prog)(K:Bool→Prop)(s0:List Fld)(f1:Nat × List AV):Prop:=
  ∃c,(∀e:Own,PuN prog 144 [.sl e (List.map Fld.row s0),.fn f1.1 f1.2] (fun r=>r=.i .i64 c))∧K (decide (c≥0))
section
variable {prog:Prog}{d:Nat}{Q:AE→Sl→St→Prop}{K:Bool→Prop}{st0:St}(hQ:HF d st0 AV.b 4 Q K){σ:Sl}{st:St}
include hQ
variable {s0:List Fld}{f1:Nat × List AV}{o_s0:Own}
variable (H0:σ 0=.sl o_s0 (List.map Fld.row s0))(H1:σ 1=.fn f1.1 f1.2)(FR:Fr d (d,0) st0.bx st0.ow st.bx st.ow)
include H0 H1 FR in
theorem w122_0 (h:T122_0 prog K s0 f1):W prog d (sR 0 r122_0 (sR 1 r122_1 .ret)) σ st Q:=
 q_ J (m_ (e_ (q_ J (s_mvL H0 (m_ (h.elim fun _ c=>s_callN (sec J (sec H1 sen)) (c.1 _) (fun _ e=>b_ J J geq_ (m_ (er_ (hQ J (Fr.raw FR e) c.2))))))))))
end
theorem p122 {prog:Prog}(hf:prog.fn 122=some pf122){s0:List Fld}{f1:Nat × List AV}{K:Bool→Prop}(h:T122_0 prog K s0 f1)(o_s0:Own):PuN prog 122 [.sl o_s0 (List.map Fld.row s0),.fn f1.1 f1.2] (fun r=>∃res0:Bool,(r=.b res0)∧K res0):=
 PF hf J J fun d st Q q=>w122_0 q J J Fr.refl h
def r123_0:List AI:=[oY 1 2 0,oC 2 (.b false)]
def r123_1:List AI:=[oF 3 0 1,oL 4 3,oH 5 4,oV 6 .gtr 5 16,oM 2 6]
abbrev b123:AC:=(sR 0 r123_0 (sR 1 r123_1 .ret))
def pf123:AF:={ nt:=7,res:=[.tmp 2],body:=b123 }
def T123_0 (prog:Prog)(K:Bool→Prop)(s0:Fld):Prop:=
  K (decide ((s0.name.length:Int)>16))
section
variable {prog:Prog}{d:Nat}{Q:AE→Sl→St→Prop}{K:Bool→Prop}{st0:St}(hQ:HF d st0 AV.b 2 Q K){σ:Sl}{st:St}
include hQ
variable {s0:Fld}
variable (H0:σ 0=s0.av)(FR:Fr d (d,0) st0.bx st0.ow st.bx st.ow)
include H0 FR in
theorem w123_0 (h:T123_0 prog K s0):W prog d (sR 0 r123_0 (sR 1 r123_1 .ret)) σ st Q:=
 q_ J (s_box H0 J (m_ (e_ (q_ J (f_ J (l_ J lk_here J J (ln_ J (b_ J J gtr_ (m_ (er_ (hQ J (Fr.box FR) h)))))))))))
end
theorem p123 {prog:Prog}(hf:prog.fn 123=some pf123){s0:Fld}{K:Bool→Prop}(h:T123_0 prog K s0):PuN prog 123 [s0.av] (fun r=>∃res0:Bool,(r=.b res0)∧K res0):=
 PF hf J J fun d st Q q=>w123_0 q J Fr.refl h
def r144_0:List AI:=[oI 4 0]
def r144_1:List AI:=[oM 6 0,oJ 7 6,oI 8 0]
def r144_2:List AI:=[oT 9 .lss 8 7]
def r144_3:List AI:=[oM 10 8,oM 5 10]
def r144_4:List AI:=[oM 11 1,oM 12 0,oM 13 5,oX 14 2 12 13,oK 15 2 14,oO 16 (.callv (.t 11) [(.t 15)])]
def r144_5:List AI:=[oM 17 5,oM 4 17]
def r144_6:List AI:=[oV 18 .add 8 1,oM 8 18]
def r144_7:List AI:=[oI 4 (-1)]
abbrev l144_0:AC:=(sR 2 r144_2 (.seq (.cond (.t 9) .skip (.exit 0)) (.seq (.block 1 (sR 3 r144_3 (sR 4 r144_4 (.cond (.t 16) (sR 5 r144_5 .ret) .skip)))) (.reg 6 r144_6))))
abbrev c144_1:AC:=(sR 7 r144_7 .ret)
abbrev b144:AC:=(sR 0 r144_0 (.seq (sR 1 r144_1 (.block 0 (.loop l144_0))) c144_1))
def pf144:AF:={ nt:=19,res:=[.tmp 4],body:=b144 }
abbrev I144_0 (prog:Prog)(d:Nat)(Q:AE→Sl→St→Prop)(st0:St)(s0:List Fld)(f1:Nat × List AV)(t7:Int)(t8:Int):Prop:=
  ∀(σ:Sl)(st:St)(o_s0:Own),σ 0=.sl o_s0 (List.map Fld.row s0)→σ 1=.fn f1.1 f1.2→σ 7=.i .i64 t7→σ 8=.i .i64 t8→Fr d (d,0) st0.bx st0.ow st.bx st.ow→W prog d (.loop l144_0) σ st (blockW 0 (thenW prog d c144_1 Q))
def T144_2 (prog:Prog)(K:Int→Prop) :Prop:=
  K (-1)
def T144_1 (prog:Prog)(K:Int→Prop)(P0:Int→Prop)(s0:List Fld)(f1:Nat × List AV)(t7:Int)(t8:Int):Prop:=
  (t8<t7→0≤t8∧∃e:Fld,s0[(t8).toNat]?=some e∧∃c,(PuN prog f1.1 ([e.av]++f1.2) (fun r=>r=.b c))∧(c=true→K t8)∧(c=false→P0 (IntKind.i64.wrap (t8+1))))∧(¬(t8<t7)→T144_2 prog K )
def T144_0 (prog:Prog)(K:Int→Prop)(s0:List Fld)(f1:Nat × List AV):Prop:=
  ∀P0:Int→Prop,(∀(t8:Int),T144_1 prog K P0 s0 f1 (s0.length:Int) t8→P0 t8)→P0 0
section
variable {prog:Prog}{d:Nat}{Q:AE→Sl→St→Prop}{K:Int→Prop}{st0:St}(hQ:HF d st0 (AV.i .i64) 4 Q K){σ:Sl}{st:St}
include hQ
variable {s0:List Fld}{f1:Nat × List AV}{t7 t8:Int}{P0:Int→Prop}{o_s0:Own}
variable (kP0 :∀(t8:Int),P0 t8→I144_0 prog d Q st0 s0 f1 t7 t8)(H0:σ 0=.sl o_s0 (List.map Fld.row s0))(H1:σ 1=.fn f1.1 f1.2)(H7:σ 7=.i .i64 t7)(H8:σ 8=.i .i64 t8)(FR:Fr d (d,0) st0.bx st0.ow st.bx st.ow)
include FR in
theorem w144_2 (h:T144_2 prog K ):W prog d c144_1 σ st Q:=
 q_ J (m_ (er_ (hQ J FR h)))
include kP0 H0 H1 H7 H8 FR in
theorem w144_1 (h:T144_1 prog K P0 s0 f1 t7 t8):W prog d l144_0 σ st (thenW prog d (.loop l144_0) (blockW 0 (thenW prog d c144_1 Q))):=
 q_ J (b_ H8 H7 lss_ (e_ (sq_ (cs_ J (fun c=>sk_ (sq_ (bk_ (q_ J (m_ (m_ (e_ (q_ J (m_ (s_mvL H0 (m_ ((h.1 c).2.elim fun o j=>ia_ J H8 (h.1 c).1 j.1 (Fld.row_eq o) J (lf_ J J J (j.2.elim fun _ e=>s_callV H1 (sec J sen) (e.1) (fun _ k=>e_ (cb_ J (fun i=>q_ J (m_ (m_ (er_ (hQ H8 (Fr.raw FR k) (e.2.1 i)))))) (fun i=>sk_ (W.reg0 J fun _ _=>b_ H8 J add_ (m_ (e_ (kP0 _ (e.2.2 i) _ _ _ H0 H1 H7 J (Fr.raw FR k)))))))))))))))))))))) (fun c=>ex_ (w144_2 hQ FR (h.2 c)))))))
include H0 H1 FR in
theorem w144_0 (h:T144_0 prog K s0 f1):W prog d (sR 0 r144_0 (.seq (sR 1 r144_1 (.block 0 (.loop l144_0))) c144_1)) σ st Q:=
 q_ J (m_ (e_ (sq_ (q_ J (s_mvL H0 (ll_ J (m_ (e_ (bk_ (h (I144_0 prog d Q st0 s0 f1 (s0.length:Int)) (fun _ hb _ _ _ H0 H1 H7 H8 FR=>W.loop (w144_1 hQ (fun _ x=>x) H0 H1 H7 H8 FR hb)) _ _ _ H0 H1 J J FR))))))))))
end
theorem p144 {prog:Prog}(hf:prog.fn 144=some pf144){s0:List Fld}{f1:Nat × List AV}{K:Int→Prop}(h:T144_0 prog K s0 f1)(o_s0:Own):PuN prog 144 [.sl o_s0 (List.map Fld.row s0),.fn f1.1 f1.2] (fun r=>∃res0:Int,(r=.i .i64 res0)∧K res0):=
 PF hf J J fun d st Q q=>w144_0 q J J Fr.refl h
abbrev H141 (Q:AE→Sl→St→Prop)(K:Int→Prop):Prop:=∀(σ:Sl)(st:St)(res0:Int),σ 4=.i .i64 res0→K res0→Q .ret σ st
section
variable {prog:Prog}{d:Nat}{Q:AE→Sl→St→Prop}{K:Int→Prop}(hQ:H141 Q K){σ:Sl}{st:St}
include hQ
end
abbrev H119 (Q:AE→Sl→St→Prop)(K:Bool→Prop):Prop:=∀(σ:Sl)(st:St)(res0:Bool),σ 4=.b res0→K res0→Q .ret σ st
section
variable {prog:Prog}{d:Nat}{Q:AE→Sl→St→Prop}{K:Bool→Prop}(hQ:H119 Q K){σ:Sl}{st:St}
include hQ
end
def r86_0:List AI:=[oY 2 3 0,oY 3 4 1,oI 4 0]
def r86_1:List AI:=[oF 9 0 3,oL 10 9,oV 11 .lss 10 0,oM 12 11,gF 12 (oF 13 0 3),gF 12 (oL 14 13),gF 12 (oF 15 2 2),gF 12 (oL 16 15),gF 12 (oJ 17 16),gF 12 (oT 18 .geq 14 17),oR 19 12 18,oM 20 19,gF 20 (oF 21 2 3),gF 20 (oL 22 21),gF 20 (oB 23 .gtr (.t 22) (.c (.i .u64 3))),oR 24 20 23]
def r86_2:List AI:=[oI 4 8]
def r86_3:List AI:=[oF 25 2 2,oL 26 25,oF 27 0 3,oL 28 27,oX 29 7 26 28,oK 30 7 29,oO 5 (.alloc [zs,z6,z6,zl,zl,zl,zl]),oS 7 5 30]
def r86_4:List AI:=[oF 31 3 5,oL 32 31,oJ 33 32,oV 34 .gtr 33 16,oM 35 34,gF 35 (oF 36 0 5),gF 35 (oL 37 36),gF 35 (oH 38 37),gF 35 (oV 39 .gtr 38 16),oR 40 35 39,oM 41 40,gF 41 (oF 42 1 3),gF 41 (oL 43 42),gF 41 (oV 44 .lss 43 0),oR 45 41 44,oM 46 45,gF 46 (oF 47 1 3),gF 46 (oL 48 47),gF 46 (oF 49 4 5),gF 46 (oL 50 49),gF 46 (oJ 51 50),gF 46 (oT 52 .geq 48 51),oR 53 46 52,oM 54 53,gF 54 (oF 55 3 5),gF 54 (oL 56 55),gF 54 (oO 57 (.call true 122 [(.t 56),(.c (.fn 123 []))])),oR 58 54 57]
def r86_5:List AI:=[oI 4 8]
def r86_6:List AI:=[oI 6 (-1)]
def r86_7:List AI:=[oF 59 3 3,oL 60 59,oJ 61 60,oI 62 0]
def r86_8:List AI:=[oT 63 .lss 62 61]
def r86_9:List AI:=[oX 64 6 60 62,oK 65 6 64,oO 8 (.alloc [z6,z8,z6,zs,zl,zb]),oS 6 8 65]
def r86_10:List AI:=[oF 66 0 8,oL 67 66,oM 68 6,oT 69 .leq 67 68,oM 70 69,gF 70 (oF 71 0 8),gF 70 (oL 72 71),gF 70 (oF 73 3 5),gF 70 (oL 74 73),gF 70 (oJ 75 74),gF 70 (oT 76 .geq 72 75),oR 77 70 76,oM 78 77,gF 78 (oF 79 1 8),gF 78 (oK 80 5 79),gF 78 (oQ 81 76 [80]),gF 78 (oV 82 .neq 81 0),oR 83 78 82]
def r86_11:List AI:=[oI 4 8]
def r86_12:List AI:=[oF 84 0 8,oL 85 84,oM 6 85]
def r86_13:List AI:=[oV 86 .add 62 1,oM 62 86]
def r86_14:List AI:=[oI 4 0]
abbrev l86_0:AC:=(sR 8 r86_8 (.seq (.cond (.t 63) .skip (.exit 0)) (.seq (.block 1 (sR 9 r86_9 (.seq (sR 10 r86_10 (.cond (.t 83) (sR 11 r86_11 .ret) .skip)) (.reg 12 r86_12)))) (.reg 13 r86_13))))
abbrev c86_1:AC:=(sR 14 r86_14 .ret)
abbrev c86_2:AC:=(sR 6 r86_6 (.seq (sR 7 r86_7 (.block 0 (.loop l86_0))) c86_1))
abbrev c86_3:AC:=(.seq (sR 4 r86_4 (.cond (.t 58) (sR 5 r86_5 .ret) .skip)) c86_2)
abbrev c86_4:AC:=(sR 3 r86_3 c86_3)
abbrev c86_5:AC:=(.seq (sR 1 r86_1 (.cond (.t 24) (sR 2 r86_2 .ret) .skip)) c86_4)
abbrev b86:AC:=(sR 0 r86_0 c86_5)
def pf86:AF:={ nt:=87,res:=[.tmp 4],body:=b86 }
abbrev I86_0 (prog:Prog)(d:Nat)(Q:AE→Sl→St→Prop)(t60:List Loc)(t61:Int)(last6:Int)(t62:Int)(m12294:Fun):Prop:=
  ∀(σ:Sl)(st:St)(o_t60:Own)(v12294:Nat),σ 5=.p (d,12294) v12294 0→σ 6=.i .i64 last6→σ 60=.sl o_t60 (List.map Loc.row t60)→σ 61=.i .i64 t61→σ 62=.i .i64 t62→lk st.bx (d,12294)=some (v12294,[.s m12294.name,.i .i64 m12294.params,.i .i64 m12294.result,.sl .ext (List.map Fld.row m12294.slots),.sl .ext (List.map Ins.row m12294.code),.sl .ext (List.map Rnn.row m12294.sizes),.sl .ext (List.map Rnn.row m12294.lives)])→W prog d (.loop l86_0) σ st (blockW 0 (thenW prog d c86_1 Q))
def T86_6 (prog:Prog)(K:Int→Prop) :Prop:=
  K 0
def T86_5 (prog:Prog)(K:Int→Prop)(P0:Int→Int→Fun→Prop)(last6:Int)(t60:List Loc)(t61:Int)(t62:Int)(m12294:Fun):Prop:=
  (t62<t61→0≤t62∧∃c:Loc,t60[(t62).toNat]?=some c∧(c.slot≤last6→K 8)∧(¬(c.slot≤last6)→(c.slot≥(m12294.slots.length:Int)→K 8)∧(¬(c.slot≥(m12294.slots.length:Int))→∃e,Pus prog 76 [c.value.av] (.i .i64 e)∧(e≠0→K 8)∧(¬(e≠0)→P0 c.slot (IntKind.i64.wrap (t62+1)) m12294))))∧(¬(t62<t61)→T86_6 prog K )
def T86_4 (prog:Prog)(K:Int→Prop)(m1:Frm)(m12294:Fun):Prop:=
  ∀P0:Int→Int→Fun→Prop,(∀(last6:Int)(t62:Int)(m12294:Fun),T86_5 prog K P0 last6 m1.locals (m1.locals.length:Int) t62 m12294→P0 last6 t62 m12294)→P0 (-1) 0 m12294
def T86_3 (prog:Prog)(K:Int→Prop)(m1:Frm)(m12294:Fun):Prop:=
  ((m12294.slots.length:Int)>16→K 8)∧(¬((m12294.slots.length:Int)>16)→((m12294.name.length:Int)>16→K 8)∧(¬((m12294.name.length:Int)>16)→(m1.pos<0→K 8)∧(¬(m1.pos<0)→(m1.pos≥(m12294.code.length:Int)→K 8)∧(¬(m1.pos≥(m12294.code.length:Int))→∃c,(∀e:Own,PuN prog 122 [.sl e (List.map Fld.row m12294.slots),.fn 123 []] (fun r=>r=.b c))∧(c=true→K 8)∧(c=false→T86_4 prog K m1 m12294)))))
def T86_2 (prog:Prog)(K:Int→Prop)(m0:Img)(m1:Frm):Prop:=
  0≤m1.func∧∃c,m0.funcs[(m1.func).toNat]?=some c∧T86_3 prog K m1 c
def T86_1 (prog:Prog)(K:Int→Prop)(m0:Img)(m1:Frm):Prop:=
  (m1.func<0→K 8)∧(¬(m1.func<0)→(m1.func≥(m0.funcs.length:Int)→K 8)∧(¬(m1.func≥(m0.funcs.length:Int))→(m1.mode>3→K 8)∧(¬(m1.mode>3)→T86_2 prog K m0 m1)))
def T86_0 (prog:Prog)(K:Int→Prop)(m0:Img)(x1:Frm):Prop:=
  T86_1 prog K m0 x1
section
variable {prog:Prog}{d:Nat}{Q:AE→Sl→St→Prop}{K:Int→Prop}(hQ:H1 (AV.i .i64) 4 Q K){σ:Sl}{st:St}
include hQ
variable {last6:Int}{t60:List Loc}{t61 t62:Int}{m12294:Fun}{P0:Int→Int→Fun→Prop}{o_t60:Own}{v12294:Nat}{m1:Frm}{v1:Nat}{m0:Img}{v0:Nat}{x1:Frm}
variable (kP0 :∀(last6:Int)(t62:Int)(m12294:Fun),P0 last6 t62 m12294→I86_0 prog d Q t60 t61 last6 t62 m12294)(H2:σ 2=.p (d,0) v0 0)(H0:σ 0=m0.av)(H3:σ 3=.p (d,1) v1 0)(H1:σ 1=x1.av)(H5:σ 5=.p (d,12294) v12294 0)(B0:lk st.bx (d,0)=some (v0,[.sl .ext (List.map Typ.row m0.types),.sl .ext (List.map rowS m0.texts),.sl .ext (List.map Fun.row m0.funcs)]))(H6:σ 6=.i .i64 last6)(B1:lk st.bx (d,1)=some (v1,[.i .i64 m1.func,.i .i64 m1.pos,.i .u64 m1.mode,.sl .ext (List.map Loc.row m1.locals)]))(H60:σ 60=.sl o_t60 (List.map Loc.row t60))(H61:σ 61=.i .i64 t61)(H62:σ 62=.i .i64 t62)(B12294:lk st.bx (d,12294)=some (v12294,[.s m12294.name,.i .i64 m12294.params,.i .i64 m12294.result,.sl .ext (List.map Fld.row m12294.slots),.sl .ext (List.map Ins.row m12294.code),.sl .ext (List.map Rnn.row m12294.sizes),.sl .ext (List.map Rnn.row m12294.lives)]))
theorem w86_6 (h:T86_6 prog K ):W prog d c86_1 σ st Q:=
 q_ J (m_ (er_ (hQ J h)))
include kP0 H5 H6 H60 H61 H62 B12294 in
theorem w86_5 (h:T86_5 prog K P0 last6 t60 t61 t62 m12294):W prog d l86_0 σ st (thenW prog d (.loop l86_0) (blockW 0 (thenW prog d c86_1 Q))):=
 q_ J (b_ H62 H61 lss_ (e_ (sq_ (cs_ J (fun e=>sk_ (sq_ (bk_ (sq_ (W.reg ((h.1 e).2.elim fun q c=>ia_ H60 H62 (h.1 e).1 c.1 (Loc.row_eq q) J (lf_ J J J (s_alloc (so_ J (show lk _ (d,36866)=some (_,([.i .i64 0,.i .u8 0,.i .i64 0,.s [],.sl .full (List.map Val.row ([]:List Val)),.b false]:List AV)) from lk_here) J J J (e_ (sq_ (q_ J (f_ J (l_ J lk_here J J (s_mvI H6 (b_ J J leq_ (s_mvB J (em_ (g:=70) J (fun j=>z_ 13 J (e_ (ct_ J (q_ J (m_ (er_ (hQ J (c.2.1 j)))))))) (fun j=>gy_ J (f_ J (gy_ J (l_ J lk_here J J (gy_ J (f_ H5 (gy_ J (l_ J (lk_other J (lk_other J B12294)) J J (gy_ J (ll_ J (gy_ J (b_ J J geq_ (z_ 2 J (em_ (g:=78) J (fun o=>z_ 5 J (e_ (ct_ J (q_ J (m_ (er_ (hQ J ((c.2.2 j).1 o)))))))) (fun o=>gy_ J (f_ J (gy_ J (l_ J lk_here J J (gy_ J (((c.2.2 j).2 o).elim fun _ k=>ca_ (sc1 J J) k.1 (gy_ J (b_ J J neq_ (pf_ J J (e_ (cs_ J (fun p=>q_ J (m_ (er_ (hQ J (k.2.1 p))))) (fun p=>sk_ (W.reg0 J fun _ _=>f_ J (l_ J lk_here J J (m_ (e_ (W.reg0 J fun _ _=>b_ H62 J add_ (m_ (e_ (kP0 _ _ _ (k.2.2 p) _ _ _ _ H5 J H60 H61 J (lk_other J (lk_other J B12294)))))))))))))))))))))))))))))))))))))))))))))))))))))) (fun e=>ex_ (w86_6 hQ (h.2 e)))))))
include H3 H5 B1 B12294 in
theorem w86_4 (h:T86_4 prog K m1 m12294):W prog d c86_2 σ st Q:=
 q_ J (m_ (e_ (sq_ (q_ J (f_ H3 (l_ J B1 J J (ll_ J (m_ (e_ (bk_ (h (I86_0 prog d Q m1.locals (m1.locals.length:Int)) (fun _ _ _ hb _ _ _ _ H5 H6 H60 H61 H62 B12294=>W.loop (w86_5 hQ (fun _ _ _ x=>x) H5 H6 H60 H61 H62 B12294 hb)) _ _ _ _ H5 J J J J B12294)))))))))))
include H3 H5 B1 B12294 in
theorem w86_3 (h:T86_3 prog K m1 m12294):W prog d c86_3 σ st Q:=
 sq_ (q_ J (f_ H5 (l_ J B12294 J J (ll_ J (b_ J J gtr_ (s_mvB J (em_ (g:=35) J (fun c=>z_ 23 J (e_ (ct_ J (q_ J (m_ (er_ (hQ J (h.1 c)))))))) (fun c=>gy_ J (f_ H5 (gy_ J (l_ J B12294 J J (gy_ J (ln_ J (gy_ J (b_ J J gtr_ (z_ 2 J (em_ (g:=41) J (fun e=>z_ 17 J (e_ (ct_ J (q_ J (m_ (er_ (hQ J ((h.2 c).1 e)))))))) (fun e=>gy_ J (f_ H3 (gy_ J (l_ J B1 J J (gy_ J (b_ J J lss_ (z_ 2 J (em_ (g:=46) J (fun i=>z_ 12 J (e_ (ct_ J (q_ J (m_ (er_ (hQ J (((h.2 c).2 e).1 i)))))))) (fun i=>gy_ J (f_ H3 (gy_ J (l_ J B1 J J (gy_ J (f_ H5 (gy_ J (l_ J B12294 J J (gy_ J (ll_ J (gy_ J (b_ J J geq_ (z_ 2 J (em_ (g:=54) J (fun o=>z_ 4 J (e_ (ct_ J (q_ J (m_ (er_ (hQ J ((((h.2 c).2 e).2 i).1 o)))))))) (fun o=>gy_ J (f_ H5 (gy_ J (l_ J B12294 J J (gy_ J (((((h.2 c).2 e).2 i).2 o).elim fun _ j=>s_callN (sec J (sec J sen)) (j.1 _) (fun _ p=>pf_ J J (e_ (cb_ J (fun k=>q_ J (m_ (er_ (hQ J (j.2.1 k))))) (fun k=>sk_ (w86_4 hQ H3 H5 ((p.1 (d,1) (Nat.lt_succ_self d) key_dn).trans B1) ((p.1 (d,12294) (Nat.lt_succ_self d) key_dn).trans B12294) (j.2.2 k)))))))))))))))))))))))))))))))))))))))))))))))))))
include H2 H3 B0 B1 in
theorem w86_2 (h:T86_2 prog K m0 m1):W prog d c86_4 σ st Q:=
 sq_ (W.reg (f_ H2 (l_ J (lk_other J B0) J J (f_ H3 (l_ J (lk_other J B1) J J (h.2.elim fun e c=>ia_ J J h.1 c.1 (Fun.row_eq e) J (lf_ J J J (s_alloc (so_ J (show lk _ (d,12294)=some (_,([.s [],.i .i64 0,.i .i64 0,.sl .full (List.map Fld.row ([]:List Fld)),.sl .full (List.map Ins.row ([]:List Ins)),.sl .full (List.map Rnn.row ([]:List Rnn)),.sl .full (List.map Rnn.row ([]:List Rnn))]:List AV)) from lk_here) J J J (e_ (w86_3 hQ H3 J (lk_other J (lk_other J B1)) lk_here c.2)))))))))))
include H2 H3 B0 B1 in
theorem w86_1 (h:T86_1 prog K m0 m1):W prog d c86_5 σ st Q:=
 sq_ (q_ J (f_ H3 (l_ J B1 J J (b_ J J lss_ (s_mvB J (em_ (g:=12) J (fun c=>z_ 12 J (e_ (ct_ J (q_ J (m_ (er_ (hQ J (h.1 c)))))))) (fun c=>gy_ J (f_ H3 (gy_ J (l_ J B1 J J (gy_ J (f_ H2 (gy_ J (l_ J B0 J J (gy_ J (ll_ J (gy_ J (b_ J J geq_ (z_ 2 J (em_ (g:=20) J (fun e=>z_ 4 J (e_ (ct_ J (q_ J (m_ (er_ (hQ J ((h.2 c).1 e)))))))) (fun e=>gy_ J (f_ H3 (gy_ J (l_ J B1 J J (gy_ J (b_ J J gtr_ (pf_ J J (e_ (cs_ J (fun i=>q_ J (m_ (er_ (hQ J (((h.2 c).2 e).1 i))))) (fun i=>sk_ (w86_2 hQ H2 H3 B0 B1 (((h.2 c).2 e).2 i))))))))))))))))))))))))))))))))
include H0 H1 in
theorem w86_0 (h:T86_0 prog K m0 x1):W prog d (sR 0 r86_0 c86_5) σ st Q:=
 q_ J (s_box H0 J (s_box H1 J (m_ (e_ (w86_1 hQ J J (lk_other J lk_here) lk_here h)))))
end
theorem p86 {prog:Prog}(hf:prog.fn 86=some pf86){m0:Img}{x1:Frm}{K:Int→Prop}(h:T86_0 prog K m0 x1) :∃res0:Int,K res0∧Pus prog 86 [m0.av,x1.av] (.i .i64 res0):=
 P1 hf J (w86_0 (h1 J fun _=>J) J J h)
def r82_0:List AI:=[oY 3 3 0,oY 5 4 2,oC 6 (.sl .full []),oI 7 0]
def r82_1:List AI:=[oM 15 1,oV 16 .lss 15 0,oM 17 16,gF 17 (oM 18 1),gF 17 (oV 19 .geq 18 170),oR 20 17 19]
def r82_2:List AI:=[oC 6 (.sl .full []),oI 7 2]
def r82_3:List AI:=[oK 21 3 3,oK 22 4 5,oQ 23 86 [21,22],oM 8 23]
def r82_4:List AI:=[oM 24 8,oV 25 .neq 24 0]
def r82_5:List AI:=[oM 26 8,oC 6 (.sl .full []),oM 7 26]
def r82_6:List AI:=[oF 27 2 3,oL 28 27,oF 29 0 5,oL 30 29,oX 31 7 28 30,oK 32 7 31,oO 9 (.alloc [zs,z6,z6,zl,zl,zl,zl]),oS 7 9 32]
def r82_7:List AI:=[oM 33 1,oQ 34 111 [33],oB 35 .add (.c (.s [35])) (.t 34),oB 36 .add (.t 35) (.c (.s [32])),oF 37 0 5,oL 38 37,oQ 39 111 [38],oT 40 .add 36 39,oB 41 .add (.t 40) (.c (.s [32])),oF 42 0 9,oL 43 42,oQ 44 112 [43],oT 45 .add 41 44,oB 46 .add (.t 45) (.c (.s [32,97,116,32])),oF 47 1 5,oL 48 47,oQ 49 111 [48],oT 50 .add 46 49,oB 51 .add (.t 50) (.c (.s [32])),oQ 52 113 [],oF 53 2 5,oL 54 53,oO 55 (.ixA 4 1 false (.t 52) (.t 54)),oT 56 .add 51 55,oO 57 (.bslice [zs] 1 [(0,(.t 56))]),oM 10 57]
def r82_8:List AI:=[oF 58 3 5,oL 59 58,oJ 60 59,oI 61 0]
def r82_9:List AI:=[oT 62 .lss 61 60]
def r82_10:List AI:=[oX 63 6 59 61,oK 64 6 63,oO 12 (.alloc [z6,z8,z6,zs,zl,zb]),oS 6 12 64]
def r82_11:List AI:=[oF 66 1 12,oK 67 5 66,oQ 68 72 [67],oM 65 68,oE 69 0 65,oE 70 1 65,oM 13 69,oM 14 70]
def r82_12:List AI:=[oM 71 14,oV 72 .neq 71 0]
def r82_13:List AI:=[oM 73 14,oC 6 (.sl .full []),oM 7 73]
def r82_14:List AI:=[oM 74 10,oF 75 0 12,oL 76 75,oQ 77 111 [76],oB 78 .add (.c (.s [32,32])) (.t 77),oB 79 .add (.t 78) (.c (.s [32])),oF 80 3 9,oL 81 80,oF 82 0 12,oL 83 82,oX 84 2 81 83,oF 85 0 84,oL 86 85,oQ 87 112 [86],oT 88 .add 79 87,oB 89 .add (.t 88) (.c (.s [32,61,32])),oM 90 13,oT 91 .add 89 90,oO 92 (.bslice [zs] 1 [(0,(.t 91))]),oO 93 (.app 1 16 (.t 74) (.t 92)),oM 10 93]
def r82_15:List AI:=[oV 94 .add 61 1,oM 61 94]
def r82_16:List AI:=[oM 95 10,oM 6 95,oI 7 0]
abbrev l82_0:AC:=(sR 9 r82_9 (.seq (.cond (.t 62) .skip (.exit 0)) (.seq (.block 1 (sR 10 r82_10 (sR 11 r82_11 (.seq (sR 12 r82_12 (.cond (.t 72) (sR 13 r82_13 .ret) .skip)) (.reg 14 r82_14))))) (.reg 15 r82_15))))
abbrev c82_1:AC:=(sR 16 r82_16 .ret)
abbrev c82_2:AC:=(sR 7 r82_7 (.seq (sR 8 r82_8 (.block 0 (.loop l82_0))) c82_1))
abbrev c82_3:AC:=(sR 6 r82_6 c82_2)
abbrev c82_4:AC:=(.seq (sR 3 r82_3 (sR 4 r82_4 (.cond (.t 25) (sR 5 r82_5 .ret) .skip))) c82_3)
abbrev c82_5:AC:=(.seq (sR 1 r82_1 (.cond (.t 20) (sR 2 r82_2 .ret) .skip)) c82_4)
abbrev b82:AC:=(sR 0 r82_0 c82_5)
def pf82:AF:={ nt:=96,res:=[.tmp 6,.tmp 7],body:=b82 }
abbrev I82_0 (prog:Prog)(d:Nat)(Q:AE→Sl→St→Prop)(t59:List Loc)(t60:Int)(out10:LB)(t61:Int)(m24582:Fun):Prop:=
  ∀(σ:Sl)(st:St) (o_out10 o_t59:Own)(v24582:Nat),σ 9=.p (d,24582) v24582 0→σ 10=.sl o_out10 (List.map rowS out10)→σ 59=.sl o_t59 (List.map Loc.row t59)→σ 60=.i .i64 t60→σ 61=.i .i64 t61→ApM d st.ow o_out10 out10.length→lk st.bx (d,24582)=some (v24582,[.s m24582.name,.i .i64 m24582.params,.i .i64 m24582.result,.sl .ext (List.map Fld.row m24582.slots),.sl .ext (List.map Ins.row m24582.code),.sl .ext (List.map Rnn.row m24582.sizes),.sl .ext (List.map Rnn.row m24582.lives)])→W prog d (.loop l82_0) σ st (blockW 0 (thenW prog d c82_1 Q))
def T82_6 (prog:Prog)(K:LB→Int→Prop)(out10:LB):Prop:=
  K out10 0
def T82_5 (prog:Prog)(K:LB→Int→Prop)(P0:LB→Int→Fun→Prop)(out10:LB)(t59:List Loc)(t60:Int)(t61:Int)(m24582:Fun):Prop:=
  (t61<t60→0≤t61∧∃j:Loc,t59[(t61).toNat]?=some j∧∃k:BS,∃o,Pus prog 72 [j.value.av] (.tup [.s k,.i .i64 o])∧(o≠0→K ([]:LB) o)∧(¬(o≠0)→∃c:BS,Pus prog 111 [.i .i64 j.slot] (.s c)∧([32,32]:BS).length+c.length≤maxStr∧(([32,32]:BS)++c).length+([32]:BS).length≤maxStr∧0≤j.slot∧∃p:Fld,m24582.slots[(j.slot).toNat]?=some p∧∃e:BS,Pus prog 112 [.s p.name] (.s e)∧((([32,32]:BS)++c)++([32]:BS)).length+e.length≤maxStr∧(((([32,32]:BS)++c)++([32]:BS))++e).length+([32,61,32]:BS).length≤maxStr∧((((([32,32]:BS)++c)++([32]:BS))++e)++([32,61,32]:BS)).length+k.length≤maxStr∧Fit (out10.length+[(((((([32,32]:BS)++c)++([32]:BS))++e)++([32,61,32]:BS))++k)].length) 16∧P0 (out10++[(((((([32,32]:BS)++c)++([32]:BS))++e)++([32,61,32]:BS))++k)]) (IntKind.i64.wrap (t61+1)) m24582))∧(¬(t61<t60)→T82_6 prog K out10)
def T82_4 (prog:Prog)(K:LB→Int→Prop)(k1:Int)(m1:Frm)(m24582:Fun):Prop:=
  ∃c:BS,Pus prog 111 [.i .i64 k1] (.s c)∧([35]:BS).length+c.length≤maxStr∧(([35]:BS)++c).length+([32]:BS).length≤maxStr∧∃e:BS,Pus prog 111 [.i .i64 m1.func] (.s e)∧((([35]:BS)++c)++([32]:BS)).length+e.length≤maxStr∧(((([35]:BS)++c)++([32]:BS))++e).length+([32]:BS).length≤maxStr∧∃j:BS,Pus prog 112 [.s m24582.name] (.s j)∧((((([35]:BS)++c)++([32]:BS))++e)++([32]:BS)).length+j.length≤maxStr∧(((((([35]:BS)++c)++([32]:BS))++e)++([32]:BS))++j).length+([32,97,116,32]:BS).length≤maxStr∧∃k:BS,Pus prog 111 [.i .i64 m1.pos] (.s k)∧((((((([35]:BS)++c)++([32]:BS))++e)++([32]:BS))++j)++([32,97,116,32]:BS)).length+k.length≤maxStr∧(((((((([35]:BS)++c)++([32]:BS))++e)++([32]:BS))++j)++([32,97,116,32]:BS))++k).length+([32]:BS).length≤maxStr∧∃p:LB,Pus prog 113 [] (.ag (List.map AV.s p))∧p.length=4∧0≤m1.mode∧∃o:BS,(p:LB)[(m1.mode).toNat]?=some o∧((((((((([35]:BS)++c)++([32]:BS))++e)++([32]:BS))++j)++([32,97,116,32]:BS))++k)++([32]:BS)).length+o.length≤maxStr∧∀P0:LB→Int→Fun→Prop,(∀(out10:LB)(t61:Int)(m24582:Fun),T82_5 prog K P0 out10 m1.locals (m1.locals.length:Int) t61 m24582→P0 out10 t61 m24582)→P0 [(((((((((([35]:BS)++c)++([32]:BS))++e)++([32]:BS))++j)++([32,97,116,32]:BS))++k)++([32]:BS))++o)] 0 m24582
def T82_3 (prog:Prog)(K:LB→Int→Prop)(k1:Int)(m0:Img)(m1:Frm):Prop:=
  0≤m1.func∧∃c,m0.funcs[(m1.func).toNat]?=some c∧T82_4 prog K k1 m1 c
def T82_2 (prog:Prog)(K:LB→Int→Prop)(k1:Int)(m0:Img)(m1:Frm):Prop:=
  ∃c,Pus prog 86 [m0.av,m1.av] (.i .i64 c)∧(c≠0→K ([]:LB) c)∧(¬(c≠0)→T82_3 prog K k1 m0 m1)
def T82_1 (prog:Prog)(K:LB→Int→Prop)(k1:Int)(m0:Img)(m1:Frm):Prop:=
  (k1<0→K ([]:LB) 2)∧(¬(k1<0)→(k1≥170→K ([]:LB) 2)∧(¬(k1≥170)→T82_2 prog K k1 m0 m1))
def T82_0 (prog:Prog)(K:LB→Int→Prop)(m0:Img)(k1:Int)(x2:Frm):Prop:=
  T82_1 prog K k1 m0 x2
section
variable {prog:Prog}{d:Nat}{Q:AE→Sl→St→Prop}{K:LB→Int→Prop}(hQ:HM rowS (AV.i .i64) 6 7 Q K){σ:Sl}{st:St}
include hQ
variable {out10:LB}{o_out10:Own}{t59:List Loc}{t60 t61:Int}{m24582:Fun}{P0:LB→Int→Fun→Prop}{o_t59:Own}{v24582:Nat}{k1:Int}{m1:Frm}{v1:Nat}{m0:Img}{v0:Nat}{x2:Frm}
variable (kP0 :∀(out10:LB)(t61:Int)(m24582:Fun),P0 out10 t61 m24582→I82_0 prog d Q t59 t60 out10 t61 m24582)(H0:σ 0=m0.av)(H1:σ 1=.i .i64 k1)(H3:σ 3=.p (d,0) v0 0)(H2:σ 2=x2.av)(H5:σ 5=.p (d,1) v1 0)(H9:σ 9=.p (d,24582) v24582 0)(B0:lk st.bx (d,0)=some (v0,[.sl .ext (List.map Typ.row m0.types),.sl .ext (List.map rowS m0.texts),.sl .ext (List.map Fun.row m0.funcs)]))(H10:σ 10=.sl o_out10 (List.map rowS out10))(B1:lk st.bx (d,1)=some (v1,[.i .i64 m1.func,.i .i64 m1.pos,.i .u64 m1.mode,.sl .ext (List.map Loc.row m1.locals)]))(H59:σ 59=.sl o_t59 (List.map Loc.row t59))(H60:σ 60=.i .i64 t60)(H61:σ 61=.i .i64 t61)(A10:ApM d st.ow o_out10 out10.length)(B24582:lk st.bx (d,24582)=some (v24582,[.s m24582.name,.i .i64 m24582.params,.i .i64 m24582.result,.sl .ext (List.map Fld.row m24582.slots),.sl .ext (List.map Ins.row m24582.code),.sl .ext (List.map Rnn.row m24582.sizes),.sl .ext (List.map Rnn.row m24582.lives)]))
include H10 A10 in
theorem w82_6 (h:T82_6 prog K out10):W prog d c82_1 σ st Q:=
 q_ J (s_mvL H10 (s_mvL J (m_ (er_ (hQ J J h)))))
include kP0 H9 H10 H59 H60 H61 A10 B24582 in
theorem w82_5 (h:T82_5 prog K P0 out10 t59 t60 t61 m24582):W prog d l82_0 σ st (thenW prog d (.loop l82_0) (blockW 0 (thenW prog d c82_1 Q))):=
 q_ J (b_ H61 H60 lss_ (e_ (sq_ (cs_ J (fun j=>sk_ (sq_ (bk_ (sq_ (W.reg ((h.1 j).2.elim fun v q=>ia_ H59 H61 (h.1 j).1 q.1 (Loc.row_eq v) J (lf_ J J J (s_alloc (so_ J (show lk _ (d,40962)=some (_,([.i .i64 0,.i .u8 0,.i .i64 0,.s [],.sl .full (List.map Val.row ([]:List Val)),.b false]:List AV)) from lk_here) J J J (e_ (q_ J (f_ J (l_ J lk_here J J (x2 q.2 fun y _ k=>ca_ (sc1 J J) k.1 (m_ (x_ J J (x_ J J (m_ (m_ (e_ (sq_ (q_ J (m_ (b_ J J neq_ (e_ (cs_ J (fun o=>q_ J (m_ (s_mvL (f:=rowS) (l:=[]) J (m_ (er_ (hQ J J (k.2.1 o))))))) (fun o=>sk_ (W.reg0 J fun _ _=>s_mvL H10 (f_ J (l_ J lk_here J J ((k.2.2 o).elim fun z e=>ca_ (sc1 J J) e.1 (b_ J J (abin_cat' e.2.1) (b_ J J (abin_cat' e.2.2.1) (f_ H9 (l_ J (lk_other J (lk_other J B24582)) J J (f_ J (l_ J lk_here J J (e.2.2.2.2.elim fun u p=>ia_ J J e.2.2.2.1 p.1 (Fld.row_eq u) J (ff_ J (lf_ J J J (p.2.elim fun x c=>ca_ (sc1 J J) c.1 (b_ J J (abin_cat' c.2.1) (b_ J J (abin_cat' c.2.2.1) (m_ (b_ J J (abin_cat' c.2.2.2.1) (s_bslM (f:=rowS) (l:=[(((((([32,32]:BS)++z)++([32]:BS))++x)++([32,61,32]:BS))++y)]) J J (g_cons J J J g_nil) J (s_app rowS_len J J J A10.1 c.2.2.2.2.1 J (fun _ _ r _ w=>s_mvL J (e_ (W.reg0 J fun _ _=>b_ H61 J add_ (m_ (e_ (kP0 _ _ _ c.2.2.2.2.2 _ _ _ _ _ H9 J H59 H60 J (ApM.mk r (Mine.app A10.2 J w)) (lk_other J (lk_other J B24582))))))))))))))))))))))))))))))))))))))))))))))))))))))) (fun j=>ex_ (w82_6 hQ H10 A10 (h.2 j)))))))
include H1 H5 H9 B1 B24582 in
theorem w82_4 (h:T82_4 prog K k1 m1 m24582):W prog d c82_2 σ st Q:=
 q_ J (m_ (h.elim fun q e=>ca_ (sc1 H1 J) e.1 (b_ J J (abin_cat' e.2.1) (b_ J J (abin_cat' e.2.2.1) (f_ H5 (l_ J B1 J J (e.2.2.2.elim fun r i=>ca_ (sc1 J J) i.1 (b_ J J (abin_cat' i.2.1) (b_ J J (abin_cat' i.2.2.1) (f_ H9 (l_ J B24582 J J (i.2.2.2.elim fun u j=>ca_ (sc1 J J) j.1 (b_ J J (abin_cat' j.2.1) (b_ J J (abin_cat' j.2.2.1) (f_ H5 (l_ J B1 J J (j.2.2.2.elim fun v k=>ca_ (sc1 J J) k.1 (b_ J J (abin_cat' k.2.1) (b_ J J (abin_cat' k.2.2.1) (k.2.2.2.elim fun _ c=>ca_ sn c.1 (f_ H5 (l_ J B1 J J (c.2.2.2.elim fun p o=>s_ixA (f:=AV.s) c.2.1 J J c.2.2.1 o.1 (b_ J J (abin_cat' o.2.1) (s_bslM (f:=rowS) (l:=[(((((((((([35]:BS)++q)++([32]:BS))++r)++([32]:BS))++u)++([32,97,116,32]:BS))++v)++([32]:BS))++p)]) J J (g_cons J J J g_nil) J (s_mvL J (e_ (sq_ (q_ J (f_ H5 (l_ J B1 J J (ll_ J (m_ (e_ (bk_ (o.2.2 (I82_0 prog d Q m1.locals (m1.locals.length:Int)) (fun _ _ _ hb _ _ _ _ _ H9 H10 H59 H60 H61 A10 B24582=>W.loop (w82_5 hQ (fun _ _ _ x=>x) H9 H10 H59 H60 H61 A10 B24582 hb)) _ _ _ _ _ H9 J J J J ApM.full B24582))))))))))))))))))))))))))))))))))))
include H1 H3 H5 B0 B1 in
theorem w82_3 (h:T82_3 prog K k1 m0 m1):W prog d c82_3 σ st Q:=
 sq_ (W.reg (f_ H3 (l_ J (lk_other J B0) J J (f_ H5 (l_ J (lk_other J B1) J J (h.2.elim fun e c=>ia_ J J h.1 c.1 (Fun.row_eq e) J (lf_ J J J (s_alloc (so_ J (show lk _ (d,24582)=some (_,([.s [],.i .i64 0,.i .i64 0,.sl .full (List.map Fld.row ([]:List Fld)),.sl .full (List.map Ins.row ([]:List Ins)),.sl .full (List.map Rnn.row ([]:List Rnn)),.sl .full (List.map Rnn.row ([]:List Rnn))]:List AV)) from lk_here) J J J (e_ (w82_4 hQ H1 H5 J (lk_other J (lk_other J B1)) lk_here c.2)))))))))))
include H1 H3 H5 B0 B1 in
theorem w82_2 (h:T82_2 prog K k1 m0 m1):W prog d c82_4 σ st Q:=
 sq_ (q_ J (l_ H3 B0 J J (l_ H5 B1 J J (h.elim fun _ c=>ca_ (sc2 J J J) c.1 (m_ (e_ (q_ J (m_ (b_ J J neq_ (e_ (cs_ J (fun e=>q_ J (m_ (s_mvL (f:=rowS) (l:=[]) J (m_ (er_ (hQ J J (c.2.1 e))))))) (fun e=>sk_ (w82_3 hQ H1 H3 H5 B0 B1 (c.2.2 e))))))))))))))
include H1 H3 H5 B0 B1 in
theorem w82_1 (h:T82_1 prog K k1 m0 m1):W prog d c82_5 σ st Q:=
 sq_ (q_ J (s_mvI H1 (b_ J J lss_ (s_mvB J (em_ (g:=17) J (fun c=>z_ 3 J (e_ (ct_ J (q_ J (s_mvL (f:=rowS) (l:=[]) J (m_ (er_ (hQ J J (h.1 c))))))))) (fun c=>gy_ J (s_mvI H1 (gy_ J (b_ J J geq_ (pf_ J J (e_ (cs_ J (fun e=>q_ J (s_mvL (f:=rowS) (l:=[]) J (m_ (er_ (hQ J J ((h.2 c).1 e)))))) (fun e=>sk_ (w82_2 hQ H1 H3 H5 B0 B1 ((h.2 c).2 e)))))))))))))))
include H0 H1 H2 in
theorem w82_0 (h:T82_0 prog K m0 k1 x2):W prog d (sR 0 r82_0 c82_5) σ st Q:=
 q_ J (s_box H0 J (s_box H2 J (s_mvL (f:=rowS) (l:=[]) J (m_ (e_ (w82_1 hQ H1 J J (lk_other J lk_here) lk_here h))))))
end
theorem p82 {prog:Prog}(hf:prog.fn 82=some pf82){m0:Img}{k1:Int}{x2:Frm}{K:LB→Int→Prop}(h:T82_0 prog K m0 k1 x2) :∃res0:LB,∃res1:Int,K res0 res1∧Pus prog 82 [m0.av,.i .i64 k1,x2.av] (.tup [.sl .ext (List.map rowS res0),.i .i64 res1]):=
 P2 hf J (w82_0 (hM J fun _ _ _=>J) J J J h)
end Go.AM

/- Parts of the proof. -/
namespace Go.AM
open Go
set_option linter.unusedVariables false
set_option linter.unusedSimpArgs false
set_option maxRecDepth 4000
attribute [local irreducible] WO fillCells fillRows
abbrev H140 (d:Nat)(st0:St)(kp:Key)(vp:Nat)(Q:AE→Sl→St→Prop)(K:Int→Bool→Sc→Prop):Prop:=∀(σ:Sl)(st:St)(res0:Int)(res1:Bool)(b_:Sc),σ 4=.i .i64 res0→σ 5=.b res1→lk st.bx kp=some (vp,[.s b_.left])→Fr d kp st0.bx st0.ow st.bx st.ow→K res0 res1 b_→Q .ret σ st
section
variable {prog:Prog}{d:Nat}{Q:AE→Sl→St→Prop}{K:Int→Bool→Sc→Prop}{st0:St}{kp:Key}{vp:Nat}(hQ:H140 d st0 kp vp Q K)(hkp:kp.1<d){σ:Sl}{st:St}
include hQ hkp
end
abbrev H117 (d:Nat)(st0:St)(Q:AE→Sl→St→Prop)(K:Int→Frm→Bool→Prop):Prop:=∀(σ:Sl)(st:St)(k1:Key)(v1:Nat)(res0:Int)(res1:Frm)(res2:Bool),σ 4=.i .i64 res0→σ 5=.p k1 v1 0→lk st.bx k1=some (v1,[.i .i64 res1.func,.i .i64 res1.pos,.i .u64 res1.mode,.sl .full (List.map Loc.row res1.locals)])→σ 6=.b res2→Fr d (d,0) st0.bx st0.ow st.bx st.ow→K res0 res1 res2→Q .ret σ st
section
variable {prog:Prog}{d:Nat}{Q:AE→Sl→St→Prop}{K:Int→Frm→Bool→Prop}{st0:St}(hQ:H117 d st0 Q K){σ:Sl}{st:St}
include hQ
end
abbrev H118 (Q:AE→Sl→St→Prop)(K:Loc→Bool→Prop):Prop:=∀(σ:Sl)(st:St)(k0:Key)(v0:Nat)(o0_0:Own)(res0:Loc)(res1:Bool),σ 4=.p k0 v0 0→lk st.bx k0=some (v0,[.i .i64 res0.slot,.i .u8 res0.value.kind,.i .i64 res0.value.int,.s res0.value.text,.sl o0_0 (List.map Val.row res0.value.list),.b res0.value.cut])→σ 5=.b res1→K res0 res1→Q .ret σ st
section
variable {prog:Prog}{d:Nat}{Q:AE→Sl→St→Prop}{K:Loc→Bool→Prop}(hQ:H118 Q K){σ:Sl}{st:St}
include hQ
end
abbrev H84 (Q:AE→Sl→St→Prop)(K:Int→Frm→Int→Prop):Prop:=∀(σ:Sl)(st:St)(k1:Key)(v1:Nat)(o1_0:Own)(res0:Int)(res1:Frm)(res2:Int),σ 4=.i .i64 res0→σ 5=.p k1 v1 0→lk st.bx k1=some (v1,[.i .i64 res1.func,.i .i64 res1.pos,.i .u64 res1.mode,.sl o1_0 (List.map Loc.row res1.locals)])→σ 6=.i .i64 res2→K res0 res1 res2→Q .ret σ st
section
variable {prog:Prog}{d:Nat}{Q:AE→Sl→St→Prop}{K:Int→Frm→Int→Prop}(hQ:H84 Q K){σ:Sl}{st:St}
include hQ
end
end Go.AM

/- Parts of the proof. -/
namespace Go.AM
open Go
set_option linter.unusedVariables false
set_option linter.unusedSimpArgs false
set_option maxRecDepth 4000
attribute [local irreducible] WO fillCells fillRows
abbrev H81 (Q:AE→Sl→St→Prop)(K:Bool→Prop):Prop:=∀(σ:Sl)(st:St)(res0:Bool),σ 2=.b res0→K res0→Q .ret σ st
section
variable {prog:Prog}{d:Nat}{Q:AE→Sl→St→Prop}{K:Bool→Prop}(hQ:H81 Q K){σ:Sl}{st:St}
include hQ
end
def r79_0:List AI:=[oY 1 3 0,oC 2 (.b false)]
def r79_1:List AI:=[oI 3 0]
def r79_2:List AI:=[oM 6 3,oF 7 2 1,oL 8 7,oJ 9 8,oT 10 .lss 6 9,oM 11 10,gT 11 (oM 12 3),gT 11 (oV 13 .leq 12 40),oA 14 11 13]
def r79_3:List AI:=[oF 17 2 1,oL 18 17,oM 19 3,oX 20 7 18 19,oK 21 7 20,oO 4 (.alloc [zs,z6,z6,zl,zl,zl,zl]),oS 7 4 21]
def r79_4:List AI:=[oF 22 0 4,oL 23 22,oH 24 23,oV 25 .gtr 24 40,oM 26 25,gF 26 (oF 27 3 4),gF 26 (oL 28 27),gF 26 (oJ 29 28),gF 26 (oV 30 .gtr 29 30),oR 31 26 30,oM 32 31,gF 32 (oF 33 4 4),gF 32 (oL 34 33),gF 32 (oJ 35 34),gF 32 (oV 36 .gtr 35 300),oR 37 32 36]
def r79_5:List AI:=[oC 2 (.b true)]
def r79_6:List AI:=[oI 5 0]
def r79_7:List AI:=[oM 38 5,oF 39 3 4,oL 40 39,oJ 41 40,oT 42 .lss 38 41]
def r79_8:List AI:=[oF 45 3 4,oL 46 45,oM 47 5,oX 48 2 46 47,oF 49 0 48,oL 50 49,oH 51 50,oV 52 .gtr 51 40]
def r79_9:List AI:=[oC 2 (.b true)]
def r79_10:List AI:=[oM 43 5,oV 44 .add 43 1,oM 5 44]
def r79_11:List AI:=[oM 15 3,oV 16 .add 15 1,oM 3 16]
def r79_12:List AI:=[oF 53 2 1,oL 54 53,oJ 55 54,oV 56 .gtr 55 40,oM 2 56]
abbrev l79_1:AC:=(.seq (sR 8 r79_7 (.cond (.t 42) .skip (.exit 2))) (.seq (.block 3 (sR 10 r79_8 (.cond (.t 52) (sR 11 r79_9 .ret) .skip))) (.reg 9 r79_10)))
abbrev c79_1:AC:=(sR 7 r79_6 (.block 2 (.loop l79_1)))
abbrev c79_2:AC:=(.reg 3 r79_11)
abbrev c79_3:AC:=(.seq (.block 1 (sR 4 r79_3 (.seq (sR 5 r79_4 (.cond (.t 37) (sR 6 r79_5 .ret) .skip)) c79_1))) c79_2)
abbrev l79_0:AC:=(.seq (sR 2 r79_2 (.cond (.t 14) .skip (.exit 0))) c79_3)
abbrev c79_5:AC:=(sR 12 r79_12 .ret)
abbrev b79:AC:=(sR 0 r79_0 (.seq (sR 1 r79_1 (.block 0 (.loop l79_0))) c79_5))
def pf79:AF:={ nt:=57,res:=[.tmp 2],body:=b79 }
abbrev I79_0 (prog:Prog)(d:Nat)(Q:AE→Sl→St→Prop)(i3:Int)(m0:Img):Prop:=
  ∀(σ:Sl)(st:St)(v0:Nat),σ 1=.p (d,0) v0 0→σ 3=.i .i64 i3→lk st.bx (d,0)=some (v0,[.sl .ext (List.map Typ.row m0.types),.sl .ext (List.map rowS m0.texts),.sl .ext (List.map Fun.row m0.funcs)])→W prog d (.loop l79_0) σ st (blockW 0 (thenW prog d c79_5 Q))
abbrev I79_1 (prog:Prog)(d:Nat)(Q:AE→Sl→St→Prop)(i3:Int)(k5:Int)(m0:Img)(m16389:Fun):Prop:=
  ∀(σ:Sl)(st:St) (v0 v16389:Nat),σ 1=.p (d,0) v0 0→σ 3=.i .i64 i3→σ 4=.p (d,16389) v16389 0→σ 5=.i .i64 k5→lk st.bx (d,0)=some (v0,[.sl .ext (List.map Typ.row m0.types),.sl .ext (List.map rowS m0.texts),.sl .ext (List.map Fun.row m0.funcs)])→lk st.bx (d,16389)=some (v16389,[.s m16389.name,.i .i64 m16389.params,.i .i64 m16389.result,.sl .ext (List.map Fld.row m16389.slots),.sl .ext (List.map Ins.row m16389.code),.sl .ext (List.map Rnn.row m16389.sizes),.sl .ext (List.map Rnn.row m16389.lives)])→W prog d (.loop l79_1) σ st (blockW 2 (blockW 1 (thenW prog d c79_2 (thenW prog d (.loop l79_0) (blockW 0 (thenW prog d c79_5 Q))))))
def T79_5 (prog:Prog)(K:Bool→Prop)(P0:Int→Img→Prop)(i3:Int)(m0:Img):Prop:=
  P0 (IntKind.i64.wrap (i3+1)) m0
def T79_4 (prog:Prog)(K:Bool→Prop)(P1:Int→Img→Fun→Prop)(P0:Int→Img→Prop)(i3:Int)(k5:Int)(m0:Img)(m16389:Fun):Prop:=
  (k5<(m16389.slots.length:Int)→0≤k5∧∃c:Fld,m16389.slots[(k5).toNat]?=some c∧((c.name.length:Int)>40→K true)∧(¬((c.name.length:Int)>40)→P1 (IntKind.i64.wrap (k5+1)) m0 m16389))∧(¬(k5<(m16389.slots.length:Int))→T79_5 prog K P0 i3 m0)
def T79_3 (prog:Prog)(K:Bool→Prop)(P0:Int→Img→Prop)(i3:Int)(m0:Img)(m16389:Fun):Prop:=
  ∀P1:Int→Img→Fun→Prop,(∀(k5:Int)(m0:Img)(m16389:Fun),T79_4 prog K P1 P0 i3 k5 m0 m16389→P1 k5 m0 m16389)→P1 0 m0 m16389
def T79_2 (prog:Prog)(K:Bool→Prop)(P0:Int→Img→Prop)(i3:Int)(m0:Img):Prop:=
  0≤i3∧∃c:Fun,m0.funcs[(i3).toNat]?=some c∧((c.name.length:Int)>40→K true)∧(¬((c.name.length:Int)>40)→((c.slots.length:Int)>30→K true)∧(¬((c.slots.length:Int)>30)→((c.code.length:Int)>300→K true)∧(¬((c.code.length:Int)>300)→T79_3 prog K P0 i3 m0 c)))
def T79_6 (prog:Prog)(K:Bool→Prop)(m0:Img):Prop:=
  K (decide ((m0.funcs.length:Int)>40))
def T79_1 (prog:Prog)(K:Bool→Prop)(P0:Int→Img→Prop)(i3:Int)(m0:Img):Prop:=
  (i3<(m0.funcs.length:Int)→(i3≤40→T79_2 prog K P0 i3 m0)∧(¬(i3≤40)→T79_6 prog K m0))∧(¬(i3<(m0.funcs.length:Int))→T79_6 prog K m0)
def T79_0 (prog:Prog)(K:Bool→Prop)(m0:Img):Prop:=
  ∀P0:Int→Img→Prop,(∀(i3:Int)(m0:Img),T79_1 prog K P0 i3 m0→P0 i3 m0)→P0 0 m0
section
variable {prog:Prog}{d:Nat}{Q:AE→Sl→St→Prop}{K:Bool→Prop}(hQ:H1 AV.b 2 Q K){σ:Sl}{st:St}
include hQ
variable {i3:Int}{m0:Img}{P0:Int→Img→Prop}{v0:Nat}{k5:Int}{m16389:Fun}{P1:Int→Img→Fun→Prop}{v16389:Nat}
variable (kP1 :∀(k5:Int)(m0:Img)(m16389:Fun),P1 k5 m0 m16389→I79_1 prog d Q i3 k5 m0 m16389)(H0:σ 0=m0.av) (kP0 :∀(i3:Int)(m0:Img),P0 i3 m0→I79_0 prog d Q i3 m0)(H1:σ 1=.p (d,0) v0 0)(H3:σ 3=.i .i64 i3)(H4:σ 4=.p (d,16389) v16389 0)(H5:σ 5=.i .i64 k5)(B0:lk st.bx (d,0)=some (v0,[.sl .ext (List.map Typ.row m0.types),.sl .ext (List.map rowS m0.texts),.sl .ext (List.map Fun.row m0.funcs)]))(B16389:lk st.bx (d,16389)=some (v16389,[.s m16389.name,.i .i64 m16389.params,.i .i64 m16389.result,.sl .ext (List.map Fld.row m16389.slots),.sl .ext (List.map Ins.row m16389.code),.sl .ext (List.map Rnn.row m16389.sizes),.sl .ext (List.map Rnn.row m16389.lives)]))
include kP0 H1 H3 B0 in
theorem w79_5 (h:T79_5 prog K P0 i3 m0):W prog d c79_2 σ st (thenW prog d (.loop l79_0) (blockW 0 (thenW prog d c79_5 Q))):=
 W.reg0 J fun _ _=>m_ (b_ H3 J add_ (m_ (e_ (kP0 _ _ h _ _ _ H1 J B0))))
include kP1 kP0 H1 H3 H4 H5 B0 B16389 in
theorem w79_4 (h:T79_4 prog K P1 P0 i3 k5 m0 m16389):W prog d l79_1 σ st (thenW prog d (.loop l79_1) (blockW 2 (blockW 1 (thenW prog d c79_2 (thenW prog d (.loop l79_0) (blockW 0 (thenW prog d c79_5 Q))))))):=
 sq_ (q_ J (m_ (f_ H4 (l_ J B16389 J J (ll_ J (b_ H5 J lss_ (e_ (cs_ J (fun c=>sk_ (sq_ (bk_ (q_ J (f_ H4 (l_ J B16389 J J (m_ ((h.1 c).2.elim fun j e=>ia_ J H5 (h.1 c).1 e.1 (Fld.row_eq j) J (ff_ J (lf_ J J J (ln_ J (b_ J J gtr_ (e_ (cs_ J (fun i=>q_ J (m_ (er_ (hQ J (e.2.1 i))))) (fun i=>sk_ (W.reg0 J fun _ _=>m_ (b_ H5 J add_ (m_ (e_ (kP1 _ _ _ (e.2.2 i) _ _ _ _ H1 H3 H4 J B0 B16389)))))))))))))))))))) (fun c=>ex_ (w79_5 hQ kP0 H1 H3 B0 (h.2 c)))))))))))
include kP0 H1 H3 H4 B0 B16389 in
theorem w79_3 (h:T79_3 prog K P0 i3 m0 m16389):W prog d c79_1 σ st (blockW 1 (thenW prog d c79_2 (thenW prog d (.loop l79_0) (blockW 0 (thenW prog d c79_5 Q))))):=
 q_ J (m_ (e_ (bk_ (h (I79_1 prog d Q i3) (fun _ _ _ hb _ _ _ _ H1 H3 H4 H5 B0 B16389=>W.loop (w79_4 hQ (fun _ _ _ x=>x) kP0 H1 H3 H4 H5 B0 B16389 hb)) _ _ _ _ H1 H3 H4 J B0 B16389))))
include kP0 H1 H3 B0 in
theorem w79_2 (h:T79_2 prog K P0 i3 m0):W prog d c79_3 σ st (thenW prog d (.loop l79_0) (blockW 0 (thenW prog d c79_5 Q))):=
 sq_ (bk_ (sq_ (W.reg (f_ H1 (l_ J (lk_other J B0) J J (m_ (h.2.elim fun o c=>ia_ J H3 h.1 c.1 (Fun.row_eq o) J (lf_ J J J (s_alloc (so_ J (show lk _ (d,16389)=some (_,([.s [],.i .i64 0,.i .i64 0,.sl .full (List.map Fld.row ([]:List Fld)),.sl .full (List.map Ins.row ([]:List Ins)),.sl .full (List.map Rnn.row ([]:List Rnn)),.sl .full (List.map Rnn.row ([]:List Rnn))]:List AV)) from lk_here) J J J (e_ (sq_ (q_ J (f_ J (l_ J lk_here J J (ln_ J (b_ J J gtr_ (s_mvB J (em_ (g:=26) J (fun e=>z_ 11 J (e_ (ct_ J (q_ J (m_ (er_ (hQ J (c.2.1 e)))))))) (fun e=>gy_ J (f_ J (gy_ J (l_ J lk_here J J (gy_ J (ll_ J (gy_ J (b_ J J gtr_ (z_ 2 J (em_ (g:=32) J (fun j=>z_ 5 J (e_ (ct_ J (q_ J (m_ (er_ (hQ J ((c.2.2 e).1 j)))))))) (fun j=>gy_ J (f_ J (gy_ J (l_ J lk_here J J (gy_ J (ll_ J (gy_ J (b_ J J gtr_ (pf_ J J (e_ (cs_ J (fun k=>q_ J (m_ (er_ (hQ J (((c.2.2 e).2 j).1 k))))) (fun k=>sk_ (w79_3 hQ kP0 H1 H3 J (lk_other J (lk_other J B0)) lk_here (((c.2.2 e).2 j).2 k)))))))))))))))))))))))))))))))))))))))))))
include H1 B0 in
theorem w79_6 (h:T79_6 prog K m0):W prog d c79_5 σ st Q:=
 q_ J (f_ H1 (l_ J B0 J J (ll_ J (b_ J J gtr_ (m_ (er_ (hQ J h)))))))
include kP0 H1 H3 B0 in
theorem w79_1 (h:T79_1 prog K P0 i3 m0):W prog d l79_0 σ st (thenW prog d (.loop l79_0) (blockW 0 (thenW prog d c79_5 Q))):=
 sq_ (q_ J (s_mvI H3 (f_ H1 (l_ J B0 J J (ll_ J (b_ J J lss_ (s_mvB J (em_ (g:=11) J (fun c=>gy_ J (s_mvI H3 (gy_ J (b_ J J leq_ (pt_ J J (e_ (cs_ J (fun e=>sk_ (w79_2 hQ kP0 H1 H3 B0 ((h.1 c).1 e))) (fun e=>ex_ (w79_6 hQ H1 B0 ((h.1 c).2 e)))))))))) (fun c=>z_ 3 J (e_ (cf_ J (ex_ (w79_6 hQ H1 B0 (h.2 c))))))))))))))
include H0 in
theorem w79_0 (h:T79_0 prog K m0):W prog d (sR 0 r79_0 (.seq (sR 1 r79_1 (.block 0 (.loop l79_0))) c79_5)) σ st Q:=
 q_ J (s_box H0 J (m_ (e_ (sq_ (q_ J (m_ (e_ (bk_ (h (I79_0 prog d Q ) (fun _ _ hb _ _ _ H1 H3 B0=>W.loop (w79_1 hQ (fun _ _ x=>x) H1 H3 B0 hb)) _ _ _ J J lk_here)))))))))
end
theorem p79 {prog:Prog}(hf:prog.fn 79=some pf79){m0:Img}{K:Bool→Prop}(h:T79_0 prog K m0) :∃res0:Bool,K res0∧Pus prog 79 [m0.av] (.b res0):=
 P1 hf J (w79_0 (h1 J fun _=>J) J h)
def r80_0:List AI:=[oY 1 4 0,oC 2 (.b false)]
def r80_1:List AI:=[oI 3 0]
def r80_2:List AI:=[oM 4 3,oF 5 3 1,oL 6 5,oJ 7 6,oT 8 .lss 4 7,oM 9 8,gT 9 (oM 10 3),gT 9 (oV 11 .leq 10 20),oA 12 9 11]
def r80_3:List AI:=[oF 15 3 1,oL 16 15,oM 17 3,oX 18 6 16 17,oF 19 1 18,oK 20 5 19,oQ 21 71 [20]]
def r80_4:List AI:=[oC 2 (.b true)]
def r80_5:List AI:=[oM 13 3,oV 14 .add 13 1,oM 3 14]
def r80_6:List AI:=[oF 22 3 1,oL 23 22,oJ 24 23,oV 25 .gtr 24 20,oM 2 25]
abbrev c80_0:AC:=(.seq (.block 1 (sR 4 r80_3 (.cond (.t 21) (sR 5 r80_4 .ret) .skip))) (.reg 3 r80_5))
abbrev l80_0:AC:=(.seq (sR 2 r80_2 (.cond (.t 12) .skip (.exit 0))) c80_0)
abbrev c80_2:AC:=(sR 6 r80_6 .ret)
abbrev b80:AC:=(sR 0 r80_0 (.seq (sR 1 r80_1 (.block 0 (.loop l80_0))) c80_2))
def pf80:AF:={ nt:=26,res:=[.tmp 2],body:=b80 }
abbrev I80_0 (prog:Prog)(d:Nat)(Q:AE→Sl→St→Prop)(i3:Int)(m0:Frm):Prop:=
  ∀(σ:Sl)(st:St)(v0:Nat),σ 1=.p (d,0) v0 0→σ 3=.i .i64 i3→lk st.bx (d,0)=some (v0,[.i .i64 m0.func,.i .i64 m0.pos,.i .u64 m0.mode,.sl .ext (List.map Loc.row m0.locals)])→W prog d (.loop l80_0) σ st (blockW 0 (thenW prog d c80_2 Q))
def T80_2 (prog:Prog)(K:Bool→Prop)(P0:Int→Frm→Prop)(i3:Int)(m0:Frm):Prop:=
  0≤i3∧∃e:Loc,m0.locals[(i3).toNat]?=some e∧∃c,Pus prog 71 [e.value.av] (.b c)∧(c=true→K true)∧(c=false→P0 (IntKind.i64.wrap (i3+1)) m0)
def T80_3 (prog:Prog)(K:Bool→Prop)(m0:Frm):Prop:=
  K (decide ((m0.locals.length:Int)>20))
def T80_1 (prog:Prog)(K:Bool→Prop)(P0:Int→Frm→Prop)(i3:Int)(m0:Frm):Prop:=
  (i3<(m0.locals.length:Int)→(i3≤20→T80_2 prog K P0 i3 m0)∧(¬(i3≤20)→T80_3 prog K m0))∧(¬(i3<(m0.locals.length:Int))→T80_3 prog K m0)
def T80_0 (prog:Prog)(K:Bool→Prop)(x0:Frm):Prop:=
  ∀P0:Int→Frm→Prop,(∀(i3:Int)(m0:Frm),T80_1 prog K P0 i3 m0→P0 i3 m0)→P0 0 x0
section
variable {prog:Prog}{d:Nat}{Q:AE→Sl→St→Prop}{K:Bool→Prop}(hQ:H1 AV.b 2 Q K){σ:Sl}{st:St}
include hQ
variable {i3:Int}{m0:Frm}{P0:Int→Frm→Prop}{v0:Nat}{x0:Frm}
variable (kP0 :∀(i3:Int)(m0:Frm),P0 i3 m0→I80_0 prog d Q i3 m0)(H0:σ 0=x0.av)(H1:σ 1=.p (d,0) v0 0)(H3:σ 3=.i .i64 i3)(B0:lk st.bx (d,0)=some (v0,[.i .i64 m0.func,.i .i64 m0.pos,.i .u64 m0.mode,.sl .ext (List.map Loc.row m0.locals)]))
include kP0 H1 H3 B0 in
theorem w80_2 (h:T80_2 prog K P0 i3 m0):W prog d c80_0 σ st (thenW prog d (.loop l80_0) (blockW 0 (thenW prog d c80_2 Q))):=
 sq_ (bk_ (q_ J (f_ H1 (l_ J B0 J J (m_ (h.2.elim fun j i=>ia_ J H3 h.1 i.1 (Loc.row_eq j) J (ff_ J (lf_ J J J (i.2.elim fun _ c=>ca_ (sc1 J J) c.1 (e_ (cb_ J (fun e=>q_ J (m_ (er_ (hQ J (c.2.1 e))))) (fun e=>sk_ (W.reg0 J fun _ _=>m_ (b_ H3 J add_ (m_ (e_ (kP0 _ _ (c.2.2 e) _ _ _ H1 J B0)))))))))))))))))
include H1 B0 in
theorem w80_3 (h:T80_3 prog K m0):W prog d c80_2 σ st Q:=
 q_ J (f_ H1 (l_ J B0 J J (ll_ J (b_ J J gtr_ (m_ (er_ (hQ J h)))))))
include kP0 H1 H3 B0 in
theorem w80_1 (h:T80_1 prog K P0 i3 m0):W prog d l80_0 σ st (thenW prog d (.loop l80_0) (blockW 0 (thenW prog d c80_2 Q))):=
 sq_ (q_ J (s_mvI H3 (f_ H1 (l_ J B0 J J (ll_ J (b_ J J lss_ (s_mvB J (em_ (g:=9) J (fun c=>gy_ J (s_mvI H3 (gy_ J (b_ J J leq_ (pt_ J J (e_ (cs_ J (fun e=>sk_ (w80_2 hQ kP0 H1 H3 B0 ((h.1 c).1 e))) (fun e=>ex_ (w80_3 hQ H1 B0 ((h.1 c).2 e)))))))))) (fun c=>z_ 3 J (e_ (cf_ J (ex_ (w80_3 hQ H1 B0 (h.2 c))))))))))))))
include H0 in
theorem w80_0 (h:T80_0 prog K x0):W prog d (sR 0 r80_0 (.seq (sR 1 r80_1 (.block 0 (.loop l80_0))) c80_2)) σ st Q:=
 q_ J (s_box H0 J (m_ (e_ (sq_ (q_ J (m_ (e_ (bk_ (h (I80_0 prog d Q ) (fun _ _ hb _ _ _ H1 H3 B0=>W.loop (w80_1 hQ (fun _ _ x=>x) H1 H3 B0 hb)) _ _ _ J J lk_here)))))))))
end
theorem p80 {prog:Prog}(hf:prog.fn 80=some pf80){x0:Frm}{K:Bool→Prop}(h:T80_0 prog K x0) :∃res0:Bool,K res0∧Pus prog 80 [x0.av] (.b res0):=
 P1 hf J (w80_0 (h1 J fun _=>J) J h)
abbrev H83 (Q:AE→Sl→St→Prop)(K:LB→Int→Prop):Prop:=∀(σ:Sl)(st:St)(o0:Own)(res0:LB)(res1:Int),σ 6=.sl o0 (List.map rowS res0)→σ 7=.i .i64 res1→K res0 res1→Q .ret σ st
section
variable {prog:Prog}{d:Nat}{Q:AE→Sl→St→Prop}{K:LB→Int→Prop}(hQ:H83 Q K){σ:Sl}{st:St}
include hQ
end
def r87_0:List AI:=[oY 2 3 0,oY 3 4 1,oI 4 0]
def r87_1:List AI:=[oF 9 0 3,oL 10 9,oV 11 .lss 10 0,oM 12 11,gF 12 (oF 13 0 3),gF 12 (oL 14 13),gF 12 (oF 15 2 2),gF 12 (oL 16 15),gF 12 (oJ 17 16),gF 12 (oT 18 .geq 14 17),oR 19 12 18,oM 20 19,gF 20 (oF 21 2 3),gF 20 (oL 22 21),gF 20 (oB 23 .gtr (.t 22) (.c (.i .u64 3))),oR 24 20 23]
def r87_2:List AI:=[oI 4 8]
def r87_3:List AI:=[oF 25 2 2,oL 26 25,oF 27 0 3,oL 28 27,oX 29 7 26 28,oK 30 7 29,oO 5 (.alloc [zs,z6,z6,zl,zl,zl,zl]),oS 7 5 30]
def r87_4:List AI:=[oF 31 3 5,oL 32 31,oJ 33 32,oV 34 .gtr 33 16,oM 35 34,gF 35 (oF 36 0 5),gF 35 (oL 37 36),gF 35 (oH 38 37),gF 35 (oV 39 .gtr 38 16),oR 40 35 39,oM 41 40,gF 41 (oF 42 1 3),gF 41 (oL 43 42),gF 41 (oV 44 .lss 43 0),oR 45 41 44,oM 46 45,gF 46 (oF 47 1 3),gF 46 (oL 48 47),gF 46 (oF 49 4 5),gF 46 (oL 50 49),gF 46 (oJ 51 50),gF 46 (oT 52 .geq 48 51),oR 53 46 52]
def r87_5:List AI:=[oI 4 8]
def r87_6:List AI:=[oI 6 0]
def r87_7:List AI:=[oM 54 6,oF 55 3 5,oL 56 55,oJ 57 56,oT 58 .lss 54 57]
def r87_8:List AI:=[oF 61 3 5,oL 62 61,oM 63 6,oX 64 2 62 63,oF 65 0 64,oL 66 65,oH 67 66,oV 68 .gtr 67 16]
def r87_9:List AI:=[oI 4 8]
def r87_10:List AI:=[oM 59 6,oV 60 .add 59 1,oM 6 60]
def r87_11:List AI:=[oI 7 0]
def r87_12:List AI:=[oM 69 7,oF 70 3 3,oL 71 70,oJ 72 71,oT 73 .lss 69 72]
def r87_13:List AI:=[oF 76 3 3,oL 77 76,oM 78 7,oX 79 6 77 78,oK 80 6 79,oO 8 (.alloc [z6,z8,z6,zs,zl,zb]),oS 6 8 80]
def r87_14:List AI:=[oF 81 0 8,oL 82 81,oV 83 .lss 82 0,oM 84 83,gF 84 (oF 85 0 8),gF 84 (oL 86 85),gF 84 (oF 87 3 5),gF 84 (oL 88 87),gF 84 (oJ 89 88),gF 84 (oT 90 .geq 86 89),oR 91 84 90,oM 92 91,gF 92 (oM 93 7),gF 92 (oV 94 .gtr 93 0),gF 92 (oM 95 94),gT 95 (oF 96 3 3),gT 95 (oL 97 96),gT 95 (oM 98 7),gT 95 (oV 99 .sub 98 1),gT 95 (oX 100 6 97 99),gT 95 (oF 101 0 100),gT 95 (oL 102 101),gT 95 (oF 103 0 8),gT 95 (oL 104 103),gT 95 (oT 105 .geq 102 104),gF 92 (oA 106 95 105),oR 107 92 106,oM 108 107,gF 108 (oF 109 1 8),gF 108 (oK 110 5 109),gF 108 (oQ 111 77 [110]),gF 108 (oV 112 .neq 111 0),oR 113 108 112]
def r87_15:List AI:=[oI 4 8]
def r87_16:List AI:=[oM 74 7,oV 75 .add 74 1,oM 7 75]
def r87_17:List AI:=[oI 4 0]
abbrev l87_0:AC:=(.seq (sR 7 r87_7 (.cond (.t 58) .skip (.exit 0))) (.seq (.block 1 (sR 9 r87_8 (.cond (.t 68) (sR 10 r87_9 .ret) .skip))) (.reg 8 r87_10)))
abbrev l87_1:AC:=(.seq (sR 12 r87_12 (.cond (.t 73) .skip (.exit 2))) (.seq (.block 3 (sR 14 r87_13 (sR 15 r87_14 (.cond (.t 113) (sR 16 r87_15 .ret) .skip)))) (.reg 13 r87_16)))
abbrev c87_2:AC:=(sR 17 r87_17 .ret)
abbrev c87_3:AC:=(.seq (sR 11 r87_11 (.block 2 (.loop l87_1))) c87_2)
abbrev c87_4:AC:=(.seq (sR 6 r87_6 (.block 0 (.loop l87_0))) c87_3)
abbrev c87_5:AC:=(.seq (sR 4 r87_4 (.cond (.t 53) (sR 5 r87_5 .ret) .skip)) c87_4)
abbrev c87_6:AC:=(sR 3 r87_3 c87_5)
abbrev c87_7:AC:=(.seq (sR 1 r87_1 (.cond (.t 24) (sR 2 r87_2 .ret) .skip)) c87_6)
abbrev b87:AC:=(sR 0 r87_0 c87_7)
def pf87:AF:={ nt:=114,res:=[.tmp 4],body:=b87 }
abbrev I87_0 (prog:Prog)(d:Nat)(Q:AE→Sl→St→Prop)(i6:Int)(m1:Frm)(m12294:Fun):Prop:=
  ∀(σ:Sl)(st:St) (v1 v12294:Nat),σ 3=.p (d,1) v1 0→σ 5=.p (d,12294) v12294 0→σ 6=.i .i64 i6→lk st.bx (d,1)=some (v1,[.i .i64 m1.func,.i .i64 m1.pos,.i .u64 m1.mode,.sl .ext (List.map Loc.row m1.locals)])→lk st.bx (d,12294)=some (v12294,[.s m12294.name,.i .i64 m12294.params,.i .i64 m12294.result,.sl .ext (List.map Fld.row m12294.slots),.sl .ext (List.map Ins.row m12294.code),.sl .ext (List.map Rnn.row m12294.sizes),.sl .ext (List.map Rnn.row m12294.lives)])→W prog d (.loop l87_0) σ st (blockW 0 (thenW prog d c87_3 Q))
abbrev I87_1 (prog:Prog)(d:Nat)(Q:AE→Sl→St→Prop)(i7:Int)(m1:Frm)(m12294:Fun):Prop:=
  ∀(σ:Sl)(st:St) (v1 v12294:Nat),σ 3=.p (d,1) v1 0→σ 5=.p (d,12294) v12294 0→σ 7=.i .i64 i7→lk st.bx (d,1)=some (v1,[.i .i64 m1.func,.i .i64 m1.pos,.i .u64 m1.mode,.sl .ext (List.map Loc.row m1.locals)])→lk st.bx (d,12294)=some (v12294,[.s m12294.name,.i .i64 m12294.params,.i .i64 m12294.result,.sl .ext (List.map Fld.row m12294.slots),.sl .ext (List.map Ins.row m12294.code),.sl .ext (List.map Rnn.row m12294.sizes),.sl .ext (List.map Rnn.row m12294.lives)])→W prog d (.loop l87_1) σ st (blockW 2 (thenW prog d c87_2 Q))
def T87_8 (prog:Prog)(K:Int→Prop) :Prop:=
  K 0
def T87_7 (prog:Prog)(K:Int→Prop)(P1:Int→Frm→Fun→Prop)(i7:Int)(m1:Frm)(m12294:Fun):Prop:=
  (i7<(m1.locals.length:Int)→0≤i7∧∃c:Loc,m1.locals[(i7).toNat]?=some c∧(c.slot<0→K 8)∧(¬(c.slot<0)→(c.slot≥(m12294.slots.length:Int)→K 8)∧(¬(c.slot≥(m12294.slots.length:Int))→(i7>0→0≤(IntKind.i64.wrap (i7-1))∧∃e:Loc,m1.locals[(IntKind.i64.wrap (i7-1)).toNat]?=some e∧(e.slot≥c.slot→K 8)∧(¬(e.slot≥c.slot)→∃k,Pus prog 77 [c.value.av] (.i .i64 k)∧(k≠0→K 8)∧(¬(k≠0)→P1 (IntKind.i64.wrap (i7+1)) m1 m12294)))∧(¬(i7>0)→∃j,Pus prog 77 [c.value.av] (.i .i64 j)∧(j≠0→K 8)∧(¬(j≠0)→P1 (IntKind.i64.wrap (i7+1)) m1 m12294)))))∧(¬(i7<(m1.locals.length:Int))→T87_8 prog K )
def T87_6 (prog:Prog)(K:Int→Prop)(m1:Frm)(m12294:Fun):Prop:=
  ∀P1:Int→Frm→Fun→Prop,(∀(i7:Int)(m1:Frm)(m12294:Fun),T87_7 prog K P1 i7 m1 m12294→P1 i7 m1 m12294)→P1 0 m1 m12294
def T87_5 (prog:Prog)(K:Int→Prop)(P0:Int→Frm→Fun→Prop)(i6:Int)(m1:Frm)(m12294:Fun):Prop:=
  (i6<(m12294.slots.length:Int)→0≤i6∧∃c:Fld,m12294.slots[(i6).toNat]?=some c∧((c.name.length:Int)>16→K 8)∧(¬((c.name.length:Int)>16)→P0 (IntKind.i64.wrap (i6+1)) m1 m12294))∧(¬(i6<(m12294.slots.length:Int))→T87_6 prog K m1 m12294)
def T87_4 (prog:Prog)(K:Int→Prop)(m1:Frm)(m12294:Fun):Prop:=
  ∀P0:Int→Frm→Fun→Prop,(∀(i6:Int)(m1:Frm)(m12294:Fun),T87_5 prog K P0 i6 m1 m12294→P0 i6 m1 m12294)→P0 0 m1 m12294
def T87_3 (prog:Prog)(K:Int→Prop)(m1:Frm)(m12294:Fun):Prop:=
  ((m12294.slots.length:Int)>16→K 8)∧(¬((m12294.slots.length:Int)>16)→((m12294.name.length:Int)>16→K 8)∧(¬((m12294.name.length:Int)>16)→(m1.pos<0→K 8)∧(¬(m1.pos<0)→(m1.pos≥(m12294.code.length:Int)→K 8)∧(¬(m1.pos≥(m12294.code.length:Int))→T87_4 prog K m1 m12294))))
def T87_2 (prog:Prog)(K:Int→Prop)(m0:Img)(m1:Frm):Prop:=
  0≤m1.func∧∃c,m0.funcs[(m1.func).toNat]?=some c∧T87_3 prog K m1 c
def T87_1 (prog:Prog)(K:Int→Prop)(m0:Img)(m1:Frm):Prop:=
  (m1.func<0→K 8)∧(¬(m1.func<0)→(m1.func≥(m0.funcs.length:Int)→K 8)∧(¬(m1.func≥(m0.funcs.length:Int))→(m1.mode>3→K 8)∧(¬(m1.mode>3)→T87_2 prog K m0 m1)))
def T87_0 (prog:Prog)(K:Int→Prop)(m0:Img)(x1:Frm):Prop:=
  T87_1 prog K m0 x1
section
variable {prog:Prog}{d:Nat}{Q:AE→Sl→St→Prop}{K:Int→Prop}(hQ:H1 (AV.i .i64) 4 Q K){σ:Sl}{st:St}
include hQ
variable {i7:Int}{m1:Frm}{m12294:Fun}{P1:Int→Frm→Fun→Prop}{v1 v12294:Nat}{i6:Int}{P0:Int→Frm→Fun→Prop}{m0:Img}{v0:Nat}{x1:Frm}
variable (kP1 :∀(i7:Int)(m1:Frm)(m12294:Fun),P1 i7 m1 m12294→I87_1 prog d Q i7 m1 m12294) (kP0 :∀(i6:Int)(m1:Frm)(m12294:Fun),P0 i6 m1 m12294→I87_0 prog d Q i6 m1 m12294)(H2:σ 2=.p (d,0) v0 0)(H0:σ 0=m0.av)(H3:σ 3=.p (d,1) v1 0)(H1:σ 1=x1.av)(H5:σ 5=.p (d,12294) v12294 0)(B0:lk st.bx (d,0)=some (v0,[.sl .ext (List.map Typ.row m0.types),.sl .ext (List.map rowS m0.texts),.sl .ext (List.map Fun.row m0.funcs)]))(H7:σ 7=.i .i64 i7)(H6:σ 6=.i .i64 i6)(B1:lk st.bx (d,1)=some (v1,[.i .i64 m1.func,.i .i64 m1.pos,.i .u64 m1.mode,.sl .ext (List.map Loc.row m1.locals)]))(B12294:lk st.bx (d,12294)=some (v12294,[.s m12294.name,.i .i64 m12294.params,.i .i64 m12294.result,.sl .ext (List.map Fld.row m12294.slots),.sl .ext (List.map Ins.row m12294.code),.sl .ext (List.map Rnn.row m12294.sizes),.sl .ext (List.map Rnn.row m12294.lives)]))
theorem w87_8 (h:T87_8 prog K ):W prog d c87_2 σ st Q:=
 q_ J (m_ (er_ (hQ J h)))
include kP1 H3 H5 H7 B1 B12294 in
theorem w87_7 (h:T87_7 prog K P1 i7 m1 m12294):W prog d l87_1 σ st (thenW prog d (.loop l87_1) (blockW 2 (thenW prog d c87_2 Q))):=
 sq_ (q_ J (m_ (f_ H3 (l_ J B1 J J (ll_ J (b_ H7 J lss_ (e_ (cs_ J (fun k=>sk_ (sq_ (bk_ (sq_ (W.reg (f_ H3 (l_ J (lk_other J B1) J J (m_ ((h.1 k).2.elim fun x c=>ia_ J H7 (h.1 k).1 c.1 (Loc.row_eq x) J (lf_ J J J (s_alloc (so_ J (show lk _ (d,57349)=some (_,([.i .i64 0,.i .u8 0,.i .i64 0,.s [],.sl .full (List.map Val.row ([]:List Val)),.b false]:List AV)) from lk_here) J J J (e_ (q_ J (f_ J (l_ J lk_here J J (b_ J J lss_ (s_mvB J (em_ (g:=84) J (fun e=>z_ 11 J (gt_ J (gt_ J (gt_ J (gt_ J (gt_ J (gt_ J (gt_ J (gt_ J (gt_ J (gt_ J (z_ 8 J (e_ (ct_ J (q_ J (m_ (er_ (hQ J (c.2.1 e))))))))))))))))))) (fun e=>gy_ J (f_ J (gy_ J (l_ J lk_here J J (gy_ J (f_ H5 (gy_ J (l_ J (lk_other J (lk_other J B12294)) J J (gy_ J (ll_ J (gy_ J (b_ J J geq_ (z_ 2 J (em_ (g:=92) J (fun j=>z_ 3 J (gt_ J (gt_ J (gt_ J (gt_ J (gt_ J (gt_ J (gt_ J (gt_ J (gt_ J (gt_ J (z_ 8 J (e_ (ct_ J (q_ J (m_ (er_ (hQ J ((c.2.2 e).1 j))))))))))))))))))) (fun j=>gy_ J (s_mvI H7 (gy_ J (b_ J J gtr_ (gy_ J (s_mvB J (em_ (g:=95) J (fun o=>gy_ J (f_ H3 (gy_ J (l_ J (lk_other J (lk_other J B1)) J J (gy_ J (s_mvI H7 (gy_ J (b_ J J sub_ (gy_ J ((((c.2.2 e).2 j).1 o).2.elim fun y r=>ia_ J J (((c.2.2 e).2 j).1 o).1 r.1 (Loc.row_eq y) J (gy_ J (ff_ J (gy_ J (lf_ J J J (gy_ J (f_ J (gy_ J (l_ J lk_here J J (gy_ J (b_ J J geq_ (gy_ J (z_ 3 J (em_ (g:=108) J (fun w=>z_ 5 J (e_ (ct_ J (q_ J (m_ (er_ (hQ J (r.2.1 w)))))))) (fun w=>gy_ J (f_ J (gy_ J (l_ J lk_here J J (gy_ J ((r.2.2 w).elim fun _ p=>ca_ (sc1 J J) p.1 (gy_ J (b_ J J neq_ (pf_ J J (e_ (cs_ J (fun u=>q_ J (m_ (er_ (hQ J (p.2.1 u))))) (fun u=>sk_ (W.reg0 J fun _ _=>m_ (b_ H7 J add_ (m_ (e_ (kP1 _ _ _ (p.2.2 u) _ _ _ _ H3 H5 J (lk_other J (lk_other J B1)) (lk_other J (lk_other J B12294)))))))))))))))))))))))))))))))))))))))))) (fun o=>z_ 10 J (gy_ J (z_ 3 J (gy_ J (f_ J (gy_ J (l_ J lk_here J J (gy_ J ((((c.2.2 e).2 j).2 o).elim fun _ q=>ca_ (sc1 J J) q.1 (gy_ J (b_ J J neq_ (pf_ J J (e_ (cs_ J (fun v=>q_ J (m_ (er_ (hQ J (q.2.1 v))))) (fun v=>sk_ (W.reg0 J fun _ _=>m_ (b_ H7 J add_ (m_ (e_ (kP1 _ _ _ (q.2.2 v) _ _ _ _ H3 H5 J (lk_other J (lk_other J B1)) (lk_other J (lk_other J B12294)))))))))))))))))))))))))))))))))))))))))))))))))))))))))))))) (fun k=>ex_ (w87_8 hQ (h.2 k)))))))))))
include H3 H5 B1 B12294 in
theorem w87_6 (h:T87_6 prog K m1 m12294):W prog d c87_3 σ st Q:=
 sq_ (q_ J (m_ (e_ (bk_ (h (I87_1 prog d Q ) (fun _ _ _ hb _ _ _ _ H3 H5 H7 B1 B12294=>W.loop (w87_7 hQ (fun _ _ _ x=>x) H3 H5 H7 B1 B12294 hb)) _ _ _ _ H3 H5 J B1 B12294)))))
include kP0 H3 H5 H6 B1 B12294 in
theorem w87_5 (h:T87_5 prog K P0 i6 m1 m12294):W prog d l87_0 σ st (thenW prog d (.loop l87_0) (blockW 0 (thenW prog d c87_3 Q))):=
 sq_ (q_ J (m_ (f_ H5 (l_ J B12294 J J (ll_ J (b_ H6 J lss_ (e_ (cs_ J (fun c=>sk_ (sq_ (bk_ (q_ J (f_ H5 (l_ J B12294 J J (m_ ((h.1 c).2.elim fun j e=>ia_ J H6 (h.1 c).1 e.1 (Fld.row_eq j) J (ff_ J (lf_ J J J (ln_ J (b_ J J gtr_ (e_ (cs_ J (fun i=>q_ J (m_ (er_ (hQ J (e.2.1 i))))) (fun i=>sk_ (W.reg0 J fun _ _=>m_ (b_ H6 J add_ (m_ (e_ (kP0 _ _ _ (e.2.2 i) _ _ _ _ H3 H5 J B1 B12294)))))))))))))))))))) (fun c=>ex_ (w87_6 hQ H3 H5 B1 B12294 (h.2 c)))))))))))
include H3 H5 B1 B12294 in
theorem w87_4 (h:T87_4 prog K m1 m12294):W prog d c87_4 σ st Q:=
 sq_ (q_ J (m_ (e_ (bk_ (h (I87_0 prog d Q ) (fun _ _ _ hb _ _ _ _ H3 H5 H6 B1 B12294=>W.loop (w87_5 hQ (fun _ _ _ x=>x) H3 H5 H6 B1 B12294 hb)) _ _ _ _ H3 H5 J B1 B12294)))))
include H3 H5 B1 B12294 in
theorem w87_3 (h:T87_3 prog K m1 m12294):W prog d c87_5 σ st Q:=
 sq_ (q_ J (f_ H5 (l_ J B12294 J J (ll_ J (b_ J J gtr_ (s_mvB J (em_ (g:=35) J (fun c=>z_ 18 J (e_ (ct_ J (q_ J (m_ (er_ (hQ J (h.1 c)))))))) (fun c=>gy_ J (f_ H5 (gy_ J (l_ J B12294 J J (gy_ J (ln_ J (gy_ J (b_ J J gtr_ (z_ 2 J (em_ (g:=41) J (fun e=>z_ 12 J (e_ (ct_ J (q_ J (m_ (er_ (hQ J ((h.2 c).1 e)))))))) (fun e=>gy_ J (f_ H3 (gy_ J (l_ J B1 J J (gy_ J (b_ J J lss_ (z_ 2 J (em_ (g:=46) J (fun i=>z_ 7 J (e_ (ct_ J (q_ J (m_ (er_ (hQ J (((h.2 c).2 e).1 i)))))))) (fun i=>gy_ J (f_ H3 (gy_ J (l_ J B1 J J (gy_ J (f_ H5 (gy_ J (l_ J B12294 J J (gy_ J (ll_ J (gy_ J (b_ J J geq_ (pf_ J J (e_ (cs_ J (fun j=>q_ J (m_ (er_ (hQ J ((((h.2 c).2 e).2 i).1 j))))) (fun j=>sk_ (w87_4 hQ H3 H5 B1 B12294 ((((h.2 c).2 e).2 i).2 j)))))))))))))))))))))))))))))))))))))))))))
include H2 H3 B0 B1 in
theorem w87_2 (h:T87_2 prog K m0 m1):W prog d c87_6 σ st Q:=
 sq_ (W.reg (f_ H2 (l_ J (lk_other J B0) J J (f_ H3 (l_ J (lk_other J B1) J J (h.2.elim fun e c=>ia_ J J h.1 c.1 (Fun.row_eq e) J (lf_ J J J (s_alloc (so_ J (show lk _ (d,12294)=some (_,([.s [],.i .i64 0,.i .i64 0,.sl .full (List.map Fld.row ([]:List Fld)),.sl .full (List.map Ins.row ([]:List Ins)),.sl .full (List.map Rnn.row ([]:List Rnn)),.sl .full (List.map Rnn.row ([]:List Rnn))]:List AV)) from lk_here) J J J (e_ (w87_3 hQ H3 J (lk_other J (lk_other J B1)) lk_here c.2)))))))))))
include H2 H3 B0 B1 in
theorem w87_1 (h:T87_1 prog K m0 m1):W prog d c87_7 σ st Q:=
 sq_ (q_ J (f_ H3 (l_ J B1 J J (b_ J J lss_ (s_mvB J (em_ (g:=12) J (fun c=>z_ 12 J (e_ (ct_ J (q_ J (m_ (er_ (hQ J (h.1 c)))))))) (fun c=>gy_ J (f_ H3 (gy_ J (l_ J B1 J J (gy_ J (f_ H2 (gy_ J (l_ J B0 J J (gy_ J (ll_ J (gy_ J (b_ J J geq_ (z_ 2 J (em_ (g:=20) J (fun e=>z_ 4 J (e_ (ct_ J (q_ J (m_ (er_ (hQ J ((h.2 c).1 e)))))))) (fun e=>gy_ J (f_ H3 (gy_ J (l_ J B1 J J (gy_ J (b_ J J gtr_ (pf_ J J (e_ (cs_ J (fun i=>q_ J (m_ (er_ (hQ J (((h.2 c).2 e).1 i))))) (fun i=>sk_ (w87_2 hQ H2 H3 B0 B1 (((h.2 c).2 e).2 i))))))))))))))))))))))))))))))))
include H0 H1 in
theorem w87_0 (h:T87_0 prog K m0 x1):W prog d (sR 0 r87_0 c87_7) σ st Q:=
 q_ J (s_box H0 J (s_box H1 J (m_ (e_ (w87_1 hQ J J (lk_other J lk_here) lk_here h)))))
end
theorem p87 {prog:Prog}(hf:prog.fn 87=some pf87){m0:Img}{x1:Frm}{K:Int→Prop}(h:T87_0 prog K m0 x1) :∃res0:Int,K res0∧Pus prog 87 [m0.av,x1.av] (.i .i64 res0):=
 P1 hf J (w87_0 (h1 J fun _=>J) J J h)
abbrev H114 (Q:AE→Sl→St→Prop)(K:LB→Prop):Prop:=∀(σ:Sl)(st:St)(o0:Own)(res0:LB),σ 6=.sl o0 (List.map rowS res0)→K res0→Q .ret σ st
section
variable {prog:Prog}{d:Nat}{Q:AE→Sl→St→Prop}{K:LB→Prop}(hQ:H114 Q K){σ:Sl}{st:St}
include hQ
end
abbrev H137 (Q:AE→Sl→St→Prop)(K:BS→Prop):Prop:=∀(σ:Sl)(st:St)(res0:BS),σ 2=.s res0→K res0→Q .ret σ st
section
variable {prog:Prog}{d:Nat}{Q:AE→Sl→St→Prop}{K:BS→Prop}(hQ:H137 Q K){σ:Sl}{st:St}
include hQ
end
abbrev H138 (Q:AE→Sl→St→Prop)(K:BS→Prop):Prop:=∀(σ:Sl)(st:St)(res0:BS),σ 2=.s res0→K res0→Q .ret σ st
section
variable {prog:Prog}{d:Nat}{Q:AE→Sl→St→Prop}{K:BS→Prop}(hQ:H138 Q K){σ:Sl}{st:St}
include hQ
end
abbrev H88 (Q:AE→Sl→St→Prop)(K:Bool→Prop):Prop:=∀(σ:Sl)(st:St)(res0:Bool),σ 4=.b res0→K res0→Q .ret σ st
section
variable {prog:Prog}{d:Nat}{Q:AE→Sl→St→Prop}{K:Bool→Prop}(hQ:H88 Q K){σ:Sl}{st:St}
include hQ
end
abbrev H124 (Q:AE→Sl→St→Prop)(K:Bool→Prop):Prop:=∀(σ:Sl)(st:St)(res0:Bool),σ 4=.b res0→K res0→Q .ret σ st
section
variable {prog:Prog}{d:Nat}{Q:AE→Sl→St→Prop}{K:Bool→Prop}(hQ:H124 Q K){σ:Sl}{st:St}
include hQ
end
end Go.AM

/- Parts of the proof. -/
namespace Go.AM
open Go
set_option linter.unusedVariables false
set_option linter.unusedSimpArgs false
set_option maxRecDepth 4000
attribute [local irreducible] WO fillCells fillRows
abbrev H85 (Q:AE→Sl→St→Prop)(K:Int→Frm→Int→Prop):Prop:=∀(σ:Sl)(st:St)(k1:Key)(v1:Nat)(o1_0:Own)(res0:Int)(res1:Frm)(res2:Int),σ 4=.i .i64 res0→σ 5=.p k1 v1 0→lk st.bx k1=some (v1,[.i .i64 res1.func,.i .i64 res1.pos,.i .u64 res1.mode,.sl o1_0 (List.map Loc.row res1.locals)])→σ 6=.i .i64 res2→K res0 res1 res2→Q .ret σ st
section
variable {prog:Prog}{d:Nat}{Q:AE→Sl→St→Prop}{K:Int→Frm→Int→Prop}(hQ:H85 Q K){σ:Sl}{st:St}
include hQ
end
abbrev H120 (d:Nat)(st0:St)(Q:AE→Sl→St→Prop)(K:Int→Frm→Bool→Prop):Prop:=∀(σ:Sl)(st:St)(k1:Key)(v1:Nat)(res0:Int)(res1:Frm)(res2:Bool),σ 4=.i .i64 res0→σ 5=.p k1 v1 0→lk st.bx k1=some (v1,[.i .i64 res1.func,.i .i64 res1.pos,.i .u64 res1.mode,.sl .full (List.map Loc.row res1.locals)])→σ 6=.b res2→Fr d (d,0) st0.bx st0.ow st.bx st.ow→K res0 res1 res2→Q .ret σ st
section
variable {prog:Prog}{d:Nat}{Q:AE→Sl→St→Prop}{K:Int→Frm→Bool→Prop}{st0:St}(hQ:H120 d st0 Q K){σ:Sl}{st:St}
include hQ
end
abbrev H121 (Q:AE→Sl→St→Prop)(K:Loc→Bool→Prop):Prop:=∀(σ:Sl)(st:St)(k0:Key)(v0:Nat)(o0_0:Own)(res0:Loc)(res1:Bool),σ 4=.p k0 v0 0→lk st.bx k0=some (v0,[.i .i64 res0.slot,.i .u8 res0.value.kind,.i .i64 res0.value.int,.s res0.value.text,.sl o0_0 (List.map Val.row res0.value.list),.b res0.value.cut])→σ 5=.b res1→K res0 res1→Q .ret σ st
section
variable {prog:Prog}{d:Nat}{Q:AE→Sl→St→Prop}{K:Loc→Bool→Prop}(hQ:H121 Q K){σ:Sl}{st:St}
include hQ
end
abbrev H142 (Q:AE→Sl→St→Prop)(K:BS→Bool→Prop):Prop:=∀(σ:Sl)(st:St)(res0:BS)(res1:Bool),σ 4=.s res0→σ 5=.b res1→K res0 res1→Q .ret σ st
section
variable {prog:Prog}{d:Nat}{Q:AE→Sl→St→Prop}{K:BS→Bool→Prop}(hQ:H142 Q K){σ:Sl}{st:St}
include hQ
end
abbrev H143 (Q:AE→Sl→St→Prop)(K:Int→BS→Bool→Prop):Prop:=∀(σ:Sl)(st:St)(res0:Int)(res1:BS)(res2:Bool),σ 4=.i .i64 res0→σ 5=.s res1→σ 6=.b res2→K res0 res1 res2→Q .ret σ st
section
variable {prog:Prog}{d:Nat}{Q:AE→Sl→St→Prop}{K:Int→BS→Bool→Prop}(hQ:H143 Q K){σ:Sl}{st:St}
include hQ
end
end Go.AM

/- Parts of the proof. -/
namespace Go.AM
open Go
set_option linter.unusedVariables false
set_option linter.unusedSimpArgs false
set_option maxRecDepth 4000
attribute [local irreducible] WO fillCells fillRows
abbrev H67 (Q:AE→Sl→St→Prop)(K:Bool→Prop):Prop:=∀(σ:Sl)(st:St)(res0:Bool),σ 8=.b res0→K res0→Q .ret σ st
section
variable {prog:Prog}{d:Nat}{Q:AE→Sl→St→Prop}{K:Bool→Prop}(hQ:H67 Q K){σ:Sl}{st:St}
include hQ
end
abbrev H69 (Q:AE→Sl→St→Prop)(K:Bool→Prop):Prop:=∀(σ:Sl)(st:St)(res0:Bool),σ 4=.b res0→K res0→Q .ret σ st
section
variable {prog:Prog}{d:Nat}{Q:AE→Sl→St→Prop}{K:Bool→Prop}(hQ:H69 Q K){σ:Sl}{st:St}
include hQ
end
abbrev H70 (Q:AE→Sl→St→Prop)(K:Bool→Prop):Prop:=∀(σ:Sl)(st:St)(res0:Bool),σ 4=.b res0→K res0→Q .ret σ st
section
variable {prog:Prog}{d:Nat}{Q:AE→Sl→St→Prop}{K:Bool→Prop}(hQ:H70 Q K){σ:Sl}{st:St}
include hQ
end
abbrev H89 (d:Nat)(st0:St)(Q:AE→Sl→St→Prop)(K:Val→Prop):Prop:=∀(σ:Sl)(st:St)(k0:Key)(v0:Nat)(res0:Val),σ 4=.p k0 v0 0→lk st.bx k0=some (v0,[.i .u8 res0.kind,.i .i64 res0.int,.s res0.text,.sl .full (List.map Val.row res0.list),.b res0.cut])→Fr d (d,0) st0.bx st0.ow st.bx st.ow→K res0→Q .ret σ st
section
variable {prog:Prog}{d:Nat}{Q:AE→Sl→St→Prop}{K:Val→Prop}{st0:St}(hQ:H89 d st0 Q K){σ:Sl}{st:St}
include hQ
end
abbrev H90 (Q:AE→Sl→St→Prop)(K:Val→Prop):Prop:=∀(σ:Sl)(st:St)(k0:Key)(v0:Nat)(o0_0:Own)(res0:Val),σ 0=.p k0 v0 0→lk st.bx k0=some (v0,[.i .u8 res0.kind,.i .i64 res0.int,.s res0.text,.sl o0_0 (List.map Val.row res0.list),.b res0.cut])→K res0→Q .ret σ st
section
variable {prog:Prog}{d:Nat}{Q:AE→Sl→St→Prop}{K:Val→Prop}(hQ:H90 Q K){σ:Sl}{st:St}
include hQ
end
abbrev H91 (Q:AE→Sl→St→Prop)(K:Bool→Prop):Prop:=∀(σ:Sl)(st:St)(res0:Bool),σ 4=.b res0→K res0→Q .ret σ st
section
variable {prog:Prog}{d:Nat}{Q:AE→Sl→St→Prop}{K:Bool→Prop}(hQ:H91 Q K){σ:Sl}{st:St}
include hQ
end
abbrev H92 (Q:AE→Sl→St→Prop)(K:Val→Prop):Prop:=∀(σ:Sl)(st:St)(k0:Key)(v0:Nat)(o0_0:Own)(res0:Val),σ 2=.p k0 v0 0→lk st.bx k0=some (v0,[.i .u8 res0.kind,.i .i64 res0.int,.s res0.text,.sl o0_0 (List.map Val.row res0.list),.b res0.cut])→K res0→Q .ret σ st
section
variable {prog:Prog}{d:Nat}{Q:AE→Sl→St→Prop}{K:Val→Prop}(hQ:H92 Q K){σ:Sl}{st:St}
include hQ
end
abbrev H93 (Q:AE→Sl→St→Prop)(K:Val→Prop):Prop:=∀(σ:Sl)(st:St)(k0:Key)(v0:Nat)(o0_0:Own)(res0:Val),σ 2=.p k0 v0 0→lk st.bx k0=some (v0,[.i .u8 res0.kind,.i .i64 res0.int,.s res0.text,.sl o0_0 (List.map Val.row res0.list),.b res0.cut])→K res0→Q .ret σ st
section
variable {prog:Prog}{d:Nat}{Q:AE→Sl→St→Prop}{K:Val→Prop}(hQ:H93 Q K){σ:Sl}{st:St}
include hQ
end
abbrev H98 (Q:AE→Sl→St→Prop)(K:Bool→Prop):Prop:=∀(σ:Sl)(st:St)(res0:Bool),σ 2=.b res0→K res0→Q .ret σ st
section
variable {prog:Prog}{d:Nat}{Q:AE→Sl→St→Prop}{K:Bool→Prop}(hQ:H98 Q K){σ:Sl}{st:St}
include hQ
end
abbrev H99 (Q:AE→Sl→St→Prop)(K:Img→Prop):Prop:=∀(σ:Sl)(st:St)(k0:Key)(v0:Nat) (o0_0 o0_1 o0_2:Own)(res0:Img),σ 0=.p k0 v0 0→lk st.bx k0=some (v0,[.sl o0_0 (List.map Typ.row res0.types),.sl o0_1 (List.map rowS res0.texts),.sl o0_2 (List.map Fun.row res0.funcs)])→K res0→Q .ret σ st
section
variable {prog:Prog}{d:Nat}{Q:AE→Sl→St→Prop}{K:Img→Prop}(hQ:H99 Q K){σ:Sl}{st:St}
include hQ
end
abbrev H101 (Q:AE→Sl→St→Prop)(K:Bool→Prop):Prop:=∀(σ:Sl)(st:St)(res0:Bool),σ 0=.b res0→K res0→Q .ret σ st
section
variable {prog:Prog}{d:Nat}{Q:AE→Sl→St→Prop}{K:Bool→Prop}(hQ:H101 Q K){σ:Sl}{st:St}
include hQ
end
abbrev H125 (Q:AE→Sl→St→Prop)(K:Val→Prop):Prop:=∀(σ:Sl)(st:St)(k0:Key)(v0:Nat)(o0_0:Own)(res0:Val),σ 0=.p k0 v0 0→lk st.bx k0=some (v0,[.i .u8 res0.kind,.i .i64 res0.int,.s res0.text,.sl o0_0 (List.map Val.row res0.list),.b res0.cut])→K res0→Q .ret σ st
section
variable {prog:Prog}{d:Nat}{Q:AE→Sl→St→Prop}{K:Val→Prop}(hQ:H125 Q K){σ:Sl}{st:St}
include hQ
end
end Go.AM

/- Parts of the proof. -/
namespace Go.AM
open Go
set_option linter.unusedVariables false
set_option linter.unusedSimpArgs false
set_option maxRecDepth 4000
attribute [local irreducible] WO fillCells fillRows
def r178_0:List AI:=[oO 0 (.alloc [zs,zs,zs,zs])]
def r178_1:List AI:=[oO 1 (.build [zs,zs,zs,zs] [(1,1,(.c (.s [102,97,117,108,116,32,49,58,32,100,105,118,105,115,105,111,110,32,98,121,32,122,101,114,111]))),(2,1,(.c (.s [102,97,117,108,116,32,50,58,32,110,105,108,32,112,111,105,110,116,101,114]))),(3,1,(.c (.s [102,97,117,108,116,32,51,58,32,111,117,116,32,111,102,32,114,97,110,103,101])))]),oS 4 0 1]
abbrev b178:AC:=(sR 0 r178_0 (sR 1 r178_1 .ret))
def pf178:AF:={ nt:=2,res:=[.cell 0 4 true],body:=b178 }
abbrev H178 (Q:AE→Sl→St→Prop)(K:LB→Prop):Prop:=∀(σ:Sl)(st:St)(k0:Key)(v0:Nat)(res0:LB),σ 0=.p k0 v0 0→lk st.bx k0=some (v0,List.map AV.s res0)→res0.length=4→K res0→Q .ret σ st
def T178_0 (prog:Prog)(K:LB→Prop) :Prop:=
  K [[],([102,97,117,108,116,32,49,58,32,100,105,118,105,115,105,111,110,32,98,121,32,122,101,114,111]:BS),([102,97,117,108,116,32,50,58,32,110,105,108,32,112,111,105,110,116,101,114]:BS),([102,97,117,108,116,32,51,58,32,111,117,116,32,111,102,32,114,97,110,103,101]:BS)]
section
variable {prog:Prog}{d:Nat}{Q:AE→Sl→St→Prop}{K:LB→Prop}(hQ:H178 Q K){σ:Sl}{st:St}
include hQ
theorem w178_0 (h:T178_0 prog K ):W prog d (sR 0 r178_0 (sR 1 r178_1 .ret)) σ st Q:=
 sq_ (W.reg (s_alloc (e_ (q_ J (s_buildM (f:=AV.s) (l:=[[],([102,97,117,108,116,32,49,58,32,100,105,118,105,115,105,111,110,32,98,121,32,122,101,114,111]:BS),([102,97,117,108,116,32,50,58,32,110,105,108,32,112,111,105,110,116,101,114]:BS),([102,97,117,108,116,32,51,58,32,111,117,116,32,111,102,32,114,97,110,103,101]:BS)]) (f_cons J J (f_cons J J (f_cons J J f_nil))) J (s_storeArr (f:=AV.s) (fun _=>J) J (show lk _ (d,0)=some (_,(List.map AV.s (List.replicate 4 ([]:BS)):List AV)) from lk_here) (by simp) J J (er_ (hQ _ _ _ _ _ J lk_here (by simp) h))))))))
end
theorem p178 {prog:Prog}(hf:prog.fn 178=some pf178)  {K:LB→Prop}(h:T178_0 prog K ) :∃res0:LB,K res0∧Pus prog 178 [] (.ag (List.map AV.s res0)):=by
  obtain ⟨v,hv,res0,hk,rfl⟩:=Pus.of (K:=fun v=>∃res0:LB,K res0∧v=.ag (List.map AV.s res0)) hf rfl (w178_0 (σ:=sl0 []) (fun σ st k0 v0  res0 H0 HB0 HL0 hk=>⟨.ag (List.map AV.s res0),by simp only [pf178,ares,aresL,ares_cellA (n:=4) H0 HB0 (by simpa using HL0),ares_tmp,Option.map_some],_,strip_ag AV.s (fun _=>rfl) _,res0,hk,rfl⟩)  h)
  exact ⟨res0,hk,hv⟩
def r183_0:List AI:=[oO 0 (.alloc [z8,z8,z8,z8,z8])]
def r183_1:List AI:=[oO 1 (.build [z8,z8,z8,z8,z8] [(1,1,(.c (.i .u8 2))),(2,1,(.c (.i .u8 1))),(3,1,(.c (.i .u8 3))),(4,1,(.c (.i .u8 2)))]),oS 5 0 1]
abbrev b183:AC:=(sR 0 r183_0 (sR 1 r183_1 .ret))
def pf183:AF:={ nt:=2,res:=[.cell 0 5 true],body:=b183 }
abbrev H183 (Q:AE→Sl→St→Prop)(K:BS→Prop):Prop:=∀(σ:Sl)(st:St)(k0:Key)(v0:Nat)(res0:BS),σ 0=.p k0 v0 0→lk st.bx k0=some (v0,List.map c8 res0)→res0.length=5→K res0→Q .ret σ st
def T183_0 (prog:Prog)(K:BS→Prop) :Prop:=
  K [0,(2:UInt8),(1:UInt8),(3:UInt8),(2:UInt8)]
section
variable {prog:Prog}{d:Nat}{Q:AE→Sl→St→Prop}{K:BS→Prop}(hQ:H183 Q K){σ:Sl}{st:St}
include hQ
theorem w183_0 (h:T183_0 prog K ):W prog d (sR 0 r183_0 (sR 1 r183_1 .ret)) σ st Q:=
 sq_ (W.reg (s_alloc (e_ (q_ J (s_buildM (f:=c8) (l:=[0,(2:UInt8),(1:UInt8),(3:UInt8),(2:UInt8)]) (f_cons J J (f_cons J J (f_cons J J (f_cons J J f_nil)))) J (s_storeArr (f:=c8) (fun _=>J) J (show lk _ (d,0)=some (_,(List.map c8 (List.replicate 5 (0:UInt8)):List AV)) from lk_here) (by simp) J J (er_ (hQ _ _ _ _ _ J lk_here (by simp) h))))))))
end
theorem p183 {prog:Prog}(hf:prog.fn 183=some pf183)  {K:BS→Prop}(h:T183_0 prog K ) :∃res0:BS,K res0∧Pus prog 183 [] (.ag (List.map c8 res0)):=by
  obtain ⟨v,hv,res0,hk,rfl⟩:=Pus.of (K:=fun v=>∃res0:BS,K res0∧v=.ag (List.map c8 res0)) hf rfl (w183_0 (σ:=sl0 []) (fun σ st k0 v0  res0 H0 HB0 HL0 hk=>⟨.ag (List.map c8 res0),by simp only [pf183,ares,aresL,ares_cellA (n:=5) H0 HB0 (by simpa using HL0),ares_tmp,Option.map_some],_,strip_ag c8 (fun _=>rfl) _,res0,hk,rfl⟩)  h)
  exact ⟨res0,hk,hv⟩
abbrev H191 (Q:AE→Sl→St→Prop)(K:Bool→Prop):Prop:=∀(σ:Sl)(st:St)(res0:Bool),σ 4=.b res0→K res0→Q .ret σ st
section
variable {prog:Prog}{d:Nat}{Q:AE→Sl→St→Prop}{K:Bool→Prop}(hQ:H191 Q K){σ:Sl}{st:St}
include hQ
end
abbrev H186 (Q:AE→Sl→St→Prop)(K:Bool→Prop):Prop:=∀(σ:Sl)(st:St)(res0:Bool),σ 4=.b res0→K res0→Q .ret σ st
section
variable {prog:Prog}{d:Nat}{Q:AE→Sl→St→Prop}{K:Bool→Prop}(hQ:H186 Q K){σ:Sl}{st:St}
include hQ
end
abbrev H190 (Q:AE→Sl→St→Prop)(K:BS→Bool→Prop):Prop:=∀(σ:Sl)(st:St)(res0:BS)(res1:Bool),σ 4=.s res0→σ 5=.b res1→K res0 res1→Q .ret σ st
section
variable {prog:Prog}{d:Nat}{Q:AE→Sl→St→Prop}{K:BS→Bool→Prop}(hQ:H190 Q K){σ:Sl}{st:St}
include hQ
end
abbrev H180 (Q:AE→Sl→St→Prop)(K:BS→Bool→Prop):Prop:=∀(σ:Sl)(st:St)(res0:BS)(res1:Bool),σ 4=.s res0→σ 5=.b res1→K res0 res1→Q .ret σ st
section
variable {prog:Prog}{d:Nat}{Q:AE→Sl→St→Prop}{K:BS→Bool→Prop}(hQ:H180 Q K){σ:Sl}{st:St}
include hQ
end
abbrev H182 (Q:AE→Sl→St→Prop)(K:BS→Bool→Prop):Prop:=∀(σ:Sl)(st:St)(res0:BS)(res1:Bool),σ 4=.s res0→σ 5=.b res1→K res0 res1→Q .ret σ st
section
variable {prog:Prog}{d:Nat}{Q:AE→Sl→St→Prop}{K:BS→Bool→Prop}(hQ:H182 Q K){σ:Sl}{st:St}
include hQ
end
def r158_0:List AI:=[oY 1 7 0,oI 2 0]
def r158_1:List AI:=[oF 4 0 1,oL 5 4,oB 6 .gtr (.t 5) (.c (.i .u64 4)),oM 7 6,gF 7 (oF 8 1 1),gF 7 (oF 9 0 8),gF 7 (oL 10 9),gF 7 (oQ 11 183 []),gF 7 (oF 12 0 1),gF 7 (oL 13 12),gF 7 (oO 14 (.ixA 5 1 false (.t 11) (.t 13))),gF 7 (oT 15 .neq 10 14),oR 16 7 15]
def r158_2:List AI:=[oI 2 8]
def r158_3:List AI:=[oF 17 0 1,oL 18 17,oB 19 .eql (.t 18) (.c (.i .u64 0))]
def r158_4:List AI:=[oF 20 1 1,oK 21 5 20,oO 3 (.alloc [z8,z6,zs,zl,zb]),oS 5 3 21]
def r158_5:List AI:=[oF 22 1 3,oL 23 22,oV 24 .neq 23 0,oM 25 24,gF 25 (oF 26 2 3),gF 25 (oL 27 26),gF 25 (oB 28 .neq (.t 27) (.c (.s []))),oR 29 25 28,oM 30 29,gF 30 (oF 31 3 3),gF 30 (oL 32 31),gF 30 (oJ 33 32),gF 30 (oV 34 .gtr 33 0),oR 35 30 34,oM 36 35,gF 36 (oF 37 4 3),gF 36 (oL 38 37),oR 39 36 38,oM 40 39,gF 40 (oF 41 6 1),gF 40 (oL 42 41),gF 40 (oB 43 .andNot (.t 42) (.c (.i .u64 4))),gF 40 (oB 44 .neq (.t 43) (.c (.i .u64 2))),oR 45 40 44]
def r158_6:List AI:=[oI 2 8]
def r158_7:List AI:=[oI 2 0]
def r158_8:List AI:=[oF 46 6 1,oL 47 46,oB 48 .andNot (.t 47) (.c (.i .u64 5)),oB 49 .neq (.t 48) (.c (.i .u64 0)),oM 50 49,gF 50 (oF 51 0 1),gF 50 (oL 52 51),gF 50 (oB 53 .eql (.t 52) (.c (.i .u64 4))),gF 50 (oM 54 53),gT 54 (oF 55 1 1),gT 54 (oF 56 1 55),gT 54 (oL 57 56),gT 54 (oV 58 .lss 57 1),gT 54 (oM 59 58),gF 59 (oF 60 1 1),gF 59 (oF 61 1 60),gF 59 (oL 62 61),gF 59 (oV 63 .gtr 62 3),gT 54 (oR 64 59 63),gF 50 (oA 65 54 64),oR 66 50 65]
def r158_9:List AI:=[oI 2 8]
def r158_10:List AI:=[oF 67 1 1,oK 68 5 67,oQ 69 76 [68],oM 2 69]
abbrev c158_0:AC:=(sR 10 r158_10 .ret)
abbrev c158_1:AC:=(.seq (sR 8 r158_8 (.cond (.t 66) (sR 9 r158_9 .ret) .skip)) c158_0)
abbrev c158_2:AC:=(.seq (sR 3 r158_3 (.cond (.t 19) (sR 4 r158_4 (.seq (sR 5 r158_5 (.cond (.t 45) (sR 6 r158_6 .ret) .skip)) (sR 7 r158_7 .ret))) .skip)) c158_1)
abbrev c158_3:AC:=(.seq (sR 1 r158_1 (.cond (.t 16) (sR 2 r158_2 .ret) .skip)) c158_2)
abbrev b158:AC:=(sR 0 r158_0 c158_3)
def pf158:AF:={ nt:=70,res:=[.tmp 2],body:=b158 }
def T158_4 (prog:Prog)(K:Int→Prop)(m0:Pan):Prop:=
  ∃c,Pus prog 76 [m0.value.av] (.i .i64 c)∧K c
def T158_3 (prog:Prog)(K:Int→Prop)(m0:Pan):Prop:=
  ((bAndNot .u64 m0.flags 5)≠0→K 8)∧(¬((bAndNot .u64 m0.flags 5)≠0)→(m0.tag=4→(m0.value.int<1→K 8)∧(¬(m0.value.int<1)→(m0.value.int>3→K 8)∧(¬(m0.value.int>3)→T158_4 prog K m0)))∧(¬(m0.tag=4)→T158_4 prog K m0))
def T158_2 (prog:Prog)(K:Int→Prop)(m0:Pan):Prop:=
  (m0.tag=0→(m0.value.int≠0→K 8)∧(¬(m0.value.int≠0)→(m0.value.text≠([]:BS)→K 8)∧(¬(m0.value.text≠([]:BS))→((m0.value.list.length:Int)>0→K 8)∧(¬((m0.value.list.length:Int)>0)→(m0.value.cut=true→K 8)∧(m0.value.cut=false→((bAndNot .u64 m0.flags 4)≠2→K 8)∧(¬((bAndNot .u64 m0.flags 4)≠2)→K 0))))))∧(¬(m0.tag=0)→T158_3 prog K m0)
def T158_1 (prog:Prog)(K:Int→Prop)(m0:Pan):Prop:=
  (m0.tag>4→K 8)∧(¬(m0.tag>4)→∃c:BS,Pus prog 183 [] (.ag (List.map c8 c))∧c.length=5∧0≤m0.tag∧∃e:UInt8,(c:List (UInt8))[(m0.tag).toNat]?=some e∧(m0.value.kind≠(e.toNat:Int)→K 8)∧(¬(m0.value.kind≠(e.toNat:Int))→T158_2 prog K m0))
def T158_0 (prog:Prog)(K:Int→Prop)(p0:Pan):Prop:=
  T158_1 prog K p0
section
variable {prog:Prog}{d:Nat}{Q:AE→Sl→St→Prop}{K:Int→Prop}(hQ:H1 (AV.i .i64) 2 Q K){σ:Sl}{st:St}
include hQ
variable {m0:Pan}{v0:Nat}{p0:Pan}
variable (H1:σ 1=.p (d,0) v0 0)(H0:σ 0=p0.av)(B0:lk st.bx (d,0)=some (v0,[.i .u64 m0.tag,.i .u8 m0.value.kind,.i .i64 m0.value.int,.s m0.value.text,.sl .ext (List.map Val.row m0.value.list),.b m0.value.cut,.i .u64 m0.flags]))
include H1 B0 in
theorem w158_4 (h:T158_4 prog K m0):W prog d c158_0 σ st Q:=
 q_ J (f_ H1 (l_ J B0 J J (h.elim fun _ c=>ca_ (sc1 J J) c.1 (m_ (er_ (hQ J c.2))))))
include H1 B0 in
theorem w158_3 (h:T158_3 prog K m0):W prog d c158_1 σ st Q:=
 sq_ (q_ J (f_ H1 (l_ J B0 J J (b_ J J (abin_andNot _ _ _) (b_ J J neq_ (s_mvB J (em_ (g:=50) J (fun c=>z_ 4 J (gt_ J (gt_ J (gt_ J (gt_ J (gt_ J (gt_ J (gt_ J (gt_ J (gt_ J (gt_ J (z_ 2 J (e_ (ct_ J (q_ J (m_ (er_ (hQ J (h.1 c))))))))))))))))))) (fun c=>gy_ J (f_ H1 (gy_ J (l_ J B0 J J (gy_ J (b_ J J eql_ (gy_ J (s_mvB J (em_ (g:=54) J (fun e=>gy_ J (f_ H1 (gy_ J (f_ J (gy_ J (l_ J B0 J J (gy_ J (b_ J J lss_ (gy_ J (s_mvB J (em_ (g:=59) J (fun i=>z_ 4 J (gy_ J (pt_ J J (gy_ J (z_ 2 J (e_ (ct_ J (q_ J (m_ (er_ (hQ J (((h.2 c).1 e).1 i)))))))))))) (fun i=>gy_ J (f_ H1 (gy_ J (f_ J (gy_ J (l_ J B0 J J (gy_ J (b_ J J gtr_ (gy_ J (pf_ J J (gy_ J (z_ 2 J (e_ (cs_ J (fun j=>q_ J (m_ (er_ (hQ J ((((h.2 c).1 e).2 i).1 j))))) (fun j=>sk_ (w158_4 hQ H1 B0 ((((h.2 c).1 e).2 i).2 j)))))))))))))))))))))))))))) (fun e=>z_ 5 J (gt_ J (gt_ J (gt_ J (gt_ J (nF J (gy_ J (z_ 2 J (e_ (cf_ J (sk_ (w158_4 hQ H1 B0 ((h.2 c).2 e)))))))))))))))))))))))))))))
include H1 B0 in
theorem w158_2 (h:T158_2 prog K m0):W prog d c158_2 σ st Q:=
 sq_ (q_ J (f_ H1 (l_ J B0 J J (b_ J J eql_ (e_ (cs_ J (fun c=>sq_ (W.reg (f_ H1 (l_ J (lk_other J B0) J J (s_alloc (so_ J (show lk _ (d,16386)=some (_,([.i .u8 0,.i .i64 0,.s [],.sl .full (List.map Val.row ([]:List Val)),.b false]:List AV)) from lk_here) J J J (e_ (sq_ (q_ J (f_ J (l_ J lk_here J J (b_ J J neq_ (s_mvB J (em_ (g:=25) J (fun e=>z_ 20 J (e_ (ct_ J (q_ J (m_ (er_ (hQ J ((h.1 c).1 e)))))))) (fun e=>gy_ J (f_ J (gy_ J (l_ J lk_here J J (gy_ J (b_ J J sne_ (z_ 2 J (em_ (g:=30) J (fun j=>z_ 15 J (e_ (ct_ J (q_ J (m_ (er_ (hQ J (((h.1 c).2 e).1 j)))))))) (fun j=>gy_ J (f_ J (gy_ J (l_ J lk_here J J (gy_ J (ll_ J (gy_ J (b_ J J gtr_ (z_ 2 J (em_ (g:=36) J (fun k=>z_ 9 J (e_ (ct_ J (q_ J (m_ (er_ (hQ J ((((h.1 c).2 e).2 j).1 k)))))))) (fun k=>gy_ J (f_ J (gy_ J (l_ J lk_here J J (z_ 2 J (eb_ (g:=40) J (fun o=>z_ 5 J (e_ (ct_ J (q_ J (m_ (er_ (hQ J (((((h.1 c).2 e).2 j).2 k).1 o)))))))) (fun o=>gy_ J (f_ H1 (gy_ J (l_ J (lk_other J (lk_other J B0)) J J (gy_ J (b_ J J (abin_andNot _ _ _) (gy_ J (b_ J J neq_ (pf_ J J (e_ (cs_ J (fun p=>q_ J (m_ (er_ (hQ J ((((((h.1 c).2 e).2 j).2 k).2 o).1 p))))) (fun p=>sk_ (q_ J (m_ (er_ (hQ J ((((((h.1 c).2 e).2 j).2 k).2 o).2 p))))))))))))))))))))))))))))))))))))))))))))))))))))))) (fun c=>sk_ (w158_3 hQ H1 B0 (h.2 c)))))))))
include H1 B0 in
theorem w158_1 (h:T158_1 prog K m0):W prog d c158_3 σ st Q:=
 sq_ (q_ J (f_ H1 (l_ J B0 J J (b_ J J gtr_ (s_mvB J (em_ (g:=7) J (fun i=>z_ 9 J (e_ (ct_ J (q_ J (m_ (er_ (hQ J (h.1 i)))))))) (fun i=>gy_ J (f_ H1 (gy_ J (f_ J (gy_ J (l_ J B0 J J (gy_ J ((h.2 i).elim fun _ c=>ca_ sn c.1 (gy_ J (f_ H1 (gy_ J (l_ J B0 J J (gy_ J (c.2.2.2.elim fun _ e=>s_ixA (f:=c8) c.2.1 J J c.2.2.1 e.1 (gy_ J (b_ J J neq_ (pf_ J J (e_ (cs_ J (fun j=>q_ J (m_ (er_ (hQ J (e.2.1 j))))) (fun j=>sk_ (w158_2 hQ H1 B0 (e.2.2 j))))))))))))))))))))))))))))
include H0 in
theorem w158_0 (h:T158_0 prog K p0):W prog d (sR 0 r158_0 c158_3) σ st Q:=
 q_ J (s_box H0 J (m_ (e_ (w158_1 hQ J lk_here h))))
end
theorem p158 {prog:Prog}(hf:prog.fn 158=some pf158){p0:Pan}{K:Int→Prop}(h:T158_0 prog K p0) :∃res0:Int,K res0∧Pus prog 158 [p0.av] (.i .i64 res0):=
 P1 hf J (w158_0 (h1 J fun _=>J) J h)
def r159_0:List AI:=[oY 1 7 0,oI 2 0]
def r159_1:List AI:=[oF 5 1 1,oK 6 5 5,oQ 7 77 [6],oV 8 .eql 7 0,oM 3 8]
def r159_2:List AI:=[oO 9 (.bslice [z8] 5 [(0,(.c (.i .u8 0))),(1,(.c (.i .u8 2))),(2,(.c (.i .u8 1))),(3,(.c (.i .u8 3))),(4,(.c (.i .u8 2)))]),oM 4 9]
def r159_3:List AI:=[oF 10 0 1,oL 11 10,oB 12 .gtr (.t 11) (.c (.i .u64 4)),oM 13 12,gF 13 (oF 14 1 1),gF 13 (oF 15 0 14),gF 13 (oL 16 15),gF 13 (oM 17 4),gF 13 (oF 18 0 1),gF 13 (oL 19 18),gF 13 (oX 20 1 17 19),gF 13 (oL 21 20),gF 13 (oT 22 .neq 16 21),oR 23 13 22]
def r159_4:List AI:=[oI 2 8]
def r159_5:List AI:=[oF 24 0 1,oL 25 24,oB 26 .eql (.t 25) (.c (.i .u64 0))]
def r159_6:List AI:=[oF 27 1 1,oK 28 5 27,oO 29 (.build [z8,z6,zs,zl,zb] []),oQ 30 78 [28,29],oM 31 30,gT 31 (oF 32 6 1),gT 31 (oL 33 32),gT 31 (oB 34 .eql (.t 33) (.c (.i .u64 2))),gT 31 (oM 35 34),gF 35 (oF 36 6 1),gF 35 (oL 37 36),gF 35 (oB 38 .eql (.t 37) (.c (.i .u64 6))),gT 31 (oR 39 35 38),oA 40 31 39,oM 3 40]
def r159_7:List AI:=[oM 41 3,oM 42 41,gT 42 (oF 43 6 1),gT 42 (oL 44 43),gT 42 (oB 45 .eql (.t 44) (.c (.i .u64 0))),gT 42 (oM 46 45),gF 46 (oF 47 6 1),gF 46 (oL 48 47),gF 46 (oB 49 .eql (.t 48) (.c (.i .u64 1))),gT 42 (oR 50 46 49),gT 42 (oM 51 50),gF 51 (oF 52 6 1),gF 51 (oL 53 52),gF 51 (oB 54 .eql (.t 53) (.c (.i .u64 4))),gT 42 (oR 55 51 54),gT 42 (oM 56 55),gF 56 (oF 57 6 1),gF 56 (oL 58 57),gF 56 (oB 59 .eql (.t 58) (.c (.i .u64 5))),gT 42 (oR 60 56 59),oA 61 42 60,oM 3 61]
def r159_8:List AI:=[oF 62 0 1,oL 63 62,oB 64 .eql (.t 63) (.c (.i .u64 4))]
def r159_9:List AI:=[oM 65 3,oM 66 65,gT 66 (oF 67 1 1),gT 66 (oF 68 1 67),gT 66 (oL 69 68),gT 66 (oV 70 .geq 69 1),oA 71 66 70,oM 72 71,gT 72 (oF 73 1 1),gT 72 (oF 74 1 73),gT 72 (oL 75 74),gT 72 (oV 76 .leq 75 3),oA 77 72 76,oM 3 77]
def r159_10:List AI:=[oM 78 3,oZ 79 78]
def r159_11:List AI:=[oI 2 8]
def r159_12:List AI:=[oI 2 0]
abbrev c159_0:AC:=(.seq (sR 10 r159_10 (.cond (.t 79) (sR 11 r159_11 .ret) .skip)) (sR 12 r159_12 .ret))
abbrev c159_1:AC:=(.seq (sR 8 r159_8 (.cond (.t 64) (.reg 9 r159_9) .skip)) c159_0)
abbrev c159_2:AC:=(.seq (sR 5 r159_5 (.cond (.t 26) (.reg 6 r159_6) (.reg 7 r159_7))) c159_1)
abbrev c159_3:AC:=(.seq (sR 3 r159_3 (.cond (.t 23) (sR 4 r159_4 .ret) .skip)) c159_2)
abbrev c159_4:AC:=(sR 2 r159_2 c159_3)
abbrev c159_5:AC:=(sR 1 r159_1 c159_4)
abbrev b159:AC:=(sR 0 r159_0 c159_5)
def pf159:AF:={ nt:=80,res:=[.tmp 2],body:=b159 }
def T159_6 (prog:Prog)(K:Int→Prop)(ok3:Bool):Prop:=
  ((!ok3)=true→K 8)∧((!ok3)=false→K 0)
def T159_5 (prog:Prog)(K:Int→Prop)(ok3:Bool)(m0:Pan):Prop:=
  (m0.tag=4→(ok3=true→(m0.value.int≥1→T159_6 prog K (decide (m0.value.int≤3)))∧(¬(m0.value.int≥1)→T159_6 prog K false))∧(ok3=false→T159_6 prog K false))∧(¬(m0.tag=4)→T159_6 prog K ok3)
def T159_4 (prog:Prog)(K:Int→Prop)(ok3:Bool)(m0:Pan):Prop:=
  (m0.tag=0→∃c,Pus prog 78 [m0.value.av,.ag [.i .u8 0,.i .i64 0,.s [],.sl .ext (List.map Val.row ([]:List Val)),.b false]] (.b c)∧(c=true→(m0.flags=2→T159_5 prog K true m0)∧(¬(m0.flags=2)→T159_5 prog K (decide (m0.flags=6)) m0))∧(c=false→T159_5 prog K false m0))∧(¬(m0.tag=0)→(ok3=true→(m0.flags=0→T159_5 prog K true m0)∧(¬(m0.flags=0)→(m0.flags=1→T159_5 prog K true m0)∧(¬(m0.flags=1)→(m0.flags=4→T159_5 prog K true m0)∧(¬(m0.flags=4)→T159_5 prog K (decide (m0.flags=5)) m0))))∧(ok3=false→T159_5 prog K false m0))
def T159_3 (prog:Prog)(K:Int→Prop)(ok3:Bool)(kinds4:BS)(m0:Pan):Prop:=
  (m0.tag>4→K 8)∧(¬(m0.tag>4)→0≤m0.tag∧∃c:UInt8,kinds4[(m0.tag).toNat]?=some c∧(m0.value.kind≠(c.toNat:Int)→K 8)∧(¬(m0.value.kind≠(c.toNat:Int))→T159_4 prog K ok3 m0))
def T159_2 (prog:Prog)(K:Int→Prop)(ok3:Bool)(m0:Pan):Prop:=
  T159_3 prog K ok3 [(0:UInt8),(2:UInt8),(1:UInt8),(3:UInt8),(2:UInt8)] m0
def T159_1 (prog:Prog)(K:Int→Prop)(m0:Pan):Prop:=
  ∃c,Pus prog 77 [m0.value.av] (.i .i64 c)∧T159_2 prog K (decide (c=0)) m0
def T159_0 (prog:Prog)(K:Int→Prop)(p0:Pan):Prop:=
  T159_1 prog K p0
section
variable {prog:Prog}{d:Nat}{Q:AE→Sl→St→Prop}{K:Int→Prop}(hQ:H1 (AV.i .i64) 2 Q K){σ:Sl}{st:St}
include hQ
variable {ok3:Bool}{m0:Pan}{v0:Nat}{kinds4:BS}{o_kinds4:Own}{p0:Pan}
variable (H1:σ 1=.p (d,0) v0 0)(H0:σ 0=p0.av)(H3:σ 3=.b ok3)(H4:σ 4=.sl o_kinds4 (List.map row8 kinds4))(A4:ApM d st.ow o_kinds4 kinds4.length)(B0:lk st.bx (d,0)=some (v0,[.i .u64 m0.tag,.i .u8 m0.value.kind,.i .i64 m0.value.int,.s m0.value.text,.sl .ext (List.map Val.row m0.value.list),.b m0.value.cut,.i .u64 m0.flags]))
include H3 in
theorem w159_6 (h:T159_6 prog K ok3):W prog d c159_0 σ st Q:=
 sq_ (q_ J (m_ (nt_ H3 (e_ (cb_ J (fun c=>q_ J (m_ (er_ (hQ J (h.1 c))))) (fun c=>sk_ (q_ J (m_ (er_ (hQ J (h.2 c)))))))))))
include H1 H3 B0 in
theorem w159_5 (h:T159_5 prog K ok3 m0):W prog d c159_1 σ st Q:=
 sq_ (q_ J (f_ H1 (l_ J B0 J J (b_ J J eql_ (e_ (cs_ J (fun c=>W.reg0 J fun _ _=>s_mvB H3 (s_mvB J (eb_ (g:=66) J (fun e=>gy_ J (f_ H1 (gy_ J (f_ J (gy_ J (l_ J B0 J J (gy_ J (b_ J J geq_ (z_ 2 J (em_ (g:=72) J (fun i=>gy_ J (f_ H1 (gy_ J (f_ J (gy_ J (l_ J B0 J J (gy_ J (b_ J J leq_ (z_ 2 J (e_ (w159_6 hQ J (((h.1 c).1 e).1 i)))))))))))) (fun i=>z_ 6 J (e_ (w159_6 hQ J (((h.1 c).1 e).2 i)))))))))))))) (fun e=>z_ 12 J (e_ (w159_6 hQ J ((h.1 c).2 e))))))) (fun c=>sk_ (w159_6 hQ H3 (h.2 c)))))))))
include H1 H3 B0 in
theorem w159_4 (h:T159_4 prog K ok3 m0):W prog d c159_2 σ st Q:=
 sq_ (q_ J (f_ H1 (l_ J B0 J J (b_ J J eql_ (e_ (cs_ J (fun c=>W.reg0 J fun _ _=>f_ H1 (l_ J B0 J J (s_build f_nil ((h.1 c).elim fun _ j=>ca_ (sc2 J J J) j.1 (s_mvB J (eb_ (g:=31) J (fun k=>gy_ J (f_ H1 (gy_ J (l_ J B0 J J (gy_ J (b_ J J eql_ (gy_ J (s_mvB J (em_ (g:=35) J (fun p=>z_ 3 J (gy_ J (z_ 3 J (e_ (w159_5 hQ H1 J B0 ((j.2.1 k).1 p)))))) (fun p=>gy_ J (f_ H1 (gy_ J (l_ J B0 J J (gy_ J (b_ J J eql_ (gy_ J (z_ 3 J (e_ (w159_5 hQ H1 J B0 ((j.2.1 k).2 p)))))))))))))))))))) (fun k=>z_ 4 J (gt_ J (gt_ J (gt_ J (z_ 3 J (e_ (w159_5 hQ H1 J B0 (j.2.2 k)))))))))))))) (fun c=>W.reg0 J fun _ _=>s_mvB H3 (s_mvB J (eb_ (g:=42) J (fun e=>gy_ J (f_ H1 (gy_ J (l_ J B0 J J (gy_ J (b_ J J eql_ (gy_ J (s_mvB J (em_ (g:=46) J (fun i=>z_ 3 J (gy_ J (pt_ J J (gy_ J (z_ 4 J (gy_ J (pt_ J J (gy_ J (z_ 4 J (gy_ J (z_ 3 J (e_ (w159_5 hQ H1 J B0 (((h.2 c).1 e).1 i)))))))))))))) (fun i=>gy_ J (f_ H1 (gy_ J (l_ J B0 J J (gy_ J (b_ J J eql_ (gy_ J (pf_ J J (gy_ J (s_mvB J (em_ (g:=51) J (fun o=>z_ 3 J (gy_ J (pt_ J J (gy_ J (z_ 4 J (gy_ J (z_ 3 J (e_ (w159_5 hQ H1 J B0 ((((h.2 c).1 e).2 i).1 o)))))))))) (fun o=>gy_ J (f_ H1 (gy_ J (l_ J B0 J J (gy_ J (b_ J J eql_ (gy_ J (pf_ J J (gy_ J (s_mvB J (em_ (g:=56) J (fun q=>z_ 3 J (gy_ J (z_ 3 J (e_ (w159_5 hQ H1 J B0 (((((h.2 c).1 e).2 i).2 o).1 q)))))) (fun q=>gy_ J (f_ H1 (gy_ J (l_ J B0 J J (gy_ J (b_ J J eql_ (gy_ J (z_ 3 J (e_ (w159_5 hQ H1 J B0 (((((h.2 c).1 e).2 i).2 o).2 q)))))))))))))))))))))))))))))))))))))))))) (fun e=>z_ 4 J (gt_ J (gt_ J (gt_ J (z_ 2 J (gt_ J (gt_ J (gt_ J (z_ 2 J (gt_ J (gt_ J (gt_ J (z_ 3 J (e_ (w159_5 hQ H1 J B0 ((h.2 c).2 e)))))))))))))))))))))))))
include H1 H3 H4 A4 B0 in
theorem w159_3 (h:T159_3 prog K ok3 kinds4 m0):W prog d c159_3 σ st Q:=
 sq_ (q_ J (f_ H1 (l_ J B0 J J (b_ J J gtr_ (s_mvB J (em_ (g:=13) J (fun c=>z_ 10 J (e_ (ct_ J (q_ J (m_ (er_ (hQ J (h.1 c)))))))) (fun c=>gy_ J (f_ H1 (gy_ J (f_ J (gy_ J (l_ J B0 J J (gy_ J (s_mvL H4 (gy_ J (f_ H1 (gy_ J (l_ J B0 J J (gy_ J ((h.2 c).2.elim fun _ e=>ia_ J J (h.2 c).1 e.1 J J (gy_ J (lf_ J J J (gy_ J (b_ J J neq_ (pf_ J J (e_ (cs_ J (fun i=>q_ J (m_ (er_ (hQ J (e.2.1 i))))) (fun i=>sk_ (w159_4 hQ H1 H3 B0 (e.2.2 i))))))))))))))))))))))))))))))
include H1 H3 B0 in
theorem w159_2 (h:T159_2 prog K ok3 m0):W prog d c159_4 σ st Q:=
 q_ J (s_bslM (f:=row8) (l:=[(0:UInt8),(2:UInt8),(1:UInt8),(3:UInt8),(2:UInt8)]) J J (g_cons J J J (g_cons J J J (g_cons J J J (g_cons J J J (g_cons J J J g_nil))))) J (s_mvL J (e_ (w159_3 hQ H1 H3 J ApM.full B0 h))))
include H1 B0 in
theorem w159_1 (h:T159_1 prog K m0):W prog d c159_5 σ st Q:=
 q_ J (f_ H1 (l_ J B0 J J (h.elim fun _ c=>ca_ (sc1 J J) c.1 (b_ J J eql_ (m_ (e_ (w159_2 hQ H1 J B0 c.2)))))))
include H0 in
theorem w159_0 (h:T159_0 prog K p0):W prog d (sR 0 r159_0 c159_5) σ st Q:=
 q_ J (s_box H0 J (m_ (e_ (w159_1 hQ J lk_here h))))
end
theorem p159 {prog:Prog}(hf:prog.fn 159=some pf159){p0:Pan}{K:Int→Prop}(h:T159_0 prog K p0) :∃res0:Int,K res0∧Pus prog 159 [p0.av] (.i .i64 res0):=
 P1 hf J (w159_0 (h1 J fun _=>J) J h)
abbrev H179 (Q:AE→Sl→St→Prop)(K:BS→Prop):Prop:=∀(σ:Sl)(st:St)(res0:BS),σ 2=.s res0→K res0→Q .ret σ st
section
variable {prog:Prog}{d:Nat}{Q:AE→Sl→St→Prop}{K:BS→Prop}(hQ:H179 Q K){σ:Sl}{st:St}
include hQ
end
def r154_0:List AI:=[oY 1 7 0,oC 2 (.s []),oI 3 0]
def r154_1:List AI:=[oK 8 7 1,oQ 9 158 [8],oM 4 9]
def r154_2:List AI:=[oM 10 4,oV 11 .neq 10 0]
def r154_3:List AI:=[oM 12 4,oC 2 (.s []),oM 3 12]
def r154_4:List AI:=[oC 5 (.s [101,120,105,116])]
def r154_5:List AI:=[oF 13 0 1,oL 14 13]
def r154_6:List AI:=[oB 27 .eql (.t 14) (.c (.i .u64 0)),oM 26 27]
def r154_7:List AI:=[oB 29 .eql (.t 14) (.c (.i .u64 4)),oM 28 29]
def r154_8:List AI:=[oQ 30 178 [],oF 31 1 1,oF 32 1 31,oL 33 32,oO 34 (.ixA 4 1 false (.t 30) (.t 33)),oM 5 34]
def r154_9:List AI:=[oF 16 1 1,oK 17 5 16,oQ 18 72 [17],oM 15 18,oE 19 0 15,oE 20 1 15,oM 6 19,oM 7 20]
def r154_10:List AI:=[oM 21 7,oV 22 .neq 21 0]
def r154_11:List AI:=[oM 23 7,oC 2 (.s []),oM 3 23]
def r154_12:List AI:=[oM 24 6,oB 25 .add (.c (.s [112,97,110,105,99,32])) (.t 24),oM 5 25]
def r154_13:List AI:=[oF 35 6 1,oL 36 35,oB 37 .and (.t 36) (.c (.i .u64 1)),oB 38 .neq (.t 37) (.c (.i .u64 0))]
def r154_14:List AI:=[oM 39 5,oB 40 .add (.t 39) (.c (.s [32,114,101,99,111,118,101,114,101,100])),oM 5 40]
def r154_15:List AI:=[oF 41 6 1,oL 42 41,oB 43 .and (.t 42) (.c (.i .u64 4)),oB 44 .neq (.t 43) (.c (.i .u64 0))]
def r154_16:List AI:=[oM 45 5,oB 46 .add (.t 45) (.c (.s [32,97,98,111,114,116,101,100])),oM 5 46]
def r154_17:List AI:=[oM 47 5,oM 2 47,oI 3 0]
abbrev c154_0:AC:=(sR 17 r154_17 .ret)
abbrev c154_1:AC:=(.seq (sR 15 r154_15 (.cond (.t 44) (.reg 16 r154_16) .skip)) c154_0)
abbrev c154_2:AC:=(.seq (sR 13 r154_13 (.cond (.t 38) (.reg 14 r154_14) .skip)) c154_1)
abbrev b154:AC:=(sR 0 r154_0 (.seq (sR 1 r154_1 (sR 2 r154_2 (.cond (.t 11) (sR 3 r154_3 .ret) .skip))) (sR 4 r154_4 (.seq (sR 5 r154_5 (.block 0 (sR 10 r154_6 (.cond (.t 26) .skip (sR 11 r154_7 (.cond (.t 28) (.reg 12 r154_8) (sR 6 r154_9 (.seq (sR 7 r154_10 (.cond (.t 22) (sR 8 r154_11 .ret) .skip)) (.reg 9 r154_12))))))))) c154_2))))
def pf154:AF:={ nt:=48,res:=[.tmp 2,.tmp 3],body:=b154 }
def T154_3 (prog:Prog)(K:BS→Int→Prop)(s5:BS):Prop:=
  K s5 0
def T154_2 (prog:Prog)(K:BS→Int→Prop)(s5:BS)(m0:Pan):Prop:=
  ((bAnd .u64 m0.flags 4)≠0→s5.length+([32,97,98,111,114,116,101,100]:BS).length≤maxStr∧T154_3 prog K (s5++([32,97,98,111,114,116,101,100]:BS)))∧(¬((bAnd .u64 m0.flags 4)≠0)→T154_3 prog K s5)
def T154_1 (prog:Prog)(K:BS→Int→Prop)(s5:BS)(m0:Pan):Prop:=
  ((bAnd .u64 m0.flags 1)≠0→s5.length+([32,114,101,99,111,118,101,114,101,100]:BS).length≤maxStr∧T154_2 prog K (s5++([32,114,101,99,111,118,101,114,101,100]:BS)) m0)∧(¬((bAnd .u64 m0.flags 1)≠0)→T154_2 prog K s5 m0)
def T154_0 (prog:Prog)(K:BS→Int→Prop)(p0:Pan):Prop:=
  ∃c,Pus prog 158 [p0.av] (.i .i64 c)∧(c≠0→K ([]:BS) c)∧(¬(c≠0)→(p0.tag=0→T154_1 prog K ([101,120,105,116]:BS) p0)∧(¬(p0.tag=0)→(p0.tag=4→∃j:LB,Pus prog 178 [] (.ag (List.map AV.s j))∧j.length=4∧0≤p0.value.int∧∃o,(j:LB)[(p0.value.int).toNat]?=some o∧T154_1 prog K o p0)∧(¬(p0.tag=4)→∃k:BS,∃e,Pus prog 72 [p0.value.av] (.tup [.s k,.i .i64 e])∧(e≠0→K ([]:BS) e)∧(¬(e≠0)→([112,97,110,105,99,32]:BS).length+k.length≤maxStr∧T154_1 prog K (([112,97,110,105,99,32]:BS)++k) p0))))
section
variable {prog:Prog}{d:Nat}{Q:AE→Sl→St→Prop}{K:BS→Int→Prop}(hQ:H2 AV.s (AV.i .i64) 2 3 Q K){σ:Sl}{st:St}
include hQ
variable {s5:BS}{m0:Pan}{v0:Nat}{p0:Pan}
variable (H1:σ 1=.p (d,0) v0 0)(H0:σ 0=p0.av)(H5:σ 5=.s s5)(B0:lk st.bx (d,0)=some (v0,[.i .u64 m0.tag,.i .u8 m0.value.kind,.i .i64 m0.value.int,.s m0.value.text,.sl .ext (List.map Val.row m0.value.list),.b m0.value.cut,.i .u64 m0.flags]))
include H5 in
theorem w154_3 (h:T154_3 prog K s5):W prog d c154_0 σ st Q:=
 q_ J (m_ (m_ (m_ (er_ (hQ H5 J h)))))
include H1 H5 B0 in
theorem w154_2 (h:T154_2 prog K s5 m0):W prog d c154_1 σ st Q:=
 sq_ (q_ J (f_ H1 (l_ J B0 J J (b_ J J (abin_and _ _ _) (b_ J J neq_ (e_ (cs_ J (fun c=>W.reg0 J fun _ _=>m_ (b_ H5 J (abin_cat' (h.1 c).1) (m_ (e_ (w154_3 hQ J (h.1 c).2))))) (fun c=>sk_ (w154_3 hQ H5 (h.2 c))))))))))
include H1 H5 B0 in
theorem w154_1 (h:T154_1 prog K s5 m0):W prog d c154_2 σ st Q:=
 sq_ (q_ J (f_ H1 (l_ J B0 J J (b_ J J (abin_and _ _ _) (b_ J J neq_ (e_ (cs_ J (fun c=>W.reg0 J fun _ _=>m_ (b_ H5 J (abin_cat' (h.1 c).1) (m_ (e_ (w154_2 hQ H1 J B0 (h.1 c).2))))) (fun c=>sk_ (w154_2 hQ H1 H5 B0 (h.2 c))))))))))
include H0 in
theorem w154_0 (h:T154_0 prog K p0):W prog d (sR 0 r154_0 (.seq (sR 1 r154_1 (sR 2 r154_2 (.cond (.t 11) (sR 3 r154_3 .ret) .skip))) (sR 4 r154_4 (.seq (sR 5 r154_5 (.block 0 (sR 10 r154_6 (.cond (.t 26) .skip (sR 11 r154_7 (.cond (.t 28) (.reg 12 r154_8) (sR 6 r154_9 (.seq (sR 7 r154_10 (.cond (.t 22) (sR 8 r154_11 .ret) .skip)) (.reg 9 r154_12))))))))) c154_2)))) σ st Q:=
 q_ J (s_box H0 J (m_ (m_ (e_ (sq_ (q_ J (l_ J lk_here J J (h.elim fun _ c=>ca_ (sc1 J J) c.1 (m_ (e_ (q_ J (m_ (b_ J J neq_ (e_ (cs_ J (fun e=>q_ J (m_ (m_ (m_ (er_ (hQ J J (c.2.1 e))))))) (fun e=>sk_ (q_ J (m_ (e_ (sq_ (q_ J (f_ J (l_ J lk_here J J (e_ (bk_ (q_ J (b_ J J eql_ (m_ (e_ (cs_ J (fun o=>sk_ (w154_1 hQ J J lk_here ((c.2.2 e).1 o))) (fun o=>q_ J (b_ J J eql_ (m_ (e_ (cs_ J (fun p=>W.reg0 J fun _ _=>(((c.2.2 e).2 o).1 p).elim fun _ j=>ca_ sn j.1 (f_ J (f_ J (l_ J lk_here J J (j.2.2.2.elim fun _ q=>s_ixA (f:=AV.s) j.2.1 J J j.2.2.1 q.1 (m_ (e_ (w154_1 hQ J J lk_here q.2)))))))) (fun p=>q_ J (f_ J (l_ J lk_here J J (x2 (((c.2.2 e).2 o).2 p) fun _ _ i=>ca_ (sc1 J J) i.1 (m_ (x_ J J (x_ J J (m_ (m_ (e_ (sq_ (q_ J (m_ (b_ J J neq_ (e_ (cs_ J (fun k=>q_ J (m_ (m_ (m_ (er_ (hQ J J (i.2.1 k))))))) (fun k=>sk_ (W.reg0 J fun _ _=>m_ (b_ J J (abin_cat' (i.2.2 k).1) (m_ (e_ (w154_1 hQ J J lk_here (i.2.2 k).2)))))))))))))))))))))))))))))))))))))))))))))))))))))))))
end
theorem p154 {prog:Prog}(hf:prog.fn 154=some pf154){p0:Pan}{K:BS→Int→Prop}(h:T154_0 prog K p0) :∃res0:BS,∃res1:Int,K res0 res1∧Pus prog 154 [p0.av] (.tup [.s res0,.i .i64 res1]):=
 P2 hf J (w154_0 (h2 J fun _ _=>J) J h)
abbrev H155 (Q:AE→Sl→St→Prop)(K:BS→Int→Prop):Prop:=∀(σ:Sl)(st:St)(res0:BS)(res1:Int),σ 2=.s res0→σ 3=.i .i64 res1→K res0 res1→Q .ret σ st
section
variable {prog:Prog}{d:Nat}{Q:AE→Sl→St→Prop}{K:BS→Int→Prop}(hQ:H155 Q K){σ:Sl}{st:St}
include hQ
end
end Go.AM

/- Parts of the proof. -/
namespace Go.AM
open Go
set_option linter.unusedVariables false
set_option linter.unusedSimpArgs false
set_option maxRecDepth 4000
attribute [local irreducible] WO fillCells fillRows
abbrev H181 (Q:AE→Sl→St→Prop)(K:Pan→Bool→Prop):Prop:=∀(σ:Sl)(st:St)(k0:Key)(v0:Nat)(o0_0:Own)(res0:Pan)(res1:Bool),σ 2=.p k0 v0 0→lk st.bx k0=some (v0,[.i .u64 res0.tag,.i .u8 res0.value.kind,.i .i64 res0.value.int,.s res0.value.text,.sl o0_0 (List.map Val.row res0.value.list),.b res0.value.cut,.i .u64 res0.flags])→σ 3=.b res1→K res0 res1→Q .ret σ st
section
variable {prog:Prog}{d:Nat}{Q:AE→Sl→St→Prop}{K:Pan→Bool→Prop}(hQ:H181 Q K){σ:Sl}{st:St}
include hQ
end
abbrev H156 (Q:AE→Sl→St→Prop)(K:Pan→Int→Prop):Prop:=∀(σ:Sl)(st:St)(k0:Key)(v0:Nat)(o0_0:Own)(res0:Pan)(res1:Int),σ 2=.p k0 v0 0→lk st.bx k0=some (v0,[.i .u64 res0.tag,.i .u8 res0.value.kind,.i .i64 res0.value.int,.s res0.value.text,.sl o0_0 (List.map Val.row res0.value.list),.b res0.value.cut,.i .u64 res0.flags])→σ 3=.i .i64 res1→K res0 res1→Q .ret σ st
section
variable {prog:Prog}{d:Nat}{Q:AE→Sl→St→Prop}{K:Pan→Int→Prop}(hQ:H156 Q K){σ:Sl}{st:St}
include hQ
end
abbrev H157 (Q:AE→Sl→St→Prop)(K:Pan→Int→Prop):Prop:=∀(σ:Sl)(st:St)(k0:Key)(v0:Nat)(o0_0:Own)(res0:Pan)(res1:Int),σ 2=.p k0 v0 0→lk st.bx k0=some (v0,[.i .u64 res0.tag,.i .u8 res0.value.kind,.i .i64 res0.value.int,.s res0.value.text,.sl o0_0 (List.map Val.row res0.value.list),.b res0.value.cut,.i .u64 res0.flags])→σ 3=.i .i64 res1→K res0 res1→Q .ret σ st
section
variable {prog:Prog}{d:Nat}{Q:AE→Sl→St→Prop}{K:Pan→Int→Prop}(hQ:H157 Q K){σ:Sl}{st:St}
include hQ
end
abbrev H160 (Q:AE→Sl→St→Prop)(K:Bool→Prop):Prop:=∀(σ:Sl)(st:St)(res0:Bool),σ 4=.b res0→K res0→Q .ret σ st
section
variable {prog:Prog}{d:Nat}{Q:AE→Sl→St→Prop}{K:Bool→Prop}(hQ:H160 Q K){σ:Sl}{st:St}
include hQ
end
abbrev H148 (Q:AE→Sl→St→Prop)(K:Bool→Prop):Prop:=∀(σ:Sl)(st:St)(res0:Bool),σ 4=.b res0→K res0→Q .ret σ st
section
variable {prog:Prog}{d:Nat}{Q:AE→Sl→St→Prop}{K:Bool→Prop}(hQ:H148 Q K){σ:Sl}{st:St}
include hQ
end
end Go.AM

/- Parts of the proof. -/
namespace Go.AM
open Go
set_option linter.unusedVariables false
set_option linter.unusedSimpArgs false
set_option maxRecDepth 4000
attribute [local irreducible] WO fillCells fillRows
abbrev H185 (Q:AE→Sl→St→Prop)(K:Int→Prop):Prop:=∀(σ:Sl)(st:St)(res0:Int),σ 2=.i .i64 res0→K res0→Q .ret σ st
section
variable {prog:Prog}{d:Nat}{Q:AE→Sl→St→Prop}{K:Int→Prop}(hQ:H185 Q K){σ:Sl}{st:St}
include hQ
end
def r163_0:List AI:=[oI 2 0]
def r163_1:List AI:=[oM 5 0,oJ 6 5,oV 7 .gtr 6 410]
def r163_2:List AI:=[oI 2 4]
def r163_3:List AI:=[oI 3 0]
def r163_4:List AI:=[oM 8 3,oM 9 0,oJ 10 9,oT 11 .lss 8 10]
def r163_5:List AI:=[oM 14 0,oM 15 3,oX 16 7 14 15,oK 17 7 16,oQ 18 159 [17],oM 4 18]
def r163_6:List AI:=[oM 19 4,oV 20 .neq 19 0]
def r163_7:List AI:=[oM 21 4,oM 2 21]
def r163_8:List AI:=[oM 12 3,oV 13 .add 12 1,oM 3 13]
def r163_9:List AI:=[oI 2 0]
abbrev l163_0:AC:=(.seq (sR 4 r163_4 (.cond (.t 11) .skip (.exit 0))) (.seq (.block 1 (sR 6 r163_5 (sR 7 r163_6 (.cond (.t 20) (sR 8 r163_7 .ret) .skip)))) (.reg 5 r163_8)))
abbrev c163_1:AC:=(sR 9 r163_9 .ret)
abbrev b163:AC:=(sR 0 r163_0 (.seq (sR 1 r163_1 (.cond (.t 7) (sR 2 r163_2 .ret) .skip)) (.seq (sR 3 r163_3 (.block 0 (.loop l163_0))) c163_1)))
def pf163:AF:={ nt:=22,res:=[.tmp 2],body:=b163 }
abbrev I163_0 (prog:Prog)(d:Nat)(Q:AE→Sl→St→Prop)(l0:List Pan)(i3:Int):Prop:=
  ∀(σ:Sl)(st:St)(o_l0:Own),σ 0=.sl o_l0 (List.map Pan.row l0)→σ 3=.i .i64 i3→W prog d (.loop l163_0) σ st (blockW 0 (thenW prog d c163_1 Q))
def T163_2 (prog:Prog)(K:Int→Prop) :Prop:=
  K 0
def T163_1 (prog:Prog)(K:Int→Prop)(P0:Int→Prop)(l0:List Pan)(i3:Int):Prop:=
  (i3<(l0.length:Int)→0≤i3∧∃e:Pan,l0[(i3).toNat]?=some e∧∃c,Pus prog 159 [e.av] (.i .i64 c)∧(c≠0→K c)∧(¬(c≠0)→P0 (IntKind.i64.wrap (i3+1))))∧(¬(i3<(l0.length:Int))→T163_2 prog K )
def T163_0 (prog:Prog)(K:Int→Prop)(l0:List Pan):Prop:=
  ((l0.length:Int)>410→K 4)∧(¬((l0.length:Int)>410)→∀P0:Int→Prop,(∀(i3:Int),T163_1 prog K P0 l0 i3→P0 i3)→P0 0)
section
variable {prog:Prog}{d:Nat}{Q:AE→Sl→St→Prop}{K:Int→Prop}(hQ:H1 (AV.i .i64) 2 Q K){σ:Sl}{st:St}
include hQ
variable {l0:List Pan}{i3:Int}{P0:Int→Prop}{o_l0:Own}
variable (kP0 :∀(i3:Int),P0 i3→I163_0 prog d Q l0 i3)(H0:σ 0=.sl o_l0 (List.map Pan.row l0))(H3:σ 3=.i .i64 i3)
theorem w163_2 (h:T163_2 prog K ):W prog d c163_1 σ st Q:=
 q_ J (m_ (er_ (hQ J h)))
include kP0 H0 H3 in
theorem w163_1 (h:T163_1 prog K P0 l0 i3):W prog d l163_0 σ st (thenW prog d (.loop l163_0) (blockW 0 (thenW prog d c163_1 Q))):=
 sq_ (q_ J (m_ (s_mvL H0 (ll_ J (b_ H3 J lss_ (e_ (cs_ J (fun c=>sk_ (sq_ (bk_ (q_ J (s_mvL H0 (m_ ((h.1 c).2.elim fun k j=>ia_ J H3 (h.1 c).1 j.1 (Pan.row_eq k) J (lf_ J J J (j.2.elim fun _ e=>ca_ (sc1 J J) e.1 (m_ (e_ (q_ J (m_ (b_ J J neq_ (e_ (cs_ J (fun i=>q_ J (m_ (m_ (er_ (hQ J (e.2.1 i)))))) (fun i=>sk_ (W.reg0 J fun _ _=>m_ (b_ H3 J add_ (m_ (e_ (kP0 _ (e.2.2 i) _ _ _ H0 J)))))))))))))))))))))) (fun c=>ex_ (w163_2 hQ (h.2 c))))))))))
include H0 in
theorem w163_0 (h:T163_0 prog K l0):W prog d (sR 0 r163_0 (.seq (sR 1 r163_1 (.cond (.t 7) (sR 2 r163_2 .ret) .skip)) (.seq (sR 3 r163_3 (.block 0 (.loop l163_0))) c163_1))) σ st Q:=
 q_ J (m_ (e_ (sq_ (q_ J (s_mvL H0 (ll_ J (b_ J J gtr_ (e_ (cs_ J (fun c=>q_ J (m_ (er_ (hQ J (h.1 c))))) (fun c=>sk_ (sq_ (q_ J (m_ (e_ (bk_ ((h.2 c) (I163_0 prog d Q l0) (fun _ hb _ _ _ H0 H3=>W.loop (w163_1 hQ (fun _ x=>x) H0 H3 hb)) _ _ _ H0 J))))))))))))))))
end
theorem p163 {prog:Prog}(hf:prog.fn 163=some pf163){l0:List Pan}{K:Int→Prop}(h:T163_0 prog K l0) :∃res0:Int,K res0∧Pus prog 163 [.sl .ext (List.map Pan.row l0)] (.i .i64 res0):=
 P1 hf J (w163_0 (h1 J fun _=>J) J h)
abbrev H165 (Q:AE→Sl→St→Prop)(K:Int→Int→Prop):Prop:=∀(σ:Sl)(st:St)(res0:Int)(res1:Int),σ 2=.i .i64 res0→σ 3=.i .i64 res1→K res0 res1→Q .ret σ st
section
variable {prog:Prog}{d:Nat}{Q:AE→Sl→St→Prop}{K:Int→Int→Prop}(hQ:H165 Q K){σ:Sl}{st:St}
include hQ
end
def r169_0:List AI:=[oI 2 0,oI 3 0]
def r169_1:List AI:=[oM 6 0,oQ 7 163 [6],oM 4 7]
def r169_2:List AI:=[oM 8 4,oV 9 .neq 8 0]
def r169_3:List AI:=[oM 10 4,oI 2 0,oM 3 10]
def r169_4:List AI:=[oI 5 0]
def r169_5:List AI:=[oM 11 5,oM 12 0,oJ 13 12,oT 14 .lss 11 13]
def r169_6:List AI:=[oM 17 0,oM 18 5,oX 19 7 17 18,oF 20 6 19,oL 21 20,oB 22 .eql (.t 21) (.c (.i .u64 0))]
def r169_7:List AI:=[oM 23 5,oM 2 23,oI 3 0]
def r169_8:List AI:=[oM 15 5,oV 16 .add 15 1,oM 5 16]
def r169_9:List AI:=[oI 2 0,oI 3 6]
abbrev l169_0:AC:=(.seq (sR 5 r169_5 (.cond (.t 14) .skip (.exit 0))) (.seq (.block 1 (sR 7 r169_6 (.cond (.t 22) (sR 8 r169_7 .ret) .skip))) (.reg 6 r169_8)))
abbrev c169_1:AC:=(sR 9 r169_9 .ret)
abbrev b169:AC:=(sR 0 r169_0 (.seq (sR 1 r169_1 (sR 2 r169_2 (.cond (.t 9) (sR 3 r169_3 .ret) .skip))) (.seq (sR 4 r169_4 (.block 0 (.loop l169_0))) c169_1)))
def pf169:AF:={ nt:=24,res:=[.tmp 2,.tmp 3],body:=b169 }
abbrev H169 (Q:AE→Sl→St→Prop)(K:Int→Int→Prop):Prop:=∀(σ:Sl)(st:St)(res0:Int)(res1:Int),σ 2=.i .i64 res0→σ 3=.i .i64 res1→K res0 res1→Q .ret σ st
section
variable {prog:Prog}{d:Nat}{Q:AE→Sl→St→Prop}{K:Int→Int→Prop}(hQ:H169 Q K){σ:Sl}{st:St}
include hQ
end
abbrev H170 (Q:AE→Sl→St→Prop)(K:Bool→Prop):Prop:=∀(σ:Sl)(st:St)(res0:Bool),σ 4=.b res0→K res0→Q .ret σ st
section
variable {prog:Prog}{d:Nat}{Q:AE→Sl→St→Prop}{K:Bool→Prop}(hQ:H170 Q K){σ:Sl}{st:St}
include hQ
end
def r162_0:List AI:=[oC 2 (.b false)]
def r162_1:List AI:=[oM 4 0,oJ 5 4,oV 6 .gtr 5 20,oM 7 6,gT 7 (oM 8 0),gT 7 (oJ 9 8),gT 7 (oV 10 .leq 9 410),oA 11 7 10,oM 12 11,gF 12 (oM 13 0),gF 12 (oJ 14 13),gF 12 (oV 15 .gtr 14 420),oR 16 12 15]
def r162_2:List AI:=[oC 2 (.b true)]
def r162_3:List AI:=[oI 3 0]
def r162_4:List AI:=[oM 17 3,oM 18 0,oJ 19 18,oT 20 .lss 17 19]
def r162_5:List AI:=[oM 23 0,oM 24 3,oX 25 7 23 24,oF 26 1 25,oK 27 5 26,oQ 28 71 [27]]
def r162_6:List AI:=[oC 2 (.b true)]
def r162_7:List AI:=[oM 21 3,oV 22 .add 21 1,oM 3 22]
def r162_8:List AI:=[oC 2 (.b false)]
abbrev l162_0:AC:=(.seq (sR 4 r162_4 (.cond (.t 20) .skip (.exit 0))) (.seq (.block 1 (sR 6 r162_5 (.cond (.t 28) (sR 7 r162_6 .ret) .skip))) (.reg 5 r162_7)))
abbrev c162_1:AC:=(sR 8 r162_8 .ret)
abbrev c162_2:AC:=(.seq (sR 3 r162_3 (.block 0 (.loop l162_0))) c162_1)
abbrev b162:AC:=(sR 0 r162_0 (.seq (sR 1 r162_1 (.cond (.t 16) (sR 2 r162_2 .ret) .skip)) c162_2))
def pf162:AF:={ nt:=29,res:=[.tmp 2],body:=b162 }
abbrev I162_0 (prog:Prog)(d:Nat)(Q:AE→Sl→St→Prop)(l0:List Pan)(i3:Int):Prop:=
  ∀(σ:Sl)(st:St)(o_l0:Own),σ 0=.sl o_l0 (List.map Pan.row l0)→σ 3=.i .i64 i3→W prog d (.loop l162_0) σ st (blockW 0 (thenW prog d c162_1 Q))
def T162_3 (prog:Prog)(K:Bool→Prop) :Prop:=
  K false
def T162_2 (prog:Prog)(K:Bool→Prop)(P0:Int→Prop)(l0:List Pan)(i3:Int):Prop:=
  (i3<(l0.length:Int)→0≤i3∧∃e:Pan,l0[(i3).toNat]?=some e∧∃c,Pus prog 71 [e.value.av] (.b c)∧(c=true→K true)∧(c=false→P0 (IntKind.i64.wrap (i3+1))))∧(¬(i3<(l0.length:Int))→T162_3 prog K )
def T162_1 (prog:Prog)(K:Bool→Prop)(l0:List Pan):Prop:=
  ∀P0:Int→Prop,(∀(i3:Int),T162_2 prog K P0 l0 i3→P0 i3)→P0 0
def T162_0 (prog:Prog)(K:Bool→Prop)(l0:List Pan):Prop:=
  ((l0.length:Int)>20→((l0.length:Int)≤410→K true)∧(¬((l0.length:Int)≤410)→((l0.length:Int)>420→K true)∧(¬((l0.length:Int)>420)→T162_1 prog K l0)))∧(¬((l0.length:Int)>20)→((l0.length:Int)>420→K true)∧(¬((l0.length:Int)>420)→T162_1 prog K l0))
section
variable {prog:Prog}{d:Nat}{Q:AE→Sl→St→Prop}{K:Bool→Prop}(hQ:H1 AV.b 2 Q K){σ:Sl}{st:St}
include hQ
variable {l0:List Pan}{i3:Int}{P0:Int→Prop}{o_l0:Own}
variable (kP0 :∀(i3:Int),P0 i3→I162_0 prog d Q l0 i3)(H0:σ 0=.sl o_l0 (List.map Pan.row l0))(H3:σ 3=.i .i64 i3)
theorem w162_3 (h:T162_3 prog K ):W prog d c162_1 σ st Q:=
 q_ J (m_ (er_ (hQ J h)))
include kP0 H0 H3 in
theorem w162_2 (h:T162_2 prog K P0 l0 i3):W prog d l162_0 σ st (thenW prog d (.loop l162_0) (blockW 0 (thenW prog d c162_1 Q))):=
 sq_ (q_ J (m_ (s_mvL H0 (ll_ J (b_ H3 J lss_ (e_ (cs_ J (fun c=>sk_ (sq_ (bk_ (q_ J (s_mvL H0 (m_ ((h.1 c).2.elim fun k j=>ia_ J H3 (h.1 c).1 j.1 (Pan.row_eq k) J (ff_ J (lf_ J J J (j.2.elim fun _ e=>ca_ (sc1 J J) e.1 (e_ (cb_ J (fun i=>q_ J (m_ (er_ (hQ J (e.2.1 i))))) (fun i=>sk_ (W.reg0 J fun _ _=>m_ (b_ H3 J add_ (m_ (e_ (kP0 _ (e.2.2 i) _ _ _ H0 J)))))))))))))))))) (fun c=>ex_ (w162_3 hQ (h.2 c))))))))))
include H0 in
theorem w162_1 (h:T162_1 prog K l0):W prog d c162_2 σ st Q:=
 sq_ (q_ J (m_ (e_ (bk_ (h (I162_0 prog d Q l0) (fun _ hb _ _ _ H0 H3=>W.loop (w162_2 hQ (fun _ x=>x) H0 H3 hb)) _ _ _ H0 J)))))
include H0 in
theorem w162_0 (h:T162_0 prog K l0):W prog d (sR 0 r162_0 (.seq (sR 1 r162_1 (.cond (.t 16) (sR 2 r162_2 .ret) .skip)) c162_2)) σ st Q:=
 q_ J (m_ (e_ (sq_ (q_ J (s_mvL H0 (ll_ J (b_ J J gtr_ (s_mvB J (em_ (g:=7) J (fun c=>gy_ J (s_mvL H0 (gy_ J (ll_ J (gy_ J (b_ J J leq_ (z_ 2 J (em_ (g:=12) J (fun e=>z_ 4 J (e_ (ct_ J (q_ J (m_ (er_ (hQ J ((h.1 c).1 e)))))))) (fun e=>gy_ J (s_mvL H0 (gy_ J (ll_ J (gy_ J (b_ J J gtr_ (pf_ J J (e_ (cs_ J (fun i=>q_ J (m_ (er_ (hQ J (((h.1 c).2 e).1 i))))) (fun i=>sk_ (w162_1 hQ H0 (((h.1 c).2 e).2 i)))))))))))))))))))) (fun c=>z_ 5 J (gy_ J (s_mvL H0 (gy_ J (ll_ J (gy_ J (b_ J J gtr_ (pf_ J J (e_ (cs_ J (fun j=>q_ J (m_ (er_ (hQ J ((h.2 c).1 j))))) (fun j=>sk_ (w162_1 hQ H0 ((h.2 c).2 j))))))))))))))))))))))
end
theorem p162 {prog:Prog}(hf:prog.fn 162=some pf162){l0:List Pan}{K:Bool→Prop}(h:T162_0 prog K l0) :∃res0:Bool,K res0∧Pus prog 162 [.sl .ext (List.map Pan.row l0)] (.b res0):=
 P1 hf J (w162_0 (h1 J fun _=>J) J h)
abbrev H164 (Q:AE→Sl→St→Prop)(K:BS→Int→Prop):Prop:=∀(σ:Sl)(st:St)(res0:BS)(res1:Int),σ 2=.s res0→σ 3=.i .i64 res1→K res0 res1→Q .ret σ st
section
variable {prog:Prog}{d:Nat}{Q:AE→Sl→St→Prop}{K:BS→Int→Prop}(hQ:H164 Q K){σ:Sl}{st:St}
include hQ
end
abbrev H166 (Q:AE→Sl→St→Prop)(K:BS→Int→Prop):Prop:=∀(σ:Sl)(st:St)(res0:BS)(res1:Int),σ 2=.s res0→σ 3=.i .i64 res1→K res0 res1→Q .ret σ st
section
variable {prog:Prog}{d:Nat}{Q:AE→Sl→St→Prop}{K:BS→Int→Prop}(hQ:H166 Q K){σ:Sl}{st:St}
include hQ
end
abbrev H171 (Q:AE→Sl→St→Prop)(K:Bool→Prop):Prop:=∀(σ:Sl)(st:St)(res0:Bool),σ 4=.b res0→K res0→Q .ret σ st
section
variable {prog:Prog}{d:Nat}{Q:AE→Sl→St→Prop}{K:Bool→Prop}(hQ:H171 Q K){σ:Sl}{st:St}
include hQ
end
abbrev H172 (Q:AE→Sl→St→Prop)(K:Val→Prop):Prop:=∀(σ:Sl)(st:St)(k0:Key)(v0:Nat)(o0_0:Own)(res0:Val),σ 2=.p k0 v0 0→lk st.bx k0=some (v0,[.i .u8 res0.kind,.i .i64 res0.int,.s res0.text,.sl o0_0 (List.map Val.row res0.list),.b res0.cut])→K res0→Q .ret σ st
section
variable {prog:Prog}{d:Nat}{Q:AE→Sl→St→Prop}{K:Val→Prop}(hQ:H172 Q K){σ:Sl}{st:St}
include hQ
end
abbrev H173 (Q:AE→Sl→St→Prop)(K:Val→Prop):Prop:=∀(σ:Sl)(st:St)(k0:Key)(v0:Nat)(o0_0:Own)(res0:Val),σ 0=.p k0 v0 0→lk st.bx k0=some (v0,[.i .u8 res0.kind,.i .i64 res0.int,.s res0.text,.sl o0_0 (List.map Val.row res0.list),.b res0.cut])→K res0→Q .ret σ st
section
variable {prog:Prog}{d:Nat}{Q:AE→Sl→St→Prop}{K:Val→Prop}(hQ:H173 Q K){σ:Sl}{st:St}
include hQ
end
abbrev H174 (Q:AE→Sl→St→Prop)(K:Val→Prop):Prop:=∀(σ:Sl)(st:St)(k0:Key)(v0:Nat)(o0_0:Own)(res0:Val),σ 2=.p k0 v0 0→lk st.bx k0=some (v0,[.i .u8 res0.kind,.i .i64 res0.int,.s res0.text,.sl o0_0 (List.map Val.row res0.list),.b res0.cut])→K res0→Q .ret σ st
section
variable {prog:Prog}{d:Nat}{Q:AE→Sl→St→Prop}{K:Val→Prop}(hQ:H174 Q K){σ:Sl}{st:St}
include hQ
end
abbrev H176 (Q:AE→Sl→St→Prop)(K:Bool→Prop):Prop:=∀(σ:Sl)(st:St)(res0:Bool),σ 2=.b res0→K res0→Q .ret σ st
section
variable {prog:Prog}{d:Nat}{Q:AE→Sl→St→Prop}{K:Bool→Prop}(hQ:H176 Q K){σ:Sl}{st:St}
include hQ
end
abbrev H184 (d:Nat)(st0:St)(Q:AE→Sl→St→Prop)(K:List Pan→Prop):Prop:=∀(σ:Sl)(st:St)(res0:List Pan),σ 0=.sl .full (List.map Pan.row res0)→Fr d (d,0) st0.bx st0.ow st.bx st.ow→K res0→Q .ret σ st
section
variable {prog:Prog}{d:Nat}{Q:AE→Sl→St→Prop}{K:List Pan→Prop}{st0:St}(hQ:H184 d st0 Q K){σ:Sl}{st:St}
include hQ
end
abbrev H161 (Q:AE→Sl→St→Prop)(K:Bool→Prop):Prop:=∀(σ:Sl)(st:St)(res0:Bool),σ 0=.b res0→K res0→Q .ret σ st
section
variable {prog:Prog}{d:Nat}{Q:AE→Sl→St→Prop}{K:Bool→Prop}(hQ:H161 Q K){σ:Sl}{st:St}
include hQ
end
end Go.AM

/- Parts of the proof. -/
namespace Go.AM
open Go
set_option linter.unusedVariables false
set_option linter.unusedSimpArgs false
set_option maxRecDepth 4000
attribute [local irreducible] WO fillCells fillRows
abbrev H149 (Q:AE→Sl→St→Prop)(K:Bool→Prop):Prop:=∀(σ:Sl)(st:St)(res0:Bool),σ 4=.b res0→K res0→Q .ret σ st
section
variable {prog:Prog}{d:Nat}{Q:AE→Sl→St→Prop}{K:Bool→Prop}(hQ:H149 Q K){σ:Sl}{st:St}
include hQ
end
abbrev H150 (Q:AE→Sl→St→Prop)(K:Bool→Prop):Prop:=∀(σ:Sl)(st:St)(res0:Bool),σ 2=.b res0→K res0→Q .ret σ st
section
variable {prog:Prog}{d:Nat}{Q:AE→Sl→St→Prop}{K:Bool→Prop}(hQ:H150 Q K){σ:Sl}{st:St}
include hQ
end
end Go.AM
