/- Parts of the proof: U44k, U44l, U44m, U44j, H44b, H44c, K44z, C30, C30b, V38b, V44, C44, C44b, V38c, V39, V39b, C38, C38b, C38c. -/
import Derived.Test.YtbcdfamilcmjnaaGreatG2
import Derived.Test.YtbcdfamilcmjnaaGreatG5
import Derived.Test.YtbcdfamilcmjnaaGreatRows
import Derived.Test.YtbcdfamilcmjnaaGreatG3
import Derived.Test.YtbcdfamilcmjnaaGreatG4
import Derived.Shelf.Strings.Builder1
set_option linter.all false
namespace Go.AM
open Go
set_option linter.unusedVariables false
set_option linter.unusedSimpArgs false
set_option maxRecDepth 4000
attribute [local irreducible] WO fillCells fillRows
def r277_0:List AI:=[oY 4 3 0,oY 5 4 1,oY 6 5 2,oC 8 (.b false)]
def r277_1:List AI:=[oK 17 3 4,oQ 18 79 [17],oM 19 18,gF 19 (oK 20 4 5),gF 19 (oQ 21 203 [20]),oR 22 19 21,oM 23 22,gF 23 (oF 24 4 6),gF 23 (oL 25 24),gF 23 (oH 26 25),gF 23 (oV 27 .gtr 26 100),oR 28 23 27,oM 29 28,gF 29 (oM 30 3),gF 29 (oH 31 30),gF 29 (oV 32 .gtr 31 2100),oR 33 29 32]
def r277_2:List AI:=[oC 8 (.b true)]
def r277_3:List AI:=[oK 35 3 4,oK 36 4 5,oK 37 5 6,oQ 38 264 [35,36,37],oM 34 38,oE 39 0 34,oE 40 1 34,oM 9 39,oM 10 40]
def r277_4:List AI:=[oK 42 3 4,oK 43 4 5,oK 44 5 6,oQ 45 280 [42,43,44],oM 41 45,oE 46 0 41,oE 47 1 41,oM 11 46,oM 12 47]
def r277_5:List AI:=[oK 49 3 4,oK 50 4 5,oM 51 3,oQ 52 254 [49,50,51],oM 48 52,oE 53 0 48,oE 54 1 48,oM 13 53,oM 14 54]
def r277_6:List AI:=[oK 56 3 4,oK 57 4 5,oM 58 3,oQ 59 281 [56,57,58],oM 55 59,oE 60 0 55,oE 61 1 55,oM 15 60,oM 16 61]
def r277_7:List AI:=[oM 62 9,oM 63 11,oQ 64 29 [62,63],oM 65 64,gT 65 (oM 66 10),gT 65 (oM 67 12),gT 65 (oT 68 .eql 66 67),oA 69 65 68,oM 70 69,gT 70 (oM 71 13),gT 70 (oM 72 15),gT 70 (oQ 73 29 [71,72]),oA 74 70 73,oM 75 74,gT 75 (oM 76 14),gT 75 (oM 77 16),gT 75 (oT 78 .eql 76 77),oA 79 75 78,oM 8 79]
abbrev c277_0:AC:=(sR 3 r277_3 (sR 4 r277_4 (sR 5 r277_5 (sR 6 r277_6 (sR 7 r277_7 .ret)))))
abbrev c277_1:AC:=(.seq (sR 1 r277_1 (.cond (.t 33) (sR 2 r277_2 .ret) .skip)) c277_0)
abbrev b277:AC:=(sR 0 r277_0 c277_1)
def pf277:AF:={ nt:=80,res:=[.tmp 8],body:=b277 }
def T277_2 (prog:Prog)(K:Bool→Prop)(text3:BS)(m0:Img)(m1:Sta)(m2:Qry):Prop:=
  ∃c j,Pus prog 264 [m0.av,m1.av,m2.av] (.tup [.sl .ext (List.map rowS c),.i .i64 j])∧∃r k,Pus prog 280 [m0.av,m1.av,m2.av] (.tup [.sl .ext (List.map rowS r),.i .i64 k])∧∃q u,Pus prog 254 [m0.av,m1.av,.s text3] (.tup [.sl .ext (List.map rowS q),.i .i64 u])∧∃p v,Pus prog 281 [m0.av,m1.av,.s text3] (.tup [.sl .ext (List.map rowS p),.i .i64 v])∧∃o,Pus prog 29 [.sl .ext (List.map rowS c),.sl .ext (List.map rowS r)] (.b o)∧(o=true→(j=k→∃e,Pus prog 29 [.sl .ext (List.map rowS q),.sl .ext (List.map rowS p)] (.b e)∧(e=true→K (decide (u=v)))∧(e=false→K false))∧(¬(j=k)→K false))∧(o=false→K false)
def T277_1 (prog:Prog)(K:Bool→Prop)(text3:BS)(m0:Img)(m1:Sta)(m2:Qry):Prop:=
  ∃c,Pus prog 79 [m0.av] (.b c)∧(c=true→K true)∧(c=false→∃e,Pus prog 203 [m1.av] (.b e)∧(e=true→K true)∧(e=false→((m2.name.length:Int)>100→K true)∧(¬((m2.name.length:Int)>100)→((text3.length:Int)>2100→K true)∧(¬((text3.length:Int)>2100)→T277_2 prog K text3 m0 m1 m2))))
def T277_0 (prog:Prog)(K:Bool→Prop)(m0:Img)(s1:Sta)(q2:Qry)(text3:BS):Prop:=
  T277_1 prog K text3 m0 s1 q2
section
variable {prog:Prog}{d:Nat}{Q:AE→Sl→St→Prop}{K:Bool→Prop}(hQ:H1 AV.b 8 Q K){σ:Sl}{st:St}
include hQ
variable {text3:BS}{m0:Img}{m1:Sta}{m2:Qry}{v0 v1 v2:Nat}{s1:Sta}{q2:Qry}
variable (H0:σ 0=m0.av)(H1:σ 1=s1.av)(H2:σ 2=q2.av)(H3:σ 3=.s text3)(H4:σ 4=.p (d,0) v0 0)(H5:σ 5=.p (d,1) v1 0)(H6:σ 6=.p (d,2) v2 0)(B0:lk st.bx (d,0)=some (v0,Img.cs m0))(B1:lk st.bx (d,1)=some (v1,Sta.cs m1))(B2:lk st.bx (d,2)=some (v2,Qry.cs m2))
include H3 H4 H5 H6 B0 B1 B2 in
theorem w277_2 (h:T277_2 prog K text3 m0 m1 m2):W prog d c277_0 σ st Q:=
 q_ J (l_ H4 B0 J J (l_ H5 B1 J J (l_ H6 B2 J J (x2 h fun _ _ p=>ca_ (sc3 J J J J) p.1 (m_ (x_ J J (x_ J J (s_mvL J (m_ (e_ (q_ J (l_ H4 B0 J J (l_ H5 B1 J J (l_ H6 B2 J J (x2 p.2 fun _ _ q=>ca_ (sc3 J J J J) q.1 (m_ (x_ J J (x_ J J (s_mvL J (m_ (e_ (q_ J (l_ H4 B0 J J (l_ H5 B1 J J (m_ (x2 q.2 fun _ _ r=>ca_ (sc3 J J H3 J) r.1 (m_ (x_ J J (x_ J J (s_mvL J (m_ (e_ (q_ J (l_ H4 B0 J J (l_ H5 B1 J J (m_ (x2 r.2 fun _ _ o=>ca_ (sc3 J J H3 J) o.1 (m_ (x_ J J (x_ J J (s_mvL J (m_ (e_ (q_ J (s_mvL J (s_mvL J (o.2.elim fun _ c=>ca_ (sc2 J J J) c.1 (s_mvB J (eb_ (g:=65) J (fun e=>gy_ J (s_mvI J (gy_ J (s_mvI J (gy_ J (b_ J J eql_ (z_ 2 J (em_ (g:=70) J (fun j=>gy_ J (s_mvL J (gy_ J (s_mvL J (gy_ J (((c.2.1 e).1 j).elim fun _ i=>ca_ (sc2 J J J) i.1 (z_ 2 J (eb_ (g:=75) J (fun k=>gy_ J (s_mvI J (gy_ J (s_mvI J (gy_ J (b_ J J eql_ (z_ 2 J (er_ (hQ J (i.2.1 k)))))))))) (fun k=>z_ 5 J (er_ (hQ J (i.2.2 k)))))))))))) (fun j=>z_ 10 J (er_ (hQ J ((c.2.1 e).2 j)))))))))))) (fun e=>z_ 15 J (er_ (hQ J (c.2.2 e)))))))))))))))))))))))))))))))))))))))))))))))))))))
include H3 H4 H5 H6 B0 B1 B2 in
theorem w277_1 (h:T277_1 prog K text3 m0 m1 m2):W prog d c277_1 σ st Q:=
 sq_ (q_ J (l_ H4 B0 J J (h.elim fun _ j=>ca_ (sc1 J J) j.1 (s_mvB J (eb_ (g:=19) J (fun k=>z_ 14 J (e_ (ct_ J (q_ J (m_ (er_ (hQ J (j.2.1 k)))))))) (fun k=>gy_ J (l_ H5 B1 J J (gy_ J ((j.2.2 k).elim fun _ c=>ca_ (sc1 J J) c.1 (z_ 2 J (eb_ (g:=23) J (fun e=>z_ 10 J (e_ (ct_ J (q_ J (m_ (er_ (hQ J (c.2.1 e)))))))) (fun e=>gy_ J (f_ H6 (gy_ J (l_ J B2 J J (gy_ J (ln_ J (gy_ J (b_ J J gtr_ (z_ 2 J (em_ (g:=29) J (fun i=>z_ 4 J (e_ (ct_ J (q_ J (m_ (er_ (hQ J ((c.2.2 e).1 i)))))))) (fun i=>gy_ J (s_mvS H3 (gy_ J (ln_ J (gy_ J (b_ J J gtr_ (pf_ J J (e_ (cs_ J (fun o=>q_ J (m_ (er_ (hQ J (((c.2.2 e).2 i).1 o))))) (fun o=>sk_ (w277_2 hQ H3 H4 H5 H6 B0 B1 B2 (((c.2.2 e).2 i).2 o)))))))))))))))))))))))))))))))))
include H0 H1 H2 H3 in
theorem w277_0 (h:T277_0 prog K m0 s1 q2 text3):W prog d (sR 0 r277_0 c277_1) σ st Q:=
 q_ J (s_box H0 J (s_box H1 J (s_box H2 J (m_ (e_ (w277_1 hQ H3 J J J (lk_other J (lk_other J lk_here)) (lk_other J lk_here) lk_here h))))))
end
theorem p277 {prog:Prog}(hf:prog.fn 277=some pf277){m0:Img}{s1:Sta}{q2:Qry}{text3:BS}{K:Bool→Prop}(h:T277_0 prog K m0 s1 q2 text3) :∃res0:Bool,K res0∧Pus prog 277 [m0.av,s1.av,q2.av,.s text3] (.b res0):=
 P1 hf J (w277_0 (h1 J fun _=>J) J J J J h)
def r281_0:List AI:=[oY 3 3 0,oY 4 4 1,oC 6 (.sl .full []),oI 7 0]
def r281_1:List AI:=[oM 11 2,oQ 12 246 [11],oM 10 12,oE 13 0 10,oE 14 1 10,oO 8 (.alloc [z8,z6,z6,z6,zs]),oS 5 8 13,oM 9 14]
def r281_2:List AI:=[oM 15 9,oV 16 .neq 15 0]
def r281_3:List AI:=[oM 17 9,oC 6 (.sl .full []),oM 7 17]
def r281_4:List AI:=[oK 18 3 3,oK 19 4 4,oK 20 5 8,oQ 21 280 [18,19,20],oE 22 0 21,oE 23 1 21,oM 6 22,oM 7 23]
abbrev b281:AC:=(sR 0 r281_0 (sR 1 r281_1 (.seq (sR 2 r281_2 (.cond (.t 16) (sR 3 r281_3 .ret) .skip)) (sR 4 r281_4 .ret))))
def pf281:AF:={ nt:=24,res:=[.tmp 6,.tmp 7],body:=b281 }
def T281_0 (prog:Prog)(K:LB→Int→Prop)(m0:Img)(s1:Sta)(text2:BS):Prop:=
  ∃e:Qry,∃c,Pus prog 246 [.s text2] (.tup [e.av,.i .i64 c])∧(c≠0→K ([]:LB) c)∧(¬(c≠0)→∃k j,Pus prog 280 [m0.av,s1.av,e.av] (.tup [.sl .ext (List.map rowS k),.i .i64 j])∧K k j)
section
variable {prog:Prog}{d:Nat}{Q:AE→Sl→St→Prop}{K:LB→Int→Prop}(hQ:HM rowS (AV.i .i64) 6 7 Q K){σ:Sl}{st:St}
include hQ
variable {m0:Img}{s1:Sta}{text2:BS}
variable (H0:σ 0=m0.av)(H1:σ 1=s1.av)(H2:σ 2=.s text2)
include H0 H1 H2 in
theorem w281_0 (h:T281_0 prog K m0 s1 text2):W prog d (sR 0 r281_0 (sR 1 r281_1 (.seq (sR 2 r281_2 (.cond (.t 16) (sR 3 r281_3 .ret) .skip)) (sR 4 r281_4 .ret)))) σ st Q:=
 q_ J (s_box H0 J (s_box H1 J (s_mvL (f:=rowS) (l:=[]) J (m_ (e_ (sq_ (W.reg (m_ (x2 h fun _ _ c=>ca_ (sc1 H2 J) c.1 (m_ (x_ J J (x_ J J (s_alloc (so_ J (show lk _ (d,4101)=some (_,([.i .u8 0,.i .i64 0,.i .i64 0,.i .i64 0,.s []]:List AV)) from lk_here) J J J (m_ (e_ (sq_ (q_ J (m_ (b_ J J neq_ (e_ (cs_ J (fun e=>q_ J (m_ (s_mvL (f:=rowS) (l:=[]) J (m_ (er_ (hQ J J (c.2.1 e))))))) (fun e=>sk_ (q_ J (l_ J (lk_other J (lk_other J (lk_other J lk_here))) J J (l_ J (lk_other J (lk_other J lk_here)) J J (l_ J lk_here J J (x2 (c.2.2 e) fun _ _ j=>ca_ (sc3 J J J J) j.1 (x_ J J (x_ J J (s_mvL J (m_ (er_ (hQ J J j.2))))))))))))))))))))))))))))))))))
end
theorem p281 {prog:Prog}(hf:prog.fn 281=some pf281){m0:Img}{s1:Sta}{text2:BS}{K:LB→Int→Prop}(h:T281_0 prog K m0 s1 text2) :∃res0:LB,∃res1:Int,K res0 res1∧Pus prog 281 [m0.av,s1.av,.s text2] (.tup [.sl .ext (List.map rowS res0),.i .i64 res1]):=
 P2 hf J (w281_0 (hM J fun _ _ _=>J) J J J h)
abbrev H282 (Q:AE→Sl→St→Prop)(K:Bool→Prop):Prop:=∀(σ:Sl)(st:St)(res0:Bool),σ 4=.b res0→K res0→Q .ret σ st
section
variable {prog:Prog}{d:Nat}{Q:AE→Sl→St→Prop}{K:Bool→Prop}(hQ:H282 Q K){σ:Sl}{st:St}
include hQ
end
def r284_0:List AI:=[oC 2 (.sl .full [])]
def r284_1:List AI:=[oC 3 (.sl .full [])]
def r284_2:List AI:=[oI 4 0]
def r284_3:List AI:=[oM 5 4,oM 6 0,oJ 7 6,oT 8 .lss 5 7]
def r284_4:List AI:=[oM 11 3,oM 12 0,oM 13 4,oX 14 1 12 13,oL 15 14,oO 16 (.slS (.t 15) (some (.c (.i .i64 2))) none),oO 17 (.bslice [zs] 1 [(0,(.t 16))]),oO 18 (.app 1 16 (.t 11) (.t 17)),oM 3 18]
def r284_5:List AI:=[oM 9 4,oV 10 .add 9 1,oM 4 10]
def r284_6:List AI:=[oM 19 3,oM 2 19]
abbrev l284_0:AC:=(.seq (sR 3 r284_3 (.cond (.t 8) .skip (.exit 0))) (.seq (.block 1 (.reg 5 r284_4)) (.reg 4 r284_5)))
abbrev c284_1:AC:=(sR 6 r284_6 .ret)
abbrev b284:AC:=(sR 0 r284_0 (sR 1 r284_1 (.seq (sR 2 r284_2 (.block 0 (.loop l284_0))) c284_1)))
def pf284:AF:={ nt:=20,res:=[.tmp 2],body:=b284 }
abbrev I284_0 (prog:Prog)(d:Nat)(Q:AE→Sl→St→Prop)(l0:LB)(out3:LB)(i4:Int):Prop:=
  ∀(σ:Sl)(st:St) (o_l0 o_out3:Own),σ 0=.sl o_l0 (List.map rowS l0)→σ 3=.sl o_out3 (List.map rowS out3)→σ 4=.i .i64 i4→ApM d st.ow o_out3 out3.length→W prog d (.loop l284_0) σ st (blockW 0 (thenW prog d c284_1 Q))
def T284_2 (prog:Prog)(K:LB→Prop)(out3:LB):Prop:=
  K out3
def T284_1 (prog:Prog)(K:LB→Prop)(P0:LB→Int→Prop)(l0:LB)(out3:LB)(i4:Int):Prop:=
  (i4<(l0.length:Int)→0≤i4∧∃c:BS,l0[(i4).toNat]?=some c∧2≤c.length∧Fit (out3.length+[(c.drop 2)].length) 16∧P0 (out3++[(c.drop 2)]) (IntKind.i64.wrap (i4+1)))∧(¬(i4<(l0.length:Int))→T284_2 prog K out3)
def T284_0 (prog:Prog)(K:LB→Prop)(l0:LB):Prop:=
  ∀P0:LB→Int→Prop,(∀(out3:LB)(i4:Int),T284_1 prog K P0 l0 out3 i4→P0 out3 i4)→P0 ([]:LB) 0
section
variable {prog:Prog}{d:Nat}{Q:AE→Sl→St→Prop}{K:LB→Prop}(hQ:HL rowS 2 Q K){σ:Sl}{st:St}
include hQ
variable {out3:LB}{o_out3:Own}{l0:LB}{i4:Int}{P0:LB→Int→Prop}{o_l0:Own}
variable (kP0 :∀(out3:LB)(i4:Int),P0 out3 i4→I284_0 prog d Q l0 out3 i4)(H0:σ 0=.sl o_l0 (List.map rowS l0))(H3:σ 3=.sl o_out3 (List.map rowS out3))(H4:σ 4=.i .i64 i4)(A3:ApM d st.ow o_out3 out3.length)
include H3 A3 in
theorem w284_2 (h:T284_2 prog K out3):W prog d c284_1 σ st Q:=
 q_ J (s_mvL H3 (s_mvL J (er_ (hQ J h))))
include kP0 H0 H3 H4 A3 in
theorem w284_1 (h:T284_1 prog K P0 l0 out3 i4):W prog d l284_0 σ st (thenW prog d (.loop l284_0) (blockW 0 (thenW prog d c284_1 Q))):=
 sq_ (q_ J (m_ (s_mvL H0 (ll_ J (b_ H4 J lss_ (e_ (cs_ J (fun e=>sk_ (sq_ (bk_ (W.reg0 J fun _ _=>s_mvL H3 (s_mvL H0 (m_ ((h.1 e).2.elim fun j c=>ia_ J H4 (h.1 e).1 c.1 J J (lf_ J J J (s_slS_lo J J (by decide) c.2.1 (s_bslM (f:=rowS) (l:=[(j.drop 2)]) J J (g_cons J J J g_nil) J (s_app rowS_len J J J A3.1 c.2.2.1 J (fun _ _ i _ k=>s_mvL J (e_ (W.reg0 J fun _ _=>m_ (b_ H4 J add_ (m_ (e_ (kP0 _ _ c.2.2.2 _ _ _ _ H0 J J (ApM.mk i (Mine.app A3.2 J k)))))))))))))))))))) (fun e=>ex_ (w284_2 hQ H3 A3 (h.2 e))))))))))
include H0 in
theorem w284_0 (h:T284_0 prog K l0):W prog d (sR 0 r284_0 (sR 1 r284_1 (.seq (sR 2 r284_2 (.block 0 (.loop l284_0))) c284_1))) σ st Q:=
 q_ J (s_mvL (f:=rowS) (l:=[]) J (e_ (q_ J (s_mvL (f:=rowS) (l:=[]) J (e_ (sq_ (q_ J (m_ (e_ (bk_ (h (I284_0 prog d Q l0) (fun _ _ hb _ _ _ _ H0 H3 H4 A3=>W.loop (w284_1 hQ (fun _ _ x=>x) H0 H3 H4 A3 hb)) _ _ _ _ H0 J J ApM.full)))))))))))
end
theorem p284 {prog:Prog}(hf:prog.fn 284=some pf284){l0:LB}{K:LB→Prop}(h:T284_0 prog K l0) :∃res0:LB,K res0∧Pus prog 284 [.sl .ext (List.map rowS l0)] (.sl .ext (List.map rowS res0)):=
 P1 hf J (w284_0 (hL J) J h)
def r285_0:List AI:=[oY 3 3 0,oY 5 5 2,oC 6 (.sl .full [])]
def r285_1:List AI:=[oI 7 1]
def r285_2:List AI:=[oI 8 0]
def r285_3:List AI:=[oM 9 8,oF 10 2 5,oL 11 10,oJ 12 11,oT 13 .lss 9 12]
def r285_4:List AI:=[oM 16 7,oF 17 2 5,oL 18 17,oM 19 8,oX 20 4 18 19,oF 21 3 20,oL 22 21,oJ 23 22,oB 24 .add (.c (.i .i64 1)) (.t 23),oT 25 .add 16 24,oM 7 25]
def r285_5:List AI:=[oM 14 8,oV 15 .add 14 1,oM 8 15]
def r285_6:List AI:=[oK 26 3 3,oM 27 1,oK 28 5 5,oQ 29 222 [26,27,28],oM 30 7,oO 31 (.slL 1 (.t 29) (some (.t 30)) none),oM 6 31]
abbrev l285_0:AC:=(.seq (sR 3 r285_3 (.cond (.t 13) .skip (.exit 0))) (.seq (.block 1 (.reg 5 r285_4)) (.reg 4 r285_5)))
abbrev c285_1:AC:=(sR 6 r285_6 .ret)
abbrev b285:AC:=(sR 0 r285_0 (sR 1 r285_1 (.seq (sR 2 r285_2 (.block 0 (.loop l285_0))) c285_1)))
def pf285:AF:={ nt:=32,res:=[.tmp 6],body:=b285 }
abbrev I285_0 (prog:Prog)(d:Nat)(Q:AE→Sl→St→Prop)(g1:Int)(n7:Int)(i8:Int)(m0:Img)(m1:Rou):Prop:=
  ∀(σ:Sl)(st:St) (v0 v1:Nat),σ 1=.i .i64 g1→σ 3=.p (d,0) v0 0→σ 5=.p (d,1) v1 0→σ 7=.i .i64 n7→σ 8=.i .i64 i8→lk st.bx (d,0)=some (v0,Img.cs m0)→lk st.bx (d,1)=some (v1,Rou.cs m1)→W prog d (.loop l285_0) σ st (blockW 0 (thenW prog d c285_1 Q))
def T285_2 (prog:Prog)(K:LB→Prop)(g1:Int)(n7:Int)(m0:Img)(m1:Rou):Prop:=
  ∃c:LB,Pus prog 222 [m0.av,.i .i64 g1,m1.av] (.sl .ext (List.map rowS c))∧0≤n7∧(n7).toNat≤c.length∧K (c.drop (n7).toNat)
def T285_1 (prog:Prog)(K:LB→Prop)(P0:Int→Int→Img→Rou→Prop)(g1:Int)(n7:Int)(i8:Int)(m0:Img)(m1:Rou):Prop:=
  (i8<(m1.frames.length:Int)→0≤i8∧∃c:Frm,m1.frames[(i8).toNat]?=some c∧P0 (IntKind.i64.wrap (n7+(IntKind.i64.wrap (1+(c.locals.length:Int))))) (IntKind.i64.wrap (i8+1)) m0 m1)∧(¬(i8<(m1.frames.length:Int))→T285_2 prog K g1 n7 m0 m1)
def T285_0 (prog:Prog)(K:LB→Prop)(m0:Img)(g1:Int)(x2:Rou):Prop:=
  ∀P0:Int→Int→Img→Rou→Prop,(∀(n7:Int)(i8:Int)(m0:Img)(m1:Rou),T285_1 prog K P0 g1 n7 i8 m0 m1→P0 n7 i8 m0 m1)→P0 1 0 m0 x2
section
variable {prog:Prog}{d:Nat}{Q:AE→Sl→St→Prop}{K:LB→Prop}(hQ:HL rowS 6 Q K){σ:Sl}{st:St}
include hQ
variable {g1 n7:Int}{m0:Img}{m1:Rou}{v0 v1:Nat}{i8:Int}{P0:Int→Int→Img→Rou→Prop}{x2:Rou}
variable (kP0 :∀(n7:Int)(i8:Int)(m0:Img)(m1:Rou),P0 n7 i8 m0 m1→I285_0 prog d Q g1 n7 i8 m0 m1)(H0:σ 0=m0.av)(H1:σ 1=.i .i64 g1)(H3:σ 3=.p (d,0) v0 0)(H2:σ 2=x2.av)(H5:σ 5=.p (d,1) v1 0)(H7:σ 7=.i .i64 n7)(H8:σ 8=.i .i64 i8)(B0:lk st.bx (d,0)=some (v0,Img.cs m0))(B1:lk st.bx (d,1)=some (v1,Rou.cs m1))
include H1 H3 H5 H7 B0 B1 in
theorem w285_2 (h:T285_2 prog K g1 n7 m0 m1):W prog d c285_1 σ st Q:=
 q_ J (l_ H3 B0 J J (m_ (l_ H5 B1 J J (h.elim fun _ c=>ca_ (sc3 J H1 J J) c.1 (m_ (s_slL_lo rowS_len J H7 c.2.1 c.2.2.1 (s_mvL J (er_ (hQ J c.2.2.2)))))))))
include kP0 H1 H3 H5 H7 H8 B0 B1 in
theorem w285_1 (h:T285_1 prog K P0 g1 n7 i8 m0 m1):W prog d l285_0 σ st (thenW prog d (.loop l285_0) (blockW 0 (thenW prog d c285_1 Q))):=
 sq_ (q_ J (m_ (f_ H5 (l_ J B1 J J (ll_ J (b_ H8 J lss_ (e_ (cs_ J (fun c=>sk_ (sq_ (bk_ (W.reg0 J fun _ _=>m_ (f_ H5 (l_ J B1 J J (m_ ((h.1 c).2.elim fun i e=>ia_ J H8 (h.1 c).1 e.1 (Frm.row_eq i) J (ff_ J (lf_ J J J (ll_ J (b_ J J add_ (b_ H7 J add_ (m_ (e_ (W.reg0 J fun _ _=>m_ (b_ H8 J add_ (m_ (e_ (kP0 _ _ _ _ e.2 _ _ _ _ H1 H3 H5 J J B0 B1)))))))))))))))))))) (fun c=>ex_ (w285_2 hQ H1 H3 H5 H7 B0 B1 (h.2 c)))))))))))
include H0 H1 H2 in
theorem w285_0 (h:T285_0 prog K m0 g1 x2):W prog d (sR 0 r285_0 (sR 1 r285_1 (.seq (sR 2 r285_2 (.block 0 (.loop l285_0))) c285_1))) σ st Q:=
 q_ J (s_box H0 J (s_box H2 J (s_mvL (f:=rowS) (l:=[]) J (e_ (q_ J (m_ (e_ (sq_ (q_ J (m_ (e_ (bk_ (h (I285_0 prog d Q g1) (fun _ _ _ _ hb _ _ _ _ H1 H3 H5 H7 H8 B0 B1=>W.loop (w285_1 hQ (fun _ _ _ _ x=>x) H1 H3 H5 H7 H8 B0 B1 hb)) _ _ _ _ H1 J J J J (lk_other J lk_here) lk_here)))))))))))))
end
theorem p285 {prog:Prog}(hf:prog.fn 285=some pf285){m0:Img}{g1:Int}{x2:Rou}{K:LB→Prop}(h:T285_0 prog K m0 g1 x2) :∃res0:LB,K res0∧Pus prog 285 [m0.av,.i .i64 g1,x2.av] (.sl .ext (List.map rowS res0)):=
 P1 hf J (w285_0 (hL J) J J J h)
def r280_0:List AI:=[oY 3 3 0,oY 4 4 1,oY 5 5 2,oC 6 (.sl .full []),oI 7 0]
def r280_1:List AI:=[oK 14 5 5,oQ 15 248 [14],oM 8 15]
def r280_2:List AI:=[oM 16 8,oV 17 .neq 16 0]
def r280_3:List AI:=[oM 18 8,oC 6 (.sl .full []),oM 7 18]
def r280_4:List AI:=[oK 19 3 3,oK 20 4 4,oQ 21 214 [19,20],oM 9 21]
def r280_5:List AI:=[oM 22 9,oV 23 .neq 22 0]
def r280_6:List AI:=[oM 24 9,oC 6 (.sl .full []),oM 7 24]
def r280_7:List AI:=[oF 25 0 5,oL 26 25,oW 27 .eql 26 1,oM 28 27,gF 28 (oF 29 0 5),gF 28 (oL 30 29),gF 28 (oW 31 .geq 30 6),oR 32 28 31]
def r280_8:List AI:=[oK 33 3 3,oK 34 4 4,oK 35 5 5,oQ 36 283 [33,34,35],oM 6 36,oI 7 0]
def r280_9:List AI:=[oF 37 1 5,oL 38 37,oF 39 3 4,oL 40 39,oJ 41 40,oT 42 .geq 38 41]
def r280_10:List AI:=[oC 6 (.sl .full []),oI 7 6]
def r280_11:List AI:=[oF 43 3 4,oL 44 43,oF 45 1 5,oL 46 45,oX 47 5 44 46,oK 48 5 47,oO 10 (.alloc [z8,z6,zl,zl,zl]),oS 5 10 48]
def r280_12:List AI:=[oC 11 (.sl .full [])]
def r280_13:List AI:=[oF 49 0 5,oL 50 49]
def r280_14:List AI:=[oW 52 .eql 50 2,oM 51 52]
def r280_15:List AI:=[oI 12 0]
def r280_16:List AI:=[oM 53 12,oF 54 2 10,oL 55 54,oJ 56 55,oT 57 .lss 53 56]
def r280_17:List AI:=[oM 60 11,oK 61 3 3,oM 62 12,oF 63 2 10,oL 64 63,oM 65 12,oX 66 4 64 65,oK 67 4 66,oQ 68 114 [61,62,67],oO 69 (.iaL 1 (.t 68) (.c (.i .i64 0))),oL 70 69,oO 71 (.bslice [zs] 1 [(0,(.t 70))]),oO 72 (.app 1 16 (.t 60) (.t 71)),oM 11 72]
def r280_18:List AI:=[oM 58 12,oV 59 .add 58 1,oM 12 59]
def r280_19:List AI:=[oW 74 .eql 50 3,oM 73 74]
def r280_20:List AI:=[oF 75 2 5,oL 76 75,oF 77 2 10,oL 78 77,oJ 79 78,oT 80 .geq 76 79]
def r280_21:List AI:=[oC 6 (.sl .full []),oI 7 6]
def r280_22:List AI:=[oK 81 3 3,oF 82 2 5,oL 83 82,oF 84 2 10,oL 85 84,oF 86 2 5,oL 87 86,oX 88 4 85 87,oK 89 4 88,oQ 90 114 [81,83,89],oO 91 (.slL 1 (.t 90) (some (.c (.i .i64 1))) none),oM 11 91]
def r280_23:List AI:=[oW 93 .eql 50 4,oM 92 93]
def r280_24:List AI:=[oK 94 3 3,oF 95 1 5,oL 96 95,oK 97 5 10,oQ 98 285 [94,96,97],oF 99 3 10,oL 100 99,oJ 101 100,oO 102 (.slL 1 (.t 98) none (some (.t 101))),oQ 103 284 [102],oM 11 103]
def r280_25:List AI:=[oW 105 .eql 50 5,oM 104 105]
def r280_26:List AI:=[oI 13 0]
def r280_27:List AI:=[oM 106 13,oF 107 4 10,oL 108 107,oJ 109 108,oT 110 .lss 106 109]
def r280_28:List AI:=[oM 113 11,oF 114 4 10,oL 115 114,oM 116 13,oX 117 7 115 116,oK 118 7 117,oQ 119 179 [118],oO 120 (.bslice [zs] 1 [(0,(.t 119))]),oO 121 (.app 1 16 (.t 113) (.t 120)),oM 11 121]
def r280_29:List AI:=[oM 111 13,oV 112 .add 111 1,oM 13 112]
def r280_30:List AI:=[oM 122 11,oM 6 122,oI 7 0]
abbrev c280_0:AC:=(.cond (.t 32) (sR 8 r280_8 .ret) .skip)
abbrev l280_0:AC:=(.seq (sR 16 r280_16 (.cond (.t 57) .skip (.exit 1))) (.seq (.block 2 (.reg 18 r280_17)) (.reg 17 r280_18)))
abbrev l280_1:AC:=(.seq (sR 27 r280_27 (.cond (.t 110) .skip (.exit 3))) (.seq (.block 4 (.reg 29 r280_28)) (.reg 28 r280_29)))
abbrev c280_3:AC:=(.cond (.t 51) (sR 15 r280_15 (.block 1 (.loop l280_0))) (sR 19 r280_19 (.cond (.t 73) (.seq (sR 20 r280_20 (.cond (.t 80) (sR 21 r280_21 .ret) .skip)) (.reg 22 r280_22)) (sR 23 r280_23 (.cond (.t 92) (.reg 24 r280_24) (sR 25 r280_25 (.cond (.t 104) (sR 26 r280_26 (.block 3 (.loop l280_1))) .skip)))))))
abbrev c280_4:AC:=(.block 0 (sR 14 r280_14 c280_3))
abbrev c280_5:AC:=(sR 30 r280_30 .ret)
abbrev c280_6:AC:=(.seq (sR 13 r280_13 c280_4) c280_5)
abbrev c280_7:AC:=(sR 12 r280_12 c280_6)
abbrev c280_8:AC:=(sR 11 r280_11 c280_7)
abbrev c280_9:AC:=(.seq (sR 9 r280_9 (.cond (.t 42) (sR 10 r280_10 .ret) .skip)) c280_8)
abbrev c280_10:AC:=(.seq (sR 7 r280_7 c280_0) c280_9)
abbrev c280_11:AC:=(.seq (sR 4 r280_4 (sR 5 r280_5 (.cond (.t 23) (sR 6 r280_6 .ret) .skip))) c280_10)
abbrev c280_12:AC:=(.seq (sR 1 r280_1 (sR 2 r280_2 (.cond (.t 17) (sR 3 r280_3 .ret) .skip))) c280_11)
abbrev b280:AC:=(sR 0 r280_0 c280_12)
def pf280:AF:={ nt:=123,res:=[.tmp 6,.tmp 7],body:=b280 }
abbrev I280_0 (prog:Prog)(d:Nat)(Q:AE→Sl→St→Prop)(out11:LB)(k12:Int)(m0:Img)(m45062:Rou):Prop:=
  ∀(σ:Sl)(st:St)(o_out11:Own) (v0 v45062:Nat),σ 3=.p (d,0) v0 0→σ 10=.p (d,45062) v45062 0→σ 11=.sl o_out11 (List.map rowS out11)→σ 12=.i .i64 k12→ApM d st.ow o_out11 out11.length→lk st.bx (d,0)=some (v0,Img.cs m0)→lk st.bx (d,45062)=some (v45062,Rou.cs m45062)→W prog d (.loop l280_0) σ st (blockW 1 (blockW 0 (thenW prog d c280_5 Q)))
def T280_12 (prog:Prog)(K:LB→Int→Prop)(out11:LB):Prop:=
  K out11 0
def T280_11 (prog:Prog)(K:LB→Int→Prop)(P0:LB→Int→Img→Rou→Prop)(out11:LB)(k12:Int)(m0:Img)(m45062:Rou):Prop:=
  (k12<(m45062.frames.length:Int)→0≤k12∧∃e:Frm,m45062.frames[(k12).toNat]?=some e∧∃j,Pus prog 114 [m0.av,.i .i64 k12,e.av] (.sl .ext (List.map rowS j))∧∃c,j[0]?=some c∧Fit (out11.length+[c].length) 16∧P0 (out11++[c]) (IntKind.i64.wrap (k12+1)) m0 m45062)∧(¬(k12<(m45062.frames.length:Int))→T280_12 prog K out11)
abbrev I280_1 (prog:Prog)(d:Nat)(Q:AE→Sl→St→Prop)(out11:LB)(i13:Int)(m45062:Rou):Prop:=
  ∀(σ:Sl)(st:St)(o_out11:Own)(v45062:Nat),σ 10=.p (d,45062) v45062 0→σ 11=.sl o_out11 (List.map rowS out11)→σ 13=.i .i64 i13→ApM d st.ow o_out11 out11.length→lk st.bx (d,45062)=some (v45062,Rou.cs m45062)→W prog d (.loop l280_1) σ st (blockW 3 (blockW 0 (thenW prog d c280_5 Q)))
def T280_13 (prog:Prog)(K:LB→Int→Prop)(P1:LB→Int→Rou→Prop)(out11:LB)(i13:Int)(m45062:Rou):Prop:=
  (i13<(m45062.panics.length:Int)→0≤i13∧∃e:Pan,m45062.panics[(i13).toNat]?=some e∧∃c,Pus prog 179 [e.av] (.s c)∧Fit (out11.length+[c].length) 16∧P1 (out11++[c]) (IntKind.i64.wrap (i13+1)) m45062)∧(¬(i13<(m45062.panics.length:Int))→T280_12 prog K out11)
def T280_10 (prog:Prog)(K:LB→Int→Prop)(out11:LB)(t50:Int)(t51:Bool)(m0:Img)(m2:Qry)(m45062:Rou):Prop:=
  (t51=true→∀P0:LB→Int→Img→Rou→Prop,(∀(out11:LB)(k12:Int)(m0:Img)(m45062:Rou),T280_11 prog K P0 out11 k12 m0 m45062→P0 out11 k12 m0 m45062)→P0 out11 0 m0 m45062)∧(t51=false→(t50=3→(m2.k≥(m45062.frames.length:Int)→K ([]:LB) 6)∧(¬(m2.k≥(m45062.frames.length:Int))→0≤m2.k∧∃o:Frm,m45062.frames[(m2.k).toNat]?=some o∧∃c:LB,Pus prog 114 [m0.av,.i .i64 m2.k,o.av] (.sl .ext (List.map rowS c))∧1≤c.length∧T280_12 prog K (c.drop 1)))∧(¬(t50=3)→(t50=4→∃e:LB,Pus prog 285 [m0.av,.i .i64 m2.g,m45062.av] (.sl .ext (List.map rowS e))∧0≤(m45062.defers.length:Int)∧(m45062.defers.length:Int).toNat≤e.length∧∃j,Pus prog 284 [.sl .ext (List.map rowS (e.take (m45062.defers.length:Int).toNat))] (.sl .ext (List.map rowS j))∧T280_12 prog K j)∧(¬(t50=4)→(t50=5→∀P1:LB→Int→Rou→Prop,(∀(out11:LB)(i13:Int)(m45062:Rou),T280_13 prog K P1 out11 i13 m45062→P1 out11 i13 m45062)→P1 out11 0 m45062)∧(¬(t50=5)→T280_12 prog K out11))))
def T280_9 (prog:Prog)(K:LB→Int→Prop)(out11:LB)(t50:Int)(m0:Img)(m2:Qry)(m45062:Rou):Prop:=
  T280_10 prog K out11 t50 (decide (t50=2)) m0 m2 m45062
def T280_8 (prog:Prog)(K:LB→Int→Prop)(out11:LB)(m0:Img)(m2:Qry)(m45062:Rou):Prop:=
  T280_9 prog K out11 m2.kind m0 m2 m45062
def T280_7 (prog:Prog)(K:LB→Int→Prop)(m0:Img)(m2:Qry)(m45062:Rou):Prop:=
  T280_8 prog K ([]:LB) m0 m2 m45062
def T280_6 (prog:Prog)(K:LB→Int→Prop)(m0:Img)(m1:Sta)(m2:Qry):Prop:=
  0≤m2.g∧∃c,m1.routines[(m2.g).toNat]?=some c∧T280_7 prog K m0 m2 c
def T280_5 (prog:Prog)(K:LB→Int→Prop)(m0:Img)(m1:Sta)(m2:Qry):Prop:=
  (m2.g≥(m1.routines.length:Int)→K ([]:LB) 6)∧(¬(m2.g≥(m1.routines.length:Int))→T280_6 prog K m0 m1 m2)
def T280_4 (prog:Prog)(K:LB→Int→Prop)(t32:Bool)(m0:Img)(m1:Sta)(m2:Qry):Prop:=
  (t32=true→∃c,Pus prog 283 [m0.av,m1.av,m2.av] (.sl .ext (List.map rowS c))∧K c 0)∧(t32=false→T280_5 prog K m0 m1 m2)
def T280_3 (prog:Prog)(K:LB→Int→Prop)(m0:Img)(m1:Sta)(m2:Qry):Prop:=
  (m2.kind=1→T280_4 prog K true m0 m1 m2)∧(¬(m2.kind=1)→T280_4 prog K (decide (m2.kind≥6)) m0 m1 m2)
def T280_2 (prog:Prog)(K:LB→Int→Prop)(m0:Img)(m1:Sta)(m2:Qry):Prop:=
  ∃c,Pus prog 214 [m0.av,m1.av] (.i .i64 c)∧(c≠0→K ([]:LB) c)∧(¬(c≠0)→T280_3 prog K m0 m1 m2)
def T280_1 (prog:Prog)(K:LB→Int→Prop)(m0:Img)(m1:Sta)(m2:Qry):Prop:=
  ∃c,Pus prog 248 [m2.av] (.i .i64 c)∧(c≠0→K ([]:LB) c)∧(¬(c≠0)→T280_2 prog K m0 m1 m2)
def T280_0 (prog:Prog)(K:LB→Int→Prop)(m0:Img)(s1:Sta)(q2:Qry):Prop:=
  T280_1 prog K m0 s1 q2
section
variable {prog:Prog}{d:Nat}{Q:AE→Sl→St→Prop}{K:LB→Int→Prop}(hQ:HM rowS (AV.i .i64) 6 7 Q K){σ:Sl}{st:St}
include hQ
variable {out11:LB}{o_out11:Own}{k12:Int}{m0:Img}{m45062:Rou}{P0:LB→Int→Img→Rou→Prop}{v0 v45062:Nat}{i13:Int}{P1:LB→Int→Rou→Prop}{t50:Int}{t51:Bool}{m2:Qry}{v2:Nat}{m1:Sta}{v1:Nat}{t32:Bool}{s1:Sta}{q2:Qry}
variable (kP0 :∀(out11:LB)(k12:Int)(m0:Img)(m45062:Rou),P0 out11 k12 m0 m45062→I280_0 prog d Q out11 k12 m0 m45062) (kP1 :∀(out11:LB)(i13:Int)(m45062:Rou),P1 out11 i13 m45062→I280_1 prog d Q out11 i13 m45062)(H0:σ 0=m0.av)(H3:σ 3=.p (d,0) v0 0)(H1:σ 1=s1.av)(H4:σ 4=.p (d,1) v1 0)(H2:σ 2=q2.av)(H5:σ 5=.p (d,2) v2 0)(H10:σ 10=.p (d,45062) v45062 0)(H32:σ 32=.b t32)(H11:σ 11=.sl o_out11 (List.map rowS out11))(H12:σ 12=.i .i64 k12)(H13:σ 13=.i .i64 i13)(H50:σ 50=.i .u8 t50)(H51:σ 51=.b t51)(A11:ApM d st.ow o_out11 out11.length)(B0:lk st.bx (d,0)=some (v0,Img.cs m0))(B1:lk st.bx (d,1)=some (v1,Sta.cs m1))(B2:lk st.bx (d,2)=some (v2,Qry.cs m2))(B45062:lk st.bx (d,45062)=some (v45062,Rou.cs m45062))
include H11 in
theorem w280_12 (h:T280_12 prog K out11):W prog d c280_5 σ st Q:=
 q_ J (s_mvL H11 (s_mvL J (m_ (er_ (hQ J J h)))))
include kP0 H3 H10 H11 H12 A11 B0 B45062 in
theorem w280_11 (h:T280_11 prog K P0 out11 k12 m0 m45062):W prog d l280_0 σ st (thenW prog d (.loop l280_0) (blockW 1 (blockW 0 (thenW prog d c280_5 Q)))):=
 sq_ (q_ J (m_ (f_ H10 (l_ J B45062 J J (ll_ J (b_ H12 J lss_ (e_ (cs_ J (fun c=>sk_ (sq_ (bk_ (W.reg0 J fun _ _=>s_mvL H11 (l_ H3 B0 J J (m_ (f_ H10 (l_ J B45062 J J (m_ ((h.1 c).2.elim fun o i=>ia_ J H12 (h.1 c).1 i.1 (Frm.row_eq o) J (lf_ J J J (i.2.elim fun _ j=>ca_ (sc3 J H12 J J) j.1 (j.2.elim fun p e=>ia_ J J (by decide) e.1 J J (lf_ J J J (s_bslM (f:=rowS) (l:=[p]) J J (g_cons J J J g_nil) J (s_app rowS_len J J J A11.1 e.2.1 J (fun _ _ k _ q=>s_mvL J (e_ (W.reg0 J fun _ _=>m_ (b_ H12 J add_ (m_ (e_ (kP0 _ _ _ _ e.2.2 _ _ _ _ _ H3 H10 J J (ApM.mk k (Mine.app A11.2 J q)) B0 B45062))))))))))))))))))))))) (fun c=>ex_ (w280_12 hQ H11 (h.2 c)))))))))))
include kP1 H10 H11 H13 A11 B45062 in
theorem w280_13 (h:T280_13 prog K P1 out11 i13 m45062):W prog d l280_1 σ st (thenW prog d (.loop l280_1) (blockW 3 (blockW 0 (thenW prog d c280_5 Q)))):=
 sq_ (q_ J (m_ (f_ H10 (l_ J B45062 J J (ll_ J (b_ H13 J lss_ (e_ (cs_ J (fun c=>sk_ (sq_ (bk_ (W.reg0 J fun _ _=>s_mvL H11 (f_ H10 (l_ J B45062 J J (m_ ((h.1 c).2.elim fun k i=>ia_ J H13 (h.1 c).1 i.1 (Pan.row_eq k) J (lf_ J J J (i.2.elim fun p e=>ca_ (sc1 J J) e.1 (s_bslM (f:=rowS) (l:=[p]) J J (g_cons J J J g_nil) J (s_app rowS_len J J J A11.1 e.2.1 J (fun _ _ j _ o=>s_mvL J (e_ (W.reg0 J fun _ _=>m_ (b_ H13 J add_ (m_ (e_ (kP1 _ _ _ e.2.2 _ _ _ _ H10 J J (ApM.mk j (Mine.app A11.2 J o)) B45062))))))))))))))))))) (fun c=>ex_ (w280_12 hQ H11 (h.2 c)))))))))))
include H3 H5 H10 H11 H50 H51 A11 B0 B2 B45062 in
theorem w280_10 (h:T280_10 prog K out11 t50 t51 m0 m2 m45062):W prog d c280_3 σ st (blockW 0 (thenW prog d c280_5 Q)):=
 cb_ H51 (fun c=>q_ J (m_ (e_ (bk_ ((h.1 c) (I280_0 prog d Q ) (fun _ _ _ _ hb _ _ _ _ _ H3 H10 H11 H12 A11 B0 B45062=>W.loop (w280_11 hQ (fun _ _ _ _ x=>x) H3 H10 H11 H12 A11 B0 B45062 hb)) _ _ _ _ _ H3 H10 H11 J A11 B0 B45062))))) (fun c=>q_ J (b_ H50 J eql_ (m_ (e_ (cs_ J (fun e=>sq_ (q_ J (f_ H5 (l_ J B2 J J (f_ H10 (l_ J B45062 J J (ll_ J (b_ J J geq_ (e_ (cs_ J (fun j=>q_ J (s_mvL (f:=rowS) (l:=[]) J (m_ (er_ (hQ J J (((h.2 c).1 e).1 j)))))) (fun j=>sk_ (W.reg0 J fun _ _=>l_ H3 B0 J J (f_ H5 (l_ J B2 J J (f_ H10 (l_ J B45062 J J (f_ H5 (l_ J B2 J J ((((h.2 c).1 e).2 j).2.elim fun s r=>ia_ J J (((h.2 c).1 e).2 j).1 r.1 (Frm.row_eq s) J (lf_ J J J (r.2.elim fun _ o=>ca_ (sc3 J J J J) o.1 (s_slL_lo rowS_len J J (by decide) o.2.1 (s_mvL J (e_ (w280_12 hQ J o.2.2))))))))))))))))))))))))) (fun e=>q_ J (b_ H50 J eql_ (m_ (e_ (cs_ J (fun k=>W.reg0 J fun _ _=>l_ H3 B0 J J (f_ H5 (l_ J B2 J J (l_ H10 B45062 J J ((((h.2 c).2 e).1 k).elim fun _ i=>ca_ (sc3 J J J J) i.1 (f_ H10 (l_ J B45062 J J (ll_ J (s_slL_hi rowS_len J J i.2.1 i.2.2.1 (i.2.2.2.elim fun _ q=>ca_ (sc1 J J) q.1 (s_mvL J (e_ (w280_12 hQ J q.2))))))))))))) (fun k=>q_ J (b_ H50 J eql_ (m_ (e_ (cs_ J (fun p=>q_ J (m_ (e_ (bk_ (((((h.2 c).2 e).2 k).1 p) (I280_1 prog d Q ) (fun _ _ _ hb _ _ _ _ H10 H11 H13 A11 B45062=>W.loop (w280_13 hQ (fun _ _ _ x=>x) H10 H11 H13 A11 B45062 hb)) _ _ _ _ H10 H11 J A11 B45062))))) (fun p=>sk_ (w280_12 hQ H11 ((((h.2 c).2 e).2 k).2 p))))))))))))))))))
include H3 H5 H10 H11 H50 A11 B0 B2 B45062 in
theorem w280_9 (h:T280_9 prog K out11 t50 m0 m2 m45062):W prog d c280_4 σ st (thenW prog d c280_5 Q):=
 bk_ (q_ J (b_ H50 J eql_ (m_ (e_ (w280_10 hQ H3 H5 H10 H11 H50 J A11 B0 B2 B45062 h)))))
include H3 H5 H10 H11 A11 B0 B2 B45062 in
theorem w280_8 (h:T280_8 prog K out11 m0 m2 m45062):W prog d c280_6 σ st Q:=
 sq_ (q_ J (f_ H5 (l_ J B2 J J (e_ (w280_9 hQ H3 H5 H10 H11 J A11 B0 B2 B45062 h)))))
include H3 H5 H10 B0 B2 B45062 in
theorem w280_7 (h:T280_7 prog K m0 m2 m45062):W prog d c280_7 σ st Q:=
 q_ J (s_mvL (f:=rowS) (l:=[]) J (e_ (w280_8 hQ H3 H5 H10 J ApM.full B0 B2 B45062 h)))
include H3 H4 H5 B0 B1 B2 in
theorem w280_6 (h:T280_6 prog K m0 m1 m2):W prog d c280_8 σ st Q:=
 sq_ (W.reg (f_ H4 (l_ J (lk_other J B1) J J (f_ H5 (l_ J (lk_other J B2) J J (h.2.elim fun e c=>ia_ J J h.1 c.1 (Rou.row_eq e) J (lf_ J J J (s_alloc (so_ J (show lk _ (d,45062)=some (_,([.i .u8 0,.i .i64 0,.sl .full (List.map Frm.row ([]:List Frm)),.sl .full (List.map Dfr.row ([]:List Dfr)),.sl .full (List.map Pan.row ([]:List Pan))]:List AV)) from lk_here) J J J (e_ (w280_7 hQ H3 H5 J (lk_other J (lk_other J B0)) (lk_other J (lk_other J B2)) lk_here c.2)))))))))))
include H3 H4 H5 B0 B1 B2 in
theorem w280_5 (h:T280_5 prog K m0 m1 m2):W prog d c280_9 σ st Q:=
 sq_ (q_ J (f_ H5 (l_ J B2 J J (f_ H4 (l_ J B1 J J (ll_ J (b_ J J geq_ (e_ (cs_ J (fun c=>q_ J (s_mvL (f:=rowS) (l:=[]) J (m_ (er_ (hQ J J (h.1 c)))))) (fun c=>sk_ (w280_6 hQ H3 H4 H5 B0 B1 B2 (h.2 c))))))))))))
include H3 H4 H5 H32 B0 B1 B2 in
theorem w280_4 (h:T280_4 prog K t32 m0 m1 m2):W prog d c280_0 σ st (thenW prog d c280_9 Q):=
 cb_ H32 (fun c=>q_ J (l_ H3 B0 J J (l_ H4 B1 J J (l_ H5 B2 J J ((h.1 c).elim fun _ e=>ca_ (sc3 J J J J) e.1 (s_mvL J (m_ (er_ (hQ J J e.2))))))))) (fun c=>sk_ (w280_5 hQ H3 H4 H5 B0 B1 B2 (h.2 c)))
include H3 H4 H5 B0 B1 B2 in
theorem w280_3 (h:T280_3 prog K m0 m1 m2):W prog d c280_10 σ st Q:=
 sq_ (q_ J (f_ H5 (l_ J B2 J J (b_ J J eql_ (s_mvB J (em_ (g:=28) J (fun c=>z_ 4 J (e_ (w280_4 hQ H3 H4 H5 J B0 B1 B2 (h.1 c)))) (fun c=>gy_ J (f_ H5 (gy_ J (l_ J B2 J J (gy_ J (b_ J J geq_ (pf_ J J (e_ (w280_4 hQ H3 H4 H5 J B0 B1 B2 (h.2 c))))))))))))))))
include H3 H4 H5 B0 B1 B2 in
theorem w280_2 (h:T280_2 prog K m0 m1 m2):W prog d c280_11 σ st Q:=
 sq_ (q_ J (l_ H3 B0 J J (l_ H4 B1 J J (h.elim fun _ c=>ca_ (sc2 J J J) c.1 (m_ (e_ (q_ J (m_ (b_ J J neq_ (e_ (cs_ J (fun e=>q_ J (m_ (s_mvL (f:=rowS) (l:=[]) J (m_ (er_ (hQ J J (c.2.1 e))))))) (fun e=>sk_ (w280_3 hQ H3 H4 H5 B0 B1 B2 (c.2.2 e))))))))))))))
include H3 H4 H5 B0 B1 B2 in
theorem w280_1 (h:T280_1 prog K m0 m1 m2):W prog d c280_12 σ st Q:=
 sq_ (q_ J (l_ H5 B2 J J (h.elim fun _ c=>ca_ (sc1 J J) c.1 (m_ (e_ (q_ J (m_ (b_ J J neq_ (e_ (cs_ J (fun e=>q_ J (m_ (s_mvL (f:=rowS) (l:=[]) J (m_ (er_ (hQ J J (c.2.1 e))))))) (fun e=>sk_ (w280_2 hQ H3 H4 H5 B0 B1 B2 (c.2.2 e)))))))))))))
include H0 H1 H2 in
theorem w280_0 (h:T280_0 prog K m0 s1 q2):W prog d (sR 0 r280_0 c280_12) σ st Q:=
 q_ J (s_box H0 J (s_box H1 J (s_box H2 J (s_mvL (f:=rowS) (l:=[]) J (m_ (e_ (w280_1 hQ J J J (lk_other J (lk_other J lk_here)) (lk_other J lk_here) lk_here h)))))))
end
theorem p280 {prog:Prog}(hf:prog.fn 280=some pf280){m0:Img}{s1:Sta}{q2:Qry}{K:LB→Int→Prop}(h:T280_0 prog K m0 s1 q2) :∃res0:LB,∃res1:Int,K res0 res1∧Pus prog 280 [m0.av,s1.av,q2.av] (.tup [.sl .ext (List.map rowS res0),.i .i64 res1]):=
 P2 hf J (w280_0 (hM J fun _ _ _=>J) J J J h)
end Go.AM

namespace Go.AM
open Go
set_option linter.unusedVariables false
set_option linter.unusedSimpArgs false
set_option maxRecDepth 4000
set_option maxHeartbeats 2000000
attribute [local irreducible] Decidable.decide W WO fillCells fillRows
def r283_0:List AI:=[oY 3 3 0,oY 4 4 1,oY 5 5 2,oC 6 (.sl .full [])]
def r283_1:List AI:=[oC 7 (.sl .full [])]
def r283_2:List AI:=[oI 8 0]
def r283_3:List AI:=[oM 14 8,oF 15 3 4,oL 16 15,oJ 17 16,oT 18 .lss 14 17]
def r283_4:List AI:=[oF 21 3 4,oL 22 21,oM 23 8,oX 24 5 22 23,oK 25 5 24,oO 9 (.alloc [z8,z6,zl,zl,zl]),oS 5 9 25]
def r283_5:List AI:=[oF 26 0 5,oL 27 26,oW 28 .eql 27 1]
def r283_6:List AI:=[oM 29 7,oK 30 3 3,oM 31 8,oK 32 5 9,oQ 33 222 [30,31,32],oO 34 (.iaL 1 (.t 33) (.c (.i .i64 0))),oL 35 34,oO 36 (.bslice [zs] 1 [(0,(.t 35))]),oO 37 (.app 1 16 (.t 29) (.t 36)),oM 7 37]
def r283_7:List AI:=[oF 38 0 5,oL 39 38,oW 40 .eql 39 6,oM 41 40,gT 41 (oF 42 0 9),gT 41 (oL 43 42),gT 41 (oW 44 .eql 43 2),oA 45 41 44,oM 46 45,gT 46 (oF 47 1 9),gT 46 (oL 48 47),gT 46 (oF 49 3 5),gT 46 (oL 50 49),gT 46 (oT 51 .eql 48 50),oA 52 46 51]
def r283_8:List AI:=[oM 53 7,oM 54 8,oQ 55 265 [54],oB 56 .add (.c (.s [103,111,114,111,117,116,105,110,101,32])) (.t 55),oO 57 (.bslice [zs] 1 [(0,(.t 56))]),oO 58 (.app 1 16 (.t 53) (.t 57)),oM 7 58]
def r283_9:List AI:=[oI 10 0]
def r283_10:List AI:=[oM 59 10,oF 60 2 9,oL 61 60,oJ 62 61,oT 63 .lss 59 62]
def r283_11:List AI:=[oF 66 2 9,oL 67 66,oM 68 10,oX 69 4 67 68,oK 70 4 69,oO 11 (.alloc [z6,z6,z7,zl]),oS 4 11 70]
def r283_12:List AI:=[oF 71 0 5,oL 72 71,oW 73 .eql 72 7,oM 74 73,gT 74 (oF 75 2 3),gT 74 (oL 76 75),gT 74 (oF 77 0 11),gT 74 (oL 78 77),gT 74 (oX 79 7 76 78),gT 74 (oF 80 0 79),gT 74 (oL 81 80),gT 74 (oF 82 4 5),gT 74 (oL 83 82),gT 74 (oT 84 .eql 81 83),oA 85 74 84]
def r283_13:List AI:=[oM 86 7,oM 87 8,oQ 88 265 [87],oB 89 .add (.t 88) (.c (.s [32])),oM 90 10,oQ 91 265 [90],oT 92 .add 89 91,oB 93 .add (.t 92) (.c (.s [32,97,116,32])),oF 94 1 11,oL 95 94,oQ 96 265 [95],oT 97 .add 93 96,oO 98 (.bslice [zs] 1 [(0,(.t 97))]),oO 99 (.app 1 16 (.t 86) (.t 98)),oM 7 99]
def r283_14:List AI:=[oI 12 0]
def r283_15:List AI:=[oM 100 12,oF 101 3 11,oL 102 101,oJ 103 102,oT 104 .lss 100 103]
def r283_16:List AI:=[oF 107 3 11,oL 108 107,oM 109 12,oX 110 6 108 109,oK 111 6 110,oO 13 (.alloc [z6,z8,z6,zs,zl,zb]),oS 6 13 111]
def r283_17:List AI:=[oF 112 0 5,oL 113 112,oW 114 .eql 113 8,oM 115 114,gT 115 (oF 116 2 3),gT 115 (oL 117 116),gT 115 (oF 118 0 11),gT 115 (oL 119 118),gT 115 (oX 120 7 117 119),gT 115 (oF 121 3 120),gT 115 (oL 122 121),gT 115 (oF 123 0 13),gT 115 (oL 124 123),gT 115 (oX 125 2 122 124),gT 115 (oF 126 0 125),gT 115 (oL 127 126),gT 115 (oF 128 4 5),gT 115 (oL 129 128),gT 115 (oT 130 .eql 127 129),oA 131 115 130]
def r283_18:List AI:=[oM 132 7,oM 133 8,oQ 134 265 [133],oB 135 .add (.t 134) (.c (.s [32])),oM 136 10,oQ 137 265 [136],oT 138 .add 135 137,oB 139 .add (.t 138) (.c (.s [32])),oF 140 0 13,oL 141 140,oQ 142 265 [141],oT 143 .add 139 142,oB 144 .add (.t 143) (.c (.s [32,61,32])),oF 145 1 13,oK 146 5 145,oQ 147 106 [146],oT 148 .add 144 147,oO 149 (.bslice [zs] 1 [(0,(.t 148))]),oO 150 (.app 1 16 (.t 132) (.t 149)),oM 7 150]
def r283_19:List AI:=[oM 105 12,oV 106 .add 105 1,oM 12 106]
def r283_20:List AI:=[oM 64 10,oV 65 .add 64 1,oM 10 65]
def r283_21:List AI:=[oM 19 8,oV 20 .add 19 1,oM 8 20]
def r283_22:List AI:=[oM 151 7,oM 6 151]
abbrev c283_0:AC:=(.cond (.t 52) (.reg 9 r283_8) .skip)
abbrev c283_1:AC:=(.cond (.t 85) (.reg 15 r283_13) .skip)
abbrev c283_2:AC:=(.cond (.t 131) (.reg 21 r283_18) .skip)
abbrev c283_3:AC:=(.reg 18 r283_19)
abbrev l283_2:AC:=(.seq (sR 17 r283_15 (.cond (.t 104) .skip (.exit 4))) (.seq (.block 5 (sR 19 r283_16 (sR 20 r283_17 c283_2))) c283_3))
abbrev c283_5:AC:=(sR 16 r283_14 (.block 4 (.loop l283_2)))
abbrev c283_6:AC:=(.seq (sR 14 r283_12 c283_1) c283_5)
abbrev c283_7:AC:=(.reg 12 r283_20)
abbrev c283_8:AC:=(.seq (.block 3 (sR 13 r283_11 c283_6)) c283_7)
abbrev l283_1:AC:=(.seq (sR 11 r283_10 (.cond (.t 63) .skip (.exit 2))) c283_8)
abbrev c283_10:AC:=(.block 2 (.loop l283_1))
abbrev c283_11:AC:=(sR 10 r283_9 c283_10)
abbrev c283_12:AC:=(.seq (sR 8 r283_7 c283_0) c283_11)
abbrev c283_13:AC:=(.seq (sR 6 r283_5 (.cond (.t 28) (.reg 7 r283_6) .skip)) c283_12)
abbrev c283_14:AC:=(.reg 4 r283_21)
abbrev c283_15:AC:=(.seq (.block 1 (sR 5 r283_4 c283_13)) c283_14)
abbrev l283_0:AC:=(.seq (sR 3 r283_3 (.cond (.t 18) .skip (.exit 0))) c283_15)
abbrev c283_17:AC:=(.block 0 (.loop l283_0))
abbrev c283_18:AC:=(sR 22 r283_22 .ret)
abbrev c283_19:AC:=(.seq (sR 2 r283_2 c283_17) c283_18)
abbrev c283_20:AC:=(sR 1 r283_1 c283_19)
abbrev b283:AC:=(sR 0 r283_0 c283_20)
def pf283:AF:={ nt:=152,res:=[.tmp 6],body:=b283 }
abbrev I283_0 (prog:Prog)(d:Nat)(Q:AE→Sl→St→Prop)(out7:LB)(g8:Int)(m0:Img)(m1:Sta)(m2:Qry):Prop:=
  ∀(σ:Sl)(st:St)(o_out7:Own) (v0 v1 v2:Nat),σ 3=.p (d,0) v0 0→σ 4=.p (d,1) v1 0→σ 5=.p (d,2) v2 0→σ 7=.sl o_out7 (List.map rowS out7)→σ 8=.i .i64 g8→ApM d st.ow o_out7 out7.length→lk st.bx (d,0)=some (v0,Img.cs m0)→lk st.bx (d,1)=some (v1,Sta.cs m1)→lk st.bx (d,2)=some (v2,Qry.cs m2)→W prog d (.loop l283_0) σ st (blockW 0 (thenW prog d c283_18 Q))
abbrev I283_1 (prog:Prog)(d:Nat)(Q:AE→Sl→St→Prop)(g8:Int)(out7:LB)(k10:Int)(m0:Img)(m1:Sta)(m2:Qry)(m20485:Rou):Prop:=
  ∀(σ:Sl)(st:St)(o_out7:Own) (v0 v1 v2 v20485:Nat),σ 3=.p (d,0) v0 0→σ 4=.p (d,1) v1 0→σ 5=.p (d,2) v2 0→σ 7=.sl o_out7 (List.map rowS out7)→σ 8=.i .i64 g8→σ 9=.p (d,20485) v20485 0→σ 10=.i .i64 k10→ApM d st.ow o_out7 out7.length→lk st.bx (d,0)=some (v0,Img.cs m0)→lk st.bx (d,1)=some (v1,Sta.cs m1)→lk st.bx (d,2)=some (v2,Qry.cs m2)→lk st.bx (d,20485)=some (v20485,Rou.cs m20485)→W prog d (.loop l283_1) σ st (blockW 2 (blockW 1 (thenW prog d c283_14 (thenW prog d (.loop l283_0) (blockW 0 (thenW prog d c283_18 Q))))))
abbrev I283_2 (prog:Prog)(d:Nat)(Q:AE→Sl→St→Prop)(g8:Int)(k10:Int)(out7:LB)(i12:Int)(m0:Img)(m1:Sta)(m2:Qry)(m20485:Rou)(m53253:Frm):Prop:=
  ∀(σ:Sl)(st:St)(o_out7:Own) (v0 v1 v2 v20485 v53253:Nat),σ 3=.p (d,0) v0 0→σ 4=.p (d,1) v1 0→σ 5=.p (d,2) v2 0→σ 7=.sl o_out7 (List.map rowS out7)→σ 8=.i .i64 g8→σ 9=.p (d,20485) v20485 0→σ 10=.i .i64 k10→σ 11=.p (d,53253) v53253 0→σ 12=.i .i64 i12→ApM d st.ow o_out7 out7.length→lk st.bx (d,0)=some (v0,Img.cs m0)→lk st.bx (d,1)=some (v1,Sta.cs m1)→lk st.bx (d,2)=some (v2,Qry.cs m2)→lk st.bx (d,20485)=some (v20485,Rou.cs m20485)→lk st.bx (d,53253)=some (v53253,Frm.cs m53253)→W prog d (.loop l283_2) σ st (blockW 4 (blockW 3 (thenW prog d c283_7 (thenW prog d (.loop l283_1) (blockW 2 (blockW 1 (thenW prog d c283_14 (thenW prog d (.loop l283_0) (blockW 0 (thenW prog d c283_18 Q))))))))))
def T283_18 (prog:Prog)(K:LB→Prop)(P2:LB→Int→Img→Sta→Qry→Rou→Frm→Prop)(P1:LB→Int→Img→Sta→Qry→Rou→Prop)(P0:LB→Int→Img→Sta→Qry→Prop)(out7:LB)(g8:Int)(k10:Int)(i12:Int)(m0:Img)(m1:Sta)(m2:Qry)(m20485:Rou)(m53253:Frm):Prop:=
  P2 out7 (IntKind.i64.wrap (i12+1)) m0 m1 m2 m20485 m53253
def T283_17 (prog:Prog)(K:LB→Prop)(P2:LB→Int→Img→Sta→Qry→Rou→Frm→Prop)(P1:LB→Int→Img→Sta→Qry→Rou→Prop)(P0:LB→Int→Img→Sta→Qry→Prop)(out7:LB)(g8:Int)(k10:Int)(i12:Int)(t131:Bool)(m0:Img)(m1:Sta)(m2:Qry)(m20485:Rou)(m53253:Frm)(m77829:Loc):Prop:=
  (t131=true→∃c:BS,Pus prog 265 [.i .i64 g8] (.s c)∧c.length+([32]:BS).length≤maxStr∧∃e:BS,Pus prog 265 [.i .i64 k10] (.s e)∧(c++([32]:BS)).length+e.length≤maxStr∧((c++([32]:BS))++e).length+([32]:BS).length≤maxStr∧∃j:BS,Pus prog 265 [.i .i64 m77829.slot] (.s j)∧(((c++([32]:BS))++e)++([32]:BS)).length+j.length≤maxStr∧((((c++([32]:BS))++e)++([32]:BS))++j).length+([32,61,32]:BS).length≤maxStr∧∃k:BS,Pus prog 106 [m77829.value.av] (.s k)∧(((((c++([32]:BS))++e)++([32]:BS))++j)++([32,61,32]:BS)).length+k.length≤maxStr∧Fit (out7.length+[((((((c++([32]:BS))++e)++([32]:BS))++j)++([32,61,32]:BS))++k)].length) 16∧T283_18 prog K P2 P1 P0 (out7++[((((((c++([32]:BS))++e)++([32]:BS))++j)++([32,61,32]:BS))++k)]) g8 k10 i12 m0 m1 m2 m20485 m53253)∧(t131=false→T283_18 prog K P2 P1 P0 out7 g8 k10 i12 m0 m1 m2 m20485 m53253)
def T283_19 (prog:Prog)(K:LB→Prop)(P1:LB→Int→Img→Sta→Qry→Rou→Prop)(P0:LB→Int→Img→Sta→Qry→Prop)(out7:LB)(g8:Int)(k10:Int)(m0:Img)(m1:Sta)(m2:Qry)(m20485:Rou):Prop:=
  P1 out7 (IntKind.i64.wrap (k10+1)) m0 m1 m2 m20485
def T283_16 (prog:Prog)(K:LB→Prop)(P2:LB→Int→Img→Sta→Qry→Rou→Frm→Prop)(P1:LB→Int→Img→Sta→Qry→Rou→Prop)(P0:LB→Int→Img→Sta→Qry→Prop)(out7:LB)(g8:Int)(k10:Int)(i12:Int)(m0:Img)(m1:Sta)(m2:Qry)(m20485:Rou)(m53253:Frm):Prop:=
  (i12<(m53253.locals.length:Int)→0≤i12∧∃c:Loc,m53253.locals[(i12).toNat]?=some c∧(m2.kind=8→0≤m53253.func∧∃e:Fun,m0.funcs[(m53253.func).toNat]?=some e∧0≤c.slot∧∃i:Fld,e.slots[(c.slot).toNat]?=some i∧T283_17 prog K P2 P1 P0 out7 g8 k10 i12 (decide (i.name=m2.name)) m0 m1 m2 m20485 m53253 c)∧(¬(m2.kind=8)→T283_17 prog K P2 P1 P0 out7 g8 k10 i12 false m0 m1 m2 m20485 m53253 c))∧(¬(i12<(m53253.locals.length:Int))→T283_19 prog K P1 P0 out7 g8 k10 m0 m1 m2 m20485)
def T283_15 (prog:Prog)(K:LB→Prop)(P1:LB→Int→Img→Sta→Qry→Rou→Prop)(P0:LB→Int→Img→Sta→Qry→Prop)(out7:LB)(g8:Int)(k10:Int)(m0:Img)(m1:Sta)(m2:Qry)(m20485:Rou)(m53253:Frm):Prop:=
  ∀P2:LB→Int→Img→Sta→Qry→Rou→Frm→Prop,(∀(out7:LB)(i12:Int)(m0:Img)(m1:Sta)(m2:Qry)(m20485:Rou)(m53253:Frm),T283_16 prog K P2 P1 P0 out7 g8 k10 i12 m0 m1 m2 m20485 m53253→P2 out7 i12 m0 m1 m2 m20485 m53253)→P2 out7 0 m0 m1 m2 m20485 m53253
def T283_14 (prog:Prog)(K:LB→Prop)(P1:LB→Int→Img→Sta→Qry→Rou→Prop)(P0:LB→Int→Img→Sta→Qry→Prop)(out7:LB)(g8:Int)(k10:Int)(t85:Bool)(m0:Img)(m1:Sta)(m2:Qry)(m20485:Rou)(m53253:Frm):Prop:=
  (t85=true→∃c:BS,Pus prog 265 [.i .i64 g8] (.s c)∧c.length+([32]:BS).length≤maxStr∧∃e:BS,Pus prog 265 [.i .i64 k10] (.s e)∧(c++([32]:BS)).length+e.length≤maxStr∧((c++([32]:BS))++e).length+([32,97,116,32]:BS).length≤maxStr∧∃j:BS,Pus prog 265 [.i .i64 m53253.pos] (.s j)∧(((c++([32]:BS))++e)++([32,97,116,32]:BS)).length+j.length≤maxStr∧Fit (out7.length+[((((c++([32]:BS))++e)++([32,97,116,32]:BS))++j)].length) 16∧T283_15 prog K P1 P0 (out7++[((((c++([32]:BS))++e)++([32,97,116,32]:BS))++j)]) g8 k10 m0 m1 m2 m20485 m53253)∧(t85=false→T283_15 prog K P1 P0 out7 g8 k10 m0 m1 m2 m20485 m53253)
def T283_13 (prog:Prog)(K:LB→Prop)(P1:LB→Int→Img→Sta→Qry→Rou→Prop)(P0:LB→Int→Img→Sta→Qry→Prop)(out7:LB)(g8:Int)(k10:Int)(m0:Img)(m1:Sta)(m2:Qry)(m20485:Rou)(m53253:Frm):Prop:=
  (m2.kind=7→0≤m53253.func∧∃c:Fun,m0.funcs[(m53253.func).toNat]?=some c∧T283_14 prog K P1 P0 out7 g8 k10 (decide (c.name=m2.name)) m0 m1 m2 m20485 m53253)∧(¬(m2.kind=7)→T283_14 prog K P1 P0 out7 g8 k10 false m0 m1 m2 m20485 m53253)
def T283_12 (prog:Prog)(K:LB→Prop)(P1:LB→Int→Img→Sta→Qry→Rou→Prop)(P0:LB→Int→Img→Sta→Qry→Prop)(out7:LB)(g8:Int)(k10:Int)(m0:Img)(m1:Sta)(m2:Qry)(m20485:Rou):Prop:=
  0≤k10∧∃c,m20485.frames[(k10).toNat]?=some c∧T283_13 prog K P1 P0 out7 g8 k10 m0 m1 m2 m20485 c
def T283_20 (prog:Prog)(K:LB→Prop)(P0:LB→Int→Img→Sta→Qry→Prop)(out7:LB)(g8:Int)(m0:Img)(m1:Sta)(m2:Qry):Prop:=
  P0 out7 (IntKind.i64.wrap (g8+1)) m0 m1 m2
def T283_11 (prog:Prog)(K:LB→Prop)(P1:LB→Int→Img→Sta→Qry→Rou→Prop)(P0:LB→Int→Img→Sta→Qry→Prop)(out7:LB)(g8:Int)(k10:Int)(m0:Img)(m1:Sta)(m2:Qry)(m20485:Rou):Prop:=
  (k10<(m20485.frames.length:Int)→T283_12 prog K P1 P0 out7 g8 k10 m0 m1 m2 m20485)∧(¬(k10<(m20485.frames.length:Int))→T283_20 prog K P0 out7 g8 m0 m1 m2)
def T283_10 (prog:Prog)(K:LB→Prop)(P0:LB→Int→Img→Sta→Qry→Prop)(out7:LB)(g8:Int)(k10:Int)(m0:Img)(m1:Sta)(m2:Qry)(m20485:Rou):Prop:=
  ∀P1:LB→Int→Img→Sta→Qry→Rou→Prop,(∀(out7:LB)(k10:Int)(m0:Img)(m1:Sta)(m2:Qry)(m20485:Rou),T283_11 prog K P1 P0 out7 g8 k10 m0 m1 m2 m20485→P1 out7 k10 m0 m1 m2 m20485)→P1 out7 k10 m0 m1 m2 m20485
def T283_9 (prog:Prog)(K:LB→Prop)(P0:LB→Int→Img→Sta→Qry→Prop)(out7:LB)(g8:Int)(m0:Img)(m1:Sta)(m2:Qry)(m20485:Rou):Prop:=
  T283_10 prog K P0 out7 g8 0 m0 m1 m2 m20485
def T283_8 (prog:Prog)(K:LB→Prop)(P0:LB→Int→Img→Sta→Qry→Prop)(out7:LB)(g8:Int)(t52:Bool)(m0:Img)(m1:Sta)(m2:Qry)(m20485:Rou):Prop:=
  (t52=true→∃c:BS,Pus prog 265 [.i .i64 g8] (.s c)∧([103,111,114,111,117,116,105,110,101,32]:BS).length+c.length≤maxStr∧Fit (out7.length+[(([103,111,114,111,117,116,105,110,101,32]:BS)++c)].length) 16∧T283_9 prog K P0 (out7++[(([103,111,114,111,117,116,105,110,101,32]:BS)++c)]) g8 m0 m1 m2 m20485)∧(t52=false→T283_9 prog K P0 out7 g8 m0 m1 m2 m20485)
def T283_7 (prog:Prog)(K:LB→Prop)(P0:LB→Int→Img→Sta→Qry→Prop)(out7:LB)(g8:Int)(m0:Img)(m1:Sta)(m2:Qry)(m20485:Rou):Prop:=
  (m2.kind=6→(m20485.status=2→T283_8 prog K P0 out7 g8 (decide (m20485.key=m2.key)) m0 m1 m2 m20485)∧(¬(m20485.status=2)→T283_8 prog K P0 out7 g8 false m0 m1 m2 m20485))∧(¬(m2.kind=6)→T283_8 prog K P0 out7 g8 false m0 m1 m2 m20485)
def T283_6 (prog:Prog)(K:LB→Prop)(P0:LB→Int→Img→Sta→Qry→Prop)(out7:LB)(g8:Int)(m0:Img)(m1:Sta)(m2:Qry)(m20485:Rou):Prop:=
  (m2.kind=1→∃e,Pus prog 222 [m0.av,.i .i64 g8,m20485.av] (.sl .ext (List.map rowS e))∧∃c,e[0]?=some c∧Fit (out7.length+[c].length) 16∧T283_7 prog K P0 (out7++[c]) g8 m0 m1 m2 m20485)∧(¬(m2.kind=1)→T283_7 prog K P0 out7 g8 m0 m1 m2 m20485)
def T283_5 (prog:Prog)(K:LB→Prop)(P0:LB→Int→Img→Sta→Qry→Prop)(out7:LB)(g8:Int)(m0:Img)(m1:Sta)(m2:Qry):Prop:=
  0≤g8∧∃c,m1.routines[(g8).toNat]?=some c∧T283_6 prog K P0 out7 g8 m0 m1 m2 c
def T283_21 (prog:Prog)(K:LB→Prop)(out7:LB):Prop:=
  K out7
def T283_4 (prog:Prog)(K:LB→Prop)(P0:LB→Int→Img→Sta→Qry→Prop)(out7:LB)(g8:Int)(m0:Img)(m1:Sta)(m2:Qry):Prop:=
  (g8<(m1.routines.length:Int)→T283_5 prog K P0 out7 g8 m0 m1 m2)∧(¬(g8<(m1.routines.length:Int))→T283_21 prog K out7)
def T283_3 (prog:Prog)(K:LB→Prop)(out7:LB)(g8:Int)(m0:Img)(m1:Sta)(m2:Qry):Prop:=
  ∀P0:LB→Int→Img→Sta→Qry→Prop,(∀(out7:LB)(g8:Int)(m0:Img)(m1:Sta)(m2:Qry),T283_4 prog K P0 out7 g8 m0 m1 m2→P0 out7 g8 m0 m1 m2)→P0 out7 g8 m0 m1 m2
def T283_2 (prog:Prog)(K:LB→Prop)(out7:LB)(m0:Img)(m1:Sta)(m2:Qry):Prop:=
  T283_3 prog K out7 0 m0 m1 m2
def T283_1 (prog:Prog)(K:LB→Prop)(m0:Img)(m1:Sta)(m2:Qry):Prop:=
  T283_2 prog K ([]:LB) m0 m1 m2
def T283_0 (prog:Prog)(K:LB→Prop)(m0:Img)(s1:Sta)(q2:Qry):Prop:=
  T283_1 prog K m0 s1 q2
section
variable {prog:Prog}{d:Nat}{Q:AE→Sl→St→Prop}{K:LB→Prop}(hQ:HL rowS 6 Q K){σ:Sl}{st:St}
include hQ
variable {out7:LB}{g8 k10 i12:Int}{m0:Img}{m1:Sta}{m2:Qry}{m20485:Rou}{m53253:Frm}{P2:LB→Int→Img→Sta→Qry→Rou→Frm→Prop}{P1:LB→Int→Img→Sta→Qry→Rou→Prop}{P0:LB→Int→Img→Sta→Qry→Prop}{o_out7:Own}{v0 v1 v2 v20485 v53253:Nat}{t131:Bool}{m77829:Loc}{v77829:Nat}{t85 t52:Bool}{s1:Sta}{q2:Qry}
variable (kP2 :∀(out7:LB)(i12:Int)(m0:Img)(m1:Sta)(m2:Qry)(m20485:Rou)(m53253:Frm),P2 out7 i12 m0 m1 m2 m20485 m53253→I283_2 prog d Q g8 k10 out7 i12 m0 m1 m2 m20485 m53253)(H0:σ 0=m0.av) (kP1 :∀(out7:LB)(k10:Int)(m0:Img)(m1:Sta)(m2:Qry)(m20485:Rou),P1 out7 k10 m0 m1 m2 m20485→I283_1 prog d Q g8 out7 k10 m0 m1 m2 m20485)(H1:σ 1=s1.av) (kP0 :∀(out7:LB)(g8:Int)(m0:Img)(m1:Sta)(m2:Qry),P0 out7 g8 m0 m1 m2→I283_0 prog d Q out7 g8 m0 m1 m2)(H2:σ 2=q2.av)(H3:σ 3=.p (d,0) v0 0)(H4:σ 4=.p (d,1) v1 0)(H5:σ 5=.p (d,2) v2 0)(H7:σ 7=.sl o_out7 (List.map rowS out7))(H8:σ 8=.i .i64 g8)(H9:σ 9=.p (d,20485) v20485 0)(H10:σ 10=.i .i64 k10)(H52:σ 52=.b t52)(H11:σ 11=.p (d,53253) v53253 0)(H12:σ 12=.i .i64 i12)(H85:σ 85=.b t85)(H13:σ 13=.p (d,77829) v77829 0)(H131:σ 131=.b t131)(A7:ApM d st.ow o_out7 out7.length)(B0:lk st.bx (d,0)=some (v0,Img.cs m0))(B1:lk st.bx (d,1)=some (v1,Sta.cs m1))(B2:lk st.bx (d,2)=some (v2,Qry.cs m2))(B20485:lk st.bx (d,20485)=some (v20485,Rou.cs m20485))(B53253:lk st.bx (d,53253)=some (v53253,Frm.cs m53253))(B77829:lk st.bx (d,77829)=some (v77829,[.i .i64 m77829.slot,.i .u8 m77829.value.kind,.i .i64 m77829.value.int,.s m77829.value.text,.sl .ext (List.map Val.row m77829.value.list),.b m77829.value.cut]))
include kP2 kP1 kP0 H3 H4 H5 H7 H8 H9 H10 H11 H12 A7 B0 B1 B2 B20485 B53253 in
theorem w283_18 (h:T283_18 prog K P2 P1 P0 out7 g8 k10 i12 m0 m1 m2 m20485 m53253):W prog d c283_3 σ st (thenW prog d (.loop l283_2) (blockW 4 (blockW 3 (thenW prog d c283_7 (thenW prog d (.loop l283_1) (blockW 2 (blockW 1 (thenW prog d c283_14 (thenW prog d (.loop l283_0) (blockW 0 (thenW prog d c283_18 Q))))))))))):=
 W.reg0 J fun _ _=>m_ (b_ H12 J add_ (m_ (e_ (kP2 _ _ _ _ _ _ _ h _ _ _ _ _ _ _ _ H3 H4 H5 H7 H8 H9 H10 H11 J A7 B0 B1 B2 B20485 B53253))))
include kP2 kP1 kP0 H3 H4 H5 H7 H8 H9 H10 H11 H12 H13 H131 A7 B0 B1 B2 B20485 B53253 B77829 in
theorem w283_17 (h:T283_17 prog K P2 P1 P0 out7 g8 k10 i12 t131 m0 m1 m2 m20485 m53253 m77829):W prog d c283_2 σ st (blockW 5 (thenW prog d c283_3 (thenW prog d (.loop l283_2) (blockW 4 (blockW 3 (thenW prog d c283_7 (thenW prog d (.loop l283_1) (blockW 2 (blockW 1 (thenW prog d c283_14 (thenW prog d (.loop l283_0) (blockW 0 (thenW prog d c283_18 Q))))))))))))):=
 cb_ H131 (fun k=>W.reg0 J fun _ _=>s_mvL H7 (m_ ((h.1 k).elim fun q j=>ca_ (sc1 H8 J) j.1 (b_ J J (abin_cat' j.2.1) (m_ (j.2.2.elim fun r c=>ca_ (sc1 H10 J) c.1 (b_ J J (abin_cat' c.2.1) (b_ J J (abin_cat' c.2.2.1) (f_ H13 (l_ J B77829 J J (c.2.2.2.elim fun s e=>ca_ (sc1 J J) e.1 (b_ J J (abin_cat' e.2.1) (b_ J J (abin_cat' e.2.2.1) (f_ H13 (l_ J B77829 J J (e.2.2.2.elim fun u i=>ca_ (sc1 J J) i.1 (b_ J J (abin_cat' i.2.1) (s_bslM (f:=rowS) (l:=[((((((q++([32]:BS))++r)++([32]:BS))++s)++([32,61,32]:BS))++u)]) J J (g_cons J J J g_nil) J (s_app rowS_len J J J A7.1 i.2.2.1 J (fun _ _ o _ p=>s_mvL J (e_ (w283_18 hQ kP2 kP1 kP0 H3 H4 H5 J H8 H9 H10 H11 H12 (ApM.mk o (Mine.app A7.2 J p)) B0 B1 B2 B20485 B53253 i.2.2.2)))))))))))))))))))))) (fun k=>sk_ (w283_18 hQ kP2 kP1 kP0 H3 H4 H5 H7 H8 H9 H10 H11 H12 A7 B0 B1 B2 B20485 B53253 (h.2 k)))
include kP1 kP0 H3 H4 H5 H7 H8 H9 H10 A7 B0 B1 B2 B20485 in
theorem w283_19 (h:T283_19 prog K P1 P0 out7 g8 k10 m0 m1 m2 m20485):W prog d c283_7 σ st (thenW prog d (.loop l283_1) (blockW 2 (blockW 1 (thenW prog d c283_14 (thenW prog d (.loop l283_0) (blockW 0 (thenW prog d c283_18 Q))))))):=
 au trivial
include kP2 kP1 kP0 H3 H4 H5 H7 H8 H9 H10 H11 H12 A7 B0 B1 B2 B20485 B53253 in
theorem w283_16 (h:T283_16 prog K P2 P1 P0 out7 g8 k10 i12 m0 m1 m2 m20485 m53253):W prog d l283_2 σ st (thenW prog d (.loop l283_2) (blockW 4 (blockW 3 (thenW prog d c283_7 (thenW prog d (.loop l283_1) (blockW 2 (blockW 1 (thenW prog d c283_14 (thenW prog d (.loop l283_0) (blockW 0 (thenW prog d c283_18 Q))))))))))):=
 sq_ (q_ J (m_ (f_ H11 (l_ J B53253 J J (ll_ J (b_ H12 J lss_ (e_ (cs_ J (fun e=>sk_ (sq_ (bk_ (sq_ (W.reg (f_ H11 (l_ J (lk_other J B53253) J J (m_ ((h.1 e).2.elim fun p c=>ia_ J H12 (h.1 e).1 c.1 (Loc.row_eq p) J (lf_ J J J (s_alloc (so_ J (show lk _ (d,77829)=some (_,([.i .i64 0,.i .u8 0,.i .i64 0,.s [],.sl .full (List.map Val.row ([]:List Val)),.b false]:List AV)) from lk_here) J J J (e_ (q_ J (f_ H5 (l_ J (lk_other J (lk_other J B2)) J J (b_ J J eql_ (s_mvB J (em_ (g:=115) J (fun j=>gy_ J (f_ H3 (gy_ J (l_ J (lk_other J (lk_other J B0)) J J (gy_ J (f_ H11 (gy_ J (l_ J (lk_other J (lk_other J B53253)) J J (gy_ J ((c.2.1 j).2.elim fun q k=>ia_ J J (c.2.1 j).1 k.1 (Fun.row_eq q) J (gy_ J (ff_ J (gy_ J (lf_ J J J (gy_ J (f_ J (gy_ J (l_ J lk_here J J (gy_ J (k.2.2.elim fun r o=>ia_ J J k.2.1 o.1 (Fld.row_eq r) J (gy_ J (ff_ J (gy_ J (lf_ J J J (gy_ J (f_ H5 (gy_ J (l_ J (lk_other J (lk_other J B2)) J J (gy_ J (b_ J J seq_ (pt_ J J (e_ (w283_17 hQ kP2 kP1 kP0 H3 H4 H5 H7 H8 H9 H10 H11 H12 J J A7 (lk_other J (lk_other J B0)) (lk_other J (lk_other J B1)) (lk_other J (lk_other J B2)) (lk_other J (lk_other J B20485)) (lk_other J (lk_other J B53253)) lk_here o.2))))))))))))))))))))))))))))))))) (fun j=>z_ 16 J (e_ (w283_17 hQ kP2 kP1 kP0 H3 H4 H5 H7 H8 H9 H10 H11 H12 J J A7 (lk_other J (lk_other J B0)) (lk_other J (lk_other J B1)) (lk_other J (lk_other J B2)) (lk_other J (lk_other J B20485)) (lk_other J (lk_other J B53253)) lk_here (c.2.2 j))))))))))))))))))))))) (fun e=>ex_ (w283_19 hQ kP1 kP0 H3 H4 H5 H7 H8 H9 H10 A7 B0 B1 B2 B20485 (h.2 e)))))))))))
include kP1 kP0 H3 H4 H5 H7 H8 H9 H10 H11 A7 B0 B1 B2 B20485 B53253 in
theorem w283_15 (h:T283_15 prog K P1 P0 out7 g8 k10 m0 m1 m2 m20485 m53253):W prog d c283_5 σ st (blockW 3 (thenW prog d c283_7 (thenW prog d (.loop l283_1) (blockW 2 (blockW 1 (thenW prog d c283_14 (thenW prog d (.loop l283_0) (blockW 0 (thenW prog d c283_18 Q))))))))):=
 q_ J (m_ (e_ (bk_ (h (I283_2 prog d Q g8 k10) (fun _ _ _ _ _ _ _ hb _ _ _ _ _ _ _ _ H3 H4 H5 H7 H8 H9 H10 H11 H12 A7 B0 B1 B2 B20485 B53253=>W.loop (w283_16 hQ (fun _ _ _ _ _ _ _ x=>x) kP1 kP0 H3 H4 H5 H7 H8 H9 H10 H11 H12 A7 B0 B1 B2 B20485 B53253 hb)) _ _ _ _ _ _ _ _ H3 H4 H5 H7 H8 H9 H10 H11 J A7 B0 B1 B2 B20485 B53253))))
include kP1 kP0 H3 H4 H5 H7 H8 H9 H10 H11 H85 A7 B0 B1 B2 B20485 B53253 in
theorem w283_14 (h:T283_14 prog K P1 P0 out7 g8 k10 t85 m0 m1 m2 m20485 m53253):W prog d c283_1 σ st (thenW prog d c283_5 (blockW 3 (thenW prog d c283_7 (thenW prog d (.loop l283_1) (blockW 2 (blockW 1 (thenW prog d c283_14 (thenW prog d (.loop l283_0) (blockW 0 (thenW prog d c283_18 Q)))))))))):=
 cb_ H85 (fun j=>W.reg0 J fun _ _=>s_mvL H7 (m_ ((h.1 j).elim fun p i=>ca_ (sc1 H8 J) i.1 (b_ J J (abin_cat' i.2.1) (m_ (i.2.2.elim fun q c=>ca_ (sc1 H10 J) c.1 (b_ J J (abin_cat' c.2.1) (b_ J J (abin_cat' c.2.2.1) (f_ H11 (l_ J B53253 J J (c.2.2.2.elim fun r e=>ca_ (sc1 J J) e.1 (b_ J J (abin_cat' e.2.1) (s_bslM (f:=rowS) (l:=[((((p++([32]:BS))++q)++([32,97,116,32]:BS))++r)]) J J (g_cons J J J g_nil) J (s_app rowS_len J J J A7.1 e.2.2.1 J (fun _ _ k _ o=>s_mvL J (e_ (w283_15 hQ kP1 kP0 H3 H4 H5 J H8 H9 H10 H11 (ApM.mk k (Mine.app A7.2 J o)) B0 B1 B2 B20485 B53253 e.2.2.2))))))))))))))))) (fun j=>sk_ (w283_15 hQ kP1 kP0 H3 H4 H5 H7 H8 H9 H10 H11 A7 B0 B1 B2 B20485 B53253 (h.2 j)))
include kP1 kP0 H3 H4 H5 H7 H8 H9 H10 H11 A7 B0 B1 B2 B20485 B53253 in
theorem w283_13 (h:T283_13 prog K P1 P0 out7 g8 k10 m0 m1 m2 m20485 m53253):W prog d c283_6 σ st (blockW 3 (thenW prog d c283_7 (thenW prog d (.loop l283_1) (blockW 2 (blockW 1 (thenW prog d c283_14 (thenW prog d (.loop l283_0) (blockW 0 (thenW prog d c283_18 Q))))))))):=
 sq_ (q_ J (f_ H5 (l_ J B2 J J (b_ J J eql_ (s_mvB J (em_ (g:=74) J (fun c=>gy_ J (f_ H3 (gy_ J (l_ J B0 J J (gy_ J (f_ H11 (gy_ J (l_ J B53253 J J (gy_ J ((h.1 c).2.elim fun i e=>ia_ J J (h.1 c).1 e.1 (Fun.row_eq i) J (gy_ J (ff_ J (gy_ J (lf_ J J J (gy_ J (f_ H5 (gy_ J (l_ J B2 J J (gy_ J (b_ J J seq_ (pt_ J J (e_ (w283_14 hQ kP1 kP0 H3 H4 H5 H7 H8 H9 H10 H11 J A7 B0 B1 B2 B20485 B53253 e.2))))))))))))))))))))))) (fun c=>z_ 11 J (e_ (w283_14 hQ kP1 kP0 H3 H4 H5 H7 H8 H9 H10 H11 J A7 B0 B1 B2 B20485 B53253 (h.2 c))))))))))
include kP1 kP0 H3 H4 H5 H7 H8 H9 H10 A7 B0 B1 B2 B20485 in
theorem w283_12 (h:T283_12 prog K P1 P0 out7 g8 k10 m0 m1 m2 m20485):W prog d c283_8 σ st (thenW prog d (.loop l283_1) (blockW 2 (blockW 1 (thenW prog d c283_14 (thenW prog d (.loop l283_0) (blockW 0 (thenW prog d c283_18 Q))))))):=
 au @w283_13
include kP0 H3 H4 H5 H7 H8 A7 B0 B1 B2 in
theorem w283_20 (h:T283_20 prog K P0 out7 g8 m0 m1 m2):W prog d c283_14 σ st (thenW prog d (.loop l283_0) (blockW 0 (thenW prog d c283_18 Q))):=
 au trivial
include kP1 kP0 H3 H4 H5 H7 H8 H9 H10 A7 B0 B1 B2 B20485 in
theorem w283_11 (h:T283_11 prog K P1 P0 out7 g8 k10 m0 m1 m2 m20485):W prog d l283_1 σ st (thenW prog d (.loop l283_1) (blockW 2 (blockW 1 (thenW prog d c283_14 (thenW prog d (.loop l283_0) (blockW 0 (thenW prog d c283_18 Q))))))):=
 au (And.intro @w283_12 @w283_20)
include kP0 H3 H4 H5 H7 H8 H9 H10 A7 B0 B1 B2 B20485 in
theorem w283_10 (h:T283_10 prog K P0 out7 g8 k10 m0 m1 m2 m20485):W prog d c283_10 σ st (blockW 1 (thenW prog d c283_14 (thenW prog d (.loop l283_0) (blockW 0 (thenW prog d c283_18 Q))))):=
 bk_ (h (I283_1 prog d Q g8) (fun _ _ _ _ _ _ hb _ _ _ _ _ _ _ H3 H4 H5 H7 H8 H9 H10 A7 B0 B1 B2 B20485=>W.loop (w283_11 hQ (fun _ _ _ _ _ _ x=>x) kP0 H3 H4 H5 H7 H8 H9 H10 A7 B0 B1 B2 B20485 hb)) _ _ _ _ _ _ _ H3 H4 H5 H7 H8 H9 H10 A7 B0 B1 B2 B20485)
include kP0 H3 H4 H5 H7 H8 H9 A7 B0 B1 B2 B20485 in
theorem w283_9 (h:T283_9 prog K P0 out7 g8 m0 m1 m2 m20485):W prog d c283_11 σ st (blockW 1 (thenW prog d c283_14 (thenW prog d (.loop l283_0) (blockW 0 (thenW prog d c283_18 Q))))):=
 au @w283_10
include kP0 H3 H4 H5 H7 H8 H9 H52 A7 B0 B1 B2 B20485 in
theorem w283_8 (h:T283_8 prog K P0 out7 g8 t52 m0 m1 m2 m20485):W prog d c283_0 σ st (thenW prog d c283_11 (blockW 1 (thenW prog d c283_14 (thenW prog d (.loop l283_0) (blockW 0 (thenW prog d c283_18 Q)))))):=
 cb_ H52 (fun e=>W.reg0 J fun _ _=>s_mvL H7 (m_ ((h.1 e).elim fun k c=>ca_ (sc1 H8 J) c.1 (b_ J J (abin_cat' c.2.1) (s_bslM (f:=rowS) (l:=[(([103,111,114,111,117,116,105,110,101,32]:BS)++k)]) J J (g_cons J J J g_nil) J (s_app rowS_len J J J A7.1 c.2.2.1 J (fun _ _ i _ j=>s_mvL J (e_ (w283_9 hQ kP0 H3 H4 H5 J H8 H9 (ApM.mk i (Mine.app A7.2 J j)) B0 B1 B2 B20485 c.2.2.2))))))))) (fun e=>sk_ (w283_9 hQ kP0 H3 H4 H5 H7 H8 H9 A7 B0 B1 B2 B20485 (h.2 e)))
include kP0 H3 H4 H5 H7 H8 H9 A7 B0 B1 B2 B20485 in
theorem w283_7 (h:T283_7 prog K P0 out7 g8 m0 m1 m2 m20485):W prog d c283_12 σ st (blockW 1 (thenW prog d c283_14 (thenW prog d (.loop l283_0) (blockW 0 (thenW prog d c283_18 Q))))):=
 sq_ (q_ J (f_ H5 (l_ J B2 J J (b_ J J eql_ (s_mvB J (em_ (g:=41) J (fun c=>gy_ J (f_ H9 (gy_ J (l_ J B20485 J J (gy_ J (b_ J J eql_ (z_ 2 J (em_ (g:=46) J (fun e=>gy_ J (f_ H9 (gy_ J (l_ J B20485 J J (gy_ J (f_ H5 (gy_ J (l_ J B2 J J (gy_ J (b_ J J eql_ (pt_ J J (e_ (w283_8 hQ kP0 H3 H4 H5 H7 H8 H9 J A7 B0 B1 B2 B20485 ((h.1 c).1 e)))))))))))))) (fun e=>z_ 6 J (e_ (w283_8 hQ kP0 H3 H4 H5 H7 H8 H9 J A7 B0 B1 B2 B20485 ((h.1 c).2 e)))))))))))) (fun c=>z_ 11 J (e_ (w283_8 hQ kP0 H3 H4 H5 H7 H8 H9 J A7 B0 B1 B2 B20485 (h.2 c))))))))))
include kP0 H3 H4 H5 H7 H8 H9 A7 B0 B1 B2 B20485 in
theorem w283_6 (h:T283_6 prog K P0 out7 g8 m0 m1 m2 m20485):W prog d c283_13 σ st (blockW 1 (thenW prog d c283_14 (thenW prog d (.loop l283_0) (blockW 0 (thenW prog d c283_18 Q))))):=
 sq_ (q_ J (f_ H5 (l_ J B2 J J (b_ J J eql_ (e_ (cs_ J (fun e=>W.reg0 J fun _ _=>s_mvL H7 (l_ H3 B0 J J (m_ (l_ H9 B20485 J J ((h.1 e).elim fun _ i=>ca_ (sc3 J H8 J J) i.1 (i.2.elim fun k c=>ia_ J J (by decide) c.1 J J (lf_ J J J (s_bslM (f:=rowS) (l:=[k]) J J (g_cons J J J g_nil) J (s_app rowS_len J J J A7.1 c.2.1 J (fun _ _ j _ o=>s_mvL J (e_ (w283_7 hQ kP0 H3 H4 H5 J H8 H9 (ApM.mk j (Mine.app A7.2 J o)) B0 B1 B2 B20485 c.2.2)))))))))))) (fun e=>sk_ (w283_7 hQ kP0 H3 H4 H5 H7 H8 H9 A7 B0 B1 B2 B20485 (h.2 e)))))))))
include kP0 H3 H4 H5 H7 H8 A7 B0 B1 B2 in
theorem w283_5 (h:T283_5 prog K P0 out7 g8 m0 m1 m2):W prog d c283_15 σ st (thenW prog d (.loop l283_0) (blockW 0 (thenW prog d c283_18 Q))):=
 au @w283_6
include H7 A7 in
theorem w283_21 (h:T283_21 prog K out7):W prog d c283_18 σ st Q:=
 au trivial
include kP0 H3 H4 H5 H7 H8 A7 B0 B1 B2 in
theorem w283_4 (h:T283_4 prog K P0 out7 g8 m0 m1 m2):W prog d l283_0 σ st (thenW prog d (.loop l283_0) (blockW 0 (thenW prog d c283_18 Q))):=
 au (And.intro @w283_5 @w283_21)
include H3 H4 H5 H7 H8 A7 B0 B1 B2 in
theorem w283_3 (h:T283_3 prog K out7 g8 m0 m1 m2):W prog d c283_17 σ st (thenW prog d c283_18 Q):=
 bk_ (h (I283_0 prog d Q ) (fun _ _ _ _ _ hb _ _ _ _ _ _ H3 H4 H5 H7 H8 A7 B0 B1 B2=>W.loop (w283_4 hQ (fun _ _ _ _ _ x=>x) H3 H4 H5 H7 H8 A7 B0 B1 B2 hb)) _ _ _ _ _ _ H3 H4 H5 H7 H8 A7 B0 B1 B2)
include H3 H4 H5 H7 A7 B0 B1 B2 in
theorem w283_2 (h:T283_2 prog K out7 m0 m1 m2):W prog d c283_19 σ st Q:=
 au @w283_3
include H3 H4 H5 B0 B1 B2 in
theorem w283_1 (h:T283_1 prog K m0 m1 m2):W prog d c283_20 σ st Q:=
 au @w283_2
include H0 H1 H2 in
theorem w283_0 (h:T283_0 prog K m0 s1 q2):W prog d (sR 0 r283_0 c283_20) σ st Q:=
 q_ J (s_box H0 J (s_box H1 J (s_box H2 J (s_mvL (f:=rowS) (l:=[]) J (e_ (w283_1 hQ J J J (lk_other J (lk_other J lk_here)) (lk_other J lk_here) lk_here h))))))
end
theorem p283 {prog:Prog}(hf:prog.fn 283=some pf283){m0:Img}{s1:Sta}{q2:Qry}{K:LB→Prop}(h:T283_0 prog K m0 s1 q2) :∃res0:LB,K res0∧Pus prog 283 [m0.av,s1.av,q2.av] (.sl .ext (List.map rowS res0)):=
 P1 hf J (w283_0 (hL J) J J J h)
end Go.AM

namespace Go.AM
open Go
set_option linter.unusedVariables false
set_option linter.unusedSimpArgs false
set_option maxRecDepth 4000
attribute [local irreducible] WO fillCells fillRows
abbrev H278 (Q:AE→Sl→St→Prop)(K:Bool→Prop):Prop:=∀(σ:Sl)(st:St)(res0:Bool),σ 8=.b res0→K res0→Q .ret σ st
section
variable {prog:Prog}{d:Nat}{Q:AE→Sl→St→Prop}{K:Bool→Prop}(hQ:H278 Q K){σ:Sl}{st:St}
include hQ
end
end Go.AM

namespace Go.AM
open Go
set_option linter.unusedVariables false
set_option linter.unusedSimpArgs false
set_option maxRecDepth 4000
attribute [local irreducible] WO fillCells fillRows
abbrev H241 (Q:AE→Sl→St→Prop)(K:Bool→Prop):Prop:=∀(σ:Sl)(st:St)(res0:Bool),σ 0=.b res0→K res0→Q .ret σ st
section
variable {prog:Prog}{d:Nat}{Q:AE→Sl→St→Prop}{K:Bool→Prop}(hQ:H241 Q K){σ:Sl}{st:St}
include hQ
end
end Go.AM

namespace Go.AM
open Go Go.RowKit
def orcQ:Nat→List AV→Option AV:=fun c args=>if c=257 then (match args with | []=>some (.mp wordL) | _=>none) else orcB c args
theorem orcQ_257:orcQ 257 []=some (.mp wordL):=rfl
theorem orcQ_48 (s:List UInt8) (c:UInt8):orcQ 48 [.s s,.i .u8 (c.toNat:Int)]=some (.i .i64 (Lib.indexByte s c)):=by
 unfold orcQ
 rw [if_neg (by decide)]
 exact orcB_48 s c
theorem orcQ_146 (k:Key) (v:Nat):orcQ 146 [.p k v 0]=some (.p k v 0):=rfl
theorem orcQ_105 (args:List AV):orcQ 105 args=none:=by
 unfold orcQ
 rw [if_neg (by decide)]
 exact orcB_105 args
variable {P:Program} {X:Cx}
theorem orcQ_ok {fs:List (Nat × AF)} {orc:Nat→List AV→St→Option (AV × St)} (hB:OracOk P X { fn:=fnOf fs,orac:=orcB,oracS:=orc }) {f0:Nat} (hf :∀f,X.fm f=some 257→f=f0) (hw :∀w,(callFunc f0 #[]).run P w=.ok (.enter f0 #[]) w∧Calls P f0 #[] w (WordsR w)) :
  OracOk P X { fn:=fnOf fs,orac:=orcQ,oracS:=orc }:=by
 intro f c hfc hn args r hr G w0 st w vals d hG hR hV
 simp only [orcQ] at hr
 split at hr
 case isFalse=>exact hB f c hfc hn args r hr G w0 st w vals d hG hR hV
 rename_i hc
 subst hc
 have:=hf f hfc
 subst this
 split at hr
 case h_2=>cases hr
 cases hr
 have hv:vals=[]:=by
  have:=hV.1
  cases vals with
  | nil=>rfl
  | cons=>simp at this
 subst hv
 refine .inl ⟨(hw w).1,(hw w).2.mono fun e w' he=>?_⟩
 obtain ⟨b,rfl,hb,hge,hbel⟩:=he
 have hnone :∀l,G.M b≠some l:=fun l h=>by
  obtain ⟨es,clock,h1,_⟩:=hR.mp b l h
  have:=(Array.getElem?_eq_some_iff.1 h1).1
  omega
 have hrel:=hR.below hbel
 have hle :∀b' l,G.M b'=some l→(if b'=b then some wordL else G.M b')=some l:=fun b' l h=>by
  rw [if_neg (by rintro rfl;exact hnone l h)]
  exact h
 refine ⟨⟨G.H,G.ρ,G.ω,G.fm,fun b'=>if b'=b then some wordL else G.M b'⟩,.mp wordL b (by show (if b=b then _ else _)=_;rw [if_pos rfl]),⟨⟨fun _ _ _ h=>h,fun _ _ _ h=>h,fun _ _ _ h=>h,rfl,hle⟩,hrel.setM hle fun b' l h=>?_,Nat.le_refl _,fun _ _ _=>⟨rfl,rfl⟩,fun _ _ _ _ _ _ h=>h,fun _ _ _ h=>.inl h⟩⟩
 by_cases e:b'=b
 ·subst e
  rw [if_pos rfl] at h
  cases h
  exact ⟨wordEs,8,hb,wordEs_map⟩
 ·rw [if_neg e] at h
  exact hrel.mp b' l h
end Go.AM

namespace Go.AM
open Go Go.RowKit
def sA:Code→Code | .seq a _=>a | c=>c
def sB:Code→Code | .seq _ b=>b | c=>c
def unB:Code→Code | .block _ c=>c | .loop c=>c | c=>c
def unC:Code→Code | .cond _ c _=>c | c=>c
def aA:AC→AC | .seq a _=>a | c=>c
def aB:AC→AC | .seq _ b=>b | c=>c
def nog (ops:Array Oper):Bool:=ops.toList.all fun o=>o.guard.isNone
theorem of_nog {ops:Array Oper} (h:nog ops=true) :∀o∈ops.toList,o.guard=none:=fun o ho=>Option.isNone_iff_eq_none.1 (List.all_eq_true.1 h o ho)
def regOps:Code→Array Oper | .region _ o _=>o | _=>#[]
def bodyOf (f:Func):Code:=f.body.getD .skip
def hndOf (h:Code):Code:=
 .seq (.region 5 (regOps (sA h)) false) (.block 0 (.loop (.seq (.region 6 (regOps (sA (unB (unB (sB h))))) false) (.seq (.cond (.tmp 18) .skip (.exit 0)) (.block 1 (.seq (.region 7 (regOps (sA (unB (sB (sB (unB (unB (sB h)))))))) false) (.seq (.region 8 (regOps (sA (sB (unB (sB (sB (unB (unB (sB h))))))))) false) (.cond (.tmp 25) (.region 9 (regOps (unC (sB (sB (unB (sB (sB (unB (unB (sB h)))))))))) false) .skip))))))))
theorem good243 {P:Program} {X:Cx} {F:AF} {c:Code} {x1 x2 x4 x5:AC} (hb:F.body=.seq x1 (.seq x2 (.seq x4 (.seq (.hand hw243) x5)))) (hc:c=.seq (sA c) (.seq (sA (sB c)) (.seq (sA (sB (sB c))) (.seq (hndOf (sA (sB (sB (sB c))))) (sB (sB (sB (sB c))))))))
  (h1:cCode { X with fz:=F.fz } F.nt (sA c)=some x1) (h2:cCode { X with fz:=F.fz } F.nt (sA (sB c))=some x2) (h4:cCode { X with fz:=F.fz } F.nt (sA (sB (sB c)))=some x4) (h5:cCode { X with fz:=F.fz } F.nt (sB (sB (sB (sB c))))=some x5)
  (hh:TTok P X.T→∀d,CodeOk P { X with fz:=F.fz } F.nt d hw243 (hndOf (sA (sB (sB (sB c)))))):GoodF P X F c:=by
 intro hT hm C hC n d
 rw [hb,hc]
 have g1:CodeOk P { X with fz:=F.fz } F.nt d (acode C n d x1) (sA c):=code_ok (X:={ X with fz:=F.fz }) hT hC hm n d _ _ (Nat.lt_succ_self _) h1
 have g2:CodeOk P { X with fz:=F.fz } F.nt d (acode C n d x2) (sA (sB c)):=code_ok (X:={ X with fz:=F.fz }) hT hC hm n d _ _ (Nat.lt_succ_self _) h2
 have g4:CodeOk P { X with fz:=F.fz } F.nt d (acode C n d x4) (sA (sB (sB c))):=code_ok (X:={ X with fz:=F.fz }) hT hC hm n d _ _ (Nat.lt_succ_self _) h4
 have g5:CodeOk P { X with fz:=F.fz } F.nt d (acode C n d x5) (sB (sB (sB (sB c)))):=code_ok (X:={ X with fz:=F.fz }) hT hC hm n d _ _ (Nat.lt_succ_self _) h5
 have gh:CodeOk P { X with fz:=F.fz } F.nt d (acode C n d (.hand hw243)) (hndOf (sA (sB (sB (sB c))))):=by
  intro σ st e σ' st' h
  exact @hh hT d σ st e σ' st' (show hw243 σ st=some (e,σ',st') from h)
 have k1:CodeOk P { X with fz:=F.fz } F.nt d (acode C n d (.seq (.hand hw243) x5)) _:=seq_ok gh g5
 have k2:CodeOk P { X with fz:=F.fz } F.nt d (acode C n d (.seq x4 (.seq (.hand hw243) x5))) _:=seq_ok g4 k1
 have k3:CodeOk P { X with fz:=F.fz } F.nt d (acode C n d (.seq x2 (.seq x4 (.seq (.hand hw243) x5)))) _:=seq_ok g2 k2
 have k4:CodeOk P { X with fz:=F.fz } F.nt d (acode C n d (.seq x1 (.seq x2 (.seq x4 (.seq (.hand hw243) x5))))) _:=seq_ok g1 k3
 intro σ st e σ' st' h
 exact k4 h
end Go.AM

/- MADE BY PROGRAM (seat2.py): the types of the program, and that its code is the machine's. -/
namespace Go.Proofs
open Go.Shelf
def Tryz.lays169_ren : Go.Shelf.Ren := ⟨fun | 169 => 44 | n => n, fun | 70 => 99 | 9 => 9 | 0 => 0 | 72 => 102 | 37 => 100 | 127 => 143 | 3 => 3 | 5 => 5 | n => n, fun | n => n⟩
theorem Tryz.lays169 : Go.Proofs.Lays.n169 Tryz.prog Tryz.lays169_ren := {
  mixed := by kernel_rfl
  f169 := Tryz.func44.trans (congrArg some (by kernel_rfl))
  t0 := Tryz.underlying0
  a0 := Tryz.isAgg0
  z0 := Tryz.sizeOf0
  v0 := Tryz.zeroValue0
  t3 := Tryz.underlying3
  a3 := Tryz.isAgg3
  z3 := Tryz.sizeOf3
  v3 := Tryz.zeroValue3
  t9 := Tryz.underlying9
  a9 := Tryz.isAgg9
  z9 := Tryz.sizeOf9
  v9 := Tryz.zeroValue9
  t37 := Tryz.underlying100
  a37 := Tryz.isAgg100
  z37 := Tryz.sizeOf100
  v37 := Tryz.zeroValue100
  t70 := Tryz.underlying99
  a70 := Tryz.isAgg99
  z70 := Tryz.sizeOf99
  v70 := Tryz.zeroValue99
  t72 := Tryz.underlying102
  a72 := Tryz.isAgg102
  z72 := Tryz.sizeOf102
  v72 := Tryz.zeroValue102
  t127 := Tryz.underlying143
  a127 := Tryz.isAgg143
  z127 := Tryz.sizeOf143
  v127 := Tryz.zeroValue143 }

theorem Tryz.extraB : Builder.Extra Tryz.prog Tryz.lays169_ren := {
  sizeBuilder := by kernel_rfl
  liesBuilder := by kernel_rfl
  t5 := Tryz.underlying5
  a5 := Tryz.isAgg5
  z5 := Tryz.sizeOf5
  v5 := Tryz.zeroValue5
  infoByte := by kernel_rfl
  cellsByte := by kernel_rfl
  sizeByte := by kernel_rfl
  neB5 := by decide }
end Go.Proofs
namespace Go.Proofs.YtbcdfamilcmjnaaGreat
open Go Go.AM

def tys : List (Nat × TI) := [
(2, ⟨.int .i64, 1, 8, [z6]⟩),
  (3, ⟨.int .i64, 1, 8, [z6]⟩),
  (4, ⟨.bool, 1, 1, [zb]⟩),
  (5, ⟨.int .u8, 1, 1, [z8]⟩),
  (9, ⟨.str, 1, 16, [zs]⟩),
  (22, ⟨.sl 212, 1, 24, [zl]⟩),
  (23, ⟨.sl 9, 1, 24, [zl]⟩),
  (24, ⟨.sl 59, 1, 24, [zl]⟩),
  (26, ⟨.st [(22, 0), (23, 1), (24, 2)], 3, 72, [zl, zl, zl]⟩),
  (27, ⟨.sl 49, 1, 24, [zl]⟩),
  (29, ⟨.st [(5, 0), (3, 1), (3, 2), (27, 3)], 4, 48, [z8, z6, z6, zl]⟩),
  (31, ⟨.st [(5, 0), (3, 1), (3, 2), (2, 3), (9, 4)], 5, 48, [z8, z6, z6, z6, zs]⟩),
  (34, ⟨.int .i64, 1, 8, [z6]⟩),
  (45, ⟨.sl 54, 1, 24, [zl]⟩),
  (46, ⟨.sl 113, 1, 24, [zl]⟩),
  (47, ⟨.sl 89, 1, 24, [zl]⟩),
  (49, ⟨.st [(5, 0), (2, 1), (45, 2), (46, 3), (47, 4)], 5, 88, [z8, z6, zl, zl, zl]⟩),
  (51, ⟨.int .u64, 1, 8, [z7]⟩),
  (52, ⟨.sl 66, 1, 24, [zl]⟩),
  (54, ⟨.st [(3, 0), (3, 1), (51, 2), (52, 3)], 4, 48, [z6, z6, z7, zl]⟩),
  (55, ⟨.sl 68, 1, 24, [zl]⟩),
  (56, ⟨.sl 214, 1, 24, [zl]⟩),
  (57, ⟨.sl 216, 1, 24, [zl]⟩),
  (59, ⟨.st [(9, 0), (3, 1), (3, 2), (55, 3), (56, 4), (57, 5), (57, 6)], 7, 128, [zs, z6, z6, zl, zl, zl, zl]⟩),
  (62, ⟨.sl 64, 1, 24, [zl]⟩),
  (64, ⟨.st [(5, 0), (2, 1), (9, 2), (62, 3), (4, 4)], 5, 64, [z8, z6, zs, zl, zb]⟩),
  (66, ⟨.st [(3, 0), (64, 1)], 6, 72, [z6, z8, z6, zs, zl, zb]⟩),
  (68, ⟨.st [(9, 0), (3, 1)], 2, 24, [zs, z6]⟩),
  (72, ⟨.other, 1, 8, [.nf]⟩),
  (75, ⟨.ptr 77, 1, 8, [.np]⟩),
  (77, ⟨.st [(26, 0), (29, 3), (31, 7), (23, 12)], 13, 192, [zl, zl, zl, z8, z6, z6, zl, z8, z6, z6, z6, zs, zl]⟩),
  (80, ⟨.other, 1, 8, [.nf]⟩),
  (89, ⟨.st [(51, 0), (64, 1), (51, 6)], 7, 80, [z7, z8, z6, zs, zl, zb, z7]⟩),
  (99, ⟨.ptr 102, 1, 8, [.np]⟩),
  (100, ⟨.sl 5, 1, 24, [zl]⟩),
  (102, ⟨.st [(99, 0), (100, 1)], 2, 32, [.np, .sl .full []]⟩),
  (108, ⟨.arr 4 9, 4, 64, [zs, zs, zs, zs]⟩),
  (110, ⟨.other, 1, 8, [.nf]⟩),
  (113, ⟨.st [(3, 0), (3, 1), (4, 2), (64, 3)], 8, 88, [z6, z6, zb, z8, z6, zs, zl, zb]⟩),
  (123, ⟨.mp, 1, 8, [.u]⟩),
  (137, ⟨.arr 8 9, 8, 128, [zs, zs, zs, zs, zs, zs, zs, zs]⟩),
  (139, ⟨.other, 1, 16, [.ni]⟩),
  (148, ⟨.other, 1, 8, [.nf]⟩),
  (151, ⟨.other, 1, 8, [.nf]⟩),
  (171, ⟨.other, 1, 8, [.nf]⟩),
  (174, ⟨.arr 5 5, 5, 5, [z8, z8, z8, z8, z8]⟩),
  (177, ⟨.arr 64 5, 64, 64, [z8, z8, z8, z8, z8, z8, z8, z8, z8, z8, z8, z8, z8, z8, z8, z8, z8, z8, z8, z8, z8, z8, z8, z8, z8, z8, z8, z8, z8, z8, z8, z8, z8, z8, z8, z8, z8, z8, z8, z8, z8, z8, z8, z8, z8, z8, z8, z8, z8, z8, z8, z8, z8, z8, z8, z8, z8, z8, z8, z8, z8, z8, z8, z8]⟩),
  (186, ⟨.uptr, 1, 8, [.np]⟩),
  (212, ⟨.st [(5, 0), (3, 1), (3, 2), (55, 3)], 4, 48, [z8, z6, z6, zl]⟩),
  (214, ⟨.st [(5, 0), (3, 1), (3, 2), (3, 3)], 4, 32, [z8, z6, z6, z6]⟩),
  (216, ⟨.st [(3, 0), (51, 1)], 2, 16, [z6, z7]⟩)]
theorem ty31 : TOk Tryz.prog 31 (((31, ⟨.st [(5, 0), (3, 1), (3, 2), (2, 3), (9, 4)], 5, 48, [.i .u8 0, .i .i64 0, .i .i64 0, .i .i64 0, .s []]⟩) : Nat × TI).2) := TOk.of (ti := Tryz.t31) (by kernel_rfl) (by kernel_rfl) (by kernel_rfl) (TK.ok_st (by kernel_rfl))
theorem tys_ok : ∀ x ∈ tys, TOk Tryz.prog x.1 x.2 :=
 tC (tK Tryz.t2 kE) (tC (tK Tryz.t3 kE) (tC (tK Tryz.t4 kE) (tC (tK Tryz.t5 kE) (tC (tK Tryz.t9 kE) (tC (tK Tryz.t22 kE) (tC (tK Tryz.t23 kE) (tC (tK Tryz.t24 kE) (tC (tK Tryz.t26 kS) (tC (tK Tryz.t27 kE) (tC (tK Tryz.t29 kS) (tC ty31 (tC (tK Tryz.t34 kE) (tC (tK Tryz.t45 kE) (tC (tK Tryz.t46 kE) (tC (tK Tryz.t47 kE) (tC (tK Tryz.t49 kS) (tC (tK Tryz.t51 kE) (tC (tK Tryz.t52 kE) (tC (tK Tryz.t54 kS) (tC (tK Tryz.t55 kE) (tC (tK Tryz.t56 kE) (tC (tK Tryz.t57 kE) (tC (tK Tryz.t59 kS) (tC (tK Tryz.t62 kE) (tC (tK Tryz.t64 kS) (tC (tK Tryz.t66 kS) (tC (tK Tryz.t68 kS) (tC (tK Tryz.t72 kO) (tC (tK Tryz.t75 (And.intro (by kernel_rfl) (by kernel_rfl))) (tC (tK Tryz.t77 kS) (tC (tK Tryz.t80 kO) (tC (tK Tryz.t89 kS) (tC (tK Tryz.t99 (And.intro (by kernel_rfl) (by kernel_rfl))) (tC (tK Tryz.t100 kE) (tC (tK Tryz.t102 kS) (tC (tK Tryz.t108 kE) (tC (tK Tryz.t110 kO) (tC (tK Tryz.t113 kS) (tC (tK Tryz.t123 (Exists.intro 9 (Exists.intro 5 (And.intro (by kernel_rfl) (And.intro (by kernel_rfl) fun w => by kernel_rfl))))) (tC (tK Tryz.t137 kE) (tC (tK Tryz.t139 kO) (tC (tK Tryz.t148 kO) (tC (tK Tryz.t151 kO) (tC (tK Tryz.t171 kO) (tC (tK Tryz.t174 kE) (tC (tK Tryz.t177 kE) (tC (tK Tryz.t186 kE) (tC (tK Tryz.t212 kS) (tC (tK Tryz.t214 kS) (tC (tK Tryz.t216 kS) (tN)))))))))))))))))))))))))))))))))))))))))))))))))))
def fms : List (Nat × Nat) := [(2, 2), (3, 277), (4, 278), (5, 279), (6, 79), (7, 203), (8, 264), (9, 280), (10, 254), (11, 281), (12, 29), (13, 256), (14, 282), (15, 16), (16, 72), (17, 207), (18, 204), (19, 247), (20, 213), (21, 268), (22, 269), (23, 270), (24, 271), (25, 272), (26, 273), (27, 274), (28, 275), (29, 248), (30, 214), (31, 283), (32, 114), (33, 284), (34, 285), (35, 179), (36, 245), (37, 246), (38, 252), (39, 253), (40, 251), (41, 35), (42, 76), (43, 104), (44, 105), (45, 219), (46, 220), (47, 216), (48, 15), (49, 162), (50, 80), (51, 71), (52, 224), (53, 225), (54, 276), (55, 258), (56, 221), (57, 222), (58, 265), (59, 106), (60, 137), (61, 31), (62, 138), (63, 260), (64, 261), (65, 257), (66, 243), (67, 262), (68, 263), (69, 22), (70, 26), (71, 259), (72, 255), (73, 109), (74, 126), (75, 11), (76, 227), (77, 228), (78, 86), (79, 229), (80, 230), (81, 231), (82, 232), (83, 233), (84, 158), (85, 82), (86, 234), (87, 154), (88, 34), (89, 102), (90, 103), (91, 236), (92, 163), (93, 87), (94, 235), (95, 226), (96, 127), (97, 41), (98, 266), (99, 267), (100, 21), (101, 25), (102, 38), (103, 40), (104, 145), (105, 30), (106, 237), (107, 122), (108, 123), (109, 238), (110, 239), (111, 183), (112, 111), (113, 112), (114, 113), (115, 178), (116, 159), (117, 77), (118, 78), (119, 197), (120, 36), (121, 37), (122, 39), (123, 44), (124, 146), (125, 144), (126, 110), (127, 47), (129, 199), (130, 200), (131, 42), (132, 43), (133, 45), (134, 136), (135, 48), (136, 201), (137, 46), (1000000000000, 1000000102), (1000000000001, 1000000005), (1000000000003, 1000000077)]
def X : Cx := ⟨tabOf tys, fmOf fms, fun c => [30, 89, 104, 105, 107, 115, 116, 117, 120, 122, 123, 126, 128, 129, 130, 131, 139, 140, 144, 145, 146, 184, 217, 224, 225, 227, 228, 229, 230, 232, 233, 236, 237, 238, 239, 252, 268, 269, 270, 271, 272, 273, 274, 275, 276].contains c, []⟩
theorem ok42 : FnOk Tryz.prog X 131 pf42 := fK Tryz.func131
theorem ok46 : FnOk Tryz.prog X 137 pf46 := fK Tryz.func137
theorem ok36 : FnOk Tryz.prog X 120 pf36 := fK Tryz.func120
theorem ok43 : FnOk Tryz.prog X 132 pf43 := fK Tryz.func132
theorem ok47 : FnOk Tryz.prog X 127 pf47 := fK Tryz.func127
theorem ok11 : FnOk Tryz.prog X 75 pf11 := fK Tryz.func75
theorem ok15 : FnOk Tryz.prog X 48 pf15 := fK Tryz.func48
theorem ok21 : FnOk Tryz.prog X 100 pf21 := fK Tryz.func100
theorem ok25 : FnOk Tryz.prog X 101 pf25 := fK Tryz.func101
theorem ok30 : FnOk Tryz.prog X 105 pf30 := fK Tryz.func105
theorem ok34 : FnOk Tryz.prog X 88 pf34 := fK Tryz.func88
theorem ok37 : FnOk Tryz.prog X 121 pf37 := fK Tryz.func121
theorem ok39 : FnOk Tryz.prog X 122 pf39 := fK Tryz.func122
theorem ok45 : FnOk Tryz.prog X 133 pf45 := fK Tryz.func133
theorem ok16 : FnOk Tryz.prog X 15 pf16 := fK Tryz.func15
theorem ok22 : FnOk Tryz.prog X 69 pf22 := fK Tryz.func69
theorem ok26 : FnOk Tryz.prog X 70 pf26 := fK Tryz.func70
theorem ok29 : FnOk Tryz.prog X 12 pf29 := fK Tryz.func12
theorem ok31 : FnOk Tryz.prog X 61 pf31 := fK Tryz.func61
theorem ok35 : FnOk Tryz.prog X 41 pf35 := fK Tryz.func41
theorem ok38 : FnOk Tryz.prog X 102 pf38 := fK Tryz.func102
theorem ok40 : FnOk Tryz.prog X 103 pf40 := fK Tryz.func103
theorem ok41 : FnOk Tryz.prog X 97 pf41 := fK Tryz.func97
theorem ok44 : FnOk Tryz.prog X 123 pf44 := fK Tryz.func123
theorem ok197 : FnOk Tryz.prog X 119 pf197 := fK Tryz.func119

theorem words_enter (w : World) : (callFunc 65 #[]).run Tryz.prog w = .ok (.enter 65 #[]) w ∧ Calls Tryz.prog 65 #[] w (WordsR w) := ⟨callFunc_enter Tryz.func65 (by kernel_rfl) (code := .seq (.region 0 (regOps (sA (bodyOf Tryz.f65))) false) (.seq (.region 1 (regOps (sA (sB (bodyOf Tryz.f65)))) false) .ret)) (by kernel_rfl) #[], words_calls Tryz.func65 (ops0 := regOps (sA (bodyOf Tryz.f65))) (ops1 := regOps (sA (sB (bodyOf Tryz.f65)))) (by kernel_rfl) (by kernel_rfl) (by kernel_rfl) (show Tryz.prog.underlying 123 = some (.map 9 5) from by kernel_rfl) (show Tryz.prog.underlying 9 = some .string from by kernel_rfl) ⟨by kernel_rfl, of_nog (by kernel_rfl)⟩ ⟨by kernel_rfl, of_nog (by kernel_rfl)⟩ w⟩
theorem good243 : GoodF Tryz.prog X pf243 (bodyOf Tryz.f66) := Go.AM.good243 (x1 := aA b243) (x2 := aA (aB b243)) (x4 := aA (aB (aB b243))) (x5 := aB (aB (aB (aB b243)))) rfl (by kernel_rfl) (by kernel_rfl) (by kernel_rfl) (by kernel_rfl) (by kernel_rfl) fun hT d =>
  range_hand (fw := 65) (tm := 123) (ts := 31) (t5 := 5) (k := 9) (e := 5) (Nat.le_of_ble_eq_true rfl) (show Tryz.prog.underlying 123 = some (.map 9 5) from by kernel_rfl) hT (ty31 : TOk Tryz.prog 31 _).kind rfl rfl rfl rfl words_enter ⟨by kernel_rfl, of_nog (by kernel_rfl)⟩ ⟨by kernel_rfl, of_nog (by kernel_rfl)⟩ ⟨by kernel_rfl, of_nog (by kernel_rfl)⟩ ⟨by kernel_rfl, of_nog (by kernel_rfl)⟩ ⟨by kernel_rfl, of_nog (by kernel_rfl)⟩
theorem ok243 : FnOk Tryz.prog X 66 pf243 := FnOk.ofG Tryz.func66 (by kernel_rfl) (by kernel_rfl) good243 (by kernel_rfl) (by kernel_rfl) (by kernel_rfl)
theorem ok245 : FnOk Tryz.prog X 36 pf245 := fK Tryz.func36
theorem ok246 : FnOk Tryz.prog X 37 pf246 := fK Tryz.func37
theorem ok247 : FnOk Tryz.prog X 19 pf247 := fK Tryz.func19
theorem ok248 : FnOk Tryz.prog X 29 pf248 := fK Tryz.func29
theorem ok258 : FnOk Tryz.prog X 55 pf258 := fK Tryz.func55
theorem ok259 : FnOk Tryz.prog X 71 pf259 := fK Tryz.func71
theorem ok260 : FnOk Tryz.prog X 63 pf260 := fK Tryz.func63
theorem ok261 : FnOk Tryz.prog X 64 pf261 := fK Tryz.func64
theorem ok262 : FnOk Tryz.prog X 67 pf262 := fK Tryz.func67
theorem ok263 : FnOk Tryz.prog X 68 pf263 := fK Tryz.func68
theorem ok265 : FnOk Tryz.prog X 58 pf265 := fK Tryz.func58
theorem ok266 : FnOk Tryz.prog X 98 pf266 := fK Tryz.func98
theorem ok267 : FnOk Tryz.prog X 99 pf267 := fK Tryz.func99
theorem ok145 : FnOk Tryz.prog X 104 pf145 := fK Tryz.func104
theorem ok126 : FnOk Tryz.prog X 74 pf126 := fK Tryz.func74
theorem ok71 : FnOk Tryz.prog X 51 pf71 := fK Tryz.func51
theorem ok72 : FnOk Tryz.prog X 16 pf72 := fK Tryz.func16
theorem ok76 : FnOk Tryz.prog X 42 pf76 := fK Tryz.func42
theorem ok77 : FnOk Tryz.prog X 117 pf77 := fK Tryz.func117
theorem ok78 : FnOk Tryz.prog X 118 pf78 := fK Tryz.func118
theorem ok102 : FnOk Tryz.prog X 89 pf102 := fK Tryz.func89
theorem ok103 : FnOk Tryz.prog X 90 pf103 := fK Tryz.func90
theorem ok104 : FnOk Tryz.prog X 43 pf104 := fK Tryz.func43
theorem ok106 : FnOk Tryz.prog X 59 pf106 := fK Tryz.func59
theorem ok109 : FnOk Tryz.prog X 73 pf109 := fK Tryz.func73
theorem ok110 : FnOk Tryz.prog X 126 pf110 := fK Tryz.func126
theorem ok127 : FnOk Tryz.prog X 96 pf127 := fK Tryz.func96
theorem ok136 : FnOk Tryz.prog X 134 pf136 := fK Tryz.func134
theorem ok154 : FnOk Tryz.prog X 87 pf154 := fK Tryz.func87
theorem ok158 : FnOk Tryz.prog X 84 pf158 := fK Tryz.func84
theorem ok159 : FnOk Tryz.prog X 116 pf159 := fK Tryz.func116
theorem ok178 : FnOk Tryz.prog X 115 pf178 := fK Tryz.func115
theorem ok179 : FnOk Tryz.prog X 35 pf179 := fK Tryz.func35
theorem ok183 : FnOk Tryz.prog X 111 pf183 := fK Tryz.func111
theorem ok162 : FnOk Tryz.prog X 49 pf162 := fK Tryz.func49
theorem ok163 : FnOk Tryz.prog X 92 pf163 := fK Tryz.func92
theorem ok79 : FnOk Tryz.prog X 6 pf79 := fK Tryz.func6
theorem ok80 : FnOk Tryz.prog X 50 pf80 := fK Tryz.func50
theorem ok82 : FnOk Tryz.prog X 85 pf82 := fK Tryz.func85
theorem ok86 : FnOk Tryz.prog X 78 pf86 := fK Tryz.func78
theorem ok87 : FnOk Tryz.prog X 93 pf87 := fK Tryz.func93
theorem ok111 : FnOk Tryz.prog X 112 pf111 := fK Tryz.func112
theorem ok112 : FnOk Tryz.prog X 113 pf112 := fK Tryz.func113
theorem ok113 : FnOk Tryz.prog X 114 pf113 := fK Tryz.func114
theorem ok114 : FnOk Tryz.prog X 32 pf114 := fK Tryz.func32
theorem ok122 : FnOk Tryz.prog X 107 pf122 := fK Tryz.func107
theorem ok123 : FnOk Tryz.prog X 108 pf123 := fK Tryz.func108
theorem ok137 : FnOk Tryz.prog X 60 pf137 := fK Tryz.func60
theorem ok138 : FnOk Tryz.prog X 62 pf138 := fK Tryz.func62
theorem ok144 : FnOk Tryz.prog X 125 pf144 := fK Tryz.func125
theorem ok203 : FnOk Tryz.prog X 7 pf203 := fK Tryz.func7
theorem ok204 : FnOk Tryz.prog X 18 pf204 := fK Tryz.func18
theorem ok207 : FnOk Tryz.prog X 17 pf207 := fK Tryz.func17
theorem ok213 : FnOk Tryz.prog X 20 pf213 := fK Tryz.func20
theorem ok214 : FnOk Tryz.prog X 30 pf214 := fK Tryz.func30
theorem ok216 : FnOk Tryz.prog X 47 pf216 := fK Tryz.func47
theorem ok219 : FnOk Tryz.prog X 45 pf219 := fK Tryz.func45
theorem ok220 : FnOk Tryz.prog X 46 pf220 := fK Tryz.func46
theorem ok221 : FnOk Tryz.prog X 56 pf221 := fK Tryz.func56
theorem ok222 : FnOk Tryz.prog X 57 pf222 := fK Tryz.func57
theorem ok224 : FnOk Tryz.prog X 52 pf224 := fK Tryz.func52
theorem ok225 : FnOk Tryz.prog X 53 pf225 := fK Tryz.func53
theorem ok226 : FnOk Tryz.prog X 95 pf226 := fK Tryz.func95
theorem ok227 : FnOk Tryz.prog X 76 pf227 := fK Tryz.func76
theorem ok228 : FnOk Tryz.prog X 77 pf228 := fK Tryz.func77
theorem ok229 : FnOk Tryz.prog X 79 pf229 := fK Tryz.func79
theorem ok230 : FnOk Tryz.prog X 80 pf230 := fK Tryz.func80
theorem ok231 : FnOk Tryz.prog X 81 pf231 := fK Tryz.func81
theorem ok232 : FnOk Tryz.prog X 82 pf232 := fK Tryz.func82
theorem ok233 : FnOk Tryz.prog X 83 pf233 := fK Tryz.func83
theorem ok234 : FnOk Tryz.prog X 86 pf234 := fK Tryz.func86
theorem ok235 : FnOk Tryz.prog X 94 pf235 := fK Tryz.func94
theorem ok236 : FnOk Tryz.prog X 91 pf236 := fK Tryz.func91
theorem ok237 : FnOk Tryz.prog X 106 pf237 := fK Tryz.func106
theorem ok238 : FnOk Tryz.prog X 109 pf238 := fK Tryz.func109
theorem ok239 : FnOk Tryz.prog X 110 pf239 := fK Tryz.func110
theorem ok264 : FnOk Tryz.prog X 8 pf264 := fK Tryz.func8
theorem ok268 : FnOk Tryz.prog X 21 pf268 := fK Tryz.func21
theorem ok269 : FnOk Tryz.prog X 22 pf269 := fK Tryz.func22
theorem ok270 : FnOk Tryz.prog X 23 pf270 := fK Tryz.func23
theorem ok271 : FnOk Tryz.prog X 24 pf271 := fK Tryz.func24
theorem ok272 : FnOk Tryz.prog X 25 pf272 := fK Tryz.func25
theorem ok273 : FnOk Tryz.prog X 26 pf273 := fK Tryz.func26
theorem ok274 : FnOk Tryz.prog X 27 pf274 := fK Tryz.func27
theorem ok275 : FnOk Tryz.prog X 28 pf275 := fK Tryz.func28
theorem ok276 : FnOk Tryz.prog X 54 pf276 := fK Tryz.func54
theorem ok254 : FnOk Tryz.prog X 10 pf254 := fK Tryz.func10
theorem ok280 : FnOk Tryz.prog X 9 pf280 := fK Tryz.func9
theorem ok281 : FnOk Tryz.prog X 11 pf281 := fK Tryz.func11
theorem ok283 : FnOk Tryz.prog X 31 pf283 := fK Tryz.func31
theorem ok284 : FnOk Tryz.prog X 33 pf284 := fK Tryz.func33
theorem ok285 : FnOk Tryz.prog X 34 pf285 := fK Tryz.func34
theorem tyVal : TyVal X.T 64 := ⟨5, 2, 9, 62, 4, ⟨_, rfl, rfl, rfl⟩, ⟨_, rfl, rfl, rfl⟩, ⟨_, rfl, rfl, rfl⟩, ⟨_, rfl, rfl, rfl⟩, ⟨_, rfl, rfl, rfl⟩, ⟨_, rfl, rfl, rfl⟩⟩
theorem tyFld : TyFld X.T 68 := ⟨9, 3, ⟨_, rfl, rfl, rfl⟩, ⟨_, rfl, rfl, rfl⟩, ⟨_, rfl, rfl, rfl⟩⟩
theorem tyIns : TyIns X.T 214 := ⟨5, 3, 3, 3, ⟨_, rfl, rfl, rfl⟩, ⟨_, rfl, rfl, rfl⟩, ⟨_, rfl, rfl, rfl⟩, ⟨_, rfl, rfl, rfl⟩, ⟨_, rfl, rfl, rfl⟩⟩
theorem tyRnn : TyRnn X.T 216 := ⟨3, 51, ⟨_, rfl, rfl, rfl⟩, ⟨_, rfl, rfl, rfl⟩, ⟨_, rfl, rfl, rfl⟩⟩
theorem tyTyp : TyTyp X.T 212 := ⟨5, 3, 3, 55, 68, ⟨_, rfl, rfl, rfl⟩, ⟨_, rfl, rfl, rfl⟩, ⟨_, rfl, rfl, rfl⟩, ⟨_, rfl, rfl, rfl⟩, ⟨_, rfl, rfl, rfl⟩, tyFld⟩
theorem tyFun : TyFun X.T 59 := ⟨9, 3, 3, 55, 56, 57, 57, 68, 214, 216, 216, ⟨_, rfl, rfl, rfl⟩, ⟨_, rfl, rfl, rfl⟩, ⟨_, rfl, rfl, rfl⟩, ⟨_, rfl, rfl, rfl⟩, ⟨_, rfl, rfl, rfl⟩, tyFld, ⟨_, rfl, rfl, rfl⟩, tyIns, ⟨_, rfl, rfl, rfl⟩, tyRnn, ⟨_, rfl, rfl, rfl⟩, tyRnn⟩
theorem tyImg : TyImg X.T 26 := ⟨22, 23, 24, 212, 9, 59, ⟨_, rfl, rfl, rfl⟩, ⟨_, rfl, rfl, rfl⟩, tyTyp, ⟨_, rfl, rfl, rfl⟩, ⟨_, rfl, rfl, rfl⟩, ⟨_, rfl, rfl, rfl⟩, tyFun⟩
theorem tyLoc : TyLoc X.T 66 := ⟨3, 64, ⟨_, rfl, rfl, rfl⟩, ⟨_, rfl, rfl, rfl⟩, tyVal⟩
theorem tyFrm : TyFrm X.T 54 := ⟨3, 3, 51, 52, 66, ⟨_, rfl, rfl, rfl⟩, ⟨_, rfl, rfl, rfl⟩, ⟨_, rfl, rfl, rfl⟩, ⟨_, rfl, rfl, rfl⟩, ⟨_, rfl, rfl, rfl⟩, tyLoc⟩
theorem tyPan : TyPan X.T 89 := ⟨51, 64, 51, ⟨_, rfl, rfl, rfl⟩, ⟨_, rfl, rfl, rfl⟩, tyVal, ⟨_, rfl, rfl, rfl⟩⟩
theorem tyDfr : TyDfr X.T 113 := ⟨3, 3, 4, 64, ⟨_, rfl, rfl, rfl⟩, ⟨_, rfl, rfl, rfl⟩, ⟨_, rfl, rfl, rfl⟩, ⟨_, rfl, rfl, rfl⟩, tyVal⟩
theorem tyRou : TyRou X.T 49 := ⟨5, 2, 45, 46, 47, 54, 113, 89, ⟨_, rfl, rfl, rfl⟩, ⟨_, rfl, rfl, rfl⟩, ⟨_, rfl, rfl, rfl⟩, ⟨_, rfl, rfl, rfl⟩, tyFrm, ⟨_, rfl, rfl, rfl⟩, tyDfr, ⟨_, rfl, rfl, rfl⟩, tyPan⟩
theorem tySta : TySta X.T 29 := ⟨5, 3, 3, 27, 49, ⟨_, rfl, rfl, rfl⟩, ⟨_, rfl, rfl, rfl⟩, ⟨_, rfl, rfl, rfl⟩, ⟨_, rfl, rfl, rfl⟩, ⟨_, rfl, rfl, rfl⟩, tyRou⟩
theorem tyQry : TyQry X.T 31 := ⟨5, 3, 3, 2, 9, ⟨_, rfl, rfl, rfl⟩, ⟨_, rfl, rfl, rfl⟩, ⟨_, rfl, rfl, rfl⟩, ⟨_, rfl, rfl, rfl⟩, ⟨_, rfl, rfl, rfl⟩, ⟨_, rfl, rfl, rfl⟩⟩
end Go.Proofs.YtbcdfamilcmjnaaGreat

namespace Go.AM
open Go
structure Has03 (prog:Prog):Prop where
 f42:prog.fn 42=some pf42
 f46:prog.fn 46=some pf46
 f36:prog.fn 36=some pf36
 f43:prog.fn 43=some pf43
 f47:prog.fn 47=some pf47
 f11:prog.fn 11=some pf11
 f15:prog.fn 15=some pf15
 f21:prog.fn 21=some pf21
 f25:prog.fn 25=some pf25
 f30:prog.fn 30=some pf30
 f34:prog.fn 34=some pf34
 f37:prog.fn 37=some pf37
 f39:prog.fn 39=some pf39
 f45:prog.fn 45=some pf45
 f16:prog.fn 16=some pf16
 f22:prog.fn 22=some pf22
 f26:prog.fn 26=some pf26
 f29:prog.fn 29=some pf29
 f31:prog.fn 31=some pf31
 f35:prog.fn 35=some pf35
 f38:prog.fn 38=some pf38
 f40:prog.fn 40=some pf40
 f41:prog.fn 41=some pf41
 f44:prog.fn 44=some pf44
 f48:prog.fn 48=none
 o48 :∀(s:Bytes) (c:UInt8),prog.orac 48 [.s s,.i .u8 (c.toNat:Int)]=some (.i .i64 (Lib.indexByte s c))
section
variable {prog:Prog} (H:Has03 prog)
include H
theorem c41 (c:UInt8):Pus prog 41 [.i .u8 (c.toNat:Int)] (.s (chr c)):=by
 have hc:=c.toNat_lt
 have hq:(c.toNat:Int).tdiv 16=((c.toNat / 16:Nat):Int):=by rw [Int.tdiv_eq_ediv_of_nonneg (by omega)];omega
 have hr:(c.toNat:Int).tmod 16=((c.toNat % 16:Nat):Int):=by rw [Int.tmod_eq_emod_of_nonneg (by omega)];omega
 have w1:IntKind.u8.wrap ((c.toNat / 16:Nat):Int)=((c.toNat / 16:Nat):Int):=wr_u8 (by omega) (by omega)
 have w2:IntKind.u8.wrap (((c.toNat / 16:Nat):Int)+1)=((c.toNat / 16+1:Nat):Int):=by rw [wr_u8 (by omega) (by omega)];omega
 have w3:IntKind.u8.wrap (((c.toNat % 16:Nat):Int)+1)=((c.toNat % 16+1:Nat):Int):=by rw [wr_u8 (by omega) (by omega)];omega
 have t1:=hexd_take (n:=c.toNat / 16) (by omega) rfl
 have t2:=hexd_take (n:=c.toNat % 16) (by omega) rfl
 obtain ⟨x,rfl,h⟩:=p41 H.f41 (c0:=(c.toNat:Int)) (K:=fun x=>x=chr c) (by
  unfold T41_0
  simp only [hq,hr,w1,w2,w3,toNat_cast,t1,t2,List.length_cons,List.length_nil,maxStr_eq,List.length_append]
  refine ⟨fun h=>⟨c,rfl,?_⟩,fun h=>⟨fun h2=>⟨c,rfl,?_⟩,fun h2=>⟨fun h3=>?_,fun h3=>⟨fun h4=>⟨fun h5=>⟨c,rfl,?_⟩,fun h5=>?_⟩,fun h4=>?_⟩⟩⟩⟩
  ·unfold chr;rw [if_pos (by omega)]
  ·unfold chr;rw [if_pos (by omega)]
  ·unfold chr;rw [if_neg (by omega),if_pos (by omega)]
  ·unfold chr;rw [if_neg (by omega),if_neg (by omega),if_neg (by omega)]
  ·refine ⟨by omega,by omega,by omega,by omega,by omega,by omega,by omega,by omega,?_⟩
   unfold chr;rw [if_neg (by omega),if_neg (by omega),if_pos (by omega)]
   rfl
  ·refine ⟨by omega,by omega,by omega,by omega,by omega,by omega,by omega,by omega,?_⟩
   unfold chr;rw [if_neg (by omega),if_neg (by omega),if_pos (by omega)]
   rfl)
 exact h
theorem c31 {s:Bytes} (hs:s.length≤10000000):Pus prog 31 [.s s] (.s (quo s)):=by
 obtain ⟨x,rfl,h⟩:=p31 H.f31 (s0:=s) (K:=fun x=>x=quo s) (by
  unfold T31_0
  intro P hP
  refine loop_up (fun i=>34::chrs (s.take i)) s.length ?_ ?_
  ·apply hP
   unfold T31_1 T31_2
   refine ⟨fun h=>absurd h (by omega),fun _=>⟨?_,?_⟩⟩
   ·have:=chrs_len (s.take s.length)
    simp only [List.take_length] at this ⊢
    simp only [List.length_cons,List.length_nil,maxStr_eq]
    omega
   ·simp only [List.take_length,quo]
    rfl
  ·intro i hi ih
   apply hP
   unfold T31_1
   refine ⟨fun _=>⟨by omega,s[i],by rw [toNat_cast,List.getElem?_eq_getElem hi],chr s[i],c41 H _,?_,?_⟩,fun h=>absurd (show (i:Int)<s.length by omega) h⟩
   ·have h1:=chrs_len (s.take i)
    have h2:=chr_len s[i]
    simp only [List.length_cons,List.length_take,maxStr_eq] at h1 ⊢
    omega
   ·rw [wr_succ (by omega)]
    rw [chrs_take hi] at ih
    exact ih)
 exact h
theorem c30 {s b:Bytes} (hs:s.length≤10000000) (hb:b.length≤1000000000):PuA prog 30 (b.map row8) [.s s] ((b++quo s).map row8):=by
 refine PuAK.to ?_
 have hp:=p30 H.f30 (b0:=b) (s1:=s) (K:=fun x=>x=b++quo s) (by
  unfold T30_0 T30_1
  refine ⟨⟨by simp only [List.length_cons,List.length_nil,maxBytes_eq];omega,by simp only [List.length_cons,List.length_nil,maxBytes_eq];omega⟩,fun P hP=>?_⟩
  refine loop_up (fun i=>b++34::chrs (s.take i)) s.length ?_ ?_
  ·apply hP
   unfold T30_2 T30_4
   have h1:=chrs_len (s.take s.length)
   simp only [List.take_length] at h1 ⊢
   refine ⟨fun h=>absurd h (by omega),fun _=>⟨⟨?_,?_⟩,?_⟩⟩
   ·simp only [List.length_append,List.length_cons,List.length_nil,maxBytes_eq];omega
   ·simp only [List.length_append,List.length_cons,List.length_nil,maxBytes_eq];omega
   ·simp only [quo,List.append_assoc,List.cons_append]
  ·intro i hi ih
   apply hP
   have h1:=chrs_len (s.take i)
   have hc:=s[i].toNat_lt
   rw [chrs_take hi] at ih
   rw [← List.cons_append,← List.append_assoc] at ih
   generalize hx:s[i]=c at ih hc
   have w1:bShr .u8 (c.toNat:Int) 4=((c.toNat / 16:Nat):Int):=by
    show (c.toNat:Int).fdiv 16=_
    rw [Int.fdiv_eq_ediv_of_nonneg _ (by omega)];omega
   have w2:bAnd .u8 (c.toNat:Int) 15=((c.toNat % 16:Nat):Int):=by
    unfold bAnd
    have hx:(BitVec.ofInt IntKind.u8.bits (c.toNat:Int) &&& BitVec.ofInt IntKind.u8.bits 15).toNat=c.toNat % 16:=by
     show (BitVec.ofInt 8 (c.toNat:Int) &&& BitVec.ofInt 8 15).toNat=c.toNat % 16
     rw [BitVec.toNat_and]
     have h1:(BitVec.ofInt 8 (c.toNat:Int)).toNat=c.toNat:=by
      simp
     rw [h1]
     exact Nat.and_two_pow_sub_one_eq_mod c.toNat 4
    rw [hx]
    exact wr_u8 (by omega) (by omega)
   have fit :∀x:Bytes,x.length≤4→Fit ((b++34::chrs (s.take i)).length+x.length) 1:=by
    intro x hx
    simp only [List.length_take] at h1
    refine ⟨?_,?_⟩<;>(simp only [List.length_append,List.length_cons,maxBytes_eq];omega)
   unfold T30_2 T30_3
   rw [wr_succ (by omega)]
   refine ⟨fun _=>⟨by omega,c,by rw [toNat_cast,List.getElem?_eq_getElem hi,hx],?_⟩,fun h=>absurd (show (i:Int)<s.length by omega) h⟩
   simp only [w1,w2,toNat_cast,hexd_get (show c.toNat / 16<16 by omega),hexd_get (show c.toNat % 16<16 by omega),Option.some.injEq,exists_eq_left']
   unfold chr at ih
   refine ⟨fun h2=>⟨fit _ (by simp),?_⟩,fun h2=>⟨fun h3=>⟨fit _ (by simp),?_⟩,fun h3=>⟨fun h4=>⟨fit _ (by simp),?_⟩,fun h4=>⟨fun h5=>⟨by omega,by omega,fit _ (by simp),?_⟩,fun h5=>⟨fun h6=>⟨by omega,by omega,fit _ (by simp),?_⟩,fun h6=>⟨fit _ (by simp),?_⟩⟩⟩⟩⟩⟩
   ·rwa [if_pos (by omega)] at ih
   ·rwa [if_pos (by omega)] at ih
   ·rwa [if_neg (by omega),if_pos (by omega)] at ih
   ·rwa [if_neg (by omega),if_neg (by omega),if_pos (by omega)] at ih
   ·rwa [if_neg (by omega),if_neg (by omega),if_pos (by omega)] at ih
   ·rwa [if_neg (by omega),if_neg (by omega),if_neg (by omega)] at ih)
 intro d st o ha
 obtain ⟨o',st',rows',⟨x,rfl,rfl⟩,h1,h2⟩:=hp d st o ha
 exact ⟨o',st',_,rfl,h1,h2⟩
theorem c11 (s:Bytes):Pus prog 11 [.s s] (.tup [.s (quoR s).1,.i .i64 (quoR s).2]):=by
 obtain ⟨x,y,⟨rfl,rfl⟩,h⟩:=p11 H.f11 (s0:=s) (K:=fun x y=>x=(quoR s).1∧y=(quoR s).2) (by
  unfold T11_0 quoR
  refine ⟨fun h=>?_,fun h=>⟨_,c30 H (b:=[]) (s:=s) (by omega) (by simp),?_⟩⟩
  ·rw [if_pos (by omega)];exact ⟨rfl,rfl⟩
  ·rw [if_neg (by omega)];exact ⟨rfl,rfl⟩)
 exact h
theorem c34 {n b:Nat} (hb:2≤b) (hb':b≤16) (hn:n<18446744073709551616):Pus prog 34 [.i .u64 (n:Int),.i .u64 (b:Int)] (.s (digs b n)):=by
 obtain ⟨x,rfl,h⟩:=p34 H.f34 (n0:=(n:Int)) (base1:=(b:Int)) (K:=fun x=>x=digs b n) (by
  unfold T34_0
  intro P hP
  have key :∀f n',n'<b ^ f→0<f→n'<18446744073709551616→∀a:Nat,f≤a→a≤64→∀m:Bytes,m.length=64→(ds b f n'++m.drop a=digs b n)→P (n':Int) (a:Int) m:=by
   intro f
   induction f with
   | zero=>intro _ _ h;exact absurd h (Nat.lt_irrefl _)
   | succ f ih=>
    intro n' hf _ hn' a ha ha' m hm hd
    apply hP
    have e1:(n':Int).tmod (b:Int)=((n' % b:Nat):Int):=by rw [Int.tmod_eq_emod_of_nonneg (by omega)];omega
    have e2:(n':Int).tdiv (b:Int)=((n' / b:Nat):Int):=by rw [Int.tdiv_eq_ediv_of_nonneg (by omega)];omega
    have e3:IntKind.i64.wrap ((a:Int)-1)=((a-1:Nat):Int):=by rw [wr_i64 (by omega) (by omega)];omega
    have hq:n' / b≤n':=Nat.div_le_self _ _
    have hr:n' % b<b:=Nat.mod_lt _ (by omega)
    have e4:IntKind.u64.wrap ((n' / b:Nat):Int)=((n' / b:Nat):Int):=wr_u64_nat (by omega)
    have hset :∀c:UInt8,(m.set (a-1) c).drop (a-1)=c::m.drop a:=by
     intro c
     rw [List.drop_eq_getElem_cons (by simp;omega),List.getElem_set_self,List.drop_set_of_lt (by omega),show a-1+1=a by omega]
    unfold T34_1
    simp only [e1,e2,e3,e4,toNat_cast,hset]
    refine ⟨by omega,by omega,hexd (n' % b),hexd_get (by omega),by omega,by omega,by omega,by omega,fun h=>⟨by simp [hm],by omega,by omega,?_⟩,fun h=>?_⟩
    ·rw [← hd]
     unfold ds
     have hz:n' / b=0:=by omega
     have hlt:n'<b:=by
      rcases Nat.lt_or_ge n' b with h | h
      ·exact h
      ·have:=Nat.div_pos h (by omega);omega
     rw [if_pos hlt,Nat.mod_eq_of_lt hlt]
     rfl
    ·have hz:n' / b≠0:=by omega
     have hlt:¬ n'<b:=fun h=>hz (Nat.div_eq_of_lt h)
     have h1:n' / b<b ^ f:=by
      rw [Nat.div_lt_iff_lt_mul (by omega)]
      rw [Nat.pow_succ] at hf
      exact hf
     have h2:0<f:=by
      rcases Nat.eq_zero_or_pos f with rfl | h
      ·simp at h1;omega
      ·exact h
     refine ih (n' / b) h1 h2 (by omega) (a-1) (by omega) (by omega) _ (by simp [hm]) ?_
     rw [hset,← hd]
     conv=>rhs;unfold ds
     rw [if_neg hlt,List.append_assoc]
     rfl
  refine key 64 n ?_ (by omega) hn 64 (by omega) (by omega) _ (by simp) ?_
  ·calc n<2 ^ 64:=hn
    _≤b ^ 64:=Nat.pow_le_pow_left hb 64
  ·simp [digs])
 exact h
theorem c35 {n b:Nat} (hb:2≤b) (hb':b≤16) (hn:n<18446744073709551616):Pus prog 35 [.i .u64 (n:Int),.i .u64 (b:Int)] (.s (digs b n)):=by
 obtain ⟨x,rfl,h⟩:=p35 H.f35 (n0:=(n:Int)) (base1:=(b:Int)) (K:=fun x=>x=digs b n) (by
  unfold T35_0
  intro P hP
  have key :∀f n',n'<b ^ f→0<f→n'<18446744073709551616→f≤64→∀s:Bytes,s.length+f≤64→(ds b f n'++s=digs b n)→P (n':Int) s:=by
   intro f
   induction f with
   | zero=>intro _ _ h;exact absurd h (Nat.lt_irrefl _)
   | succ f ih=>
    intro n' hf _ hn' hf64 s hs hd
    apply hP
    have e1:(n':Int).tmod (b:Int)=((n' % b:Nat):Int):=by rw [Int.tmod_eq_emod_of_nonneg (by omega)];omega
    have e2:(n':Int).tdiv (b:Int)=((n' / b:Nat):Int):=by rw [Int.tdiv_eq_ediv_of_nonneg (by omega)];omega
    have hq:n' / b≤n':=Nat.div_le_self _ _
    have hr:n' % b<b:=Nat.mod_lt _ (by omega)
    have e4:IntKind.u64.wrap ((n' / b:Nat):Int)=((n' / b:Nat):Int):=wr_u64_nat (by omega)
    have e5:IntKind.u64.wrap (((n' % b:Nat):Int)+1)=((n' % b+1:Nat):Int):=by rw [wr_u64 (by omega) (by omega)];omega
    unfold T35_1
    refine ⟨fun h=>?_,fun h=>?_⟩
    ·simp only [e1,e2,e4,e5,toNat_cast,hexd_take (show n' % b<16 by omega) rfl,DIG_len]
     have hlt:¬ n'<b:=by omega
     refine ⟨by omega,by omega,by omega,by omega,by omega,?_,by omega,?_⟩
     ·simp only [List.length_cons,List.length_nil,maxStr_eq];omega
     have hz:n' / b≠0:=by
      have:=Nat.div_pos (show b≤n' by omega) (by omega);omega
     have h1:n' / b<b ^ f:=by
      rw [Nat.div_lt_iff_lt_mul (by omega)]
      rw [Nat.pow_succ] at hf
      exact hf
     have h2:0<f:=by
      rcases Nat.eq_zero_or_pos f with rfl | h
      ·simp at h1;omega
      ·exact h
     refine ih (n' / b) h1 h2 (by omega) (by omega) _ ?_ ?_
     ·simp only [List.length_append,List.length_cons,List.length_nil];omega
     ·rw [← hd]
      conv=>rhs;unfold ds
      rw [if_neg hlt,List.append_assoc]
    ·have hlt:n'<b:=by omega
     have e6:IntKind.u64.wrap ((n':Int)+1)=((n'+1:Nat):Int):=by rw [wr_u64 (by omega) (by omega)];omega
     unfold T35_2
     simp only [e6,toNat_cast,hexd_take (show n'<16 by omega) rfl,DIG_len]
     refine ⟨by omega,by omega,by omega,?_,?_⟩
     ·simp only [List.length_cons,List.length_nil,maxStr_eq];omega
     ·rw [← hd]
      unfold ds
      rw [if_pos hlt]
  refine key 64 n ?_ (by omega) hn (by omega) _ (by simp) ?_
  ·calc n<2 ^ 64:=hn
    _≤b ^ 64:=Nat.pow_le_pow_left hb 64
  ·simp [digs])
 exact h
theorem c15 {n:Int} (h1:-9223372036854775808≤n) (h2:n<9223372036854775808):Pus prog 15 [.i .i64 n] (.s (num n)):=by
 obtain ⟨x,rfl,h⟩:=p15 H.f15 (n0:=n) (K:=fun x=>x=num n) (by
  unfold T15_0
  refine ⟨fun h=>?_,fun h=>?_⟩
  ·have e:IntKind.u64.wrap (0-(IntKind.u64.wrap n))=(((-n).toNat:Nat):Int):=by rw [IntKind.wrap_u64,IntKind.wrap_u64];omega
   rw [e]
   refine ⟨_,c34 H (b:=10) (by omega) (by omega) (by omega),?_,?_⟩
   ·have:=ds_len 10 64 (-n).toNat
    simp only [digs,List.length_cons,List.length_nil,maxStr_eq];omega
   ·unfold num;rw [if_pos h];rfl
  ·have e:IntKind.u64.wrap n=((n.toNat:Nat):Int):=by rw [IntKind.wrap_u64];omega
   rw [e]
   refine ⟨_,c34 H (b:=10) (by omega) (by omega) (by omega),?_⟩
   unfold num;rw [if_neg h])
 exact h
theorem c16 {n:Int} (h1:-9223372036854775808≤n) (h2:n<9223372036854775808):Pus prog 16 [.i .i64 n] (.s (num n)):=by
 obtain ⟨x,rfl,h⟩:=p16 H.f16 (n0:=n) (K:=fun x=>x=num n) (by
  unfold T16_0
  refine ⟨fun h=>?_,fun h=>?_⟩
  ·have e:IntKind.u64.wrap n=((n.toNat:Nat):Int):=by rw [IntKind.wrap_u64];omega
   rw [e]
   refine ⟨_,c35 H (b:=10) (by omega) (by omega) (by omega),?_⟩
   unfold num;rw [if_neg (by omega)]
  ·have e:IntKind.u64.wrap ((IntKind.u64.wrap (IntKind.i64.wrap (0-(IntKind.i64.wrap (n+1)))))+1)=(((-n).toNat:Nat):Int):=by
    rw [wr_i64 (z:=n+1) (by omega) (by omega),wr_i64 (by omega) (by omega),wr_u64 (z:=0-(n+1)) (by omega) (by omega),wr_u64 (by omega) (by omega)];omega
   rw [e]
   refine ⟨_,c35 H (b:=10) (by omega) (by omega) (by omega),?_,?_⟩
   ·have:=ds_len 10 64 (-n).toNat
    simp only [digs,List.length_cons,List.length_nil,maxStr_eq];omega
   ·unfold num;rw [if_pos (by omega)];rfl)
 exact h
end
end Go.AM

namespace Go.AM
open Go
def cutp (p s:Bytes):Bytes × Bool:=if s.take p.length=p then (s.drop p.length,true) else (s,false)
theorem idx_first (c:UInt8) :∀(l:Bytes) (i:Nat),(∀j,j<i→l[j]?≠some c)→(l[i]?=some c→Lib.indexByte l c=i)∧(l.length≤i→Lib.indexByte l c = -1)
 | [],i,_=>⟨fun h=>(by simp at h),fun _=>rfl⟩
 | x::l,i,h=>by
  unfold Lib.indexByte
  cases i with
  | zero=>
   refine ⟨fun h1=>?_,fun h1=>absurd h1 (by simp)⟩
   simp at h1
   rw [if_pos (by simp [h1])]
   rfl
  | succ i=>
   have hx:x≠c:=by have:=h 0 (by omega);simpa using this
   have ih:=idx_first c l i fun j hj=>by have:=h (j+1) (by omega);simpa using this
   rw [if_neg (by simpa using hx)]
   refine ⟨fun h1=>?_,fun h1=>?_⟩
   ·have h2:=ih.1 (by simpa using h1)
    rw [h2]
    rw [if_neg (by simp)]
    rfl
   ·have h2:=ih.2 (by simpa using h1)
    rw [h2]
    rfl
def EscK (s:Bytes) (c:Int) (r:Bytes) (ok:Bool):Prop:=match esc s with | some (x,y)=>c=(x.toNat:Int)∧r=y∧ok=true | none=>ok=false
theorem EscK.yes {s:Bytes} {x:UInt8} {y:Bytes} {c:Int} (h:esc s=some (x,y)) (hc:c=(x.toNat:Int)):EscK s c y true:=by
 unfold EscK;rw [h];exact ⟨hc,rfl,rfl⟩
theorem EscK.no {s:Bytes} {c:Int} {y:Bytes} (h:esc s=none):EscK s c y false:=by
 unfold EscK;rw [h]
section
variable {prog:Prog} (H:Has03 prog)
include H
theorem c46 (s p:Bytes):Pus prog 46 [.s s,.s p] (.b (decide (s.take p.length=p))):=by
 obtain ⟨x,rfl,h⟩:=p46 H.f46 (s0:=s) (prefix1:=p) (K:=fun x=>x=decide (s.take p.length=p)) (by
  unfold T46_0
  refine ⟨fun h=>⟨by omega,by omega,rfl⟩,fun h=>?_⟩
  refine (decide_eq_false fun h1=>?_).symm
  have:=congrArg List.length h1
  simp only [List.length_take] at this
  omega)
 exact h
theorem c42 (s p:Bytes):Pus prog 42 [.s s,.s p] (.tup [.s (cutp p s).1,.b (cutp p s).2]):=by
 obtain ⟨x,y,⟨rfl,rfl⟩,h⟩:=p42 H.f42 (s0:=s) (prefix1:=p) (K:=fun x y=>x=(cutp p s).1∧y=(cutp p s).2) (by
  unfold T42_0 cutp
  refine ⟨_,c46 H s p,fun h=>?_,fun h=>?_⟩
  ·have h1:¬ s.take p.length=p:=by simpa using h
   rw [if_neg h1];exact ⟨rfl,rfl⟩
  ·have h1:s.take p.length=p:=by simpa using h
   have h2:=congrArg List.length h1
   simp only [List.length_take] at h2
   rw [if_pos h1];exact ⟨by omega,by omega,rfl,rfl⟩)
 exact h
theorem c36 (s p:Bytes):Pus prog 36 [.s s,.s p] (.tup [.s (cutp p s).1,.b (cutp p s).2]):=by
 obtain ⟨x,y,⟨rfl,rfl⟩,h⟩:=p36 H.f36 (s0:=s) (prefix1:=p) (K:=fun x y=>x=(cutp p s).1∧y=(cutp p s).2) (by
  unfold T36_0
  exact ⟨_,_,c42 H s p,rfl,rfl⟩)
 exact h
theorem c47 (s:Bytes) (c:UInt8):Pus prog 47 [.s s,.i .u8 (c.toNat:Int)] (.i .i64 (Lib.indexByte s c)):=by
 obtain ⟨x,rfl,h⟩:=p47 H.f47 (s0:=s) (c1:=(c.toNat:Int)) (K:=fun x=>x=Lib.indexByte s c) (by
  unfold T47_0
  exact ⟨_,Pus.orac H.f48 (H.o48 s c) rfl,rfl⟩)
 exact h
theorem c43 (s:Bytes) (c:UInt8):Pus prog 43 [.s s,.i .u8 (c.toNat:Int)] (.i .i64 (Lib.indexByte s c)):=by
 obtain ⟨x,rfl,h⟩:=p43 H.f43 (s0:=s) (c1:=(c.toNat:Int)) (K:=fun x=>x=Lib.indexByte s c) (by
  unfold T43_0
  exact ⟨_,c47 H s c,rfl⟩)
 exact h
theorem c44 {b:Nat} (hb:b≤16) (c:UInt8):Pus prog 44 [.i .u8 (c.toNat:Int),.i .i64 (b:Int)] (.i .i64 (dv b c)):=by
 obtain ⟨x,rfl,h⟩:=p44 H.f44 (c0:=(c.toNat:Int)) (base1:=(b:Int)) (K:=fun x=>x=dv b c) (by
  unfold T44_0
  intro P hP
  have key :∀m i:Nat,i+m=b→(∀j,j<i→(DIG.take b)[j]?≠some c)→P (i:Int):=by
   intro m
   induction m with
   | zero=>
    intro i hi hj
    apply hP
    unfold T44_1 T44_2
    refine ⟨fun h=>absurd h (by omega),fun _=>?_⟩
    exact ((idx_first c _ i hj).2 (by simp;omega)).symm
   | succ m ih=>
    intro i hi hj
    apply hP
    unfold T44_1
    refine ⟨fun _=>⟨by omega,hexd i,by rw [toNat_cast,hexd_get (by omega)],fun h=>?_,fun h=>?_⟩,fun h=>absurd h (by omega)⟩
    ·have hc:hexd i=c:=u8_eq (by omega)
     refine ((idx_first c _ i hj).1 ?_).symm
     rw [List.getElem?_take_of_lt (by omega),hexd_get (by omega),hc]
    ·rw [wr_succ (by omega)]
     refine ih (i+1) (by omega) fun j hj'=>?_
     rcases Nat.lt_or_ge j i with h1 | h1
     ·exact hj j h1
     ·have:j=i:=by omega
      subst this
      rw [List.getElem?_take_of_lt (by omega),hexd_get (by omega)]
      intro h2
      injection h2 with h2
      exact h (by rw [h2])
  exact key b 0 (by omega) (by simp))
 exact h
theorem c37 {b most:Nat} (hb:2≤b) (hb':b≤16) (hm:16≤most) (hm':most<18446744073709551616) {s:Bytes} (hs:s.length≤10000000):Pus prog 37 [.s s,.i .u64 (b:Int),.i .u64 (most:Int)] (.tup [.i .u64 ((rd b most s).1:Int),.i .i64 (rd b most s).2]):=by
 obtain ⟨x,y,⟨rfl,rfl⟩,h⟩:=p37 H.f37 (s0:=s) (base1:=(b:Int)) (most2:=(most:Int)) (K:=fun x y=>x=((rd b most s).1:Int)∧y=(rd b most s).2) (by
  unfold T37_0 T37_1 T37_2
  intro P hP
  have key :∀m i:Nat,i+m=s.length→okd b (s.take i)=true→(2≤i→s.head?≠some 48)→∀(n:Nat) (far:Bool),(far=false→n=vals b (s.take i)∧n≤most)→(far=true→most<vals b (s.take i))→P (n:Int) far (i:Int):=by
   intro m
   induction m with
   | zero=>
    intro i hi ho h48 n far h0 h1
    simp only [Nat.add_zero] at hi
    subst hi
    rw [List.take_length] at ho h0 h1
    apply hP
    unfold T37_3 T37_5
    refine ⟨fun h=>absurd h (by omega),fun _=>⟨fun h=>?_,fun h=>?_⟩⟩
    ·subst h;exact ⟨rfl,rfl⟩
    ·have hbad:badn b s=false:=by
      unfold badn
      rw [decide_eq_false h,ho]
      simp only [Bool.false_or,Bool.not_true]
      by_cases h2:1<s.length
      ·rw [decide_eq_false (h48 h2),Bool.and_false]
      ·rw [decide_eq_false h2,Bool.false_and]
     refine ⟨fun hf=>?_,fun hf=>?_⟩
     ·unfold rd
      rw [if_neg (by rw [hbad];decide),if_pos (h1 hf)]
      exact ⟨rfl,rfl⟩
     ·obtain ⟨h2,h3⟩:=h0 hf
      unfold rd
      rw [if_neg (by rw [hbad];decide),if_neg (by omega),h2]
      exact ⟨rfl,rfl⟩
   | succ m ih=>
    intro i hi ho h48 n far h0 h1
    have hil:i<s.length:=by omega
    have hd:=dv_lt hb' s[i]
    have hv:=vals_take (b:=b) hil
    have hk:=okd_take (b:=b) hil
    have bad12:badn b s=true→(0:Int)=((rd b most s).1:Int)∧(12:Int)=(rd b most s).2:=by
     intro h
     unfold rd
     rw [if_pos h]
     exact ⟨rfl,rfl⟩
    apply hP
    unfold T37_3 T37_4
    refine ⟨fun _=>⟨by omega,by rw [toNat_cast];exact hb',by omega,s[i],by rw [toNat_cast,List.getElem?_eq_getElem hil],dv b s[i],c43 H _ _,fun h=>?_,fun h=>?_⟩,fun h=>absurd h (by omega)⟩
    ·refine bad12 ?_
     unfold badn
     rw [okd_of hil h]
     simp
    ·have hd0:0≤dv b s[i]:=by omega
     rw [ho,decide_eq_true hd0,Bool.and_true] at hk
     generalize hdd:(dv b s[i]).toNat=d at hv
     have hdi:dv b s[i]=(d:Int):=by omega
     have e1:IntKind.u64.wrap (dv b s[i])=(d:Int):=by rw [hdi];exact wr_u64_nat (by omega)
     have e2:IntKind.u64.wrap ((most:Int)-(d:Int))=((most-d:Nat):Int):=by rw [wr_u64 (by omega) (by omega)];omega
     have e3:(((most-d:Nat):Int)).tdiv (b:Int)=(((most-d) / b:Nat):Int):=by rw [Int.tdiv_eq_ediv_of_nonneg (by omega)];omega
     have hq:(most-d) / b≤most-d:=Nat.div_le_self _ _
     have e4:IntKind.u64.wrap (((most-d) / b:Nat):Int)=(((most-d) / b:Nat):Int):=wr_u64_nat (by omega)
     have hfi:=far_iff (n:=n) (show 0<b by omega) (show d≤most by omega)
     rw [wr_succ (by omega)]
     simp only [e1,e2,e3,e4]
     have go:(2≤i+1→s.head?≠some 48)→(far=true→P (n:Int) true ((i+1:Nat):Int))∧(far=false→(b:Int)≠0∧(¬((n:Int)>(((most-d) / b:Nat):Int))→P (IntKind.u64.wrap ((IntKind.u64.wrap ((n:Int)*(b:Int)))+(d:Int))) (decide ((n:Int)>(((most-d) / b:Nat):Int))) ((i+1:Nat):Int))∧(¬(¬((n:Int)>(((most-d) / b:Nat):Int)))→P (n:Int) (decide ((n:Int)>(((most-d) / b:Nat):Int))) ((i+1:Nat):Int))):=by
      intro h2
      refine ⟨fun hf=>?_,fun hf=>⟨by omega,fun h3=>?_,fun h3=>?_⟩⟩
      ·refine ih (i+1) (by omega) hk h2 n true (fun h=>by cases h) fun _=>?_
       rw [hv]
       have h4:=h1 hf
       have:vals b (s.take i)≤vals b (s.take i)*b:=Nat.le_mul_of_pos_right _ (by omega)
       omega
      ·obtain ⟨h4,h5⟩:=h0 hf
       have h6:n*b+d≤most:=by
        have:¬ (most-d) / b<n:=by omega
        rw [hfi] at this
        omega
       have hnb:(n:Int)*(b:Int)=((n*b:Nat):Int):=by rw [Int.natCast_mul]
       have e5:IntKind.u64.wrap ((n:Int)*(b:Int))=((n*b:Nat):Int):=by rw [hnb];exact wr_u64_nat (by omega)
       have e6:IntKind.u64.wrap (((n*b:Nat):Int)+(d:Int))=((n*b+d:Nat):Int):=by rw [wr_u64 (by omega) (by omega)];omega
       rw [e5,e6,decide_eq_false h3]
       refine ih (i+1) (by omega) hk h2 _ false (fun _=>⟨?_,h6⟩) fun h=>by cases h
       rw [hv,h4]
      ·have h3':(n:Int)>(((most-d) / b:Nat):Int):=by omega
       obtain ⟨h4,h5⟩:=h0 hf
       rw [decide_eq_true h3']
       refine ih (i+1) (by omega) hk h2 n true (fun h=>by cases h) fun _=>?_
       rw [hv,← h4]
       exact hfi.1 (Int.ofNat_lt.1 h3')
     have hd0:s.head?=s[0]?:=List.head?_eq_getElem?
     refine ⟨fun hi1=>?_,fun hi1=>?_⟩
     ·have h0s:s[0]?=some s[0]:=List.getElem?_eq_getElem (by omega)
      refine ⟨s[0],h0s,fun h2=>?_,fun h2=>?_⟩
      ·refine bad12 ?_
       have h3:s[0]=48:=u8_eq (by have e:(48:UInt8).toNat=48:=rfl;omega)
       unfold badn
       rw [decide_eq_true (show 1<s.length by omega),decide_eq_true (show s.head?=some 48 by rw [hd0,h0s,h3])]
       simp
      ·refine go fun _=>?_
       rw [hd0,h0s]
       intro h3
       injection h3 with h3
       exact h2 (by rw [h3];rfl)
     ·refine go fun h2=>?_
      have h3:i≠1:=by omega
      have h4:i≠0:=by omega
      exact h48 (by omega)
  exact key s.length 0 (by omega) rfl (by omega) 0 false (fun _=>⟨rfl,by omega⟩) fun h=>by cases h)
 exact h
theorem c38 {b most:Nat} (hb:2≤b) (hb':b≤16) (hm:16≤most) (hm':most<18446744073709551616) {s:Bytes} (hs:s.length≤10000000):Pus prog 38 [.s s,.i .u64 (b:Int),.i .u64 (most:Int)] (.tup [.i .u64 ((rd b most s).1:Int),.i .i64 (rd b most s).2]):=by
 obtain ⟨x,y,⟨rfl,rfl⟩,h⟩:=p38 H.f38 (s0:=s) (base1:=(b:Int)) (most2:=(most:Int)) (K:=fun x y=>x=((rd b most s).1:Int)∧y=(rd b most s).2) (by
  have wb:IntKind.i64.wrap (b:Int)=(b:Int):=wr_i64 (by omega) (by omega)
  have bad12:badn b s=true→(0:Int)=((rd b most s).1:Int)∧(12:Int)=(rd b most s).2:=by
   intro h
   unfold rd
   rw [if_pos h]
   exact ⟨rfl,rfl⟩
  have hd0:s.head?=s[0]?:=List.head?_eq_getElem?
  have loop:s≠[]→(1<s.length→s.head?≠some 48)→∀P0:Int→Prop,(∀(i8:Int),T38_2 prog (fun x y=>x=((rd b most s).1:Int)∧y=(rd b most s).2) P0 s (b:Int) (most:Int) i8→P0 i8)→P0 0:=by
   intro hne h48 P hP
   have key :∀m i:Nat,i+m=s.length→okd b (s.take i)=true→P (i:Int):=by
    intro m
    induction m with
    | zero=>
     intro i hi ho
     simp only [Nat.add_zero] at hi
     subst hi
     rw [List.take_length] at ho
     have hbad:badn b s=false:=by
      unfold badn
      rw [decide_eq_false hne,ho]
      simp only [Bool.false_or,Bool.not_true]
      by_cases h2:1<s.length
      ·rw [decide_eq_false (h48 h2),Bool.and_false]
      ·rw [decide_eq_false h2,Bool.false_and]
     apply hP
     unfold T38_2 T38_3
     refine ⟨fun h=>absurd h (by omega),fun _ P1 hP1=>?_⟩
     have hall :∀(j:Nat) (hj:j<s.length),0≤dv b s[j]:=by
      intro j hj
      unfold okd at ho
      rw [List.all_eq_true] at ho
      simpa using ho s[j] (List.getElem_mem hj)
     have key2 :∀m i:Nat,i+m=s.length→vals b (s.take i)≤most→P1 (vals b (s.take i):Int) (i:Int):=by
      intro m
      induction m with
      | zero=>
       intro i hi hv
       simp only [Nat.add_zero] at hi
       subst hi
       apply hP1
       unfold T38_4 T38_5
       refine ⟨fun h=>absurd h (by omega),fun _=>?_⟩
       rw [List.take_length] at hv ⊢
       unfold rd
       rw [if_neg (by rw [hbad];decide),if_neg (by omega)]
       exact ⟨rfl,rfl⟩
      | succ m ih=>
       intro i hi hv
       have hil:i<s.length:=by omega
       have hd:=dv_lt hb' s[i]
       have hn0:=hall i hil
       have hvt:=vals_take (b:=b) hil
       generalize hdd:(dv b s[i]).toNat=d at hvt
       have hdi:dv b s[i]=(d:Int):=by omega
       have e1:IntKind.u64.wrap (dv b s[i])=(d:Int):=by rw [hdi];exact wr_u64_nat (by omega)
       have e2:IntKind.u64.wrap ((most:Int)-(d:Int))=((most-d:Nat):Int):=by rw [wr_u64 (by omega) (by omega)];omega
       have e3:(((most-d:Nat):Int)).tdiv (b:Int)=(((most-d) / b:Nat):Int):=by rw [Int.tdiv_eq_ediv_of_nonneg (by omega)];omega
       have hq:(most-d) / b≤most-d:=Nat.div_le_self _ _
       have e4:IntKind.u64.wrap (((most-d) / b:Nat):Int)=(((most-d) / b:Nat):Int):=wr_u64_nat (by omega)
       have hfi:=far_iff (n:=vals b (s.take i)) (show 0<b by omega) (show d≤most by omega)
       apply hP1
       unfold T38_4
       rw [wb,wr_succ (by omega)]
       refine ⟨fun _=>⟨by omega,s[i],by rw [toNat_cast,List.getElem?_eq_getElem hil],dv b s[i],c44 H hb' _,by omega,fun h=>?_,fun h=>?_⟩,fun h=>absurd h (by omega)⟩
       ·simp only [e1,e2,e3,e4] at h
        have h1:=hfi.1 (Int.ofNat_lt.1 h)
        have h2:most<vals b s:=by
         have mono :∀k,i+1+k≤s.length→most<vals b (s.take (i+1+k)):=by
          intro k
          induction k with
          | zero=>intro _;rw [Nat.add_zero,hvt];exact h1
          | succ k ihk=>
           intro hk
           have:=ihk (by omega)
           rw [show i+1+(k+1)=(i+1+k)+1 by omega,vals_take (by omega)]
           have h3:vals b (s.take (i+1+k))≤vals b (s.take (i+1+k))*b:=Nat.le_mul_of_pos_right _ (by omega)
           omega
         have:=mono (s.length-(i+1)) (by omega)
         rwa [show i+1+(s.length-(i+1))=s.length by omega,List.take_length] at this
        unfold rd
        rw [if_neg (by rw [hbad];decide),if_pos h2]
        exact ⟨rfl,rfl⟩
       ·simp only [e1,e2,e3,e4] at h
        have h1:¬ (most-d) / b<vals b (s.take i):=fun h2=>h (Int.ofNat_lt.2 h2)
        rw [hfi] at h1
        generalize hnn:vals b (s.take i)=n at *
        have hnb:(n:Int)*(b:Int)=((n*b:Nat):Int):=by rw [Int.natCast_mul]
        have e5:IntKind.u64.wrap ((n:Int)*(b:Int))=((n*b:Nat):Int):=by rw [hnb];exact wr_u64_nat (by omega)
        have e6:IntKind.u64.wrap (((n*b:Nat):Int)+(d:Int))=((n*b+d:Nat):Int):=by rw [wr_u64 (by omega) (by omega)];omega
        rw [e1,e5,e6]
        have:=ih (i+1) (by omega) (by rw [hvt];omega)
        rwa [hvt] at this
     exact key2 s.length 0 (by omega) (Nat.zero_le _)
    | succ m ih=>
     intro i hi ho
     have hil:i<s.length:=by omega
     have hd:=dv_lt hb' s[i]
     have hk:=okd_take (b:=b) hil
     apply hP
     unfold T38_2
     rw [wb,wr_succ (by omega)]
     refine ⟨fun _=>⟨by omega,s[i],by rw [toNat_cast,List.getElem?_eq_getElem hil],dv b s[i],c44 H hb' _,fun h=>?_,fun h=>?_⟩,fun h=>absurd h (by omega)⟩
     ·refine bad12 ?_
      unfold badn
      rw [okd_of hil h]
      simp
     ·refine ih (i+1) (by omega) ?_
      rw [hk,ho,decide_eq_true (by omega),Bool.and_true]
   exact key s.length 0 (by omega) rfl
  unfold T38_0 T38_1
  refine ⟨fun h=>bad12 ?_,fun h=>?_⟩
  ·have:s=[]:=List.length_eq_zero_iff.1 (by omega)
   subst this
   rfl
  ·have hpos:0<s.length:=by omega
   have hne:s≠[]:=fun h=>by subst h;simp at hpos
   have h0s:s[0]?=some s[0]:=List.getElem?_eq_getElem hpos
   refine ⟨s[0],h0s,fun h2=>⟨fun h3=>bad12 ?_,fun h3=>loop hne fun h4=>absurd h4 (by omega)⟩,fun h2=>loop hne fun h4=>?_⟩
   ·have h4:s[0]=48:=u8_eq (by have e:(48:UInt8).toNat=48:=rfl;omega)
    unfold badn
    rw [decide_eq_true (show 1<s.length by omega),decide_eq_true (show s.head?=some 48 by rw [hd0,h0s,h4])]
    simp
   ·rw [hd0,h0s]
    intro h5
    injection h5 with h5
    exact h2 (by rw [h5];rfl))
 exact h
theorem c21 (s:Bytes):Pus prog 21 [.s s] (.tup [.i .i64 (unnum s).1,.i .i64 (unnum s).2]):=by
 obtain ⟨x,y,⟨rfl,rfl⟩,h⟩:=p21 H.f21 (s0:=s) (K:=fun x y=>x=(unnum s).1∧y=(unnum s).2) (by
  unfold T21_0 T21_1
  refine ⟨fun h=>by unfold unnum;rw [if_pos (by omega)];exact ⟨rfl,rfl⟩,fun hs=>⟨_,_,c36 H s [45],?_⟩⟩
  unfold unnum
  rw [if_neg (by omega)]
  by_cases hm:s.take 1=[45]
  ·have ec:cutp [45] s=(s.drop 1,true):=by unfold cutp;rw [if_pos (by exact hm)];rfl
   rw [ec,if_pos hm]
   refine ⟨fun h=>by simp at h,fun _=>?_⟩
   have hl:=rd_le 10 9223372036854775808 (s.drop 1)
   refine ⟨_,_,c37 H (b:=10) (most:=9223372036854775808) (by omega) (by omega) (by omega) (by omega) (s:=s.drop 1) (by simp;omega),fun h=>⟨fun h0=>?_,fun h0=>?_⟩,fun h=>?_⟩
   ·have e:(rd 10 9223372036854775808 (s.drop 1)).1=0:=by omega
    rw [if_pos ⟨h,e⟩,e]
    exact ⟨rfl,rfl⟩
   ·rw [if_neg (fun hh=>h0 (by rw [hh.2];rfl))]
    refine ⟨?_,rfl⟩
    rw [IntKind.wrap_u64,IntKind.wrap_i64]
    simp only
    omega
   ·have e:=rd_err h
    rw [if_neg (fun hh=>h hh.1),e]
    exact ⟨rfl,rfl⟩
  ·have ec:cutp [45] s=(s,false):=by unfold cutp;rw [if_neg (by exact hm)]
   rw [ec,if_neg hm]
   refine ⟨fun _=>?_,fun h=>by simp at h⟩
   have hl:=rd_le 10 9223372036854775807 s
   exact ⟨_,_,c37 H (b:=10) (most:=9223372036854775807) (by omega) (by omega) (by omega) (by omega) (s:=s) (by omega),wr_i64 (by omega) (by omega),rfl⟩)
 exact h
theorem c22 (s:Bytes):Pus prog 22 [.s s] (.tup [.i .i64 (unnum s).1,.i .i64 (unnum s).2]):=by
 obtain ⟨x,y,⟨rfl,rfl⟩,h⟩:=p22 H.f22 (s0:=s) (K:=fun x y=>x=(unnum s).1∧y=(unnum s).2) (by
  have plain:¬ 2000<s.length→¬ s.take 1=[45]→∃r'12:Int,∃r'13:Int,Pus prog 38 [.s s,.i .u64 10,.i .u64 9223372036854775807] (.tup [.i .u64 r'12,.i .i64 r'13])∧(r'13≠0→0=(unnum s).1∧r'13=(unnum s).2)∧(¬(r'13≠0)→IntKind.i64.wrap r'12=(unnum s).1∧0=(unnum s).2):=by
   intro hs hm
   have hl:=rd_le 10 9223372036854775807 s
   refine ⟨_,_,c38 H (b:=10) (most:=9223372036854775807) (by omega) (by omega) (by omega) (by omega) (s:=s) (by omega),fun h=>?_,fun h=>?_⟩
   ·have e:=rd_err h
    unfold unnum
    rw [if_neg hs,if_neg hm,e]
    exact ⟨rfl,rfl⟩
   ·have e:(rd 10 9223372036854775807 s).2=0:=by omega
    unfold unnum
    rw [if_neg hs,if_neg hm,e]
    exact ⟨wr_i64 (by omega) (by omega),rfl⟩
  unfold T22_0
  refine ⟨fun h=>by unfold unnum;rw [if_pos (by omega)];exact ⟨rfl,rfl⟩,fun hs=>⟨fun hpos=>?_,fun hpos=>plain (by omega) fun h=>?_⟩⟩
  ·have h0:0<s.length:=by omega
   have ht:s.take 1=[s[0]]:=by
    match s,h0 with
    | c::r,_=>rfl
   refine ⟨s[0],List.getElem?_eq_getElem h0,fun hm=>?_,fun hm=>plain (by omega) fun h=>?_⟩
   ·have hm':s.take 1=[45]:=by rw [ht,u8_eq (show s[0].toNat=(45:UInt8).toNat by have e:(45:UInt8).toNat=45:=rfl;omega)]
    have hl:=rd_le 10 9223372036854775808 (s.drop 1)
    refine ⟨fun h=>?_,fun h=>⟨by omega,_,_,c38 H (b:=10) (most:=9223372036854775808) (by omega) (by omega) (by omega) (by omega) (s:=s.drop 1) (by simp;omega),fun h1=>?_,fun h1=>?_⟩⟩
    ·rw [h]
     decide
    ·have e:=rd_err h1
     unfold unnum
     rw [if_neg (by omega),if_pos hm',if_neg (fun hh=>h1 hh.1),e]
     exact ⟨rfl,rfl⟩
    ·have e:(rd 10 9223372036854775808 (s.drop 1)).2=0:=by omega
     have hn:(rd 10 9223372036854775808 (s.drop 1)).1≠0:=by
      intro h2
      have h3:=rd_zero (by omega) e h2
      have h4:=List.take_append_drop 1 s
      rw [hm',h3] at h4
      exact h h4.symm
     unfold unnum
     rw [if_neg (by omega),if_pos hm',if_neg (fun hh=>hn hh.2),e]
     refine ⟨?_,rfl⟩
     simp only
     rw [IntKind.wrap_i64,IntKind.wrap_i64,IntKind.wrap_i64,IntKind.wrap_u64]
     omega
   ·rw [ht] at h
    injection h with h
    exact hm (by rw [h];rfl)
  ·have:=congrArg List.length h
   simp only [List.length_take,List.length_cons,List.length_nil] at this
   omega)
 exact h
theorem c45 (s:Bytes) :∃c r ok,EscK s c r ok∧Pus prog 45 [.s s] (.tup [.i .u8 c,.s r,.b ok]):=by
 refine p45 H.f45 (s0:=s) (K:=EscK s) ?_
 unfold T45_0 T45_1
 refine ⟨fun h=>by subst h;exact EscK.no rfl,fun h=>?_⟩
 cases s with
 | nil=>exact absurd rfl h
 | cons c r=>
  have lit :∀{n:Nat} (_:n<256),(UInt8.ofNat n).toNat=n:=by intro n hn;simp;omega
  unfold T45_2
  refine ⟨c,rfl,?_⟩
  have t4:T45_4 prog (EscK (c::r)) (c::r) (c.toNat:Int) (decide (c.toNat=34∨c.toNat=92)):=by
   unfold T45_4
   refine ⟨fun h1=>⟨c,rfl,by simp,?_⟩,fun h1=>?_⟩
   ·have h1:=of_decide_eq_true h1
    exact EscK.yes (show (if c.toNat=34∨c.toNat=92 then some (c,r) else _)=some (c,r) from if_pos h1) rfl
   ·have h1:=of_decide_eq_false h1
    have e0:esc (c::r)=if c.toNat=110 then some (10,r) else if c.toNat=120 then esx r else none:=by
     show (if c.toNat=34∨c.toNat=92 then some (c,r) else if c.toNat=110 then some (10,r) else if c.toNat=120 then esx r else none)=_
     rw [if_neg h1]
    refine ⟨fun h2=>⟨by simp,?_⟩,fun h2=>⟨fun h3=>?_,fun h3=>?_⟩⟩
    ·exact EscK.yes (by rw [e0,if_pos (by omega)];rfl) rfl
    ·have e:esc (c::r)=esx r:=by rw [e0,if_neg (by omega),if_pos (by omega)]
     refine ⟨fun h4=>?_,fun h4=>?_⟩
     ·refine EscK.no ?_
      rw [e]
      match r,h4 with
      | [],_=>rfl
      | [a],_=>rfl
      | a::b::r',h4=>simp at h4;omega
     ·match r,h4,e with
      | [],h4,_=>exact absurd (by simp) h4
      | [a],h4,_=>exact absurd (by simp) h4
      | a::b::r',_,e=>
       have la:=dv_lt (b:=16) (by omega) a
       have lb:=dv_lt (b:=16) (by omega) b
       have ca:Pus prog 43 [.s DIG,.i .u8 (a.toNat:Int)] (.i .i64 (dv 16 a)):=c43 H DIG a
       have cb:Pus prog 43 [.s DIG,.i .u8 (b.toNat:Int)] (.i .i64 (dv 16 b)):=c43 H DIG b
       refine ⟨a,rfl,_,ca,b,rfl,_,cb,by simp,?_⟩
       simp only [esx] at e
       by_cases hv:0≤dv 16 a∧0≤dv 16 b
       ·have hw:IntKind.u8.wrap (IntKind.i64.wrap ((IntKind.i64.wrap (16*dv 16 a))+dv 16 b))=16*dv 16 a+dv 16 b:=by
         rw [wr_i64 (z:=16*dv 16 a) (by omega) (by omega),wr_i64 (by omega) (by omega),wr_u8 (by omega) (by omega)]
        have en:=lit (n:=(16*dv 16 a+dv 16 b).toNat) (by omega)
        rw [hw]
        refine ⟨fun _=>⟨fun _=>⟨fun h5=>⟨fun h6=>?_,fun h6=>?_⟩,fun h5=>?_⟩,fun h5=>absurd hv.2 h5⟩,fun h5=>absurd hv.1 h5⟩
        ·rw [if_pos ⟨hv.1,hv.2,by omega,by omega⟩] at e
         exact EscK.yes e (by rw [en];omega)
        ·by_cases h7:126<16*dv 16 a+dv 16 b
         ·rw [if_pos ⟨hv.1,hv.2,by omega,by omega⟩] at e
          rw [decide_eq_true h7]
          exact EscK.yes e (by rw [en];omega)
         ·rw [if_neg (by omega)] at e
          rw [decide_eq_false h7]
          exact EscK.no e
        ·rw [if_neg (by omega)] at e
         exact EscK.no e
       ·rw [if_neg (by omega)] at e
        exact ⟨fun h5=>⟨fun h6=>absurd ⟨h5,h6⟩ hv,fun _=>EscK.no e⟩,fun _=>EscK.no e⟩
    ·exact EscK.no (by rw [e0,if_neg (by omega),if_neg (by omega)])
  unfold T45_3
  refine ⟨fun h1=>?_,fun h1=>?_⟩
  ·rw [show decide ((c.toNat:Int)=34)=decide (c.toNat=34∨c.toNat=92) from decide_eq_decide.2 (by omega)]
   exact t4
  ·rw [show decide ((c.toNat:Int)=92)=decide (c.toNat=34∨c.toNat=92) from decide_eq_decide.2 (by omega)]
   exact t4
theorem c39 {s:Bytes} (hs:s.length≤10000000):Pus prog 39 [.s s] (.tup [.s (nxtR s).1,.s (nxtR s).2.1,.b (nxtR s).2.2]):=by
 obtain ⟨x,y,z,⟨rfl,rfl,rfl⟩,h⟩:=p39 H.f39 (s0:=s) (K:=fun x y z=>x=(nxtR s).1∧y=(nxtR s).2.1∧z=(nxtR s).2.2) (by
  have no:nxt s=none→([]:Bytes)=(nxtR s).1∧([]:Bytes)=(nxtR s).2.1∧false=(nxtR s).2.2:=by
   intro h
   unfold nxtR
   rw [h]
   exact ⟨rfl,rfl,rfl⟩
  unfold T39_0 T39_1
  refine ⟨_,_,c36 H s [34],?_⟩
  cases s with
  | nil=>
   rw [show cutp [34] []=([],false) from rfl]
   exact ⟨fun _=>no rfl,fun h=>by simp at h⟩
  | cons q s=>
   by_cases hq:q.toNat=34
   ·have hq':q=34:=u8_eq hq
    subst hq'
    have ec:cutp [34] (34::s)=(s,true):=by unfold cutp;rw [if_pos (show List.take ([34]:Bytes).length (34::s)=[34] from rfl)];rfl
    rw [ec]
    refine ⟨fun h=>by simp at h,fun _ P hP=>?_⟩
    have hn:nxt (34::s)=nxtB (s.length+1) [] s:=by
     simp only [nxt]
     rw [if_pos hq]
    have key :∀n b r,r.length<n→b.length+r.length≤10000000→nxtB n b r=nxt (34::s)→P r b:=by
     intro n
     induction n with
     | zero=>intro b r h;exact absurd h (Nat.not_lt_zero _)
     | succ n ih=>
      intro b r hr hb hx
      apply hP
      unfold T39_2
      cases r with
      | nil=>exact ⟨fun h=>absurd rfl h,fun _=>no (by rw [← hx];rfl)⟩
      | cons c r=>
       simp only [nxtB] at hx
       refine ⟨fun _=>⟨c,rfl,by simp,fun h1=>?_,fun h1=>⟨fun h2=>?_,fun h2=>⟨fun h3=>?_,fun h3=>⟨fun h4=>?_,fun h4=>?_⟩⟩⟩⟩,fun h=>absurd (by simp) h⟩
       ·rw [if_pos (by omega)] at hx
        unfold nxtR
        rw [← hx]
        exact ⟨rfl,rfl,rfl⟩
       ·refine no ?_
        rw [← hx,if_neg (by omega),show one (c::r)=none by simp only [one];rw [if_pos (by omega)]]
       ·refine no ?_
        rw [← hx,if_neg (by omega),show one (c::r)=none by simp only [one];rw [if_pos (by omega)]]
       ·rw [if_neg (by omega),show one (c::r)=esc r by simp only [one];rw [if_neg (by omega),if_pos (by omega)]] at hx
        obtain ⟨a,r',ok,hk,hp⟩:=c45 H r
        refine ⟨a,r',ok,hp,fun h5=>?_,fun h5=>?_⟩
        ·unfold EscK at hk
         cases he:esc r with
         | none=>rw [he] at hx;exact no hx.symm
         | some p=>
          rw [he] at hk
          obtain ⟨_,_,hk⟩:=hk
          rw [hk] at h5
          exact absurd h5 (by decide)
        ·unfold EscK at hk
         cases he:esc r with
         | none=>
          rw [he] at hk
          simp only at hk
          rw [hk] at h5
          exact absurd h5 (by decide)
         | some p=>
          obtain ⟨u,v⟩:=p
          rw [he] at hk hx
          obtain ⟨h6,h7,h8⟩:=hk
          simp only at hx h6 h7
          subst h6;subst h7
          have hl:r'.length<(c::r).length:=one_len (c:=u) (by simp only [one];rw [if_neg (by omega),if_pos (by omega)];exact he)
          simp only [List.length_cons] at hl hb hr
          unfold T39_3
          refine ⟨u,rfl,⟨?_,?_⟩,ih _ _ (by omega) ?_ hx⟩
          ·simp only [List.length_cons,List.length_nil,maxBytes_eq];omega
          ·simp only [List.length_cons,List.length_nil,maxBytes_eq];omega
          ·simp only [List.length_append,List.length_cons,List.length_nil];omega
       ·rw [if_neg (by omega),show one (c::r)=some (c,r) by simp only [one];rw [if_neg (by omega),if_neg (by omega)]] at hx
        simp only [List.length_cons] at hb hr
        unfold T39_3
        refine ⟨c,rfl,⟨?_,?_⟩,ih _ _ (show r.length<n by omega) ?_ hx⟩
        ·simp only [List.length_cons,List.length_nil,maxBytes_eq];omega
        ·simp only [List.length_cons,List.length_nil,maxBytes_eq];omega
        ·simp only [List.drop_succ_cons,List.drop_zero,List.length_append,List.length_cons,List.length_nil];omega
    exact key (s.length+1) [] s (by omega) (by simp at hs ⊢;omega) hn.symm
   ·have ec:cutp [34] (q::s)=(q::s,false):=by
     unfold cutp
     rw [if_neg ?_]
     intro h
     injection h with h
     exact hq (by rw [h];rfl)
    rw [ec]
    refine ⟨fun _=>no ?_,fun h=>by simp at h⟩
    simp only [nxt]
    rw [if_neg hq])
 exact h
theorem c40 {s:Bytes} (hs:s.length≤10000000):Pus prog 40 [.s s] (.tup [.s (nxtR s).1,.s (nxtR s).2.1,.b (nxtR s).2.2]):=by
 obtain ⟨x,y,z,⟨rfl,rfl,rfl⟩,h⟩:=p40 H.f40 (s0:=s) (K:=fun x y z=>x=(nxtR s).1∧y=(nxtR s).2.1∧z=(nxtR s).2.2) (by
  have no:nxt s=none→([]:Bytes)=(nxtR s).1∧([]:Bytes)=(nxtR s).2.1∧false=(nxtR s).2.2:=by
   intro h
   unfold nxtR
   rw [h]
   exact ⟨rfl,rfl,rfl⟩
  unfold T40_0 T40_1
  cases s with
  | nil=>exact ⟨fun _=>no rfl,fun h=>absurd rfl h⟩
  | cons q s=>
   refine ⟨fun h=>absurd h (by simp;omega),fun _=>⟨q,rfl,fun hq=>no ?_,fun hq=>?_⟩⟩
   ·simp only [nxt]
    rw [if_neg (by omega)]
   ·have hn:nxt (q::s)=nxtB (s.length+1) [] s:=by
     simp only [nxt]
     rw [if_pos (by omega)]
    unfold T40_2 T40_3 T40_4
    refine ⟨by simp,fun P hP=>?_⟩
    have key :∀n b r,r.length<n→b.length+r.length≤10000000→nxtB n b r=nxt (q::s)→P r b:=by
     intro n
     induction n with
     | zero=>intro b r h;exact absurd h (Nat.not_lt_zero _)
     | succ n ih=>
      intro b r hr hb hx
      apply hP
      unfold T40_5
      cases r with
      | nil=>
       refine ⟨fun h=>absurd h (by simp),fun _=>?_⟩
       unfold T40_9
       exact ⟨fun _=>no (by rw [← hx];rfl),fun h=>absurd rfl h⟩
      | cons c r=>
       simp only [nxtB] at hx
       refine ⟨fun _=>⟨c,rfl,fun h1=>?_,fun h1=>?_⟩,fun h=>absurd (show ((c::r).length:Int)>0 by simp) h⟩
       ·rw [if_neg (by omega)] at hx
        intro P1 hP1
        have pref :∀a:UInt8,(c::r).take (chr a).length=chr a↔one (c::r)=some (a,(c::r).drop (chr a).length):=fun a=>take_chr
        have lit :∀{i:Nat} (_:i<256),IntKind.u8.wrap (i:Int)=((UInt8.ofNat i).toNat:Int):=by
         intro i hi
         rw [wr_u8 (by omega) (by omega)]
         simp;omega
        -- a step that finds nothing
        have skip :∀i:Nat,i<256→one (c::r)≠some (UInt8.ofNat i,(c::r).drop (chr (UInt8.ofNat i)).length)→P1 (c::r) b false ((i+1:Nat):Int)→P1 (c::r) b false (i:Int):=by
         intro i hi hne hnext
         apply hP1
         unfold T40_6 T40_7
         rw [lit hi,wr_succ (by omega)]
         refine ⟨fun _=>⟨fun _=>⟨_,c41 H _,fun h2=>⟨by omega,by omega,fun h3=>?_,fun h3=>hnext⟩,fun h2=>hnext⟩,fun h=>by simp at h⟩,fun h=>absurd (show (i:Int)<256 by omega) h⟩
         exact absurd ((pref _).1 h3) hne
        cases ho:one (c::r) with
        | none=>
         rw [ho] at hx
         refine loop_up0 (P:=fun i=>P1 (c::r) b false i) 256 ?_ fun i hi hnext=>skip i hi (by rw [ho];intro h;cases h) hnext
         apply hP1
         unfold T40_6 T40_8
         exact ⟨fun h=>absurd h (by decide),fun _=>⟨fun _=>no hx.symm,fun h=>by simp at h⟩⟩
        | some p=>
         obtain ⟨a,r'⟩:=p
         rw [ho] at hx
         simp only at hx
         have hl:=one_len ho
         simp only [List.length_cons] at hl hb hr
         have ha:=a.toNat_lt
         have hthen:P r' (b++[a]):=ih _ _ (by omega) (by simp only [List.length_append,List.length_cons,List.length_nil];omega) hx
         have hinv:=one_inv ho
         have hdr:(c::r).drop (chr a).length=r':=by rw [hinv];simp
         have hfound :∀i:Int,P1 r' (b++[a]) true i:=by
          intro i
          apply hP1
          unfold T40_6 T40_8
          exact ⟨fun _=>⟨fun h=>by simp at h,fun _=>⟨fun h=>by simp at h,fun _=>hthen⟩⟩,fun _=>⟨fun h=>by simp at h,fun _=>hthen⟩⟩
         have hat:P1 (c::r) b false (a.toNat:Int):=by
          apply hP1
          unfold T40_6 T40_7
          have e1:IntKind.u8.wrap (a.toNat:Int)=(a.toNat:Int):=wr_u8 (by omega) (by omega)
          have hlen:=congrArg List.length hinv
          simp only [List.length_append,List.length_cons] at hlen
          rw [e1]
          refine ⟨fun _=>⟨fun _=>⟨_,c41 H a,fun h2=>⟨by omega,by rw [toNat_cast,List.length_cons];omega,fun h3=>⟨a,rfl,?_,by omega,by rw [toNat_cast,List.length_cons];omega,?_⟩,fun h3=>?_⟩,fun h2=>?_⟩,fun h=>by simp at h⟩,fun h=>absurd (show (a.toNat:Int)<256 by omega) h⟩
          ·simp only [List.length_cons,List.length_nil,maxStr_eq];omega
          ·rw [toNat_cast,hdr]
           exact hfound _
          ·exact absurd ((pref a).2 (by rw [ho,hdr])) h3
          ·simp only [List.length_cons] at h2
           omega
         have below :∀m i:Nat,i+m=a.toNat→P1 (c::r) b false (i:Int):=by
          intro m
          induction m with
          | zero=>intro i hi;simp only [Nat.add_zero] at hi;rw [hi];exact hat
          | succ m ihm=>
           intro i hi
           refine skip i (by omega) ?_ (ihm (i+1) (by omega))
           rw [ho]
           intro h
           injection h with h
           injection h with h
           have:=congrArg UInt8.toNat h
           simp at this
           omega
         exact below a.toNat 0 (by omega)
       ·unfold T40_9
        rw [if_pos (by omega)] at hx
        refine ⟨fun h=>absurd h (by simp;omega),fun _=>⟨by simp,?_⟩⟩
        unfold nxtR
        rw [← hx]
        exact ⟨rfl,rfl,rfl⟩
    exact key (s.length+1) [] s (by omega) (by simp at hs ⊢;omega) hn.symm)
 exact h
theorem c25 (s:Bytes):Pus prog 25 [.s s] (.tup [.s (unquo s).1,.i .i64 (unquo s).2]):=by
 obtain ⟨x,y,⟨rfl,rfl⟩,h⟩:=p25 H.f25 (s0:=s) (K:=fun x y=>x=(unquo s).1∧y=(unquo s).2) (by
  unfold T25_0 unquo
  refine ⟨fun h=>by rw [if_pos (by omega)];exact ⟨rfl,rfl⟩,fun hs=>⟨_,_,_,c39 H (by omega),?_⟩⟩
  rw [if_neg (by omega)]
  unfold nxtR
  cases nxt s with
  | none=>exact ⟨fun _=>⟨rfl,rfl⟩,fun h=>by simp at h⟩
  | some p=>
   obtain ⟨x,r⟩:=p
   refine ⟨fun h=>by simp at h,fun _=>⟨fun h=>?_,fun h=>?_⟩⟩
   ·cases r with
    | nil=>exact absurd rfl h
    | cons c r=>exact ⟨rfl,rfl⟩
   ·have h:r=[]:=Classical.not_not.1 h
    subst h
    refine ⟨fun h=>?_,fun h=>?_⟩
    ·simp only at h ⊢
     rw [if_pos (by omega)];exact ⟨rfl,rfl⟩
    ·simp only at h ⊢
     rw [if_neg (by omega)];exact ⟨rfl,rfl⟩)
 exact h
theorem c26 (s:Bytes):Pus prog 26 [.s s] (.tup [.s (unquo s).1,.i .i64 (unquo s).2]):=by
 obtain ⟨x,y,⟨rfl,rfl⟩,h⟩:=p26 H.f26 (s0:=s) (K:=fun x y=>x=(unquo s).1∧y=(unquo s).2) (by
  unfold T26_0 unquo
  refine ⟨fun h=>by rw [if_pos (by omega)];exact ⟨rfl,rfl⟩,fun hs=>⟨_,_,_,c40 H (by omega),?_⟩⟩
  rw [if_neg (by omega)]
  unfold nxtR
  cases nxt s with
  | none=>exact ⟨fun _=>⟨rfl,rfl⟩,fun h=>by simp at h⟩
  | some p=>
   obtain ⟨x,r⟩:=p
   refine ⟨fun h=>by simp at h,fun _=>⟨fun h=>?_,fun h=>?_⟩⟩
   ·cases r with
    | nil=>exact absurd rfl h
    | cons c r=>exact ⟨rfl,rfl⟩
   ·have h:r=[]:=Classical.not_not.1 h
    subst h
    refine ⟨fun h=>?_,fun h=>?_⟩
    ·simp only at h ⊢
     rw [if_pos (by omega)];exact ⟨rfl,rfl⟩
    ·simp only at h ⊢
     rw [if_neg (by omega)];exact ⟨rfl,rfl⟩)
 exact h
theorem c29 {a b:List Bytes} (ha:a.length≤1000000000):Pus prog 29 [.sl .ext (a.map rowS),.sl .ext (b.map rowS)] (.b (decide (a=b))):=by
 obtain ⟨x,rfl,h⟩:=p29 H.f29 (a0:=a) (b1:=b) (K:=fun x=>x=decide (a=b)) (by
  unfold T29_0
  refine ⟨fun h=>(decide_eq_false fun e=>h (by rw [e])).symm,fun hl P hP=>?_⟩
  have hlen:a.length=b.length:=by omega
  have key :∀m i:Nat,i+m=a.length→(∀j,j<i→a[j]?=b[j]?)→P (i:Int):=by
   intro m
   induction m with
   | zero=>
    intro i hi hj
    apply hP
    unfold T29_1 T29_2
    refine ⟨fun h=>absurd h (by omega),fun _=>(decide_eq_true ?_).symm⟩
    apply List.ext_getElem?
    intro j
    rcases Nat.lt_or_ge j i with h | h
    ·exact hj j h
    ·rw [List.getElem?_eq_none (by omega),List.getElem?_eq_none (by omega)]
   | succ m ih=>
    intro i hi hj
    have h1:i<a.length:=by omega
    have h2:i<b.length:=by omega
    apply hP
    unfold T29_1
    refine ⟨fun _=>⟨by omega,a[i],by rw [toNat_cast,List.getElem?_eq_getElem h1],by omega,b[i],by rw [toNat_cast,List.getElem?_eq_getElem h2],fun h=>?_,fun h=>?_⟩,fun h=>absurd h (by omega)⟩
    ·refine (decide_eq_false fun e=>h ?_).symm
     subst e
     rfl
    ·rw [wr_succ (by omega)]
     refine ih (i+1) (by omega) fun j hj'=>?_
     rcases Nat.lt_or_ge j i with h3 | h3
     ·exact hj j h3
     ·have:j=i:=by omega
      subst this
      rw [List.getElem?_eq_getElem h1,List.getElem?_eq_getElem h2,Classical.not_not.1 h]
  exact key a.length 0 (by omega) (by simp))
 exact h
end
end Go.AM

namespace Go.AM
open Go
def isD (c:UInt8):Bool:=decide (48≤c.toNat)&&decide (c.toNat≤57)
theorem unnum_rng (s:Bytes):-9223372036854775808≤(unnum s).1∧(unnum s).1<9223372036854775808:=by
 have h1:=rd_le 10 9223372036854775808 (s.drop 1)
 have h2:=rd_le 10 9223372036854775807 s
 unfold unnum
 split
 ·exact ⟨by decide,by decide⟩
 split
 ·split
  ·exact ⟨by decide,by decide⟩
  ·dsimp only
   omega
 ·dsimp only
  omega
theorem hexd_isD :∀n:Fin 10,isD (hexd n.val)=true:=by decide
theorem ds_isD :∀(f n:Nat),∀c∈ds 10 f n,isD c=true
 | 0,n,c,h=>by simp [ds] at h
 | f+1,n,c,h=>by
  rw [ds] at h
  split at h
  ·rename_i hn
   rw [List.mem_singleton.1 h]
   exact hexd_isD ⟨n,hn⟩
  ·rcases List.mem_append.1 h with h | h
   ·exact ds_isD f _ c h
   ·rw [List.mem_singleton.1 h]
    exact hexd_isD ⟨n % 10,Nat.mod_lt _ (by decide)⟩
end Go.AM

namespace Go.AM
open Go
def eqQ (a b:Qry):Bool:=(a.kind==b.kind&&(a.g==b.g&&(a.k==b.k&&(a.key==b.key&&(a.name==b.name&&true)))))
theorem eqQ_iff {a b:Qry}:eqQ a b=true↔a=b:=by
 unfold eqQ
 simp only [Bool.and_eq_true,beq_iff_eq,Bool.and_true]
 constructor
 ·rintro ⟨h1,h2,h3,h4,h5⟩
  cases a;cases b
  simp only [Qry.mk.injEq]
  exact ⟨h1,h2,h3,h4,h5⟩
 ·rintro rfl;exact ⟨rfl,rfl,rfl,rfl,rfl⟩
def bareQ (q:Qry):Qry:=if q.kind=1 then ⟨q.kind,0,0,0,[]⟩ else if q.kind=3 then ⟨q.kind,q.g,q.k,0,[]⟩ else if q.kind=2∨q.kind=4∨q.kind=5 then ⟨q.kind,q.g,0,0,[]⟩ else if q.kind=6 then ⟨q.kind,0,0,q.key,[]⟩ else ⟨q.kind,0,0,0,q.name⟩
def rngQ (q:Qry):Bool:=decide (0≤q.g∧q.g<16)&&decide (0≤q.k∧q.k<170)&&decide (q.name.length≤16)
def okQ (q:Qry):Bool:=decide (1≤q.kind∧q.kind≤8)&&eqQ q (bareQ q)&&rngQ q
def chkQ (q:Qry):Int:=if okQ q=true then 0 else 8
theorem chkQ_iff {q:Qry}:chkQ q=0↔okQ q=true:=by unfold chkQ;cases okQ q<;>decide
def shownQ (q:Qry):Bytes:=if q.kind=1 then wordM q.kind else if q.kind=3 then wordM q.kind++(([32]++num q.g++[32])++num q.k) else if q.kind=6 then wordM q.kind++([32]++num q.key) else if q.kind=7∨q.kind=8 then wordM q.kind++([32]++quo q.name) else wordM q.kind++([32]++num q.g)
def txtQ (q:Qry):Bytes × Int:=if okQ q=true then (shownQ q,0) else ([],8)
structure OkQ (q:Qry):Prop where
 k1:1≤q.kind
 k8:q.kind≤8
 b:q=bareQ q
 g:0≤q.g∧q.g<16
 k:0≤q.k∧q.k<170
 n:q.name.length≤16
theorem okQ_iff {q:Qry}:okQ q=true↔OkQ q:=by
 unfold okQ rngQ
 simp only [Bool.and_eq_true,decide_eq_true_eq,eqQ_iff]
 exact ⟨fun ⟨⟨⟨h1,h2⟩,h3⟩,⟨h4,h5⟩,h6⟩=>⟨h1,h2,h3,h4,h5,h6⟩,fun h=>⟨⟨⟨h.k1,h.k8⟩,h.b⟩,⟨h.g,h.k⟩,h.n⟩⟩
def cutS (s:Bytes):Bytes × Bytes × Bool:=if 0≤Lib.indexByte s 32 then (s.take (Lib.indexByte s 32).toNat,s.drop (Lib.indexByte s 32+1).toNat,true) else (s,[],false)
theorem ib_no {s:Bytes} (h :∀c∈s,c≠(32:UInt8)):Lib.indexByte s 32 = -1:=by
 induction s with
 | nil=>rfl
 | cons c s ih=>
  rw [Lib.indexByte,if_neg (by simpa using h c List.mem_cons_self),ih fun d hd=>h d (List.mem_cons_of_mem _ hd)]
  rfl
theorem ib_at {a r:Bytes} (h :∀c∈a,c≠(32:UInt8)):Lib.indexByte (a++32::r) 32=(a.length:Int):=by
 induction a with
 | nil=>rfl
 | cons c a ih=>
  rw [List.cons_append,Lib.indexByte,if_neg (by simpa using h c List.mem_cons_self),ih fun d hd=>h d (List.mem_cons_of_mem _ hd),if_neg (by simp<;>omega),List.length_cons]
  omega
theorem cutS_no {s:Bytes} (h :∀c∈s,c≠(32:UInt8)):cutS s=(s,[],false):=by unfold cutS;rw [ib_no h,if_neg (by decide)]
theorem cutS_at {a r:Bytes} (h :∀c∈a,c≠(32:UInt8)):cutS (a++32::r)=(a,r,true):=by
 unfold cutS
 rw [ib_at h,if_pos (by omega)]
 have e:((a.length:Int)+1).toNat=a.length+1:=by omega
 rw [e,show (a.length:Int).toNat=a.length from rfl]
 simp
theorem num_nosp (n:Int) :∀c∈num n,c≠(32:UInt8):=by
 have hd :∀k,∀c∈digs 10 k,c≠(32:UInt8):=fun k c hc=>by
  have:=ds_isD _ _ c hc
  rintro rfl
  revert this
  decide
 intro c hc
 unfold num at hc
 split at hc
 ·rcases List.mem_cons.1 hc with rfl | hc
  ·decide
  ·exact hd _ c hc
 ·exact hd _ c hc
theorem word_nosp {k:Int} (h1:1≤k) (h8:k≤8) :∀c∈wordM k,c≠(32:UInt8):=by
 obtain ⟨j,rfl⟩:=Int.eq_ofNat_of_zero_le (by omega:0≤k)
 have h1:1≤j:=by omega
 have h8:j≤8:=by omega
 match j,h1,h8 with
 | 1,_,_ | 2,_,_ | 3,_,_ | 4,_,_ | 5,_,_ | 6,_,_ | 7,_,_ | 8,_,_=>decide
theorem mpAt_word {k:Int} (h1:1≤k) (h8:k≤8):mpAt wordL (wordM k)=k:=by
 obtain ⟨j,rfl⟩:=Int.eq_ofNat_of_zero_le (by omega:0≤k)
 have h1:1≤j:=by omega
 have h8:j≤8:=by omega
 match j,h1,h8 with
 | 1,_,_ | 2,_,_ | 3,_,_ | 4,_,_ | 5,_,_ | 6,_,_ | 7,_,_ | 8,_,_=>rfl
theorem word_len {k:Int}:(wordM k).length≤10:=by
 by_cases h:1≤k∧k≤8
 ·obtain ⟨h1,h8⟩:=h
  obtain ⟨j,rfl⟩:=Int.eq_ofNat_of_zero_le (by omega:0≤k)
  have h1:1≤j:=by omega
  have h8:j≤8:=by omega
  match j,h1,h8 with
  | 1,_,_ | 2,_,_ | 3,_,_ | 4,_,_ | 5,_,_ | 6,_,_ | 7,_,_ | 8,_,_=>decide
 ·rw [wordM_no h];decide
def numQ (s:Bytes):Int × Bool:=((unnum s).1,decide ((unnum s).2=0)&&(decide (0≤(unnum s).1)&&decide ((unnum s).1<1000)))
def rdQ (kind:Int) (rest:Bytes):Qry × Bool:=
 if kind=1 then (⟨1,0,0,0,[]⟩,decide (rest=[])) else
 if kind=3 then (⟨3,(numQ (cutS rest).1).1,(numQ (cutS rest).2.1).1,0,[]⟩,(numQ (cutS rest).1).2&&((numQ (cutS rest).2.1).2&&(cutS rest).2.2)) else
 if kind=6 then (⟨6,0,0,(unnum rest).1,[]⟩,decide ((unnum rest).2=0)) else
 if kind=7∨kind=8 then (⟨kind,0,0,0,(unquo rest).1⟩,decide ((unquo rest).2=0)) else (⟨kind,(numQ rest).1,0,0,[]⟩,(numQ rest).2)
def refQ (kind:Int) (rest:Bytes):Qry:=
 if kind=2∨kind=4∨kind=5 then ⟨kind,(unnum (cutS rest).1).1,0,0,[]⟩ else
 if kind=3 then ⟨kind,(unnum (cutS rest).1).1,(unnum (cutS rest).2.1).1,0,[]⟩ else
 if kind=6 then ⟨kind,0,0,(unnum rest).1,[]⟩ else
 if kind=7∨kind=8 then ⟨kind,0,0,0,(unquo rest).1⟩ else ⟨kind,0,0,0,[]⟩
abbrev qz:Qry:=⟨0,0,0,0,[]⟩
def gotQ (s:Bytes):Qry × Bool:=rdQ (mpAt wordL (cutS s).1) (cutS s).2.1
def rdTQ (s:Bytes):Qry × Int:=if 2000<s.length then (qz,4) else if (gotQ s).2=true∧okQ (gotQ s).1=true∧shownQ (gotQ s).1=s then ((gotQ s).1,0) else (qz,12)
theorem numQ_num {n:Int} (h:0≤n∧n<1000):numQ (num n)=(n,true):=by
 unfold numQ
 rw [unnum_num (by omega) (by omega)]
 simp only [decide_eq_true h.1,decide_eq_true h.2]
 rfl
theorem back_Q {q:Qry} (h:OkQ q) (hk:-9223372036854775808≤q.key∧q.key<9223372036854775808):gotQ (shownQ q)=(q,true)∧(cutS (shownQ q)).1=wordM q.kind∧refQ q.kind (cutS (shownQ q)).2.1=q:=by
 obtain ⟨k1,k8,b,g,k,n⟩:=h
 have hw:=word_nosp k1 k8
 unfold bareQ at b
 by_cases e1:q.kind=1
 ·rw [if_pos e1] at b
  have es:cutS (shownQ q)=(wordM q.kind,[],false):=by unfold shownQ;rw [if_pos e1];exact cutS_no hw
  unfold gotQ
  rw [es]
  simp only
  rw [mpAt_word k1 k8]
  unfold rdQ refQ
  rw [if_pos e1,if_neg (by omega),if_neg (by omega),if_neg (by omega),if_neg (by omega)]
  rw [e1] at b
  rw [e1]
  exact ⟨by rw [← b];rfl,trivial,b.symm⟩
 rw [if_neg e1] at b
 by_cases e3:q.kind=3
 ·rw [if_pos e3] at b
  have es:cutS (shownQ q)=(wordM q.kind,num q.g++32::num q.k,true):=by
   unfold shownQ
   rw [if_neg e1,if_pos e3,← cutS_at (r:=num q.g++32::num q.k) hw]
   simp
  have er:cutS (num q.g++32::num q.k)=(num q.g,num q.k,true):=cutS_at (num_nosp _)
  unfold gotQ
  rw [es]
  simp only
  rw [mpAt_word k1 k8]
  unfold rdQ refQ
  rw [if_neg e1,if_pos e3,if_neg (by omega),if_pos e3,er]
  simp only
  rw [numQ_num (by omega),numQ_num (by omega),unnum_num (by omega) (by omega),unnum_num (by omega) (by omega)]
  rw [e3] at b
  rw [e3]
  exact ⟨by rw [← b];rfl,trivial,b.symm⟩
 rw [if_neg e3] at b
 by_cases e2:q.kind=2∨q.kind=4∨q.kind=5
 ·rw [if_pos e2] at b
  have es:cutS (shownQ q)=(wordM q.kind,num q.g,true):=by
   unfold shownQ
   rw [if_neg e1,if_neg e3,if_neg (by omega),if_neg (by omega),← cutS_at (r:=num q.g) hw]
   simp
  have er:cutS (num q.g)=(num q.g,[],false):=cutS_no (num_nosp _)
  unfold gotQ
  rw [es]
  simp only
  rw [mpAt_word k1 k8]
  unfold rdQ refQ
  rw [if_neg e1,if_neg e3,if_neg (by omega),if_neg (by omega),if_pos e2,er]
  simp only
  rw [numQ_num (by omega),unnum_num (by omega) (by omega)]
  exact ⟨by rw [← b],trivial,b.symm⟩
 rw [if_neg e2] at b
 by_cases e6:q.kind=6
 ·rw [if_pos e6] at b
  have es:cutS (shownQ q)=(wordM q.kind,num q.key,true):=by
   unfold shownQ
   rw [if_neg e1,if_neg e3,if_pos e6,← cutS_at (r:=num q.key) hw]
   simp
  unfold gotQ
  rw [es]
  simp only
  rw [mpAt_word k1 k8]
  unfold rdQ refQ
  rw [if_neg e1,if_neg e3,if_pos e6,if_neg e2,if_neg e3,if_pos e6,unnum_num hk.1 hk.2]
  rw [e6] at b
  rw [e6]
  exact ⟨by rw [← b];rfl,trivial,b.symm⟩
 ·rw [if_neg e6] at b
  have e7:q.kind=7∨q.kind=8:=by omega
  have es:cutS (shownQ q)=(wordM q.kind,quo q.name,true):=by
   unfold shownQ
   rw [if_neg e1,if_neg e3,if_neg e6,if_pos e7,← cutS_at (r:=quo q.name) hw]
   simp
  unfold gotQ
  rw [es]
  simp only
  rw [mpAt_word k1 k8]
  unfold rdQ refQ
  rw [if_neg e1,if_neg e3,if_neg e6,if_pos e7,if_neg e2,if_neg e3,if_neg e6,if_pos e7,unquo_quo (by omega)]
  exact ⟨by rw [← b];rfl,trivial,b.symm⟩
theorem refQ_key (kind:Int) (rest:Bytes):-9223372036854775808≤(refQ kind rest).key∧(refQ kind rest).key<9223372036854775808:=by
 have:=unnum_rng rest
 unfold refQ
 repeat' split
 all_goals (simp only;omega)
theorem gotQ_key (s:Bytes):-9223372036854775808≤(gotQ s).1.key∧(gotQ s).1.key<9223372036854775808:=by
 have:=unnum_rng (cutS s).2.1
 unfold gotQ rdQ
 repeat' split
 all_goals (simp only;omega)
theorem ref_found {s:Bytes} (hs:¬2000<s.length) {q:Qry} (h:okQ q=true) (hk:-9223372036854775808≤q.key∧q.key<9223372036854775808) (e:shownQ q=s):rdTQ s=(q,0):=by
 obtain ⟨h1,_,_⟩:=back_Q (okQ_iff.1 h) hk
 unfold rdTQ
 rw [if_neg hs,← e,h1,if_pos ⟨rfl,h,rfl⟩]
theorem ref_none {s:Bytes} (hs:¬2000<s.length) (h :∀k:Int,1≤k→k≤8→wordM k=(cutS s).1→okQ (refQ k (cutS s).2.1)=true→shownQ (refQ k (cutS s).2.1)=s→False):rdTQ s=(qz,12):=by
 unfold rdTQ
 rw [if_neg hs,if_neg]
 rintro ⟨_,h2,h3⟩
 have ho:=okQ_iff.1 h2
 obtain ⟨_,b2,b3⟩:=back_Q ho (gotQ_key s)
 rw [h3] at b2 b3
 exact h _ ho.k1 ho.k8 b2.symm (by rw [b3];exact h2) (by rw [b3];exact h3)
end Go.AM

namespace Go.AM
open Go
structure HasU (prog:Prog):Prop extends Has03 prog where
 f197:prog.fn 197=some pf197
 f243:prog.fn 243=some pf243
 f245:prog.fn 245=some pf245
 f246:prog.fn 246=some pf246
 f247:prog.fn 247=some pf247
 f248:prog.fn 248=some pf248
 f257:prog.fn 257=none
 f258:prog.fn 258=some pf258
 f259:prog.fn 259=some pf259
 f260:prog.fn 260=some pf260
 f261:prog.fn 261=some pf261
 f262:prog.fn 262=some pf262
 f263:prog.fn 263=some pf263
 f265:prog.fn 265=some pf265
 f266:prog.fn 266=some pf266
 f267:prog.fn 267=some pf267
 o257:prog.orac 257 []=some (.mp wordL)
def wordsQ:List Bytes:=[[],[103,111,114,111,117,116,105,110,101,115],[102,114,97,109,101,115],[108,111,99,97,108,115],[100,101,102,101,114,115],[112,97,110,105,99,115],[119,97,105,116,115],[105,110],[115,108,111,116]]
theorem wordsQ_at {k:Int} (h0:0≤k) (h8:k≤8):wordsQ[k.toNat]?=some (wordM k):=by
 obtain ⟨j,rfl⟩:=Int.eq_ofNat_of_zero_le h0
 have h8:j≤8:=by omega
 match j,h8 with
 | 0,_ | 1,_ | 2,_ | 3,_ | 4,_ | 5,_ | 6,_ | 7,_ | 8,_=>rfl
theorem ib_le (s:Bytes) (c:UInt8):Lib.indexByte s c<(s.length:Int)∨s=[]:=by
 induction s with
 | nil=>exact .inr rfl
 | cons b s ih=>
  left
  rw [Lib.indexByte]
  have:(((b::s).length:Nat):Int)=(s.length:Int)+1:=by rw [List.length_cons];omega
  split
  ·omega
  ·split
   ·omega
   ·rename_i h1 h2
    rcases ih with h | h
    ·omega
    ·subst h;exact absurd rfl h2
section
variable {prog:Prog} (H:HasU prog)
include H
theorem c257:Pus prog 257 [] (.mp wordL):=⟨.mp wordL,⟨st0,1,by simp only [acall,H.f257,H.o257]⟩,by simp [AV.strip]⟩
theorem c258 {n:Int} (h1:-9223372036854775808≤n) (h2:n<9223372036854775808):Pus prog 258 [.i .i64 n] (.s (num n)):=by
 obtain ⟨x,rfl,h⟩:=p258 H.f258 (n0:=n) (K:=fun x=>x=num n) (by
  unfold T258_0
  exact ⟨_,c15 H.toHas03 h1 h2,rfl⟩)
 exact h
theorem c265 {n:Int} (h1:-9223372036854775808≤n) (h2:n<9223372036854775808):Pus prog 265 [.i .i64 n] (.s (num n)):=by
 obtain ⟨x,rfl,h⟩:=p265 H.f265 (n0:=n) (K:=fun x=>x=num n) (by
  unfold T265_0
  exact ⟨_,c16 H.toHas03 h1 h2,rfl⟩)
 exact h
theorem c263:Pus prog 263 [] (.sl .ext (wordsQ.map rowS)):=by
 obtain ⟨x,rfl,h⟩:=p263 H.f263 (K:=fun x=>x=wordsQ) (by unfold T263_0;rfl)
 exact h
theorem c197 (s:Bytes) (c:UInt8):Pus prog 197 [.s s,.s [c]] (.i .i64 (Lib.indexByte s c)):=by
 obtain ⟨x,rfl,h⟩:=p197 H.f197 (s0:=s) (substr1:=[c]) (K:=fun x=>x=Lib.indexByte s c) (by
  have t3 :∀b,(b=true→s=[c])→T197_3 prog (fun x=>x=Lib.indexByte s c) s [c] (([c]:Bytes).length:Int) b:=fun b hb=>by
   unfold T197_3
   refine ⟨fun h=>?_,fun _=>⟨fun _=>⟨c,rfl,_,c47 H.toHas03 s c,rfl⟩,fun h=>absurd rfl h⟩⟩
   rw [hb h,Lib.indexByte,if_pos (by simp)]
  unfold T197_0 T197_1 T197_2
  exact ⟨fun h=>absurd h (by simp),fun _=>t3 _ fun h=>(of_decide_eq_true h).symm⟩)
 exact h
theorem c266 {s:Bytes} (hs:s.length≤1000000000):Pus prog 266 [.s s,.s [32]] (.tup [.s (cutS s).1,.s (cutS s).2.1,.b (cutS s).2.2]):=by
 obtain ⟨x,y,z,⟨rfl,rfl,rfl⟩,h⟩:=p266 H.f266 (s0:=s) (sep1:=[32]) (K:=fun x y z=>x=(cutS s).1∧y=(cutS s).2.1∧z=(cutS s).2.2) (by
  have hl:=ib_le s 32
  have hg:=Lib.indexByte_ge s 32
  unfold T266_0
  refine ⟨_,c197 H s 32,fun h=>?_,fun h=>?_⟩
  ·have hlt:Lib.indexByte s 32<(s.length:Int):=by
    rcases hl with h' | rfl
    ·exact h'
    ·exact absurd h (by decide)
   have e1:(([32]:Bytes).length:Int)=1:=rfl
   rw [e1,wr_i64 (by omega) (by omega)]
   unfold cutS
   rw [if_pos (by omega)]
   exact ⟨by omega,by omega,by omega,by omega,rfl,rfl,rfl⟩
  ·unfold cutS
   rw [if_neg (by omega)]
   exact ⟨rfl,rfl,rfl⟩)
 exact h
theorem c260 {s:Bytes} (hs:s.length≤1000000000):Pus prog 260 [.s s,.s [32]] (.tup [.s (cutS s).1,.s (cutS s).2.1,.b (cutS s).2.2]):=by
 obtain ⟨x,y,z,⟨rfl,rfl,rfl⟩,h⟩:=p260 H.f260 (s0:=s) (sep1:=[32]) (K:=fun x y z=>x=(cutS s).1∧y=(cutS s).2.1∧z=(cutS s).2.2) (by
  unfold T260_0
  exact ⟨_,_,_,c266 H hs,rfl,rfl,rfl⟩)
 exact h
theorem c262 {s:Bytes} (hs:s.length≤1000000000):Pus prog 262 [.s s] (.tup [.s (cutS s).1,.s (cutS s).2.1]):=by
 obtain ⟨x,y,⟨rfl,rfl⟩,h⟩:=p262 H.f262 (s0:=s) (K:=fun x y=>x=(cutS s).1∧y=(cutS s).2.1) (by
  unfold T262_0
  intro P hP
  refine loop_inv0 s.length (fun i=>∀c∈s.take i,c≠(32:UInt8)) (by simp) (fun hI=>hP _ ?_) fun i hi hI next=>hP _ ?_
  ·unfold T262_1 T262_2
   rw [List.take_length] at hI
   refine ⟨fun h=>absurd h (by omega),fun _=>?_⟩
   rw [cutS_no hI]
   exact ⟨rfl,rfl⟩
  ·unfold T262_1
   refine ⟨fun _=>⟨by omega,_,get_at hi,fun h=>?_,fun h=>?_⟩,fun h=>absurd (show (i:Int)<s.length by omega) h⟩
   ·rw [wr_i64 (by omega) (by omega)]
    have e:s=s.take i++32::s.drop (i+1):=by
     have h32:s[i]=32:=u8_eq (by have e3:(UInt8.toNat 32:Int)=32:=rfl;omega)
     rw [← h32,← List.drop_eq_getElem_cons hi,List.take_append_drop]
    have ec:=cutS_at (r:=s.drop (i+1)) hI
    rw [← e] at ec
    rw [ec]
    exact ⟨by omega,by omega,by omega,by omega,rfl,rfl⟩
   ·rw [wr_i64 (by omega) (by omega)]
    refine next fun c hc=>?_
    rw [List.take_succ_eq_append_getElem hi] at hc
    rcases List.mem_append.1 hc with hc | hc
    ·exact hI c hc
    ·rw [List.mem_singleton.1 hc]
     intro e
     exact h (by rw [e];rfl))
 exact h
theorem c267 (s:Bytes):Pus prog 267 [.s s] (.tup [.i .i64 (numQ s).1,.b (numQ s).2]):=by
 obtain ⟨x,y,⟨rfl,rfl⟩,h⟩:=p267 H.f267 (s0:=s) (K:=fun x y=>x=(numQ s).1∧y=(numQ s).2) (by
  unfold T267_0 numQ
  refine ⟨_,_,c21 H.toHas03 s,fun h=>⟨fun h1=>⟨rfl,?_⟩,fun h1=>⟨rfl,?_⟩⟩,fun h=>⟨rfl,?_⟩⟩
  ·rw [decide_eq_true h,decide_eq_true (p:=0≤(unnum s).1) (by omega)];rfl
  ·rw [decide_eq_true h,decide_eq_false (p:=0≤(unnum s).1) (by omega)];rfl
  ·rw [decide_eq_false h];rfl)
 exact h
theorem c261 {kind:Int} {rest:Bytes} (hr:rest.length≤1000000000):Pus prog 261 [.i .u8 kind,.s rest] (.tup [(rdQ kind rest).1.av,.b (rdQ kind rest).2]):=by
 obtain ⟨x,y,⟨rfl,rfl⟩,h⟩:=p261 H.f261 (kind0:=kind) (rest1:=rest) (K:=fun x y=>x=(rdQ kind rest).1∧y=(rdQ kind rest).2) (by
  have t7 :∀(K:Qry→Bool→Prop) (ok is:Bool) (e:Int) (m q:Qry),K q (ok&&(is&&decide (e=0)))→T261_7 prog K ok is e m q:=fun K ok is e m q hk=>by
   unfold T261_7
   refine ⟨fun h=>⟨fun h'=>?_,fun h'=>?_⟩,fun h=>?_⟩
   ·rw [h,h'] at hk;exact hk
   ·rw [h,h'] at hk;exact hk
   ·rw [h] at hk;exact hk
  unfold T261_0 T261_1 T261_2 T261_3 T261_4 T261_5 T261_6
  refine ⟨fun h=>?_,fun h1=>⟨fun h=>?_,fun h3=>⟨fun h=>?_,fun h6=>⟨fun h=>?_,fun h7=>?_⟩⟩⟩⟩
  ·have h:=of_decide_eq_true h
   refine t7 _ _ _ _ _ _ ?_
   unfold rdQ
   rw [if_pos h,h]
   exact ⟨rfl,by simp⟩
  ·have h1:=of_decide_eq_false h1
   have hc1:(cutS rest).1.length≤1000000000:=by unfold cutS;split<;>simp<;>omega
   refine ⟨_,_,_,c260 H hr,_,_,c267 H _,_,_,c267 H _,fun hi=>t7 _ _ _ _ _ _ ?_,fun hi=>t7 _ _ _ _ _ _ ?_⟩
   ·unfold rdQ
    rw [if_neg h1,if_pos h,h,hi]
    exact ⟨rfl,by simp⟩
   ·unfold rdQ
    rw [if_neg h1,if_pos h,h,hi]
    exact ⟨rfl,by simp⟩
  ·have h1:=of_decide_eq_false h1
   refine ⟨_,_,c21 H.toHas03 rest,t7 _ _ _ _ _ _ ?_⟩
   unfold rdQ
   rw [if_neg h1,if_neg h3,if_pos h,h]
   exact ⟨rfl,by simp⟩
  ·have h1:=of_decide_eq_false h1
   unfold T261_8
   refine ⟨fun _=>⟨_,_,c25 H.toHas03 rest,t7 _ _ _ _ _ _ ?_⟩,fun h'=>absurd h (of_decide_eq_false h')⟩
   unfold rdQ
   rw [if_neg h1,if_neg h3,if_neg h6,if_pos (.inl h)]
   exact ⟨rfl,by simp⟩
  ·have h1:=of_decide_eq_false h1
   unfold T261_8
   refine ⟨fun h=>⟨_,_,c25 H.toHas03 rest,t7 _ _ _ _ _ _ ?_⟩,fun h=>⟨_,_,c267 H rest,t7 _ _ _ _ _ _ ?_⟩⟩
   ·have h:=of_decide_eq_true h
    unfold rdQ
    rw [if_neg h1,if_neg h3,if_neg h6,if_pos (.inr h)]
    exact ⟨rfl,by simp⟩
   ·have h:=of_decide_eq_false h
    unfold rdQ
    rw [if_neg h1,if_neg h3,if_neg h6,if_neg (by omega)]
    exact ⟨rfl,by simp⟩)
 exact h
theorem fin_chk {q b:Qry} {K:Int→Prop} (hb:bareQ q=b) (hk:1≤q.kind∧q.kind≤8) (h:K (chkQ q)) :
  ((!(eqQ q b))=true→K 8)∧((!(eqQ q b))=false→(q.g<0→K 8)∧(¬(q.g<0)→(q.g≥16→K 8)∧(¬(q.g≥16)→(q.k<0→K 8)∧(¬(q.k<0)→(q.k≥170→K 8)∧(¬(q.k≥170)→((q.name.length:Int)>16→K 8)∧(¬((q.name.length:Int)>16)→K 0)))))):=by
 have e:okQ q=(eqQ q b&&rngQ q):=by unfold okQ;rw [decide_eq_true hk,hb];rfl
 have no:okQ q=false→K 8:=fun h'=>by unfold chkQ at h;rw [h'] at h;exact h
 refine ⟨fun h1=>no ?_,fun h1=>?_⟩
 ·rw [e,show eqQ q b=false by simpa using h1];rfl
 have h1:eqQ q b=true:=by simpa using h1
 rw [h1,Bool.true_and] at e
 unfold rngQ at e
 refine ⟨fun h2=>no ?_,fun h2=>⟨fun h3=>no ?_,fun h3=>⟨fun h4=>no ?_,fun h4=>⟨fun h5=>no ?_,fun h5=>⟨fun h6=>no ?_,fun h6=>?_⟩⟩⟩⟩⟩
 ·rw [e,decide_eq_false (by omega)];rfl
 ·rw [e,decide_eq_false (by omega)];rfl
 ·rw [e,decide_eq_false (p:=0≤q.k∧_) (by omega)];simp
 ·rw [e,decide_eq_false (p:=0≤q.k∧_) (by omega)];simp
 ·rw [e,decide_eq_false (p:=q.name.length≤16) (by omega)];simp
 ·rw [decide_eq_true (by omega),decide_eq_true (by omega),decide_eq_true (by omega)] at e
  unfold chkQ at h
  rw [e] at h
  exact h
end
end Go.AM

namespace Go.AM
open Go
theorem bare_1 {q:Qry} (h:q.kind=1):bareQ q=⟨q.kind,0,0,0,[]⟩:=by unfold bareQ;rw [if_pos h]
theorem bare_3 {q:Qry} (h:q.kind=3):bareQ q=⟨q.kind,q.g,q.k,0,[]⟩:=by unfold bareQ;rw [if_neg (by omega),if_pos h]
theorem bare_g {q:Qry} (h:q.kind=2∨q.kind=4∨q.kind=5):bareQ q=⟨q.kind,q.g,0,0,[]⟩:=by unfold bareQ;rw [if_neg (by omega),if_neg (by omega),if_pos h]
theorem bare_6 {q:Qry} (h:q.kind=6):bareQ q=⟨q.kind,0,0,q.key,[]⟩:=by unfold bareQ;rw [if_neg (by omega),if_neg (by omega),if_neg (by omega),if_pos h]
theorem bare_n {q:Qry} (h:q.kind=7∨q.kind=8):bareQ q=⟨q.kind,0,0,0,q.name⟩:=by unfold bareQ;rw [if_neg (by omega),if_neg (by omega),if_neg (by omega),if_neg (by omega)]
theorem chk_no {q:Qry} (h:¬(1≤q.kind∧q.kind≤8)):chkQ q=8:=by unfold chkQ okQ;rw [decide_eq_false h];rfl
section
variable {prog:Prog} (H:HasU prog)
include H
theorem c247 (q:Qry):Pus prog 247 [q.av] (.i .i64 (chkQ q)):=by
 obtain ⟨x,rfl,h⟩:=p247 H.f247 (q0:=q) (K:=fun x=>x=chkQ q) (by
  have fin :∀b,bareQ q=b→1≤q.kind∧q.kind≤8→T247_3 prog (fun x=>x=chkQ q) q b:=fun b hb hk=>by
   unfold T247_3
   exact fin_chk H (K:=fun x=>x=chkQ q) hb hk rfl
  have t4 :∀t,(t=true↔q.kind=2∨q.kind=4∨q.kind=5)→q.kind≠1→q.kind≠3→T247_4 prog (fun x=>x=chkQ q) q.kind t q ⟨q.kind,0,0,0,[]⟩:=fun t ht h1 h3=>by
   unfold T247_4 T247_5
   refine ⟨fun h=>fin _ (bare_g (ht.1 h)) (by have:=ht.1 h;omega),fun h=>?_⟩
   have hg:¬(q.kind=2∨q.kind=4∨q.kind=5):=fun h'=>by rw [ht.2 h'] at h;cases h
   refine ⟨fun h6=>fin _ (bare_6 h6) (by omega),fun h6=>⟨fun h7=>⟨fun _=>fin _ (bare_n (.inl h7)) (by omega),fun h'=>absurd h7 (of_decide_eq_false h')⟩,fun h7=>⟨fun h'=>fin _ (bare_n (.inr (of_decide_eq_true h'))) (by have:=of_decide_eq_true h';omega),fun h'=>?_⟩⟩⟩
   have h8:=of_decide_eq_false h'
   exact (chk_no (by omega)).symm
  unfold T247_0 T247_1 T247_2
  refine ⟨fun h=>fin _ (bare_1 h) (by omega),fun h1=>⟨fun h=>fin _ (bare_3 h) (by omega),fun h3=>⟨fun h=>t4 _ (by rw [decide_eq_true_eq];omega) h1 h3,fun h2=>⟨fun h=>t4 _ (by rw [decide_eq_true_eq];omega) h1 h3,fun h4=>t4 _ (by rw [decide_eq_true_eq];omega) h1 h3⟩⟩⟩⟩)
 exact h
theorem c248 (q:Qry):Pus prog 248 [q.av] (.i .i64 (chkQ q)):=by
 obtain ⟨x,rfl,h⟩:=p248 H.f248 (q0:=q) (K:=fun x=>x=chkQ q) (by
  have fin :∀b,bareQ q=b→1≤q.kind∧q.kind≤8→T248_3 prog (fun x=>x=chkQ q) q.kind q.g q.k q.key q.name b:=fun b hb hk=>by
   unfold T248_3
   exact fin_chk H (K:=fun x=>x=chkQ q) hb hk rfl
  have t4 :∀t,(t=true↔q.kind=2∨q.kind=4∨q.kind=5)→q.kind≠1→T248_4 prog (fun x=>x=chkQ q) q.kind q.g q.k q.key q.name q.kind t ⟨q.kind,0,0,0,[]⟩:=fun t ht h1=>by
   unfold T248_4 T248_5
   refine ⟨fun h=>fin _ (bare_g (ht.1 h)) (by have:=ht.1 h;omega),fun h=>?_⟩
   have hg:¬(q.kind=2∨q.kind=4∨q.kind=5):=fun h'=>by rw [ht.2 h'] at h;cases h
   refine ⟨fun h3=>fin _ (bare_3 h3) (by omega),fun h3=>⟨fun h6=>fin _ (bare_6 h6) (by omega),fun h6=>⟨fun h7=>⟨fun _=>fin _ (bare_n (.inl h7)) (by omega),fun h'=>absurd h7 (of_decide_eq_false h')⟩,fun h7=>⟨fun h'=>fin _ (bare_n (.inr (of_decide_eq_true h'))) (by have:=of_decide_eq_true h';omega),fun h'=>?_⟩⟩⟩⟩
   have h8:=of_decide_eq_false h'
   exact (chk_no (by omega)).symm
  unfold T248_0 T248_1 T248_2
  refine ⟨fun h=>fin _ (bare_1 h) (by omega),fun h1=>⟨fun h=>t4 _ (by rw [decide_eq_true_eq];omega) h1,fun h2=>⟨fun h=>t4 _ (by rw [decide_eq_true_eq];omega) h1,fun h4=>t4 _ (by rw [decide_eq_true_eq];omega) h1⟩⟩⟩)
 exact h
theorem c259 {q:Qry} (h:OkQ q) (hk:-9223372036854775808≤q.key∧q.key<9223372036854775808):Pus prog 259 [q.av] (.s (shownQ q)):=by
 obtain ⟨x,rfl,h⟩:=p259 H.f259 (q0:=q) (K:=fun x=>x=shownQ q) (by
  obtain ⟨k1,k8,_,hg,hk',hn⟩:=h
  have l1:=word_len (k:=q.kind)
  have l2:=num_len q.g
  have l3:=num_len q.k
  have l4:=num_len q.key
  have l5:=quo_len q.name
  have t1 :∀t,(t=true↔q.kind=2∨q.kind=4∨q.kind=5)→T259_1 prog (fun x=>x=shownQ q) (wordM q.kind) q.kind t q:=fun t ht=>by
   unfold T259_1 T259_3 T259_2
   refine ⟨fun h=>?_,fun h=>?_⟩
   ·have h:=ht.1 h
    refine ⟨_,c265 H (by omega) (by omega),?_,?_,?_⟩
    ·rw [maxStr_eq];simp only [List.length_cons,List.length_nil];omega
    ·rw [maxStr_eq];simp only [List.length_append,List.length_cons,List.length_nil];omega
    ·unfold shownQ
     rw [if_neg (by omega),if_neg (by omega),if_neg (by omega),if_neg (by omega)]
   have hg:¬(q.kind=2∨q.kind=4∨q.kind=5):=fun h'=>by rw [ht.2 h'] at h;cases h
   refine ⟨fun h3=>⟨_,c265 H (by omega) (by omega),?_,?_,_,c265 H (by omega) (by omega),?_,?_,?_⟩,fun h3=>⟨fun h6=>⟨_,c16 H.toHas03 hk.1 hk.2,?_,?_,?_⟩,fun h6=>⟨fun h7=>⟨fun _=>⟨_,c31 H.toHas03 (by omega),?_,?_,?_⟩,fun h'=>absurd h7 (of_decide_eq_false h')⟩,fun h7=>⟨fun h'=>⟨_,c31 H.toHas03 (by omega),?_,?_,?_⟩,fun h'=>?_⟩⟩⟩⟩
   case refine_5 | refine_8 | refine_11 | refine_14=>
    unfold shownQ
    first
    | rw [if_neg (by omega),if_pos (by omega)]
    | rw [if_neg (by omega),if_neg (by omega),if_pos (by omega)]
    | (have:=of_decide_eq_true h';rw [if_neg (by omega),if_neg (by omega),if_neg (by omega),if_pos (by omega)])
    | rw [if_neg (by omega),if_neg (by omega),if_neg (by omega),if_pos (by omega)]
   case refine_15=>
    have:=of_decide_eq_false h'
    unfold shownQ
    rw [if_pos (by omega)]
   all_goals (rw [maxStr_eq];simp only [List.length_append,List.length_cons,List.length_nil];omega)
  unfold T259_0
  refine ⟨_,c263 H,by omega,_,wordsQ_at (by omega) k8,fun h=>t1 _ (by rw [decide_eq_true_eq];omega),fun h2=>⟨fun h=>t1 _ (by rw [decide_eq_true_eq];omega),fun h4=>t1 _ (by rw [decide_eq_true_eq];omega)⟩⟩)
 exact h
theorem c243 {q:Qry} (hk:-9223372036854775808≤q.key∧q.key<9223372036854775808):Pus prog 243 [q.av] (.tup [.s (txtQ q).1,.i .i64 (txtQ q).2]):=by
 obtain ⟨x,y,⟨rfl,rfl⟩,h⟩:=p243 H.f243 (q0:=q) (K:=fun x y=>x=(txtQ q).1∧y=(txtQ q).2) (by
  unfold T243_0 T243_1
  refine ⟨_,c247 H q,fun h=>?_,fun h=>?_⟩
  ·have h':¬okQ q=true:=fun e=>h (chkQ_iff.2 e)
   unfold txtQ chkQ
   rw [if_neg h',if_neg h']
   exact ⟨rfl,rfl⟩
  have ho:okQ q=true:=chkQ_iff.1 (Decidable.not_not.1 h)
  have et:txtQ q=(shownQ q,0):=by unfold txtQ;rw [if_pos ho]
  rw [et]
  obtain ⟨k1,k8,_,hg,hk',hn⟩:=okQ_iff.1 ho
  have l1:=word_len (k:=q.kind)
  have l2:=num_len q.g
  have l3:=num_len q.k
  have l4:=num_len q.key
  have l5:=quo_len q.name
  have t4 :∀t,q.kind≠1→q.kind≠3→q.kind≠6→(t=true↔q.kind=7∨q.kind=8)→T243_4 prog (fun x y=>x=shownQ q∧y=0) (wordM q.kind) t q:=fun t h1 h3 h6 ht=>by
   unfold T243_4 T243_3
   have eq:quoR q.name=(quo q.name,0):=by unfold quoR;rw [if_neg (by omega)]
   refine ⟨fun h=>⟨_,_,c11 H.toHas03 q.name,fun h'=>?_,fun _=>⟨?_,?_,?_,rfl⟩⟩,fun h=>⟨_,c258 H (by omega) (by omega),?_,?_,?_,rfl⟩⟩
   case refine_1=>rw [eq] at h';exact absurd rfl h'
   case refine_4=>
    have:=ht.1 h
    unfold shownQ
    rw [if_neg h1,if_neg h3,if_neg h6,if_pos this,eq]
   case refine_7=>
    have:¬(q.kind=7∨q.kind=8):=fun h'=>by rw [ht.2 h'] at h;cases h
    unfold shownQ
    rw [if_neg h1,if_neg h3,if_neg h6,if_neg this]
   all_goals (rw [maxStr_eq];(try rw [eq]);simp only [List.length_append,List.length_cons,List.length_nil];omega)
  unfold T243_2
  refine ⟨fun h1=>?_,fun h1=>⟨fun h3=>⟨_,c258 H (by omega) (by omega),?_,?_,_,c258 H (by omega) (by omega),?_,?_,?_⟩,fun h3=>⟨fun h6=>⟨_,c15 H.toHas03 hk.1 hk.2,?_,?_,?_⟩,fun h6=>⟨fun h7=>t4 _ h1 h3 h6 (by rw [decide_eq_true_eq];omega),fun h7=>t4 _ h1 h3 h6 (by rw [decide_eq_true_eq];omega)⟩⟩⟩⟩
  case refine_1=>
   unfold T243_3 shownQ
   rw [if_pos h1]
   exact ⟨rfl,rfl⟩
  case refine_6=>
   unfold T243_3 shownQ
   rw [if_neg h1,if_pos h3]
   exact ⟨rfl,rfl⟩
  case refine_9=>
   unfold T243_3 shownQ
   rw [if_neg h1,if_neg h3,if_pos h6]
   exact ⟨rfl,rfl⟩
  all_goals (rw [maxStr_eq];simp only [List.length_append,List.length_cons,List.length_nil];omega))
 exact h
theorem c245 (s:Bytes):Pus prog 245 [.s s] (.tup [(rdTQ s).1.av,.i .i64 (rdTQ s).2]):=by
 obtain ⟨x,y,⟨rfl,rfl⟩,h⟩:=p245 H.f245 (s0:=s) (K:=fun x y=>x=(rdTQ s).1∧y=(rdTQ s).2) (by
  unfold T245_0
  refine ⟨fun h=>?_,fun h=>?_⟩
  ·unfold rdTQ
   rw [if_pos (by omega)]
   exact ⟨rfl,rfl⟩
  have hl:¬2000<s.length:=by omega
  have hr:(cutS s).2.1.length≤1000000000:=by unfold cutS;split<;>simp<;>omega
  have no:¬((gotQ s).2=true∧okQ (gotQ s).1=true∧shownQ (gotQ s).1=s)→rdTQ s=(qz,12):=fun h=>by
   unfold rdTQ
   rw [if_neg hl,if_neg h]
  refine ⟨_,_,_,c260 H (by omega),_,c257 H,_,_,c261 H hr,fun h=>?_,fun h=>⟨_,_,c243 H (gotQ_key s),fun h'=>?_,fun h'=>⟨fun h2=>?_,fun h2=>?_⟩⟩⟩
  ·have h:(!(gotQ s).2)=true:=h
   rw [no fun h'=>by rw [h'.1] at h;cases h]
   exact ⟨rfl,rfl⟩
  ·have h':(txtQ (gotQ s).1).2≠0:=h'
   rw [no fun h2=>by unfold txtQ at h';rw [if_pos h2.2.1] at h';exact h' rfl]
   exact ⟨rfl,rfl⟩
  ·have h':¬(txtQ (gotQ s).1).2≠0:=h'
   have h2:(txtQ (gotQ s).1).1≠s:=h2
   rw [no fun h3=>by unfold txtQ at h2;rw [if_pos h3.2.1] at h2;exact h2 h3.2.2]
   exact ⟨rfl,rfl⟩
  ·have h:(!(gotQ s).2)=false:=h
   have h':¬(txtQ (gotQ s).1).2≠0:=h'
   have h2:¬(txtQ (gotQ s).1).1≠s:=h2
   have ho:okQ (gotQ s).1=true:=by
    rcases Bool.eq_false_or_eq_true (okQ (gotQ s).1) with e | e
    ·exact e
    ·unfold txtQ at h'
     rw [e] at h'
     exact absurd (show (8:Int)≠0 by decide) h'
   unfold txtQ at h2
   rw [if_pos ho] at h2
   unfold rdTQ
   rw [if_neg hl,if_pos ⟨by simpa using h,ho,Decidable.not_not.1 h2⟩]
   exact ⟨rfl,rfl⟩)
 exact h
theorem c246 (s:Bytes):Pus prog 246 [.s s] (.tup [(rdTQ s).1.av,.i .i64 (rdTQ s).2]):=by
 obtain ⟨x,y,⟨rfl,rfl⟩,h⟩:=p246 H.f246 (s0:=s) (K:=fun x y=>x=(rdTQ s).1∧y=(rdTQ s).2) (by
  unfold T246_0 T246_1
  refine ⟨fun h=>?_,fun h=>?_⟩
  ·unfold rdTQ
   rw [if_pos (by omega)]
   exact ⟨rfl,rfl⟩
  have hl:¬2000<s.length:=by omega
  have hr:(cutS s).2.1.length≤1000000000:=by unfold cutS;split<;>simp<;>omega
  unfold T246_2
  refine ⟨_,_,c262 H (by omega),?_⟩
  unfold T246_3 T246_4
  intro P0 hP
  refine loop_inv0 (P:=fun i=>P0 (i+1) qz) 8 (fun i=>∀k:Int,1≤k→k≤i→wordM k=(cutS s).1→okQ (refQ k (cutS s).2.1)=true→shownQ (refQ k (cutS s).2.1)=s→False) (fun k h1 h0=>by omega) (fun hI=>hP _ _ ?_) fun i hi hI next=>hP _ _ ?_
  ·unfold T246_5 T246_13
   refine ⟨fun h=>absurd h (by omega),fun _=>?_⟩
   rw [ref_none hl hI]
   exact ⟨rfl,rfl⟩
  have nx :∀kk:Int,kk=(i:Int)+1→¬(wordM kk=(cutS s).1∧okQ (refQ kk (cutS s).2.1)=true∧shownQ (refQ kk (cutS s).2.1)=s)→T246_7 prog (fun x y=>x=(rdTQ s).1∧y=(rdTQ s).2) P0 s (cutS s).1 (cutS s).2.1 kk qz:=fun kk hkk hn=>by
   unfold T246_7
   rw [hkk,wr_u8 (by omega) (by omega)]
   refine next fun k h1 h2=>?_
   by_cases e:k=(i:Int)+1
   ·rw [← hkk] at e
    subst e
    exact fun a b c=>hn ⟨a,b,c⟩
   ·exact hI k h1 (by have h2:k≤((i+1:Nat):Int):=h2;omega)
  generalize hkk:(i:Int)+1=kk
  have nx:=nx kk hkk.symm
  have k1:1≤kk:=by omega
  have k8:kk≤8:=by omega
  unfold T246_5 T246_6
  refine ⟨fun _=>⟨_,c263 H,by omega,_,wordsQ_at (by omega) k8,fun hne=>nx fun h'=>hne h'.1,fun he=>?_⟩,fun h=>absurd k8 h⟩
  have t11 :∀m,m=refQ kk (cutS s).2.1→T246_11 prog (fun x y=>x=(rdTQ s).1∧y=(rdTQ s).2) P0 s (cutS s).1 (cutS s).2.1 kk qz m:=fun m hm=>by
   unfold T246_11
   have hky:=refQ_key kk (cutS s).2.1
   rw [← hm] at hky
   rw [← hm] at nx
   refine ⟨_,c248 H m,fun h=>⟨_,c259 H (okQ_iff.1 (chkQ_iff.1 h)) hky,fun e=>?_,fun e=>nx fun h'=>e h'.2.2⟩,fun h=>nx fun h'=>h (chkQ_iff.2 h'.2.1)⟩
   rw [ref_found hl (chkQ_iff.1 h) hky e]
   exact ⟨rfl,rfl⟩
  have t10 :∀t,(t=true↔kk=2∨kk=4∨kk=5∨kk=3)→T246_10 prog (fun x y=>x=(rdTQ s).1∧y=(rdTQ s).2) P0 s (cutS s).1 (cutS s).2.1 kk kk t qz ⟨kk,0,0,0,[]⟩:=fun t ht=>by
   unfold T246_10
   refine ⟨fun h=>⟨_,_,c262 H hr,_,_,c22 H.toHas03 _,fun h3=>⟨_,_,c22 H.toHas03 _,t11 _ ?_⟩,fun h3=>t11 _ ?_⟩,fun h=>?_⟩
   ·unfold refQ
    rw [if_neg (by omega),if_pos h3]
   ·have:=ht.1 h
    unfold refQ
    rw [if_pos (by omega)]
   have hg:¬(kk=2∨kk=4∨kk=5∨kk=3):=fun h'=>by rw [ht.2 h'] at h;cases h
   have t12 :∀t,(t=true↔kk=7∨kk=8)→kk≠6→T246_12 prog (fun x y=>x=(rdTQ s).1∧y=(rdTQ s).2) P0 s (cutS s).1 (cutS s).2.1 kk t qz ⟨kk,0,0,0,[]⟩:=fun t ht h6=>by
    unfold T246_12
    refine ⟨fun h=>⟨_,_,c26 H.toHas03 _,t11 _ ?_⟩,fun h=>t11 _ ?_⟩
    ·have:=ht.1 h
     unfold refQ
     rw [if_neg (by omega),if_neg (by omega),if_neg (by omega),if_pos this]
    ·have:¬(kk=7∨kk=8):=fun h'=>by rw [ht.2 h'] at h;cases h
     unfold refQ
     rw [if_neg (by omega),if_neg (by omega),if_neg (by omega),if_neg this]
   refine ⟨fun h6=>⟨_,_,c22 H.toHas03 _,t11 _ ?_⟩,fun h6=>⟨fun h7=>t12 _ (by rw [decide_eq_true_eq];omega) h6,fun h7=>t12 _ (by rw [decide_eq_true_eq];omega) h6⟩⟩
   unfold refQ
   rw [if_neg (by omega),if_neg (by omega),if_pos h6]
  unfold T246_8 T246_9
  exact ⟨fun h=>t10 _ (by rw [decide_eq_true_eq];omega),fun h2=>⟨fun h=>t10 _ (by rw [decide_eq_true_eq];omega),fun h4=>⟨fun h=>t10 _ (by rw [decide_eq_true_eq];omega),fun h5=>t10 _ (by rw [decide_eq_true_eq];omega)⟩⟩⟩)
 exact h
end
end Go.AM

namespace Go.AM
open Go
section
variable {f:Bytes→Val × Bool × Bytes} {kind:Int} {e:UInt8}
end
theorem len0 {α:Type} {l:List α} (h:l.length=0):l=[]:=List.length_eq_zero_iff.1 h
theorem fine_ok {v:Val} (h:fine v=true):okv 130 v=true∧v.nodes≤5000:=by
 simpa [fine] using h
noncomputable def sameV (v w:Val):Bool:=@decide (v=w) (Classical.propDecidable _)
theorem sameV_true {v w:Val}:sameV v w=true↔v=w:=by unfold sameV;simp
theorem sameV_false {v w:Val}:sameV v w=false↔v≠w:=by
 rw [← Bool.not_eq_true,sameV_true]
end Go.AM

namespace Go.AM
open Go
theorem bv_split {x m c:BitVec 64} (h:x &&& ~~~m=c):x=c ||| (x &&& m):=by
 subst h
 apply BitVec.eq_of_getLsbD_eq
 intro i hi
 simp only [BitVec.getLsbD_or,BitVec.getLsbD_and,BitVec.getLsbD_not,hi,decide_true,Bool.true_and]
 cases x.getLsbD i<;>cases m.getLsbD i<;>rfl
theorem bv_two (x:BitVec 64) (i:Nat):x &&& BitVec.twoPow 64 i=BitVec.twoPow 64 i∨x &&& BitVec.twoPow 64 i=0#64:=by
 rw [BitVec.and_twoPow]
 split
 ·exact .inl rfl
 ·exact .inr rfl
theorem wrap_toNat (x:BitVec 64):IntKind.u64.wrap (x.toNat:Int)=(x.toNat:Int):=wr_u64_nat x.isLt
theorem ofInt_toNat {f:Int} (h:0≤f∧f<18446744073709551616):f=((BitVec.ofInt 64 f).toNat:Int):=by
 rw [BitVec.toNat_ofInt];omega
theorem flag2 {f:Int} (h:0≤f∧f<18446744073709551616):bAndNot .u64 f 4=2↔f=2∨f=6:=by
 constructor
 ·intro h1
  have h1:IntKind.u64.wrap ((BitVec.ofInt 64 f &&& ~~~(BitVec.ofInt 64 4)).toNat:Int)=2:=h1
  rw [wrap_toNat] at h1
  have h2:BitVec.ofInt 64 f &&& ~~~(BitVec.ofInt 64 4)=2#64:=BitVec.eq_of_toNat_eq (by rw [show (2#64).toNat=2 from rfl];omega)
  have h3:=bv_split h2
  rw [show BitVec.ofInt 64 4=BitVec.twoPow 64 2 from by decide] at h3
  rcases bv_two (BitVec.ofInt 64 f) 2 with h4 | h4<;>rw [h4] at h3<;>have h5:=ofInt_toNat h<;>rw [h3] at h5
  ·exact .inr h5
  ·exact .inl h5
 ·rintro (rfl | rfl)<;>decide
theorem flag0 {f:Int} (h:0≤f∧f<18446744073709551616):bAndNot .u64 f 5=0↔f=0∨f=1∨f=4∨f=5:=by
 constructor
 ·intro h1
  have h1:IntKind.u64.wrap ((BitVec.ofInt 64 f &&& ~~~(BitVec.ofInt 64 5)).toNat:Int)=0:=h1
  rw [wrap_toNat] at h1
  have h2:BitVec.ofInt 64 f &&& ~~~(BitVec.ofInt 64 5)=0#64:=BitVec.eq_of_toNat_eq (by rw [show (0#64).toNat=0 from rfl];omega)
  have h3:=bv_split h2
  have e:BitVec.ofInt 64 f &&& BitVec.ofInt 64 5=(BitVec.ofInt 64 f &&& BitVec.twoPow 64 2) ||| (BitVec.ofInt 64 f &&& BitVec.twoPow 64 0):=by
   rw [show BitVec.ofInt 64 5=BitVec.twoPow 64 2 ||| BitVec.twoPow 64 0 from by decide]
   apply BitVec.eq_of_getLsbD_eq
   intro i hi
   simp only [BitVec.getLsbD_or,BitVec.getLsbD_and]
   cases (BitVec.ofInt 64 f).getLsbD i<;>rfl
  rw [e] at h3
  have h5:=ofInt_toNat h
  rcases bv_two (BitVec.ofInt 64 f) 2 with h4 | h4<;>rcases bv_two (BitVec.ofInt 64 f) 0 with h6 | h6<;>rw [h4,h6] at h3<;>rw [h3] at h5
  ·exact .inr (.inr (.inr h5))
  ·exact .inr (.inr (.inl h5))
  ·exact .inr (.inl h5)
  ·exact .inl h5
 ·rintro (rfl | rfl | rfl | rfl)<;>decide
def tExit:Bytes:=[101,120,105,116]
def tPan:Bytes:=[112,97,110,105,99,32]
def tRec:Bytes:=[32,114,101,99,111,118,101,114,101,100]
def tAb:Bytes:=[32,97,98,111,114,116,101,100]
def tF1:Bytes:=[102,97,117,108,116,32,49,58,32,100,105,118,105,115,105,111,110,32,98,121,32,122,101,114,111]
def tF2:Bytes:=[102,97,117,108,116,32,50,58,32,110,105,108,32,112,111,105,110,116,101,114]
def tF3:Bytes:=[102,97,117,108,116,32,51,58,32,111,117,116,32,111,102,32,114,97,110,103,101]
def faultT (n:Int):Bytes:=if n=1 then tF1 else if n=2 then tF2 else if n=3 then tF3 else []
def kindT (t:Int):Int:=if t=1 then 2 else if t=2 then 1 else if t=3 then 3 else if t=4 then 2 else 0
structure WfP (p:Pan):Prop where
 t:0≤p.tag∧p.tag<18446744073709551616
 v:Wf p.value
 f:0≤p.flags∧p.flags<18446744073709551616
def isZ (v:Val):Bool:=decide (v.kind=0)&&decide (v.int=0)&&decide (v.text=[])&&decide (v.list.length=0)&&!v.cut
theorem isZ_true {v:Val}:isZ v=true↔v=vz:=by
 unfold isZ
 simp only [Bool.and_eq_true,decide_eq_true_eq,Bool.not_eq_true',and_assoc,List.length_eq_zero_iff]
 cases v with
 | mk k n s l c=>simp
def okP (p:Pan):Bool:=decide (p.tag≤4)&&decide (p.value.kind=kindT p.tag)&&(if p.tag=0 then isZ p.value&&decide (p.flags=2∨p.flags=6)
 else decide (p.flags=0∨p.flags=1∨p.flags=4∨p.flags=5)&&decide (p.tag=4→1≤p.value.int∧p.value.int≤3)&&fine p.value)
def chkP (p:Pan):Int:=if okP p=true then 0 else 8
def baseP (p:Pan):Bytes:=if p.tag=0 then tExit else if p.tag=4 then faultT p.value.int else tPan++txt p.value
def sufP (f:Int):Bytes:=(if f % 2=1 then tRec else [])++(if 4≤f then tAb else [])
def shown (p:Pan):Bytes:=baseP p++sufP p.flags
def lnP (p:Pan):Bytes × Int:=if okP p=true then (shown p,0) else ([],8)
end Go.AM

namespace Go.AM
open Go
theorem okP_flags {p:Pan} (h:okP p=true):(p.tag=0∧p.value=vz∧(p.flags=2∨p.flags=6))∨(p.tag≠0∧fine p.value=true∧(p.flags=0∨p.flags=1∨p.flags=4∨p.flags=5)):=by
 unfold okP at h
 simp only [Bool.and_eq_true,decide_eq_true_eq] at h
 obtain ⟨⟨h1,h2⟩,h3⟩:=h
 by_cases t0:p.tag=0
 ·rw [if_pos t0] at h3
  simp only [Bool.and_eq_true,decide_eq_true_eq] at h3
  exact .inl ⟨t0,isZ_true.1 h3.1,h3.2⟩
 ·rw [if_neg t0] at h3
  simp only [Bool.and_eq_true,decide_eq_true_eq] at h3
  exact .inr ⟨t0,h3.2,h3.1.1⟩
theorem txt_small {v:Val} (h:fine v=true) (hk:v.kind=1∨v.kind=2∨v.kind=3):(txt v).length≤300:=by
 have h7:=okv_head (fine_ok h).1
 unfold Val.okh Okh at h7
 have h8:=num_len v.int
 have h9:=quo_len v.text
 rw [txt_eq]
 rcases hk with h | h | h<;>rw [h]
 ·rw [if_pos rfl];split<;>decide
 ·show (num v.int).length≤300;omega
 ·show (quo v.text).length≤300;omega
theorem okP_kind {p:Pan} (h:okP p=true) (h0:p.tag≠0):p.value.kind=1∨p.value.kind=2∨p.value.kind=3:=by
 have hf:fine p.value=true:=by rcases okP_flags h with h | h;exact absurd h.1 h0;exact h.2.1
 unfold okP at h
 simp only [Bool.and_eq_true,decide_eq_true_eq] at h
 have h2:=h.1.2
 have h7:=okv_head (fine_ok hf).1
 unfold Val.okh Okh at h7
 unfold kindT at h2
 repeat' split at h2
 all_goals omega
theorem shown_len {p:Pan} (h:okP p=true):(shown p).length≤400:=by
 have hs:(sufP p.flags).length≤18:=by unfold sufP;split<;>split<;>decide
 have hb:(baseP p).length≤310:=by
  unfold baseP
  by_cases t0:p.tag=0
  ·rw [if_pos t0];decide
  rw [if_neg t0]
  split
  ·unfold faultT;repeat' split
   all_goals decide
  ·have hf:fine p.value=true:=by rcases okP_flags h with h | h;exact absurd h.1 t0;exact h.2.1
   have:=txt_small hf (okP_kind h t0)
   rw [List.length_append,show tPan.length=6 from rfl];omega
 unfold shown
 rw [List.length_append];omega
end Go.AM

namespace Go.AM
open Go
structure Has38 (prog:Prog):Prop extends Has03 prog,HasB prog where
 f71:prog.fn 71=some pf71
 f72:prog.fn 72=some pf72
 f76:prog.fn 76=some pf76
 f77:prog.fn 77=some pf77
 f78:prog.fn 78=some pf78
 f102:prog.fn 102=some pf102
 f103:prog.fn 103=some pf103
 f104:prog.fn 104=some pf104
 f106:prog.fn 106=some pf106
 f109:prog.fn 109=some pf109
 f110:prog.fn 110=some pf110
 f127:prog.fn 127=some pf127
 f136:prog.fn 136=some pf136
section
variable {prog:Prog} (H:Has38 prog)
include H
theorem c136 (v:Val):Pus prog 136 [v.av] (.b (decide (v.list.length=0∧v.cut=false))):=by
 obtain ⟨x,rfl,h⟩:=p136 H.f136 (v0:=v) (K:=fun x=>x=decide (v.list.length=0∧v.cut=false)) (by
  unfold T136_0
  refine ⟨fun h=>?_,fun h=>?_⟩
  ·cases v.cut
   ·exact (decide_eq_true ⟨by omega,rfl⟩).symm
   ·exact (decide_eq_false (by rintro ⟨_,h⟩;cases h)).symm
  ·exact (decide_eq_false (by rintro ⟨h1,_⟩;omega)).symm)
 exact h
theorem c102 :∀(d:Nat) {v:Val},Wf v→d≤1000→Pus prog 102 [v.av,.i .i64 (d:Int)] (.b (deepv d v))
 | 0,v,hw,hd=>by
  obtain ⟨x,rfl,h⟩:=p102 H.f102 (v0:=v) (most1:=((0:Nat):Int)) (K:=fun x=>x=deepv 0 v) (by
   unfold T102_0
   exact ⟨fun _=>rfl,fun h=>absurd rfl h⟩)
  exact h
 | d+1,v,hw,hd=>by
  have ih:=@c102 d
  obtain ⟨x,rfl,h⟩:=p102 H.f102 (v0:=v) (most1:=((d+1:Nat):Int)) (K:=fun x=>x=deepv (d+1) v) (by
   have hm:IntKind.i64.wrap (((d+1:Nat):Int)-1)=(d:Int):=by rw [wr_i64 (by omega) (by omega)];omega
   unfold T102_0
   refine ⟨fun h=>absurd h (by omega),fun _=>⟨fun h=>?_,fun h1=>⟨fun h=>?_,fun h2 P hP=>?_⟩⟩⟩
   ·rw [deepv,decide_eq_true (show 100<v.text.length by omega)];rfl
   ·rw [deepv,decide_eq_true (show 400<v.list.length by omega),Bool.or_true];rfl
   ·have e:deepv (d+1) v=v.list.any (deepv d):=by
     rw [deepv,decide_eq_false (by omega),decide_eq_false (by omega)];rfl
    refine loop_inv (P:=fun _ i=>P i v) (fun _=>()) v.list.length (fun i=>(v.list.take i).any (deepv d)=false) (by simp) (fun hI=>?_) (fun i hi hI ihP=>?_)
    ·apply hP
     unfold T102_1 T102_2
     refine ⟨fun h=>absurd h (by omega),fun _=>?_⟩
     rw [List.take_length] at hI
     rw [e,hI]
    ·apply hP
     unfold T102_1
     refine ⟨fun _=>⟨by omega,_,get_at hi,_,by rw [hm];exact ih (hw.e _ (List.getElem_mem hi)) (by omega),fun h3=>?_,fun h3=>?_⟩,fun h=>absurd (show (i:Int)<v.list.length by omega) h⟩
     ·rw [e]
      exact (List.any_eq_true.2 ⟨_,List.getElem_mem hi,h3⟩).symm
     ·rw [wr_succ (by omega)]
      refine ihP ?_
      rw [List.take_succ_eq_append_getElem hi,List.any_append,hI]
      simpa using h3)
  exact h
omit H in
theorem rNs_snoc {l:List Val} {i n:Nat} (hi:i<l.length) (hn:rNs (l.take i) n≤5000):rNs (l.take (i+1)) n=rNs (l.take i) n+rN l[i]:=by
 have key :∀(l:List Val) (v:Val) (n:Nat),rNs l n≤5000→rNs (l++[v]) n=rNs l n+rN v:=by
  intro l
  induction l with
  | nil=>intro v n h;rw [rNs] at h;simp [rNs,h]
  | cons w l ih=>
   intro v n h
   rw [rNs] at h
   by_cases hn:n≤5000
   ·rw [if_pos hn] at h
    simp only [List.cons_append,rNs,if_pos hn]
    exact ih v _ h
   ·rw [if_neg hn] at h
    exact absurd h hn
 rw [List.take_succ_eq_append_getElem hi,key _ _ _ hn]
omit H in
theorem rNs_stop {l:List Val} {i n:Nat} (h:5000<rNs (l.take i) n):rNs l n=rNs (l.take i) n:=by
 have key :∀(l m:List Val) (n:Nat),5000<rNs l n→rNs (l++m) n=rNs l n:=by
  intro l
  induction l with
  | nil=>
   intro m n h
   rw [rNs] at h
   cases m with
   | nil=>rfl
   | cons w m=>simp only [List.nil_append,rNs];rw [if_neg (by omega)]
  | cons w l ih=>
   intro m n h
   rw [rNs] at h
   simp only [List.cons_append,rNs]
   split
   ·rename_i hn;rw [if_pos hn] at h;exact ih m _ h
   ·rfl
 have:=key (l.take i) (l.drop i) n h
 rwa [List.take_append_drop] at this
theorem c103 :∀(d:Nat) {v:Val},Sm d v→d≤1000→Pus prog 103 [v.av] (.i .i64 (rN v:Int))
 | 0,v,hs,hd=>hs.elim
 | d+1,v,hs,hd=>by
  have ih:=@c103 d
  obtain ⟨x,rfl,h⟩:=p103 H.f103 (v0:=v) (K:=fun x=>x=(rN v:Int)) (by
   unfold T103_0
   intro P hP
   have e:=rN_eq v
   refine loop_inv (P:=fun n i=>P n i v) (fun i=>(rNs (v.list.take i) 1:Int)) v.list.length (fun _=>True) trivial (fun _=>?_) (fun i hi _ ihP=>?_)
   ·apply hP
    unfold T103_1 T103_2
    refine ⟨fun h=>absurd h (by omega),fun _=>?_⟩
    rw [List.take_length,e]
   ·apply hP
    unfold T103_1 T103_2
    refine ⟨fun _=>⟨fun h=>⟨by omega,_,get_at hi,_,ih (hs.2 _ (List.getElem_mem hi)) (by omega),?_⟩,fun h=>?_⟩,fun h=>absurd (show (i:Int)<v.list.length by omega) h⟩
    ·have h1:=rN_le (hs.2 _ (List.getElem_mem hi))
     have h2:=hs.1
     have h3:=rNs_snoc (l:=v.list) (n:=1) hi (by omega)
     have:=ihP trivial
     rw [h3] at this
     rw [wr_i64 (by omega) (by omega),wr_succ (by omega)]
     simpa using this
    ·rw [e,rNs_stop (i:=i) (by omega)])
  exact h
theorem c71 {v:Val} (hw:Wf v):Pus prog 71 [v.av] (.b (greatv v)):=by
 obtain ⟨x,rfl,h⟩:=p71 H.f71 (v0:=v) (K:=fun x=>x=greatv v) (by
  unfold T71_0 greatv
  refine ⟨_,c102 H 14 hw (by decide),fun h=>by rw [h];rfl,fun h=>⟨_,c103 H 14 (deepv_sm h) (by decide),?_⟩⟩
  rw [h,Bool.false_or]
  exact decide_eq_decide.2 (by omega))
 exact h
end
end Go.AM

namespace Go.AM
open Go
theorem bAnd1 (n:Int):bAnd .i64 n 1=n % 2:=by
 unfold bAnd
 have h1:(BitVec.ofInt IntKind.i64.bits n &&& BitVec.ofInt IntKind.i64.bits 1).toNat=(n % 2).toNat:=by
  show (BitVec.ofInt 64 n &&& BitVec.ofInt 64 1).toNat=_
  rw [BitVec.toNat_and]
  have h2:(BitVec.ofInt 64 1).toNat=2 ^ 1-1:=by decide
  rw [h2,Nat.and_two_pow_sub_one_eq_mod,BitVec.toNat_ofInt]
  omega
 rw [h1,wr_i64 (by omega) (by omega)]
 omega
theorem cut_cases (v:Val):(v.cut=true∧v.cut.toNat=1)∨(v.cut=false∧v.cut.toNat=0):=by cases v.cut<;>simp
theorem okv_succ (d:Nat) (v:Val):okv (d+1) v=(decide v.okh&&v.list.all (okv d)):=rfl
theorem okv_no {d:Nat} {v:Val} (h:¬v.okh):okv (d+1) v=false:=by rw [okv_succ,decide_eq_false h];rfl
theorem okv_yes {d:Nat} {v:Val} (h:v.okh):okv (d+1) v=v.list.all (okv d):=by rw [okv_succ,decide_eq_true h];rfl
theorem okv_leaf {d:Nat} {v:Val} (h:v.list.length=0) (p:Prop) [Decidable p] (hp:p↔v.okh):decide p=okv (d+1) v:=by
 rw [okv_succ,decide_eq_decide.2 hp,show v.list.all (okv d)=true by rw [len0 h];rfl,Bool.and_true]
section
variable {prog:Prog} (H:Has38 prog)
include H
set_option maxHeartbeats 1000000 in
theorem c110 :∀(d:Nat) {v:Val},Wf v→d≤1000→Pus prog 110 [v.av,.i .i64 (d:Int)] (.b (okv d v))
 | 0,v,hw,hd=>by
  obtain ⟨x,rfl,h⟩:=p110 H.f110 (v0:=v) (deep1:=((0:Nat):Int)) (K:=fun x=>x=okv 0 v) (by
   unfold T110_0 T110_1
   exact ⟨fun _=>rfl,fun h=>absurd rfl h⟩)
  exact h
 | d+1,v,hw,hd=>by
  have ih:=@c110 d
  obtain ⟨x,rfl,h⟩:=p110 H.f110 (v0:=v) (deep1:=((d+1:Nat):Int)) (K:=fun x=>x=okv (d+1) v) (by
   have hm:IntKind.i64.wrap (((d+1:Nat):Int)-1)=(d:Int):=by rw [wr_i64 (by omega) (by omega)];omega
   have ht:v.text=[]↔v.text.length=0:=List.length_eq_zero_iff.symm
   have no:¬v.okh→false=okv (d+1) v:=fun h=>(okv_no h).symm
   have hl:=hw.l
   have lp:v.okh→∀P:Int→Val→Prop,(∀(i6:Int) (m0:Val),T110_8 prog (fun x=>x=okv (d+1) v) P ((d+1:Nat):Int) i6 m0→P i6 m0)→P 0 v:=by
    intro ho P hP
    have e:=okv_yes (d:=d) ho
    refine loop_inv (P:=fun _ i=>P i v) (fun _=>()) v.list.length (fun i=>(v.list.take i).all (okv d)=true) (by simp) (fun hI=>?_) (fun i hi hI ihP=>?_)
    ·apply hP
     unfold T110_8 T110_9
     refine ⟨fun h=>absurd h (by omega),fun _=>?_⟩
     rw [List.take_length] at hI
     rw [e,hI]
    ·apply hP
     unfold T110_8
     refine ⟨fun _=>⟨by omega,_,get_at hi,_,by rw [hm];exact ih (hw.e _ (List.getElem_mem hi)) (by omega),fun h3=>?_,fun h3=>?_⟩,fun h=>absurd (show (i:Int)<v.list.length by omega) h⟩
     ·rw [e]
      refine (List.all_eq_false.2 ⟨_,List.getElem_mem hi,?_⟩).symm
      simpa using h3
     ·rw [wr_i64 (by omega) (by omega)]
      refine ihP ?_
      rw [List.take_succ_eq_append_getElem hi,List.all_append,hI]
      simpa using h3
   have leaf:v.list.length=0→∀(p:Prop) [Decidable p],(p↔v.okh)→decide p=okv (d+1) v:=fun h p _ hp=>okv_leaf h p hp
   have leafT:v.list.length=0→v.okh→true=okv (d+1) v:=fun h hp=>by rw [← leaf h True (by simpa using hp)];simp
   unfold T110_0 T110_1 T110_2 T110_3 T110_4 T110_5 T110_6 T110_7
   simp only [ht,ne_eq]
   refine ⟨fun h=>absurd h (by omega),fun _=>?_⟩
   rcases cut_cases v with ⟨hc,hcn⟩ | ⟨hc,hcn⟩
   all_goals
    refine ⟨fun _=>⟨_,c136 H v,?_,?_⟩,fun _=>⟨fun _=>⟨_,c136 H v,?_,?_⟩,fun _=>⟨fun _=>⟨_,c136 H v,?_,?_⟩,?_⟩⟩⟩
   all_goals simp only [hc,decide_eq_true_eq,decide_eq_false_iff_not,reduceCtorEq,false_imp_iff,true_imp_iff,and_true,true_and,and_false]
   all_goals repeat' first | refine ⟨fun _=>?_,fun _=>?_⟩ | (intro h)
   all_goals first
    | exact no (by unfold Val.okh Okh;omega)
    | exact leafT (by omega) (by unfold Val.okh Okh;omega)
    | exact leaf (by omega) _ (by unfold Val.okh Okh;omega)
    | exact lp (by unfold Val.okh Okh;omega) _ ‹_›
    | (exfalso;omega))
  exact h
end
end Go.AM

namespace Go.AM
open Go
section
variable {prog:Prog} (H:Has38 prog)
include H
set_option maxHeartbeats 1000000 in
theorem c109 :∀(d:Nat) {v:Val},Wf v→d≤1000→Pus prog 109 [v.av,.i .i64 (d:Int)] (.tup [.i .i64 (cntR d v).1,.b (cntR d v).2])
 | 0,v,hw,hd=>by
  obtain ⟨x,y,⟨rfl,rfl⟩,h⟩:=p109 H.f109 (v0:=v) (nest1:=((0:Nat):Int)) (K:=fun x y=>x=(cntR 0 v).1∧y=(cntR 0 v).2) (by
   unfold T109_0 T109_1 T109_2 T109_3 T109_4
   have:cntR 0 v=(0,false):=by unfold cntR;rw [if_neg (by rintro ⟨h,_⟩;cases h)]
   rw [this]
   repeat' first | exact ⟨rfl,rfl⟩ | refine ⟨fun _=>?_,fun _=>?_⟩ | (intro h)
   all_goals exact absurd rfl ‹¬((0:Nat):Int)=0›)
  exact h
 | d+1,v,hw,hd=>by
  have ih:=@c109 d
  obtain ⟨x,y,⟨rfl,rfl⟩,h⟩:=p109 H.f109 (v0:=v) (nest1:=((d+1:Nat):Int)) (K:=fun x y=>x=(cntR (d+1) v).1∧y=(cntR (d+1) v).2) (by
   have hm:IntKind.i64.wrap (((d+1:Nat):Int)-1)=(d:Int):=by rw [wr_i64 (by omega) (by omega)];omega
   have ht:v.text=[]↔v.text.length=0:=List.length_eq_zero_iff.symm
   have ht':[]=v.text↔v.text.length=0:=by rw [← ht];exact eq_comm
   have cno:¬(okv (d+1) v=true∧v.nodes≤5000)→cntR (d+1) v=(0,false):=fun h=>by unfold cntR;rw [if_neg h]
   have no:¬v.okh→(0:Int)=(cntR (d+1) v).1∧false=(cntR (d+1) v).2:=fun h=>by
    rw [cno (by rw [okv_no h];rintro ⟨h,_⟩;cases h)];exact ⟨rfl,rfl⟩
   have hl:=hw.l
   have hn:=nodes_eq v
   have lp:v.okh→∀P:Int→Int→Prop,(∀(sum10:Int) (t103:Int),T109_5 prog (fun x y=>x=(cntR (d+1) v).1∧y=(cntR (d+1) v).2) P ((d+1:Nat):Int) sum10 v.list (v.list.length:Int) t103→P sum10 t103)→P 1 0:=by
    intro ho P hP
    have e:=okv_yes (d:=d) ho
    refine loop_inv (P:=fun s i=>P s i) (fun i=>((1+Val.nodesL (v.list.take i):Nat):Int)) v.list.length (fun i=>(v.list.take i).all (okv d)=true∧1+Val.nodesL (v.list.take i)≤5000) (by simp [Val.nodesL]) (fun hI=>?_) (fun i hi hI ihP=>?_)
    ·apply hP
     unfold T109_5 T109_6
     refine ⟨fun h=>absurd h (by omega),fun _=>?_⟩
     rw [List.take_length] at hI ⊢
     unfold cntR
     rw [if_pos ⟨by rw [e];exact hI.1,by omega⟩,hn]
     exact ⟨rfl,rfl⟩
    ·apply hP
     unfold T109_5
     have hnt:=nodesL_take hi
     have hle:=nodesL_le (l:=v.list) (i+1)
     refine ⟨fun _=>⟨by omega,_,get_at hi,_,_,by rw [hm];exact ih (hw.e _ (List.getElem_mem hi)) (by omega),?_⟩,fun h=>absurd (show (i:Int)<v.list.length by omega) h⟩
     by_cases hc:okv d v.list[i]=true∧v.list[i].nodes≤5000
     ·rw [show cntR d v.list[i]=((v.list[i].nodes:Int),true) by unfold cntR;rw [if_pos hc]]
      refine ⟨fun h=>(by cases h),fun _=>⟨fun h=>?_,fun h=>?_⟩⟩
      ·rw [wr_i64 (by omega) (by omega)] at h
       rw [cno (by omega)]
       exact ⟨rfl,rfl⟩
      ·rw [wr_i64 (by omega) (by omega)] at h ⊢
       rw [wr_i64 (by omega) (by omega)]
       have:=ihP ⟨by rw [List.take_succ_eq_append_getElem hi,List.all_append,hI.1];simpa using hc.1,by omega⟩
       rw [hnt] at this
       rw [show ((1+Val.nodesL (v.list.take i):Nat):Int)+(v.list[i].nodes:Int)=((1+(Val.nodesL (v.list.take i)+v.list[i].nodes):Nat):Int) by omega]
       exact this
     ·rw [show cntR d v.list[i]=(0,false) by unfold cntR;rw [if_neg hc]]
      refine ⟨fun _=>?_,fun h=>(by cases h)⟩
      rw [cno (fun h=>hc ⟨okv_sub h.1 _ (List.getElem_mem hi),by have:=nodes_mem (List.getElem_mem hi);omega⟩)]
      exact ⟨rfl,rfl⟩
   unfold T109_0 T109_1 T109_2 T109_3 T109_4
   simp only [Val.int_mk,Val.text_mk,Val.cut_mk,Val.kind_mk,Val.list_mk,bAnd1,ht',ne_eq,not_true_eq_false,false_imp_iff,true_imp_iff,true_and,not_false_eq_true]
   rcases cut_cases v with ⟨hc,hcn⟩ | ⟨hc,hcn⟩
   all_goals simp only [hc,reduceCtorEq,false_imp_iff,true_imp_iff,not_true_eq_false,not_false_eq_true,true_and,and_true]
   all_goals repeat' first | refine ⟨fun _=>?_,fun _=>?_⟩ | (intro h)
   all_goals first
    | exact no (by unfold Val.okh Okh;omega)
    | exact lp (by unfold Val.okh Okh;omega) _ ‹_›
    | (exfalso;omega))
  exact h
theorem c76 {v:Val} (hw:Wf v):Pus prog 76 [v.av] (.i .i64 (chkR v)):=by
 obtain ⟨x,rfl,h⟩:=p76 H.f76 (v0:=v) (K:=fun x=>x=chkR v) (by
  unfold T76_0 chkR
  refine ⟨_,_,c109 H 130 hw (by decide),?_⟩
  unfold cntR fine
  by_cases h:okv 130 v=true∧v.nodes≤5000
  ·rw [if_pos h,if_pos (by simpa using h)]
   exact ⟨fun h=>(by cases h),fun _=>rfl⟩
  ·rw [if_neg h,if_neg (by simpa using h)]
   exact ⟨fun _=>rfl,fun h=>(by cases h)⟩)
 exact h
theorem c77 {v:Val} (hw:Wf v):Pus prog 77 [v.av] (.i .i64 (chkR v)):=by
 obtain ⟨x,rfl,h⟩:=p77 H.f77 (v0:=v) (K:=fun x=>x=chkR v) (by
  unfold T77_0 chkR fine
  refine ⟨_,c110 H 130 hw (by decide),fun h=>?_,fun h=>⟨_,c103 H 130 (okv_sm (by simpa using h)) (by decide),fun h1=>?_,fun h1=>?_⟩⟩
  ·rw [show okv 130 v=false by simpa using h];rfl
  ·have h2:=rN_spec v
   rw [show okv 130 v=true by simpa using h,decide_eq_false (by omega)];rfl
  ·have h2:=rN_spec v
   rw [show okv 130 v=true by simpa using h,decide_eq_true (by omega)];rfl)
 exact h
end
end Go.AM
