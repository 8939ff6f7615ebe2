/- Parts of the proof: U38f, U38g, U38h, U39a, U39b, U39c, U39d, U40a, U40b, U40c, U40d, U40e. -/
import Derived.Test.YtbcdfamilcmjnaaGreatG2
set_option linter.all false
namespace Go.AM
open Go
set_option linter.unusedVariables false
set_option linter.unusedSimpArgs false
set_option maxRecDepth 4000
set_option maxHeartbeats 2000000
attribute [local irreducible] Decidable.decide W WO fillCells fillRows
abbrev H81 (Q:AE→Sl→St→Prop)(K:Bool→Prop):Prop:=∀(σ:Sl)(st:St)(res0:Bool),σ 2=.b res0→K res0→Q .ret σ st
section
variable {prog:Prog}{d:Nat}{Q:AE→Sl→St→Prop}{K:Bool→Prop}(hQ:H81 Q K){σ:Sl}{st:St}
include hQ
end
def r79_0:List AI:=[oY 1 3 0,oC 2 (.b false)]
def r79_1:List AI:=[oI 3 0]
def r79_2:List AI:=[oM 6 3,oF 7 2 1,oL 8 7,oJ 9 8,oT 10 .lss 6 9,oM 11 10,gT 11 (oM 12 3),gT 11 (oV 13 .leq 12 40),oA 14 11 13]
def r79_3:List AI:=[oF 17 2 1,oL 18 17,oM 19 3,oX 20 7 18 19,oK 21 7 20,oO 4 (.alloc [zs,z6,z6,zl,zl,zl,zl]),oS 7 4 21]
def r79_4:List AI:=[oF 22 0 4,oL 23 22,oH 24 23,oV 25 .gtr 24 40,oM 26 25,gF 26 (oF 27 3 4),gF 26 (oL 28 27),gF 26 (oJ 29 28),gF 26 (oV 30 .gtr 29 30),oR 31 26 30,oM 32 31,gF 32 (oF 33 4 4),gF 32 (oL 34 33),gF 32 (oJ 35 34),gF 32 (oV 36 .gtr 35 300),oR 37 32 36]
def r79_5:List AI:=[oC 2 (.b true)]
def r79_6:List AI:=[oI 5 0]
def r79_7:List AI:=[oM 38 5,oF 39 3 4,oL 40 39,oJ 41 40,oT 42 .lss 38 41]
def r79_8:List AI:=[oF 45 3 4,oL 46 45,oM 47 5,oX 48 2 46 47,oF 49 0 48,oL 50 49,oH 51 50,oV 52 .gtr 51 40]
def r79_9:List AI:=[oC 2 (.b true)]
def r79_10:List AI:=[oM 43 5,oV 44 .add 43 1,oM 5 44]
def r79_11:List AI:=[oM 15 3,oV 16 .add 15 1,oM 3 16]
def r79_12:List AI:=[oF 53 2 1,oL 54 53,oJ 55 54,oV 56 .gtr 55 40,oM 2 56]
abbrev l79_1:AC:=(.seq (sR 8 r79_7 (.cond (.t 42) .skip (.exit 2))) (.seq (.block 3 (sR 10 r79_8 (.cond (.t 52) (sR 11 r79_9 .ret) .skip))) (.reg 9 r79_10)))
abbrev c79_1:AC:=(sR 7 r79_6 (.block 2 (.loop l79_1)))
abbrev c79_2:AC:=(.reg 3 r79_11)
abbrev c79_3:AC:=(.seq (.block 1 (sR 4 r79_3 (.seq (sR 5 r79_4 (.cond (.t 37) (sR 6 r79_5 .ret) .skip)) c79_1))) c79_2)
abbrev l79_0:AC:=(.seq (sR 2 r79_2 (.cond (.t 14) .skip (.exit 0))) c79_3)
abbrev c79_5:AC:=(sR 12 r79_12 .ret)
abbrev b79:AC:=(sR 0 r79_0 (.seq (sR 1 r79_1 (.block 0 (.loop l79_0))) c79_5))
def pf79:AF:={ nt:=57,res:=[.tmp 2],body:=b79 }
abbrev I79_0 (prog:Prog)(d:Nat)(Q:AE→Sl→St→Prop)(i3:Int)(m0:Img):Prop:=
  ∀(σ:Sl)(st:St)(v0:Nat),σ 1=.p (d,0) v0 0→σ 3=.i .i64 i3→lk st.bx (d,0)=some (v0,Img.cs m0)→W prog d (.loop l79_0) σ st (blockW 0 (thenW prog d c79_5 Q))
abbrev I79_1 (prog:Prog)(d:Nat)(Q:AE→Sl→St→Prop)(i3:Int)(k5:Int)(m0:Img)(m16389:Fun):Prop:=
  ∀(σ:Sl)(st:St) (v0 v16389:Nat),σ 1=.p (d,0) v0 0→σ 3=.i .i64 i3→σ 4=.p (d,16389) v16389 0→σ 5=.i .i64 k5→lk st.bx (d,0)=some (v0,Img.cs m0)→lk st.bx (d,16389)=some (v16389,Fun.cs m16389)→W prog d (.loop l79_1) σ st (blockW 2 (blockW 1 (thenW prog d c79_2 (thenW prog d (.loop l79_0) (blockW 0 (thenW prog d c79_5 Q))))))
def T79_5 (prog:Prog)(K:Bool→Prop)(P0:Int→Img→Prop)(i3:Int)(m0:Img):Prop:=
  P0 (IntKind.i64.wrap (i3+1)) m0
def T79_4 (prog:Prog)(K:Bool→Prop)(P1:Int→Img→Fun→Prop)(P0:Int→Img→Prop)(i3:Int)(k5:Int)(m0:Img)(m16389:Fun):Prop:=
  (k5<(m16389.slots.length:Int)→0≤k5∧∃c:Fld,m16389.slots[(k5).toNat]?=some c∧((c.name.length:Int)>40→K true)∧(¬((c.name.length:Int)>40)→P1 (IntKind.i64.wrap (k5+1)) m0 m16389))∧(¬(k5<(m16389.slots.length:Int))→T79_5 prog K P0 i3 m0)
def T79_3 (prog:Prog)(K:Bool→Prop)(P0:Int→Img→Prop)(i3:Int)(m0:Img)(m16389:Fun):Prop:=
  ∀P1:Int→Img→Fun→Prop,(∀(k5:Int)(m0:Img)(m16389:Fun),T79_4 prog K P1 P0 i3 k5 m0 m16389→P1 k5 m0 m16389)→P1 0 m0 m16389
def T79_2 (prog:Prog)(K:Bool→Prop)(P0:Int→Img→Prop)(i3:Int)(m0:Img):Prop:=
  0≤i3∧∃c:Fun,m0.funcs[(i3).toNat]?=some c∧((c.name.length:Int)>40→K true)∧(¬((c.name.length:Int)>40)→((c.slots.length:Int)>30→K true)∧(¬((c.slots.length:Int)>30)→((c.code.length:Int)>300→K true)∧(¬((c.code.length:Int)>300)→T79_3 prog K P0 i3 m0 c)))
def T79_6 (prog:Prog)(K:Bool→Prop)(m0:Img):Prop:=
  K (decide ((m0.funcs.length:Int)>40))
def T79_1 (prog:Prog)(K:Bool→Prop)(P0:Int→Img→Prop)(i3:Int)(m0:Img):Prop:=
  (i3<(m0.funcs.length:Int)→(i3≤40→T79_2 prog K P0 i3 m0)∧(¬(i3≤40)→T79_6 prog K m0))∧(¬(i3<(m0.funcs.length:Int))→T79_6 prog K m0)
def T79_0 (prog:Prog)(K:Bool→Prop)(m0:Img):Prop:=
  ∀P0:Int→Img→Prop,(∀(i3:Int)(m0:Img),T79_1 prog K P0 i3 m0→P0 i3 m0)→P0 0 m0
section
variable {prog:Prog}{d:Nat}{Q:AE→Sl→St→Prop}{K:Bool→Prop}(hQ:H1 AV.b 2 Q K){σ:Sl}{st:St}
include hQ
variable {i3:Int}{m0:Img}{P0:Int→Img→Prop}{v0:Nat}{k5:Int}{m16389:Fun}{P1:Int→Img→Fun→Prop}{v16389:Nat}
variable (kP1 :∀(k5:Int)(m0:Img)(m16389:Fun),P1 k5 m0 m16389→I79_1 prog d Q i3 k5 m0 m16389)(H0:σ 0=m0.av) (kP0 :∀(i3:Int)(m0:Img),P0 i3 m0→I79_0 prog d Q i3 m0)(H1:σ 1=.p (d,0) v0 0)(H3:σ 3=.i .i64 i3)(H4:σ 4=.p (d,16389) v16389 0)(H5:σ 5=.i .i64 k5)(B0:lk st.bx (d,0)=some (v0,Img.cs m0))(B16389:lk st.bx (d,16389)=some (v16389,Fun.cs m16389))
include kP0 H1 H3 B0 in
theorem w79_5 (h:T79_5 prog K P0 i3 m0):W prog d c79_2 σ st (thenW prog d (.loop l79_0) (blockW 0 (thenW prog d c79_5 Q))):=
 au trivial
include kP1 kP0 H1 H3 H4 H5 B0 B16389 in
theorem w79_4 (h:T79_4 prog K P1 P0 i3 k5 m0 m16389):W prog d l79_1 σ st (thenW prog d (.loop l79_1) (blockW 2 (blockW 1 (thenW prog d c79_2 (thenW prog d (.loop l79_0) (blockW 0 (thenW prog d c79_5 Q))))))):=
 au @w79_5
include kP0 H1 H3 H4 B0 B16389 in
theorem w79_3 (h:T79_3 prog K P0 i3 m0 m16389):W prog d c79_1 σ st (blockW 1 (thenW prog d c79_2 (thenW prog d (.loop l79_0) (blockW 0 (thenW prog d c79_5 Q))))):=
 q_ J (m_ (e_ (bk_ (h (I79_1 prog d Q i3) (fun _ _ _ hb _ _ _ _ H1 H3 H4 H5 B0 B16389=>W.loop (w79_4 hQ (fun _ _ _ x=>x) kP0 H1 H3 H4 H5 B0 B16389 hb)) _ _ _ _ H1 H3 H4 J B0 B16389))))
include kP0 H1 H3 B0 in
theorem w79_2 (h:T79_2 prog K P0 i3 m0):W prog d c79_3 σ st (thenW prog d (.loop l79_0) (blockW 0 (thenW prog d c79_5 Q))):=
 sq_ (bk_ (sq_ (W.reg (f_ H1 (l_ J (lk_other J B0) J J (m_ (h.2.elim fun o c=>ia_ J H3 h.1 c.1 (Fun.row_eq o) J (lf_ J J J (s_alloc (so_ J (show lk _ (d,16389)=some (_,([.s [],.i .i64 0,.i .i64 0,.sl .full (List.map Fld.row ([]:List Fld)),.sl .full (List.map Ins.row ([]:List Ins)),.sl .full (List.map Rnn.row ([]:List Rnn)),.sl .full (List.map Rnn.row ([]:List Rnn))]:List AV)) from lk_here) J J J (e_ (sq_ (q_ J (f_ J (l_ J lk_here J J (ln_ J (b_ J J gtr_ (s_mvB J (em_ (g:=26) J (fun e=>z_ 11 J (e_ (ct_ J (q_ J (m_ (er_ (hQ J (c.2.1 e)))))))) (fun e=>gy_ J (f_ J (gy_ J (l_ J lk_here J J (gy_ J (ll_ J (gy_ J (b_ J J gtr_ (z_ 2 J (em_ (g:=32) J (fun j=>z_ 5 J (e_ (ct_ J (q_ J (m_ (er_ (hQ J ((c.2.2 e).1 j)))))))) (fun j=>gy_ J (f_ J (gy_ J (l_ J lk_here J J (gy_ J (ll_ J (gy_ J (b_ J J gtr_ (pf_ J J (e_ (cs_ J (fun k=>q_ J (m_ (er_ (hQ J (((c.2.2 e).2 j).1 k))))) (fun k=>sk_ (w79_3 hQ kP0 H1 H3 J (lk_other J (lk_other J B0)) lk_here (((c.2.2 e).2 j).2 k)))))))))))))))))))))))))))))))))))))))))))
include H1 B0 in
theorem w79_6 (h:T79_6 prog K m0):W prog d c79_5 σ st Q:=
 au trivial
include kP0 H1 H3 B0 in
theorem w79_1 (h:T79_1 prog K P0 i3 m0):W prog d l79_0 σ st (thenW prog d (.loop l79_0) (blockW 0 (thenW prog d c79_5 Q))):=
 au (And.intro @w79_2 @w79_6)
include H0 in
theorem w79_0 (h:T79_0 prog K m0):W prog d (sR 0 r79_0 (.seq (sR 1 r79_1 (.block 0 (.loop l79_0))) c79_5)) σ st Q:=
 q_ J (s_box H0 J (m_ (e_ (sq_ (q_ J (m_ (e_ (bk_ (h (I79_0 prog d Q ) (fun _ _ hb _ _ _ H1 H3 B0=>W.loop (w79_1 hQ (fun _ _ x=>x) H1 H3 B0 hb)) _ _ _ J J lk_here)))))))))
end
theorem p79 {prog:Prog}(hf:prog.fn 79=some pf79){m0:Img}{K:Bool→Prop}(h:T79_0 prog K m0) :∃res0:Bool,K res0∧Pus prog 79 [m0.av] (.b res0):=
 P1 hf J (w79_0 (h1 J fun _=>J) J h)
def r80_0:List AI:=[oY 1 4 0,oC 2 (.b false)]
def r80_1:List AI:=[oI 3 0]
def r80_2:List AI:=[oM 4 3,oF 5 3 1,oL 6 5,oJ 7 6,oT 8 .lss 4 7,oM 9 8,gT 9 (oM 10 3),gT 9 (oV 11 .leq 10 20),oA 12 9 11]
def r80_3:List AI:=[oF 15 3 1,oL 16 15,oM 17 3,oX 18 6 16 17,oF 19 1 18,oK 20 5 19,oQ 21 71 [20]]
def r80_4:List AI:=[oC 2 (.b true)]
def r80_5:List AI:=[oM 13 3,oV 14 .add 13 1,oM 3 14]
def r80_6:List AI:=[oF 22 3 1,oL 23 22,oJ 24 23,oV 25 .gtr 24 20,oM 2 25]
abbrev c80_0:AC:=(.seq (.block 1 (sR 4 r80_3 (.cond (.t 21) (sR 5 r80_4 .ret) .skip))) (.reg 3 r80_5))
abbrev l80_0:AC:=(.seq (sR 2 r80_2 (.cond (.t 12) .skip (.exit 0))) c80_0)
abbrev c80_2:AC:=(sR 6 r80_6 .ret)
abbrev b80:AC:=(sR 0 r80_0 (.seq (sR 1 r80_1 (.block 0 (.loop l80_0))) c80_2))
def pf80:AF:={ nt:=26,res:=[.tmp 2],body:=b80 }
abbrev I80_0 (prog:Prog)(d:Nat)(Q:AE→Sl→St→Prop)(i3:Int)(m0:Frm):Prop:=
  ∀(σ:Sl)(st:St)(v0:Nat),σ 1=.p (d,0) v0 0→σ 3=.i .i64 i3→lk st.bx (d,0)=some (v0,Frm.cs m0)→W prog d (.loop l80_0) σ st (blockW 0 (thenW prog d c80_2 Q))
def T80_2 (prog:Prog)(K:Bool→Prop)(P0:Int→Frm→Prop)(i3:Int)(m0:Frm):Prop:=
  0≤i3∧∃e:Loc,m0.locals[(i3).toNat]?=some e∧∃c,Pus prog 71 [e.value.av] (.b c)∧(c=true→K true)∧(c=false→P0 (IntKind.i64.wrap (i3+1)) m0)
def T80_3 (prog:Prog)(K:Bool→Prop)(m0:Frm):Prop:=
  K (decide ((m0.locals.length:Int)>20))
def T80_1 (prog:Prog)(K:Bool→Prop)(P0:Int→Frm→Prop)(i3:Int)(m0:Frm):Prop:=
  (i3<(m0.locals.length:Int)→(i3≤20→T80_2 prog K P0 i3 m0)∧(¬(i3≤20)→T80_3 prog K m0))∧(¬(i3<(m0.locals.length:Int))→T80_3 prog K m0)
def T80_0 (prog:Prog)(K:Bool→Prop)(x0:Frm):Prop:=
  ∀P0:Int→Frm→Prop,(∀(i3:Int)(m0:Frm),T80_1 prog K P0 i3 m0→P0 i3 m0)→P0 0 x0
section
variable {prog:Prog}{d:Nat}{Q:AE→Sl→St→Prop}{K:Bool→Prop}(hQ:H1 AV.b 2 Q K){σ:Sl}{st:St}
include hQ
variable {i3:Int}{m0:Frm}{P0:Int→Frm→Prop}{v0:Nat}{x0:Frm}
variable (kP0 :∀(i3:Int)(m0:Frm),P0 i3 m0→I80_0 prog d Q i3 m0)(H0:σ 0=x0.av)(H1:σ 1=.p (d,0) v0 0)(H3:σ 3=.i .i64 i3)(B0:lk st.bx (d,0)=some (v0,Frm.cs m0))
include kP0 H1 H3 B0 in
theorem w80_2 (h:T80_2 prog K P0 i3 m0):W prog d c80_0 σ st (thenW prog d (.loop l80_0) (blockW 0 (thenW prog d c80_2 Q))):=
 au trivial
include H1 B0 in
theorem w80_3 (h:T80_3 prog K m0):W prog d c80_2 σ st Q:=
 au trivial
include kP0 H1 H3 B0 in
theorem w80_1 (h:T80_1 prog K P0 i3 m0):W prog d l80_0 σ st (thenW prog d (.loop l80_0) (blockW 0 (thenW prog d c80_2 Q))):=
 au (And.intro @w80_2 @w80_3)
include H0 in
theorem w80_0 (h:T80_0 prog K x0):W prog d (sR 0 r80_0 (.seq (sR 1 r80_1 (.block 0 (.loop l80_0))) c80_2)) σ st Q:=
 q_ J (s_box H0 J (m_ (e_ (sq_ (q_ J (m_ (e_ (bk_ (h (I80_0 prog d Q ) (fun _ _ hb _ _ _ H1 H3 B0=>W.loop (w80_1 hQ (fun _ _ x=>x) H1 H3 B0 hb)) _ _ _ J J lk_here)))))))))
end
theorem p80 {prog:Prog}(hf:prog.fn 80=some pf80){x0:Frm}{K:Bool→Prop}(h:T80_0 prog K x0) :∃res0:Bool,K res0∧Pus prog 80 [x0.av] (.b res0):=
 P1 hf J (w80_0 (h1 J fun _=>J) J h)
abbrev H83 (Q:AE→Sl→St→Prop)(K:LB→Int→Prop):Prop:=∀(σ:Sl)(st:St)(o0:Own)(res0:LB)(res1:Int),σ 6=.sl o0 (List.map rowS res0)→σ 7=.i .i64 res1→K res0 res1→Q .ret σ st
section
variable {prog:Prog}{d:Nat}{Q:AE→Sl→St→Prop}{K:LB→Int→Prop}(hQ:H83 Q K){σ:Sl}{st:St}
include hQ
end
def r87_0:List AI:=[oY 2 3 0,oY 3 4 1,oI 4 0]
def r87_1:List AI:=[oF 9 0 3,oL 10 9,oV 11 .lss 10 0,oM 12 11,gF 12 (oF 13 0 3),gF 12 (oL 14 13),gF 12 (oF 15 2 2),gF 12 (oL 16 15),gF 12 (oJ 17 16),gF 12 (oT 18 .geq 14 17),oR 19 12 18,oM 20 19,gF 20 (oF 21 2 3),gF 20 (oL 22 21),gF 20 (oB 23 .gtr (.t 22) (.c (.i .u64 3))),oR 24 20 23]
def r87_2:List AI:=[oI 4 8]
def r87_3:List AI:=[oF 25 2 2,oL 26 25,oF 27 0 3,oL 28 27,oX 29 7 26 28,oK 30 7 29,oO 5 (.alloc [zs,z6,z6,zl,zl,zl,zl]),oS 7 5 30]
def r87_4:List AI:=[oF 31 3 5,oL 32 31,oJ 33 32,oV 34 .gtr 33 16,oM 35 34,gF 35 (oF 36 0 5),gF 35 (oL 37 36),gF 35 (oH 38 37),gF 35 (oV 39 .gtr 38 16),oR 40 35 39,oM 41 40,gF 41 (oF 42 1 3),gF 41 (oL 43 42),gF 41 (oV 44 .lss 43 0),oR 45 41 44,oM 46 45,gF 46 (oF 47 1 3),gF 46 (oL 48 47),gF 46 (oF 49 4 5),gF 46 (oL 50 49),gF 46 (oJ 51 50),gF 46 (oT 52 .geq 48 51),oR 53 46 52]
def r87_5:List AI:=[oI 4 8]
def r87_6:List AI:=[oI 6 0]
def r87_7:List AI:=[oM 54 6,oF 55 3 5,oL 56 55,oJ 57 56,oT 58 .lss 54 57]
def r87_8:List AI:=[oF 61 3 5,oL 62 61,oM 63 6,oX 64 2 62 63,oF 65 0 64,oL 66 65,oH 67 66,oV 68 .gtr 67 16]
def r87_9:List AI:=[oI 4 8]
def r87_10:List AI:=[oM 59 6,oV 60 .add 59 1,oM 6 60]
def r87_11:List AI:=[oI 7 0]
def r87_12:List AI:=[oM 69 7,oF 70 3 3,oL 71 70,oJ 72 71,oT 73 .lss 69 72]
def r87_13:List AI:=[oF 76 3 3,oL 77 76,oM 78 7,oX 79 6 77 78,oK 80 6 79,oO 8 (.alloc [z6,z8,z6,zs,zl,zb]),oS 6 8 80]
def r87_14:List AI:=[oF 81 0 8,oL 82 81,oV 83 .lss 82 0,oM 84 83,gF 84 (oF 85 0 8),gF 84 (oL 86 85),gF 84 (oF 87 3 5),gF 84 (oL 88 87),gF 84 (oJ 89 88),gF 84 (oT 90 .geq 86 89),oR 91 84 90,oM 92 91,gF 92 (oM 93 7),gF 92 (oV 94 .gtr 93 0),gF 92 (oM 95 94),gT 95 (oF 96 3 3),gT 95 (oL 97 96),gT 95 (oM 98 7),gT 95 (oV 99 .sub 98 1),gT 95 (oX 100 6 97 99),gT 95 (oF 101 0 100),gT 95 (oL 102 101),gT 95 (oF 103 0 8),gT 95 (oL 104 103),gT 95 (oT 105 .geq 102 104),gF 92 (oA 106 95 105),oR 107 92 106,oM 108 107,gF 108 (oF 109 1 8),gF 108 (oK 110 5 109),gF 108 (oQ 111 77 [110]),gF 108 (oV 112 .neq 111 0),oR 113 108 112]
def r87_15:List AI:=[oI 4 8]
def r87_16:List AI:=[oM 74 7,oV 75 .add 74 1,oM 7 75]
def r87_17:List AI:=[oI 4 0]
abbrev l87_0:AC:=(.seq (sR 7 r87_7 (.cond (.t 58) .skip (.exit 0))) (.seq (.block 1 (sR 9 r87_8 (.cond (.t 68) (sR 10 r87_9 .ret) .skip))) (.reg 8 r87_10)))
abbrev l87_1:AC:=(.seq (sR 12 r87_12 (.cond (.t 73) .skip (.exit 2))) (.seq (.block 3 (sR 14 r87_13 (sR 15 r87_14 (.cond (.t 113) (sR 16 r87_15 .ret) .skip)))) (.reg 13 r87_16)))
abbrev c87_2:AC:=(sR 17 r87_17 .ret)
abbrev c87_3:AC:=(.seq (sR 11 r87_11 (.block 2 (.loop l87_1))) c87_2)
abbrev c87_4:AC:=(.seq (sR 6 r87_6 (.block 0 (.loop l87_0))) c87_3)
abbrev c87_5:AC:=(.seq (sR 4 r87_4 (.cond (.t 53) (sR 5 r87_5 .ret) .skip)) c87_4)
abbrev c87_6:AC:=(sR 3 r87_3 c87_5)
abbrev c87_7:AC:=(.seq (sR 1 r87_1 (.cond (.t 24) (sR 2 r87_2 .ret) .skip)) c87_6)
abbrev b87:AC:=(sR 0 r87_0 c87_7)
def pf87:AF:={ nt:=114,res:=[.tmp 4],body:=b87 }
abbrev I87_0 (prog:Prog)(d:Nat)(Q:AE→Sl→St→Prop)(i6:Int)(m1:Frm)(m12294:Fun):Prop:=
  ∀(σ:Sl)(st:St) (v1 v12294:Nat),σ 3=.p (d,1) v1 0→σ 5=.p (d,12294) v12294 0→σ 6=.i .i64 i6→lk st.bx (d,1)=some (v1,Frm.cs m1)→lk st.bx (d,12294)=some (v12294,Fun.cs m12294)→W prog d (.loop l87_0) σ st (blockW 0 (thenW prog d c87_3 Q))
abbrev I87_1 (prog:Prog)(d:Nat)(Q:AE→Sl→St→Prop)(i7:Int)(m1:Frm)(m12294:Fun):Prop:=
  ∀(σ:Sl)(st:St) (v1 v12294:Nat),σ 3=.p (d,1) v1 0→σ 5=.p (d,12294) v12294 0→σ 7=.i .i64 i7→lk st.bx (d,1)=some (v1,Frm.cs m1)→lk st.bx (d,12294)=some (v12294,Fun.cs m12294)→W prog d (.loop l87_1) σ st (blockW 2 (thenW prog d c87_2 Q))
def T87_8 (prog:Prog)(K:Int→Prop) :Prop:=
  K 0
def T87_7 (prog:Prog)(K:Int→Prop)(P1:Int→Frm→Fun→Prop)(i7:Int)(m1:Frm)(m12294:Fun):Prop:=
  (i7<(m1.locals.length:Int)→0≤i7∧∃c:Loc,m1.locals[(i7).toNat]?=some c∧(c.slot<0→K 8)∧(¬(c.slot<0)→(c.slot≥(m12294.slots.length:Int)→K 8)∧(¬(c.slot≥(m12294.slots.length:Int))→(i7>0→0≤(IntKind.i64.wrap (i7-1))∧∃e:Loc,m1.locals[(IntKind.i64.wrap (i7-1)).toNat]?=some e∧(e.slot≥c.slot→K 8)∧(¬(e.slot≥c.slot)→∃j,Pus prog 77 [c.value.av] (.i .i64 j)∧(j≠0→K 8)∧(¬(j≠0)→P1 (IntKind.i64.wrap (i7+1)) m1 m12294)))∧(¬(i7>0)→∃k,Pus prog 77 [c.value.av] (.i .i64 k)∧(k≠0→K 8)∧(¬(k≠0)→P1 (IntKind.i64.wrap (i7+1)) m1 m12294)))))∧(¬(i7<(m1.locals.length:Int))→T87_8 prog K )
def T87_6 (prog:Prog)(K:Int→Prop)(m1:Frm)(m12294:Fun):Prop:=
  ∀P1:Int→Frm→Fun→Prop,(∀(i7:Int)(m1:Frm)(m12294:Fun),T87_7 prog K P1 i7 m1 m12294→P1 i7 m1 m12294)→P1 0 m1 m12294
def T87_5 (prog:Prog)(K:Int→Prop)(P0:Int→Frm→Fun→Prop)(i6:Int)(m1:Frm)(m12294:Fun):Prop:=
  (i6<(m12294.slots.length:Int)→0≤i6∧∃c:Fld,m12294.slots[(i6).toNat]?=some c∧((c.name.length:Int)>16→K 8)∧(¬((c.name.length:Int)>16)→P0 (IntKind.i64.wrap (i6+1)) m1 m12294))∧(¬(i6<(m12294.slots.length:Int))→T87_6 prog K m1 m12294)
def T87_4 (prog:Prog)(K:Int→Prop)(m1:Frm)(m12294:Fun):Prop:=
  ∀P0:Int→Frm→Fun→Prop,(∀(i6:Int)(m1:Frm)(m12294:Fun),T87_5 prog K P0 i6 m1 m12294→P0 i6 m1 m12294)→P0 0 m1 m12294
def T87_3 (prog:Prog)(K:Int→Prop)(m1:Frm)(m12294:Fun):Prop:=
  ((m12294.slots.length:Int)>16→K 8)∧(¬((m12294.slots.length:Int)>16)→((m12294.name.length:Int)>16→K 8)∧(¬((m12294.name.length:Int)>16)→(m1.pos<0→K 8)∧(¬(m1.pos<0)→(m1.pos≥(m12294.code.length:Int)→K 8)∧(¬(m1.pos≥(m12294.code.length:Int))→T87_4 prog K m1 m12294))))
def T87_2 (prog:Prog)(K:Int→Prop)(m0:Img)(m1:Frm):Prop:=
  0≤m1.func∧∃c,m0.funcs[(m1.func).toNat]?=some c∧T87_3 prog K m1 c
def T87_1 (prog:Prog)(K:Int→Prop)(m0:Img)(m1:Frm):Prop:=
  (m1.func<0→K 8)∧(¬(m1.func<0)→(m1.func≥(m0.funcs.length:Int)→K 8)∧(¬(m1.func≥(m0.funcs.length:Int))→(m1.mode>3→K 8)∧(¬(m1.mode>3)→T87_2 prog K m0 m1)))
def T87_0 (prog:Prog)(K:Int→Prop)(m0:Img)(x1:Frm):Prop:=
  T87_1 prog K m0 x1
section
variable {prog:Prog}{d:Nat}{Q:AE→Sl→St→Prop}{K:Int→Prop}(hQ:H1 (AV.i .i64) 4 Q K){σ:Sl}{st:St}
include hQ
variable {i7:Int}{m1:Frm}{m12294:Fun}{P1:Int→Frm→Fun→Prop}{v1 v12294:Nat}{i6:Int}{P0:Int→Frm→Fun→Prop}{m0:Img}{v0:Nat}{x1:Frm}
variable (kP1 :∀(i7:Int)(m1:Frm)(m12294:Fun),P1 i7 m1 m12294→I87_1 prog d Q i7 m1 m12294) (kP0 :∀(i6:Int)(m1:Frm)(m12294:Fun),P0 i6 m1 m12294→I87_0 prog d Q i6 m1 m12294)(H2:σ 2=.p (d,0) v0 0)(H0:σ 0=m0.av)(H3:σ 3=.p (d,1) v1 0)(H1:σ 1=x1.av)(H5:σ 5=.p (d,12294) v12294 0)(B0:lk st.bx (d,0)=some (v0,Img.cs m0))(H7:σ 7=.i .i64 i7)(H6:σ 6=.i .i64 i6)(B1:lk st.bx (d,1)=some (v1,Frm.cs m1))(B12294:lk st.bx (d,12294)=some (v12294,Fun.cs m12294))
theorem w87_8 (h:T87_8 prog K ):W prog d c87_2 σ st Q:=
 au trivial
include kP1 H3 H5 H7 B1 B12294 in
theorem w87_7 (h:T87_7 prog K P1 i7 m1 m12294):W prog d l87_1 σ st (thenW prog d (.loop l87_1) (blockW 2 (thenW prog d c87_2 Q))):=
 au @w87_8
include H3 H5 B1 B12294 in
theorem w87_6 (h:T87_6 prog K m1 m12294):W prog d c87_3 σ st Q:=
 sq_ (q_ J (m_ (e_ (bk_ (h (I87_1 prog d Q ) (fun _ _ _ hb _ _ _ _ H3 H5 H7 B1 B12294=>W.loop (w87_7 hQ (fun _ _ _ x=>x) H3 H5 H7 B1 B12294 hb)) _ _ _ _ H3 H5 J B1 B12294)))))
include kP0 H3 H5 H6 B1 B12294 in
theorem w87_5 (h:T87_5 prog K P0 i6 m1 m12294):W prog d l87_0 σ st (thenW prog d (.loop l87_0) (blockW 0 (thenW prog d c87_3 Q))):=
 au @w87_6
include H3 H5 B1 B12294 in
theorem w87_4 (h:T87_4 prog K m1 m12294):W prog d c87_4 σ st Q:=
 sq_ (q_ J (m_ (e_ (bk_ (h (I87_0 prog d Q ) (fun _ _ _ hb _ _ _ _ H3 H5 H6 B1 B12294=>W.loop (w87_5 hQ (fun _ _ _ x=>x) H3 H5 H6 B1 B12294 hb)) _ _ _ _ H3 H5 J B1 B12294)))))
include H3 H5 B1 B12294 in
theorem w87_3 (h:T87_3 prog K m1 m12294):W prog d c87_5 σ st Q:=
 au @w87_4
include H2 H3 B0 B1 in
theorem w87_2 (h:T87_2 prog K m0 m1):W prog d c87_6 σ st Q:=
 au @w87_3
include H2 H3 B0 B1 in
theorem w87_1 (h:T87_1 prog K m0 m1):W prog d c87_7 σ st Q:=
 au @w87_2
include H0 H1 in
theorem w87_0 (h:T87_0 prog K m0 x1):W prog d (sR 0 r87_0 c87_7) σ st Q:=
 au @w87_1
end
theorem p87 {prog:Prog}(hf:prog.fn 87=some pf87){m0:Img}{x1:Frm}{K:Int→Prop}(h:T87_0 prog K m0 x1) :∃res0:Int,K res0∧Pus prog 87 [m0.av,x1.av] (.i .i64 res0):=
 P1 hf J (w87_0 (h1 J fun _=>J) J J h)
def r114_0:List AI:=[oY 3 3 0,oY 5 4 2,oC 6 (.sl .full [])]
def r114_1:List AI:=[oF 11 2 3,oL 12 11,oF 13 0 5,oL 14 13,oX 15 7 12 14,oK 16 7 15,oO 7 (.alloc [zs,z6,z6,zl,zl,zl,zl]),oS 7 7 16]
def r114_2:List AI:=[oM 17 1,oQ 18 137 [17],oB 19 .add (.c (.s [35])) (.t 18),oB 20 .add (.t 19) (.c (.s [32])),oF 21 0 5,oL 22 21,oQ 23 137 [22],oT 24 .add 20 23,oB 25 .add (.t 24) (.c (.s [32])),oF 26 0 7,oL 27 26,oQ 28 31 [27],oT 29 .add 25 28,oB 30 .add (.t 29) (.c (.s [32,97,116,32])),oF 31 1 5,oL 32 31,oQ 33 137 [32],oT 34 .add 30 33,oB 35 .add (.t 34) (.c (.s [32])),oF 36 2 5,oL 37 36,oQ 38 138 [37],oT 39 .add 35 38,oO 40 (.bslice [zs] 1 [(0,(.t 39))]),oM 8 40]
def r114_3:List AI:=[oI 9 0]
def r114_4:List AI:=[oM 41 9,oF 42 3 5,oL 43 42,oJ 44 43,oT 45 .lss 41 44]
def r114_5:List AI:=[oF 48 3 5,oL 49 48,oM 50 9,oX 51 6 49 50,oK 52 6 51,oO 10 (.alloc [z6,z8,z6,zs,zl,zb]),oS 6 10 52]
def r114_6:List AI:=[oM 53 8,oF 54 0 10,oL 55 54,oQ 56 137 [55],oB 57 .add (.c (.s [32,32])) (.t 56),oB 58 .add (.t 57) (.c (.s [32])),oF 59 3 7,oL 60 59,oF 61 0 10,oL 62 61,oX 63 2 60 62,oF 64 0 63,oL 65 64,oQ 66 31 [65],oT 67 .add 58 66,oB 68 .add (.t 67) (.c (.s [32,61,32])),oF 69 1 10,oK 70 5 69,oQ 71 106 [70],oT 72 .add 68 71,oO 73 (.bslice [zs] 1 [(0,(.t 72))]),oO 74 (.app 1 16 (.t 53) (.t 73)),oM 8 74]
def r114_7:List AI:=[oM 46 9,oV 47 .add 46 1,oM 9 47]
def r114_8:List AI:=[oM 75 8,oM 6 75]
abbrev l114_0:AC:=(.seq (sR 4 r114_4 (.cond (.t 45) .skip (.exit 0))) (.seq (.block 1 (sR 6 r114_5 (.reg 7 r114_6))) (.reg 5 r114_7)))
abbrev c114_1:AC:=(sR 8 r114_8 .ret)
abbrev c114_2:AC:=(sR 2 r114_2 (.seq (sR 3 r114_3 (.block 0 (.loop l114_0))) c114_1))
abbrev c114_3:AC:=(sR 1 r114_1 c114_2)
abbrev b114:AC:=(sR 0 r114_0 c114_3)
def pf114:AF:={ nt:=76,res:=[.tmp 6],body:=b114 }
abbrev I114_0 (prog:Prog)(d:Nat)(Q:AE→Sl→St→Prop)(out8:LB)(i9:Int)(m1:Frm)(m4102:Fun):Prop:=
  ∀(σ:Sl)(st:St)(o_out8:Own) (v1 v4102:Nat),σ 5=.p (d,1) v1 0→σ 7=.p (d,4102) v4102 0→σ 8=.sl o_out8 (List.map rowS out8)→σ 9=.i .i64 i9→ApM d st.ow o_out8 out8.length→lk st.bx (d,1)=some (v1,Frm.cs m1)→lk st.bx (d,4102)=some (v4102,Fun.cs m4102)→W prog d (.loop l114_0) σ st (blockW 0 (thenW prog d c114_1 Q))
def T114_4 (prog:Prog)(K:LB→Prop)(out8:LB):Prop:=
  K out8
def T114_3 (prog:Prog)(K:LB→Prop)(P0:LB→Int→Frm→Fun→Prop)(out8:LB)(i9:Int)(m1:Frm)(m4102:Fun):Prop:=
  (i9<(m1.locals.length:Int)→0≤i9∧∃j:Loc,m1.locals[(i9).toNat]?=some j∧∃c:BS,Pus prog 137 [.i .i64 j.slot] (.s c)∧([32,32]:BS).length+c.length≤maxStr∧(([32,32]:BS)++c).length+([32]:BS).length≤maxStr∧0≤j.slot∧∃o:Fld,m4102.slots[(j.slot).toNat]?=some o∧∃e:BS,Pus prog 31 [.s o.name] (.s e)∧((([32,32]:BS)++c)++([32]:BS)).length+e.length≤maxStr∧(((([32,32]:BS)++c)++([32]:BS))++e).length+([32,61,32]:BS).length≤maxStr∧∃k:BS,Pus prog 106 [j.value.av] (.s k)∧((((([32,32]:BS)++c)++([32]:BS))++e)++([32,61,32]:BS)).length+k.length≤maxStr∧Fit (out8.length+[(((((([32,32]:BS)++c)++([32]:BS))++e)++([32,61,32]:BS))++k)].length) 16∧P0 (out8++[(((((([32,32]:BS)++c)++([32]:BS))++e)++([32,61,32]:BS))++k)]) (IntKind.i64.wrap (i9+1)) m1 m4102)∧(¬(i9<(m1.locals.length:Int))→T114_4 prog K out8)
def T114_2 (prog:Prog)(K:LB→Prop)(k1:Int)(m1:Frm)(m4102:Fun):Prop:=
  ∃c:BS,Pus prog 137 [.i .i64 k1] (.s c)∧([35]:BS).length+c.length≤maxStr∧(([35]:BS)++c).length+([32]:BS).length≤maxStr∧∃e:BS,Pus prog 137 [.i .i64 m1.func] (.s e)∧((([35]:BS)++c)++([32]:BS)).length+e.length≤maxStr∧(((([35]:BS)++c)++([32]:BS))++e).length+([32]:BS).length≤maxStr∧∃j:BS,Pus prog 31 [.s m4102.name] (.s j)∧((((([35]:BS)++c)++([32]:BS))++e)++([32]:BS)).length+j.length≤maxStr∧(((((([35]:BS)++c)++([32]:BS))++e)++([32]:BS))++j).length+([32,97,116,32]:BS).length≤maxStr∧∃k:BS,Pus prog 137 [.i .i64 m1.pos] (.s k)∧((((((([35]:BS)++c)++([32]:BS))++e)++([32]:BS))++j)++([32,97,116,32]:BS)).length+k.length≤maxStr∧(((((((([35]:BS)++c)++([32]:BS))++e)++([32]:BS))++j)++([32,97,116,32]:BS))++k).length+([32]:BS).length≤maxStr∧∃o:BS,Pus prog 138 [.i .u64 m1.mode] (.s o)∧((((((((([35]:BS)++c)++([32]:BS))++e)++([32]:BS))++j)++([32,97,116,32]:BS))++k)++([32]:BS)).length+o.length≤maxStr∧∀P0:LB→Int→Frm→Fun→Prop,(∀(out8:LB)(i9:Int)(m1:Frm)(m4102:Fun),T114_3 prog K P0 out8 i9 m1 m4102→P0 out8 i9 m1 m4102)→P0 [(((((((((([35]:BS)++c)++([32]:BS))++e)++([32]:BS))++j)++([32,97,116,32]:BS))++k)++([32]:BS))++o)] 0 m1 m4102
def T114_1 (prog:Prog)(K:LB→Prop)(k1:Int)(m0:Img)(m1:Frm):Prop:=
  0≤m1.func∧∃c,m0.funcs[(m1.func).toNat]?=some c∧T114_2 prog K k1 m1 c
def T114_0 (prog:Prog)(K:LB→Prop)(m0:Img)(k1:Int)(x2:Frm):Prop:=
  T114_1 prog K k1 m0 x2
section
variable {prog:Prog}{d:Nat}{Q:AE→Sl→St→Prop}{K:LB→Prop}(hQ:HL rowS 6 Q K){σ:Sl}{st:St}
include hQ
variable {out8:LB}{o_out8:Own}{i9:Int}{m1:Frm}{m4102:Fun}{P0:LB→Int→Frm→Fun→Prop}{v1 v4102:Nat}{k1:Int}{m0:Img}{v0:Nat}{x2:Frm}
variable (kP0 :∀(out8:LB)(i9:Int)(m1:Frm)(m4102:Fun),P0 out8 i9 m1 m4102→I114_0 prog d Q out8 i9 m1 m4102)(H0:σ 0=m0.av)(H1:σ 1=.i .i64 k1)(H3:σ 3=.p (d,0) v0 0)(H2:σ 2=x2.av)(H5:σ 5=.p (d,1) v1 0)(H7:σ 7=.p (d,4102) v4102 0)(B0:lk st.bx (d,0)=some (v0,Img.cs m0))(H8:σ 8=.sl o_out8 (List.map rowS out8))(H9:σ 9=.i .i64 i9)(A8:ApM d st.ow o_out8 out8.length)(B1:lk st.bx (d,1)=some (v1,Frm.cs m1))(B4102:lk st.bx (d,4102)=some (v4102,Fun.cs m4102))
include H8 A8 in
theorem w114_4 (h:T114_4 prog K out8):W prog d c114_1 σ st Q:=
 au trivial
include kP0 H5 H7 H8 H9 A8 B1 B4102 in
theorem w114_3 (h:T114_3 prog K P0 out8 i9 m1 m4102):W prog d l114_0 σ st (thenW prog d (.loop l114_0) (blockW 0 (thenW prog d c114_1 Q))):=
 sq_ (q_ J (m_ (f_ H5 (l_ J B1 J J (ll_ J (b_ H9 J lss_ (e_ (cs_ J (fun k=>sk_ (sq_ (bk_ (sq_ (W.reg (f_ H5 (l_ J (lk_other J B1) J J (m_ ((h.1 k).2.elim fun r o=>ia_ J H9 (h.1 k).1 o.1 (Loc.row_eq r) J (lf_ J J J (s_alloc (so_ J (show lk _ (d,24581)=some (_,([.i .i64 0,.i .u8 0,.i .i64 0,.s [],.sl .full (List.map Val.row ([]:List Val)),.b false]:List AV)) from lk_here) J J J (e_ (W.reg0 J fun _ _=>s_mvL H8 (f_ J (l_ J lk_here J J (o.2.elim fun x c=>ca_ (sc1 J J) c.1 (b_ J J (abin_cat' c.2.1) (b_ J J (abin_cat' c.2.2.1) (f_ H7 (l_ J (lk_other J (lk_other J B4102)) J J (f_ J (l_ J lk_here J J (c.2.2.2.2.elim fun u p=>ia_ J J c.2.2.2.1 p.1 (Fld.row_eq u) J (ff_ J (lf_ J J J (p.2.elim fun y j=>ca_ (sc1 J J) j.1 (b_ J J (abin_cat' j.2.1) (b_ J J (abin_cat' j.2.2.1) (f_ J (l_ J lk_here J J (j.2.2.2.elim fun w e=>ca_ (sc1 J J) e.1 (b_ J J (abin_cat' e.2.1) (s_bslM (f:=rowS) (l:=[(((((([32,32]:BS)++x)++([32]:BS))++y)++([32,61,32]:BS))++w)]) J J (g_cons J J J g_nil) J (s_app rowS_len J J J A8.1 e.2.2.1 J (fun _ _ q _ v=>s_mvL J (e_ (W.reg0 J fun _ _=>m_ (b_ H9 J add_ (m_ (e_ (kP0 _ _ _ _ e.2.2.2 _ _ _ _ _ H5 H7 J J (ApM.mk q (Mine.app A8.2 J v)) (lk_other J (lk_other J B1)) (lk_other J (lk_other J B4102)))))))))))))))))))))))))))))))))))))))))))) (fun k=>ex_ (w114_4 hQ H8 A8 (h.2 k)))))))))))
include H1 H5 H7 B1 B4102 in
theorem w114_2 (h:T114_2 prog K k1 m1 m4102):W prog d c114_2 σ st Q:=
 q_ J (m_ (h.elim fun o c=>ca_ (sc1 H1 J) c.1 (b_ J J (abin_cat' c.2.1) (b_ J J (abin_cat' c.2.2.1) (f_ H5 (l_ J B1 J J (c.2.2.2.elim fun p e=>ca_ (sc1 J J) e.1 (b_ J J (abin_cat' e.2.1) (b_ J J (abin_cat' e.2.2.1) (f_ H7 (l_ J B4102 J J (e.2.2.2.elim fun q i=>ca_ (sc1 J J) i.1 (b_ J J (abin_cat' i.2.1) (b_ J J (abin_cat' i.2.2.1) (f_ H5 (l_ J B1 J J (i.2.2.2.elim fun r j=>ca_ (sc1 J J) j.1 (b_ J J (abin_cat' j.2.1) (b_ J J (abin_cat' j.2.2.1) (f_ H5 (l_ J B1 J J (j.2.2.2.elim fun s k=>ca_ (sc1 J J) k.1 (b_ J J (abin_cat' k.2.1) (s_bslM (f:=rowS) (l:=[(((((((((([35]:BS)++o)++([32]:BS))++p)++([32]:BS))++q)++([32,97,116,32]:BS))++r)++([32]:BS))++s)]) J J (g_cons J J J g_nil) J (s_mvL J (e_ (sq_ (q_ J (m_ (e_ (bk_ (k.2.2 (I114_0 prog d Q ) (fun _ _ _ _ hb _ _ _ _ _ H5 H7 H8 H9 A8 B1 B4102=>W.loop (w114_3 hQ (fun _ _ _ _ x=>x) H5 H7 H8 H9 A8 B1 B4102 hb)) _ _ _ _ _ H5 H7 J J ApM.full B1 B4102))))))))))))))))))))))))))))))))
include H1 H3 H5 B0 B1 in
theorem w114_1 (h:T114_1 prog K k1 m0 m1):W prog d c114_3 σ st Q:=
 sq_ (W.reg (f_ H3 (l_ J (lk_other J B0) J J (f_ H5 (l_ J (lk_other J B1) J J (h.2.elim fun e c=>ia_ J J h.1 c.1 (Fun.row_eq e) J (lf_ J J J (s_alloc (so_ J (show lk _ (d,4102)=some (_,([.s [],.i .i64 0,.i .i64 0,.sl .full (List.map Fld.row ([]:List Fld)),.sl .full (List.map Ins.row ([]:List Ins)),.sl .full (List.map Rnn.row ([]:List Rnn)),.sl .full (List.map Rnn.row ([]:List Rnn))]:List AV)) from lk_here) J J J (e_ (w114_2 hQ H1 H5 J (lk_other J (lk_other J B1)) lk_here c.2)))))))))))
include H0 H1 H2 in
theorem w114_0 (h:T114_0 prog K m0 k1 x2):W prog d (sR 0 r114_0 c114_3) σ st Q:=
 au @w114_1
end
theorem p114 {prog:Prog}(hf:prog.fn 114=some pf114){m0:Img}{k1:Int}{x2:Frm}{K:LB→Prop}(h:T114_0 prog K m0 k1 x2) :∃res0:LB,K res0∧Pus prog 114 [m0.av,.i .i64 k1,x2.av] (.sl .ext (List.map rowS res0)):=
 P1 hf J (w114_0 (hL J) J J J h)
def r137_0:List AI:=[oC 2 (.s [])]
def r137_1:List AI:=[oM 3 0,oQ 4 16 [3],oM 2 4]
abbrev b137:AC:=(sR 0 r137_0 (sR 1 r137_1 .ret))
def pf137:AF:={ nt:=5,res:=[.tmp 2],body:=b137 }
def T137_0 (prog:Prog)(K:BS→Prop)(n0:Int):Prop:=
  ∃c,Pus prog 16 [.i .i64 n0] (.s c)∧K c
section
variable {prog:Prog}{d:Nat}{Q:AE→Sl→St→Prop}{K:BS→Prop}(hQ:H1 AV.s 2 Q K){σ:Sl}{st:St}
include hQ
variable {n0:Int}
variable (H0:σ 0=.i .i64 n0)
include H0 in
theorem w137_0 (h:T137_0 prog K n0):W prog d (sR 0 r137_0 (sR 1 r137_1 .ret)) σ st Q:=
 au trivial
end
theorem p137 {prog:Prog}(hf:prog.fn 137=some pf137){n0:Int}{K:BS→Prop}(h:T137_0 prog K n0) :∃res0:BS,K res0∧Pus prog 137 [.i .i64 n0] (.s res0):=
 P1 hf J (w137_0 (h1 J fun _=>J) J h)
def r138_0:List AI:=[oC 2 (.s [])]
def r138_1:List AI:=[oO 4 (.bslice [zs] 4 [(0,(.c (.s [99,97,108,108]))),(1,(.c (.s [100,101,102,101,114]))),(2,(.c (.s [112,97,110,105,99]))),(3,(.c (.s [101,120,105,116])))]),oM 3 4]
def r138_2:List AI:=[oM 5 3,oM 6 0,oX 7 1 5 6,oL 8 7,oM 2 8]
abbrev b138:AC:=(sR 0 r138_0 (sR 1 r138_1 (sR 2 r138_2 .ret)))
def pf138:AF:={ nt:=9,res:=[.tmp 2],body:=b138 }
def T138_0 (prog:Prog)(K:BS→Prop)(m0:Int):Prop:=
  0≤m0∧∃c,[([99,97,108,108]:BS),([100,101,102,101,114]:BS),([112,97,110,105,99]:BS),([101,120,105,116]:BS)][(m0).toNat]?=some c∧K c
section
variable {prog:Prog}{d:Nat}{Q:AE→Sl→St→Prop}{K:BS→Prop}(hQ:H1 AV.s 2 Q K){σ:Sl}{st:St}
include hQ
variable {m0:Int}
variable (H0:σ 0=.i .u64 m0)
include H0 in
theorem w138_0 (h:T138_0 prog K m0):W prog d (sR 0 r138_0 (sR 1 r138_1 (sR 2 r138_2 .ret))) σ st Q:=
 q_ J (m_ (e_ (q_ J (s_bslM (f:=rowS) (l:=[([99,97,108,108]:BS),([100,101,102,101,114]:BS),([112,97,110,105,99]:BS),([101,120,105,116]:BS)]) J J (g_cons J J J (g_cons J J J (g_cons J J J (g_cons J J J g_nil)))) J (s_mvL J (e_ (q_ J (s_mvL J (m_ (h.2.elim fun _ c=>ia_ J H0 h.1 c.1 J J (lf_ J J J (m_ (er_ (hQ J c.2))))))))))))))
end
theorem p138 {prog:Prog}(hf:prog.fn 138=some pf138){m0:Int}{K:BS→Prop}(h:T138_0 prog K m0) :∃res0:BS,K res0∧Pus prog 138 [.i .u64 m0] (.s res0):=
 P1 hf J (w138_0 (h1 J fun _=>J) J h)
abbrev H88 (Q:AE→Sl→St→Prop)(K:Bool→Prop):Prop:=∀(σ:Sl)(st:St)(res0:Bool),σ 4=.b res0→K res0→Q .ret σ st
section
variable {prog:Prog}{d:Nat}{Q:AE→Sl→St→Prop}{K:Bool→Prop}(hQ:H88 Q K){σ:Sl}{st:St}
include hQ
end
abbrev H124 (Q:AE→Sl→St→Prop)(K:Bool→Prop):Prop:=∀(σ:Sl)(st:St)(res0:Bool),σ 4=.b res0→K res0→Q .ret σ st
section
variable {prog:Prog}{d:Nat}{Q:AE→Sl→St→Prop}{K:Bool→Prop}(hQ:H124 Q K){σ:Sl}{st:St}
include hQ
end
end Go.AM

namespace Go.AM
open Go
set_option linter.unusedVariables false
set_option linter.unusedSimpArgs false
set_option maxRecDepth 4000
attribute [local irreducible] WO fillCells fillRows
abbrev H85 (Q:AE→Sl→St→Prop)(K:Int→Frm→Int→Prop):Prop:=∀(σ:Sl)(st:St)(k1:Key)(v1:Nat)(o1_0:Own)(res0:Int)(res1:Frm)(res2:Int),σ 4=.i .i64 res0→σ 5=.p k1 v1 0→lk st.bx k1=some (v1,[.i .i64 res1.func,.i .i64 res1.pos,.i .u64 res1.mode,.sl o1_0 (List.map Loc.row res1.locals)])→σ 6=.i .i64 res2→K res0 res1 res2→Q .ret σ st
section
variable {prog:Prog}{d:Nat}{Q:AE→Sl→St→Prop}{K:Int→Frm→Int→Prop}(hQ:H85 Q K){σ:Sl}{st:St}
include hQ
end
abbrev H120 (d:Nat)(st0:St)(Q:AE→Sl→St→Prop)(K:Int→Frm→Bool→Prop):Prop:=∀(σ:Sl)(st:St)(k1:Key)(v1:Nat)(res0:Int)(res1:Frm)(res2:Bool),σ 4=.i .i64 res0→σ 5=.p k1 v1 0→lk st.bx k1=some (v1,[.i .i64 res1.func,.i .i64 res1.pos,.i .u64 res1.mode,.sl .full (List.map Loc.row res1.locals)])→σ 6=.b res2→Fr d (d,0) st0.bx st0.ow st.bx st.ow→K res0 res1 res2→Q .ret σ st
section
variable {prog:Prog}{d:Nat}{Q:AE→Sl→St→Prop}{K:Int→Frm→Bool→Prop}{st0:St}(hQ:H120 d st0 Q K){σ:Sl}{st:St}
include hQ
end
abbrev H121 (Q:AE→Sl→St→Prop)(K:Loc→Bool→Prop):Prop:=∀(σ:Sl)(st:St)(k0:Key)(v0:Nat)(o0_0:Own)(res0:Loc)(res1:Bool),σ 4=.p k0 v0 0→lk st.bx k0=some (v0,[.i .i64 res0.slot,.i .u8 res0.value.kind,.i .i64 res0.value.int,.s res0.value.text,.sl o0_0 (List.map Val.row res0.value.list),.b res0.value.cut])→σ 5=.b res1→K res0 res1→Q .ret σ st
section
variable {prog:Prog}{d:Nat}{Q:AE→Sl→St→Prop}{K:Loc→Bool→Prop}(hQ:H121 Q K){σ:Sl}{st:St}
include hQ
end
abbrev H142 (Q:AE→Sl→St→Prop)(K:BS→Bool→Prop):Prop:=∀(σ:Sl)(st:St)(res0:BS)(res1:Bool),σ 4=.s res0→σ 5=.b res1→K res0 res1→Q .ret σ st
section
variable {prog:Prog}{d:Nat}{Q:AE→Sl→St→Prop}{K:BS→Bool→Prop}(hQ:H142 Q K){σ:Sl}{st:St}
include hQ
end
abbrev H143 (Q:AE→Sl→St→Prop)(K:Int→BS→Bool→Prop):Prop:=∀(σ:Sl)(st:St)(res0:Int)(res1:BS)(res2:Bool),σ 4=.i .i64 res0→σ 5=.s res1→σ 6=.b res2→K res0 res1 res2→Q .ret σ st
section
variable {prog:Prog}{d:Nat}{Q:AE→Sl→St→Prop}{K:Int→BS→Bool→Prop}(hQ:H143 Q K){σ:Sl}{st:St}
include hQ
end
end Go.AM

namespace Go.AM
open Go
set_option linter.unusedVariables false
set_option linter.unusedSimpArgs false
set_option maxRecDepth 4000
attribute [local irreducible] WO fillCells fillRows
abbrev H67 (Q:AE→Sl→St→Prop)(K:Bool→Prop):Prop:=∀(σ:Sl)(st:St)(res0:Bool),σ 8=.b res0→K res0→Q .ret σ st
section
variable {prog:Prog}{d:Nat}{Q:AE→Sl→St→Prop}{K:Bool→Prop}(hQ:H67 Q K){σ:Sl}{st:St}
include hQ
end
abbrev H69 (Q:AE→Sl→St→Prop)(K:Bool→Prop):Prop:=∀(σ:Sl)(st:St)(res0:Bool),σ 4=.b res0→K res0→Q .ret σ st
section
variable {prog:Prog}{d:Nat}{Q:AE→Sl→St→Prop}{K:Bool→Prop}(hQ:H69 Q K){σ:Sl}{st:St}
include hQ
end
abbrev H70 (Q:AE→Sl→St→Prop)(K:Bool→Prop):Prop:=∀(σ:Sl)(st:St)(res0:Bool),σ 4=.b res0→K res0→Q .ret σ st
section
variable {prog:Prog}{d:Nat}{Q:AE→Sl→St→Prop}{K:Bool→Prop}(hQ:H70 Q K){σ:Sl}{st:St}
include hQ
end
abbrev H89 (d:Nat)(st0:St)(Q:AE→Sl→St→Prop)(K:Val→Prop):Prop:=∀(σ:Sl)(st:St)(k0:Key)(v0:Nat)(res0:Val),σ 4=.p k0 v0 0→lk st.bx k0=some (v0,[.i .u8 res0.kind,.i .i64 res0.int,.s res0.text,.sl .full (List.map Val.row res0.list),.b res0.cut])→Fr d (d,0) st0.bx st0.ow st.bx st.ow→K res0→Q .ret σ st
section
variable {prog:Prog}{d:Nat}{Q:AE→Sl→St→Prop}{K:Val→Prop}{st0:St}(hQ:H89 d st0 Q K){σ:Sl}{st:St}
include hQ
end
abbrev H90 (Q:AE→Sl→St→Prop)(K:Val→Prop):Prop:=∀(σ:Sl)(st:St)(k0:Key)(v0:Nat)(o0_0:Own)(res0:Val),σ 0=.p k0 v0 0→lk st.bx k0=some (v0,[.i .u8 res0.kind,.i .i64 res0.int,.s res0.text,.sl o0_0 (List.map Val.row res0.list),.b res0.cut])→K res0→Q .ret σ st
section
variable {prog:Prog}{d:Nat}{Q:AE→Sl→St→Prop}{K:Val→Prop}(hQ:H90 Q K){σ:Sl}{st:St}
include hQ
end
abbrev H91 (Q:AE→Sl→St→Prop)(K:Bool→Prop):Prop:=∀(σ:Sl)(st:St)(res0:Bool),σ 4=.b res0→K res0→Q .ret σ st
section
variable {prog:Prog}{d:Nat}{Q:AE→Sl→St→Prop}{K:Bool→Prop}(hQ:H91 Q K){σ:Sl}{st:St}
include hQ
end
abbrev H92 (Q:AE→Sl→St→Prop)(K:Val→Prop):Prop:=∀(σ:Sl)(st:St)(k0:Key)(v0:Nat)(o0_0:Own)(res0:Val),σ 2=.p k0 v0 0→lk st.bx k0=some (v0,[.i .u8 res0.kind,.i .i64 res0.int,.s res0.text,.sl o0_0 (List.map Val.row res0.list),.b res0.cut])→K res0→Q .ret σ st
section
variable {prog:Prog}{d:Nat}{Q:AE→Sl→St→Prop}{K:Val→Prop}(hQ:H92 Q K){σ:Sl}{st:St}
include hQ
end
abbrev H93 (Q:AE→Sl→St→Prop)(K:Val→Prop):Prop:=∀(σ:Sl)(st:St)(k0:Key)(v0:Nat)(o0_0:Own)(res0:Val),σ 2=.p k0 v0 0→lk st.bx k0=some (v0,[.i .u8 res0.kind,.i .i64 res0.int,.s res0.text,.sl o0_0 (List.map Val.row res0.list),.b res0.cut])→K res0→Q .ret σ st
section
variable {prog:Prog}{d:Nat}{Q:AE→Sl→St→Prop}{K:Val→Prop}(hQ:H93 Q K){σ:Sl}{st:St}
include hQ
end
abbrev H98 (Q:AE→Sl→St→Prop)(K:Bool→Prop):Prop:=∀(σ:Sl)(st:St)(res0:Bool),σ 2=.b res0→K res0→Q .ret σ st
section
variable {prog:Prog}{d:Nat}{Q:AE→Sl→St→Prop}{K:Bool→Prop}(hQ:H98 Q K){σ:Sl}{st:St}
include hQ
end
abbrev H99 (Q:AE→Sl→St→Prop)(K:Img→Prop):Prop:=∀(σ:Sl)(st:St)(k0:Key)(v0:Nat) (o0_0 o0_1 o0_2:Own)(res0:Img),σ 0=.p k0 v0 0→lk st.bx k0=some (v0,[.sl o0_0 (List.map Typ.row res0.types),.sl o0_1 (List.map rowS res0.texts),.sl o0_2 (List.map Fun.row res0.funcs)])→K res0→Q .ret σ st
section
variable {prog:Prog}{d:Nat}{Q:AE→Sl→St→Prop}{K:Img→Prop}(hQ:H99 Q K){σ:Sl}{st:St}
include hQ
end
abbrev H101 (Q:AE→Sl→St→Prop)(K:Bool→Prop):Prop:=∀(σ:Sl)(st:St)(res0:Bool),σ 0=.b res0→K res0→Q .ret σ st
section
variable {prog:Prog}{d:Nat}{Q:AE→Sl→St→Prop}{K:Bool→Prop}(hQ:H101 Q K){σ:Sl}{st:St}
include hQ
end
abbrev H125 (Q:AE→Sl→St→Prop)(K:Val→Prop):Prop:=∀(σ:Sl)(st:St)(k0:Key)(v0:Nat)(o0_0:Own)(res0:Val),σ 0=.p k0 v0 0→lk st.bx k0=some (v0,[.i .u8 res0.kind,.i .i64 res0.int,.s res0.text,.sl o0_0 (List.map Val.row res0.list),.b res0.cut])→K res0→Q .ret σ st
section
variable {prog:Prog}{d:Nat}{Q:AE→Sl→St→Prop}{K:Val→Prop}(hQ:H125 Q K){σ:Sl}{st:St}
include hQ
end
end Go.AM

namespace Go.AM
open Go
set_option linter.unusedVariables false
set_option linter.unusedSimpArgs false
set_option maxRecDepth 4000
set_option maxHeartbeats 2000000
attribute [local irreducible] Decidable.decide W WO fillCells fillRows
def r178_0:List AI:=[oO 0 (.alloc [zs,zs,zs,zs])]
def r178_1:List AI:=[oO 1 (.build [zs,zs,zs,zs] [(1,1,(.c (.s [102,97,117,108,116,32,49,58,32,100,105,118,105,115,105,111,110,32,98,121,32,122,101,114,111]))),(2,1,(.c (.s [102,97,117,108,116,32,50,58,32,110,105,108,32,112,111,105,110,116,101,114]))),(3,1,(.c (.s [102,97,117,108,116,32,51,58,32,111,117,116,32,111,102,32,114,97,110,103,101])))]),oS 4 0 1]
abbrev b178:AC:=(sR 0 r178_0 (sR 1 r178_1 .ret))
def pf178:AF:={ nt:=2,res:=[.cell 0 4 true],body:=b178 }
abbrev H178 (Q:AE→Sl→St→Prop)(K:LB→Prop):Prop:=∀(σ:Sl)(st:St)(k0:Key)(v0:Nat)(res0:LB),σ 0=.p k0 v0 0→lk st.bx k0=some (v0,List.map AV.s res0)→res0.length=4→K res0→Q .ret σ st
def T178_0 (prog:Prog)(K:LB→Prop) :Prop:=
  K [[],([102,97,117,108,116,32,49,58,32,100,105,118,105,115,105,111,110,32,98,121,32,122,101,114,111]:BS),([102,97,117,108,116,32,50,58,32,110,105,108,32,112,111,105,110,116,101,114]:BS),([102,97,117,108,116,32,51,58,32,111,117,116,32,111,102,32,114,97,110,103,101]:BS)]
section
variable {prog:Prog}{d:Nat}{Q:AE→Sl→St→Prop}{K:LB→Prop}(hQ:H178 Q K){σ:Sl}{st:St}
include hQ
theorem w178_0 (h:T178_0 prog K ):W prog d (sR 0 r178_0 (sR 1 r178_1 .ret)) σ st Q:=
 sq_ (W.reg (s_alloc (e_ (q_ J (s_buildM (f:=AV.s) (l:=[[],([102,97,117,108,116,32,49,58,32,100,105,118,105,115,105,111,110,32,98,121,32,122,101,114,111]:BS),([102,97,117,108,116,32,50,58,32,110,105,108,32,112,111,105,110,116,101,114]:BS),([102,97,117,108,116,32,51,58,32,111,117,116,32,111,102,32,114,97,110,103,101]:BS)]) (f_cons J J (f_cons J J (f_cons J J f_nil))) J (s_storeArr (f:=AV.s) (fun _=>J) J (show lk _ (d,0)=some (_,(List.map AV.s (List.replicate 4 ([]:BS)):List AV)) from lk_here) (by simp) J J (er_ (hQ _ _ _ _ _ J lk_here (by simp) h))))))))
end
theorem p178 {prog:Prog}(hf:prog.fn 178=some pf178)  {K:LB→Prop}(h:T178_0 prog K ) :∃res0:LB,K res0∧Pus prog 178 [] (.ag (List.map AV.s res0)):=by
  obtain ⟨v,hv,res0,hk,rfl⟩:=Pus.of (K:=fun v=>∃res0:LB,K res0∧v=.ag (List.map AV.s res0)) hf rfl (w178_0 (σ:=sl0 []) (fun σ st k0 v0  res0 H0 HB0 HL0 hk=>⟨.ag (List.map AV.s res0),by simp only [pf178,ares,aresL,ares_cellA (n:=4) H0 HB0 (by simpa using HL0),ares_tmp,Option.map_some],_,strip_ag AV.s (fun _=>rfl) _,res0,hk,rfl⟩)  h)
  exact ⟨res0,hk,hv⟩
def r183_0:List AI:=[oO 0 (.alloc [z8,z8,z8,z8,z8])]
def r183_1:List AI:=[oO 1 (.build [z8,z8,z8,z8,z8] [(1,1,(.c (.i .u8 2))),(2,1,(.c (.i .u8 1))),(3,1,(.c (.i .u8 3))),(4,1,(.c (.i .u8 2)))]),oS 5 0 1]
abbrev b183:AC:=(sR 0 r183_0 (sR 1 r183_1 .ret))
def pf183:AF:={ nt:=2,res:=[.cell 0 5 true],body:=b183 }
abbrev H183 (Q:AE→Sl→St→Prop)(K:BS→Prop):Prop:=∀(σ:Sl)(st:St)(k0:Key)(v0:Nat)(res0:BS),σ 0=.p k0 v0 0→lk st.bx k0=some (v0,List.map c8 res0)→res0.length=5→K res0→Q .ret σ st
def T183_0 (prog:Prog)(K:BS→Prop) :Prop:=
  K [0,(2:UInt8),(1:UInt8),(3:UInt8),(2:UInt8)]
section
variable {prog:Prog}{d:Nat}{Q:AE→Sl→St→Prop}{K:BS→Prop}(hQ:H183 Q K){σ:Sl}{st:St}
include hQ
theorem w183_0 (h:T183_0 prog K ):W prog d (sR 0 r183_0 (sR 1 r183_1 .ret)) σ st Q:=
 sq_ (W.reg (s_alloc (e_ (q_ J (s_buildM (f:=c8) (l:=[0,(2:UInt8),(1:UInt8),(3:UInt8),(2:UInt8)]) (f_cons J J (f_cons J J (f_cons J J (f_cons J J f_nil)))) J (s_storeArr (f:=c8) (fun _=>J) J (show lk _ (d,0)=some (_,(List.map c8 (List.replicate 5 (0:UInt8)):List AV)) from lk_here) (by simp) J J (er_ (hQ _ _ _ _ _ J lk_here (by simp) h))))))))
end
theorem p183 {prog:Prog}(hf:prog.fn 183=some pf183)  {K:BS→Prop}(h:T183_0 prog K ) :∃res0:BS,K res0∧Pus prog 183 [] (.ag (List.map c8 res0)):=by
  obtain ⟨v,hv,res0,hk,rfl⟩:=Pus.of (K:=fun v=>∃res0:BS,K res0∧v=.ag (List.map c8 res0)) hf rfl (w183_0 (σ:=sl0 []) (fun σ st k0 v0  res0 H0 HB0 HL0 hk=>⟨.ag (List.map c8 res0),by simp only [pf183,ares,aresL,ares_cellA (n:=5) H0 HB0 (by simpa using HL0),ares_tmp,Option.map_some],_,strip_ag c8 (fun _=>rfl) _,res0,hk,rfl⟩)  h)
  exact ⟨res0,hk,hv⟩
abbrev H191 (Q:AE→Sl→St→Prop)(K:Bool→Prop):Prop:=∀(σ:Sl)(st:St)(res0:Bool),σ 4=.b res0→K res0→Q .ret σ st
section
variable {prog:Prog}{d:Nat}{Q:AE→Sl→St→Prop}{K:Bool→Prop}(hQ:H191 Q K){σ:Sl}{st:St}
include hQ
end
abbrev H186 (Q:AE→Sl→St→Prop)(K:Bool→Prop):Prop:=∀(σ:Sl)(st:St)(res0:Bool),σ 4=.b res0→K res0→Q .ret σ st
section
variable {prog:Prog}{d:Nat}{Q:AE→Sl→St→Prop}{K:Bool→Prop}(hQ:H186 Q K){σ:Sl}{st:St}
include hQ
end
abbrev H190 (Q:AE→Sl→St→Prop)(K:BS→Bool→Prop):Prop:=∀(σ:Sl)(st:St)(res0:BS)(res1:Bool),σ 4=.s res0→σ 5=.b res1→K res0 res1→Q .ret σ st
section
variable {prog:Prog}{d:Nat}{Q:AE→Sl→St→Prop}{K:BS→Bool→Prop}(hQ:H190 Q K){σ:Sl}{st:St}
include hQ
end
abbrev H180 (Q:AE→Sl→St→Prop)(K:BS→Bool→Prop):Prop:=∀(σ:Sl)(st:St)(res0:BS)(res1:Bool),σ 4=.s res0→σ 5=.b res1→K res0 res1→Q .ret σ st
section
variable {prog:Prog}{d:Nat}{Q:AE→Sl→St→Prop}{K:BS→Bool→Prop}(hQ:H180 Q K){σ:Sl}{st:St}
include hQ
end
abbrev H182 (Q:AE→Sl→St→Prop)(K:BS→Bool→Prop):Prop:=∀(σ:Sl)(st:St)(res0:BS)(res1:Bool),σ 4=.s res0→σ 5=.b res1→K res0 res1→Q .ret σ st
section
variable {prog:Prog}{d:Nat}{Q:AE→Sl→St→Prop}{K:BS→Bool→Prop}(hQ:H182 Q K){σ:Sl}{st:St}
include hQ
end
def r158_0:List AI:=[oY 1 7 0,oI 2 0]
def r158_1:List AI:=[oF 4 0 1,oL 5 4,oB 6 .gtr (.t 5) (.c (.i .u64 4)),oM 7 6,gF 7 (oF 8 1 1),gF 7 (oF 9 0 8),gF 7 (oL 10 9),gF 7 (oQ 11 183 []),gF 7 (oF 12 0 1),gF 7 (oL 13 12),gF 7 (oO 14 (.ixA 5 1 false (.t 11) (.t 13))),gF 7 (oT 15 .neq 10 14),oR 16 7 15]
def r158_2:List AI:=[oI 2 8]
def r158_3:List AI:=[oF 17 0 1,oL 18 17,oB 19 .eql (.t 18) (.c (.i .u64 0))]
def r158_4:List AI:=[oF 20 1 1,oK 21 5 20,oO 3 (.alloc [z8,z6,zs,zl,zb]),oS 5 3 21]
def r158_5:List AI:=[oF 22 1 3,oL 23 22,oV 24 .neq 23 0,oM 25 24,gF 25 (oF 26 2 3),gF 25 (oL 27 26),gF 25 (oB 28 .neq (.t 27) (.c (.s []))),oR 29 25 28,oM 30 29,gF 30 (oF 31 3 3),gF 30 (oL 32 31),gF 30 (oJ 33 32),gF 30 (oV 34 .gtr 33 0),oR 35 30 34,oM 36 35,gF 36 (oF 37 4 3),gF 36 (oL 38 37),oR 39 36 38,oM 40 39,gF 40 (oF 41 6 1),gF 40 (oL 42 41),gF 40 (oB 43 .andNot (.t 42) (.c (.i .u64 4))),gF 40 (oB 44 .neq (.t 43) (.c (.i .u64 2))),oR 45 40 44]
def r158_6:List AI:=[oI 2 8]
def r158_7:List AI:=[oI 2 0]
def r158_8:List AI:=[oF 46 6 1,oL 47 46,oB 48 .andNot (.t 47) (.c (.i .u64 5)),oB 49 .neq (.t 48) (.c (.i .u64 0)),oM 50 49,gF 50 (oF 51 0 1),gF 50 (oL 52 51),gF 50 (oB 53 .eql (.t 52) (.c (.i .u64 4))),gF 50 (oM 54 53),gT 54 (oF 55 1 1),gT 54 (oF 56 1 55),gT 54 (oL 57 56),gT 54 (oV 58 .lss 57 1),gT 54 (oM 59 58),gF 59 (oF 60 1 1),gF 59 (oF 61 1 60),gF 59 (oL 62 61),gF 59 (oV 63 .gtr 62 3),gT 54 (oR 64 59 63),gF 50 (oA 65 54 64),oR 66 50 65]
def r158_9:List AI:=[oI 2 8]
def r158_10:List AI:=[oF 67 1 1,oK 68 5 67,oQ 69 76 [68],oM 2 69]
abbrev c158_0:AC:=(sR 10 r158_10 .ret)
abbrev c158_1:AC:=(.seq (sR 8 r158_8 (.cond (.t 66) (sR 9 r158_9 .ret) .skip)) c158_0)
abbrev c158_2:AC:=(.seq (sR 3 r158_3 (.cond (.t 19) (sR 4 r158_4 (.seq (sR 5 r158_5 (.cond (.t 45) (sR 6 r158_6 .ret) .skip)) (sR 7 r158_7 .ret))) .skip)) c158_1)
abbrev c158_3:AC:=(.seq (sR 1 r158_1 (.cond (.t 16) (sR 2 r158_2 .ret) .skip)) c158_2)
abbrev b158:AC:=(sR 0 r158_0 c158_3)
def pf158:AF:={ nt:=70,res:=[.tmp 2],body:=b158 }
def T158_4 (prog:Prog)(K:Int→Prop)(m0:Pan):Prop:=
  ∃c,Pus prog 76 [m0.value.av] (.i .i64 c)∧K c
def T158_3 (prog:Prog)(K:Int→Prop)(m0:Pan):Prop:=
  ((bAndNot .u64 m0.flags 5)≠0→K 8)∧(¬((bAndNot .u64 m0.flags 5)≠0)→(m0.tag=4→(m0.value.int<1→K 8)∧(¬(m0.value.int<1)→(m0.value.int>3→K 8)∧(¬(m0.value.int>3)→T158_4 prog K m0)))∧(¬(m0.tag=4)→T158_4 prog K m0))
def T158_2 (prog:Prog)(K:Int→Prop)(m0:Pan):Prop:=
  (m0.tag=0→(m0.value.int≠0→K 8)∧(¬(m0.value.int≠0)→(m0.value.text≠([]:BS)→K 8)∧(¬(m0.value.text≠([]:BS))→((m0.value.list.length:Int)>0→K 8)∧(¬((m0.value.list.length:Int)>0)→(m0.value.cut=true→K 8)∧(m0.value.cut=false→((bAndNot .u64 m0.flags 4)≠2→K 8)∧(¬((bAndNot .u64 m0.flags 4)≠2)→K 0))))))∧(¬(m0.tag=0)→T158_3 prog K m0)
def T158_1 (prog:Prog)(K:Int→Prop)(m0:Pan):Prop:=
  (m0.tag>4→K 8)∧(¬(m0.tag>4)→∃c:BS,Pus prog 183 [] (.ag (List.map c8 c))∧c.length=5∧0≤m0.tag∧∃e:UInt8,(c:List (UInt8))[(m0.tag).toNat]?=some e∧(m0.value.kind≠(e.toNat:Int)→K 8)∧(¬(m0.value.kind≠(e.toNat:Int))→T158_2 prog K m0))
def T158_0 (prog:Prog)(K:Int→Prop)(p0:Pan):Prop:=
  T158_1 prog K p0
section
variable {prog:Prog}{d:Nat}{Q:AE→Sl→St→Prop}{K:Int→Prop}(hQ:H1 (AV.i .i64) 2 Q K){σ:Sl}{st:St}
include hQ
variable {m0:Pan}{v0:Nat}{p0:Pan}
variable (H1:σ 1=.p (d,0) v0 0)(H0:σ 0=p0.av)(B0:lk st.bx (d,0)=some (v0,Pan.cs m0))
include H1 B0 in
theorem w158_4 (h:T158_4 prog K m0):W prog d c158_0 σ st Q:=
 au trivial
include H1 B0 in
theorem w158_3 (h:T158_3 prog K m0):W prog d c158_1 σ st Q:=
 au @w158_4
include H1 B0 in
theorem w158_2 (h:T158_2 prog K m0):W prog d c158_2 σ st Q:=
 au @w158_3
include H1 B0 in
theorem w158_1 (h:T158_1 prog K m0):W prog d c158_3 σ st Q:=
 au @w158_2
include H0 in
theorem w158_0 (h:T158_0 prog K p0):W prog d (sR 0 r158_0 c158_3) σ st Q:=
 au @w158_1
end
theorem p158 {prog:Prog}(hf:prog.fn 158=some pf158){p0:Pan}{K:Int→Prop}(h:T158_0 prog K p0) :∃res0:Int,K res0∧Pus prog 158 [p0.av] (.i .i64 res0):=
 P1 hf J (w158_0 (h1 J fun _=>J) J h)
def r159_0:List AI:=[oY 1 7 0,oI 2 0]
def r159_1:List AI:=[oF 5 1 1,oK 6 5 5,oQ 7 77 [6],oV 8 .eql 7 0,oM 3 8]
def r159_2:List AI:=[oO 9 (.bslice [z8] 5 [(0,(.c (.i .u8 0))),(1,(.c (.i .u8 2))),(2,(.c (.i .u8 1))),(3,(.c (.i .u8 3))),(4,(.c (.i .u8 2)))]),oM 4 9]
def r159_3:List AI:=[oF 10 0 1,oL 11 10,oB 12 .gtr (.t 11) (.c (.i .u64 4)),oM 13 12,gF 13 (oF 14 1 1),gF 13 (oF 15 0 14),gF 13 (oL 16 15),gF 13 (oM 17 4),gF 13 (oF 18 0 1),gF 13 (oL 19 18),gF 13 (oX 20 1 17 19),gF 13 (oL 21 20),gF 13 (oT 22 .neq 16 21),oR 23 13 22]
def r159_4:List AI:=[oI 2 8]
def r159_5:List AI:=[oF 24 0 1,oL 25 24,oB 26 .eql (.t 25) (.c (.i .u64 0))]
def r159_6:List AI:=[oF 27 1 1,oK 28 5 27,oO 29 (.build [z8,z6,zs,zl,zb] []),oQ 30 78 [28,29],oM 31 30,gT 31 (oF 32 6 1),gT 31 (oL 33 32),gT 31 (oB 34 .eql (.t 33) (.c (.i .u64 2))),gT 31 (oM 35 34),gF 35 (oF 36 6 1),gF 35 (oL 37 36),gF 35 (oB 38 .eql (.t 37) (.c (.i .u64 6))),gT 31 (oR 39 35 38),oA 40 31 39,oM 3 40]
def r159_7:List AI:=[oM 41 3,oM 42 41,gT 42 (oF 43 6 1),gT 42 (oL 44 43),gT 42 (oB 45 .eql (.t 44) (.c (.i .u64 0))),gT 42 (oM 46 45),gF 46 (oF 47 6 1),gF 46 (oL 48 47),gF 46 (oB 49 .eql (.t 48) (.c (.i .u64 1))),gT 42 (oR 50 46 49),gT 42 (oM 51 50),gF 51 (oF 52 6 1),gF 51 (oL 53 52),gF 51 (oB 54 .eql (.t 53) (.c (.i .u64 4))),gT 42 (oR 55 51 54),gT 42 (oM 56 55),gF 56 (oF 57 6 1),gF 56 (oL 58 57),gF 56 (oB 59 .eql (.t 58) (.c (.i .u64 5))),gT 42 (oR 60 56 59),oA 61 42 60,oM 3 61]
def r159_8:List AI:=[oF 62 0 1,oL 63 62,oB 64 .eql (.t 63) (.c (.i .u64 4))]
def r159_9:List AI:=[oM 65 3,oM 66 65,gT 66 (oF 67 1 1),gT 66 (oF 68 1 67),gT 66 (oL 69 68),gT 66 (oV 70 .geq 69 1),oA 71 66 70,oM 72 71,gT 72 (oF 73 1 1),gT 72 (oF 74 1 73),gT 72 (oL 75 74),gT 72 (oV 76 .leq 75 3),oA 77 72 76,oM 3 77]
def r159_10:List AI:=[oM 78 3,oZ 79 78]
def r159_11:List AI:=[oI 2 8]
def r159_12:List AI:=[oI 2 0]
abbrev c159_0:AC:=(.seq (sR 10 r159_10 (.cond (.t 79) (sR 11 r159_11 .ret) .skip)) (sR 12 r159_12 .ret))
abbrev c159_1:AC:=(.seq (sR 8 r159_8 (.cond (.t 64) (.reg 9 r159_9) .skip)) c159_0)
abbrev c159_2:AC:=(.seq (sR 5 r159_5 (.cond (.t 26) (.reg 6 r159_6) (.reg 7 r159_7))) c159_1)
abbrev c159_3:AC:=(.seq (sR 3 r159_3 (.cond (.t 23) (sR 4 r159_4 .ret) .skip)) c159_2)
abbrev c159_4:AC:=(sR 2 r159_2 c159_3)
abbrev c159_5:AC:=(sR 1 r159_1 c159_4)
abbrev b159:AC:=(sR 0 r159_0 c159_5)
def pf159:AF:={ nt:=80,res:=[.tmp 2],body:=b159 }
def T159_6 (prog:Prog)(K:Int→Prop)(ok3:Bool):Prop:=
  ((!ok3)=true→K 8)∧((!ok3)=false→K 0)
def T159_5 (prog:Prog)(K:Int→Prop)(ok3:Bool)(m0:Pan):Prop:=
  (m0.tag=4→(ok3=true→(m0.value.int≥1→T159_6 prog K (decide (m0.value.int≤3)))∧(¬(m0.value.int≥1)→T159_6 prog K false))∧(ok3=false→T159_6 prog K false))∧(¬(m0.tag=4)→T159_6 prog K ok3)
def T159_4 (prog:Prog)(K:Int→Prop)(ok3:Bool)(m0:Pan):Prop:=
  (m0.tag=0→∃c,Pus prog 78 [m0.value.av,.ag [.i .u8 0,.i .i64 0,.s [],.sl .ext (List.map Val.row ([]:List Val)),.b false]] (.b c)∧(c=true→(m0.flags=2→T159_5 prog K true m0)∧(¬(m0.flags=2)→T159_5 prog K (decide (m0.flags=6)) m0))∧(c=false→T159_5 prog K false m0))∧(¬(m0.tag=0)→(ok3=true→(m0.flags=0→T159_5 prog K true m0)∧(¬(m0.flags=0)→(m0.flags=1→T159_5 prog K true m0)∧(¬(m0.flags=1)→(m0.flags=4→T159_5 prog K true m0)∧(¬(m0.flags=4)→T159_5 prog K (decide (m0.flags=5)) m0))))∧(ok3=false→T159_5 prog K false m0))
def T159_3 (prog:Prog)(K:Int→Prop)(ok3:Bool)(kinds4:BS)(m0:Pan):Prop:=
  (m0.tag>4→K 8)∧(¬(m0.tag>4)→0≤m0.tag∧∃c:UInt8,kinds4[(m0.tag).toNat]?=some c∧(m0.value.kind≠(c.toNat:Int)→K 8)∧(¬(m0.value.kind≠(c.toNat:Int))→T159_4 prog K ok3 m0))
def T159_2 (prog:Prog)(K:Int→Prop)(ok3:Bool)(m0:Pan):Prop:=
  T159_3 prog K ok3 [(0:UInt8),(2:UInt8),(1:UInt8),(3:UInt8),(2:UInt8)] m0
def T159_1 (prog:Prog)(K:Int→Prop)(m0:Pan):Prop:=
  ∃c,Pus prog 77 [m0.value.av] (.i .i64 c)∧T159_2 prog K (decide (c=0)) m0
def T159_0 (prog:Prog)(K:Int→Prop)(p0:Pan):Prop:=
  T159_1 prog K p0
section
variable {prog:Prog}{d:Nat}{Q:AE→Sl→St→Prop}{K:Int→Prop}(hQ:H1 (AV.i .i64) 2 Q K){σ:Sl}{st:St}
include hQ
variable {ok3:Bool}{m0:Pan}{v0:Nat}{kinds4:BS}{o_kinds4:Own}{p0:Pan}
variable (H1:σ 1=.p (d,0) v0 0)(H0:σ 0=p0.av)(H3:σ 3=.b ok3)(H4:σ 4=.sl o_kinds4 (List.map row8 kinds4))(A4:ApM d st.ow o_kinds4 kinds4.length)(B0:lk st.bx (d,0)=some (v0,Pan.cs m0))
include H3 in
theorem w159_6 (h:T159_6 prog K ok3):W prog d c159_0 σ st Q:=
 au trivial
include H1 H3 B0 in
theorem w159_5 (h:T159_5 prog K ok3 m0):W prog d c159_1 σ st Q:=
 au @w159_6
include H1 H3 B0 in
theorem w159_4 (h:T159_4 prog K ok3 m0):W prog d c159_2 σ st Q:=
 au @w159_5
include H1 H3 H4 A4 B0 in
theorem w159_3 (h:T159_3 prog K ok3 kinds4 m0):W prog d c159_3 σ st Q:=
 au @w159_4
include H1 H3 B0 in
theorem w159_2 (h:T159_2 prog K ok3 m0):W prog d c159_4 σ st Q:=
 q_ J (s_bslM (f:=row8) (l:=[(0:UInt8),(2:UInt8),(1:UInt8),(3:UInt8),(2:UInt8)]) J J (g_cons J J J (g_cons J J J (g_cons J J J (g_cons J J J (g_cons J J J g_nil))))) J (s_mvL J (e_ (w159_3 hQ H1 H3 J ApM.full B0 h))))
include H1 B0 in
theorem w159_1 (h:T159_1 prog K m0):W prog d c159_5 σ st Q:=
 q_ J (f_ H1 (l_ J B0 J J (h.elim fun _ c=>ca_ (sc1 J J) c.1 (b_ J J eql_ (m_ (e_ (w159_2 hQ H1 J B0 c.2)))))))
include H0 in
theorem w159_0 (h:T159_0 prog K p0):W prog d (sR 0 r159_0 c159_5) σ st Q:=
 q_ J (s_box H0 J (m_ (e_ (w159_1 hQ J lk_here h))))
end
theorem p159 {prog:Prog}(hf:prog.fn 159=some pf159){p0:Pan}{K:Int→Prop}(h:T159_0 prog K p0) :∃res0:Int,K res0∧Pus prog 159 [p0.av] (.i .i64 res0):=
 P1 hf J (w159_0 (h1 J fun _=>J) J h)
def r179_0:List AI:=[oY 1 7 0,oC 2 (.s [])]
def r179_1:List AI:=[oC 3 (.s [101,120,105,116])]
def r179_2:List AI:=[oF 4 0 1,oL 5 4,oB 6 .eql (.t 5) (.c (.i .u64 4))]
def r179_3:List AI:=[oO 7 (.bslice [zs] 4 [(0,(.c (.s []))),(1,(.c (.s [102,97,117,108,116,32,49,58,32,100,105,118,105,115,105,111,110,32,98,121,32,122,101,114,111]))),(2,(.c (.s [102,97,117,108,116,32,50,58,32,110,105,108,32,112,111,105,110,116,101,114]))),(3,(.c (.s [102,97,117,108,116,32,51,58,32,111,117,116,32,111,102,32,114,97,110,103,101])))]),oF 8 1 1,oF 9 1 8,oL 10 9,oX 11 1 7 10,oL 12 11,oM 3 12]
def r179_4:List AI:=[oF 13 0 1,oL 14 13,oB 15 .neq (.t 14) (.c (.i .u64 0))]
def r179_5:List AI:=[oF 16 1 1,oK 17 5 16,oQ 18 106 [17],oB 19 .add (.c (.s [112,97,110,105,99,32])) (.t 18),oM 3 19]
def r179_6:List AI:=[oF 20 6 1,oL 21 20,oB 22 .rem (.t 21) (.c (.i .u64 2)),oB 23 .eql (.t 22) (.c (.i .u64 1))]
def r179_7:List AI:=[oM 24 3,oB 25 .add (.t 24) (.c (.s [32,114,101,99,111,118,101,114,101,100])),oM 3 25]
def r179_8:List AI:=[oF 26 6 1,oL 27 26,oB 28 .geq (.t 27) (.c (.i .u64 4))]
def r179_9:List AI:=[oM 29 3,oB 30 .add (.t 29) (.c (.s [32,97,98,111,114,116,101,100])),oM 3 30]
def r179_10:List AI:=[oM 31 3,oM 2 31]
abbrev c179_0:AC:=(sR 10 r179_10 .ret)
abbrev c179_1:AC:=(.seq (sR 8 r179_8 (.cond (.t 28) (.reg 9 r179_9) .skip)) c179_0)
abbrev c179_2:AC:=(.seq (sR 6 r179_6 (.cond (.t 23) (.reg 7 r179_7) .skip)) c179_1)
abbrev b179:AC:=(sR 0 r179_0 (sR 1 r179_1 (.seq (sR 2 r179_2 (.cond (.t 6) (.reg 3 r179_3) (sR 4 r179_4 (.cond (.t 15) (.reg 5 r179_5) .skip)))) c179_2)))
def pf179:AF:={ nt:=32,res:=[.tmp 2],body:=b179 }
def T179_3 (prog:Prog)(K:BS→Prop)(s3:BS):Prop:=
  K s3
def T179_2 (prog:Prog)(K:BS→Prop)(s3:BS)(m0:Pan):Prop:=
  (m0.flags≥4→s3.length+([32,97,98,111,114,116,101,100]:BS).length≤maxStr∧T179_3 prog K (s3++([32,97,98,111,114,116,101,100]:BS)))∧(¬(m0.flags≥4)→T179_3 prog K s3)
def T179_1 (prog:Prog)(K:BS→Prop)(s3:BS)(m0:Pan):Prop:=
  (((m0.flags:Int).tmod 2)=1→s3.length+([32,114,101,99,111,118,101,114,101,100]:BS).length≤maxStr∧T179_2 prog K (s3++([32,114,101,99,111,118,101,114,101,100]:BS)) m0)∧(¬(((m0.flags:Int).tmod 2)=1)→T179_2 prog K s3 m0)
def T179_0 (prog:Prog)(K:BS→Prop)(p0:Pan):Prop:=
  (p0.tag=4→0≤p0.value.int∧∃e,[([]:BS),([102,97,117,108,116,32,49,58,32,100,105,118,105,115,105,111,110,32,98,121,32,122,101,114,111]:BS),([102,97,117,108,116,32,50,58,32,110,105,108,32,112,111,105,110,116,101,114]:BS),([102,97,117,108,116,32,51,58,32,111,117,116,32,111,102,32,114,97,110,103,101]:BS)][(p0.value.int).toNat]?=some e∧T179_1 prog K e p0)∧(¬(p0.tag=4)→(p0.tag≠0→∃c:BS,Pus prog 106 [p0.value.av] (.s c)∧([112,97,110,105,99,32]:BS).length+c.length≤maxStr∧T179_1 prog K (([112,97,110,105,99,32]:BS)++c) p0)∧(¬(p0.tag≠0)→T179_1 prog K ([101,120,105,116]:BS) p0))
section
variable {prog:Prog}{d:Nat}{Q:AE→Sl→St→Prop}{K:BS→Prop}(hQ:H1 AV.s 2 Q K){σ:Sl}{st:St}
include hQ
variable {s3:BS}{m0:Pan}{v0:Nat}{p0:Pan}
variable (H1:σ 1=.p (d,0) v0 0)(H0:σ 0=p0.av)(H3:σ 3=.s s3)(B0:lk st.bx (d,0)=some (v0,Pan.cs m0))
include H3 in
theorem w179_3 (h:T179_3 prog K s3):W prog d c179_0 σ st Q:=
 au trivial
include H1 H3 B0 in
theorem w179_2 (h:T179_2 prog K s3 m0):W prog d c179_1 σ st Q:=
 au @w179_3
include H1 H3 B0 in
theorem w179_1 (h:T179_1 prog K s3 m0):W prog d c179_2 σ st Q:=
 au @w179_2
include H0 in
theorem w179_0 (h:T179_0 prog K p0):W prog d (sR 0 r179_0 (sR 1 r179_1 (.seq (sR 2 r179_2 (.cond (.t 6) (.reg 3 r179_3) (sR 4 r179_4 (.cond (.t 15) (.reg 5 r179_5) .skip)))) c179_2))) σ st Q:=
 q_ J (s_box H0 J (m_ (e_ (q_ J (m_ (e_ (sq_ (q_ J (f_ J (l_ J lk_here J J (b_ J J eql_ (e_ (cs_ J (fun c=>W.reg0 J fun _ _=>s_bslM (f:=rowS) (l:=[([]:BS),([102,97,117,108,116,32,49,58,32,100,105,118,105,115,105,111,110,32,98,121,32,122,101,114,111]:BS),([102,97,117,108,116,32,50,58,32,110,105,108,32,112,111,105,110,116,101,114]:BS),([102,97,117,108,116,32,51,58,32,111,117,116,32,111,102,32,114,97,110,103,101]:BS)]) J J (g_cons J J J (g_cons J J J (g_cons J J J (g_cons J J J g_nil)))) J (f_ J (f_ J (l_ J lk_here J J ((h.1 c).2.elim fun _ j=>ia_ J J (h.1 c).1 j.1 J J (lf_ J J J (m_ (e_ (w179_1 hQ J J lk_here j.2))))))))) (fun c=>q_ J (f_ J (l_ J lk_here J J (b_ J J neq_ (e_ (cs_ J (fun i=>W.reg0 J fun _ _=>f_ J (l_ J lk_here J J (((h.2 c).1 i).elim fun _ e=>ca_ (sc1 J J) e.1 (b_ J J (abin_cat' e.2.1) (m_ (e_ (w179_1 hQ J J lk_here e.2.2))))))) (fun i=>sk_ (w179_1 hQ J J lk_here ((h.2 c).2 i))))))))))))))))))))))
end
theorem p179 {prog:Prog}(hf:prog.fn 179=some pf179){p0:Pan}{K:BS→Prop}(h:T179_0 prog K p0) :∃res0:BS,K res0∧Pus prog 179 [p0.av] (.s res0):=
 P1 hf J (w179_0 (h1 J fun _=>J) J h)
def r154_0:List AI:=[oY 1 7 0,oC 2 (.s []),oI 3 0]
def r154_1:List AI:=[oK 8 7 1,oQ 9 158 [8],oM 4 9]
def r154_2:List AI:=[oM 10 4,oV 11 .neq 10 0]
def r154_3:List AI:=[oM 12 4,oC 2 (.s []),oM 3 12]
def r154_4:List AI:=[oC 5 (.s [101,120,105,116])]
def r154_5:List AI:=[oF 13 0 1,oL 14 13]
def r154_6:List AI:=[oB 27 .eql (.t 14) (.c (.i .u64 0)),oM 26 27]
def r154_7:List AI:=[oB 29 .eql (.t 14) (.c (.i .u64 4)),oM 28 29]
def r154_8:List AI:=[oQ 30 178 [],oF 31 1 1,oF 32 1 31,oL 33 32,oO 34 (.ixA 4 1 false (.t 30) (.t 33)),oM 5 34]
def r154_9:List AI:=[oF 16 1 1,oK 17 5 16,oQ 18 72 [17],oM 15 18,oE 19 0 15,oE 20 1 15,oM 6 19,oM 7 20]
def r154_10:List AI:=[oM 21 7,oV 22 .neq 21 0]
def r154_11:List AI:=[oM 23 7,oC 2 (.s []),oM 3 23]
def r154_12:List AI:=[oM 24 6,oB 25 .add (.c (.s [112,97,110,105,99,32])) (.t 24),oM 5 25]
def r154_13:List AI:=[oF 35 6 1,oL 36 35,oB 37 .and (.t 36) (.c (.i .u64 1)),oB 38 .neq (.t 37) (.c (.i .u64 0))]
def r154_14:List AI:=[oM 39 5,oB 40 .add (.t 39) (.c (.s [32,114,101,99,111,118,101,114,101,100])),oM 5 40]
def r154_15:List AI:=[oF 41 6 1,oL 42 41,oB 43 .and (.t 42) (.c (.i .u64 4)),oB 44 .neq (.t 43) (.c (.i .u64 0))]
def r154_16:List AI:=[oM 45 5,oB 46 .add (.t 45) (.c (.s [32,97,98,111,114,116,101,100])),oM 5 46]
def r154_17:List AI:=[oM 47 5,oM 2 47,oI 3 0]
abbrev c154_0:AC:=(sR 17 r154_17 .ret)
abbrev c154_1:AC:=(.seq (sR 15 r154_15 (.cond (.t 44) (.reg 16 r154_16) .skip)) c154_0)
abbrev c154_2:AC:=(.seq (sR 13 r154_13 (.cond (.t 38) (.reg 14 r154_14) .skip)) c154_1)
abbrev b154:AC:=(sR 0 r154_0 (.seq (sR 1 r154_1 (sR 2 r154_2 (.cond (.t 11) (sR 3 r154_3 .ret) .skip))) (sR 4 r154_4 (.seq (sR 5 r154_5 (.block 0 (sR 10 r154_6 (.cond (.t 26) .skip (sR 11 r154_7 (.cond (.t 28) (.reg 12 r154_8) (sR 6 r154_9 (.seq (sR 7 r154_10 (.cond (.t 22) (sR 8 r154_11 .ret) .skip)) (.reg 9 r154_12))))))))) c154_2))))
def pf154:AF:={ nt:=48,res:=[.tmp 2,.tmp 3],body:=b154 }
def T154_3 (prog:Prog)(K:BS→Int→Prop)(s5:BS):Prop:=
  K s5 0
def T154_2 (prog:Prog)(K:BS→Int→Prop)(s5:BS)(m0:Pan):Prop:=
  ((bAnd .u64 m0.flags 4)≠0→s5.length+([32,97,98,111,114,116,101,100]:BS).length≤maxStr∧T154_3 prog K (s5++([32,97,98,111,114,116,101,100]:BS)))∧(¬((bAnd .u64 m0.flags 4)≠0)→T154_3 prog K s5)
def T154_1 (prog:Prog)(K:BS→Int→Prop)(s5:BS)(m0:Pan):Prop:=
  ((bAnd .u64 m0.flags 1)≠0→s5.length+([32,114,101,99,111,118,101,114,101,100]:BS).length≤maxStr∧T154_2 prog K (s5++([32,114,101,99,111,118,101,114,101,100]:BS)) m0)∧(¬((bAnd .u64 m0.flags 1)≠0)→T154_2 prog K s5 m0)
def T154_0 (prog:Prog)(K:BS→Int→Prop)(p0:Pan):Prop:=
  ∃c,Pus prog 158 [p0.av] (.i .i64 c)∧(c≠0→K ([]:BS) c)∧(¬(c≠0)→(p0.tag=0→T154_1 prog K ([101,120,105,116]:BS) p0)∧(¬(p0.tag=0)→(p0.tag=4→∃k:LB,Pus prog 178 [] (.ag (List.map AV.s k))∧k.length=4∧0≤p0.value.int∧∃o,(k:LB)[(p0.value.int).toNat]?=some o∧T154_1 prog K o p0)∧(¬(p0.tag=4)→∃j:BS,∃e,Pus prog 72 [p0.value.av] (.tup [.s j,.i .i64 e])∧(e≠0→K ([]:BS) e)∧(¬(e≠0)→([112,97,110,105,99,32]:BS).length+j.length≤maxStr∧T154_1 prog K (([112,97,110,105,99,32]:BS)++j) p0))))
section
variable {prog:Prog}{d:Nat}{Q:AE→Sl→St→Prop}{K:BS→Int→Prop}(hQ:H2 AV.s (AV.i .i64) 2 3 Q K){σ:Sl}{st:St}
include hQ
variable {s5:BS}{m0:Pan}{v0:Nat}{p0:Pan}
variable (H1:σ 1=.p (d,0) v0 0)(H0:σ 0=p0.av)(H5:σ 5=.s s5)(B0:lk st.bx (d,0)=some (v0,Pan.cs m0))
include H5 in
theorem w154_3 (h:T154_3 prog K s5):W prog d c154_0 σ st Q:=
 au trivial
include H1 H5 B0 in
theorem w154_2 (h:T154_2 prog K s5 m0):W prog d c154_1 σ st Q:=
 au @w154_3
include H1 H5 B0 in
theorem w154_1 (h:T154_1 prog K s5 m0):W prog d c154_2 σ st Q:=
 au @w154_2
include H0 in
theorem w154_0 (h:T154_0 prog K p0):W prog d (sR 0 r154_0 (.seq (sR 1 r154_1 (sR 2 r154_2 (.cond (.t 11) (sR 3 r154_3 .ret) .skip))) (sR 4 r154_4 (.seq (sR 5 r154_5 (.block 0 (sR 10 r154_6 (.cond (.t 26) .skip (sR 11 r154_7 (.cond (.t 28) (.reg 12 r154_8) (sR 6 r154_9 (.seq (sR 7 r154_10 (.cond (.t 22) (sR 8 r154_11 .ret) .skip)) (.reg 9 r154_12))))))))) c154_2)))) σ st Q:=
 au @w154_1
end
theorem p154 {prog:Prog}(hf:prog.fn 154=some pf154){p0:Pan}{K:BS→Int→Prop}(h:T154_0 prog K p0) :∃res0:BS,∃res1:Int,K res0 res1∧Pus prog 154 [p0.av] (.tup [.s res0,.i .i64 res1]):=
 P2 hf J (w154_0 (h2 J fun _ _=>J) J h)
abbrev H155 (Q:AE→Sl→St→Prop)(K:BS→Int→Prop):Prop:=∀(σ:Sl)(st:St)(res0:BS)(res1:Int),σ 2=.s res0→σ 3=.i .i64 res1→K res0 res1→Q .ret σ st
section
variable {prog:Prog}{d:Nat}{Q:AE→Sl→St→Prop}{K:BS→Int→Prop}(hQ:H155 Q K){σ:Sl}{st:St}
include hQ
end
end Go.AM

namespace Go.AM
open Go
set_option linter.unusedVariables false
set_option linter.unusedSimpArgs false
set_option maxRecDepth 4000
attribute [local irreducible] WO fillCells fillRows
abbrev H181 (Q:AE→Sl→St→Prop)(K:Pan→Bool→Prop):Prop:=∀(σ:Sl)(st:St)(k0:Key)(v0:Nat)(o0_0:Own)(res0:Pan)(res1:Bool),σ 2=.p k0 v0 0→lk st.bx k0=some (v0,[.i .u64 res0.tag,.i .u8 res0.value.kind,.i .i64 res0.value.int,.s res0.value.text,.sl o0_0 (List.map Val.row res0.value.list),.b res0.value.cut,.i .u64 res0.flags])→σ 3=.b res1→K res0 res1→Q .ret σ st
section
variable {prog:Prog}{d:Nat}{Q:AE→Sl→St→Prop}{K:Pan→Bool→Prop}(hQ:H181 Q K){σ:Sl}{st:St}
include hQ
end
abbrev H156 (Q:AE→Sl→St→Prop)(K:Pan→Int→Prop):Prop:=∀(σ:Sl)(st:St)(k0:Key)(v0:Nat)(o0_0:Own)(res0:Pan)(res1:Int),σ 2=.p k0 v0 0→lk st.bx k0=some (v0,[.i .u64 res0.tag,.i .u8 res0.value.kind,.i .i64 res0.value.int,.s res0.value.text,.sl o0_0 (List.map Val.row res0.value.list),.b res0.value.cut,.i .u64 res0.flags])→σ 3=.i .i64 res1→K res0 res1→Q .ret σ st
section
variable {prog:Prog}{d:Nat}{Q:AE→Sl→St→Prop}{K:Pan→Int→Prop}(hQ:H156 Q K){σ:Sl}{st:St}
include hQ
end
abbrev H157 (Q:AE→Sl→St→Prop)(K:Pan→Int→Prop):Prop:=∀(σ:Sl)(st:St)(k0:Key)(v0:Nat)(o0_0:Own)(res0:Pan)(res1:Int),σ 2=.p k0 v0 0→lk st.bx k0=some (v0,[.i .u64 res0.tag,.i .u8 res0.value.kind,.i .i64 res0.value.int,.s res0.value.text,.sl o0_0 (List.map Val.row res0.value.list),.b res0.value.cut,.i .u64 res0.flags])→σ 3=.i .i64 res1→K res0 res1→Q .ret σ st
section
variable {prog:Prog}{d:Nat}{Q:AE→Sl→St→Prop}{K:Pan→Int→Prop}(hQ:H157 Q K){σ:Sl}{st:St}
include hQ
end
abbrev H160 (Q:AE→Sl→St→Prop)(K:Bool→Prop):Prop:=∀(σ:Sl)(st:St)(res0:Bool),σ 4=.b res0→K res0→Q .ret σ st
section
variable {prog:Prog}{d:Nat}{Q:AE→Sl→St→Prop}{K:Bool→Prop}(hQ:H160 Q K){σ:Sl}{st:St}
include hQ
end
abbrev H148 (Q:AE→Sl→St→Prop)(K:Bool→Prop):Prop:=∀(σ:Sl)(st:St)(res0:Bool),σ 4=.b res0→K res0→Q .ret σ st
section
variable {prog:Prog}{d:Nat}{Q:AE→Sl→St→Prop}{K:Bool→Prop}(hQ:H148 Q K){σ:Sl}{st:St}
include hQ
end
end Go.AM

namespace Go.AM
open Go
set_option linter.unusedVariables false
set_option linter.unusedSimpArgs false
set_option maxRecDepth 4000
set_option maxHeartbeats 2000000
attribute [local irreducible] Decidable.decide W WO fillCells fillRows
abbrev H185 (Q:AE→Sl→St→Prop)(K:Int→Prop):Prop:=∀(σ:Sl)(st:St)(res0:Int),σ 2=.i .i64 res0→K res0→Q .ret σ st
section
variable {prog:Prog}{d:Nat}{Q:AE→Sl→St→Prop}{K:Int→Prop}(hQ:H185 Q K){σ:Sl}{st:St}
include hQ
end
def r163_0:List AI:=[oI 2 0]
def r163_1:List AI:=[oM 5 0,oJ 6 5,oV 7 .gtr 6 410]
def r163_2:List AI:=[oI 2 4]
def r163_3:List AI:=[oI 3 0]
def r163_4:List AI:=[oM 8 3,oM 9 0,oJ 10 9,oT 11 .lss 8 10]
def r163_5:List AI:=[oM 14 0,oM 15 3,oX 16 7 14 15,oK 17 7 16,oQ 18 159 [17],oM 4 18]
def r163_6:List AI:=[oM 19 4,oV 20 .neq 19 0]
def r163_7:List AI:=[oM 21 4,oM 2 21]
def r163_8:List AI:=[oM 12 3,oV 13 .add 12 1,oM 3 13]
def r163_9:List AI:=[oI 2 0]
abbrev l163_0:AC:=(.seq (sR 4 r163_4 (.cond (.t 11) .skip (.exit 0))) (.seq (.block 1 (sR 6 r163_5 (sR 7 r163_6 (.cond (.t 20) (sR 8 r163_7 .ret) .skip)))) (.reg 5 r163_8)))
abbrev c163_1:AC:=(sR 9 r163_9 .ret)
abbrev b163:AC:=(sR 0 r163_0 (.seq (sR 1 r163_1 (.cond (.t 7) (sR 2 r163_2 .ret) .skip)) (.seq (sR 3 r163_3 (.block 0 (.loop l163_0))) c163_1)))
def pf163:AF:={ nt:=22,res:=[.tmp 2],body:=b163 }
abbrev I163_0 (prog:Prog)(d:Nat)(Q:AE→Sl→St→Prop)(l0:List Pan)(i3:Int):Prop:=
  ∀(σ:Sl)(st:St)(o_l0:Own),σ 0=.sl o_l0 (List.map Pan.row l0)→σ 3=.i .i64 i3→W prog d (.loop l163_0) σ st (blockW 0 (thenW prog d c163_1 Q))
def T163_2 (prog:Prog)(K:Int→Prop) :Prop:=
  K 0
def T163_1 (prog:Prog)(K:Int→Prop)(P0:Int→Prop)(l0:List Pan)(i3:Int):Prop:=
  (i3<(l0.length:Int)→0≤i3∧∃e:Pan,l0[(i3).toNat]?=some e∧∃c,Pus prog 159 [e.av] (.i .i64 c)∧(c≠0→K c)∧(¬(c≠0)→P0 (IntKind.i64.wrap (i3+1))))∧(¬(i3<(l0.length:Int))→T163_2 prog K )
def T163_0 (prog:Prog)(K:Int→Prop)(l0:List Pan):Prop:=
  ((l0.length:Int)>410→K 4)∧(¬((l0.length:Int)>410)→∀P0:Int→Prop,(∀(i3:Int),T163_1 prog K P0 l0 i3→P0 i3)→P0 0)
section
variable {prog:Prog}{d:Nat}{Q:AE→Sl→St→Prop}{K:Int→Prop}(hQ:H1 (AV.i .i64) 2 Q K){σ:Sl}{st:St}
include hQ
variable {l0:List Pan}{i3:Int}{P0:Int→Prop}{o_l0:Own}
variable (kP0 :∀(i3:Int),P0 i3→I163_0 prog d Q l0 i3)(H0:σ 0=.sl o_l0 (List.map Pan.row l0))(H3:σ 3=.i .i64 i3)
theorem w163_2 (h:T163_2 prog K ):W prog d c163_1 σ st Q:=
 au trivial
include kP0 H0 H3 in
theorem w163_1 (h:T163_1 prog K P0 l0 i3):W prog d l163_0 σ st (thenW prog d (.loop l163_0) (blockW 0 (thenW prog d c163_1 Q))):=
 au @w163_2
include H0 in
theorem w163_0 (h:T163_0 prog K l0):W prog d (sR 0 r163_0 (.seq (sR 1 r163_1 (.cond (.t 7) (sR 2 r163_2 .ret) .skip)) (.seq (sR 3 r163_3 (.block 0 (.loop l163_0))) c163_1))) σ st Q:=
 q_ J (m_ (e_ (sq_ (q_ J (s_mvL H0 (ll_ J (b_ J J gtr_ (e_ (cs_ J (fun c=>q_ J (m_ (er_ (hQ J (h.1 c))))) (fun c=>sk_ (sq_ (q_ J (m_ (e_ (bk_ ((h.2 c) (I163_0 prog d Q l0) (fun _ hb _ _ _ H0 H3=>W.loop (w163_1 hQ (fun _ x=>x) H0 H3 hb)) _ _ _ H0 J))))))))))))))))
end
theorem p163 {prog:Prog}(hf:prog.fn 163=some pf163){l0:List Pan}{K:Int→Prop}(h:T163_0 prog K l0) :∃res0:Int,K res0∧Pus prog 163 [.sl .ext (List.map Pan.row l0)] (.i .i64 res0):=
 P1 hf J (w163_0 (h1 J fun _=>J) J h)
abbrev H165 (Q:AE→Sl→St→Prop)(K:Int→Int→Prop):Prop:=∀(σ:Sl)(st:St)(res0:Int)(res1:Int),σ 2=.i .i64 res0→σ 3=.i .i64 res1→K res0 res1→Q .ret σ st
section
variable {prog:Prog}{d:Nat}{Q:AE→Sl→St→Prop}{K:Int→Int→Prop}(hQ:H165 Q K){σ:Sl}{st:St}
include hQ
end
def r169_0:List AI:=[oI 2 0,oI 3 0]
def r169_1:List AI:=[oM 6 0,oQ 7 163 [6],oM 4 7]
def r169_2:List AI:=[oM 8 4,oV 9 .neq 8 0]
def r169_3:List AI:=[oM 10 4,oI 2 0,oM 3 10]
def r169_4:List AI:=[oI 5 0]
def r169_5:List AI:=[oM 11 5,oM 12 0,oJ 13 12,oT 14 .lss 11 13]
def r169_6:List AI:=[oM 17 0,oM 18 5,oX 19 7 17 18,oF 20 6 19,oL 21 20,oB 22 .eql (.t 21) (.c (.i .u64 0))]
def r169_7:List AI:=[oM 23 5,oM 2 23,oI 3 0]
def r169_8:List AI:=[oM 15 5,oV 16 .add 15 1,oM 5 16]
def r169_9:List AI:=[oI 2 0,oI 3 6]
abbrev l169_0:AC:=(.seq (sR 5 r169_5 (.cond (.t 14) .skip (.exit 0))) (.seq (.block 1 (sR 7 r169_6 (.cond (.t 22) (sR 8 r169_7 .ret) .skip))) (.reg 6 r169_8)))
abbrev c169_1:AC:=(sR 9 r169_9 .ret)
abbrev b169:AC:=(sR 0 r169_0 (.seq (sR 1 r169_1 (sR 2 r169_2 (.cond (.t 9) (sR 3 r169_3 .ret) .skip))) (.seq (sR 4 r169_4 (.block 0 (.loop l169_0))) c169_1)))
def pf169:AF:={ nt:=24,res:=[.tmp 2,.tmp 3],body:=b169 }
abbrev H169 (Q:AE→Sl→St→Prop)(K:Int→Int→Prop):Prop:=∀(σ:Sl)(st:St)(res0:Int)(res1:Int),σ 2=.i .i64 res0→σ 3=.i .i64 res1→K res0 res1→Q .ret σ st
section
variable {prog:Prog}{d:Nat}{Q:AE→Sl→St→Prop}{K:Int→Int→Prop}(hQ:H169 Q K){σ:Sl}{st:St}
include hQ
end
abbrev H170 (Q:AE→Sl→St→Prop)(K:Bool→Prop):Prop:=∀(σ:Sl)(st:St)(res0:Bool),σ 4=.b res0→K res0→Q .ret σ st
section
variable {prog:Prog}{d:Nat}{Q:AE→Sl→St→Prop}{K:Bool→Prop}(hQ:H170 Q K){σ:Sl}{st:St}
include hQ
end
def r162_0:List AI:=[oC 2 (.b false)]
def r162_1:List AI:=[oM 4 0,oJ 5 4,oV 6 .gtr 5 20,oM 7 6,gT 7 (oM 8 0),gT 7 (oJ 9 8),gT 7 (oV 10 .leq 9 410),oA 11 7 10,oM 12 11,gF 12 (oM 13 0),gF 12 (oJ 14 13),gF 12 (oV 15 .gtr 14 420),oR 16 12 15]
def r162_2:List AI:=[oC 2 (.b true)]
def r162_3:List AI:=[oI 3 0]
def r162_4:List AI:=[oM 17 3,oM 18 0,oJ 19 18,oT 20 .lss 17 19]
def r162_5:List AI:=[oM 23 0,oM 24 3,oX 25 7 23 24,oF 26 1 25,oK 27 5 26,oQ 28 71 [27]]
def r162_6:List AI:=[oC 2 (.b true)]
def r162_7:List AI:=[oM 21 3,oV 22 .add 21 1,oM 3 22]
def r162_8:List AI:=[oC 2 (.b false)]
abbrev l162_0:AC:=(.seq (sR 4 r162_4 (.cond (.t 20) .skip (.exit 0))) (.seq (.block 1 (sR 6 r162_5 (.cond (.t 28) (sR 7 r162_6 .ret) .skip))) (.reg 5 r162_7)))
abbrev c162_1:AC:=(sR 8 r162_8 .ret)
abbrev c162_2:AC:=(.seq (sR 3 r162_3 (.block 0 (.loop l162_0))) c162_1)
abbrev b162:AC:=(sR 0 r162_0 (.seq (sR 1 r162_1 (.cond (.t 16) (sR 2 r162_2 .ret) .skip)) c162_2))
def pf162:AF:={ nt:=29,res:=[.tmp 2],body:=b162 }
abbrev I162_0 (prog:Prog)(d:Nat)(Q:AE→Sl→St→Prop)(l0:List Pan)(i3:Int):Prop:=
  ∀(σ:Sl)(st:St)(o_l0:Own),σ 0=.sl o_l0 (List.map Pan.row l0)→σ 3=.i .i64 i3→W prog d (.loop l162_0) σ st (blockW 0 (thenW prog d c162_1 Q))
def T162_3 (prog:Prog)(K:Bool→Prop) :Prop:=
  K false
def T162_2 (prog:Prog)(K:Bool→Prop)(P0:Int→Prop)(l0:List Pan)(i3:Int):Prop:=
  (i3<(l0.length:Int)→0≤i3∧∃e:Pan,l0[(i3).toNat]?=some e∧∃c,Pus prog 71 [e.value.av] (.b c)∧(c=true→K true)∧(c=false→P0 (IntKind.i64.wrap (i3+1))))∧(¬(i3<(l0.length:Int))→T162_3 prog K )
def T162_1 (prog:Prog)(K:Bool→Prop)(l0:List Pan):Prop:=
  ∀P0:Int→Prop,(∀(i3:Int),T162_2 prog K P0 l0 i3→P0 i3)→P0 0
def T162_0 (prog:Prog)(K:Bool→Prop)(l0:List Pan):Prop:=
  ((l0.length:Int)>20→((l0.length:Int)≤410→K true)∧(¬((l0.length:Int)≤410)→((l0.length:Int)>420→K true)∧(¬((l0.length:Int)>420)→T162_1 prog K l0)))∧(¬((l0.length:Int)>20)→((l0.length:Int)>420→K true)∧(¬((l0.length:Int)>420)→T162_1 prog K l0))
section
variable {prog:Prog}{d:Nat}{Q:AE→Sl→St→Prop}{K:Bool→Prop}(hQ:H1 AV.b 2 Q K){σ:Sl}{st:St}
include hQ
variable {l0:List Pan}{i3:Int}{P0:Int→Prop}{o_l0:Own}
variable (kP0 :∀(i3:Int),P0 i3→I162_0 prog d Q l0 i3)(H0:σ 0=.sl o_l0 (List.map Pan.row l0))(H3:σ 3=.i .i64 i3)
theorem w162_3 (h:T162_3 prog K ):W prog d c162_1 σ st Q:=
 au trivial
include kP0 H0 H3 in
theorem w162_2 (h:T162_2 prog K P0 l0 i3):W prog d l162_0 σ st (thenW prog d (.loop l162_0) (blockW 0 (thenW prog d c162_1 Q))):=
 au @w162_3
include H0 in
theorem w162_1 (h:T162_1 prog K l0):W prog d c162_2 σ st Q:=
 sq_ (q_ J (m_ (e_ (bk_ (h (I162_0 prog d Q l0) (fun _ hb _ _ _ H0 H3=>W.loop (w162_2 hQ (fun _ x=>x) H0 H3 hb)) _ _ _ H0 J)))))
include H0 in
theorem w162_0 (h:T162_0 prog K l0):W prog d (sR 0 r162_0 (.seq (sR 1 r162_1 (.cond (.t 16) (sR 2 r162_2 .ret) .skip)) c162_2)) σ st Q:=
 au @w162_1
end
theorem p162 {prog:Prog}(hf:prog.fn 162=some pf162){l0:List Pan}{K:Bool→Prop}(h:T162_0 prog K l0) :∃res0:Bool,K res0∧Pus prog 162 [.sl .ext (List.map Pan.row l0)] (.b res0):=
 P1 hf J (w162_0 (h1 J fun _=>J) J h)
abbrev H164 (Q:AE→Sl→St→Prop)(K:BS→Int→Prop):Prop:=∀(σ:Sl)(st:St)(res0:BS)(res1:Int),σ 2=.s res0→σ 3=.i .i64 res1→K res0 res1→Q .ret σ st
section
variable {prog:Prog}{d:Nat}{Q:AE→Sl→St→Prop}{K:BS→Int→Prop}(hQ:H164 Q K){σ:Sl}{st:St}
include hQ
end
abbrev H166 (Q:AE→Sl→St→Prop)(K:BS→Int→Prop):Prop:=∀(σ:Sl)(st:St)(res0:BS)(res1:Int),σ 2=.s res0→σ 3=.i .i64 res1→K res0 res1→Q .ret σ st
section
variable {prog:Prog}{d:Nat}{Q:AE→Sl→St→Prop}{K:BS→Int→Prop}(hQ:H166 Q K){σ:Sl}{st:St}
include hQ
end
abbrev H171 (Q:AE→Sl→St→Prop)(K:Bool→Prop):Prop:=∀(σ:Sl)(st:St)(res0:Bool),σ 4=.b res0→K res0→Q .ret σ st
section
variable {prog:Prog}{d:Nat}{Q:AE→Sl→St→Prop}{K:Bool→Prop}(hQ:H171 Q K){σ:Sl}{st:St}
include hQ
end
abbrev H172 (Q:AE→Sl→St→Prop)(K:Val→Prop):Prop:=∀(σ:Sl)(st:St)(k0:Key)(v0:Nat)(o0_0:Own)(res0:Val),σ 2=.p k0 v0 0→lk st.bx k0=some (v0,[.i .u8 res0.kind,.i .i64 res0.int,.s res0.text,.sl o0_0 (List.map Val.row res0.list),.b res0.cut])→K res0→Q .ret σ st
section
variable {prog:Prog}{d:Nat}{Q:AE→Sl→St→Prop}{K:Val→Prop}(hQ:H172 Q K){σ:Sl}{st:St}
include hQ
end
abbrev H173 (Q:AE→Sl→St→Prop)(K:Val→Prop):Prop:=∀(σ:Sl)(st:St)(k0:Key)(v0:Nat)(o0_0:Own)(res0:Val),σ 0=.p k0 v0 0→lk st.bx k0=some (v0,[.i .u8 res0.kind,.i .i64 res0.int,.s res0.text,.sl o0_0 (List.map Val.row res0.list),.b res0.cut])→K res0→Q .ret σ st
section
variable {prog:Prog}{d:Nat}{Q:AE→Sl→St→Prop}{K:Val→Prop}(hQ:H173 Q K){σ:Sl}{st:St}
include hQ
end
abbrev H174 (Q:AE→Sl→St→Prop)(K:Val→Prop):Prop:=∀(σ:Sl)(st:St)(k0:Key)(v0:Nat)(o0_0:Own)(res0:Val),σ 2=.p k0 v0 0→lk st.bx k0=some (v0,[.i .u8 res0.kind,.i .i64 res0.int,.s res0.text,.sl o0_0 (List.map Val.row res0.list),.b res0.cut])→K res0→Q .ret σ st
section
variable {prog:Prog}{d:Nat}{Q:AE→Sl→St→Prop}{K:Val→Prop}(hQ:H174 Q K){σ:Sl}{st:St}
include hQ
end
abbrev H176 (Q:AE→Sl→St→Prop)(K:Bool→Prop):Prop:=∀(σ:Sl)(st:St)(res0:Bool),σ 2=.b res0→K res0→Q .ret σ st
section
variable {prog:Prog}{d:Nat}{Q:AE→Sl→St→Prop}{K:Bool→Prop}(hQ:H176 Q K){σ:Sl}{st:St}
include hQ
end
abbrev H184 (d:Nat)(st0:St)(Q:AE→Sl→St→Prop)(K:List Pan→Prop):Prop:=∀(σ:Sl)(st:St)(res0:List Pan),σ 0=.sl .full (List.map Pan.row res0)→Fr d (d,0) st0.bx st0.ow st.bx st.ow→K res0→Q .ret σ st
section
variable {prog:Prog}{d:Nat}{Q:AE→Sl→St→Prop}{K:List Pan→Prop}{st0:St}(hQ:H184 d st0 Q K){σ:Sl}{st:St}
include hQ
end
abbrev H161 (Q:AE→Sl→St→Prop)(K:Bool→Prop):Prop:=∀(σ:Sl)(st:St)(res0:Bool),σ 0=.b res0→K res0→Q .ret σ st
section
variable {prog:Prog}{d:Nat}{Q:AE→Sl→St→Prop}{K:Bool→Prop}(hQ:H161 Q K){σ:Sl}{st:St}
include hQ
end
end Go.AM

namespace Go.AM
open Go
set_option linter.unusedVariables false
set_option linter.unusedSimpArgs false
set_option maxRecDepth 4000
attribute [local irreducible] WO fillCells fillRows
abbrev H149 (Q:AE→Sl→St→Prop)(K:Bool→Prop):Prop:=∀(σ:Sl)(st:St)(res0:Bool),σ 4=.b res0→K res0→Q .ret σ st
section
variable {prog:Prog}{d:Nat}{Q:AE→Sl→St→Prop}{K:Bool→Prop}(hQ:H149 Q K){σ:Sl}{st:St}
include hQ
end
abbrev H150 (Q:AE→Sl→St→Prop)(K:Bool→Prop):Prop:=∀(σ:Sl)(st:St)(res0:Bool),σ 2=.b res0→K res0→Q .ret σ st
section
variable {prog:Prog}{d:Nat}{Q:AE→Sl→St→Prop}{K:Bool→Prop}(hQ:H150 Q K){σ:Sl}{st:St}
include hQ
end
end Go.AM

namespace Go.AM
open Go
set_option linter.unusedVariables false
set_option linter.unusedSimpArgs false
set_option maxRecDepth 4000
set_option maxHeartbeats 2000000
attribute [local irreducible] Decidable.decide W WO fillCells fillRows
abbrev H215 (Q:AE→Sl→St→Prop)(K:LB→Prop):Prop:=∀(σ:Sl)(st:St)(k0:Key)(v0:Nat)(res0:LB),σ 0=.p k0 v0 0→lk st.bx k0=some (v0,List.map AV.s res0)→res0.length=9→K res0→Q .ret σ st
section
variable {prog:Prog}{d:Nat}{Q:AE→Sl→St→Prop}{K:LB→Prop}(hQ:H215 Q K){σ:Sl}{st:St}
include hQ
end
def r216_0:List AI:=[oC 2 (.s [])]
def r216_1:List AI:=[oM 3 0,oQ 4 15 [3],oM 2 4]
abbrev b216:AC:=(sR 0 r216_0 (sR 1 r216_1 .ret))
def pf216:AF:={ nt:=5,res:=[.tmp 2],body:=b216 }
def T216_0 (prog:Prog)(K:BS→Prop)(n0:Int):Prop:=
  ∃c,Pus prog 15 [.i .i64 n0] (.s c)∧K c
section
variable {prog:Prog}{d:Nat}{Q:AE→Sl→St→Prop}{K:BS→Prop}(hQ:H1 AV.s 2 Q K){σ:Sl}{st:St}
include hQ
variable {n0:Int}
variable (H0:σ 0=.i .i64 n0)
include H0 in
theorem w216_0 (h:T216_0 prog K n0):W prog d (sR 0 r216_0 (sR 1 r216_1 .ret)) σ st Q:=
 au trivial
end
theorem p216 {prog:Prog}(hf:prog.fn 216=some pf216){n0:Int}{K:BS→Prop}(h:T216_0 prog K n0) :∃res0:BS,K res0∧Pus prog 216 [.i .i64 n0] (.s res0):=
 P1 hf J (w216_0 (h1 J fun _=>J) J h)
abbrev H223 (Q:AE→Sl→St→Prop)(K:LB→Prop):Prop:=∀(σ:Sl)(st:St)(o0:Own)(res0:LB),σ 0=.sl o0 (List.map rowS res0)→K res0→Q .ret σ st
section
variable {prog:Prog}{d:Nat}{Q:AE→Sl→St→Prop}{K:LB→Prop}(hQ:H223 Q K){σ:Sl}{st:St}
include hQ
end
def r226_0:List AI:=[oC 2 (.s [])]
def r226_1:List AI:=[oM 3 0,oQ 4 16 [3],oM 2 4]
abbrev b226:AC:=(sR 0 r226_0 (sR 1 r226_1 .ret))
def pf226:AF:={ nt:=5,res:=[.tmp 2],body:=b226 }
def T226_0 (prog:Prog)(K:BS→Prop)(n0:Int):Prop:=
  ∃c,Pus prog 16 [.i .i64 n0] (.s c)∧K c
section
variable {prog:Prog}{d:Nat}{Q:AE→Sl→St→Prop}{K:BS→Prop}(hQ:H1 AV.s 2 Q K){σ:Sl}{st:St}
include hQ
variable {n0:Int}
variable (H0:σ 0=.i .i64 n0)
include H0 in
theorem w226_0 (h:T226_0 prog K n0):W prog d (sR 0 r226_0 (sR 1 r226_1 .ret)) σ st Q:=
 au trivial
end
theorem p226 {prog:Prog}(hf:prog.fn 226=some pf226){n0:Int}{K:BS→Prop}(h:T226_0 prog K n0) :∃res0:BS,K res0∧Pus prog 226 [.i .i64 n0] (.s res0):=
 P1 hf J (w226_0 (h1 J fun _=>J) J h)
abbrev H209 (Q:AE→Sl→St→Prop)(K:BS→Int→Prop):Prop:=∀(σ:Sl)(st:St)(res0:BS)(res1:Int),σ 2=.s res0→σ 3=.i .i64 res1→K res0 res1→Q .ret σ st
section
variable {prog:Prog}{d:Nat}{Q:AE→Sl→St→Prop}{K:BS→Int→Prop}(hQ:H209 Q K){σ:Sl}{st:St}
include hQ
end
abbrev H210 (Q:AE→Sl→St→Prop)(K:BS→Int→Prop):Prop:=∀(σ:Sl)(st:St)(res0:BS)(res1:Int),σ 2=.s res0→σ 3=.i .i64 res1→K res0 res1→Q .ret σ st
section
variable {prog:Prog}{d:Nat}{Q:AE→Sl→St→Prop}{K:BS→Int→Prop}(hQ:H210 Q K){σ:Sl}{st:St}
include hQ
end
abbrev H211 (Q:AE→Sl→St→Prop)(K:Int→Int→Prop):Prop:=∀(σ:Sl)(st:St)(res0:Int)(res1:Int),σ 2=.i .u8 res0→σ 3=.i .i64 res1→K res0 res1→Q .ret σ st
section
variable {prog:Prog}{d:Nat}{Q:AE→Sl→St→Prop}{K:Int→Int→Prop}(hQ:H211 Q K){σ:Sl}{st:St}
include hQ
end
abbrev H212 (Q:AE→Sl→St→Prop)(K:Int→Int→Prop):Prop:=∀(σ:Sl)(st:St)(res0:Int)(res1:Int),σ 2=.i .u8 res0→σ 3=.i .i64 res1→K res0 res1→Q .ret σ st
section
variable {prog:Prog}{d:Nat}{Q:AE→Sl→St→Prop}{K:Int→Int→Prop}(hQ:H212 Q K){σ:Sl}{st:St}
include hQ
end
def r236_0:List AI:=[oI 4 0]
def r236_1:List AI:=[oM 6 0,oJ 7 6,oI 8 0]
def r236_2:List AI:=[oT 9 .lss 8 7]
def r236_3:List AI:=[oM 10 8,oM 5 10]
def r236_4:List AI:=[oM 11 1,oM 12 0,oM 13 5,oX 14 5 12 13,oK 15 5 14,oO 16 (.callv (.t 11) [(.t 15)])]
def r236_5:List AI:=[oM 17 5,oM 4 17]
def r236_6:List AI:=[oV 18 .add 8 1,oM 8 18]
def r236_7:List AI:=[oI 4 (-1)]
abbrev l236_0:AC:=(sR 2 r236_2 (.seq (.cond (.t 9) .skip (.exit 0)) (.seq (.block 1 (sR 3 r236_3 (sR 4 r236_4 (.cond (.t 16) (sR 5 r236_5 .ret) .skip)))) (.reg 6 r236_6))))
abbrev c236_1:AC:=(sR 7 r236_7 .ret)
abbrev b236:AC:=(sR 0 r236_0 (.seq (sR 1 r236_1 (.block 0 (.loop l236_0))) c236_1))
def pf236:AF:={ nt:=19,res:=[.tmp 4],body:=b236 }
abbrev I236_0 (prog:Prog)(d:Nat)(Q:AE→Sl→St→Prop)(st0:St)(s0:List Rou)(f1:Nat × List AV)(t7:Int)(t8:Int):Prop:=
  ∀(σ:Sl)(st:St)(o_s0:Own),σ 0=.sl o_s0 (List.map Rou.row s0)→σ 1=.fn f1.1 f1.2→σ 7=.i .i64 t7→σ 8=.i .i64 t8→Fr d (d,0) st0.bx st0.ow st.bx st.ow→W prog d (.loop l236_0) σ st (blockW 0 (thenW prog d c236_1 Q))
def T236_2 (prog:Prog)(K:Int→Prop) :Prop:=
  K (-1)
def T236_1 (prog:Prog)(K:Int→Prop)(P0:Int→Prop)(s0:List Rou)(f1:Nat × List AV)(t7:Int)(t8:Int):Prop:=
  (t8<t7→0≤t8∧∃e:Rou,s0[(t8).toNat]?=some e∧∃c,(PuN prog f1.1 ([e.av]++f1.2) (fun r=>r=.b c))∧(c=true→K t8)∧(c=false→P0 (IntKind.i64.wrap (t8+1))))∧(¬(t8<t7)→T236_2 prog K )
def T236_0 (prog:Prog)(K:Int→Prop)(s0:List Rou)(f1:Nat × List AV):Prop:=
  ∀P0:Int→Prop,(∀(t8:Int),T236_1 prog K P0 s0 f1 (s0.length:Int) t8→P0 t8)→P0 0
section
variable {prog:Prog}{d:Nat}{Q:AE→Sl→St→Prop}{K:Int→Prop}{st0:St}(hQ:HF d st0 (AV.i .i64) 4 Q K){σ:Sl}{st:St}
include hQ
variable {s0:List Rou}{f1:Nat × List AV}{t7 t8:Int}{P0:Int→Prop}{o_s0:Own}
variable (kP0 :∀(t8:Int),P0 t8→I236_0 prog d Q st0 s0 f1 t7 t8)(H0:σ 0=.sl o_s0 (List.map Rou.row s0))(H1:σ 1=.fn f1.1 f1.2)(H7:σ 7=.i .i64 t7)(H8:σ 8=.i .i64 t8)(FR:Fr d (d,0) st0.bx st0.ow st.bx st.ow)
include FR in
theorem w236_2 (h:T236_2 prog K ):W prog d c236_1 σ st Q:=
 au trivial
include kP0 H0 H1 H7 H8 FR in
theorem w236_1 (h:T236_1 prog K P0 s0 f1 t7 t8):W prog d l236_0 σ st (thenW prog d (.loop l236_0) (blockW 0 (thenW prog d c236_1 Q))):=
 q_ J (b_ H8 H7 lss_ (e_ (sq_ (cs_ J (fun c=>sk_ (sq_ (bk_ (q_ J (m_ (m_ (e_ (q_ J (m_ (s_mvL H0 (m_ ((h.1 c).2.elim fun o j=>ia_ J H8 (h.1 c).1 j.1 (Rou.row_eq o) J (lf_ J J J (j.2.elim fun _ e=>s_callV H1 (sec J sen) (e.1) (fun _ k=>e_ (cb_ J (fun i=>q_ J (m_ (m_ (er_ (hQ H8 (Fr.raw FR k) (e.2.1 i)))))) (fun i=>sk_ (W.reg0 J fun _ _=>b_ H8 J add_ (m_ (e_ (kP0 _ (e.2.2 i) _ _ _ H0 H1 H7 J (Fr.raw FR k)))))))))))))))))))))) (fun c=>ex_ (w236_2 hQ FR (h.2 c)))))))
include H0 H1 FR in
theorem w236_0 (h:T236_0 prog K s0 f1):W prog d (sR 0 r236_0 (.seq (sR 1 r236_1 (.block 0 (.loop l236_0))) c236_1)) σ st Q:=
 q_ J (m_ (e_ (sq_ (q_ J (s_mvL H0 (ll_ J (m_ (e_ (bk_ (h (I236_0 prog d Q st0 s0 f1 (s0.length:Int)) (fun _ hb _ _ _ H0 H1 H7 H8 FR=>W.loop (w236_1 hQ (fun _ x=>x) H0 H1 H7 H8 FR hb)) _ _ _ H0 H1 J J FR))))))))))
end
theorem p236 {prog:Prog}(hf:prog.fn 236=some pf236){s0:List Rou}{f1:Nat × List AV}{K:Int→Prop}(h:T236_0 prog K s0 f1)(o_s0:Own):PuN prog 236 [.sl o_s0 (List.map Rou.row s0),.fn f1.1 f1.2] (fun r=>∃res0:Int,(r=.i .i64 res0)∧K res0):=
 PF hf J J fun d st Q q=>w236_0 q J J Fr.refl h
def r237_0:List AI:=[oI 4 0]
def r237_1:List AI:=[oM 6 0,oJ 7 6,oI 8 0]
def r237_2:List AI:=[oT 9 .lss 8 7]
def r237_3:List AI:=[oM 10 8,oM 5 10]
def r237_4:List AI:=[oM 11 1,oM 12 0,oM 13 5,oX 14 4 12 13,oK 15 4 14,oO 16 (.callv (.t 11) [(.t 15)])]
def r237_5:List AI:=[oM 17 5,oM 4 17]
def r237_6:List AI:=[oV 18 .add 8 1,oM 8 18]
def r237_7:List AI:=[oI 4 (-1)]
abbrev l237_0:AC:=(sR 2 r237_2 (.seq (.cond (.t 9) .skip (.exit 0)) (.seq (.block 1 (sR 3 r237_3 (sR 4 r237_4 (.cond (.t 16) (sR 5 r237_5 .ret) .skip)))) (.reg 6 r237_6))))
abbrev c237_1:AC:=(sR 7 r237_7 .ret)
abbrev b237:AC:=(sR 0 r237_0 (.seq (sR 1 r237_1 (.block 0 (.loop l237_0))) c237_1))
def pf237:AF:={ nt:=19,res:=[.tmp 4],body:=b237 }
abbrev I237_0 (prog:Prog)(d:Nat)(Q:AE→Sl→St→Prop)(st0:St)(s0:List Frm)(f1:Nat × List AV)(t7:Int)(t8:Int):Prop:=
  ∀(σ:Sl)(st:St)(o_s0:Own),σ 0=.sl o_s0 (List.map Frm.row s0)→σ 1=.fn f1.1 f1.2→σ 7=.i .i64 t7→σ 8=.i .i64 t8→Fr d (d,0) st0.bx st0.ow st.bx st.ow→W prog d (.loop l237_0) σ st (blockW 0 (thenW prog d c237_1 Q))
def T237_2 (prog:Prog)(K:Int→Prop) :Prop:=
  K (-1)
def T237_1 (prog:Prog)(K:Int→Prop)(P0:Int→Prop)(s0:List Frm)(f1:Nat × List AV)(t7:Int)(t8:Int):Prop:=
  (t8<t7→0≤t8∧∃e:Frm,s0[(t8).toNat]?=some e∧∃c,(PuN prog f1.1 ([e.av]++f1.2) (fun r=>r=.b c))∧(c=true→K t8)∧(c=false→P0 (IntKind.i64.wrap (t8+1))))∧(¬(t8<t7)→T237_2 prog K )
def T237_0 (prog:Prog)(K:Int→Prop)(s0:List Frm)(f1:Nat × List AV):Prop:=
  ∀P0:Int→Prop,(∀(t8:Int),T237_1 prog K P0 s0 f1 (s0.length:Int) t8→P0 t8)→P0 0
section
variable {prog:Prog}{d:Nat}{Q:AE→Sl→St→Prop}{K:Int→Prop}{st0:St}(hQ:HF d st0 (AV.i .i64) 4 Q K){σ:Sl}{st:St}
include hQ
variable {s0:List Frm}{f1:Nat × List AV}{t7 t8:Int}{P0:Int→Prop}{o_s0:Own}
variable (kP0 :∀(t8:Int),P0 t8→I237_0 prog d Q st0 s0 f1 t7 t8)(H0:σ 0=.sl o_s0 (List.map Frm.row s0))(H1:σ 1=.fn f1.1 f1.2)(H7:σ 7=.i .i64 t7)(H8:σ 8=.i .i64 t8)(FR:Fr d (d,0) st0.bx st0.ow st.bx st.ow)
include FR in
theorem w237_2 (h:T237_2 prog K ):W prog d c237_1 σ st Q:=
 au trivial
include kP0 H0 H1 H7 H8 FR in
theorem w237_1 (h:T237_1 prog K P0 s0 f1 t7 t8):W prog d l237_0 σ st (thenW prog d (.loop l237_0) (blockW 0 (thenW prog d c237_1 Q))):=
 q_ J (b_ H8 H7 lss_ (e_ (sq_ (cs_ J (fun c=>sk_ (sq_ (bk_ (q_ J (m_ (m_ (e_ (q_ J (m_ (s_mvL H0 (m_ ((h.1 c).2.elim fun o j=>ia_ J H8 (h.1 c).1 j.1 (Frm.row_eq o) J (lf_ J J J (j.2.elim fun _ e=>s_callV H1 (sec J sen) (e.1) (fun _ k=>e_ (cb_ J (fun i=>q_ J (m_ (m_ (er_ (hQ H8 (Fr.raw FR k) (e.2.1 i)))))) (fun i=>sk_ (W.reg0 J fun _ _=>b_ H8 J add_ (m_ (e_ (kP0 _ (e.2.2 i) _ _ _ H0 H1 H7 J (Fr.raw FR k)))))))))))))))))))))) (fun c=>ex_ (w237_2 hQ FR (h.2 c)))))))
include H0 H1 FR in
theorem w237_0 (h:T237_0 prog K s0 f1):W prog d (sR 0 r237_0 (.seq (sR 1 r237_1 (.block 0 (.loop l237_0))) c237_1)) σ st Q:=
 q_ J (m_ (e_ (sq_ (q_ J (s_mvL H0 (ll_ J (m_ (e_ (bk_ (h (I237_0 prog d Q st0 s0 f1 (s0.length:Int)) (fun _ hb _ _ _ H0 H1 H7 H8 FR=>W.loop (w237_1 hQ (fun _ x=>x) H0 H1 H7 H8 FR hb)) _ _ _ H0 H1 J J FR))))))))))
end
theorem p237 {prog:Prog}(hf:prog.fn 237=some pf237){s0:List Frm}{f1:Nat × List AV}{K:Int→Prop}(h:T237_0 prog K s0 f1)(o_s0:Own):PuN prog 237 [.sl o_s0 (List.map Frm.row s0),.fn f1.1 f1.2] (fun r=>∃res0:Int,(r=.i .i64 res0)∧K res0):=
 PF hf J J fun d st Q q=>w237_0 q J J Fr.refl h
def r238_0:List AI:=[oI 4 0]
def r238_1:List AI:=[oM 6 0,oJ 7 6,oI 8 0]
def r238_2:List AI:=[oT 9 .lss 8 7]
def r238_3:List AI:=[oM 10 8,oM 5 10]
def r238_4:List AI:=[oM 11 1,oM 12 0,oM 13 5,oX 14 8 12 13,oK 15 8 14,oO 16 (.callv (.t 11) [(.t 15)])]
def r238_5:List AI:=[oM 17 5,oM 4 17]
def r238_6:List AI:=[oV 18 .add 8 1,oM 8 18]
def r238_7:List AI:=[oI 4 (-1)]
abbrev l238_0:AC:=(sR 2 r238_2 (.seq (.cond (.t 9) .skip (.exit 0)) (.seq (.block 1 (sR 3 r238_3 (sR 4 r238_4 (.cond (.t 16) (sR 5 r238_5 .ret) .skip)))) (.reg 6 r238_6))))
abbrev c238_1:AC:=(sR 7 r238_7 .ret)
abbrev b238:AC:=(sR 0 r238_0 (.seq (sR 1 r238_1 (.block 0 (.loop l238_0))) c238_1))
def pf238:AF:={ nt:=19,res:=[.tmp 4],body:=b238 }
abbrev I238_0 (prog:Prog)(d:Nat)(Q:AE→Sl→St→Prop)(st0:St)(s0:List Dfr)(f1:Nat × List AV)(t7:Int)(t8:Int):Prop:=
  ∀(σ:Sl)(st:St)(o_s0:Own),σ 0=.sl o_s0 (List.map Dfr.row s0)→σ 1=.fn f1.1 f1.2→σ 7=.i .i64 t7→σ 8=.i .i64 t8→Fr d (d,0) st0.bx st0.ow st.bx st.ow→W prog d (.loop l238_0) σ st (blockW 0 (thenW prog d c238_1 Q))
def T238_2 (prog:Prog)(K:Int→Prop) :Prop:=
  K (-1)
def T238_1 (prog:Prog)(K:Int→Prop)(P0:Int→Prop)(s0:List Dfr)(f1:Nat × List AV)(t7:Int)(t8:Int):Prop:=
  (t8<t7→0≤t8∧∃e:Dfr,s0[(t8).toNat]?=some e∧∃c,(PuN prog f1.1 ([e.av]++f1.2) (fun r=>r=.b c))∧(c=true→K t8)∧(c=false→P0 (IntKind.i64.wrap (t8+1))))∧(¬(t8<t7)→T238_2 prog K )
def T238_0 (prog:Prog)(K:Int→Prop)(s0:List Dfr)(f1:Nat × List AV):Prop:=
  ∀P0:Int→Prop,(∀(t8:Int),T238_1 prog K P0 s0 f1 (s0.length:Int) t8→P0 t8)→P0 0
section
variable {prog:Prog}{d:Nat}{Q:AE→Sl→St→Prop}{K:Int→Prop}{st0:St}(hQ:HF d st0 (AV.i .i64) 4 Q K){σ:Sl}{st:St}
include hQ
variable {s0:List Dfr}{f1:Nat × List AV}{t7 t8:Int}{P0:Int→Prop}{o_s0:Own}
variable (kP0 :∀(t8:Int),P0 t8→I238_0 prog d Q st0 s0 f1 t7 t8)(H0:σ 0=.sl o_s0 (List.map Dfr.row s0))(H1:σ 1=.fn f1.1 f1.2)(H7:σ 7=.i .i64 t7)(H8:σ 8=.i .i64 t8)(FR:Fr d (d,0) st0.bx st0.ow st.bx st.ow)
include FR in
theorem w238_2 (h:T238_2 prog K ):W prog d c238_1 σ st Q:=
 au trivial
include kP0 H0 H1 H7 H8 FR in
theorem w238_1 (h:T238_1 prog K P0 s0 f1 t7 t8):W prog d l238_0 σ st (thenW prog d (.loop l238_0) (blockW 0 (thenW prog d c238_1 Q))):=
 q_ J (b_ H8 H7 lss_ (e_ (sq_ (cs_ J (fun c=>sk_ (sq_ (bk_ (q_ J (m_ (m_ (e_ (q_ J (m_ (s_mvL H0 (m_ ((h.1 c).2.elim fun o j=>ia_ J H8 (h.1 c).1 j.1 (Dfr.row_eq o) J (lf_ J J J (j.2.elim fun _ e=>s_callV H1 (sec J sen) (e.1) (fun _ k=>e_ (cb_ J (fun i=>q_ J (m_ (m_ (er_ (hQ H8 (Fr.raw FR k) (e.2.1 i)))))) (fun i=>sk_ (W.reg0 J fun _ _=>b_ H8 J add_ (m_ (e_ (kP0 _ (e.2.2 i) _ _ _ H0 H1 H7 J (Fr.raw FR k)))))))))))))))))))))) (fun c=>ex_ (w238_2 hQ FR (h.2 c)))))))
include H0 H1 FR in
theorem w238_0 (h:T238_0 prog K s0 f1):W prog d (sR 0 r238_0 (.seq (sR 1 r238_1 (.block 0 (.loop l238_0))) c238_1)) σ st Q:=
 q_ J (m_ (e_ (sq_ (q_ J (s_mvL H0 (ll_ J (m_ (e_ (bk_ (h (I238_0 prog d Q st0 s0 f1 (s0.length:Int)) (fun _ hb _ _ _ H0 H1 H7 H8 FR=>W.loop (w238_1 hQ (fun _ x=>x) H0 H1 H7 H8 FR hb)) _ _ _ H0 H1 J J FR))))))))))
end
theorem p238 {prog:Prog}(hf:prog.fn 238=some pf238){s0:List Dfr}{f1:Nat × List AV}{K:Int→Prop}(h:T238_0 prog K s0 f1)(o_s0:Own):PuN prog 238 [.sl o_s0 (List.map Dfr.row s0),.fn f1.1 f1.2] (fun r=>∃res0:Int,(r=.i .i64 res0)∧K res0):=
 PF hf J J fun d st Q q=>w238_0 q J J Fr.refl h
def r239_0:List AI:=[oI 4 0]
def r239_1:List AI:=[oM 6 0,oJ 7 6,oI 8 0]
def r239_2:List AI:=[oT 9 .lss 8 7]
def r239_3:List AI:=[oM 10 8,oM 5 10]
def r239_4:List AI:=[oM 11 1,oM 12 0,oM 13 5,oX 14 7 12 13,oK 15 7 14,oO 16 (.callv (.t 11) [(.t 15)])]
def r239_5:List AI:=[oM 17 5,oM 4 17]
def r239_6:List AI:=[oV 18 .add 8 1,oM 8 18]
def r239_7:List AI:=[oI 4 (-1)]
abbrev l239_0:AC:=(sR 2 r239_2 (.seq (.cond (.t 9) .skip (.exit 0)) (.seq (.block 1 (sR 3 r239_3 (sR 4 r239_4 (.cond (.t 16) (sR 5 r239_5 .ret) .skip)))) (.reg 6 r239_6))))
abbrev c239_1:AC:=(sR 7 r239_7 .ret)
abbrev b239:AC:=(sR 0 r239_0 (.seq (sR 1 r239_1 (.block 0 (.loop l239_0))) c239_1))
def pf239:AF:={ nt:=19,res:=[.tmp 4],body:=b239 }
abbrev I239_0 (prog:Prog)(d:Nat)(Q:AE→Sl→St→Prop)(st0:St)(s0:List Pan)(f1:Nat × List AV)(t7:Int)(t8:Int):Prop:=
  ∀(σ:Sl)(st:St)(o_s0:Own),σ 0=.sl o_s0 (List.map Pan.row s0)→σ 1=.fn f1.1 f1.2→σ 7=.i .i64 t7→σ 8=.i .i64 t8→Fr d (d,0) st0.bx st0.ow st.bx st.ow→W prog d (.loop l239_0) σ st (blockW 0 (thenW prog d c239_1 Q))
def T239_2 (prog:Prog)(K:Int→Prop) :Prop:=
  K (-1)
def T239_1 (prog:Prog)(K:Int→Prop)(P0:Int→Prop)(s0:List Pan)(f1:Nat × List AV)(t7:Int)(t8:Int):Prop:=
  (t8<t7→0≤t8∧∃e:Pan,s0[(t8).toNat]?=some e∧∃c,(PuN prog f1.1 ([e.av]++f1.2) (fun r=>r=.b c))∧(c=true→K t8)∧(c=false→P0 (IntKind.i64.wrap (t8+1))))∧(¬(t8<t7)→T239_2 prog K )
def T239_0 (prog:Prog)(K:Int→Prop)(s0:List Pan)(f1:Nat × List AV):Prop:=
  ∀P0:Int→Prop,(∀(t8:Int),T239_1 prog K P0 s0 f1 (s0.length:Int) t8→P0 t8)→P0 0
section
variable {prog:Prog}{d:Nat}{Q:AE→Sl→St→Prop}{K:Int→Prop}{st0:St}(hQ:HF d st0 (AV.i .i64) 4 Q K){σ:Sl}{st:St}
include hQ
variable {s0:List Pan}{f1:Nat × List AV}{t7 t8:Int}{P0:Int→Prop}{o_s0:Own}
variable (kP0 :∀(t8:Int),P0 t8→I239_0 prog d Q st0 s0 f1 t7 t8)(H0:σ 0=.sl o_s0 (List.map Pan.row s0))(H1:σ 1=.fn f1.1 f1.2)(H7:σ 7=.i .i64 t7)(H8:σ 8=.i .i64 t8)(FR:Fr d (d,0) st0.bx st0.ow st.bx st.ow)
include FR in
theorem w239_2 (h:T239_2 prog K ):W prog d c239_1 σ st Q:=
 au trivial
include kP0 H0 H1 H7 H8 FR in
theorem w239_1 (h:T239_1 prog K P0 s0 f1 t7 t8):W prog d l239_0 σ st (thenW prog d (.loop l239_0) (blockW 0 (thenW prog d c239_1 Q))):=
 q_ J (b_ H8 H7 lss_ (e_ (sq_ (cs_ J (fun c=>sk_ (sq_ (bk_ (q_ J (m_ (m_ (e_ (q_ J (m_ (s_mvL H0 (m_ ((h.1 c).2.elim fun o j=>ia_ J H8 (h.1 c).1 j.1 (Pan.row_eq o) J (lf_ J J J (j.2.elim fun _ e=>s_callV H1 (sec J sen) (e.1) (fun _ k=>e_ (cb_ J (fun i=>q_ J (m_ (m_ (er_ (hQ H8 (Fr.raw FR k) (e.2.1 i)))))) (fun i=>sk_ (W.reg0 J fun _ _=>b_ H8 J add_ (m_ (e_ (kP0 _ (e.2.2 i) _ _ _ H0 H1 H7 J (Fr.raw FR k)))))))))))))))))))))) (fun c=>ex_ (w239_2 hQ FR (h.2 c)))))))
include H0 H1 FR in
theorem w239_0 (h:T239_0 prog K s0 f1):W prog d (sR 0 r239_0 (.seq (sR 1 r239_1 (.block 0 (.loop l239_0))) c239_1)) σ st Q:=
 q_ J (m_ (e_ (sq_ (q_ J (s_mvL H0 (ll_ J (m_ (e_ (bk_ (h (I239_0 prog d Q st0 s0 f1 (s0.length:Int)) (fun _ hb _ _ _ H0 H1 H7 H8 FR=>W.loop (w239_1 hQ (fun _ x=>x) H0 H1 H7 H8 FR hb)) _ _ _ H0 H1 J J FR))))))))))
end
theorem p239 {prog:Prog}(hf:prog.fn 239=some pf239){s0:List Pan}{f1:Nat × List AV}{K:Int→Prop}(h:T239_0 prog K s0 f1)(o_s0:Own):PuN prog 239 [.sl o_s0 (List.map Pan.row s0),.fn f1.1 f1.2] (fun r=>∃res0:Int,(r=.i .i64 res0)∧K res0):=
 PF hf J J fun d st Q q=>w239_0 q J J Fr.refl h
def r224_0:List AI:=[oC 4 (.b false)]
def r224_1:List AI:=[oM 5 0,oM 6 1,oO 7 (.call true 236 [(.t 5),(.t 6)]),oV 8 .geq 7 0,oM 4 8]
abbrev b224:AC:=(sR 0 r224_0 (sR 1 r224_1 .ret))
def pf224:AF:={ nt:=9,res:=[.tmp 4],body:=b224 }
def T224_0 (prog:Prog)(K:Bool→Prop)(s0:List Rou)(f1:Nat × List AV):Prop:=
  ∃c,(∀e:Own,PuN prog 236 [.sl e (List.map Rou.row s0),.fn f1.1 f1.2] (fun r=>r=.i .i64 c))∧K (decide (c≥0))
section
variable {prog:Prog}{d:Nat}{Q:AE→Sl→St→Prop}{K:Bool→Prop}{st0:St}(hQ:HF d st0 AV.b 4 Q K){σ:Sl}{st:St}
include hQ
variable {s0:List Rou}{f1:Nat × List AV}{o_s0:Own}
variable (H0:σ 0=.sl o_s0 (List.map Rou.row s0))(H1:σ 1=.fn f1.1 f1.2)(FR:Fr d (d,0) st0.bx st0.ow st.bx st.ow)
include H0 H1 FR in
theorem w224_0 (h:T224_0 prog K s0 f1):W prog d (sR 0 r224_0 (sR 1 r224_1 .ret)) σ st Q:=
 q_ J (m_ (e_ (q_ J (s_mvL H0 (m_ (h.elim fun _ c=>s_callN (sec J (sec H1 sen)) (c.1 _) (fun _ e=>b_ J J geq_ (m_ (er_ (hQ J (Fr.raw FR e) c.2))))))))))
end
theorem p224 {prog:Prog}(hf:prog.fn 224=some pf224){s0:List Rou}{f1:Nat × List AV}{K:Bool→Prop}(h:T224_0 prog K s0 f1)(o_s0:Own):PuN prog 224 [.sl o_s0 (List.map Rou.row s0),.fn f1.1 f1.2] (fun r=>∃res0:Bool,(r=.b res0)∧K res0):=
 PF hf J J fun d st Q q=>w224_0 q J J Fr.refl h
def r227_0:List AI:=[oC 4 (.b false)]
def r227_1:List AI:=[oM 5 0,oM 6 1,oO 7 (.call true 237 [(.t 5),(.t 6)]),oV 8 .geq 7 0,oM 4 8]
abbrev b227:AC:=(sR 0 r227_0 (sR 1 r227_1 .ret))
def pf227:AF:={ nt:=9,res:=[.tmp 4],body:=b227 }
def T227_0 (prog:Prog)(K:Bool→Prop)(s0:List Frm)(f1:Nat × List AV):Prop:=
  ∃c,(∀e:Own,PuN prog 237 [.sl e (List.map Frm.row s0),.fn f1.1 f1.2] (fun r=>r=.i .i64 c))∧K (decide (c≥0))
section
variable {prog:Prog}{d:Nat}{Q:AE→Sl→St→Prop}{K:Bool→Prop}{st0:St}(hQ:HF d st0 AV.b 4 Q K){σ:Sl}{st:St}
include hQ
variable {s0:List Frm}{f1:Nat × List AV}{o_s0:Own}
variable (H0:σ 0=.sl o_s0 (List.map Frm.row s0))(H1:σ 1=.fn f1.1 f1.2)(FR:Fr d (d,0) st0.bx st0.ow st.bx st.ow)
include H0 H1 FR in
theorem w227_0 (h:T227_0 prog K s0 f1):W prog d (sR 0 r227_0 (sR 1 r227_1 .ret)) σ st Q:=
 q_ J (m_ (e_ (q_ J (s_mvL H0 (m_ (h.elim fun _ c=>s_callN (sec J (sec H1 sen)) (c.1 _) (fun _ e=>b_ J J geq_ (m_ (er_ (hQ J (Fr.raw FR e) c.2))))))))))
end
theorem p227 {prog:Prog}(hf:prog.fn 227=some pf227){s0:List Frm}{f1:Nat × List AV}{K:Bool→Prop}(h:T227_0 prog K s0 f1)(o_s0:Own):PuN prog 227 [.sl o_s0 (List.map Frm.row s0),.fn f1.1 f1.2] (fun r=>∃res0:Bool,(r=.b res0)∧K res0):=
 PF hf J J fun d st Q q=>w227_0 q J J Fr.refl h
def r229_0:List AI:=[oC 4 (.b false)]
def r229_1:List AI:=[oM 5 0,oM 6 1,oO 7 (.call true 238 [(.t 5),(.t 6)]),oV 8 .geq 7 0,oM 4 8]
abbrev b229:AC:=(sR 0 r229_0 (sR 1 r229_1 .ret))
def pf229:AF:={ nt:=9,res:=[.tmp 4],body:=b229 }
def T229_0 (prog:Prog)(K:Bool→Prop)(s0:List Dfr)(f1:Nat × List AV):Prop:=
  ∃c,(∀e:Own,PuN prog 238 [.sl e (List.map Dfr.row s0),.fn f1.1 f1.2] (fun r=>r=.i .i64 c))∧K (decide (c≥0))
section
variable {prog:Prog}{d:Nat}{Q:AE→Sl→St→Prop}{K:Bool→Prop}{st0:St}(hQ:HF d st0 AV.b 4 Q K){σ:Sl}{st:St}
include hQ
variable {s0:List Dfr}{f1:Nat × List AV}{o_s0:Own}
variable (H0:σ 0=.sl o_s0 (List.map Dfr.row s0))(H1:σ 1=.fn f1.1 f1.2)(FR:Fr d (d,0) st0.bx st0.ow st.bx st.ow)
include H0 H1 FR in
theorem w229_0 (h:T229_0 prog K s0 f1):W prog d (sR 0 r229_0 (sR 1 r229_1 .ret)) σ st Q:=
 q_ J (m_ (e_ (q_ J (s_mvL H0 (m_ (h.elim fun _ c=>s_callN (sec J (sec H1 sen)) (c.1 _) (fun _ e=>b_ J J geq_ (m_ (er_ (hQ J (Fr.raw FR e) c.2))))))))))
end
theorem p229 {prog:Prog}(hf:prog.fn 229=some pf229){s0:List Dfr}{f1:Nat × List AV}{K:Bool→Prop}(h:T229_0 prog K s0 f1)(o_s0:Own):PuN prog 229 [.sl o_s0 (List.map Dfr.row s0),.fn f1.1 f1.2] (fun r=>∃res0:Bool,(r=.b res0)∧K res0):=
 PF hf J J fun d st Q q=>w229_0 q J J Fr.refl h
def r232_0:List AI:=[oC 4 (.b false)]
def r232_1:List AI:=[oM 5 0,oM 6 1,oO 7 (.call true 239 [(.t 5),(.t 6)]),oV 8 .geq 7 0,oM 4 8]
abbrev b232:AC:=(sR 0 r232_0 (sR 1 r232_1 .ret))
def pf232:AF:={ nt:=9,res:=[.tmp 4],body:=b232 }
def T232_0 (prog:Prog)(K:Bool→Prop)(s0:List Pan)(f1:Nat × List AV):Prop:=
  ∃c,(∀e:Own,PuN prog 239 [.sl e (List.map Pan.row s0),.fn f1.1 f1.2] (fun r=>r=.i .i64 c))∧K (decide (c≥0))
section
variable {prog:Prog}{d:Nat}{Q:AE→Sl→St→Prop}{K:Bool→Prop}{st0:St}(hQ:HF d st0 AV.b 4 Q K){σ:Sl}{st:St}
include hQ
variable {s0:List Pan}{f1:Nat × List AV}{o_s0:Own}
variable (H0:σ 0=.sl o_s0 (List.map Pan.row s0))(H1:σ 1=.fn f1.1 f1.2)(FR:Fr d (d,0) st0.bx st0.ow st.bx st.ow)
include H0 H1 FR in
theorem w232_0 (h:T232_0 prog K s0 f1):W prog d (sR 0 r232_0 (sR 1 r232_1 .ret)) σ st Q:=
 q_ J (m_ (e_ (q_ J (s_mvL H0 (m_ (h.elim fun _ c=>s_callN (sec J (sec H1 sen)) (c.1 _) (fun _ e=>b_ J J geq_ (m_ (er_ (hQ J (Fr.raw FR e) c.2))))))))))
end
theorem p232 {prog:Prog}(hf:prog.fn 232=some pf232){s0:List Pan}{f1:Nat × List AV}{K:Bool→Prop}(h:T232_0 prog K s0 f1)(o_s0:Own):PuN prog 232 [.sl o_s0 (List.map Pan.row s0),.fn f1.1 f1.2] (fun r=>∃res0:Bool,(r=.b res0)∧K res0):=
 PF hf J J fun d st Q q=>w232_0 q J J Fr.refl h
end Go.AM

namespace Go.AM
open Go
set_option linter.unusedVariables false
set_option linter.unusedSimpArgs false
set_option maxRecDepth 4000
set_option maxHeartbeats 2000000
attribute [local irreducible] Decidable.decide W WO fillCells fillRows
def r228_0:List AI:=[oY 2 4 0,oC 3 (.b false)]
def r228_1:List AI:=[oK 4 3 1,oK 5 4 2,oQ 6 86 [4,5],oV 7 .neq 6 0,oM 3 7]
abbrev b228:AC:=(sR 0 r228_0 (sR 1 r228_1 .ret))
def pf228:AF:={ nt:=8,res:=[.tmp 3],body:=b228 }
def T228_0 (prog:Prog)(K:Bool→Prop)(y0:Frm)(t1:Img):Prop:=
  ∃c,Pus prog 86 [t1.av,y0.av] (.i .i64 c)∧K (decide (c≠0))
section
variable {prog:Prog}{d:Nat}{Q:AE→Sl→St→Prop}{K:Bool→Prop}{st0:St}(hQ:HF d st0 AV.b 3 Q K){σ:Sl}{st:St}
include hQ
variable {y0:Frm}{t1:Img}
variable (H0:σ 0=y0.av)(H1:σ 1=.fp [.sl .ext (List.map Typ.row t1.types),.sl .ext (List.map rowS t1.texts),.sl .ext (List.map Fun.row t1.funcs)])(FR:Fr d (d,0) st0.bx st0.ow st.bx st.ow)
include H0 H1 FR in
theorem w228_0 (h:T228_0 prog K y0 t1):W prog d (sR 0 r228_0 (sR 1 r228_1 .ret)) σ st Q:=
 au trivial
end
theorem p228 {prog:Prog}(hf:prog.fn 228=some pf228){y0:Frm}{t1:Img}{K:Bool→Prop}(h:T228_0 prog K y0 t1):PuN prog 228 [y0.av,.fp [.sl .ext (List.map Typ.row t1.types),.sl .ext (List.map rowS t1.texts),.sl .ext (List.map Fun.row t1.funcs)]] (fun r=>∃res0:Bool,(r=.b res0)∧K res0):=
 PF hf J J fun d st Q q=>w228_0 q J J Fr.refl h
def r230_0:List AI:=[oY 3 8 0,oC 4 (.b false)]
def r230_1:List AI:=[oK 5 3 1,oL 6 2,oK 7 8 3,oQ 8 231 [5,6,7],oZ 9 8,oM 4 9]
abbrev b230:AC:=(sR 0 r230_0 (sR 1 r230_1 .ret))
def pf230:AF:={ nt:=10,res:=[.tmp 4],body:=b230 }
def T230_0 (prog:Prog)(K:Bool→Prop)(y0:Dfr)(t1:Img)(t2:Int):Prop:=
  ∃c,Pus prog 231 [t1.av,.i .i64 t2,y0.av] (.b c)∧K (!c)
section
variable {prog:Prog}{d:Nat}{Q:AE→Sl→St→Prop}{K:Bool→Prop}{st0:St}(hQ:HF d st0 AV.b 4 Q K){σ:Sl}{st:St}
include hQ
variable {y0:Dfr}{t1:Img}{t2:Int}
variable (H0:σ 0=y0.av)(H1:σ 1=.fp [.sl .ext (List.map Typ.row t1.types),.sl .ext (List.map rowS t1.texts),.sl .ext (List.map Fun.row t1.funcs)])(H2:σ 2=.fp [.i .i64 t2])(FR:Fr d (d,0) st0.bx st0.ow st.bx st.ow)
include H0 H1 H2 FR in
theorem w230_0 (h:T230_0 prog K y0 t1 t2):W prog d (sR 0 r230_0 (sR 1 r230_1 .ret)) σ st Q:=
 au trivial
end
theorem p230 {prog:Prog}(hf:prog.fn 230=some pf230){y0:Dfr}{t1:Img}{t2:Int}{K:Bool→Prop}(h:T230_0 prog K y0 t1 t2):PuN prog 230 [y0.av,.fp [.sl .ext (List.map Typ.row t1.types),.sl .ext (List.map rowS t1.texts),.sl .ext (List.map Fun.row t1.funcs)],.fp [.i .i64 t2]] (fun r=>∃res0:Bool,(r=.b res0)∧K res0):=
 PF hf J J fun d st Q q=>w230_0 q J J J Fr.refl h
def r233_0:List AI:=[oY 1 7 0,oC 2 (.b false)]
def r233_1:List AI:=[oK 3 7 1,oQ 4 158 [3],oV 5 .neq 4 0,oM 2 5]
abbrev b233:AC:=(sR 0 r233_0 (sR 1 r233_1 .ret))
def pf233:AF:={ nt:=6,res:=[.tmp 2],body:=b233 }
def T233_0 (prog:Prog)(K:Bool→Prop)(y0:Pan):Prop:=
  ∃c,Pus prog 158 [y0.av] (.i .i64 c)∧K (decide (c≠0))
section
variable {prog:Prog}{d:Nat}{Q:AE→Sl→St→Prop}{K:Bool→Prop}{st0:St}(hQ:HF d st0 AV.b 2 Q K){σ:Sl}{st:St}
include hQ
variable {y0:Pan}
variable (H0:σ 0=y0.av)(FR:Fr d (d,0) st0.bx st0.ow st.bx st.ow)
include H0 FR in
theorem w233_0 (h:T233_0 prog K y0):W prog d (sR 0 r233_0 (sR 1 r233_1 .ret)) σ st Q:=
 au trivial
end
theorem p233 {prog:Prog}(hf:prog.fn 233=some pf233){y0:Pan}{K:Bool→Prop}(h:T233_0 prog K y0):PuN prog 233 [y0.av] (fun r=>∃res0:Bool,(r=.b res0)∧K res0):=
 PF hf J J fun d st Q q=>w233_0 q J Fr.refl h
def r231_0:List AI:=[oY 3 3 0,oY 5 8 2,oC 6 (.b false)]
def r231_1:List AI:=[oF 8 0 5,oL 9 8,oV 10 .lss 9 0,oM 11 10,gF 11 (oF 12 0 5),gF 11 (oL 13 12),gF 11 (oM 14 1),gF 11 (oT 15 .geq 13 14),oR 16 11 15,oM 17 16,gF 17 (oF 18 1 5),gF 17 (oL 19 18),gF 17 (oV 20 .lss 19 0),oR 21 17 20,oM 22 21,gF 22 (oF 23 1 5),gF 22 (oL 24 23),gF 22 (oF 25 2 3),gF 22 (oL 26 25),gF 22 (oJ 27 26),gF 22 (oT 28 .geq 24 27),oR 29 22 28,oM 30 29,gF 30 (oF 31 2 3),gF 30 (oL 32 31),gF 30 (oF 33 1 5),gF 30 (oL 34 33),gF 30 (oX 35 7 32 34),gF 30 (oF 36 0 35),gF 30 (oL 37 36),gF 30 (oH 38 37),gF 30 (oV 39 .gtr 38 16),oR 40 30 39]
def r231_2:List AI:=[oC 6 (.b false)]
def r231_3:List AI:=[oF 41 2 5,oL 42 41,oZ 43 42]
def r231_4:List AI:=[oF 44 3 5,oK 45 5 44,oO 7 (.alloc [z8,z6,zs,zl,zb]),oS 5 7 45]
def r231_5:List AI:=[oF 46 0 7,oL 47 46,oW 48 .eql 47 0,oM 49 48,gT 49 (oF 50 1 7),gT 49 (oL 51 50),gT 49 (oV 52 .eql 51 0),oA 53 49 52,oM 54 53,gT 54 (oF 55 2 7),gT 54 (oL 56 55),gT 54 (oB 57 .eql (.t 56) (.c (.s []))),oA 58 54 57,oM 59 58,gT 59 (oF 60 3 7),gT 59 (oL 61 60),gT 59 (oJ 62 61),gT 59 (oV 63 .eql 62 0),oA 64 59 63,oM 65 64,gT 65 (oF 66 4 7),gT 65 (oL 67 66),gT 65 (oZ 68 67),oA 69 65 68,oM 6 69]
def r231_6:List AI:=[oF 70 3 5,oF 71 0 70,oL 72 71]
def r231_7:List AI:=[oW 74 .eql 72 1,oM 73 74]
def r231_8:List AI:=[oW 75 .eql 72 2,oM 73 75]
def r231_9:List AI:=[oW 76 .eql 72 4,oM 73 76]
def r231_10:List AI:=[oF 77 3 5,oK 78 5 77,oQ 79 76 [78],oV 80 .eql 79 0,oM 6 80]
def r231_11:List AI:=[oC 6 (.b false)]
abbrev c231_0:AC:=(.cond (.t 73) (sR 10 r231_10 .ret) .skip)
abbrev c231_1:AC:=(.seq (sR 6 r231_6 (.block 0 (.seq (sR 7 r231_7 (.cond (.t 73) .skip (sR 8 r231_8 (.cond (.t 73) .skip (.reg 9 r231_9))))) c231_0))) (sR 11 r231_11 .ret))
abbrev c231_2:AC:=(.seq (sR 3 r231_3 (.cond (.t 43) (sR 4 r231_4 (sR 5 r231_5 .ret)) .skip)) c231_1)
abbrev c231_3:AC:=(.seq (sR 1 r231_1 (.cond (.t 40) (sR 2 r231_2 .ret) .skip)) c231_2)
abbrev b231:AC:=(sR 0 r231_0 c231_3)
def pf231:AF:={ nt:=81,res:=[.tmp 6],body:=b231 }
def T231_4 (prog:Prog)(K:Bool→Prop)(t73:Bool)(m1:Dfr):Prop:=
  (t73=true→∃c,Pus prog 76 [m1.arg.av] (.i .i64 c)∧K (decide (c=0)))∧(t73=false→K false)
def T231_3 (prog:Prog)(K:Bool→Prop)(m1:Dfr):Prop:=
  (m1.arg.kind=1→T231_4 prog K (decide (m1.arg.kind=1)) m1)∧(¬(m1.arg.kind=1)→(m1.arg.kind=2→T231_4 prog K (decide (m1.arg.kind=2)) m1)∧(¬(m1.arg.kind=2)→T231_4 prog K (decide (m1.arg.kind=4)) m1))
def T231_2 (prog:Prog)(K:Bool→Prop)(m1:Dfr):Prop:=
  ((!m1.hasArg)=true→(m1.arg.kind=0→(m1.arg.int=0→(m1.arg.text=([]:BS)→((m1.arg.list.length:Int)=0→K (!m1.arg.cut))∧(¬((m1.arg.list.length:Int)=0)→K false))∧(¬(m1.arg.text=([]:BS))→K false))∧(¬(m1.arg.int=0)→K false))∧(¬(m1.arg.kind=0)→K false))∧((!m1.hasArg)=false→T231_3 prog K m1)
def T231_1 (prog:Prog)(K:Bool→Prop)(frames1:Int)(m0:Img)(m1:Dfr):Prop:=
  (m1.frame<0→K false)∧(¬(m1.frame<0)→(m1.frame≥frames1→K false)∧(¬(m1.frame≥frames1)→(m1.func<0→K false)∧(¬(m1.func<0)→(m1.func≥(m0.funcs.length:Int)→K false)∧(¬(m1.func≥(m0.funcs.length:Int))→0≤m1.func∧∃c:Fun,m0.funcs[(m1.func).toNat]?=some c∧((c.name.length:Int)>16→K false)∧(¬((c.name.length:Int)>16)→T231_2 prog K m1)))))
def T231_0 (prog:Prog)(K:Bool→Prop)(m0:Img)(frames1:Int)(d2:Dfr):Prop:=
  T231_1 prog K frames1 m0 d2
section
variable {prog:Prog}{d:Nat}{Q:AE→Sl→St→Prop}{K:Bool→Prop}(hQ:H1 AV.b 6 Q K){σ:Sl}{st:St}
include hQ
variable {t73:Bool}{m1:Dfr}{v1:Nat}{frames1:Int}{m0:Img}{v0:Nat}{d2:Dfr}
variable (H0:σ 0=m0.av)(H1:σ 1=.i .i64 frames1)(H3:σ 3=.p (d,0) v0 0)(H2:σ 2=d2.av)(H5:σ 5=.p (d,1) v1 0)(H73:σ 73=.b t73)(B0:lk st.bx (d,0)=some (v0,Img.cs m0))(B1:lk st.bx (d,1)=some (v1,[.i .i64 m1.frame,.i .i64 m1.func,.b m1.hasArg,.i .u8 m1.arg.kind,.i .i64 m1.arg.int,.s m1.arg.text,.sl .ext (List.map Val.row m1.arg.list),.b m1.arg.cut]))
include H5 H73 B1 in
theorem w231_4 (h:T231_4 prog K t73 m1):W prog d c231_0 σ st (blockW 0 (thenW prog d (sR 11 r231_11 .ret) Q)):=
 au trivial
include H5 B1 in
theorem w231_3 (h:T231_3 prog K m1):W prog d c231_1 σ st Q:=
 au @w231_4
include H5 B1 in
theorem w231_2 (h:T231_2 prog K m1):W prog d c231_2 σ st Q:=
 au @w231_3
include H1 H3 H5 B0 B1 in
theorem w231_1 (h:T231_1 prog K frames1 m0 m1):W prog d c231_3 σ st Q:=
 au @w231_2
include H0 H1 H2 in
theorem w231_0 (h:T231_0 prog K m0 frames1 d2):W prog d (sR 0 r231_0 c231_3) σ st Q:=
 au @w231_1
end
theorem p231 {prog:Prog}(hf:prog.fn 231=some pf231){m0:Img}{frames1:Int}{d2:Dfr}{K:Bool→Prop}(h:T231_0 prog K m0 frames1 d2) :∃res0:Bool,K res0∧Pus prog 231 [m0.av,.i .i64 frames1,d2.av] (.b res0):=
 P1 hf J (w231_0 (h1 J fun _=>J) J J J h)
def r219_0:List AI:=[oO 2 (.boxf 3 (.t 0)),oO 3 (.boxf 5 (.t 1)),oC 4 (.b false)]
def r219_1:List AI:=[oF 8 2 3,oO 9 (.ldf 1 false (.t 8)),oJ 10 9,oF 11 3 3,oO 12 (.ldf 1 false (.t 11)),oJ 13 12,oF 14 4 3,oO 15 (.ldf 1 false (.t 14)),oJ 16 15,oO 5 (.alloc [z6]),oS 1 5 10,oM 6 13,oM 7 16]
def r219_2:List AI:=[oF 17 0 3,oL 18 17]
def r219_3:List AI:=[oW 20 .eql 18 3,oM 19 20]
def r219_4:List AI:=[oW 22 .eql 18 1,oM 21 22]
def r219_5:List AI:=[oW 24 .eql 18 2,oM 23 24]
def r219_6:List AI:=[oL 25 5,oM 26 6,oT 27 .add 25 26,oM 28 7,oT 29 .add 27 28,oV 30 .eql 29 0,oM 31 30,gT 31 (oF 32 1 3),gT 31 (oL 33 32),gT 31 (oV 34 .eql 33 0),oA 35 31 34,oM 4 35]
def r219_7:List AI:=[oF 36 1 3,oL 37 36,oV 38 .neq 37 0]
def r219_8:List AI:=[oC 4 (.b false)]
def r219_9:List AI:=[oL 39 5,oV 40 .lss 39 1,oM 41 40,gF 41 (oL 42 5),gF 41 (oV 43 .gtr 42 170),oR 44 41 43,oM 45 44,gF 45 (oM 46 6),gF 45 (oV 47 .gtr 46 410),oR 48 45 47,oM 49 48,gF 49 (oM 50 7),gF 49 (oV 51 .gtr 50 410),oR 52 49 51]
def r219_10:List AI:=[oC 4 (.b false)]
def r219_11:List AI:=[oF 53 2 3,oL 54 53,oO 55 (.mkfn 228 [(.t 2)]),oO 56 (.call true 227 [(.t 54),(.t 55)]),oZ 57 56,oM 58 57,gT 58 (oF 59 3 3),gT 58 (oL 60 59),gT 58 (oO 61 (.mkfz 230 [(.t 2)] (.t 5) [])),gT 58 (oO 62 (.call true 229 [(.t 60),(.t 61)])),gT 58 (oZ 63 62),oA 64 58 63,oM 65 64,gT 65 (oF 66 4 3),gT 65 (oL 67 66),gT 65 (oO 68 (.call true 232 [(.t 67),(.c (.fn 233 []))])),gT 65 (oZ 69 68),oA 70 65 69,oM 4 70]
def r219_12:List AI:=[oC 4 (.b false)]
abbrev c219_0:AC:=(sR 7 r219_7 (.cond (.t 38) (sR 8 r219_8 .ret) .skip))
abbrev c219_1:AC:=(sR 11 r219_11 .ret)
abbrev c219_2:AC:=(.seq (.seq (sR 9 r219_9 (.cond (.t 52) (sR 10 r219_10 .ret) .skip)) c219_1) (.exit 0))
abbrev c219_3:AC:=(sR 12 r219_12 .ret)
abbrev c219_4:AC:=(sR 1 r219_1 (.seq (sR 2 r219_2 (.block 0 (.seq (.block 3 (.seq (.block 2 (.seq (.block 1 (.seq (.seq (sR 3 r219_3 (.cond (.t 19) (.exit 1) .skip)) (.seq (sR 4 r219_4 (.cond (.t 21) (.exit 2) .skip)) (sR 5 r219_5 (.cond (.t 23) (.exit 3) .skip)))) (.exit 0))) (.seq (sR 6 r219_6 .ret) (.exit 0)))) c219_0)) c219_2))) c219_3))
abbrev b219:AC:=(sR 0 r219_0 c219_4)
def pf219:AF:={ nt:=71,res:=[.tmp 4],fz:=[2,3,1000005],body:=b219 }
def T219_4 (prog:Prog)(K:Bool→Prop)(m2_0:List Typ)(m2_1:LB)(m2_2:List Fun)(x3_0:Int)(x3_1:Int)(x3_2:List Frm)(x3_3:List Dfr)(x3_4:List Pan)(m4105:Int):Prop:=
  ∃c,(∀k:Own,PuN prog 227 [.sl k (List.map Frm.row x3_2),.fn 228 [.fp [.sl .ext (List.map Typ.row m2_0),.sl .ext (List.map rowS m2_1),.sl .ext (List.map Fun.row m2_2)]]] (fun r=>r=.b c))∧((!c)=true→∃e,(∀o:Own,PuN prog 229 [.sl o (List.map Dfr.row x3_3),.fn 230 [.fp [.sl .ext (List.map Typ.row m2_0),.sl .ext (List.map rowS m2_1),.sl .ext (List.map Fun.row m2_2)],.fp [.i .i64 m4105]]] (fun r=>r=.b e))∧((!e)=true→∃j,(∀p:Own,PuN prog 232 [.sl p (List.map Pan.row x3_4),.fn 233 []] (fun r=>r=.b j))∧K (!j))∧((!e)=false→K false))∧((!c)=false→K false)
def T219_3 (prog:Prog)(K:Bool→Prop)(m2_0:List Typ)(m2_1:LB)(m2_2:List Fun)(x3_0:Int)(x3_1:Int)(x3_2:List Frm)(x3_3:List Dfr)(x3_4:List Pan)(d6:Int)(p7:Int)(m4105:Int):Prop:=
  (m4105<1→K false)∧(¬(m4105<1)→(m4105>170→K false)∧(¬(m4105>170)→(d6>410→K false)∧(¬(d6>410)→(p7>410→K false)∧(¬(p7>410)→T219_4 prog K m2_0 m2_1 m2_2 x3_0 x3_1 x3_2 x3_3 x3_4 m4105))))
def T219_2 (prog:Prog)(K:Bool→Prop)(m2_0:List Typ)(m2_1:LB)(m2_2:List Fun)(x3_0:Int)(x3_1:Int)(x3_2:List Frm)(x3_3:List Dfr)(x3_4:List Pan)(d6:Int)(p7:Int)(m4105:Int):Prop:=
  (x3_1≠0→K false)∧(¬(x3_1≠0)→T219_3 prog K m2_0 m2_1 m2_2 x3_0 x3_1 x3_2 x3_3 x3_4 d6 p7 m4105)
def T219_5 (prog:Prog)(K:Bool→Prop) :Prop:=
  K false
def T219_1 (prog:Prog)(K:Bool→Prop)(m2_0:List Typ)(m2_1:LB)(m2_2:List Fun)(x3_0:Int)(x3_1:Int)(x3_2:List Frm)(x3_3:List Dfr)(x3_4:List Pan):Prop:=
  (x3_0=3→((IntKind.i64.wrap ((IntKind.i64.wrap ((x3_2.length:Int)+(x3_3.length:Int)))+(x3_4.length:Int)))=0→K (decide (x3_1=0)))∧(¬((IntKind.i64.wrap ((IntKind.i64.wrap ((x3_2.length:Int)+(x3_3.length:Int)))+(x3_4.length:Int)))=0)→K false))∧(¬(x3_0=3)→(x3_0=1→T219_2 prog K m2_0 m2_1 m2_2 x3_0 x3_1 x3_2 x3_3 x3_4 (x3_3.length:Int) (x3_4.length:Int) (x3_2.length:Int))∧(¬(x3_0=1)→(x3_0=2→T219_3 prog K m2_0 m2_1 m2_2 x3_0 x3_1 x3_2 x3_3 x3_4 (x3_3.length:Int) (x3_4.length:Int) (x3_2.length:Int))∧(¬(x3_0=2)→T219_5 prog K )))
def T219_0 (prog:Prog)(K:Bool→Prop)(m0:Img)(x1:Rou):Prop:=
  T219_1 prog K m0.types m0.texts m0.funcs x1.status x1.key x1.frames x1.defers x1.panics
section
variable {prog:Prog}{d:Nat}{Q:AE→Sl→St→Prop}{K:Bool→Prop}(hQ:H1 AV.b 4 Q K){σ:Sl}{st:St}
include hQ
variable {m2_0:List Typ}{m2_1:LB}{m2_2:List Fun}{x3_0 x3_1:Int}{x3_2:List Frm}{x3_3:List Dfr}{x3_4:List Pan}{m4105:Int}{v4105:Nat}{d6 p7:Int}{m0:Img}{x1:Rou}
variable (H2:σ 2=.fp [.sl .ext (List.map Typ.row m2_0),.sl .ext (List.map rowS m2_1),.sl .ext (List.map Fun.row m2_2)])(H0:σ 0=m0.av)(H3:σ 3=.fp [.i .u8 x3_0,.i .i64 x3_1,.sl .ext (List.map Frm.row x3_2),.sl .ext (List.map Dfr.row x3_3),.sl .ext (List.map Pan.row x3_4)])(H1:σ 1=x1.av)(H5:σ 5=.p (d,4105) v4105 0)(H6:σ 6=.i .i64 d6)(H7:σ 7=.i .i64 p7)(B4105:lk st.bx (d,4105)=some (v4105,[.i .i64 m4105]))
include H2 H3 H5 B4105 in
theorem w219_4 (h:T219_4 prog K m2_0 m2_1 m2_2 x3_0 x3_1 x3_2 x3_3 x3_4 m4105):W prog d c219_1 σ st (thenW prog d (.exit 0) (blockW 0 (thenW prog d c219_3 Q))):=
 q_ J (ff_ H3 (lf_ J J J (s_mkfn (sec H2 sen) (h.elim fun _ e=>s_callN (sec J (sec J sen)) (e.1 _) (fun _ o=>nt_ J (s_mvB J (eb_ (g:=58) J (fun j=>gy_ J (ff_ H3 (gy_ J (lf_ J J J (gy_ J (s_mkfz (evs_map.symm.trans (sec H2 sen)) H5 (evs_map.symm.trans sen) ((o.1 (d,4105) (Nat.lt_succ_self d) key_dn).trans B4105) J (gy_ J ((e.2.1 j).elim fun _ c=>s_callN (sec J (sec J sen)) (c.1 _) (fun _ _=>gy_ J (nt_ J (z_ 2 J (eb_ (g:=65) J (fun i=>gy_ J (ff_ H3 (gy_ J (lf_ J J J (gy_ J ((c.2.1 i).elim fun _ k=>s_callN (sec J (sec J sen)) (k.1 _) (fun _ _=>gy_ J (nt_ J (z_ 2 J (er_ (hQ J k.2))))))))))) (fun i=>z_ 6 J (er_ (hQ J (c.2.2 i)))))))))))))))) (fun j=>z_ 13 J (er_ (hQ J (e.2.2 j)))))))))))
include H2 H3 H5 H6 H7 B4105 in
theorem w219_3 (h:T219_3 prog K m2_0 m2_1 m2_2 x3_0 x3_1 x3_2 x3_3 x3_4 d6 p7 m4105):W prog d c219_2 σ st (blockW 0 (thenW prog d c219_3 Q)):=
 sq_ (sq_ (q_ J (l_ H5 B4105 J J (b_ J J lss_ (s_mvB J (em_ (g:=41) J (fun c=>z_ 11 J (e_ (ct_ J (q_ J (m_ (er_ (hQ J (h.1 c)))))))) (fun c=>gy_ J (l_ H5 B4105 J J (gy_ J (b_ J J gtr_ (z_ 2 J (em_ (g:=45) J (fun e=>z_ 7 J (e_ (ct_ J (q_ J (m_ (er_ (hQ J ((h.2 c).1 e)))))))) (fun e=>gy_ J (s_mvI H6 (gy_ J (b_ J J gtr_ (z_ 2 J (em_ (g:=49) J (fun i=>z_ 3 J (e_ (ct_ J (q_ J (m_ (er_ (hQ J (((h.2 c).2 e).1 i)))))))) (fun i=>gy_ J (s_mvI H7 (gy_ J (b_ J J gtr_ (pf_ J J (e_ (cs_ J (fun j=>q_ J (m_ (er_ (hQ J ((((h.2 c).2 e).2 i).1 j))))) (fun j=>sk_ (w219_4 hQ H2 H3 H5 B4105 ((((h.2 c).2 e).2 i).2 j))))))))))))))))))))))))))))
include H2 H3 H5 H6 H7 B4105 in
theorem w219_2 (h:T219_2 prog K m2_0 m2_1 m2_2 x3_0 x3_1 x3_2 x3_3 x3_4 d6 p7 m4105):W prog d c219_0 σ st (blockW 3 (thenW prog d c219_2 (blockW 0 (thenW prog d c219_3 Q)))):=
 au @w219_3
theorem w219_5 (h:T219_5 prog K ):W prog d c219_3 σ st Q:=
 au trivial
include H2 H3 in
theorem w219_1 (h:T219_1 prog K m2_0 m2_1 m2_2 x3_0 x3_1 x3_2 x3_3 x3_4):W prog d c219_4 σ st Q:=
 au (And.intro @w219_2 (And.intro @w219_3 @w219_5))
include H0 H1 in
theorem w219_0 (h:T219_0 prog K m0 x1):W prog d (sR 0 r219_0 c219_4) σ st Q:=
 au @w219_1
end
theorem p219 {prog:Prog}(hf:prog.fn 219=some pf219){m0:Img}{x1:Rou}{K:Bool→Prop}(h:T219_0 prog K m0 x1) :∃res0:Bool,K res0∧Pus prog 219 [m0.av,x1.av] (.b res0):=
 P1 hf J (w219_0 (h1 J fun _=>J) J J h)
def r225_0:List AI:=[oY 2 5 0,oC 3 (.b false)]
def r225_1:List AI:=[oK 4 3 1,oK 5 5 2,oQ 6 219 [4,5],oZ 7 6,oM 3 7]
abbrev b225:AC:=(sR 0 r225_0 (sR 1 r225_1 .ret))
def pf225:AF:={ nt:=8,res:=[.tmp 3],body:=b225 }
def T225_0 (prog:Prog)(K:Bool→Prop)(x0:Rou)(t1:Img):Prop:=
  ∃c,Pus prog 219 [t1.av,x0.av] (.b c)∧K (!c)
section
variable {prog:Prog}{d:Nat}{Q:AE→Sl→St→Prop}{K:Bool→Prop}{st0:St}(hQ:HF d st0 AV.b 3 Q K){σ:Sl}{st:St}
include hQ
variable {x0:Rou}{t1:Img}
variable (H0:σ 0=x0.av)(H1:σ 1=.fp [.sl .ext (List.map Typ.row t1.types),.sl .ext (List.map rowS t1.texts),.sl .ext (List.map Fun.row t1.funcs)])(FR:Fr d (d,0) st0.bx st0.ow st.bx st.ow)
include H0 H1 FR in
theorem w225_0 (h:T225_0 prog K x0 t1):W prog d (sR 0 r225_0 (sR 1 r225_1 .ret)) σ st Q:=
 au trivial
end
theorem p225 {prog:Prog}(hf:prog.fn 225=some pf225){x0:Rou}{t1:Img}{K:Bool→Prop}(h:T225_0 prog K x0 t1):PuN prog 225 [x0.av,.fp [.sl .ext (List.map Typ.row t1.types),.sl .ext (List.map rowS t1.texts),.sl .ext (List.map Fun.row t1.funcs)]] (fun r=>∃res0:Bool,(r=.b res0)∧K res0):=
 PF hf J J fun d st Q q=>w225_0 q J J Fr.refl h
def r213_0:List AI:=[oO 2 (.boxf 3 (.t 0)),oY 3 4 1,oI 4 0]
def r213_1:List AI:=[oF 6 3 3,oL 7 6,oJ 8 7,oM 5 8]
def r213_2:List AI:=[oF 9 0 3,oL 10 9,oW 11 .lss 10 1,oM 12 11,gF 12 (oF 13 0 3),gF 12 (oL 14 13),gF 12 (oW 15 .gtr 14 8),oR 16 12 15,oM 17 16,gF 17 (oF 18 2 3),gF 17 (oL 19 18),gF 17 (oV 20 .lss 19 0),oR 21 17 20,oM 22 21,gF 22 (oF 23 2 3),gF 22 (oL 24 23),gF 22 (oV 25 .gtr 24 5000),oR 26 22 25,oM 27 26,gF 27 (oM 28 5),gF 27 (oV 29 .gtr 28 16),oR 30 27 29,oM 31 30,gF 31 (oF 32 1 3),gF 31 (oL 33 32),gF 31 (oV 34 .lss 33 (-1)),oR 35 31 34,oM 36 35,gF 36 (oF 37 1 3),gF 36 (oL 38 37),gF 36 (oM 39 5),gF 36 (oT 40 .geq 38 39),oR 41 36 40,oM 42 41,gF 42 (oF 43 3 3),gF 42 (oL 44 43),gF 42 (oO 45 (.mkfn 225 [(.t 2)])),gF 42 (oO 46 (.call true 224 [(.t 44),(.t 45)])),oR 47 42 46]
def r213_3:List AI:=[oI 4 8]
def r213_4:List AI:=[oI 4 0]
abbrev b213:AC:=(sR 0 r213_0 (sR 1 r213_1 (.seq (sR 2 r213_2 (.cond (.t 47) (sR 3 r213_3 .ret) .skip)) (sR 4 r213_4 .ret))))
def pf213:AF:={ nt:=48,res:=[.tmp 4],fz:=[2],body:=b213 }
def T213_0 (prog:Prog)(K:Int→Prop)(m0:Img)(s1:Sta):Prop:=
  (s1.outcome<1→K 8)∧(¬(s1.outcome<1)→(s1.outcome>8→K 8)∧(¬(s1.outcome>8)→(s1.steps<0→K 8)∧(¬(s1.steps<0)→(s1.steps>5000→K 8)∧(¬(s1.steps>5000)→((s1.routines.length:Int)>16→K 8)∧(¬((s1.routines.length:Int)>16)→(s1.failing<(-1)→K 8)∧(¬(s1.failing<(-1))→(s1.failing≥(s1.routines.length:Int)→K 8)∧(¬(s1.failing≥(s1.routines.length:Int))→∃c,(∀e:Own,PuN prog 224 [.sl e (List.map Rou.row s1.routines),.fn 225 [.fp [.sl .ext (List.map Typ.row m0.types),.sl .ext (List.map rowS m0.texts),.sl .ext (List.map Fun.row m0.funcs)]]] (fun r=>r=.b c))∧(c=true→K 8)∧(c=false→K 0))))))))
section
variable {prog:Prog}{d:Nat}{Q:AE→Sl→St→Prop}{K:Int→Prop}(hQ:H1 (AV.i .i64) 4 Q K){σ:Sl}{st:St}
include hQ
variable {m0:Img}{s1:Sta}
variable (H0:σ 0=m0.av)(H1:σ 1=s1.av)
include H0 H1 in
theorem w213_0 (h:T213_0 prog K m0 s1):W prog d (sR 0 r213_0 (sR 1 r213_1 (.seq (sR 2 r213_2 (.cond (.t 47) (sR 3 r213_3 .ret) .skip)) (sR 4 r213_4 .ret)))) σ st Q:=
 q_ J (s_boxf H0 J J (s_box H1 J (m_ (e_ (q_ J (f_ J (l_ J lk_here J J (ll_ J (m_ (e_ (sq_ (q_ J (f_ J (l_ J lk_here J J (b_ J J lss_ (s_mvB J (em_ (g:=12) J (fun c=>z_ 35 J (e_ (ct_ J (q_ J (m_ (er_ (hQ J (h.1 c)))))))) (fun c=>gy_ J (f_ J (gy_ J (l_ J lk_here J J (gy_ J (b_ J J gtr_ (z_ 2 J (em_ (g:=17) J (fun e=>z_ 30 J (e_ (ct_ J (q_ J (m_ (er_ (hQ J ((h.2 c).1 e)))))))) (fun e=>gy_ J (f_ J (gy_ J (l_ J lk_here J J (gy_ J (b_ J J lss_ (z_ 2 J (em_ (g:=22) J (fun i=>z_ 25 J (e_ (ct_ J (q_ J (m_ (er_ (hQ J (((h.2 c).2 e).1 i)))))))) (fun i=>gy_ J (f_ J (gy_ J (l_ J lk_here J J (gy_ J (b_ J J gtr_ (z_ 2 J (em_ (g:=27) J (fun j=>z_ 20 J (e_ (ct_ J (q_ J (m_ (er_ (hQ J ((((h.2 c).2 e).2 i).1 j)))))))) (fun j=>gy_ J (s_mvI J (gy_ J (b_ J J gtr_ (z_ 2 J (em_ (g:=31) J (fun k=>z_ 16 J (e_ (ct_ J (q_ J (m_ (er_ (hQ J (((((h.2 c).2 e).2 i).2 j).1 k)))))))) (fun k=>gy_ J (f_ J (gy_ J (l_ J lk_here J J (gy_ J (b_ J J lss_ (z_ 2 J (em_ (g:=36) J (fun o=>z_ 11 J (e_ (ct_ J (q_ J (m_ (er_ (hQ J ((((((h.2 c).2 e).2 i).2 j).2 k).1 o)))))))) (fun o=>gy_ J (f_ J (gy_ J (l_ J lk_here J J (gy_ J (s_mvI J (gy_ J (b_ J J geq_ (z_ 2 J (em_ (g:=42) J (fun r=>z_ 5 J (e_ (ct_ J (q_ J (m_ (er_ (hQ J (((((((h.2 c).2 e).2 i).2 j).2 k).2 o).1 r)))))))) (fun r=>gy_ J (f_ J (gy_ J (l_ J lk_here J J (gy_ J (s_mkfn (sec J sen) (gy_ J ((((((((h.2 c).2 e).2 i).2 j).2 k).2 o).2 r).elim fun _ p=>s_callN (sec J (sec J sen)) (p.1 _) (fun _ _=>pf_ J J (e_ (cb_ J (fun q=>q_ J (m_ (er_ (hQ J (p.2.1 q))))) (fun q=>sk_ (q_ J (m_ (er_ (hQ J (p.2.2 q))))))))))))))))))))))))))))))))))))))))))))))))))))))))))))))))))))))))))))))))))
end
theorem p213 {prog:Prog}(hf:prog.fn 213=some pf213){m0:Img}{s1:Sta}{K:Int→Prop}(h:T213_0 prog K m0 s1) :∃res0:Int,K res0∧Pus prog 213 [m0.av,s1.av] (.i .i64 res0):=
 P1 hf J (w213_0 (h1 J fun _=>J) J J h)
def r235_0:List AI:=[oY 3 3 0,oY 5 8 2,oC 6 (.b false)]
def r235_1:List AI:=[oF 8 0 5,oL 9 8,oV 10 .lss 9 0,oM 11 10,gF 11 (oF 12 0 5),gF 11 (oL 13 12),gF 11 (oM 14 1),gF 11 (oT 15 .geq 13 14),oR 16 11 15,oM 17 16,gF 17 (oF 18 1 5),gF 17 (oL 19 18),gF 17 (oV 20 .lss 19 0),oR 21 17 20,oM 22 21,gF 22 (oF 23 1 5),gF 22 (oL 24 23),gF 22 (oF 25 2 3),gF 22 (oL 26 25),gF 22 (oJ 27 26),gF 22 (oT 28 .geq 24 27),oR 29 22 28,oM 30 29,gF 30 (oF 31 2 3),gF 30 (oL 32 31),gF 30 (oF 33 1 5),gF 30 (oL 34 33),gF 30 (oX 35 7 32 34),gF 30 (oF 36 0 35),gF 30 (oL 37 36),gF 30 (oH 38 37),gF 30 (oV 39 .gtr 38 16),oR 40 30 39]
def r235_2:List AI:=[oC 6 (.b false)]
def r235_3:List AI:=[oF 41 2 5,oL 42 41,oZ 43 42]
def r235_4:List AI:=[oF 44 3 5,oK 45 5 44,oO 46 (.build [z8,z6,zs,zl,zb] []),oQ 47 78 [45,46],oM 6 47]
def r235_5:List AI:=[oF 48 3 5,oF 49 0 48,oL 50 49,oM 7 50]
def r235_6:List AI:=[oM 51 7,oW 52 .eql 51 1,oM 53 52,gF 53 (oM 54 7),gF 53 (oW 55 .eql 54 2),oR 56 53 55,oM 57 56,gF 57 (oM 58 7),gF 57 (oW 59 .eql 58 4),oR 60 57 59,oM 61 60,gT 61 (oF 62 3 5),gT 61 (oK 63 5 62),gT 61 (oQ 64 77 [63]),gT 61 (oV 65 .eql 64 0),oA 66 61 65,oM 6 66]
abbrev c235_0:AC:=(.seq (sR 3 r235_3 (.cond (.t 43) (sR 4 r235_4 .ret) .skip)) (sR 5 r235_5 (sR 6 r235_6 .ret)))
abbrev c235_1:AC:=(.seq (sR 1 r235_1 (.cond (.t 40) (sR 2 r235_2 .ret) .skip)) c235_0)
abbrev b235:AC:=(sR 0 r235_0 c235_1)
def pf235:AF:={ nt:=67,res:=[.tmp 6],body:=b235 }
def T235_2 (prog:Prog)(K:Bool→Prop)(m1:Dfr):Prop:=
  ((!m1.hasArg)=true→∃c,Pus prog 78 [m1.arg.av,.ag [.i .u8 0,.i .i64 0,.s [],.sl .ext (List.map Val.row ([]:List Val)),.b false]] (.b c)∧K c)∧((!m1.hasArg)=false→(m1.arg.kind=1→∃e,Pus prog 77 [m1.arg.av] (.i .i64 e)∧K (decide (e=0)))∧(¬(m1.arg.kind=1)→(m1.arg.kind=2→∃k,Pus prog 77 [m1.arg.av] (.i .i64 k)∧K (decide (k=0)))∧(¬(m1.arg.kind=2)→(m1.arg.kind=4→∃j,Pus prog 77 [m1.arg.av] (.i .i64 j)∧K (decide (j=0)))∧(¬(m1.arg.kind=4)→K false))))
def T235_1 (prog:Prog)(K:Bool→Prop)(many1:Int)(m0:Img)(m1:Dfr):Prop:=
  (m1.frame<0→K false)∧(¬(m1.frame<0)→(m1.frame≥many1→K false)∧(¬(m1.frame≥many1)→(m1.func<0→K false)∧(¬(m1.func<0)→(m1.func≥(m0.funcs.length:Int)→K false)∧(¬(m1.func≥(m0.funcs.length:Int))→0≤m1.func∧∃c:Fun,m0.funcs[(m1.func).toNat]?=some c∧((c.name.length:Int)>16→K false)∧(¬((c.name.length:Int)>16)→T235_2 prog K m1)))))
def T235_0 (prog:Prog)(K:Bool→Prop)(m0:Img)(many1:Int)(d2:Dfr):Prop:=
  T235_1 prog K many1 m0 d2
section
variable {prog:Prog}{d:Nat}{Q:AE→Sl→St→Prop}{K:Bool→Prop}(hQ:H1 AV.b 6 Q K){σ:Sl}{st:St}
include hQ
variable {m1:Dfr}{v1:Nat}{many1:Int}{m0:Img}{v0:Nat}{d2:Dfr}
variable (H0:σ 0=m0.av)(H1:σ 1=.i .i64 many1)(H3:σ 3=.p (d,0) v0 0)(H2:σ 2=d2.av)(H5:σ 5=.p (d,1) v1 0)(B0:lk st.bx (d,0)=some (v0,Img.cs m0))(B1:lk st.bx (d,1)=some (v1,[.i .i64 m1.frame,.i .i64 m1.func,.b m1.hasArg,.i .u8 m1.arg.kind,.i .i64 m1.arg.int,.s m1.arg.text,.sl .ext (List.map Val.row m1.arg.list),.b m1.arg.cut]))
include H5 B1 in
theorem w235_2 (h:T235_2 prog K m1):W prog d c235_0 σ st Q:=
 au trivial
include H1 H3 H5 B0 B1 in
theorem w235_1 (h:T235_1 prog K many1 m0 m1):W prog d c235_1 σ st Q:=
 au @w235_2
include H0 H1 H2 in
theorem w235_0 (h:T235_0 prog K m0 many1 d2):W prog d (sR 0 r235_0 c235_1) σ st Q:=
 au @w235_1
end
theorem p235 {prog:Prog}(hf:prog.fn 235=some pf235){m0:Img}{many1:Int}{d2:Dfr}{K:Bool→Prop}(h:T235_0 prog K m0 many1 d2) :∃res0:Bool,K res0∧Pus prog 235 [m0.av,.i .i64 many1,d2.av] (.b res0):=
 P1 hf J (w235_0 (h1 J fun _=>J) J J J h)
def r221_0:List AI:=[oY 2 3 0,oY 3 5 1,oC 4 (.b false)]
def r221_1:List AI:=[oF 7 0 3,oL 8 7,oW 9 .eql 8 3]
def r221_2:List AI:=[oF 10 2 3,oL 11 10,oJ 12 11,oV 13 .eql 12 0,oM 14 13,gT 14 (oF 15 3 3),gT 14 (oL 16 15),gT 14 (oJ 17 16),gT 14 (oV 18 .eql 17 0),oA 19 14 18,oM 20 19,gT 20 (oF 21 4 3),gT 20 (oL 22 21),gT 20 (oJ 23 22),gT 20 (oV 24 .eql 23 0),oA 25 20 24,oM 26 25,gT 26 (oF 27 1 3),gT 26 (oL 28 27),gT 26 (oV 29 .eql 28 0),oA 30 26 29,oM 4 30]
def r221_3:List AI:=[oF 31 0 3,oL 32 31,oW 33 .neq 32 2,oM 34 33,gT 34 (oF 35 0 3),gT 34 (oL 36 35),gT 34 (oW 37 .neq 36 1),gT 34 (oM 38 37),gF 38 (oF 39 1 3),gF 38 (oL 40 39),gF 38 (oV 41 .neq 40 0),gT 34 (oR 42 38 41),oA 43 34 42]
def r221_4:List AI:=[oC 4 (.b false)]
def r221_5:List AI:=[oF 44 2 3,oL 45 44,oJ 46 45,oV 47 .lss 46 1,oM 48 47,gF 48 (oF 49 2 3),gF 48 (oL 50 49),gF 48 (oJ 51 50),gF 48 (oV 52 .gtr 51 170),oR 53 48 52,oM 54 53,gF 54 (oF 55 3 3),gF 54 (oL 56 55),gF 54 (oJ 57 56),gF 54 (oV 58 .gtr 57 410),oR 59 54 58,oM 60 59,gF 60 (oF 61 4 3),gF 60 (oL 62 61),gF 60 (oQ 63 163 [62]),gF 60 (oV 64 .neq 63 0),oR 65 60 64]
def r221_6:List AI:=[oC 4 (.b false)]
def r221_7:List AI:=[oI 5 0]
def r221_8:List AI:=[oM 66 5,oF 67 2 3,oL 68 67,oJ 69 68,oT 70 .lss 66 69]
def r221_9:List AI:=[oK 73 3 2,oF 74 2 3,oL 75 74,oM 76 5,oX 77 4 75 76,oK 78 4 77,oQ 79 87 [73,78],oV 80 .neq 79 0]
def r221_10:List AI:=[oC 4 (.b false)]
def r221_11:List AI:=[oM 71 5,oV 72 .add 71 1,oM 5 72]
def r221_12:List AI:=[oI 6 0]
def r221_13:List AI:=[oM 81 6,oF 82 3 3,oL 83 82,oJ 84 83,oT 85 .lss 81 84]
def r221_14:List AI:=[oK 88 3 2,oF 89 2 3,oL 90 89,oJ 91 90,oF 92 3 3,oL 93 92,oM 94 6,oX 95 8 93 94,oK 96 8 95,oQ 97 235 [88,91,96],oZ 98 97]
def r221_15:List AI:=[oC 4 (.b false)]
def r221_16:List AI:=[oM 86 6,oV 87 .add 86 1,oM 6 87]
def r221_17:List AI:=[oC 4 (.b true)]
abbrev l221_0:AC:=(.seq (sR 8 r221_8 (.cond (.t 70) .skip (.exit 0))) (.seq (.block 1 (sR 10 r221_9 (.cond (.t 80) (sR 11 r221_10 .ret) .skip))) (.reg 9 r221_11)))
abbrev l221_1:AC:=(.seq (sR 13 r221_13 (.cond (.t 85) .skip (.exit 2))) (.seq (.block 3 (sR 15 r221_14 (.cond (.t 98) (sR 16 r221_15 .ret) .skip))) (.reg 14 r221_16)))
abbrev c221_2:AC:=(sR 17 r221_17 .ret)
abbrev c221_3:AC:=(.seq (sR 12 r221_12 (.block 2 (.loop l221_1))) c221_2)
abbrev c221_4:AC:=(.seq (sR 7 r221_7 (.block 0 (.loop l221_0))) c221_3)
abbrev c221_5:AC:=(.seq (sR 5 r221_5 (.cond (.t 65) (sR 6 r221_6 .ret) .skip)) c221_4)
abbrev c221_6:AC:=(.seq (sR 3 r221_3 (.cond (.t 43) (sR 4 r221_4 .ret) .skip)) c221_5)
abbrev c221_7:AC:=(.seq (sR 1 r221_1 (.cond (.t 9) (sR 2 r221_2 .ret) .skip)) c221_6)
abbrev b221:AC:=(sR 0 r221_0 c221_7)
def pf221:AF:={ nt:=99,res:=[.tmp 4],body:=b221 }
abbrev I221_0 (prog:Prog)(d:Nat)(Q:AE→Sl→St→Prop)(i5:Int)(m0:Img)(m1:Rou):Prop:=
  ∀(σ:Sl)(st:St) (v0 v1:Nat),σ 2=.p (d,0) v0 0→σ 3=.p (d,1) v1 0→σ 5=.i .i64 i5→lk st.bx (d,0)=some (v0,Img.cs m0)→lk st.bx (d,1)=some (v1,Rou.cs m1)→W prog d (.loop l221_0) σ st (blockW 0 (thenW prog d c221_3 Q))
abbrev I221_1 (prog:Prog)(d:Nat)(Q:AE→Sl→St→Prop)(i6:Int)(m0:Img)(m1:Rou):Prop:=
  ∀(σ:Sl)(st:St) (v0 v1:Nat),σ 2=.p (d,0) v0 0→σ 3=.p (d,1) v1 0→σ 6=.i .i64 i6→lk st.bx (d,0)=some (v0,Img.cs m0)→lk st.bx (d,1)=some (v1,Rou.cs m1)→W prog d (.loop l221_1) σ st (blockW 2 (thenW prog d c221_2 Q))
def T221_8 (prog:Prog)(K:Bool→Prop) :Prop:=
  K true
def T221_7 (prog:Prog)(K:Bool→Prop)(P1:Int→Img→Rou→Prop)(i6:Int)(m0:Img)(m1:Rou):Prop:=
  (i6<(m1.defers.length:Int)→0≤i6∧∃e:Dfr,m1.defers[(i6).toNat]?=some e∧∃c,Pus prog 235 [m0.av,.i .i64 (m1.frames.length:Int),e.av] (.b c)∧((!c)=true→K false)∧((!c)=false→P1 (IntKind.i64.wrap (i6+1)) m0 m1))∧(¬(i6<(m1.defers.length:Int))→T221_8 prog K )
def T221_6 (prog:Prog)(K:Bool→Prop)(m0:Img)(m1:Rou):Prop:=
  ∀P1:Int→Img→Rou→Prop,(∀(i6:Int)(m0:Img)(m1:Rou),T221_7 prog K P1 i6 m0 m1→P1 i6 m0 m1)→P1 0 m0 m1
def T221_5 (prog:Prog)(K:Bool→Prop)(P0:Int→Img→Rou→Prop)(i5:Int)(m0:Img)(m1:Rou):Prop:=
  (i5<(m1.frames.length:Int)→0≤i5∧∃e:Frm,m1.frames[(i5).toNat]?=some e∧∃c,Pus prog 87 [m0.av,e.av] (.i .i64 c)∧(c≠0→K false)∧(¬(c≠0)→P0 (IntKind.i64.wrap (i5+1)) m0 m1))∧(¬(i5<(m1.frames.length:Int))→T221_6 prog K m0 m1)
def T221_4 (prog:Prog)(K:Bool→Prop)(m0:Img)(m1:Rou):Prop:=
  ∀P0:Int→Img→Rou→Prop,(∀(i5:Int)(m0:Img)(m1:Rou),T221_5 prog K P0 i5 m0 m1→P0 i5 m0 m1)→P0 0 m0 m1
def T221_3 (prog:Prog)(K:Bool→Prop)(m0:Img)(m1:Rou):Prop:=
  ((m1.frames.length:Int)<1→K false)∧(¬((m1.frames.length:Int)<1)→((m1.frames.length:Int)>170→K false)∧(¬((m1.frames.length:Int)>170)→((m1.defers.length:Int)>410→K false)∧(¬((m1.defers.length:Int)>410)→∃c,Pus prog 163 [.sl .ext (List.map Pan.row m1.panics)] (.i .i64 c)∧(c≠0→K false)∧(¬(c≠0)→T221_4 prog K m0 m1))))
def T221_2 (prog:Prog)(K:Bool→Prop)(m0:Img)(m1:Rou):Prop:=
  (m1.status≠2→(m1.status≠1→K false)∧(¬(m1.status≠1)→(m1.key≠0→K false)∧(¬(m1.key≠0)→T221_3 prog K m0 m1)))∧(¬(m1.status≠2)→T221_3 prog K m0 m1)
def T221_1 (prog:Prog)(K:Bool→Prop)(m0:Img)(m1:Rou):Prop:=
  (m1.status=3→((m1.frames.length:Int)=0→((m1.defers.length:Int)=0→((m1.panics.length:Int)=0→K (decide (m1.key=0)))∧(¬((m1.panics.length:Int)=0)→K false))∧(¬((m1.defers.length:Int)=0)→K false))∧(¬((m1.frames.length:Int)=0)→K false))∧(¬(m1.status=3)→T221_2 prog K m0 m1)
def T221_0 (prog:Prog)(K:Bool→Prop)(m0:Img)(x1:Rou):Prop:=
  T221_1 prog K m0 x1
section
variable {prog:Prog}{d:Nat}{Q:AE→Sl→St→Prop}{K:Bool→Prop}(hQ:H1 AV.b 4 Q K){σ:Sl}{st:St}
include hQ
variable {i6:Int}{m0:Img}{m1:Rou}{P1:Int→Img→Rou→Prop}{v0 v1:Nat}{i5:Int}{P0:Int→Img→Rou→Prop}{x1:Rou}
variable (kP1 :∀(i6:Int)(m0:Img)(m1:Rou),P1 i6 m0 m1→I221_1 prog d Q i6 m0 m1) (kP0 :∀(i5:Int)(m0:Img)(m1:Rou),P0 i5 m0 m1→I221_0 prog d Q i5 m0 m1)(H0:σ 0=m0.av)(H2:σ 2=.p (d,0) v0 0)(H1:σ 1=x1.av)(H3:σ 3=.p (d,1) v1 0)(H6:σ 6=.i .i64 i6)(H5:σ 5=.i .i64 i5)(B0:lk st.bx (d,0)=some (v0,Img.cs m0))(B1:lk st.bx (d,1)=some (v1,Rou.cs m1))
theorem w221_8 (h:T221_8 prog K ):W prog d c221_2 σ st Q:=
 au trivial
include kP1 H2 H3 H6 B0 B1 in
theorem w221_7 (h:T221_7 prog K P1 i6 m0 m1):W prog d l221_1 σ st (thenW prog d (.loop l221_1) (blockW 2 (thenW prog d c221_2 Q))):=
 au @w221_8
include H2 H3 B0 B1 in
theorem w221_6 (h:T221_6 prog K m0 m1):W prog d c221_3 σ st Q:=
 sq_ (q_ J (m_ (e_ (bk_ (h (I221_1 prog d Q ) (fun _ _ _ hb _ _ _ _ H2 H3 H6 B0 B1=>W.loop (w221_7 hQ (fun _ _ _ x=>x) H2 H3 H6 B0 B1 hb)) _ _ _ _ H2 H3 J B0 B1)))))
include kP0 H2 H3 H5 B0 B1 in
theorem w221_5 (h:T221_5 prog K P0 i5 m0 m1):W prog d l221_0 σ st (thenW prog d (.loop l221_0) (blockW 0 (thenW prog d c221_3 Q))):=
 au @w221_6
include H2 H3 B0 B1 in
theorem w221_4 (h:T221_4 prog K m0 m1):W prog d c221_4 σ st Q:=
 sq_ (q_ J (m_ (e_ (bk_ (h (I221_0 prog d Q ) (fun _ _ _ hb _ _ _ _ H2 H3 H5 B0 B1=>W.loop (w221_5 hQ (fun _ _ _ x=>x) H2 H3 H5 B0 B1 hb)) _ _ _ _ H2 H3 J B0 B1)))))
include H2 H3 B0 B1 in
theorem w221_3 (h:T221_3 prog K m0 m1):W prog d c221_5 σ st Q:=
 au @w221_4
include H2 H3 B0 B1 in
theorem w221_2 (h:T221_2 prog K m0 m1):W prog d c221_6 σ st Q:=
 au @w221_3
include H2 H3 B0 B1 in
theorem w221_1 (h:T221_1 prog K m0 m1):W prog d c221_7 σ st Q:=
 au @w221_2
include H0 H1 in
theorem w221_0 (h:T221_0 prog K m0 x1):W prog d (sR 0 r221_0 c221_7) σ st Q:=
 au @w221_1
end
theorem p221 {prog:Prog}(hf:prog.fn 221=some pf221){m0:Img}{x1:Rou}{K:Bool→Prop}(h:T221_0 prog K m0 x1) :∃res0:Bool,K res0∧Pus prog 221 [m0.av,x1.av] (.b res0):=
 P1 hf J (w221_0 (h1 J fun _=>J) J J h)
def r214_0:List AI:=[oY 2 3 0,oY 3 4 1,oI 4 0]
def r214_1:List AI:=[oF 6 0 3,oL 7 6,oW 8 .lss 7 1,oM 9 8,gF 9 (oF 10 0 3),gF 9 (oL 11 10),gF 9 (oW 12 .gtr 11 8),oR 13 9 12,oM 14 13,gF 14 (oF 15 2 3),gF 14 (oL 16 15),gF 14 (oV 17 .lss 16 0),oR 18 14 17,oM 19 18,gF 19 (oF 20 2 3),gF 19 (oL 21 20),gF 19 (oV 22 .gtr 21 5000),oR 23 19 22,oM 24 23,gF 24 (oF 25 3 3),gF 24 (oL 26 25),gF 24 (oJ 27 26),gF 24 (oV 28 .gtr 27 16),oR 29 24 28,oM 30 29,gF 30 (oF 31 1 3),gF 30 (oL 32 31),gF 30 (oV 33 .lss 32 (-1)),oR 34 30 33,oM 35 34,gF 35 (oF 36 1 3),gF 35 (oL 37 36),gF 35 (oF 38 3 3),gF 35 (oL 39 38),gF 35 (oJ 40 39),gF 35 (oT 41 .geq 37 40),oR 42 35 41]
def r214_2:List AI:=[oI 4 8]
def r214_3:List AI:=[oI 5 0]
def r214_4:List AI:=[oM 43 5,oF 44 3 3,oL 45 44,oJ 46 45,oT 47 .lss 43 46]
def r214_5:List AI:=[oK 50 3 2,oF 51 3 3,oL 52 51,oM 53 5,oX 54 5 52 53,oK 55 5 54,oQ 56 221 [50,55],oZ 57 56]
def r214_6:List AI:=[oI 4 8]
def r214_7:List AI:=[oM 48 5,oV 49 .add 48 1,oM 5 49]
def r214_8:List AI:=[oI 4 0]
abbrev l214_0:AC:=(.seq (sR 4 r214_4 (.cond (.t 47) .skip (.exit 0))) (.seq (.block 1 (sR 6 r214_5 (.cond (.t 57) (sR 7 r214_6 .ret) .skip))) (.reg 5 r214_7)))
abbrev c214_1:AC:=(sR 8 r214_8 .ret)
abbrev c214_2:AC:=(.seq (sR 3 r214_3 (.block 0 (.loop l214_0))) c214_1)
abbrev b214:AC:=(sR 0 r214_0 (.seq (sR 1 r214_1 (.cond (.t 42) (sR 2 r214_2 .ret) .skip)) c214_2))
def pf214:AF:={ nt:=58,res:=[.tmp 4],body:=b214 }
abbrev I214_0 (prog:Prog)(d:Nat)(Q:AE→Sl→St→Prop)(i5:Int)(m0:Img)(m1:Sta):Prop:=
  ∀(σ:Sl)(st:St) (v0 v1:Nat),σ 2=.p (d,0) v0 0→σ 3=.p (d,1) v1 0→σ 5=.i .i64 i5→lk st.bx (d,0)=some (v0,Img.cs m0)→lk st.bx (d,1)=some (v1,Sta.cs m1)→W prog d (.loop l214_0) σ st (blockW 0 (thenW prog d c214_1 Q))
def T214_3 (prog:Prog)(K:Int→Prop) :Prop:=
  K 0
def T214_2 (prog:Prog)(K:Int→Prop)(P0:Int→Img→Sta→Prop)(i5:Int)(m0:Img)(m1:Sta):Prop:=
  (i5<(m1.routines.length:Int)→0≤i5∧∃e:Rou,m1.routines[(i5).toNat]?=some e∧∃c,Pus prog 221 [m0.av,e.av] (.b c)∧((!c)=true→K 8)∧((!c)=false→P0 (IntKind.i64.wrap (i5+1)) m0 m1))∧(¬(i5<(m1.routines.length:Int))→T214_3 prog K )
def T214_1 (prog:Prog)(K:Int→Prop)(m0:Img)(m1:Sta):Prop:=
  ∀P0:Int→Img→Sta→Prop,(∀(i5:Int)(m0:Img)(m1:Sta),T214_2 prog K P0 i5 m0 m1→P0 i5 m0 m1)→P0 0 m0 m1
def T214_0 (prog:Prog)(K:Int→Prop)(m0:Img)(s1:Sta):Prop:=
  (s1.outcome<1→K 8)∧(¬(s1.outcome<1)→(s1.outcome>8→K 8)∧(¬(s1.outcome>8)→(s1.steps<0→K 8)∧(¬(s1.steps<0)→(s1.steps>5000→K 8)∧(¬(s1.steps>5000)→((s1.routines.length:Int)>16→K 8)∧(¬((s1.routines.length:Int)>16)→(s1.failing<(-1)→K 8)∧(¬(s1.failing<(-1))→(s1.failing≥(s1.routines.length:Int)→K 8)∧(¬(s1.failing≥(s1.routines.length:Int))→T214_1 prog K m0 s1)))))))
section
variable {prog:Prog}{d:Nat}{Q:AE→Sl→St→Prop}{K:Int→Prop}(hQ:H1 (AV.i .i64) 4 Q K){σ:Sl}{st:St}
include hQ
variable {i5:Int}{m0:Img}{m1:Sta}{P0:Int→Img→Sta→Prop}{v0 v1:Nat}{s1:Sta}
variable (kP0 :∀(i5:Int)(m0:Img)(m1:Sta),P0 i5 m0 m1→I214_0 prog d Q i5 m0 m1)(H0:σ 0=m0.av)(H2:σ 2=.p (d,0) v0 0)(H1:σ 1=s1.av)(H3:σ 3=.p (d,1) v1 0)(H5:σ 5=.i .i64 i5)(B0:lk st.bx (d,0)=some (v0,Img.cs m0))(B1:lk st.bx (d,1)=some (v1,Sta.cs m1))
theorem w214_3 (h:T214_3 prog K ):W prog d c214_1 σ st Q:=
 au trivial
include kP0 H2 H3 H5 B0 B1 in
theorem w214_2 (h:T214_2 prog K P0 i5 m0 m1):W prog d l214_0 σ st (thenW prog d (.loop l214_0) (blockW 0 (thenW prog d c214_1 Q))):=
 au @w214_3
include H2 H3 B0 B1 in
theorem w214_1 (h:T214_1 prog K m0 m1):W prog d c214_2 σ st Q:=
 sq_ (q_ J (m_ (e_ (bk_ (h (I214_0 prog d Q ) (fun _ _ _ hb _ _ _ _ H2 H3 H5 B0 B1=>W.loop (w214_2 hQ (fun _ _ _ x=>x) H2 H3 H5 B0 B1 hb)) _ _ _ _ H2 H3 J B0 B1)))))
include H0 H1 in
theorem w214_0 (h:T214_0 prog K m0 s1):W prog d (sR 0 r214_0 (.seq (sR 1 r214_1 (.cond (.t 42) (sR 2 r214_2 .ret) .skip)) c214_2)) σ st Q:=
 au @w214_1
end
theorem p214 {prog:Prog}(hf:prog.fn 214=some pf214){m0:Img}{s1:Sta}{K:Int→Prop}(h:T214_0 prog K m0 s1) :∃res0:Int,K res0∧Pus prog 214 [m0.av,s1.av] (.i .i64 res0):=
 P1 hf J (w214_0 (h1 J fun _=>J) J J h)
end Go.AM

namespace Go.AM
open Go
set_option linter.unusedVariables false
set_option linter.unusedSimpArgs false
set_option maxRecDepth 4000
set_option maxHeartbeats 2000000
attribute [local irreducible] Decidable.decide W WO fillCells fillRows
def r234_0:List AI:=[oY 2 3 0,oY 3 8 1,oC 4 (.s []),oI 5 0]
def r234_1:List AI:=[oF 12 2 2,oL 13 12,oF 14 1 3,oL 15 14,oX 16 7 13 15,oF 17 0 16,oL 18 17,oQ 19 11 [18],oM 11 19,oE 20 0 11,oE 21 1 11,oM 6 20,oM 7 21]
def r234_2:List AI:=[oM 22 7,oV 23 .neq 22 0]
def r234_3:List AI:=[oM 24 7,oC 4 (.s []),oM 5 24]
def r234_4:List AI:=[oF 25 0 3,oL 26 25,oQ 27 216 [26],oB 28 .add (.c (.s [100,101,102,101,114,32])) (.t 27),oB 29 .add (.t 28) (.c (.s [32])),oF 30 1 3,oL 31 30,oQ 32 216 [31],oT 33 .add 29 32,oB 34 .add (.t 33) (.c (.s [32])),oM 35 6,oT 36 .add 34 35,oM 8 36]
def r234_5:List AI:=[oF 37 2 3,oL 38 37]
def r234_6:List AI:=[oF 40 3 3,oK 41 5 40,oQ 42 72 [41],oM 39 42,oE 43 0 39,oE 44 1 39,oM 9 43,oM 10 44]
def r234_7:List AI:=[oM 45 10,oV 46 .neq 45 0]
def r234_8:List AI:=[oM 47 10,oC 4 (.s []),oM 5 47]
def r234_9:List AI:=[oM 48 8,oM 49 9,oB 50 .add (.c (.s [32,119,105,116,104,32])) (.t 49),oT 51 .add 48 50,oM 8 51]
def r234_10:List AI:=[oM 52 8,oM 4 52,oI 5 0]
abbrev c234_0:AC:=(sR 10 r234_10 .ret)
abbrev b234:AC:=(sR 0 r234_0 (sR 1 r234_1 (.seq (sR 2 r234_2 (.cond (.t 23) (sR 3 r234_3 .ret) .skip)) (sR 4 r234_4 (.seq (sR 5 r234_5 (.cond (.t 38) (sR 6 r234_6 (.seq (sR 7 r234_7 (.cond (.t 46) (sR 8 r234_8 .ret) .skip)) (.reg 9 r234_9))) .skip)) c234_0)))))
def pf234:AF:={ nt:=53,res:=[.tmp 4,.tmp 5],body:=b234 }
def T234_1 (prog:Prog)(K:BS→Int→Prop)(s8:BS):Prop:=
  K s8 0
def T234_0 (prog:Prog)(K:BS→Int→Prop)(m0:Img)(d1:Dfr):Prop:=
  0≤d1.func∧∃q:Fun,m0.funcs[(d1.func).toNat]?=some q∧∃j:BS,∃o,Pus prog 11 [.s q.name] (.tup [.s j,.i .i64 o])∧(o≠0→K ([]:BS) o)∧(¬(o≠0)→∃c:BS,Pus prog 216 [.i .i64 d1.frame] (.s c)∧([100,101,102,101,114,32]:BS).length+c.length≤maxStr∧(([100,101,102,101,114,32]:BS)++c).length+([32]:BS).length≤maxStr∧∃e:BS,Pus prog 216 [.i .i64 d1.func] (.s e)∧((([100,101,102,101,114,32]:BS)++c)++([32]:BS)).length+e.length≤maxStr∧(((([100,101,102,101,114,32]:BS)++c)++([32]:BS))++e).length+([32]:BS).length≤maxStr∧((((([100,101,102,101,114,32]:BS)++c)++([32]:BS))++e)++([32]:BS)).length+j.length≤maxStr∧(d1.hasArg=true→∃p:BS,∃k,Pus prog 72 [d1.arg.av] (.tup [.s p,.i .i64 k])∧(k≠0→K ([]:BS) k)∧(¬(k≠0)→([32,119,105,116,104,32]:BS).length+p.length≤maxStr∧(((((([100,101,102,101,114,32]:BS)++c)++([32]:BS))++e)++([32]:BS))++j).length+(([32,119,105,116,104,32]:BS)++p).length≤maxStr∧T234_1 prog K ((((((([100,101,102,101,114,32]:BS)++c)++([32]:BS))++e)++([32]:BS))++j)++(([32,119,105,116,104,32]:BS)++p))))∧(d1.hasArg=false→T234_1 prog K (((((([100,101,102,101,114,32]:BS)++c)++([32]:BS))++e)++([32]:BS))++j)))
section
variable {prog:Prog}{d:Nat}{Q:AE→Sl→St→Prop}{K:BS→Int→Prop}(hQ:H2 AV.s (AV.i .i64) 4 5 Q K){σ:Sl}{st:St}
include hQ
variable {s8:BS}{m0:Img}{d1:Dfr}
variable (H8:σ 8=.s s8)(H0:σ 0=m0.av)(H1:σ 1=d1.av)
include H8 in
theorem w234_1 (h:T234_1 prog K s8):W prog d c234_0 σ st Q:=
 au trivial
include H0 H1 in
theorem w234_0 (h:T234_0 prog K m0 d1):W prog d (sR 0 r234_0 (sR 1 r234_1 (.seq (sR 2 r234_2 (.cond (.t 23) (sR 3 r234_3 .ret) .skip)) (sR 4 r234_4 (.seq (sR 5 r234_5 (.cond (.t 38) (sR 6 r234_6 (.seq (sR 7 r234_7 (.cond (.t 46) (sR 8 r234_8 .ret) .skip)) (.reg 9 r234_9))) .skip)) c234_0))))) σ st Q:=
 au @w234_1
end
theorem p234 {prog:Prog}(hf:prog.fn 234=some pf234){m0:Img}{d1:Dfr}{K:BS→Int→Prop}(h:T234_0 prog K m0 d1) :∃res0:BS,∃res1:Int,K res0 res1∧Pus prog 234 [m0.av,d1.av] (.tup [.s res0,.i .i64 res1]):=
 P2 hf J (w234_0 (h2 J fun _ _=>J) J J h)
def r220_0:List AI:=[oY 2 3 0,oY 3 5 1,oC 4 (.sl .full []),oI 5 0]
def r220_1:List AI:=[oC 6 (.sl .full [])]
def r220_2:List AI:=[oF 19 2 3,oL 20 19,oJ 21 20,oI 22 0]
def r220_3:List AI:=[oT 23 .lss 22 21]
def r220_4:List AI:=[oM 24 22,oX 25 4 20 22,oK 26 4 25,oO 8 (.alloc [z6,z6,z7,zl]),oM 7 24,oS 4 8 26]
def r220_5:List AI:=[oK 28 3 2,oM 29 7,oK 30 4 8,oQ 31 82 [28,29,30],oM 27 31,oE 32 0 27,oE 33 1 27,oM 9 32,oM 10 33]
def r220_6:List AI:=[oM 34 10,oV 35 .neq 34 0]
def r220_7:List AI:=[oM 36 10,oC 4 (.sl .full []),oM 5 36]
def r220_8:List AI:=[oM 37 6,oM 38 9,oO 39 (.app 1 16 (.t 37) (.t 38)),oM 6 39]
def r220_9:List AI:=[oV 40 .add 22 1,oM 22 40]
def r220_10:List AI:=[oF 41 3 3,oL 42 41,oJ 43 42,oI 44 0]
def r220_11:List AI:=[oT 45 .lss 44 43]
def r220_12:List AI:=[oX 46 8 42 44,oK 47 8 46,oO 12 (.alloc [z6,z6,zb,z8,z6,zs,zl,zb]),oS 8 12 47]
def r220_13:List AI:=[oK 49 3 2,oK 50 8 12,oQ 51 234 [49,50],oM 48 51,oE 52 0 48,oE 53 1 48,oM 13 52,oM 14 53]
def r220_14:List AI:=[oM 54 14,oV 55 .neq 54 0]
def r220_15:List AI:=[oM 56 14,oC 4 (.sl .full []),oM 5 56]
def r220_16:List AI:=[oM 57 6,oM 58 13,oO 59 (.bslice [zs] 1 [(0,(.t 58))]),oO 60 (.app 1 16 (.t 57) (.t 59)),oM 6 60]
def r220_17:List AI:=[oV 61 .add 44 1,oM 44 61]
def r220_18:List AI:=[oF 62 4 3,oL 63 62,oJ 64 63,oI 65 0]
def r220_19:List AI:=[oT 66 .lss 65 64]
def r220_20:List AI:=[oX 67 7 63 65,oK 68 7 67,oO 16 (.alloc [z7,z8,z6,zs,zl,zb,z7]),oS 7 16 68]
def r220_21:List AI:=[oK 70 7 16,oQ 71 154 [70],oM 69 71,oE 72 0 69,oE 73 1 69,oM 17 72,oM 18 73]
def r220_22:List AI:=[oM 74 18,oV 75 .neq 74 0]
def r220_23:List AI:=[oM 76 18,oC 4 (.sl .full []),oM 5 76]
def r220_24:List AI:=[oM 77 6,oM 78 17,oO 79 (.bslice [zs] 1 [(0,(.t 78))]),oO 80 (.app 1 16 (.t 77) (.t 79)),oM 6 80]
def r220_25:List AI:=[oV 81 .add 65 1,oM 65 81]
def r220_26:List AI:=[oM 82 6,oM 4 82,oI 5 0]
abbrev l220_0:AC:=(sR 3 r220_3 (.seq (.cond (.t 23) .skip (.exit 0)) (.seq (.block 1 (sR 4 r220_4 (sR 5 r220_5 (.seq (sR 6 r220_6 (.cond (.t 35) (sR 7 r220_7 .ret) .skip)) (.reg 8 r220_8))))) (.reg 9 r220_9))))
abbrev l220_1:AC:=(sR 11 r220_11 (.seq (.cond (.t 45) .skip (.exit 2)) (.seq (.block 3 (sR 12 r220_12 (sR 13 r220_13 (.seq (sR 14 r220_14 (.cond (.t 55) (sR 15 r220_15 .ret) .skip)) (.reg 16 r220_16))))) (.reg 17 r220_17))))
abbrev l220_2:AC:=(sR 19 r220_19 (.seq (.cond (.t 66) .skip (.exit 4)) (.seq (.block 5 (sR 20 r220_20 (sR 21 r220_21 (.seq (sR 22 r220_22 (.cond (.t 75) (sR 23 r220_23 .ret) .skip)) (.reg 24 r220_24))))) (.reg 25 r220_25))))
abbrev c220_3:AC:=(sR 26 r220_26 .ret)
abbrev c220_4:AC:=(.seq (sR 18 r220_18 (.block 4 (.loop l220_2))) c220_3)
abbrev c220_5:AC:=(.seq (sR 10 r220_10 (.block 2 (.loop l220_1))) c220_4)
abbrev c220_6:AC:=(.seq (sR 2 r220_2 (.block 0 (.loop l220_0))) c220_5)
abbrev c220_7:AC:=(sR 1 r220_1 c220_6)
abbrev b220:AC:=(sR 0 r220_0 c220_7)
def pf220:AF:={ nt:=83,res:=[.tmp 4,.tmp 5],body:=b220 }
abbrev I220_0 (prog:Prog)(d:Nat)(Q:AE→Sl→St→Prop)(t20:List Frm)(t21:Int)(out6:LB)(t22:Int)(m0:Img)(m1:Rou):Prop:=
  ∀(σ:Sl)(st:St) (o_out6 o_t20:Own) (v0 v1:Nat),σ 2=.p (d,0) v0 0→σ 3=.p (d,1) v1 0→σ 6=.sl o_out6 (List.map rowS out6)→σ 20=.sl o_t20 (List.map Frm.row t20)→σ 21=.i .i64 t21→σ 22=.i .i64 t22→ApM d st.ow o_out6 out6.length→lk st.bx (d,0)=some (v0,Img.cs m0)→lk st.bx (d,1)=some (v1,Rou.cs m1)→W prog d (.loop l220_0) σ st (blockW 0 (thenW prog d c220_5 Q))
abbrev I220_1 (prog:Prog)(d:Nat)(Q:AE→Sl→St→Prop)(t42:List Dfr)(t43:Int)(out6:LB)(t44:Int)(m0:Img)(m1:Rou):Prop:=
  ∀(σ:Sl)(st:St) (o_out6 o_t42:Own) (v0 v1:Nat),σ 2=.p (d,0) v0 0→σ 3=.p (d,1) v1 0→σ 6=.sl o_out6 (List.map rowS out6)→σ 42=.sl o_t42 (List.map Dfr.row t42)→σ 43=.i .i64 t43→σ 44=.i .i64 t44→ApM d st.ow o_out6 out6.length→lk st.bx (d,0)=some (v0,Img.cs m0)→lk st.bx (d,1)=some (v1,Rou.cs m1)→W prog d (.loop l220_1) σ st (blockW 2 (thenW prog d c220_4 Q))
abbrev I220_2 (prog:Prog)(d:Nat)(Q:AE→Sl→St→Prop)(t63:List Pan)(t64:Int)(out6:LB)(t65:Int):Prop:=
  ∀(σ:Sl)(st:St) (o_out6 o_t63:Own),σ 6=.sl o_out6 (List.map rowS out6)→σ 63=.sl o_t63 (List.map Pan.row t63)→σ 64=.i .i64 t64→σ 65=.i .i64 t65→ApM d st.ow o_out6 out6.length→W prog d (.loop l220_2) σ st (blockW 4 (thenW prog d c220_3 Q))
def T220_8 (prog:Prog)(K:LB→Int→Prop)(out6:LB):Prop:=
  K out6 0
def T220_7 (prog:Prog)(K:LB→Int→Prop)(P2:LB→Int→Prop)(out6:LB)(t63:List Pan)(t64:Int)(t65:Int):Prop:=
  (t65<t64→0≤t65∧∃j:Pan,t63[(t65).toNat]?=some j∧∃e c,Pus prog 154 [j.av] (.tup [.s e,.i .i64 c])∧(c≠0→K ([]:LB) c)∧(¬(c≠0)→Fit (out6.length+[e].length) 16∧P2 (out6++[e]) (IntKind.i64.wrap (t65+1))))∧(¬(t65<t64)→T220_8 prog K out6)
def T220_6 (prog:Prog)(K:LB→Int→Prop)(out6:LB)(m1:Rou):Prop:=
  ∀P2:LB→Int→Prop,(∀(out6:LB)(t65:Int),T220_7 prog K P2 out6 m1.panics (m1.panics.length:Int) t65→P2 out6 t65)→P2 out6 0
def T220_5 (prog:Prog)(K:LB→Int→Prop)(P1:LB→Int→Img→Rou→Prop)(out6:LB)(t42:List Dfr)(t43:Int)(t44:Int)(m0:Img)(m1:Rou):Prop:=
  (t44<t43→0≤t44∧∃j:Dfr,t42[(t44).toNat]?=some j∧∃e c,Pus prog 234 [m0.av,j.av] (.tup [.s e,.i .i64 c])∧(c≠0→K ([]:LB) c)∧(¬(c≠0)→Fit (out6.length+[e].length) 16∧P1 (out6++[e]) (IntKind.i64.wrap (t44+1)) m0 m1))∧(¬(t44<t43)→T220_6 prog K out6 m1)
def T220_4 (prog:Prog)(K:LB→Int→Prop)(out6:LB)(m0:Img)(m1:Rou):Prop:=
  ∀P1:LB→Int→Img→Rou→Prop,(∀(out6:LB)(t44:Int)(m0:Img)(m1_b:Rou),T220_5 prog K P1 out6 m1.defers (m1.defers.length:Int) t44 m0 m1_b→P1 out6 t44 m0 m1_b)→P1 out6 0 m0 m1
def T220_3 (prog:Prog)(K:LB→Int→Prop)(P0:LB→Int→Img→Rou→Prop)(out6:LB)(t20:List Frm)(t21:Int)(t22:Int)(m0:Img)(m1:Rou):Prop:=
  (t22<t21→0≤t22∧∃j:Frm,t20[(t22).toNat]?=some j∧∃e:LB,∃c,Pus prog 82 [m0.av,.i .i64 t22,j.av] (.tup [.sl .ext (List.map rowS e),.i .i64 c])∧(c≠0→K ([]:LB) c)∧(¬(c≠0)→Fit (out6.length+e.length) 16∧P0 (out6++e) (IntKind.i64.wrap (t22+1)) m0 m1))∧(¬(t22<t21)→T220_4 prog K out6 m0 m1)
def T220_2 (prog:Prog)(K:LB→Int→Prop)(out6:LB)(m0:Img)(m1:Rou):Prop:=
  ∀P0:LB→Int→Img→Rou→Prop,(∀(out6:LB)(t22:Int)(m0:Img)(m1_b:Rou),T220_3 prog K P0 out6 m1.frames (m1.frames.length:Int) t22 m0 m1_b→P0 out6 t22 m0 m1_b)→P0 out6 0 m0 m1
def T220_1 (prog:Prog)(K:LB→Int→Prop)(m0:Img)(m1:Rou):Prop:=
  T220_2 prog K ([]:LB) m0 m1
def T220_0 (prog:Prog)(K:LB→Int→Prop)(m0:Img)(x1:Rou):Prop:=
  T220_1 prog K m0 x1
section
variable {prog:Prog}{d:Nat}{Q:AE→Sl→St→Prop}{K:LB→Int→Prop}(hQ:HM rowS (AV.i .i64) 4 5 Q K){σ:Sl}{st:St}
include hQ
variable {out6:LB}{o_out6:Own}{t63:List Pan}{t64 t65:Int}{P2:LB→Int→Prop}{o_t63:Own}{m1:Rou}{v1:Nat}{t42:List Dfr}{t43 t44:Int}{m0:Img}{P1:LB→Int→Img→Rou→Prop}{o_t42:Own}{v0:Nat}{t20:List Frm}{t21 t22:Int}{P0:LB→Int→Img→Rou→Prop}{o_t20:Own}{x1:Rou}
variable (kP2 :∀(out6:LB)(t65:Int),P2 out6 t65→I220_2 prog d Q t63 t64 out6 t65) (kP1 :∀(out6:LB)(t44:Int)(m0:Img)(m1:Rou),P1 out6 t44 m0 m1→I220_1 prog d Q t42 t43 out6 t44 m0 m1) (kP0 :∀(out6:LB)(t22:Int)(m0:Img)(m1:Rou),P0 out6 t22 m0 m1→I220_0 prog d Q t20 t21 out6 t22 m0 m1)(H0:σ 0=m0.av)(H2:σ 2=.p (d,0) v0 0)(H1:σ 1=x1.av)(H3:σ 3=.p (d,1) v1 0)(H6:σ 6=.sl o_out6 (List.map rowS out6))(H63:σ 63=.sl o_t63 (List.map Pan.row t63))(H42:σ 42=.sl o_t42 (List.map Dfr.row t42))(H20:σ 20=.sl o_t20 (List.map Frm.row t20))(H64:σ 64=.i .i64 t64)(H43:σ 43=.i .i64 t43)(H21:σ 21=.i .i64 t21)(H65:σ 65=.i .i64 t65)(H44:σ 44=.i .i64 t44)(H22:σ 22=.i .i64 t22)(A6:ApM d st.ow o_out6 out6.length)(B0:lk st.bx (d,0)=some (v0,Img.cs m0))(B1:lk st.bx (d,1)=some (v1,Rou.cs m1))
include H6 A6 in
theorem w220_8 (h:T220_8 prog K out6):W prog d c220_3 σ st Q:=
 au trivial
include kP2 H6 H63 H64 H65 A6 in
theorem w220_7 (h:T220_7 prog K P2 out6 t63 t64 t65):W prog d l220_2 σ st (thenW prog d (.loop l220_2) (blockW 4 (thenW prog d c220_3 Q))):=
 q_ J (b_ H65 H64 lss_ (e_ (sq_ (cs_ J (fun e=>sk_ (sq_ (bk_ (sq_ (W.reg ((h.1 e).2.elim fun p k=>ia_ H63 H65 (h.1 e).1 k.1 (Pan.row_eq p) J (lf_ J J J (s_alloc (so_ J (show lk _ (d,81922)=some (_,([.i .u64 0,.i .u8 0,.i .i64 0,.s [],.sl .full (List.map Val.row ([]:List Val)),.b false,.i .u64 0]:List AV)) from lk_here) J J J (e_ (q_ J (l_ J lk_here J J (x2 k.2 fun r _ c=>ca_ (sc1 J J) c.1 (m_ (x_ J J (x_ J J (m_ (m_ (e_ (sq_ (q_ J (m_ (b_ J J neq_ (e_ (cs_ J (fun j=>q_ J (m_ (s_mvL (f:=rowS) (l:=[]) J (m_ (er_ (hQ J J (c.2.1 j))))))) (fun j=>sk_ (W.reg0 J fun _ _=>s_mvL H6 (m_ (s_bslM (f:=rowS) (l:=[r]) J J (g_cons J J J g_nil) J (s_app rowS_len J J J A6.1 (c.2.2 j).1 J (fun _ _ o _ q=>s_mvL J (e_ (W.reg0 J fun _ _=>b_ H65 J add_ (m_ (e_ (kP2 _ _ (c.2.2 j).2 _ _ _ _ J H63 H64 J (ApM.mk o (Mine.app A6.2 J q)))))))))))))))))))))))))))))))))))))) (fun e=>ex_ (w220_8 hQ H6 A6 (h.2 e)))))))
include H3 H6 A6 B1 in
theorem w220_6 (h:T220_6 prog K out6 m1):W prog d c220_4 σ st Q:=
 sq_ (q_ J (f_ H3 (l_ J B1 J J (ll_ J (m_ (e_ (bk_ (h (I220_2 prog d Q m1.panics (m1.panics.length:Int)) (fun _ _ hb _ _ _ _ H6 H63 H64 H65 A6=>W.loop (w220_7 hQ (fun _ _ x=>x) H6 H63 H64 H65 A6 hb)) _ _ _ _ H6 J J J A6))))))))
include kP1 H2 H3 H6 H42 H43 H44 A6 B0 B1 in
theorem w220_5 (h:T220_5 prog K P1 out6 t42 t43 t44 m0 m1):W prog d l220_1 σ st (thenW prog d (.loop l220_1) (blockW 2 (thenW prog d c220_4 Q))):=
 q_ J (b_ H44 H43 lss_ (e_ (sq_ (cs_ J (fun e=>sk_ (sq_ (bk_ (sq_ (W.reg ((h.1 e).2.elim fun p k=>ia_ H42 H44 (h.1 e).1 k.1 (Dfr.row_eq p) J (lf_ J J J (s_alloc (so_ J (show lk _ (d,49154)=some (_,([.i .i64 0,.i .i64 0,.b false,.i .u8 0,.i .i64 0,.s [],.sl .full (List.map Val.row ([]:List Val)),.b false]:List AV)) from lk_here) J J J (e_ (q_ J (l_ H2 (lk_other J (lk_other J B0)) J J (l_ J lk_here J J (x2 k.2 fun r _ c=>ca_ (sc2 J J J) c.1 (m_ (x_ J J (x_ J J (m_ (m_ (e_ (sq_ (q_ J (m_ (b_ J J neq_ (e_ (cs_ J (fun j=>q_ J (m_ (s_mvL (f:=rowS) (l:=[]) J (m_ (er_ (hQ J J (c.2.1 j))))))) (fun j=>sk_ (W.reg0 J fun _ _=>s_mvL H6 (m_ (s_bslM (f:=rowS) (l:=[r]) J J (g_cons J J J g_nil) J (s_app rowS_len J J J A6.1 (c.2.2 j).1 J (fun _ _ o _ q=>s_mvL J (e_ (W.reg0 J fun _ _=>b_ H44 J add_ (m_ (e_ (kP1 _ _ _ _ (c.2.2 j).2 _ _ _ _ _ _ H2 H3 J H42 H43 J (ApM.mk o (Mine.app A6.2 J q)) (lk_other J (lk_other J B0)) (lk_other J (lk_other J B1))))))))))))))))))))))))))))))))))))))) (fun e=>ex_ (w220_6 hQ H3 H6 A6 B1 (h.2 e)))))))
include H2 H3 H6 A6 B0 B1 in
theorem w220_4 (h:T220_4 prog K out6 m0 m1):W prog d c220_5 σ st Q:=
 sq_ (q_ J (f_ H3 (l_ J B1 J J (ll_ J (m_ (e_ (bk_ (h (I220_1 prog d Q m1.defers (m1.defers.length:Int)) (fun _ _ _ _ hb _ _ _ _ _ _ H2 H3 H6 H42 H43 H44 A6 B0 B1=>W.loop (w220_5 hQ (fun _ _ _ _ x=>x) H2 H3 H6 H42 H43 H44 A6 B0 B1 hb)) _ _ _ _ _ _ H2 H3 H6 J J J A6 B0 B1))))))))
include kP0 H2 H3 H6 H20 H21 H22 A6 B0 B1 in
theorem w220_3 (h:T220_3 prog K P0 out6 t20 t21 t22 m0 m1):W prog d l220_0 σ st (thenW prog d (.loop l220_0) (blockW 0 (thenW prog d c220_5 Q))):=
 au @w220_4
include H2 H3 H6 A6 B0 B1 in
theorem w220_2 (h:T220_2 prog K out6 m0 m1):W prog d c220_6 σ st Q:=
 sq_ (q_ J (f_ H3 (l_ J B1 J J (ll_ J (m_ (e_ (bk_ (h (I220_0 prog d Q m1.frames (m1.frames.length:Int)) (fun _ _ _ _ hb _ _ _ _ _ _ H2 H3 H6 H20 H21 H22 A6 B0 B1=>W.loop (w220_3 hQ (fun _ _ _ _ x=>x) H2 H3 H6 H20 H21 H22 A6 B0 B1 hb)) _ _ _ _ _ _ H2 H3 H6 J J J A6 B0 B1))))))))
include H2 H3 B0 B1 in
theorem w220_1 (h:T220_1 prog K m0 m1):W prog d c220_7 σ st Q:=
 au @w220_2
include H0 H1 in
theorem w220_0 (h:T220_0 prog K m0 x1):W prog d (sR 0 r220_0 c220_7) σ st Q:=
 q_ J (s_box H0 J (s_box H1 J (s_mvL (f:=rowS) (l:=[]) J (m_ (e_ (w220_1 hQ J J (lk_other J lk_here) lk_here h))))))
end
theorem p220 {prog:Prog}(hf:prog.fn 220=some pf220){m0:Img}{x1:Rou}{K:LB→Int→Prop}(h:T220_0 prog K m0 x1) :∃res0:LB,∃res1:Int,K res0 res1∧Pus prog 220 [m0.av,x1.av] (.tup [.sl .ext (List.map rowS res0),.i .i64 res1]):=
 P2 hf J (w220_0 (hM J fun _ _ _=>J) J J h)
def r207_0:List AI:=[oY 3 3 0,oY 5 5 2,oC 6 (.sl .full []),oI 7 0]
def r207_1:List AI:=[oM 13 1,oV 14 .lss 13 0,oM 15 14,gF 15 (oM 16 1),gF 15 (oV 17 .geq 16 16),oR 18 15 17]
def r207_2:List AI:=[oC 6 (.sl .full []),oI 7 2]
def r207_3:List AI:=[oK 19 3 3,oK 20 5 5,oQ 21 219 [19,20],oZ 22 21]
def r207_4:List AI:=[oC 6 (.sl .full []),oI 7 8]
def r207_5:List AI:=[oK 24 3 3,oK 25 5 5,oQ 26 220 [24,25],oM 23 26,oE 27 0 23,oE 28 1 23,oM 8 27,oM 9 28]
def r207_6:List AI:=[oM 29 9,oV 30 .neq 29 0]
def r207_7:List AI:=[oM 31 9,oC 6 (.sl .full []),oM 7 31]
def r207_8:List AI:=[oM 32 1,oQ 33 216 [32],oB 34 .add (.c (.s [103,111,114,111,117,116,105,110,101,32])) (.t 33),oB 35 .add (.t 34) (.c (.s [58,32])),oF 36 1 5,oL 37 36,oQ 38 15 [37],oB 39 .add (.c (.s [98,108,111,99,107,101,100,32])) (.t 38),oO 40 (.build [zs,zs,zs,zs] [(1,1,(.c (.s [114,101,97,100,121]))),(3,1,(.c (.s [100,111,110,101]))),(2,1,(.t 39))]),oF 41 0 5,oL 42 41,oO 43 (.ixA 4 1 false (.t 40) (.t 42)),oT 44 .add 35 43,oO 45 (.bslice [zs] 1 [(0,(.t 44))]),oM 10 45]
def r207_9:List AI:=[oM 46 8,oJ 47 46,oI 48 0]
def r207_10:List AI:=[oT 49 .lss 48 47]
def r207_11:List AI:=[oX 50 1 46 48,oL 51 50,oM 12 51]
def r207_12:List AI:=[oM 52 10,oM 53 12,oB 54 .add (.c (.s [32,32])) (.t 53),oO 55 (.bslice [zs] 1 [(0,(.t 54))]),oO 56 (.app 1 16 (.t 52) (.t 55)),oM 10 56]
def r207_13:List AI:=[oV 57 .add 48 1,oM 48 57]
def r207_14:List AI:=[oM 58 10,oM 6 58,oI 7 0]
abbrev l207_0:AC:=(sR 10 r207_10 (.seq (.cond (.t 49) .skip (.exit 0)) (.seq (.block 1 (sR 11 r207_11 (.reg 12 r207_12))) (.reg 13 r207_13))))
abbrev c207_1:AC:=(sR 14 r207_14 .ret)
abbrev c207_2:AC:=(.seq (sR 3 r207_3 (.cond (.t 22) (sR 4 r207_4 .ret) .skip)) (sR 5 r207_5 (.seq (sR 6 r207_6 (.cond (.t 30) (sR 7 r207_7 .ret) .skip)) (sR 8 r207_8 (.seq (sR 9 r207_9 (.block 0 (.loop l207_0))) c207_1)))))
abbrev b207:AC:=(sR 0 r207_0 (.seq (sR 1 r207_1 (.cond (.t 18) (sR 2 r207_2 .ret) .skip)) c207_2))
def pf207:AF:={ nt:=59,res:=[.tmp 6,.tmp 7],body:=b207 }
abbrev I207_0 (prog:Prog)(d:Nat)(Q:AE→Sl→St→Prop)(t46:LB)(t47:Int)(out10:LB)(t48:Int):Prop:=
  ∀(σ:Sl)(st:St) (o_out10 o_t46:Own),σ 10=.sl o_out10 (List.map rowS out10)→σ 46=.sl o_t46 (List.map rowS t46)→σ 47=.i .i64 t47→σ 48=.i .i64 t48→ApM d st.ow o_out10 out10.length→W prog d (.loop l207_0) σ st (blockW 0 (thenW prog d c207_1 Q))
def T207_3 (prog:Prog)(K:LB→Int→Prop)(out10:LB):Prop:=
  K out10 0
def T207_2 (prog:Prog)(K:LB→Int→Prop)(P0:LB→Int→Prop)(out10:LB)(t46:LB)(t47:Int)(t48:Int):Prop:=
  (t48<t47→0≤t48∧∃c:BS,t46[(t48).toNat]?=some c∧([32,32]:BS).length+c.length≤maxStr∧Fit (out10.length+[(([32,32]:BS)++c)].length) 16∧P0 (out10++[(([32,32]:BS)++c)]) (IntKind.i64.wrap (t48+1)))∧(¬(t48<t47)→T207_3 prog K out10)
def T207_1 (prog:Prog)(K:LB→Int→Prop)(g1:Int)(m0:Img)(m1:Rou):Prop:=
  ∃c,Pus prog 219 [m0.av,m1.av] (.b c)∧((!c)=true→K ([]:LB) 8)∧((!c)=false→∃o:LB,∃j,Pus prog 220 [m0.av,m1.av] (.tup [.sl .ext (List.map rowS o),.i .i64 j])∧(j≠0→K ([]:LB) j)∧(¬(j≠0)→∃e:BS,Pus prog 216 [.i .i64 g1] (.s e)∧([103,111,114,111,117,116,105,110,101,32]:BS).length+e.length≤maxStr∧(([103,111,114,111,117,116,105,110,101,32]:BS)++e).length+([58,32]:BS).length≤maxStr∧∃k:BS,Pus prog 15 [.i .i64 m1.key] (.s k)∧([98,108,111,99,107,101,100,32]:BS).length+k.length≤maxStr∧0≤m1.status∧∃p:BS,([[],([114,101,97,100,121]:BS),(([98,108,111,99,107,101,100,32]:BS)++k),([100,111,110,101]:BS)]:LB)[(m1.status).toNat]?=some p∧((([103,111,114,111,117,116,105,110,101,32]:BS)++e)++([58,32]:BS)).length+p.length≤maxStr∧∀P0:LB→Int→Prop,(∀(out10:LB)(t48:Int),T207_2 prog K P0 out10 o (o.length:Int) t48→P0 out10 t48)→P0 [(((([103,111,114,111,117,116,105,110,101,32]:BS)++e)++([58,32]:BS))++p)] 0))
def T207_0 (prog:Prog)(K:LB→Int→Prop)(m0:Img)(g1:Int)(x2:Rou):Prop:=
  (g1<0→K ([]:LB) 2)∧(¬(g1<0)→(g1≥16→K ([]:LB) 2)∧(¬(g1≥16)→T207_1 prog K g1 m0 x2))
section
variable {prog:Prog}{d:Nat}{Q:AE→Sl→St→Prop}{K:LB→Int→Prop}(hQ:HM rowS (AV.i .i64) 6 7 Q K){σ:Sl}{st:St}
include hQ
variable {out10:LB}{o_out10:Own}{t46:LB}{t47 t48:Int}{P0:LB→Int→Prop}{o_t46:Own}{g1:Int}{m0:Img}{m1:Rou}{v0 v1:Nat}{x2:Rou}
variable (kP0 :∀(out10:LB)(t48:Int),P0 out10 t48→I207_0 prog d Q t46 t47 out10 t48)(H0:σ 0=m0.av)(H10:σ 10=.sl o_out10 (List.map rowS out10))(H1:σ 1=.i .i64 g1)(H46:σ 46=.sl o_t46 (List.map rowS t46))(H3:σ 3=.p (d,0) v0 0)(H2:σ 2=x2.av)(H47:σ 47=.i .i64 t47)(H5:σ 5=.p (d,1) v1 0)(H48:σ 48=.i .i64 t48)(B0:lk st.bx (d,0)=some (v0,Img.cs m0))(A10:ApM d st.ow o_out10 out10.length)(B1:lk st.bx (d,1)=some (v1,Rou.cs m1))
include H10 A10 in
theorem w207_3 (h:T207_3 prog K out10):W prog d c207_1 σ st Q:=
 au trivial
include kP0 H10 H46 H47 H48 A10 in
theorem w207_2 (h:T207_2 prog K P0 out10 t46 t47 t48):W prog d l207_0 σ st (thenW prog d (.loop l207_0) (blockW 0 (thenW prog d c207_1 Q))):=
 q_ J (b_ H48 H47 lss_ (e_ (sq_ (cs_ J (fun e=>sk_ (sq_ (bk_ (q_ J ((h.1 e).2.elim fun j c=>ia_ H46 H48 (h.1 e).1 c.1 J J (lf_ J J J (m_ (e_ (W.reg0 J fun _ _=>s_mvL H10 (m_ (b_ J J (abin_cat' c.2.1) (s_bslM (f:=rowS) (l:=[(([32,32]:BS)++j)]) J J (g_cons J J J g_nil) J (s_app rowS_len J J J A10.1 c.2.2.1 J (fun _ _ i _ k=>s_mvL J (e_ (W.reg0 J fun _ _=>b_ H48 J add_ (m_ (e_ (kP0 _ _ c.2.2.2 _ _ _ _ J H46 H47 J (ApM.mk i (Mine.app A10.2 J k))))))))))))))))))))) (fun e=>ex_ (w207_3 hQ H10 A10 (h.2 e)))))))
include H1 H3 H5 B0 B1 in
theorem w207_1 (h:T207_1 prog K g1 m0 m1):W prog d c207_2 σ st Q:=
 sq_ (q_ J (l_ H3 B0 J J (l_ H5 B1 J J (h.elim fun _ j=>ca_ (sc2 J J J) j.1 (nt_ J (e_ (cb_ J (fun o=>q_ J (s_mvL (f:=rowS) (l:=[]) J (m_ (er_ (hQ J J (j.2.1 o)))))) (fun o=>sk_ (q_ J (l_ H3 B0 J J (l_ H5 B1 J J (x2 (j.2.2 o) fun q _ k=>ca_ (sc2 J J J) k.1 (m_ (x_ J J (x_ J J (s_mvL J (m_ (e_ (sq_ (q_ J (m_ (b_ J J neq_ (e_ (cs_ J (fun p=>q_ J (m_ (s_mvL (f:=rowS) (l:=[]) J (m_ (er_ (hQ J J (k.2.1 p))))))) (fun p=>sk_ (q_ J (m_ ((k.2.2 p).elim fun v e=>ca_ (sc1 H1 J) e.1 (b_ J J (abin_cat' e.2.1) (b_ J J (abin_cat' e.2.2.1) (f_ H5 (l_ J B1 J J (e.2.2.2.elim fun u c=>ca_ (sc1 J J) c.1 (b_ J J (abin_cat' c.2.1) (s_buildM (f:=AV.s) (l:=[[],([114,101,97,100,121]:BS),(([98,108,111,99,107,101,100,32]:BS)++u),([100,111,110,101]:BS)]) (f_cons J J (f_cons J J (f_cons J J f_nil))) J (f_ H5 (l_ J B1 J J (c.2.2.2.elim fun r i=>s_ixA (f:=AV.s) J J J c.2.2.1 i.1 (b_ J J (abin_cat' i.2.1) (s_bslM (f:=rowS) (l:=[(((([103,111,114,111,117,116,105,110,101,32]:BS)++v)++([58,32]:BS))++r)]) J J (g_cons J J J g_nil) J (s_mvL J (e_ (sq_ (q_ J (s_mvL J (ll_ J (m_ (e_ (bk_ (i.2.2 (I207_0 prog d Q q (q.length:Int)) (fun _ _ hb _ _ _ _ H10 H46 H47 H48 A10=>W.loop (w207_2 hQ (fun _ _ x=>x) H10 H46 H47 H48 A10 hb)) _ _ _ _ J J J J ApM.full))))))))))))))))))))))))))))))))))))))))))))))))))
include H0 H1 H2 in
theorem w207_0 (h:T207_0 prog K m0 g1 x2):W prog d (sR 0 r207_0 (.seq (sR 1 r207_1 (.cond (.t 18) (sR 2 r207_2 .ret) .skip)) c207_2)) σ st Q:=
 q_ J (s_box H0 J (s_box H2 J (s_mvL (f:=rowS) (l:=[]) J (m_ (e_ (sq_ (q_ J (s_mvI H1 (b_ J J lss_ (s_mvB J (em_ (g:=15) J (fun c=>z_ 3 J (e_ (ct_ J (q_ J (s_mvL (f:=rowS) (l:=[]) J (m_ (er_ (hQ J J (h.1 c))))))))) (fun c=>gy_ J (s_mvI H1 (gy_ J (b_ J J geq_ (pf_ J J (e_ (cs_ J (fun e=>q_ J (s_mvL (f:=rowS) (l:=[]) J (m_ (er_ (hQ J J ((h.2 c).1 e)))))) (fun e=>sk_ (w207_1 hQ H1 J J (lk_other J lk_here) lk_here ((h.2 c).2 e)))))))))))))))))))))
end
theorem p207 {prog:Prog}(hf:prog.fn 207=some pf207){m0:Img}{g1:Int}{x2:Rou}{K:LB→Int→Prop}(h:T207_0 prog K m0 g1 x2) :∃res0:LB,∃res1:Int,K res0 res1∧Pus prog 207 [m0.av,.i .i64 g1,x2.av] (.tup [.sl .ext (List.map rowS res0),.i .i64 res1]):=
 P2 hf J (w207_0 (hM J fun _ _ _=>J) J J J h)
def r222_0:List AI:=[oY 3 3 0,oY 5 5 2,oC 6 (.sl .full [])]
def r222_1:List AI:=[oM 16 1,oQ 17 226 [16],oB 18 .add (.c (.s [103,111,114,111,117,116,105,110,101,32])) (.t 17),oB 19 .add (.t 18) (.c (.s [58,32])),oM 7 19]
def r222_2:List AI:=[oF 20 0 5,oL 21 20]
def r222_3:List AI:=[oW 29 .eql 21 1,oM 28 29]
def r222_4:List AI:=[oM 30 7,oB 31 .add (.t 30) (.c (.s [114,101,97,100,121])),oM 7 31]
def r222_5:List AI:=[oW 33 .eql 21 3,oM 32 33]
def r222_6:List AI:=[oM 34 7,oB 35 .add (.t 34) (.c (.s [100,111,110,101])),oM 7 35]
def r222_7:List AI:=[oM 22 7,oF 23 1 5,oL 24 23,oQ 25 16 [24],oB 26 .add (.c (.s [98,108,111,99,107,101,100,32])) (.t 25),oT 27 .add 22 26,oM 7 27]
def r222_8:List AI:=[oM 36 7,oO 37 (.bslice [zs] 1 [(0,(.t 36))]),oM 8 37]
def r222_9:List AI:=[oI 9 0]
def r222_10:List AI:=[oM 38 9,oF 39 2 5,oL 40 39,oJ 41 40,oT 42 .lss 38 41]
def r222_11:List AI:=[oK 45 3 3,oM 46 9,oF 47 2 5,oL 48 47,oM 49 9,oX 50 4 48 49,oK 51 4 50,oQ 52 114 [45,46,51],oM 10 52]
def r222_12:List AI:=[oI 11 0]
def r222_13:List AI:=[oM 53 11,oM 54 10,oJ 55 54,oT 56 .lss 53 55]
def r222_14:List AI:=[oM 59 8,oM 60 10,oM 61 11,oX 62 1 60 61,oL 63 62,oB 64 .add (.c (.s [32,32])) (.t 63),oO 65 (.bslice [zs] 1 [(0,(.t 64))]),oO 66 (.app 1 16 (.t 59) (.t 65)),oM 8 66]
def r222_15:List AI:=[oM 57 11,oV 58 .add 57 1,oM 11 58]
def r222_16:List AI:=[oM 43 9,oV 44 .add 43 1,oM 9 44]
def r222_17:List AI:=[oI 12 0]
def r222_18:List AI:=[oM 67 12,oF 68 3 5,oL 69 68,oJ 70 69,oT 71 .lss 67 70]
def r222_19:List AI:=[oF 74 3 5,oL 75 74,oM 76 12,oX 77 8 75 76,oK 78 8 77,oO 13 (.alloc [z6,z6,zb,z8,z6,zs,zl,zb]),oS 8 13 78]
def r222_20:List AI:=[oF 79 0 13,oL 80 79,oQ 81 226 [80],oB 82 .add (.c (.s [32,32,100,101,102,101,114,32])) (.t 81),oB 83 .add (.t 82) (.c (.s [32])),oF 84 1 13,oL 85 84,oQ 86 226 [85],oT 87 .add 83 86,oB 88 .add (.t 87) (.c (.s [32])),oF 89 2 3,oL 90 89,oF 91 1 13,oL 92 91,oX 93 7 90 92,oF 94 0 93,oL 95 94,oQ 96 31 [95],oT 97 .add 88 96,oM 14 97]
def r222_21:List AI:=[oF 98 2 13,oL 99 98]
def r222_22:List AI:=[oM 100 14,oF 101 3 13,oK 102 5 101,oQ 103 106 [102],oB 104 .add (.c (.s [32,119,105,116,104,32])) (.t 103),oT 105 .add 100 104,oM 14 105]
def r222_23:List AI:=[oM 106 8,oM 107 14,oO 108 (.bslice [zs] 1 [(0,(.t 107))]),oO 109 (.app 1 16 (.t 106) (.t 108)),oM 8 109]
def r222_24:List AI:=[oM 72 12,oV 73 .add 72 1,oM 12 73]
def r222_25:List AI:=[oI 15 0]
def r222_26:List AI:=[oM 110 15,oF 111 4 5,oL 112 111,oJ 113 112,oT 114 .lss 110 113]
def r222_27:List AI:=[oM 117 8,oF 118 4 5,oL 119 118,oM 120 15,oX 121 7 119 120,oK 122 7 121,oQ 123 179 [122],oB 124 .add (.c (.s [32,32])) (.t 123),oO 125 (.bslice [zs] 1 [(0,(.t 124))]),oO 126 (.app 1 16 (.t 117) (.t 125)),oM 8 126]
def r222_28:List AI:=[oM 115 15,oV 116 .add 115 1,oM 15 116]
def r222_29:List AI:=[oM 127 8,oM 6 127]
abbrev l222_1:AC:=(.seq (sR 14 r222_13 (.cond (.t 56) .skip (.exit 3))) (.seq (.block 4 (.reg 16 r222_14)) (.reg 15 r222_15)))
abbrev c222_1:AC:=(.reg 11 r222_16)
abbrev l222_0:AC:=(.seq (sR 10 r222_10 (.cond (.t 42) .skip (.exit 1))) (.seq (.block 2 (sR 12 r222_11 (sR 13 r222_12 (.block 3 (.loop l222_1))))) c222_1))
abbrev c222_3:AC:=(.reg 24 r222_23)
abbrev l222_2:AC:=(.seq (sR 18 r222_18 (.cond (.t 71) .skip (.exit 5))) (.seq (.block 6 (sR 20 r222_19 (sR 21 r222_20 (.seq (sR 22 r222_21 (.cond (.t 99) (.reg 23 r222_22) .skip)) c222_3)))) (.reg 19 r222_24)))
abbrev l222_3:AC:=(.seq (sR 26 r222_26 (.cond (.t 114) .skip (.exit 7))) (.seq (.block 8 (.reg 28 r222_27)) (.reg 27 r222_28)))
abbrev c222_6:AC:=(sR 29 r222_29 .ret)
abbrev c222_7:AC:=(.seq (sR 25 r222_25 (.block 7 (.loop l222_3))) c222_6)
abbrev c222_8:AC:=(.seq (sR 17 r222_17 (.block 5 (.loop l222_2))) c222_7)
abbrev c222_9:AC:=(.seq (sR 9 r222_9 (.block 1 (.loop l222_0))) c222_8)
abbrev c222_10:AC:=(sR 8 r222_8 c222_9)
abbrev c222_11:AC:=(.seq (sR 2 r222_2 (.block 0 (sR 4 r222_3 (.cond (.t 28) (.reg 5 r222_4) (sR 6 r222_5 (.cond (.t 32) (.reg 7 r222_6) (.reg 3 r222_7))))))) c222_10)
abbrev c222_12:AC:=(sR 1 r222_1 c222_11)
abbrev b222:AC:=(sR 0 r222_0 c222_12)
def pf222:AF:={ nt:=128,res:=[.tmp 6],body:=b222 }
abbrev I222_0 (prog:Prog)(d:Nat)(Q:AE→Sl→St→Prop)(out8:LB)(i9:Int)(m0:Img)(m1:Rou):Prop:=
  ∀(σ:Sl)(st:St)(o_out8:Own) (v0 v1:Nat),σ 3=.p (d,0) v0 0→σ 5=.p (d,1) v1 0→σ 8=.sl o_out8 (List.map rowS out8)→σ 9=.i .i64 i9→ApM d st.ow o_out8 out8.length→lk st.bx (d,0)=some (v0,Img.cs m0)→lk st.bx (d,1)=some (v1,Rou.cs m1)→W prog d (.loop l222_0) σ st (blockW 1 (thenW prog d c222_8 Q))
abbrev I222_1 (prog:Prog)(d:Nat)(Q:AE→Sl→St→Prop)(i9:Int)(l10:LB)(out8:LB)(k11:Int)(m0:Img)(m1:Rou):Prop:=
  ∀(σ:Sl)(st:St) (o_out8 o_l10:Own) (v0 v1:Nat),σ 3=.p (d,0) v0 0→σ 5=.p (d,1) v1 0→σ 8=.sl o_out8 (List.map rowS out8)→σ 9=.i .i64 i9→σ 10=.sl o_l10 (List.map rowS l10)→σ 11=.i .i64 k11→ApM d st.ow o_out8 out8.length→lk st.bx (d,0)=some (v0,Img.cs m0)→lk st.bx (d,1)=some (v1,Rou.cs m1)→W prog d (.loop l222_1) σ st (blockW 3 (blockW 2 (thenW prog d c222_1 (thenW prog d (.loop l222_0) (blockW 1 (thenW prog d c222_8 Q))))))
def T222_7 (prog:Prog)(K:LB→Prop)(P0:LB→Int→Img→Rou→Prop)(out8:LB)(i9:Int)(m0:Img)(m1:Rou):Prop:=
  P0 out8 (IntKind.i64.wrap (i9+1)) m0 m1
def T222_6 (prog:Prog)(K:LB→Prop)(P1:LB→Int→Img→Rou→Prop)(P0:LB→Int→Img→Rou→Prop)(out8:LB)(i9:Int)(l10:LB)(k11:Int)(m0:Img)(m1:Rou):Prop:=
  (k11<(l10.length:Int)→0≤k11∧∃c:BS,l10[(k11).toNat]?=some c∧([32,32]:BS).length+c.length≤maxStr∧Fit (out8.length+[(([32,32]:BS)++c)].length) 16∧P1 (out8++[(([32,32]:BS)++c)]) (IntKind.i64.wrap (k11+1)) m0 m1)∧(¬(k11<(l10.length:Int))→T222_7 prog K P0 out8 i9 m0 m1)
abbrev I222_2 (prog:Prog)(d:Nat)(Q:AE→Sl→St→Prop)(out8:LB)(i12:Int)(m0:Img)(m1:Rou):Prop:=
  ∀(σ:Sl)(st:St)(o_out8:Own) (v0 v1:Nat),σ 3=.p (d,0) v0 0→σ 5=.p (d,1) v1 0→σ 8=.sl o_out8 (List.map rowS out8)→σ 12=.i .i64 i12→ApM d st.ow o_out8 out8.length→lk st.bx (d,0)=some (v0,Img.cs m0)→lk st.bx (d,1)=some (v1,Rou.cs m1)→W prog d (.loop l222_2) σ st (blockW 5 (thenW prog d c222_7 Q))
def T222_10 (prog:Prog)(K:LB→Prop)(P2:LB→Int→Img→Rou→Prop)(out8:LB)(i12:Int)(s14:BS)(m0:Img)(m1:Rou):Prop:=
  Fit (out8.length+[s14].length) 16∧P2 (out8++[s14]) (IntKind.i64.wrap (i12+1)) m0 m1
abbrev I222_3 (prog:Prog)(d:Nat)(Q:AE→Sl→St→Prop)(out8:LB)(i15:Int)(m1:Rou):Prop:=
  ∀(σ:Sl)(st:St)(o_out8:Own)(v1:Nat),σ 5=.p (d,1) v1 0→σ 8=.sl o_out8 (List.map rowS out8)→σ 15=.i .i64 i15→ApM d st.ow o_out8 out8.length→lk st.bx (d,1)=some (v1,Rou.cs m1)→W prog d (.loop l222_3) σ st (blockW 7 (thenW prog d c222_6 Q))
def T222_13 (prog:Prog)(K:LB→Prop)(out8:LB):Prop:=
  K out8
def T222_12 (prog:Prog)(K:LB→Prop)(P3:LB→Int→Rou→Prop)(out8:LB)(i15:Int)(m1:Rou):Prop:=
  (i15<(m1.panics.length:Int)→0≤i15∧∃e:Pan,m1.panics[(i15).toNat]?=some e∧∃c:BS,Pus prog 179 [e.av] (.s c)∧([32,32]:BS).length+c.length≤maxStr∧Fit (out8.length+[(([32,32]:BS)++c)].length) 16∧P3 (out8++[(([32,32]:BS)++c)]) (IntKind.i64.wrap (i15+1)) m1)∧(¬(i15<(m1.panics.length:Int))→T222_13 prog K out8)
def T222_11 (prog:Prog)(K:LB→Prop)(out8:LB)(m1:Rou):Prop:=
  ∀P3:LB→Int→Rou→Prop,(∀(out8:LB)(i15:Int)(m1:Rou),T222_12 prog K P3 out8 i15 m1→P3 out8 i15 m1)→P3 out8 0 m1
def T222_9 (prog:Prog)(K:LB→Prop)(P2:LB→Int→Img→Rou→Prop)(out8:LB)(i12:Int)(m0:Img)(m1:Rou):Prop:=
  (i12<(m1.defers.length:Int)→0≤i12∧∃e:Dfr,m1.defers[(i12).toNat]?=some e∧∃c:BS,Pus prog 226 [.i .i64 e.frame] (.s c)∧([32,32,100,101,102,101,114,32]:BS).length+c.length≤maxStr∧(([32,32,100,101,102,101,114,32]:BS)++c).length+([32]:BS).length≤maxStr∧∃j:BS,Pus prog 226 [.i .i64 e.func] (.s j)∧((([32,32,100,101,102,101,114,32]:BS)++c)++([32]:BS)).length+j.length≤maxStr∧(((([32,32,100,101,102,101,114,32]:BS)++c)++([32]:BS))++j).length+([32]:BS).length≤maxStr∧0≤e.func∧∃p:Fun,m0.funcs[(e.func).toNat]?=some p∧∃k:BS,Pus prog 31 [.s p.name] (.s k)∧((((([32,32,100,101,102,101,114,32]:BS)++c)++([32]:BS))++j)++([32]:BS)).length+k.length≤maxStr∧(e.hasArg=true→∃o:BS,Pus prog 106 [e.arg.av] (.s o)∧([32,119,105,116,104,32]:BS).length+o.length≤maxStr∧(((((([32,32,100,101,102,101,114,32]:BS)++c)++([32]:BS))++j)++([32]:BS))++k).length+(([32,119,105,116,104,32]:BS)++o).length≤maxStr∧T222_10 prog K P2 out8 i12 ((((((([32,32,100,101,102,101,114,32]:BS)++c)++([32]:BS))++j)++([32]:BS))++k)++(([32,119,105,116,104,32]:BS)++o)) m0 m1)∧(e.hasArg=false→T222_10 prog K P2 out8 i12 (((((([32,32,100,101,102,101,114,32]:BS)++c)++([32]:BS))++j)++([32]:BS))++k) m0 m1))∧(¬(i12<(m1.defers.length:Int))→T222_11 prog K out8 m1)
def T222_8 (prog:Prog)(K:LB→Prop)(out8:LB)(m0:Img)(m1:Rou):Prop:=
  ∀P2:LB→Int→Img→Rou→Prop,(∀(out8:LB)(i12:Int)(m0:Img)(m1:Rou),T222_9 prog K P2 out8 i12 m0 m1→P2 out8 i12 m0 m1)→P2 out8 0 m0 m1
def T222_5 (prog:Prog)(K:LB→Prop)(P0:LB→Int→Img→Rou→Prop)(out8:LB)(i9:Int)(m0:Img)(m1:Rou):Prop:=
  (i9<(m1.frames.length:Int)→0≤i9∧∃c:Frm,m1.frames[(i9).toNat]?=some c∧∃e,Pus prog 114 [m0.av,.i .i64 i9,c.av] (.sl .ext (List.map rowS e))∧∀P1:LB→Int→Img→Rou→Prop,(∀(out8:LB)(k11:Int)(m0:Img)(m1:Rou),T222_6 prog K P1 P0 out8 i9 e k11 m0 m1→P1 out8 k11 m0 m1)→P1 out8 0 m0 m1)∧(¬(i9<(m1.frames.length:Int))→T222_8 prog K out8 m0 m1)
def T222_4 (prog:Prog)(K:LB→Prop)(out8:LB)(m0:Img)(m1:Rou):Prop:=
  ∀P0:LB→Int→Img→Rou→Prop,(∀(out8:LB)(i9:Int)(m0:Img)(m1:Rou),T222_5 prog K P0 out8 i9 m0 m1→P0 out8 i9 m0 m1)→P0 out8 0 m0 m1
def T222_3 (prog:Prog)(K:LB→Prop)(first7:BS)(m0:Img)(m1:Rou):Prop:=
  T222_4 prog K [first7] m0 m1
def T222_2 (prog:Prog)(K:LB→Prop)(first7:BS)(m0:Img)(m1:Rou):Prop:=
  (m1.status=1→first7.length+([114,101,97,100,121]:BS).length≤maxStr∧T222_3 prog K (first7++([114,101,97,100,121]:BS)) m0 m1)∧(¬(m1.status=1)→(m1.status=3→first7.length+([100,111,110,101]:BS).length≤maxStr∧T222_3 prog K (first7++([100,111,110,101]:BS)) m0 m1)∧(¬(m1.status=3)→∃c:BS,Pus prog 16 [.i .i64 m1.key] (.s c)∧([98,108,111,99,107,101,100,32]:BS).length+c.length≤maxStr∧first7.length+(([98,108,111,99,107,101,100,32]:BS)++c).length≤maxStr∧T222_3 prog K (first7++(([98,108,111,99,107,101,100,32]:BS)++c)) m0 m1))
def T222_1 (prog:Prog)(K:LB→Prop)(g1:Int)(m0:Img)(m1:Rou):Prop:=
  ∃c:BS,Pus prog 226 [.i .i64 g1] (.s c)∧([103,111,114,111,117,116,105,110,101,32]:BS).length+c.length≤maxStr∧(([103,111,114,111,117,116,105,110,101,32]:BS)++c).length+([58,32]:BS).length≤maxStr∧T222_2 prog K ((([103,111,114,111,117,116,105,110,101,32]:BS)++c)++([58,32]:BS)) m0 m1
def T222_0 (prog:Prog)(K:LB→Prop)(m0:Img)(g1:Int)(x2:Rou):Prop:=
  T222_1 prog K g1 m0 x2
section
variable {prog:Prog}{d:Nat}{Q:AE→Sl→St→Prop}{K:LB→Prop}(hQ:HL rowS 6 Q K){σ:Sl}{st:St}
include hQ
variable {out8:LB}{i9:Int}{m0:Img}{m1:Rou}{P0:LB→Int→Img→Rou→Prop}{o_out8:Own}{v0 v1:Nat}{l10:LB}{k11:Int}{P1:LB→Int→Img→Rou→Prop}{o_l10:Own}{i12:Int}{s14:BS}{P2:LB→Int→Img→Rou→Prop}{i15:Int}{P3:LB→Int→Rou→Prop}{first7:BS}{g1:Int}{x2:Rou}
variable (kP1 :∀(out8:LB)(k11:Int)(m0:Img)(m1:Rou),P1 out8 k11 m0 m1→I222_1 prog d Q i9 l10 out8 k11 m0 m1) (kP2 :∀(out8:LB)(i12:Int)(m0:Img)(m1:Rou),P2 out8 i12 m0 m1→I222_2 prog d Q out8 i12 m0 m1) (kP3 :∀(out8:LB)(i15:Int)(m1:Rou),P3 out8 i15 m1→I222_3 prog d Q out8 i15 m1)(H0:σ 0=m0.av) (kP0 :∀(out8:LB)(i9:Int)(m0:Img)(m1:Rou),P0 out8 i9 m0 m1→I222_0 prog d Q out8 i9 m0 m1)(H1:σ 1=.i .i64 g1)(H3:σ 3=.p (d,0) v0 0)(H2:σ 2=x2.av)(H5:σ 5=.p (d,1) v1 0)(H8:σ 8=.sl o_out8 (List.map rowS out8))(H7:σ 7=.s first7)(H9:σ 9=.i .i64 i9)(H12:σ 12=.i .i64 i12)(H15:σ 15=.i .i64 i15)(H10:σ 10=.sl o_l10 (List.map rowS l10))(H14:σ 14=.s s14)(H11:σ 11=.i .i64 k11)(A8:ApM d st.ow o_out8 out8.length)(B0:lk st.bx (d,0)=some (v0,Img.cs m0))(B1:lk st.bx (d,1)=some (v1,Rou.cs m1))
include kP0 H3 H5 H8 H9 A8 B0 B1 in
theorem w222_7 (h:T222_7 prog K P0 out8 i9 m0 m1):W prog d c222_1 σ st (thenW prog d (.loop l222_0) (blockW 1 (thenW prog d c222_8 Q))):=
 au trivial
include kP1 kP0 H3 H5 H8 H9 H10 H11 A8 B0 B1 in
theorem w222_6 (h:T222_6 prog K P1 P0 out8 i9 l10 k11 m0 m1):W prog d l222_1 σ st (thenW prog d (.loop l222_1) (blockW 3 (blockW 2 (thenW prog d c222_1 (thenW prog d (.loop l222_0) (blockW 1 (thenW prog d c222_8 Q))))))):=
 sq_ (q_ J (m_ (s_mvL H10 (ll_ J (b_ H11 J lss_ (e_ (cs_ J (fun e=>sk_ (sq_ (bk_ (W.reg0 J fun _ _=>s_mvL H8 (s_mvL H10 (m_ ((h.1 e).2.elim fun j c=>ia_ J H11 (h.1 e).1 c.1 J J (lf_ J J J (b_ J J (abin_cat' c.2.1) (s_bslM (f:=rowS) (l:=[(([32,32]:BS)++j)]) J J (g_cons J J J g_nil) J (s_app rowS_len J J J A8.1 c.2.2.1 J (fun _ _ i _ k=>s_mvL J (e_ (W.reg0 J fun _ _=>m_ (b_ H11 J add_ (m_ (e_ (kP1 _ _ _ _ c.2.2.2 _ _ _ _ _ _ H3 H5 J H9 H10 J (ApM.mk i (Mine.app A8.2 J k)) B0 B1)))))))))))))))))) (fun e=>ex_ (w222_7 hQ kP0 H3 H5 H8 H9 A8 B0 B1 (h.2 e))))))))))
include kP2 H3 H5 H8 H12 H14 A8 B0 B1 in
theorem w222_10 (h:T222_10 prog K P2 out8 i12 s14 m0 m1):W prog d c222_3 σ st (blockW 6 (thenW prog d (.reg 19 r222_24) (thenW prog d (.loop l222_2) (blockW 5 (thenW prog d c222_7 Q))))):=
 W.reg0 J fun _ _=>s_mvL H8 (m_ (s_bslM (f:=rowS) (l:=[s14]) J J (g_cons H14 J J g_nil) J (s_app rowS_len J J J A8.1 h.1 J (fun _ _ c _ e=>s_mvL J (e_ (W.reg0 J fun _ _=>m_ (b_ H12 J add_ (m_ (e_ (kP2 _ _ _ _ h.2 _ _ _ _ _ H3 H5 J J (ApM.mk c (Mine.app A8.2 J e)) B0 B1))))))))))
include H8 A8 in
theorem w222_13 (h:T222_13 prog K out8):W prog d c222_6 σ st Q:=
 au trivial
include kP3 H5 H8 H15 A8 B1 in
theorem w222_12 (h:T222_12 prog K P3 out8 i15 m1):W prog d l222_3 σ st (thenW prog d (.loop l222_3) (blockW 7 (thenW prog d c222_6 Q))):=
 sq_ (q_ J (m_ (f_ H5 (l_ J B1 J J (ll_ J (b_ H15 J lss_ (e_ (cs_ J (fun e=>sk_ (sq_ (bk_ (W.reg0 J fun _ _=>s_mvL H8 (f_ H5 (l_ J B1 J J (m_ ((h.1 e).2.elim fun k i=>ia_ J H15 (h.1 e).1 i.1 (Pan.row_eq k) J (lf_ J J J (i.2.elim fun p c=>ca_ (sc1 J J) c.1 (b_ J J (abin_cat' c.2.1) (s_bslM (f:=rowS) (l:=[(([32,32]:BS)++p)]) J J (g_cons J J J g_nil) J (s_app rowS_len J J J A8.1 c.2.2.1 J (fun _ _ j _ o=>s_mvL J (e_ (W.reg0 J fun _ _=>m_ (b_ H15 J add_ (m_ (e_ (kP3 _ _ _ c.2.2.2 _ _ _ _ H5 J J (ApM.mk j (Mine.app A8.2 J o)) B1)))))))))))))))))))) (fun e=>ex_ (w222_13 hQ H8 A8 (h.2 e)))))))))))
include H5 H8 A8 B1 in
theorem w222_11 (h:T222_11 prog K out8 m1):W prog d c222_7 σ st Q:=
 sq_ (q_ J (m_ (e_ (bk_ (h (I222_3 prog d Q ) (fun _ _ _ hb _ _ _ _ H5 H8 H15 A8 B1=>W.loop (w222_12 hQ (fun _ _ _ x=>x) H5 H8 H15 A8 B1 hb)) _ _ _ _ H5 H8 J A8 B1)))))
include kP2 H3 H5 H8 H12 A8 B0 B1 in
theorem w222_9 (h:T222_9 prog K P2 out8 i12 m0 m1):W prog d l222_2 σ st (thenW prog d (.loop l222_2) (blockW 5 (thenW prog d c222_7 Q))):=
 au (And.intro @w222_10 @w222_11)
include H3 H5 H8 A8 B0 B1 in
theorem w222_8 (h:T222_8 prog K out8 m0 m1):W prog d c222_8 σ st Q:=
 sq_ (q_ J (m_ (e_ (bk_ (h (I222_2 prog d Q ) (fun _ _ _ _ hb _ _ _ _ _ H3 H5 H8 H12 A8 B0 B1=>W.loop (w222_9 hQ (fun _ _ _ _ x=>x) H3 H5 H8 H12 A8 B0 B1 hb)) _ _ _ _ _ H3 H5 H8 J A8 B0 B1)))))
include kP0 H3 H5 H8 H9 A8 B0 B1 in
theorem w222_5 (h:T222_5 prog K P0 out8 i9 m0 m1):W prog d l222_0 σ st (thenW prog d (.loop l222_0) (blockW 1 (thenW prog d c222_8 Q))):=
 sq_ (q_ J (m_ (f_ H5 (l_ J B1 J J (ll_ J (b_ H9 J lss_ (e_ (cs_ J (fun c=>sk_ (sq_ (bk_ (q_ J (l_ H3 B0 J J (m_ (f_ H5 (l_ J B1 J J (m_ ((h.1 c).2.elim fun j e=>ia_ J H9 (h.1 c).1 e.1 (Frm.row_eq j) J (lf_ J J J (e.2.elim fun k i=>ca_ (sc3 J H9 J J) i.1 (s_mvL J (e_ (q_ J (m_ (e_ (bk_ (i.2 (I222_1 prog d Q i9 k) (fun _ _ _ _ hb _ _ _ _ _ _ H3 H5 H8 H9 H10 H11 A8 B0 B1=>W.loop (w222_6 hQ (fun _ _ _ _ x=>x) kP0 H3 H5 H8 H9 H10 H11 A8 B0 B1 hb)) _ _ _ _ _ _ H3 H5 H8 H9 J J A8 B0 B1))))))))))))))))))) (fun c=>ex_ (w222_8 hQ H3 H5 H8 A8 B0 B1 (h.2 c)))))))))))
include H3 H5 H8 A8 B0 B1 in
theorem w222_4 (h:T222_4 prog K out8 m0 m1):W prog d c222_9 σ st Q:=
 sq_ (q_ J (m_ (e_ (bk_ (h (I222_0 prog d Q ) (fun _ _ _ _ hb _ _ _ _ _ H3 H5 H8 H9 A8 B0 B1=>W.loop (w222_5 hQ (fun _ _ _ _ x=>x) H3 H5 H8 H9 A8 B0 B1 hb)) _ _ _ _ _ H3 H5 H8 J A8 B0 B1)))))
include H3 H5 H7 B0 B1 in
theorem w222_3 (h:T222_3 prog K first7 m0 m1):W prog d c222_10 σ st Q:=
 q_ J (m_ (s_bslM (f:=rowS) (l:=[first7]) J J (g_cons H7 J J g_nil) J (s_mvL J (e_ (w222_4 hQ H3 H5 J ApM.full B0 B1 h)))))
include H3 H5 H7 B0 B1 in
theorem w222_2 (h:T222_2 prog K first7 m0 m1):W prog d c222_11 σ st Q:=
 sq_ (q_ J (f_ H5 (l_ J B1 J J (e_ (bk_ (q_ J (b_ J J eql_ (m_ (e_ (cs_ J (fun c=>W.reg0 J fun _ _=>m_ (b_ H7 J (abin_cat' (h.1 c).1) (m_ (e_ (w222_3 hQ H3 H5 J B0 B1 (h.1 c).2))))) (fun c=>q_ J (b_ J J eql_ (m_ (e_ (cs_ J (fun i=>W.reg0 J fun _ _=>m_ (b_ H7 J (abin_cat' ((h.2 c).1 i).1) (m_ (e_ (w222_3 hQ H3 H5 J B0 B1 ((h.2 c).1 i).2))))) (fun i=>W.reg0 J fun _ _=>m_ (f_ H5 (l_ J B1 J J (((h.2 c).2 i).elim fun _ e=>ca_ (sc1 J J) e.1 (b_ J J (abin_cat' e.2.1) (b_ H7 J (abin_cat' e.2.2.1) (m_ (e_ (w222_3 hQ H3 H5 J B0 B1 e.2.2.2))))))))))))))))))))))))
include H1 H3 H5 B0 B1 in
theorem w222_1 (h:T222_1 prog K g1 m0 m1):W prog d c222_12 σ st Q:=
 au @w222_2
include H0 H1 H2 in
theorem w222_0 (h:T222_0 prog K m0 g1 x2):W prog d (sR 0 r222_0 c222_12) σ st Q:=
 q_ J (s_box H0 J (s_box H2 J (s_mvL (f:=rowS) (l:=[]) J (e_ (w222_1 hQ H1 J J (lk_other J lk_here) lk_here h)))))
end
theorem p222 {prog:Prog}(hf:prog.fn 222=some pf222){m0:Img}{g1:Int}{x2:Rou}{K:LB→Prop}(h:T222_0 prog K m0 g1 x2) :∃res0:LB,K res0∧Pus prog 222 [m0.av,.i .i64 g1,x2.av] (.sl .ext (List.map rowS res0)):=
 P1 hf J (w222_0 (hL J) J J J h)
abbrev H208 (Q:AE→Sl→St→Prop)(K:LB→Int→Prop):Prop:=∀(σ:Sl)(st:St)(o0:Own)(res0:LB)(res1:Int),σ 6=.sl o0 (List.map rowS res0)→σ 7=.i .i64 res1→K res0 res1→Q .ret σ st
section
variable {prog:Prog}{d:Nat}{Q:AE→Sl→St→Prop}{K:LB→Int→Prop}(hQ:H208 Q K){σ:Sl}{st:St}
include hQ
end
abbrev H205 (Q:AE→Sl→St→Prop)(K:BS→Int→Prop):Prop:=∀(σ:Sl)(st:St)(res0:BS)(res1:Int),σ 4=.s res0→σ 5=.i .i64 res1→K res0 res1→Q .ret σ st
section
variable {prog:Prog}{d:Nat}{Q:AE→Sl→St→Prop}{K:BS→Int→Prop}(hQ:H205 Q K){σ:Sl}{st:St}
include hQ
end
abbrev H218 (Q:AE→Sl→St→Prop)(K:BS→Prop):Prop:=∀(σ:Sl)(st:St)(res0:BS),σ 4=.s res0→K res0→Q .ret σ st
section
variable {prog:Prog}{d:Nat}{Q:AE→Sl→St→Prop}{K:BS→Prop}(hQ:H218 Q K){σ:Sl}{st:St}
include hQ
end
abbrev H206 (Q:AE→Sl→St→Prop)(K:BS→Int→Prop):Prop:=∀(σ:Sl)(st:St)(res0:BS)(res1:Int),σ 4=.s res0→σ 5=.i .i64 res1→K res0 res1→Q .ret σ st
section
variable {prog:Prog}{d:Nat}{Q:AE→Sl→St→Prop}{K:BS→Int→Prop}(hQ:H206 Q K){σ:Sl}{st:St}
include hQ
end
end Go.AM

namespace Go.AM
open Go
set_option linter.unusedVariables false
set_option linter.unusedSimpArgs false
set_option maxRecDepth 4000
attribute [local irreducible] WO fillCells fillRows
def r203_0:List AI:=[oY 1 4 0,oC 2 (.b false)]
def r203_1:List AI:=[oI 3 0]
def r203_2:List AI:=[oM 4 3,oF 5 3 1,oL 6 5,oJ 7 6,oT 8 .lss 4 7,oM 9 8,gT 9 (oM 10 3),gT 9 (oV 11 .leq 10 20),oA 12 9 11]
def r203_3:List AI:=[oF 15 3 1,oL 16 15,oM 17 3,oX 18 5 16 17,oK 19 5 18,oQ 20 204 [19]]
def r203_4:List AI:=[oC 2 (.b true)]
def r203_5:List AI:=[oM 13 3,oV 14 .add 13 1,oM 3 14]
def r203_6:List AI:=[oF 21 3 1,oL 22 21,oJ 23 22,oV 24 .gtr 23 20,oM 2 24]
abbrev c203_0:AC:=(.seq (.block 1 (sR 4 r203_3 (.cond (.t 20) (sR 5 r203_4 .ret) .skip))) (.reg 3 r203_5))
abbrev l203_0:AC:=(.seq (sR 2 r203_2 (.cond (.t 12) .skip (.exit 0))) c203_0)
abbrev c203_2:AC:=(sR 6 r203_6 .ret)
abbrev b203:AC:=(sR 0 r203_0 (.seq (sR 1 r203_1 (.block 0 (.loop l203_0))) c203_2))
def pf203:AF:={ nt:=25,res:=[.tmp 2],body:=b203 }
abbrev I203_0 (prog:Prog)(d:Nat)(Q:AE→Sl→St→Prop)(i3:Int)(m0:Sta):Prop:=
  ∀(σ:Sl)(st:St)(v0:Nat),σ 1=.p (d,0) v0 0→σ 3=.i .i64 i3→lk st.bx (d,0)=some (v0,Sta.cs m0)→W prog d (.loop l203_0) σ st (blockW 0 (thenW prog d c203_2 Q))
def T203_2 (prog:Prog)(K:Bool→Prop)(P0:Int→Sta→Prop)(i3:Int)(m0:Sta):Prop:=
  0≤i3∧∃e:Rou,m0.routines[(i3).toNat]?=some e∧∃c,Pus prog 204 [e.av] (.b c)∧(c=true→K true)∧(c=false→P0 (IntKind.i64.wrap (i3+1)) m0)
def T203_3 (prog:Prog)(K:Bool→Prop)(m0:Sta):Prop:=
  K (decide ((m0.routines.length:Int)>20))
def T203_1 (prog:Prog)(K:Bool→Prop)(P0:Int→Sta→Prop)(i3:Int)(m0:Sta):Prop:=
  (i3<(m0.routines.length:Int)→(i3≤20→T203_2 prog K P0 i3 m0)∧(¬(i3≤20)→T203_3 prog K m0))∧(¬(i3<(m0.routines.length:Int))→T203_3 prog K m0)
def T203_0 (prog:Prog)(K:Bool→Prop)(s0:Sta):Prop:=
  ∀P0:Int→Sta→Prop,(∀(i3:Int)(m0:Sta),T203_1 prog K P0 i3 m0→P0 i3 m0)→P0 0 s0
section
variable {prog:Prog}{d:Nat}{Q:AE→Sl→St→Prop}{K:Bool→Prop}(hQ:H1 AV.b 2 Q K){σ:Sl}{st:St}
include hQ
variable {i3:Int}{m0:Sta}{P0:Int→Sta→Prop}{v0:Nat}{s0:Sta}
variable (kP0 :∀(i3:Int)(m0:Sta),P0 i3 m0→I203_0 prog d Q i3 m0)(H0:σ 0=s0.av)(H1:σ 1=.p (d,0) v0 0)(H3:σ 3=.i .i64 i3)(B0:lk st.bx (d,0)=some (v0,Sta.cs m0))
include kP0 H1 H3 B0 in
theorem w203_2 (h:T203_2 prog K P0 i3 m0):W prog d c203_0 σ st (thenW prog d (.loop l203_0) (blockW 0 (thenW prog d c203_2 Q))):=
 sq_ (bk_ (q_ J (f_ H1 (l_ J B0 J J (m_ (h.2.elim fun j i=>ia_ J H3 h.1 i.1 (Rou.row_eq j) J (lf_ J J J (i.2.elim fun _ c=>ca_ (sc1 J J) c.1 (e_ (cb_ J (fun e=>q_ J (m_ (er_ (hQ J (c.2.1 e))))) (fun e=>sk_ (W.reg0 J fun _ _=>m_ (b_ H3 J add_ (m_ (e_ (kP0 _ _ (c.2.2 e) _ _ _ H1 J B0))))))))))))))))
include H1 B0 in
theorem w203_3 (h:T203_3 prog K m0):W prog d c203_2 σ st Q:=
 q_ J (f_ H1 (l_ J B0 J J (ll_ J (b_ J J gtr_ (m_ (er_ (hQ J h)))))))
include kP0 H1 H3 B0 in
theorem w203_1 (h:T203_1 prog K P0 i3 m0):W prog d l203_0 σ st (thenW prog d (.loop l203_0) (blockW 0 (thenW prog d c203_2 Q))):=
 sq_ (q_ J (s_mvI H3 (f_ H1 (l_ J B0 J J (ll_ J (b_ J J lss_ (s_mvB J (em_ (g:=9) J (fun c=>gy_ J (s_mvI H3 (gy_ J (b_ J J leq_ (pt_ J J (e_ (cs_ J (fun e=>sk_ (w203_2 hQ kP0 H1 H3 B0 ((h.1 c).1 e))) (fun e=>ex_ (w203_3 hQ H1 B0 ((h.1 c).2 e)))))))))) (fun c=>z_ 3 J (e_ (cf_ J (ex_ (w203_3 hQ H1 B0 (h.2 c))))))))))))))
include H0 in
theorem w203_0 (h:T203_0 prog K s0):W prog d (sR 0 r203_0 (.seq (sR 1 r203_1 (.block 0 (.loop l203_0))) c203_2)) σ st Q:=
 q_ J (s_box H0 J (m_ (e_ (sq_ (q_ J (m_ (e_ (bk_ (h (I203_0 prog d Q ) (fun _ _ hb _ _ _ H1 H3 B0=>W.loop (w203_1 hQ (fun _ _ x=>x) H1 H3 B0 hb)) _ _ _ J J lk_here)))))))))
end
theorem p203 {prog:Prog}(hf:prog.fn 203=some pf203){s0:Sta}{K:Bool→Prop}(h:T203_0 prog K s0) :∃res0:Bool,K res0∧Pus prog 203 [s0.av] (.b res0):=
 P1 hf J (w203_0 (h1 J fun _=>J) J h)
def r204_0:List AI:=[oY 1 5 0,oC 2 (.b false)]
def r204_1:List AI:=[oF 5 2 1,oL 6 5,oJ 7 6,oV 8 .gtr 7 12,oM 9 8,gF 9 (oF 10 3 1),gF 9 (oL 11 10),gF 9 (oJ 12 11),gF 9 (oV 13 .gtr 12 12),oR 14 9 13,oM 15 14,gF 15 (oF 16 4 1),gF 15 (oL 17 16),gF 15 (oJ 18 17),gF 15 (oV 19 .gtr 18 20),oR 20 15 19,oM 21 20,gF 21 (oF 22 4 1),gF 21 (oL 23 22),gF 21 (oQ 24 162 [23]),oR 25 21 24]
def r204_2:List AI:=[oC 2 (.b true)]
def r204_3:List AI:=[oI 3 0]
def r204_4:List AI:=[oM 26 3,oF 27 2 1,oL 28 27,oJ 29 28,oT 30 .lss 26 29]
def r204_5:List AI:=[oF 33 2 1,oL 34 33,oM 35 3,oX 36 4 34 35,oK 37 4 36,oQ 38 80 [37]]
def r204_6:List AI:=[oC 2 (.b true)]
def r204_7:List AI:=[oM 31 3,oV 32 .add 31 1,oM 3 32]
def r204_8:List AI:=[oI 4 0]
def r204_9:List AI:=[oM 39 4,oF 40 3 1,oL 41 40,oJ 42 41,oT 43 .lss 39 42]
def r204_10:List AI:=[oF 46 3 1,oL 47 46,oM 48 4,oX 49 8 47 48,oF 50 3 49,oK 51 5 50,oQ 52 71 [51]]
def r204_11:List AI:=[oC 2 (.b true)]
def r204_12:List AI:=[oM 44 4,oV 45 .add 44 1,oM 4 45]
def r204_13:List AI:=[oC 2 (.b false)]
abbrev l204_0:AC:=(.seq (sR 4 r204_4 (.cond (.t 30) .skip (.exit 0))) (.seq (.block 1 (sR 6 r204_5 (.cond (.t 38) (sR 7 r204_6 .ret) .skip))) (.reg 5 r204_7)))
abbrev l204_1:AC:=(.seq (sR 9 r204_9 (.cond (.t 43) .skip (.exit 2))) (.seq (.block 3 (sR 11 r204_10 (.cond (.t 52) (sR 12 r204_11 .ret) .skip))) (.reg 10 r204_12)))
abbrev c204_2:AC:=(sR 13 r204_13 .ret)
abbrev c204_3:AC:=(.seq (sR 8 r204_8 (.block 2 (.loop l204_1))) c204_2)
abbrev c204_4:AC:=(.seq (sR 3 r204_3 (.block 0 (.loop l204_0))) c204_3)
abbrev b204:AC:=(sR 0 r204_0 (.seq (sR 1 r204_1 (.cond (.t 25) (sR 2 r204_2 .ret) .skip)) c204_4))
def pf204:AF:={ nt:=53,res:=[.tmp 2],body:=b204 }
abbrev I204_0 (prog:Prog)(d:Nat)(Q:AE→Sl→St→Prop)(i3:Int)(m0:Rou):Prop:=
  ∀(σ:Sl)(st:St)(v0:Nat),σ 1=.p (d,0) v0 0→σ 3=.i .i64 i3→lk st.bx (d,0)=some (v0,Rou.cs m0)→W prog d (.loop l204_0) σ st (blockW 0 (thenW prog d c204_3 Q))
abbrev I204_1 (prog:Prog)(d:Nat)(Q:AE→Sl→St→Prop)(i4:Int)(m0:Rou):Prop:=
  ∀(σ:Sl)(st:St)(v0:Nat),σ 1=.p (d,0) v0 0→σ 4=.i .i64 i4→lk st.bx (d,0)=some (v0,Rou.cs m0)→W prog d (.loop l204_1) σ st (blockW 2 (thenW prog d c204_2 Q))
def T204_5 (prog:Prog)(K:Bool→Prop) :Prop:=
  K false
def T204_4 (prog:Prog)(K:Bool→Prop)(P1:Int→Rou→Prop)(i4:Int)(m0:Rou):Prop:=
  (i4<(m0.defers.length:Int)→0≤i4∧∃e:Dfr,m0.defers[(i4).toNat]?=some e∧∃c,Pus prog 71 [e.arg.av] (.b c)∧(c=true→K true)∧(c=false→P1 (IntKind.i64.wrap (i4+1)) m0))∧(¬(i4<(m0.defers.length:Int))→T204_5 prog K )
def T204_3 (prog:Prog)(K:Bool→Prop)(m0:Rou):Prop:=
  ∀P1:Int→Rou→Prop,(∀(i4:Int)(m0:Rou),T204_4 prog K P1 i4 m0→P1 i4 m0)→P1 0 m0
def T204_2 (prog:Prog)(K:Bool→Prop)(P0:Int→Rou→Prop)(i3:Int)(m0:Rou):Prop:=
  (i3<(m0.frames.length:Int)→0≤i3∧∃e:Frm,m0.frames[(i3).toNat]?=some e∧∃c,Pus prog 80 [e.av] (.b c)∧(c=true→K true)∧(c=false→P0 (IntKind.i64.wrap (i3+1)) m0))∧(¬(i3<(m0.frames.length:Int))→T204_3 prog K m0)
def T204_1 (prog:Prog)(K:Bool→Prop)(m0:Rou):Prop:=
  ∀P0:Int→Rou→Prop,(∀(i3:Int)(m0:Rou),T204_2 prog K P0 i3 m0→P0 i3 m0)→P0 0 m0
def T204_0 (prog:Prog)(K:Bool→Prop)(x0:Rou):Prop:=
  ((x0.frames.length:Int)>12→K true)∧(¬((x0.frames.length:Int)>12)→((x0.defers.length:Int)>12→K true)∧(¬((x0.defers.length:Int)>12)→((x0.panics.length:Int)>20→K true)∧(¬((x0.panics.length:Int)>20)→∃c,Pus prog 162 [.sl .ext (List.map Pan.row x0.panics)] (.b c)∧(c=true→K true)∧(c=false→T204_1 prog K x0))))
section
variable {prog:Prog}{d:Nat}{Q:AE→Sl→St→Prop}{K:Bool→Prop}(hQ:H1 AV.b 2 Q K){σ:Sl}{st:St}
include hQ
variable {i4:Int}{m0:Rou}{P1:Int→Rou→Prop}{v0:Nat}{i3:Int}{P0:Int→Rou→Prop}{x0:Rou}
variable (kP1 :∀(i4:Int)(m0:Rou),P1 i4 m0→I204_1 prog d Q i4 m0) (kP0 :∀(i3:Int)(m0:Rou),P0 i3 m0→I204_0 prog d Q i3 m0)(H0:σ 0=x0.av)(H1:σ 1=.p (d,0) v0 0)(H4:σ 4=.i .i64 i4)(H3:σ 3=.i .i64 i3)(B0:lk st.bx (d,0)=some (v0,Rou.cs m0))
theorem w204_5 (h:T204_5 prog K ):W prog d c204_2 σ st Q:=
 q_ J (m_ (er_ (hQ J h)))
include kP1 H1 H4 B0 in
theorem w204_4 (h:T204_4 prog K P1 i4 m0):W prog d l204_1 σ st (thenW prog d (.loop l204_1) (blockW 2 (thenW prog d c204_2 Q))):=
 sq_ (q_ J (m_ (f_ H1 (l_ J B0 J J (ll_ J (b_ H4 J lss_ (e_ (cs_ J (fun c=>sk_ (sq_ (bk_ (q_ J (f_ H1 (l_ J B0 J J (m_ ((h.1 c).2.elim fun k j=>ia_ J H4 (h.1 c).1 j.1 (Dfr.row_eq k) J (ff_ J (lf_ J J J (j.2.elim fun _ e=>ca_ (sc1 J J) e.1 (e_ (cb_ J (fun i=>q_ J (m_ (er_ (hQ J (e.2.1 i))))) (fun i=>sk_ (W.reg0 J fun _ _=>m_ (b_ H4 J add_ (m_ (e_ (kP1 _ _ (e.2.2 i) _ _ _ H1 J B0))))))))))))))))))) (fun c=>ex_ (w204_5 hQ (h.2 c)))))))))))
include H1 B0 in
theorem w204_3 (h:T204_3 prog K m0):W prog d c204_3 σ st Q:=
 sq_ (q_ J (m_ (e_ (bk_ (h (I204_1 prog d Q ) (fun _ _ hb _ _ _ H1 H4 B0=>W.loop (w204_4 hQ (fun _ _ x=>x) H1 H4 B0 hb)) _ _ _ H1 J B0)))))
include kP0 H1 H3 B0 in
theorem w204_2 (h:T204_2 prog K P0 i3 m0):W prog d l204_0 σ st (thenW prog d (.loop l204_0) (blockW 0 (thenW prog d c204_3 Q))):=
 sq_ (q_ J (m_ (f_ H1 (l_ J B0 J J (ll_ J (b_ H3 J lss_ (e_ (cs_ J (fun c=>sk_ (sq_ (bk_ (q_ J (f_ H1 (l_ J B0 J J (m_ ((h.1 c).2.elim fun k j=>ia_ J H3 (h.1 c).1 j.1 (Frm.row_eq k) J (lf_ J J J (j.2.elim fun _ e=>ca_ (sc1 J J) e.1 (e_ (cb_ J (fun i=>q_ J (m_ (er_ (hQ J (e.2.1 i))))) (fun i=>sk_ (W.reg0 J fun _ _=>m_ (b_ H3 J add_ (m_ (e_ (kP0 _ _ (e.2.2 i) _ _ _ H1 J B0)))))))))))))))))) (fun c=>ex_ (w204_3 hQ H1 B0 (h.2 c)))))))))))
include H1 B0 in
theorem w204_1 (h:T204_1 prog K m0):W prog d c204_4 σ st Q:=
 sq_ (q_ J (m_ (e_ (bk_ (h (I204_0 prog d Q ) (fun _ _ hb _ _ _ H1 H3 B0=>W.loop (w204_2 hQ (fun _ _ x=>x) H1 H3 B0 hb)) _ _ _ H1 J B0)))))
include H0 in
theorem w204_0 (h:T204_0 prog K x0):W prog d (sR 0 r204_0 (.seq (sR 1 r204_1 (.cond (.t 25) (sR 2 r204_2 .ret) .skip)) c204_4)) σ st Q:=
 q_ J (s_box H0 J (m_ (e_ (sq_ (q_ J (f_ J (l_ J lk_here J J (ll_ J (b_ J J gtr_ (s_mvB J (em_ (g:=9) J (fun c=>z_ 16 J (e_ (ct_ J (q_ J (m_ (er_ (hQ J (h.1 c)))))))) (fun c=>gy_ J (f_ J (gy_ J (l_ J lk_here J J (gy_ J (ll_ J (gy_ J (b_ J J gtr_ (z_ 2 J (em_ (g:=15) J (fun e=>z_ 10 J (e_ (ct_ J (q_ J (m_ (er_ (hQ J ((h.2 c).1 e)))))))) (fun e=>gy_ J (f_ J (gy_ J (l_ J lk_here J J (gy_ J (ll_ J (gy_ J (b_ J J gtr_ (z_ 2 J (em_ (g:=21) J (fun j=>z_ 4 J (e_ (ct_ J (q_ J (m_ (er_ (hQ J (((h.2 c).2 e).1 j)))))))) (fun j=>gy_ J (f_ J (gy_ J (l_ J lk_here J J (gy_ J ((((h.2 c).2 e).2 j).elim fun _ i=>ca_ (sc1 J J) i.1 (pf_ J J (e_ (cb_ J (fun k=>q_ J (m_ (er_ (hQ J (i.2.1 k))))) (fun k=>sk_ (w204_1 hQ J lk_here (i.2.2 k)))))))))))))))))))))))))))))))))))))))))))
end
theorem p204 {prog:Prog}(hf:prog.fn 204=some pf204){x0:Rou}{K:Bool→Prop}(h:T204_0 prog K x0) :∃res0:Bool,K res0∧Pus prog 204 [x0.av] (.b res0):=
 P1 hf J (w204_0 (h1 J fun _=>J) J h)
abbrev H202 (Q:AE→Sl→St→Prop)(K:Bool→Prop):Prop:=∀(σ:Sl)(st:St)(res0:Bool),σ 12=.b res0→K res0→Q .ret σ st
section
variable {prog:Prog}{d:Nat}{Q:AE→Sl→St→Prop}{K:Bool→Prop}(hQ:H202 Q K){σ:Sl}{st:St}
include hQ
end
end Go.AM

namespace Go.AM
open Go
end Go.AM
