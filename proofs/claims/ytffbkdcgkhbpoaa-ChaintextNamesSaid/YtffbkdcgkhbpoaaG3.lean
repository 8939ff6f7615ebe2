/- Parts of the proof: U38a, U38b, U38c, U39a, U39b, U39c, U39d, U39e, Rf, Rg, C30. -/
import Derived.Test.YtffbkdcgkhbpoaaG2
import Derived.Test.YtffbkdcgkhbpoaaG1
import Derived.RangeFuncNested
import Derived.RangeFuncCalls
set_option linter.all false
namespace Go.AM
open Go
set_option maxRecDepth 4000
set_option maxHeartbeats 2000000
attribute [local irreducible] Decidable.decide W WO fillCells fillRows
abbrev H71 (Q:AE→Sl→St→Prop)(K:Bool→Prop):Prop:=∀(σ:Sl)(st:St)(res0:Bool),σ 2=.b res0→K res0→Q .ret σ st
section
variable {prog:Prog}{d:Nat}{Q:AE→Sl→St→Prop}{K:Bool→Prop}(hQ:H71 Q K){σ:Sl}{st:St}
include hQ
end
def r72_0:List AI:=[oY 1 5 0,oC 2 (.s []),oI 3 0]
def r72_1:List AI:=[oK 7 5 1,oQ 8 76 [7],oM 4 8]
def r72_2:List AI:=[oM 9 4,oV 10 .neq 9 0]
def r72_3:List AI:=[oM 11 4,oC 2 (.s []),oM 3 11]
def r72_4:List AI:=[oO 5 (.alloc [.np,.sl .full []])]
def r72_5:List AI:=[oK 12 5 1,oO 13 (.call true 104 [(.t 5),(.t 12)]),oM 6 13]
def r72_6:List AI:=[oM 14 6,oV 15 .neq 14 0]
def r72_7:List AI:=[oM 16 6,oC 2 (.s []),oM 3 16]
def r72_8:List AI:=[oO 17 (.call true 105 [(.t 5)]),oM 2 17,oI 3 0]
abbrev b72:AC:=(sR 0 r72_0 (.seq (sR 1 r72_1 (sR 2 r72_2 (.cond (.t 10) (sR 3 r72_3 .ret) .skip))) (sR 1000004 r72_4 (.seq (sR 5 r72_5 (sR 6 r72_6 (.cond (.t 15) (sR 7 r72_7 .ret) .skip))) (sR 8 r72_8 .ret)))))
def pf72:AF:={ nt:=18,res:=[.tmp 2,.tmp 3],body:=b72 }
def T72_0 (prog:Prog)(K:BS→Int→Prop)(v0:Val):Prop:=
  ∃c,Pus prog 76 [v0.av] (.i .i64 c)∧(c≠0→K ([]:BS) c)∧(¬(c≠0)→∃e,∃k:BS,PuX prog 104 (Bl ([]:BS)) [v0.av] (fun r=>r=.i .i64 e) ((Bl k))∧(e≠0→K ([]:BS) e)∧(¬(e≠0)→∃j,PuX prog 105 (Bl k) [] (fun r=>r=.s j) (fun _ _ _ _=>True)∧K j 0))
section
variable {prog:Prog}{d:Nat}{Q:AE→Sl→St→Prop}{K:BS→Int→Prop}(hQ:H2 AV.s (AV.i .i64) 2 3 Q K){σ:Sl}{st:St}
include hQ
variable {v0:Val}
variable (H0:σ 0=v0.av)
include H0 in
theorem w72_0 (h:T72_0 prog K v0):W prog d (sR 0 r72_0 (.seq (sR 1 r72_1 (sR 2 r72_2 (.cond (.t 10) (sR 3 r72_3 .ret) .skip))) (sR 1000004 r72_4 (.seq (sR 5 r72_5 (sR 6 r72_6 (.cond (.t 15) (sR 7 r72_7 .ret) .skip))) (sR 8 r72_8 .ret))))) σ st Q:=
 q_ J (s_box H0 J (m_ (m_ (e_ (sq_ (q_ J (l_ J lk_here J J (h.elim fun _ e=>ca_ (sc1 J J) e.1 (m_ (e_ (q_ J (m_ (b_ J J neq_ (e_ (cs_ J (fun j=>q_ J (m_ (m_ (m_ (er_ (hQ J J (e.2.1 j))))))) (fun j=>sk_ (sq_ (W.regB J (fun _ _ _ q r=>sq_ (q_ J (l_ J ((r (d,0) (key_LL J)).trans lk_here) J J ((e.2.2 j).elim fun _ o=>o.elim fun _ c=>cX_ (sec J (sec J sen)) c.1 (Nat.lt_succ_self d) q (fun _ p _=>m_ (e_ (q_ J (m_ (b_ J J neq_ (e_ (cs_ J (fun i=>q_ J (m_ (m_ (m_ (er_ (hQ J J (c.2.1 i))))))) (fun i=>sk_ (q_ J ((c.2.2 i).elim fun _ k=>cX_ (sec J sen) k.1 (Nat.lt_succ_self d) p (fun _ _ _=>m_ (m_ (er_ (hQ J J k.2))))))))))))))))))))))))))))))))))))
end
theorem p72 {prog:Prog}(hf:prog.fn 72=some pf72){v0:Val}{K:BS→Int→Prop}(h:T72_0 prog K v0) :∃res0:BS,∃res1:Int,K res0 res1∧Pus prog 72 [v0.av] (.tup [.s res0,.i .i64 res1]):=
 P2 hf J (w72_0 (h2 J fun _ _=>J) J h)
abbrev H73 (Q:AE→Sl→St→Prop)(K:BS→Int→Prop):Prop:=∀(σ:Sl)(st:St)(res0:BS)(res1:Int),σ 2=.s res0→σ 3=.i .i64 res1→K res0 res1→Q .ret σ st
section
variable {prog:Prog}{d:Nat}{Q:AE→Sl→St→Prop}{K:BS→Int→Prop}(hQ:H73 Q K){σ:Sl}{st:St}
include hQ
end
def r76_0:List AI:=[oY 1 5 0,oI 2 0]
def r76_1:List AI:=[oK 6 5 1,oO 7 (.call false 109 [(.t 6),(.c (.i .i64 130))]),oM 5 7,oE 8 0 5,oE 9 1 5,oM 3 8,oM 4 9]
def r76_2:List AI:=[oM 10 4,oZ 11 10]
def r76_3:List AI:=[oI 2 8]
def r76_4:List AI:=[oI 2 0]
abbrev b76:AC:=(sR 0 r76_0 (.seq (sR 1 r76_1 (sR 2 r76_2 (.cond (.t 11) (sR 3 r76_3 .ret) .skip))) (sR 4 r76_4 .ret)))
def pf76:AF:={ nt:=12,res:=[.tmp 2],body:=b76 }
def T76_0 (prog:Prog)(K:Int→Prop)(v0:Val):Prop:=
  ∃e c,Pus prog 109 [v0.av,.i .i64 130] (.tup [.i .i64 e,.b c])∧((!c)=true→K 8)∧((!c)=false→K 0)
section
variable {prog:Prog}{d:Nat}{Q:AE→Sl→St→Prop}{K:Int→Prop}(hQ:H1 (AV.i .i64) 2 Q K){σ:Sl}{st:St}
include hQ
variable {v0:Val}
variable (H0:σ 0=v0.av)
include H0 in
theorem w76_0 (h:T76_0 prog K v0):W prog d (sR 0 r76_0 (.seq (sR 1 r76_1 (sR 2 r76_2 (.cond (.t 11) (sR 3 r76_3 .ret) .skip))) (sR 4 r76_4 .ret))) σ st Q:=
 au trivial
end
theorem p76 {prog:Prog}(hf:prog.fn 76=some pf76){v0:Val}{K:Int→Prop}(h:T76_0 prog K v0) :∃res0:Int,K res0∧Pus prog 76 [v0.av] (.i .i64 res0):=
 P1 hf J (w76_0 (h1 J fun _=>J) J h)
abbrev H77 (Q:AE→Sl→St→Prop)(K:Int→Prop):Prop:=∀(σ:Sl)(st:St)(res0:Int),σ 2=.i .i64 res0→K res0→Q .ret σ st
section
variable {prog:Prog}{d:Nat}{Q:AE→Sl→St→Prop}{K:Int→Prop}(hQ:H77 Q K){σ:Sl}{st:St}
include hQ
end
abbrev H102 (Q:AE→Sl→St→Prop)(K:Bool→Prop):Prop:=∀(σ:Sl)(st:St)(res0:Bool),σ 4=.b res0→K res0→Q .ret σ st
section
variable {prog:Prog}{d:Nat}{Q:AE→Sl→St→Prop}{K:Bool→Prop}(hQ:H102 Q K){σ:Sl}{st:St}
include hQ
end
abbrev H103 (Q:AE→Sl→St→Prop)(K:Int→Prop):Prop:=∀(σ:Sl)(st:St)(res0:Int),σ 2=.i .i64 res0→K res0→Q .ret σ st
section
variable {prog:Prog}{d:Nat}{Q:AE→Sl→St→Prop}{K:Int→Prop}(hQ:H103 Q K){σ:Sl}{st:St}
include hQ
end
def r104_0:List AI:=[oY 3 5 1,oI 4 0]
def r104_1:List AI:=[oO 11 (.build [zs,zs,zs,zs,zs,zs,zs,zs] [(5,1,(.c (.s [123,125]))),(6,1,(.c (.s [91,93]))),(7,1,(.c (.s [60,62])))]),oF 12 0 3,oL 13 12,oO 14 (.ixA 8 1 false (.t 11) (.t 13)),oM 5 14]
def r104_2:List AI:=[oF 43 0 3,oL 44 43,oW 45 .eql 44 1,oM 46 45,gT 46 (oF 47 1 3),gT 46 (oL 48 47),gT 46 (oV 49 .eql 48 1),oA 50 46 49,oM 42 50]
def r104_3:List AI:=[oM 51 0,oO 52 (.call true 126 [(.t 51),(.c (.s [116,114,117,101]))])]
def r104_4:List AI:=[oF 54 0 3,oL 55 54,oW 56 .eql 55 1,oM 53 56]
def r104_5:List AI:=[oM 57 0,oO 58 (.call true 126 [(.t 57),(.c (.s [102,97,108,115,101]))])]
def r104_6:List AI:=[oF 60 0 3,oL 61 60,oW 62 .eql 61 2,oM 59 62]
def r104_7:List AI:=[oM 63 0,oF 64 1 3,oL 65 64,oQ 66 15 [65],oO 67 (.call true 126 [(.t 63),(.t 66)])]
def r104_8:List AI:=[oF 69 0 3,oL 70 69,oW 71 .eql 70 3,oM 68 71]
def r104_9:List AI:=[oF 73 2 3,oL 74 73,oQ 75 11 [74],oM 72 75,oE 76 0 72,oE 77 1 72,oM 6 76,oM 7 77]
def r104_10:List AI:=[oM 78 0,oM 79 6,oO 80 (.call true 126 [(.t 78),(.t 79)])]
def r104_11:List AI:=[oM 81 7,oM 4 81]
def r104_12:List AI:=[oF 83 0 3,oL 84 83,oW 85 .eql 84 4,oM 86 85,gT 86 (oF 87 4 3),gT 86 (oL 88 87),oA 89 86 88,oM 82 89]
def r104_13:List AI:=[oM 90 0,oO 91 (.call true 126 [(.t 90),(.c (.s [38,46,46,46]))])]
def r104_14:List AI:=[oF 93 0 3,oL 94 93,oW 95 .eql 94 4,oM 96 95,gT 96 (oF 97 3 3),gT 96 (oL 98 97),gT 96 (oJ 99 98),gT 96 (oV 100 .eql 99 0),oA 101 96 100,oM 92 101]
def r104_15:List AI:=[oM 102 0,oO 103 (.call true 126 [(.t 102),(.c (.s [110,105,108]))])]
def r104_16:List AI:=[oF 105 0 3,oL 106 105,oW 107 .eql 106 4,oM 104 107]
def r104_17:List AI:=[oM 108 0,oO 109 (.call true 126 [(.t 108),(.c (.s [38]))])]
def r104_18:List AI:=[oM 110 0,oF 111 3 3,oL 112 111,oO 113 (.iaL 5 (.t 112) (.c (.i .i64 0))),oK 114 5 113,oO 115 (.call true 104 [(.t 110),(.t 114)]),oM 4 115]
def r104_19:List AI:=[oF 117 4 3,oL 118 117,oM 116 118]
def r104_20:List AI:=[oM 119 0,oO 120 (.call true 126 [(.t 119),(.c (.s [60,46,46,46,62]))])]
def r104_21:List AI:=[oM 15 0,oM 16 5,oO 17 (.slS (.t 16) none (some (.c (.i .i64 1)))),oO 18 (.call true 126 [(.t 15),(.t 17)])]
def r104_22:List AI:=[oF 19 3 3,oL 20 19,oJ 21 20,oI 22 0]
def r104_23:List AI:=[oT 23 .lss 22 21]
def r104_24:List AI:=[oM 24 22,oX 25 5 20 22,oK 26 5 25,oO 9 (.alloc [z8,z6,zs,zl,zb]),oM 8 24,oS 5 9 26]
def r104_25:List AI:=[oM 27 8,oV 28 .gtr 27 0]
def r104_26:List AI:=[oM 29 0,oO 30 (.call true 126 [(.t 29),(.c (.s [44,32]))])]
def r104_27:List AI:=[oM 31 0,oK 32 5 9,oO 33 (.call true 104 [(.t 31),(.t 32)]),oM 10 33]
def r104_28:List AI:=[oM 34 10,oV 35 .neq 34 0]
def r104_29:List AI:=[oM 36 10,oM 4 36]
def r104_30:List AI:=[oV 37 .add 22 1,oM 22 37]
def r104_31:List AI:=[oM 38 0,oM 39 5,oO 40 (.slS (.t 39) (some (.c (.i .i64 1))) none),oO 41 (.call true 126 [(.t 38),(.t 40)])]
def r104_32:List AI:=[oI 4 0]
abbrev c104_0:AC:=(sR 8 r104_27 (sR 9 r104_28 (.cond (.t 35) (sR 10 r104_29 .ret) .skip)))
abbrev l104_0:AC:=(sR 4 r104_23 (.seq (.cond (.t 23) .skip (.exit 1)) (.seq (.block 2 (sR 5 r104_24 (.seq (sR 6 r104_25 (.cond (.t 28) (.reg 7 r104_26) .skip)) c104_0))) (.reg 11 r104_30))))
abbrev c104_2:AC:=(.reg 12 r104_31)
abbrev c104_3:AC:=(.cond (.t 82) (.reg 24 r104_13) (sR 25 r104_14 (.cond (.t 92) (.reg 26 r104_15) (sR 27 r104_16 (.cond (.t 104) (sR 28 r104_17 (sR 29 r104_18 .ret)) (sR 30 r104_19 (.cond (.t 116) (.reg 31 r104_20) (sR 2 r104_21 (.seq (sR 3 r104_22 (.block 1 (.loop l104_0))) c104_2)))))))))
abbrev c104_4:AC:=(.cond (.t 68) (sR 20 r104_9 (sR 21 r104_10 (sR 22 r104_11 .ret))) (sR 23 r104_12 c104_3))
abbrev c104_5:AC:=(.cond (.t 59) (.reg 18 r104_7) (sR 19 r104_8 c104_4))
abbrev c104_6:AC:=(.cond (.t 53) (.reg 16 r104_5) (sR 17 r104_6 c104_5))
abbrev c104_7:AC:=(.cond (.t 42) (.reg 14 r104_3) (sR 15 r104_4 c104_6))
abbrev c104_8:AC:=(sR 32 r104_32 .ret)
abbrev c104_9:AC:=(.seq (.block 0 (sR 13 r104_2 c104_7)) c104_8)
abbrev c104_10:AC:=(sR 1 r104_1 c104_9)
abbrev b104:AC:=(sR 0 r104_0 c104_10)
def pf104:AF:={ nt:=121,res:=[.tmp 4],body:=b104 }
abbrev H104 (d:Nat)(st0:St)(kp:Key)(vp:Nat)(Q:AE→Sl→St→Prop)(K:Int→BS→Prop):Prop:=∀(σ:Sl)(st:St)(res0:Int)(b_:BS),σ 4=.i .i64 res0→Bl b_ st.bx st.ow kp vp→Fr d kp st0.bx st0.ow st.bx st.ow→K res0 b_→Q .ret σ st
def T104_4 (prog:Prog)(K:Int→BS→Prop)(mP:BS):Prop:=
  K 0 mP
abbrev I104_0 (prog:Prog)(d:Nat)(Q:AE→Sl→St→Prop)(st0:St)(kp:Key)(vp:Nat)(ends5:BS)(t20:List Val)(t21:Int)(t22:Int)(mP:BS):Prop:=
  ∀(σ:Sl)(st:St)(o_t20:Own),σ 0=.p kp vp 0→σ 5=.s ends5→σ 20=.sl o_t20 (List.map Val.row t20)→σ 21=.i .i64 t21→σ 22=.i .i64 t22→Bl mP st.bx st.ow kp vp→Fr d kp st0.bx st0.ow st.bx st.ow→W prog d (.loop l104_0) σ st (blockW 1 (thenW prog d c104_2 (blockW 0 (thenW prog d c104_8 Q))))
def T104_10 (prog:Prog)(K:Int→BS→Prop)(P0:Int→BS→Prop)(ends5:BS)(t20:List Val)(t21:Int)(t22:Int)(m20483:Val)(mP:BS):Prop:=
  ∃c,∃e:BS,PuX prog 104 (Bl mP) [m20483.av] (fun r=>r=.i .i64 c) ((Bl e))∧(c≠0→K c e)∧(¬(c≠0)→P0 (IntKind.i64.wrap (t22+1)) e)
def T104_11 (prog:Prog)(K:Int→BS→Prop)(ends5:BS)(mP:BS):Prop:=
  1≤ends5.length∧∃e,∃c:BS,PuX prog 126 (Bl mP) [.s (ends5.drop 1)] (fun r=>r=.tup [.i .i64 e,.ni]) ((Bl c))∧T104_4 prog K c
def T104_9 (prog:Prog)(K:Int→BS→Prop)(P0:Int→BS→Prop)(ends5:BS)(t20:List Val)(t21:Int)(t22:Int)(mP:BS):Prop:=
  (t22<t21→0≤t22∧∃c,t20[(t22).toNat]?=some c∧(t22>0→∃j,∃e:BS,PuX prog 126 (Bl mP) [.s ([44,32]:BS)] (fun r=>r=.tup [.i .i64 j,.ni]) ((Bl e))∧T104_10 prog K P0 ends5 t20 t21 t22 c e)∧(¬(t22>0)→T104_10 prog K P0 ends5 t20 t21 t22 c mP))∧(¬(t22<t21)→T104_11 prog K ends5 mP)
def T104_8 (prog:Prog)(K:Int→BS→Prop)(ends5:BS)(t82:Bool)(m0:Val)(mP:BS):Prop:=
  (t82=true→∃e,∃c:BS,PuX prog 126 (Bl mP) [.s ([38,46,46,46]:BS)] (fun r=>r=.tup [.i .i64 e,.ni]) ((Bl c))∧T104_4 prog K c)∧(t82=false→(m0.kind=4→((m0.list.length:Int)=0→∃a5,∃w:BS,PuX prog 126 (Bl mP) [.s ([110,105,108]:BS)] (fun r=>r=.tup [.i .i64 a5,.ni]) ((Bl w))∧T104_4 prog K w)∧(¬((m0.list.length:Int)=0)→(m0.kind=4→∃a7,∃a0:BS,PuX prog 126 (Bl mP) [.s ([38]:BS)] (fun r=>r=.tup [.i .i64 a7,.ni]) ((Bl a0))∧∃a1:Val,m0.list[0]?=some a1∧∃v,∃z:BS,PuX prog 104 (Bl a0) [a1.av] (fun r=>r=.i .i64 v) ((Bl z))∧K v z)∧(¬(m0.kind=4)→(m0.cut=true→∃a3,∃o:BS,PuX prog 126 (Bl mP) [.s ([60,46,46,46,62]:BS)] (fun r=>r=.tup [.i .i64 a3,.ni]) ((Bl o))∧T104_4 prog K o)∧(m0.cut=false→1≤ends5.length∧∃a6,∃x:BS,PuX prog 126 (Bl mP) [.s (ends5.take 1)] (fun r=>r=.tup [.i .i64 a6,.ni]) ((Bl x))∧∀P0:Int→BS→Prop,(∀(t22:Int)(mP:BS),T104_9 prog K P0 ends5 m0.list (m0.list.length:Int) t22 mP→P0 t22 mP)→P0 0 x))))∧(¬(m0.kind=4)→(m0.kind=4→∃a4,∃k:BS,PuX prog 126 (Bl mP) [.s ([38]:BS)] (fun r=>r=.tup [.i .i64 a4,.ni]) ((Bl k))∧∃y:Val,m0.list[0]?=some y∧∃u,∃j:BS,PuX prog 104 (Bl k) [y.av] (fun r=>r=.i .i64 u) ((Bl j))∧K u j)∧(¬(m0.kind=4)→(m0.cut=true→∃a2,∃q:BS,PuX prog 126 (Bl mP) [.s ([60,46,46,46,62]:BS)] (fun r=>r=.tup [.i .i64 a2,.ni]) ((Bl q))∧T104_4 prog K q)∧(m0.cut=false→1≤ends5.length∧∃a8,∃p:BS,PuX prog 126 (Bl mP) [.s (ends5.take 1)] (fun r=>r=.tup [.i .i64 a8,.ni]) ((Bl p))∧∀P0:Int→BS→Prop,(∀(t22:Int)(mP:BS),T104_9 prog K P0 ends5 m0.list (m0.list.length:Int) t22 mP→P0 t22 mP)→P0 0 p))))
def T104_7 (prog:Prog)(K:Int→BS→Prop)(ends5:BS)(t68:Bool)(m0:Val)(mP:BS):Prop:=
  (t68=true→∃c j,Pus prog 11 [.s m0.text] (.tup [.s c,.i .i64 j])∧∃k,∃e:BS,PuX prog 126 (Bl mP) [.s c] (fun r=>r=.tup [.i .i64 k,.ni]) ((Bl e))∧K j e)∧(t68=false→(m0.kind=4→T104_8 prog K ends5 m0.cut m0 mP)∧(¬(m0.kind=4)→T104_8 prog K ends5 false m0 mP))
def T104_6 (prog:Prog)(K:Int→BS→Prop)(ends5:BS)(t59:Bool)(m0:Val)(mP:BS):Prop:=
  (t59=true→∃c,Pus prog 15 [.i .i64 m0.int] (.s c)∧∃j,∃e:BS,PuX prog 126 (Bl mP) [.s c] (fun r=>r=.tup [.i .i64 j,.ni]) ((Bl e))∧T104_4 prog K e)∧(t59=false→T104_7 prog K ends5 (decide (m0.kind=3)) m0 mP)
def T104_5 (prog:Prog)(K:Int→BS→Prop)(ends5:BS)(t53:Bool)(m0:Val)(mP:BS):Prop:=
  (t53=true→∃e,∃c:BS,PuX prog 126 (Bl mP) [.s ([102,97,108,115,101]:BS)] (fun r=>r=.tup [.i .i64 e,.ni]) ((Bl c))∧T104_4 prog K c)∧(t53=false→T104_6 prog K ends5 (decide (m0.kind=2)) m0 mP)
def T104_3 (prog:Prog)(K:Int→BS→Prop)(ends5:BS)(t42:Bool)(m0:Val)(mP:BS):Prop:=
  (t42=true→∃e,∃c:BS,PuX prog 126 (Bl mP) [.s ([116,114,117,101]:BS)] (fun r=>r=.tup [.i .i64 e,.ni]) ((Bl c))∧T104_4 prog K c)∧(t42=false→T104_5 prog K ends5 (decide (m0.kind=1)) m0 mP)
def T104_2 (prog:Prog)(K:Int→BS→Prop)(ends5:BS)(m0:Val)(mP:BS):Prop:=
  (m0.kind=1→T104_3 prog K ends5 (decide (m0.int=1)) m0 mP)∧(¬(m0.kind=1)→T104_3 prog K ends5 false m0 mP)
def T104_1 (prog:Prog)(K:Int→BS→Prop)(m0:Val)(mP:BS):Prop:=
  0≤m0.kind∧∃c,([[],[],[],[],[],([123,125]:BS),([91,93]:BS),([60,62]:BS)]:LB)[(m0.kind).toNat]?=some c∧T104_2 prog K c m0 mP
def T104_0 (prog:Prog)(K:Int→BS→Prop)(v1:Val)(mP:BS):Prop:=
  T104_1 prog K v1 mP
section
variable {prog:Prog}{d:Nat}{Q:AE→Sl→St→Prop}{K:Int→BS→Prop}{st0:St}{kp:Key}{vp:Nat}(hQ:H104 d st0 kp vp Q K)(hkp:kp.1<d){σ:Sl}{st:St}
include hQ hkp
variable {mP ends5:BS}{t20:List Val}{t21 t22:Int}{m20483:Val}{P0:Int→BS→Prop}{o_t20:Own}{v20483:Nat}{t82:Bool}{m0:Val}{v0:Nat}{t68 t59 t53 t42:Bool}{v1:Val}
variable (kP0 :∀(t22:Int)(mP:BS),P0 t22 mP→I104_0 prog d Q st0 kp vp ends5 t20 t21 t22 mP)(H0:σ 0=.p kp vp 0)(H3:σ 3=.p (d,0) v0 0)(H1:σ 1=v1.av)(H5:σ 5=.s ends5)(H9:σ 9=.p (d,20483) v20483 0)(H82:σ 82=.b t82)(H68:σ 68=.b t68)(H59:σ 59=.b t59)(H53:σ 53=.b t53)(H42:σ 42=.b t42)(H20:σ 20=.sl o_t20 (List.map Val.row t20))(B0:lk st.bx (d,0)=some (v0,Val.cs m0))(H21:σ 21=.i .i64 t21)(H22:σ 22=.i .i64 t22)(B20483:lk st.bx (d,20483)=some (v20483,Val.cs m20483))(BP:Bl mP st.bx st.ow kp vp)(FR:Fr d kp st0.bx st0.ow st.bx st.ow)
include BP FR in
theorem w104_4 (h:T104_4 prog K mP):W prog d c104_8 σ st Q:=
 au trivial
include kP0 H0 H5 H9 H20 H21 H22 B20483 BP FR in
theorem w104_10 (h:T104_10 prog K P0 ends5 t20 t21 t22 m20483 mP):W prog d c104_0 σ st (blockW 2 (thenW prog d (.reg 11 r104_30) (thenW prog d (.loop l104_0) (blockW 1 (thenW prog d c104_2 (blockW 0 (thenW prog d c104_8 Q))))))):=
 q_ J (m_ (l_ H9 B20483 J J (h.elim fun _ k=>k.elim fun _ c=>cX_ (sec H0 (sec J sen)) c.1 (Nat.lt_succ_of_lt hkp) BP (fun _ i j=>m_ (e_ (q_ J (m_ (b_ J J neq_ (e_ (cs_ J (fun e=>q_ J (m_ (m_ (er_ (hQ _ _ _ _ J i (Fr.pass FR j) (c.2.1 e)))))) (fun e=>sk_ (W.reg0 J fun _ _=>b_ H22 J add_ (m_ (e_ (kP0 _ _ (c.2.2 e) _ _ _ H0 H5 H20 H21 J i (Fr.pass FR j))))))))))))))))
include H0 H5 BP FR in
theorem w104_11 (h:T104_11 prog K ends5 mP):W prog d c104_2 σ st (blockW 0 (thenW prog d c104_8 Q)):=
 W.reg0 J fun _ _=>m_ (m_ (s_slS_lo H5 J (by decide) h.1 (h.2.elim fun _ e=>e.elim fun _ c=>cX_ (sec H0 (sec J sen)) c.1 (Nat.lt_succ_of_lt hkp) BP (fun _ i j=>e_ (w104_4 hQ hkp i (Fr.pass FR j) c.2)))))
include kP0 H0 H5 H20 H21 H22 BP FR in
theorem w104_9 (h:T104_9 prog K P0 ends5 t20 t21 t22 mP):W prog d l104_0 σ st (thenW prog d (.loop l104_0) (blockW 1 (thenW prog d c104_2 (blockW 0 (thenW prog d c104_8 Q))))):=
 q_ J (b_ H22 H21 lss_ (e_ (sq_ (cs_ J (fun c=>sk_ (sq_ (bk_ (sq_ (W.reg (m_ ((h.1 c).2.elim fun p e=>ia_ H20 H22 (h.1 c).1 e.1 (Val.row_eq p) J (lf_ J J J (s_alloc (m_ (so_ J (show lk _ (d,20483)=some (_,([.i .u8 0,.i .i64 0,.s [],.sl .full (List.map Val.row ([]:List Val)),.b false]:List AV)) from lk_here) J J J (e_ (sq_ (q_ J (m_ (b_ H22 J gtr_ (e_ (cs_ J (fun j=>W.reg0 J fun _ _=>m_ ((e.2.1 j).elim fun _ q=>q.elim fun _ k=>cX_ (sec H0 (sec J sen)) k.1 (Nat.lt_succ_of_lt hkp) (Bl.other (key_LP hkp) (Bl.other (key_LP hkp) BP)) (fun _ r o=>e_ (w104_10 hQ hkp kP0 H0 H5 J H20 H21 H22 ((o.1 (d,20483) (Nat.lt_succ_self d) (key_LP hkp)).trans lk_here) r (Fr.pass (Fr.box (Fr.box FR)) o) k.2)))) (fun j=>sk_ (w104_10 hQ hkp kP0 H0 H5 J H20 H21 H22 lk_here (Bl.other (key_LP hkp) (Bl.other (key_LP hkp) BP)) (Fr.box (Fr.box FR)) (e.2.2 j))))))))))))))))))))) (fun c=>ex_ (w104_11 hQ hkp H0 H5 BP FR (h.2 c)))))))
include H0 H3 H5 H82 B0 BP FR in
theorem w104_8 (h:T104_8 prog K ends5 t82 m0 mP):W prog d c104_3 σ st (blockW 0 (thenW prog d c104_8 Q)):=
 cb_ H82 (fun c=>W.reg0 J fun _ _=>m_ ((h.1 c).elim fun _ b8=>b8.elim fun _ v=>cX_ (sec H0 (sec J sen)) v.1 (Nat.lt_succ_of_lt hkp) BP (fun _ c5 d4=>e_ (w104_4 hQ hkp c5 (Fr.pass FR d4) v.2)))) (fun c=>q_ J (f_ H3 (l_ J B0 J J (b_ J J eql_ (s_mvB J (em_ (g:=96) J (fun e=>gy_ J (f_ H3 (gy_ J (l_ J B0 J J (gy_ J (ll_ J (gy_ J (b_ J J eql_ (z_ 2 J (e_ (cs_ J (fun i=>W.reg0 J fun _ _=>m_ ((((h.2 c).1 e).1 i).elim fun _ b0=>b0.elim fun _ q=>cX_ (sec H0 (sec J sen)) q.1 (Nat.lt_succ_of_lt hkp) BP (fun _ c0 d1=>e_ (w104_4 hQ hkp c0 (Fr.pass FR d1) q.2)))) (fun i=>q_ J (f_ H3 (l_ J B0 J J (b_ J J eql_ (m_ (e_ (cs_ J (fun j=>q_ J (m_ (((((h.2 c).1 e).2 i).1 j).elim fun _ b2=>b2.elim fun _ r=>cX_ (sec H0 (sec J sen)) r.1 (Nat.lt_succ_of_lt hkp) BP (fun _ c1 a4=>e_ (q_ J (m_ (f_ H3 (l_ J ((a4.1 (d,0) (Nat.lt_succ_self d) (key_LP hkp)).trans B0) J J (r.2.elim fun a8 s=>ia_ J J (by decide) s.1 (Val.row_eq a8) J (lf_ J J J (s.2.elim fun _ b1=>b1.elim fun _ u=>cX_ (sec H0 (sec J sen)) u.1 (Nat.lt_succ_of_lt hkp) c1 (fun _ c2 d2=>m_ (er_ (hQ _ _ _ _ J c2 (Fr.pass (Fr.pass FR a4) d2) u.2)))))))))))))) (fun j=>q_ J (f_ H3 (l_ J B0 J J (m_ (e_ (cb_ J (fun o=>W.reg0 J fun _ _=>m_ ((((((h.2 c).1 e).2 i).2 j).1 o).elim fun _ b3=>b3.elim fun _ w=>cX_ (sec H0 (sec J sen)) w.1 (Nat.lt_succ_of_lt hkp) BP (fun _ c3 d3=>e_ (w104_4 hQ hkp c3 (Fr.pass FR d3) w.2)))) (fun o=>q_ J (m_ (m_ (s_slS_hi H5 J (by decide) (((((h.2 c).1 e).2 i).2 j).2 o).1 ((((((h.2 c).1 e).2 i).2 j).2 o).2.elim fun _ b4=>b4.elim fun _ y=>cX_ (sec H0 (sec J sen)) y.1 (Nat.lt_succ_of_lt hkp) BP (fun _ c4 a5=>e_ (sq_ (q_ J (f_ H3 (l_ J ((a5.1 (d,0) (Nat.lt_succ_self d) (key_LP hkp)).trans B0) J J (ll_ J (m_ (e_ (bk_ (y.2 (I104_0 prog d Q st0 kp vp ends5 m0.list (m0.list.length:Int)) (fun _ _ hb _ _ _ H0 H5 H20 H21 H22 BP FR=>W.loop (w104_9 hQ hkp (fun _ _ x=>x) H0 H5 H20 H21 H22 BP FR hb)) _ _ _ H0 H5 J J J c4 (Fr.pass FR a5)))))))))))))))))))))))))))))))))))))))) (fun e=>z_ 6 J (e_ (cf_ J (q_ J (f_ H3 (l_ J B0 J J (b_ J J eql_ (m_ (e_ (cs_ J (fun k=>q_ J (m_ ((((h.2 c).2 e).1 k).elim fun _ b6=>b6.elim fun _ z=>cX_ (sec H0 (sec J sen)) z.1 (Nat.lt_succ_of_lt hkp) BP (fun _ c6 a6=>e_ (q_ J (m_ (f_ H3 (l_ J ((a6.1 (d,0) (Nat.lt_succ_self d) (key_LP hkp)).trans B0) J J (z.2.elim fun a9 a0=>ia_ J J (by decide) a0.1 (Val.row_eq a9) J (lf_ J J J (a0.2.elim fun _ b5=>b5.elim fun _ a1=>cX_ (sec H0 (sec J sen)) a1.1 (Nat.lt_succ_of_lt hkp) c6 (fun _ c7 d5=>m_ (er_ (hQ _ _ _ _ J c7 (Fr.pass (Fr.pass FR a6) d5) a1.2)))))))))))))) (fun k=>q_ J (f_ H3 (l_ J B0 J J (m_ (e_ (cb_ J (fun p=>W.reg0 J fun _ _=>m_ (((((h.2 c).2 e).2 k).1 p).elim fun _ b7=>b7.elim fun _ a2=>cX_ (sec H0 (sec J sen)) a2.1 (Nat.lt_succ_of_lt hkp) BP (fun _ c9 d6=>e_ (w104_4 hQ hkp c9 (Fr.pass FR d6) a2.2)))) (fun p=>q_ J (m_ (m_ (s_slS_hi H5 J (by decide) ((((h.2 c).2 e).2 k).2 p).1 (((((h.2 c).2 e).2 k).2 p).2.elim fun _ b9=>b9.elim fun _ a3=>cX_ (sec H0 (sec J sen)) a3.1 (Nat.lt_succ_of_lt hkp) BP (fun _ d0 a7=>e_ (sq_ (q_ J (f_ H3 (l_ J ((a7.1 (d,0) (Nat.lt_succ_self d) (key_LP hkp)).trans B0) J J (ll_ J (m_ (e_ (bk_ (a3.2 (I104_0 prog d Q st0 kp vp ends5 m0.list (m0.list.length:Int)) (fun _ _ hb _ _ _ H0 H5 H20 H21 H22 BP FR=>W.loop (w104_9 hQ hkp (fun _ _ x=>x) H0 H5 H20 H21 H22 BP FR hb)) _ _ _ H0 H5 J J J d0 (Fr.pass FR a7))))))))))))))))))))))))))))))))))))))
include H0 H3 H5 H68 B0 BP FR in
theorem w104_7 (h:T104_7 prog K ends5 t68 m0 mP):W prog d c104_4 σ st (blockW 0 (thenW prog d c104_8 Q)):=
 cb_ H68 (fun c=>q_ J (f_ H3 (l_ J B0 J J (x2 (h.1 c) fun _ _ i=>ca_ (sc1 J J) i.1 (m_ (x_ J J (x_ J J (m_ (m_ (e_ (q_ J (m_ (m_ (i.2.elim fun _ k=>k.elim fun _ j=>cX_ (sec H0 (sec J sen)) j.1 (Nat.lt_succ_of_lt hkp) BP (fun _ o p=>e_ (q_ J (m_ (m_ (er_ (hQ _ _ _ _ J o (Fr.pass FR p) j.2)))))))))))))))))))) (fun c=>q_ J (f_ H3 (l_ J B0 J J (b_ J J eql_ (s_mvB J (em_ (g:=86) J (fun e=>gy_ J (f_ H3 (gy_ J (l_ J B0 J J (z_ 2 J (e_ (w104_8 hQ hkp H0 H3 H5 J B0 BP FR ((h.2 c).1 e)))))))) (fun e=>z_ 4 J (e_ (w104_8 hQ hkp H0 H3 H5 J B0 BP FR ((h.2 c).2 e))))))))))
include H0 H3 H5 H59 B0 BP FR in
theorem w104_6 (h:T104_6 prog K ends5 t59 m0 mP):W prog d c104_5 σ st (blockW 0 (thenW prog d c104_8 Q)):=
 cb_ H59 (fun c=>W.reg0 J fun _ _=>m_ (f_ H3 (l_ J B0 J J ((h.1 c).elim fun _ e=>ca_ (sc1 J J) e.1 (e.2.elim fun _ j=>j.elim fun _ i=>cX_ (sec H0 (sec J sen)) i.1 (Nat.lt_succ_of_lt hkp) BP (fun _ k o=>e_ (w104_4 hQ hkp k (Fr.pass FR o) i.2))))))) (fun c=>q_ J (f_ H3 (l_ J B0 J J (b_ J J eql_ (m_ (e_ (w104_7 hQ hkp H0 H3 H5 J B0 BP FR (h.2 c))))))))
include H0 H3 H5 H53 B0 BP FR in
theorem w104_5 (h:T104_5 prog K ends5 t53 m0 mP):W prog d c104_6 σ st (blockW 0 (thenW prog d c104_8 Q)):=
 cb_ H53 (fun c=>W.reg0 J fun _ _=>m_ ((h.1 c).elim fun _ i=>i.elim fun _ e=>cX_ (sec H0 (sec J sen)) e.1 (Nat.lt_succ_of_lt hkp) BP (fun _ j k=>e_ (w104_4 hQ hkp j (Fr.pass FR k) e.2)))) (fun c=>q_ J (f_ H3 (l_ J B0 J J (b_ J J eql_ (m_ (e_ (w104_6 hQ hkp H0 H3 H5 J B0 BP FR (h.2 c))))))))
include H0 H3 H5 H42 B0 BP FR in
theorem w104_3 (h:T104_3 prog K ends5 t42 m0 mP):W prog d c104_7 σ st (blockW 0 (thenW prog d c104_8 Q)):=
 cb_ H42 (fun c=>W.reg0 J fun _ _=>m_ ((h.1 c).elim fun _ i=>i.elim fun _ e=>cX_ (sec H0 (sec J sen)) e.1 (Nat.lt_succ_of_lt hkp) BP (fun _ j k=>e_ (w104_4 hQ hkp j (Fr.pass FR k) e.2)))) (fun c=>q_ J (f_ H3 (l_ J B0 J J (b_ J J eql_ (m_ (e_ (w104_5 hQ hkp H0 H3 H5 J B0 BP FR (h.2 c))))))))
include H0 H3 H5 B0 BP FR in
theorem w104_2 (h:T104_2 prog K ends5 m0 mP):W prog d c104_9 σ st Q:=
 sq_ (bk_ (q_ J (f_ H3 (l_ J B0 J J (b_ J J eql_ (s_mvB J (em_ (g:=46) J (fun c=>gy_ J (f_ H3 (gy_ J (l_ J B0 J J (gy_ J (b_ J J eql_ (z_ 2 J (e_ (w104_3 hQ hkp H0 H3 H5 J B0 BP FR (h.1 c)))))))))) (fun c=>z_ 5 J (e_ (w104_3 hQ hkp H0 H3 H5 J B0 BP FR (h.2 c)))))))))))
include H0 H3 B0 BP FR in
theorem w104_1 (h:T104_1 prog K m0 mP):W prog d c104_10 σ st Q:=
 q_ J (s_buildM (f:=AV.s) (l:=[[],[],[],[],[],([123,125]:BS),([91,93]:BS),([60,62]:BS)]) (f_cons J J (f_cons J J (f_cons J J f_nil))) J (f_ H3 (l_ J B0 J J (h.2.elim fun _ c=>s_ixA (f:=AV.s) J J J h.1 c.1 (m_ (e_ (w104_2 hQ hkp H0 H3 J B0 BP FR c.2)))))))
include H0 H1 BP FR in
theorem w104_0 (h:T104_0 prog K v1 mP):W prog d (sR 0 r104_0 c104_10) σ st Q:=
 q_ J (s_box H1 J (m_ (e_ (w104_1 hQ hkp H0 J lk_here (Bl.other (key_LP hkp) BP) (Fr.box FR) h))))
end
theorem p104 {prog:Prog}(hf:prog.fn 104=some pf104){v1:Val}{mP:BS}{K:Int→BS→Prop}(h:T104_0 prog K v1 mP):PuXK prog 104 (Bl mP) [v1.av] (fun r (b_:BS)=>∃res0:Int,(r=.i .i64 res0)∧K res0 b_) (fun b_=>(Bl b_)):=
  PuXK.of hf rfl (fun _=>Bl.out) fun d st kp vp hkp hB=>w104_0 (st0:=st) (Q:=fun e σ st'=>(e=.normal∨e=.ret)∧∃r b_,ares σ st' pf104.res=some r∧_∧_∧Fr d kp st.bx st.ow st'.bx st'.ow) (fun σ st'   res0 b_ H4 hb hf hk=>⟨.inr rfl,.i .i64 res0,b_,by simp only [pf104,ares,aresL,H4,ares1,Option.map_some,H4],⟨res0,rfl,hk⟩,hb,hf⟩) hkp (σ:=sl0 [.p kp vp 0,v1.av]) rfl rfl hB Fr.refl h
abbrev H106 (Q:AE→Sl→St→Prop)(K:BS→Prop):Prop:=∀(σ:Sl)(st:St)(res0:BS),σ 2=.s res0→K res0→Q .ret σ st
section
variable {prog:Prog}{d:Nat}{Q:AE→Sl→St→Prop}{K:BS→Prop}(hQ:H106 Q K){σ:Sl}{st:St}
include hQ
end
def r109_0:List AI:=[oY 2 5 0,oI 4 0,oC 5 (.b false)]
def r109_1:List AI:=[oF 15 0 2,oL 16 15,oO 17 (.build [z8,z6,zs,zl,zb] [(0,1,(.t 16))]),oO 6 (.alloc [z8,z6,zs,zl,zb]),oS 5 6 17,oI 7 0,oI 8 0]
def r109_2:List AI:=[oF 18 0 2,oL 19 18]
def r109_3:List AI:=[oW 21 .eql 19 1,oM 20 21]
def r109_4:List AI:=[oF 22 1 2,oL 23 22,oV 24 .and 23 1,oF 25 1 6,oS 1 25 24]
def r109_5:List AI:=[oW 27 .eql 19 2,oM 26 27]
def r109_6:List AI:=[oF 28 1 2,oL 29 28,oF 30 1 6,oS 1 30 29]
def r109_7:List AI:=[oW 32 .eql 19 3,oM 31 32]
def r109_8:List AI:=[oF 33 2 2,oL 34 33,oF 35 2 6,oS 1 35 34]
def r109_9:List AI:=[oW 37 .eql 19 4,oM 36 37]
def r109_10:List AI:=[oF 38 4 2,oL 39 38,oF 40 4 6,oS 1 40 39,oI 7 1]
def r109_11:List AI:=[oW 42 .eql 19 5,oM 41 42]
def r109_12:List AI:=[oI 7 8]
def r109_13:List AI:=[oW 44 .eql 19 6,oM 43 44]
def r109_14:List AI:=[oI 7 16,oI 8 1]
def r109_15:List AI:=[oW 46 .eql 19 7,oM 45 46]
def r109_16:List AI:=[oF 47 4 2,oL 48 47,oF 49 4 6,oS 1 49 48,oI 7 16]
def r109_17:List AI:=[oI 4 0,oC 5 (.b false)]
def r109_18:List AI:=[oF 50 3 2,oL 51 50,oJ 52 51,oM 9 52]
def r109_19:List AI:=[oM 53 1,oV 54 .eql 53 0,oM 55 54,gF 55 (oF 56 1 6),gF 55 (oL 57 56),gF 55 (oF 58 1 2),gF 55 (oL 59 58),gF 55 (oT 60 .neq 57 59),oR 61 55 60,oM 62 61,gF 62 (oF 63 2 6),gF 62 (oL 64 63),gF 62 (oF 65 2 2),gF 62 (oL 66 65),gF 62 (oT 67 .neq 64 66),oR 68 62 67,oM 69 68,gF 69 (oF 70 2 2),gF 69 (oL 71 70),gF 69 (oH 72 71),gF 69 (oV 73 .gtr 72 64),oR 74 69 73,oM 75 74,gF 75 (oF 76 4 6),gF 75 (oL 77 76),gF 75 (oF 78 4 2),gF 75 (oL 79 78),gF 75 (oO 80 (.beq true (.t 77) (.t 79))),oR 81 75 80,oM 82 81,gF 82 (oF 83 4 2),gF 82 (oL 84 83),gF 82 (oM 85 84),gT 85 (oM 86 9),gT 85 (oV 87 .gtr 86 0),gF 82 (oA 88 85 87),oR 89 82 88,oM 90 89,gF 90 (oM 91 9),gF 90 (oM 92 7),gF 90 (oT 93 .gtr 91 92),oR 94 90 93,oM 95 94,gF 95 (oM 96 9),gF 95 (oM 97 8),gF 95 (oT 98 .lss 96 97),oR 99 95 98]
def r109_20:List AI:=[oI 4 0,oC 5 (.b false)]
def r109_21:List AI:=[oI 10 1]
def r109_22:List AI:=[oF 100 3 2,oL 101 100,oJ 102 101,oI 103 0]
def r109_23:List AI:=[oT 104 .lss 103 102]
def r109_24:List AI:=[oX 105 5 101 103,oK 106 5 105,oO 12 (.alloc [z8,z6,zs,zl,zb]),oS 5 12 106]
def r109_25:List AI:=[oK 108 5 12,oM 109 1,oV 110 .sub 109 1,oQ 111 109 [108,110],oM 107 111,oE 112 0 107,oE 113 1 107,oM 13 112,oM 14 113]
def r109_26:List AI:=[oM 114 10,oM 115 13,oT 116 .add 114 115,oM 10 116]
def r109_27:List AI:=[oM 117 14,oZ 118 117,oM 119 118,gF 119 (oM 120 10),gF 119 (oV 121 .gtr 120 5000),oR 122 119 121]
def r109_28:List AI:=[oI 4 0,oC 5 (.b false)]
def r109_29:List AI:=[oV 123 .add 103 1,oM 103 123]
def r109_30:List AI:=[oM 124 10,oM 4 124,oC 5 (.b true)]
abbrev l109_0:AC:=(sR 23 r109_23 (.seq (.cond (.t 104) .skip (.exit 1)) (.seq (.block 2 (sR 24 r109_24 (sR 25 r109_25 (sR 26 r109_26 (sR 27 r109_27 (.cond (.t 122) (sR 28 r109_28 .ret) .skip)))))) (.reg 29 r109_29))))
abbrev c109_1:AC:=(sR 30 r109_30 .ret)
abbrev c109_2:AC:=(.seq (sR 19 r109_19 (.cond (.t 99) (sR 20 r109_20 .ret) .skip)) (sR 21 r109_21 (.seq (sR 22 r109_22 (.block 1 (.loop l109_0))) c109_1)))
abbrev c109_3:AC:=(sR 18 r109_18 c109_2)
abbrev c109_4:AC:=(.seq (sR 2 r109_2 (.block 0 (sR 4 r109_3 (.cond (.t 20) (.reg 5 r109_4) (sR 6 r109_5 (.cond (.t 26) (.reg 7 r109_6) (sR 8 r109_7 (.cond (.t 31) (.reg 9 r109_8) (sR 10 r109_9 (.cond (.t 36) (.reg 11 r109_10) (sR 12 r109_11 (.cond (.t 41) (.reg 13 r109_12) (sR 14 r109_13 (.cond (.t 43) (.reg 15 r109_14) (sR 16 r109_15 (.cond (.t 45) (.reg 17 r109_16) (sR 3 r109_17 .ret))))))))))))))))) c109_3)
abbrev c109_5:AC:=(sR 1 r109_1 c109_4)
abbrev b109:AC:=(sR 0 r109_0 c109_5)
def pf109:AF:={ nt:=125,res:=[.tmp 4,.tmp 5],body:=b109 }
abbrev I109_0 (prog:Prog)(d:Nat)(Q:AE→Sl→St→Prop)(nest1:Int)(t101:List Val)(t102:Int)(sum10:Int)(t103:Int):Prop:=
  ∀(σ:Sl)(st:St)(o_t101:Own),σ 1=.i .i64 nest1→σ 10=.i .i64 sum10→σ 101=.sl o_t101 (List.map Val.row t101)→σ 102=.i .i64 t102→σ 103=.i .i64 t103→W prog d (.loop l109_0) σ st (blockW 1 (thenW prog d c109_1 Q))
def T109_6 (prog:Prog)(K:Int→Bool→Prop)(sum10:Int):Prop:=
  K sum10 true
def T109_5 (prog:Prog)(K:Int→Bool→Prop)(P0:Int→Int→Prop)(nest1:Int)(sum10:Int)(t101:List Val)(t102:Int)(t103:Int):Prop:=
  (t103<t102→0≤t103∧∃j:Val,t101[(t103).toNat]?=some j∧∃c e,Pus prog 109 [j.av,.i .i64 (IntKind.i64.wrap (nest1-1))] (.tup [.i .i64 c,.b e])∧((!e)=true→K 0 false)∧((!e)=false→((IntKind.i64.wrap (sum10+c))>5000→K 0 false)∧(¬((IntKind.i64.wrap (sum10+c))>5000)→P0 (IntKind.i64.wrap (sum10+c)) (IntKind.i64.wrap (t103+1)))))∧(¬(t103<t102)→T109_6 prog K sum10)
def T109_4 (prog:Prog)(K:Int→Bool→Prop)(nest1:Int)(most7:Int)(least8:Int)(n9:Int)(m0:Val)(m4099:Val):Prop:=
  (nest1=0→K 0 false)∧(¬(nest1=0)→(m4099.int≠m0.int→K 0 false)∧(¬(m4099.int≠m0.int)→(m4099.text≠m0.text→K 0 false)∧(¬(m4099.text≠m0.text)→((m0.text.length:Int)>64→K 0 false)∧(¬((m0.text.length:Int)>64)→(m4099.cut≠m0.cut→K 0 false)∧(¬(m4099.cut≠m0.cut)→(m0.cut=true→(n9>0→K 0 false)∧(¬(n9>0)→(n9>most7→K 0 false)∧(¬(n9>most7)→(n9<least8→K 0 false)∧(¬(n9<least8)→∀P0:Int→Int→Prop,(∀(sum10:Int)(t103:Int),T109_5 prog K P0 nest1 sum10 m0.list (m0.list.length:Int) t103→P0 sum10 t103)→P0 1 0))))∧(m0.cut=false→(n9>most7→K 0 false)∧(¬(n9>most7)→(n9<least8→K 0 false)∧(¬(n9<least8)→∀P0:Int→Int→Prop,(∀(sum10:Int)(t103:Int),T109_5 prog K P0 nest1 sum10 m0.list (m0.list.length:Int) t103→P0 sum10 t103)→P0 1 0))))))))
def T109_3 (prog:Prog)(K:Int→Bool→Prop)(nest1:Int)(most7:Int)(least8:Int)(m0:Val)(m4099:Val):Prop:=
  T109_4 prog K nest1 most7 least8 (m0.list.length:Int) m0 m4099
def T109_2 (prog:Prog)(K:Int→Bool→Prop)(nest1:Int)(most7:Int)(least8:Int)(m0:Val)(m4099:Val):Prop:=
  (m0.kind=1→T109_3 prog K nest1 most7 least8 m0 (Val.mk m4099.kind (bAnd .i64 m0.int 1) m4099.text m4099.list m4099.cut))∧(¬(m0.kind=1)→(m0.kind=2→T109_3 prog K nest1 most7 least8 m0 (Val.mk m4099.kind m0.int m4099.text m4099.list m4099.cut))∧(¬(m0.kind=2)→(m0.kind=3→T109_3 prog K nest1 most7 least8 m0 (Val.mk m4099.kind m4099.int m0.text m4099.list m4099.cut))∧(¬(m0.kind=3)→(m0.kind=4→T109_3 prog K nest1 1 least8 m0 (Val.mk m4099.kind m4099.int m4099.text m4099.list m0.cut))∧(¬(m0.kind=4)→(m0.kind=5→T109_3 prog K nest1 8 least8 m0 m4099)∧(¬(m0.kind=5)→(m0.kind=6→T109_3 prog K nest1 16 1 m0 m4099)∧(¬(m0.kind=6)→(m0.kind=7→T109_3 prog K nest1 16 least8 m0 (Val.mk m4099.kind m4099.int m4099.text m4099.list m0.cut))∧(¬(m0.kind=7)→K 0 false)))))))
def T109_1 (prog:Prog)(K:Int→Bool→Prop)(nest1:Int)(m0:Val):Prop:=
  T109_2 prog K nest1 0 0 m0 (Val.mk m0.kind 0 [] ([]:List Val) false)
def T109_0 (prog:Prog)(K:Int→Bool→Prop)(v0:Val)(nest1:Int):Prop:=
  T109_1 prog K nest1 v0
section
variable {prog:Prog}{d:Nat}{Q:AE→Sl→St→Prop}{K:Int→Bool→Prop}(hQ:H2 (AV.i .i64) AV.b 4 5 Q K){σ:Sl}{st:St}
include hQ
variable {sum10 nest1:Int}{t101:List Val}{t102 t103:Int}{P0:Int→Int→Prop}{o_t101:Own}{most7 least8 n9:Int}{m0 m4099:Val}{o_m4099_3:Own}{v0 v4099:Nat}
variable (kP0 :∀(sum10:Int)(t103:Int),P0 sum10 t103→I109_0 prog d Q nest1 t101 t102 sum10 t103)(H1:σ 1=.i .i64 nest1)(H10:σ 10=.i .i64 sum10)(H2:σ 2=.p (d,0) v0 0)(H101:σ 101=.sl o_t101 (List.map Val.row t101))(H6:σ 6=.p (d,4099) v4099 0)(H102:σ 102=.i .i64 t102)(H7:σ 7=.i .i64 most7)(H103:σ 103=.i .i64 t103)(H8:σ 8=.i .i64 least8)(H9:σ 9=.i .i64 n9)(Ab4099:ApM d st.ow o_m4099_3 m4099.list.length)(B0:lk st.bx (d,0)=some (v0,Val.cs m0))(B4099:lk st.bx (d,4099)=some (v4099,[.i .u8 m4099.kind,.i .i64 m4099.int,.s m4099.text,.sl o_m4099_3 (List.map Val.row m4099.list),.b m4099.cut]))
include H10 in
theorem w109_6 (h:T109_6 prog K sum10):W prog d c109_1 σ st Q:=
 au trivial
include kP0 H1 H10 H101 H102 H103 in
theorem w109_5 (h:T109_5 prog K P0 nest1 sum10 t101 t102 t103):W prog d l109_0 σ st (thenW prog d (.loop l109_0) (blockW 1 (thenW prog d c109_1 Q))):=
 au @w109_6
include H1 H2 H6 H7 H8 H9 Ab4099 B0 B4099 in
theorem w109_4 (h:T109_4 prog K nest1 most7 least8 n9 m0 m4099):W prog d c109_2 σ st Q:=
 sq_ (q_ J (s_mvI H1 (b_ J J eql_ (s_mvB J (em_ (g:=55) J (fun c=>z_ 30 J (gt_ J (gt_ J (z_ 12 J (e_ (ct_ J (q_ J (m_ (m_ (er_ (hQ J J (h.1 c)))))))))))) (fun c=>gy_ J (f_ H6 (gy_ J (l_ J B4099 J J (gy_ J (f_ H2 (gy_ J (l_ J B0 J J (gy_ J (b_ J J neq_ (z_ 2 J (em_ (g:=62) J (fun e=>z_ 23 J (gt_ J (gt_ J (z_ 12 J (e_ (ct_ J (q_ J (m_ (m_ (er_ (hQ J J ((h.2 c).1 e)))))))))))) (fun e=>gy_ J (f_ H6 (gy_ J (l_ J B4099 J J (gy_ J (f_ H2 (gy_ J (l_ J B0 J J (gy_ J (b_ J J sne_ (z_ 2 J (em_ (g:=69) J (fun i=>z_ 16 J (gt_ J (gt_ J (z_ 12 J (e_ (ct_ J (q_ J (m_ (m_ (er_ (hQ J J (((h.2 c).2 e).1 i)))))))))))) (fun i=>gy_ J (f_ H2 (gy_ J (l_ J B0 J J (gy_ J (ln_ J (gy_ J (b_ J J gtr_ (z_ 2 J (em_ (g:=75) J (fun j=>z_ 10 J (gt_ J (gt_ J (z_ 12 J (e_ (ct_ J (q_ J (m_ (m_ (er_ (hQ J J ((((h.2 c).2 e).2 i).1 j)))))))))))) (fun j=>gy_ J (f_ H6 (gy_ J (l_ J B4099 J J (gy_ J (f_ H2 (gy_ J (l_ J B0 J J (gy_ J (s_bne J J (z_ 2 J (em_ (g:=82) J (fun k=>z_ 3 J (gt_ J (gt_ J (z_ 12 J (e_ (ct_ J (q_ J (m_ (m_ (er_ (hQ J J (((((h.2 c).2 e).2 i).2 j).1 k)))))))))))) (fun k=>gy_ J (f_ H2 (gy_ J (l_ J B0 J J (gy_ J (s_mvB J (eb_ (g:=85) J (fun o=>gy_ J (s_mvI H9 (gy_ J (b_ J J gtr_ (gy_ J (z_ 3 J (em_ (g:=90) J (fun p=>z_ 9 J (e_ (ct_ J (q_ J (m_ (m_ (er_ (hQ J J (((((((h.2 c).2 e).2 i).2 j).2 k).1 o).1 p))))))))) (fun p=>gy_ J (s_mvI H9 (gy_ J (s_mvI H7 (gy_ J (b_ J J gtr_ (z_ 2 J (em_ (g:=95) J (fun r=>z_ 4 J (e_ (ct_ J (q_ J (m_ (m_ (er_ (hQ J J ((((((((h.2 c).2 e).2 i).2 j).2 k).1 o).2 p).1 r))))))))) (fun r=>gy_ J (s_mvI H9 (gy_ J (s_mvI H8 (gy_ J (b_ J J lss_ (pf_ J J (e_ (cs_ J (fun u=>q_ J (m_ (m_ (er_ (hQ J J (((((((((h.2 c).2 e).2 i).2 j).2 k).1 o).2 p).2 r).1 u)))))) (fun u=>sk_ (q_ J (m_ (e_ (sq_ (q_ J (f_ H2 (l_ J B0 J J (ll_ J (m_ (e_ (bk_ ((((((((((h.2 c).2 e).2 i).2 j).2 k).1 o).2 p).2 r).2 u) (I109_0 prog d Q nest1 m0.list (m0.list.length:Int)) (fun _ _ hb _ _ _ H1 H10 H101 H102 H103=>W.loop (w109_5 hQ (fun _ _ x=>x) H1 H10 H101 H102 H103 hb)) _ _ _ H1 J J J J))))))))))))))))))))))))))))))))))))) (fun o=>z_ 2 J (gy_ J (z_ 3 J (gy_ J (s_mvI H9 (gy_ J (s_mvI H7 (gy_ J (b_ J J gtr_ (z_ 2 J (em_ (g:=95) J (fun q=>z_ 4 J (e_ (ct_ J (q_ J (m_ (m_ (er_ (hQ J J (((((((h.2 c).2 e).2 i).2 j).2 k).2 o).1 q))))))))) (fun q=>gy_ J (s_mvI H9 (gy_ J (s_mvI H8 (gy_ J (b_ J J lss_ (pf_ J J (e_ (cs_ J (fun s=>q_ J (m_ (m_ (er_ (hQ J J ((((((((h.2 c).2 e).2 i).2 j).2 k).2 o).2 q).1 s)))))) (fun s=>sk_ (q_ J (m_ (e_ (sq_ (q_ J (f_ H2 (l_ J B0 J J (ll_ J (m_ (e_ (bk_ (((((((((h.2 c).2 e).2 i).2 j).2 k).2 o).2 q).2 s) (I109_0 prog d Q nest1 m0.list (m0.list.length:Int)) (fun _ _ hb _ _ _ H1 H10 H101 H102 H103=>W.loop (w109_5 hQ (fun _ _ x=>x) H1 H10 H101 H102 H103 hb)) _ _ _ H1 J J J J)))))))))))))))))))))))))))))))))))))))))))))))))))))))))))))))))))))))))))))))))))))))))))
include H1 H2 H6 H7 H8 Ab4099 B0 B4099 in
theorem w109_3 (h:T109_3 prog K nest1 most7 least8 m0 m4099):W prog d c109_3 σ st Q:=
 au @w109_4
include H1 H2 H6 H7 H8 Ab4099 B0 B4099 in
theorem w109_2 (h:T109_2 prog K nest1 most7 least8 m0 m4099):W prog d c109_4 σ st Q:=
 sq_ (q_ J (f_ H2 (l_ J B0 J J (e_ (bk_ (q_ J (b_ J J eql_ (m_ (e_ (cs_ J (fun c=>W.reg0 J fun _ _=>f_ H2 (l_ J B0 J J (b_ J J (abin_and _ _ _) (f_ H6 (so_ J B4099 J J J (e_ (w109_3 (m4099:=(Val.mk m4099.kind (bAnd .i64 m0.int 1) m4099.text m4099.list m4099.cut)) hQ H1 H2 H6 H7 H8 Ab4099 (lk_other J B0) lk_here (h.1 c)))))))) (fun c=>q_ J (b_ J J eql_ (m_ (e_ (cs_ J (fun e=>W.reg0 J fun _ _=>f_ H2 (l_ J B0 J J (f_ H6 (so_ J B4099 J J J (e_ (w109_3 (m4099:=(Val.mk m4099.kind m0.int m4099.text m4099.list m4099.cut)) hQ H1 H2 H6 H7 H8 Ab4099 (lk_other J B0) lk_here ((h.2 c).1 e))))))) (fun e=>q_ J (b_ J J eql_ (m_ (e_ (cs_ J (fun i=>W.reg0 J fun _ _=>f_ H2 (l_ J B0 J J (f_ H6 (so_ J B4099 J J J (e_ (w109_3 (m4099:=(Val.mk m4099.kind m4099.int m0.text m4099.list m4099.cut)) hQ H1 H2 H6 H7 H8 Ab4099 (lk_other J B0) lk_here (((h.2 c).2 e).1 i))))))) (fun i=>q_ J (b_ J J eql_ (m_ (e_ (cs_ J (fun j=>W.reg0 J fun _ _=>f_ H2 (l_ J B0 J J (f_ H6 (so_ J B4099 J J J (m_ (e_ (w109_3 (m4099:=(Val.mk m4099.kind m4099.int m4099.text m4099.list m0.cut)) hQ H1 H2 H6 J H8 Ab4099 (lk_other J B0) lk_here ((((h.2 c).2 e).2 i).1 j)))))))) (fun j=>q_ J (b_ J J eql_ (m_ (e_ (cs_ J (fun k=>W.reg0 J fun _ _=>m_ (e_ (w109_3 hQ H1 H2 H6 J H8 Ab4099 B0 B4099 (((((h.2 c).2 e).2 i).2 j).1 k)))) (fun k=>q_ J (b_ J J eql_ (m_ (e_ (cs_ J (fun o=>W.reg0 J fun _ _=>m_ (m_ (e_ (w109_3 hQ H1 H2 H6 J J Ab4099 B0 B4099 ((((((h.2 c).2 e).2 i).2 j).2 k).1 o))))) (fun o=>q_ J (b_ J J eql_ (m_ (e_ (cs_ J (fun p=>W.reg0 J fun _ _=>f_ H2 (l_ J B0 J J (f_ H6 (so_ J B4099 J J J (m_ (e_ (w109_3 (m4099:=(Val.mk m4099.kind m4099.int m4099.text m4099.list m0.cut)) hQ H1 H2 H6 J H8 Ab4099 (lk_other J B0) lk_here (((((((h.2 c).2 e).2 i).2 j).2 k).2 o).1 p)))))))) (fun p=>q_ J (m_ (m_ (er_ (hQ J J (((((((h.2 c).2 e).2 i).2 j).2 k).2 o).2 p))))))))))))))))))))))))))))))))))))))))))))))
include H1 H2 B0 in
theorem w109_1 (h:T109_1 prog K nest1 m0):W prog d c109_5 σ st Q:=
 sq_ (W.reg (f_ H2 (l_ J (lk_other J B0) J J (s_build (f_cons J J f_nil) (s_alloc (so_ J (show lk _ (d,4099)=some (_,([.i .u8 0,.i .i64 0,.s [],.sl .full (List.map Val.row ([]:List Val)),.b false]:List AV)) from lk_here) J J J (m_ (m_ (e_ (w109_2 (m4099:=(Val.mk m0.kind 0 [] ([]:List Val) false)) hQ H1 H2 J J J ApM.full (lk_other J (lk_other J B0)) lk_here h))))))))))
theorem w109_0 {v0:Val}{nest1:Int}(H0:σ 0=v0.av)(H1:σ 1=.i .i64 nest1)(h:T109_0 prog K v0 nest1):W prog d (sR 0 r109_0 c109_5) σ st Q:=
 au @w109_1
end
theorem p109 {prog:Prog}(hf:prog.fn 109=some pf109){v0:Val}{nest1:Int}{K:Int→Bool→Prop}(h:T109_0 prog K v0 nest1) :∃res0:Int,∃res1:Bool,K res0 res1∧Pus prog 109 [v0.av,.i .i64 nest1] (.tup [.i .i64 res0,.b res1]):=
 P2 hf J (w109_0 (h2 J fun _ _=>J) J J h)
abbrev H110 (Q:AE→Sl→St→Prop)(K:Bool→Prop):Prop:=∀(σ:Sl)(st:St)(res0:Bool),σ 4=.b res0→K res0→Q .ret σ st
section
variable {prog:Prog}{d:Nat}{Q:AE→Sl→St→Prop}{K:Bool→Prop}(hQ:H110 Q K){σ:Sl}{st:St}
include hQ
end
abbrev H127 (Q:AE→Sl→St→Prop)(K:BS→Prop):Prop:=∀(σ:Sl)(st:St)(res0:BS),σ 2=.s res0→K res0→Q .ret σ st
section
variable {prog:Prog}{d:Nat}{Q:AE→Sl→St→Prop}{K:BS→Prop}(hQ:H127 Q K){σ:Sl}{st:St}
include hQ
end
abbrev H136 (Q:AE→Sl→St→Prop)(K:Bool→Prop):Prop:=∀(σ:Sl)(st:St)(res0:Bool),σ 2=.b res0→K res0→Q .ret σ st
section
variable {prog:Prog}{d:Nat}{Q:AE→Sl→St→Prop}{K:Bool→Prop}(hQ:H136 Q K){σ:Sl}{st:St}
include hQ
end
end Go.AM

namespace Go.AM
open Go
set_option maxRecDepth 4000
set_option maxHeartbeats 2000000
attribute [local irreducible] Decidable.decide W WO fillCells fillRows
def r128_0:List AI:=[oC 4 (.b false)]
def r128_1:List AI:=[oM 8 0,oN 9 8,oF 10 0 9,oL 11 10,oM 12 1,oQ 13 36 [11,12],oM 7 13,oE 14 0 7,oE 15 1 7,oM 5 14,oM 6 15]
def r128_2:List AI:=[oM 16 0,oM 17 5,oN 18 16,oF 19 0 18,oS 1 19 17]
def r128_3:List AI:=[oM 20 6,oM 4 20]
abbrev b128:AC:=(sR 0 r128_0 (sR 1 r128_1 (sR 2 r128_2 (sR 3 r128_3 .ret))))
def pf128:AF:={ nt:=21,res:=[.tmp 4],body:=b128 }
abbrev H128 (d:Nat)(st0:St)(kp:Key)(vp:Nat)(Q:AE→Sl→St→Prop)(K:Bool→Sc→Prop):Prop:=∀(σ:Sl)(st:St)(res0:Bool)(b_:Sc),σ 4=.b res0→lk st.bx kp=some (vp,[.s b_.left])→Fr d kp st0.bx st0.ow st.bx st.ow→K res0 b_→Q .ret σ st
def T128_0 (prog:Prog)(K:Bool→Sc→Prop)(what1:BS)(mP:Sc):Prop:=
  ∃e c,Pus prog 36 [.s mP.left,.s what1] (.tup [.s e,.b c])∧K c (Sc.mk e)
section
variable {prog:Prog}{d:Nat}{Q:AE→Sl→St→Prop}{K:Bool→Sc→Prop}{st0:St}{kp:Key}{vp:Nat}(hQ:H128 d st0 kp vp Q K)(hkp:kp.1<d){σ:Sl}{st:St}
include hQ hkp
variable {what1:BS}{mP:Sc}
variable (H0:σ 0=.p kp vp 0)(H1:σ 1=.s what1)(BP:lk st.bx kp=some (vp,[.s mP.left]))(FR:Fr d kp st0.bx st0.ow st.bx st.ow)
include H0 H1 BP FR in
theorem w128_0 (h:T128_0 prog K what1 mP):W prog d (sR 0 r128_0 (sR 1 r128_1 (sR 2 r128_2 (sR 3 r128_3 .ret)))) σ st Q:=
 q_ J (m_ (e_ (q_ J (m_ (s_nilP H0 (f_ J (l_ J BP J J (m_ (x2 h fun _ _ c=>ca_ (sc2 J H1 J) c.1 (m_ (x_ J J (x_ J J (m_ (m_ (e_ (q_ J (m_ (m_ (s_nilP H0 (f_ J (so_ J BP J J J (e_ (q_ J (m_ (m_ (er_ (hQ _ _ _ _ J lk_here (Fr.own FR) c.2)))))))))))))))))))))))))))
end
theorem p128 {prog:Prog}(hf:prog.fn 128=some pf128){what1:BS}{mP:Sc}{K:Bool→Sc→Prop}(h:T128_0 prog K what1 mP):PuXK prog 128 (Bx [.s mP.left]) [.s what1] (fun r (b_:Sc)=>∃res0:Bool,(r=.b res0)∧K res0 b_) (fun b_=>(Bx [.s b_.left])):=
  PuXK.of hf rfl (fun _=>Bx.out) fun d st kp vp hkp hB=>w128_0 (st0:=st) (Q:=fun e σ st'=>(e=.normal∨e=.ret)∧∃r b_,ares σ st' pf128.res=some r∧_∧_∧Fr d kp st.bx st.ow st'.bx st'.ow) (fun σ st'   res0 b_ H4 hb hf hk=>⟨.inr rfl,.b res0,b_,by simp only [pf128,ares,aresL,H4,ares1,Option.map_some,H4],⟨res0,rfl,hk⟩,hb,hf⟩) hkp (σ:=sl0 [.p kp vp 0,.s what1]) rfl rfl hB Fr.refl h
def r129_0:List AI:=[oO 8 (.alloc [z8,z6,zs,zl,zb]),oC 9 (.b false)]
def r129_1:List AI:=[oM 13 1,oO 14 (.build [z8,z6,zs,zl,zb] [(0,1,(.t 13))]),oO 10 (.alloc [z8,z6,zs,zl,zb]),oS 5 10 14]
def r129_2:List AI:=[oM 15 0,oM 16 2,oO 17 (.call true 128 [(.t 15),(.t 16)])]
def r129_3:List AI:=[oK 18 5 10,oS 5 8 18,oC 9 (.b true)]
def r129_4:List AI:=[oF 19 3 10,oL 20 19,oJ 21 20,oV 22 .leq 21 16]
def r129_5:List AI:=[oM 24 0,oM 25 3,oO 26 (.call true 107 [(.t 24),(.t 25)]),oM 23 26,oE 27 0 23,oE 28 1 23,oO 11 (.alloc [z8,z6,zs,zl,zb]),oS 5 11 27,oM 12 28]
def r129_6:List AI:=[oM 29 12,oZ 30 29]
def r129_7:List AI:=[oK 31 5 10,oS 5 8 31,oC 9 (.b false)]
def r129_8:List AI:=[oF 32 3 10,oL 33 32,oK 34 5 11,oO 35 (.bslice [z8,z6,zs,zl,zb] 1 [(0,(.t 34))]),oO 36 (.app 5 64 (.t 33) (.t 35)),oF 37 3 10,oS 1 37 36]
def r129_9:List AI:=[oM 38 0,oM 39 2,oO 40 (.call true 128 [(.t 38),(.t 39)])]
def r129_10:List AI:=[oK 41 5 10,oS 5 8 41,oC 9 (.b true)]
def r129_11:List AI:=[oM 42 0,oO 43 (.call true 128 [(.t 42),(.c (.s [44,32]))]),oZ 44 43]
def r129_12:List AI:=[oK 45 5 10,oS 5 8 45,oC 9 (.b false)]
def r129_13:List AI:=[oK 46 5 10,oS 5 8 46,oC 9 (.b false)]
abbrev l129_0:AC:=(.seq (sR 4 r129_4 (.cond (.t 22) .skip (.exit 0))) (.block 1 (sR 5 r129_5 (.seq (sR 6 r129_6 (.cond (.t 30) (sR 7 r129_7 .ret) .skip)) (sR 8 r129_8 (.seq (sR 9 r129_9 (.cond (.t 40) (sR 10 r129_10 .ret) .skip)) (sR 11 r129_11 (.cond (.t 44) (sR 12 r129_12 .ret) .skip))))))))
abbrev c129_1:AC:=(sR 13 r129_13 .ret)
abbrev b129:AC:=(sR 0 r129_0 (sR 1 r129_1 (.seq (sR 2 r129_2 (.cond (.t 17) (sR 3 r129_3 .ret) .skip)) (.seq (.block 0 (.loop l129_0)) c129_1))))
def pf129:AF:={ nt:=47,res:=[.cell 8 5 true,.tmp 9],body:=b129 }
abbrev H129 (d:Nat)(st0:St)(kp:Key)(vp:Nat)(Q:AE→Sl→St→Prop)(K:Val→Bool→Sc→Prop):Prop:=∀(σ:Sl)(st:St)(k0:Key)(v0:Nat)(o0_0:Own)(res0:Val)(res1:Bool)(b_:Sc),σ 8=.p k0 v0 0→lk st.bx k0=some (v0,[.i .u8 res0.kind,.i .i64 res0.int,.s res0.text,.sl o0_0 (List.map Val.row res0.list),.b res0.cut])→σ 9=.b res1→lk st.bx kp=some (vp,[.s b_.left])→Fr d kp st0.bx st0.ow st.bx st.ow→K res0 res1 b_→Q .ret σ st
abbrev I129_0 (prog:Prog)(d:Nat)(Q:AE→Sl→St→Prop)(st0:St)(kp:Key)(vp:Nat)(end2:BS)(nest3:Int)(m0:Val)(m4098:Val)(mP:Sc):Prop:=
  ∀(σ:Sl)(st:St) (o_m0_3 o_m4098_3:Own) (v0 v4098:Nat),σ 0=.p kp vp 0→σ 2=.s end2→σ 3=.i .i64 nest3→σ 8=.p (d,0) v0 0→σ 10=.p (d,4098) v4098 0→ApM d st.ow o_m4098_3 m4098.list.length→lk st.bx (d,0)=some (v0,[.i .u8 m0.kind,.i .i64 m0.int,.s m0.text,.sl o_m0_3 (List.map Val.row m0.list),.b m0.cut])→lk st.bx (d,4098)=some (v4098,[.i .u8 m4098.kind,.i .i64 m4098.int,.s m4098.text,.sl o_m4098_3 (List.map Val.row m4098.list),.b m4098.cut])→lk st.bx kp=some (vp,[.s mP.left])→Fr d kp st0.bx st0.ow st.bx st.ow→W prog d (.loop l129_0) σ st (blockW 0 (thenW prog d c129_1 Q))
def T129_2 (prog:Prog)(K:Val→Bool→Sc→Prop)(m0:Val)(m4098:Val)(mP:Sc):Prop:=
  K m4098 false mP
def T129_1 (prog:Prog)(K:Val→Bool→Sc→Prop)(P0:Val→Val→Sc→Prop)(end2:BS)(nest3:Int)(m0:Val)(m4098:Val)(mP:Sc):Prop:=
  ((m4098.list.length:Int)≤16→∃c:Val,∃k,∃e:Sc,PuX prog 107 (Bx [.s mP.left]) [.i .i64 nest3] (fun r=>∃o'4_0:Own,r=.tup [c.avo o'4_0,.b k]) ((Bx [.s e.left]))∧((!k)=true→K m4098 false e)∧((!k)=false→Fit (m4098.list.length+[c].length) 64∧∃q,∃o:Sc,PuX prog 128 (Bx [.s e.left]) [.s end2] (fun r=>r=.b q) ((Bx [.s o.left]))∧(q=true→K (Val.mk m4098.kind m4098.int m4098.text (m4098.list++[c]) m4098.cut) true o)∧(q=false→∃p,∃j:Sc,PuX prog 128 (Bx [.s o.left]) [.s ([44,32]:BS)] (fun r=>r=.b p) ((Bx [.s j.left]))∧((!p)=true→K (Val.mk m4098.kind m4098.int m4098.text (m4098.list++[c]) m4098.cut) false j)∧((!p)=false→P0 m0 (Val.mk m4098.kind m4098.int m4098.text (m4098.list++[c]) m4098.cut) j))))∧(¬((m4098.list.length:Int)≤16)→T129_2 prog K m0 m4098 mP)
def T129_0 (prog:Prog)(K:Val→Bool→Sc→Prop)(kind1:Int)(end2:BS)(nest3:Int)(mP:Sc):Prop:=
  ∃e,∃c:Sc,PuX prog 128 (Bx [.s mP.left]) [.s end2] (fun r=>r=.b e) ((Bx [.s c.left]))∧(e=true→K (Val.mk kind1 0 [] ([]:List Val) false) true c)∧(e=false→∀P0:Val→Val→Sc→Prop,(∀(m0:Val)(m4098:Val)(mP:Sc),T129_1 prog K P0 end2 nest3 m0 m4098 mP→P0 m0 m4098 mP)→P0 (Val.mk 0 0 [] ([]:List Val) false) (Val.mk kind1 0 [] ([]:List Val) false) c)
section
variable {prog:Prog}{d:Nat}{Q:AE→Sl→St→Prop}{K:Val→Bool→Sc→Prop}{st0:St}{kp:Key}{vp:Nat}(hQ:H129 d st0 kp vp Q K)(hkp:kp.1<d){σ:Sl}{st:St}
include hQ hkp
variable {m0 m4098:Val}{mP:Sc}{o_m0_3 o_m4098_3:Own}{v0 v4098:Nat}{end2:BS}{nest3:Int}{P0:Val→Val→Sc→Prop}{kind1:Int}
variable (kP0 :∀(m0:Val)(m4098:Val)(mP:Sc),P0 m0 m4098 mP→I129_0 prog d Q st0 kp vp end2 nest3 m0 m4098 mP)(H0:σ 0=.p kp vp 0)(H1:σ 1=.i .u8 kind1)(H2:σ 2=.s end2)(H3:σ 3=.i .i64 nest3)(H8:σ 8=.p (d,0) v0 0)(H10:σ 10=.p (d,4098) v4098 0)(Ab4098:ApM d st.ow o_m4098_3 m4098.list.length)(B0:lk st.bx (d,0)=some (v0,[.i .u8 m0.kind,.i .i64 m0.int,.s m0.text,.sl o_m0_3 (List.map Val.row m0.list),.b m0.cut]))(B4098:lk st.bx (d,4098)=some (v4098,[.i .u8 m4098.kind,.i .i64 m4098.int,.s m4098.text,.sl o_m4098_3 (List.map Val.row m4098.list),.b m4098.cut]))(BP:lk st.bx kp=some (vp,[.s mP.left]))(FR:Fr d kp st0.bx st0.ow st.bx st.ow)
include H8 H10 Ab4098 B0 B4098 BP FR in
theorem w129_2 (h:T129_2 prog K m0 m4098 mP):W prog d c129_1 σ st Q:=
 q_ J (l_ H10 B4098 J J (so_ H8 B0 J J J (m_ (er_ (hQ _ _ _ _ _ _ _ _ H8 lk_here J (lk_otherP hkp BP) (Fr.box FR) h)))))
include kP0 H0 H2 H3 H8 H10 Ab4098 B0 B4098 BP FR in
theorem w129_1 (h:T129_1 prog K P0 end2 nest3 m0 m4098 mP):W prog d l129_0 σ st (thenW prog d (.loop l129_0) (blockW 0 (thenW prog d c129_1 Q))):=
 sq_ (q_ J (f_ H10 (l_ J B4098 J J (ll_ J (b_ J J leq_ (e_ (cs_ J (fun u=>sk_ (bk_ (sq_ (W.reg (m_ (m_ (x2 (h.1 u) fun a5 _ a3=>a3.elim fun _ k=>s_callX1 (sec H0 (sec H3 sen)) k.1 (Nat.lt_succ_of_lt hkp) (lk_otherP hkp BP) (fun o'4_0 _ z c=>m_ (x_ J J (x_ J J (s_alloc (so_ J ((c.1 (d,20486) (Nat.lt_succ_self d) (key_LP hkp)).trans (show lk _ (d,20486)=some (_,([.i .u8 0,.i .i64 0,.s [],.sl .full (List.map Val.row ([]:List Val)),.b false]:List AV)) from lk_here)) J J J (m_ (e_ (sq_ (q_ J (m_ (nt_ J (e_ (cb_ J (fun o=>q_ J (l_ H10 (lk_other J ((c.1 (d,4098) (Nat.lt_succ_self d) (key_LP hkp)).trans (lk_other J B4098))) J J (so_ H8 (lk_other J ((c.1 (d,0) (Nat.lt_succ_self d) (key_LP hkp)).trans (lk_other J B0))) J J J (m_ (er_ (hQ _ _ _ _ _ _ _ _ H8 lk_here J (lk_otherP hkp (lk_otherP hkp z)) (Fr.box (Fr.box (Fr.pass (Fr.box FR) c))) (k.2.1 o))))))) (fun o=>sk_ (q_ J (f_ H10 (l_ J (lk_other J ((c.1 (d,4098) (Nat.lt_succ_self d) (key_LP hkp)).trans (lk_other J B4098))) J J (l_ J lk_here J J (s_bslM (f:=Val.row) (l:=[a5]) J J (g_cons J J J g_nil) (by simp only [List.map_cons,List.map_nil,Val.row_eq];rfl) (s_app Val.row_len J J J ((ApM.call Ab4098 c).1) (k.2.2 o).1 J (fun _ _ a0 r a4=>f_ H10 (so_ J (lk_other J ((c.1 (d,4098) (Nat.lt_succ_self d) (key_LP hkp)).trans (lk_other J B4098))) J J J (e_ (sq_ (q_ J (m_ (m_ ((k.2.2 o).2.elim fun _ a2=>a2.elim fun _ p=>cX_ (sec H0 (sec H2 sen)) p.1 (Nat.lt_succ_of_lt hkp) (lk_otherP hkp (lk_otherP hkp z)) (fun _ x e=>e_ (cb_ J (fun v=>q_ J (l_ H10 ((e.1 (d,4098) (Nat.lt_succ_self d) (key_LP hkp)).trans lk_here) J J (so_ H8 ((e.1 (d,0) (Nat.lt_succ_self d) (key_LP hkp)).trans (lk_other J (lk_other J ((c.1 (d,0) (Nat.lt_succ_self d) (key_LP hkp)).trans (lk_other J B0))))) J J J (m_ (er_ (hQ _ _ _ _ _ _ _ _ H8 lk_here J (lk_otherP hkp x) (Fr.box (Fr.pass (Fr.box (Fr.app (Fr.box (Fr.pass (Fr.box FR) c)) (ApM.call Ab4098 c).2 r)) e)) (p.2.1 v))))))) (fun v=>sk_ (q_ J (m_ ((p.2.2 v).elim fun _ a1=>a1.elim fun _ q=>cX_ (sec H0 (sec J sen)) q.1 (Nat.lt_succ_of_lt hkp) x (fun _ y j=>nt_ J (e_ (cb_ J (fun w=>q_ J (l_ H10 ((j.1 (d,4098) (Nat.lt_succ_self d) (key_LP hkp)).trans ((e.1 (d,4098) (Nat.lt_succ_self d) (key_LP hkp)).trans lk_here)) J J (so_ H8 ((j.1 (d,0) (Nat.lt_succ_self d) (key_LP hkp)).trans ((e.1 (d,0) (Nat.lt_succ_self d) (key_LP hkp)).trans (lk_other J (lk_other J ((c.1 (d,0) (Nat.lt_succ_self d) (key_LP hkp)).trans (lk_other J B0)))))) J J J (m_ (er_ (hQ _ _ _ _ _ _ _ _ H8 lk_here J (lk_otherP hkp y) (Fr.box (Fr.pass (Fr.pass (Fr.box (Fr.app (Fr.box (Fr.pass (Fr.box FR) c)) (ApM.call Ab4098 c).2 r)) e) j)) (q.2.1 w))))))) (fun w=>sk_ (kP0 _ _ _ (q.2.2 w) _ _ _ _ _ _ H0 H2 H3 H8 H10 (ApM.call (ApM.call (ApM.mk a0 (Mine.app (ApM.call Ab4098 c).2 J a4)) e) j) ((j.1 (d,0) (Nat.lt_succ_self d) (key_LP hkp)).trans ((e.1 (d,0) (Nat.lt_succ_self d) (key_LP hkp)).trans (lk_other J (lk_other J ((c.1 (d,0) (Nat.lt_succ_self d) (key_LP hkp)).trans (lk_other J B0)))))) ((j.1 (d,4098) (Nat.lt_succ_self d) (key_LP hkp)).trans ((e.1 (d,4098) (Nat.lt_succ_self d) (key_LP hkp)).trans lk_here)) y (Fr.pass (Fr.pass (Fr.box (Fr.app (Fr.box (Fr.pass (Fr.box FR) c)) (ApM.call Ab4098 c).2 r)) e) j))))))))))))))))))))))))))))))))))))))))))))))) (fun u=>ex_ (w129_2 hQ hkp H8 H10 Ab4098 B0 B4098 BP FR (h.2 u))))))))))
include H0 H1 H2 H3 BP FR in
theorem w129_0 (h:T129_0 prog K kind1 end2 nest3 mP):W prog d (sR 0 r129_0 (sR 1 r129_1 (.seq (sR 2 r129_2 (.cond (.t 17) (sR 3 r129_3 .ret) .skip)) (.seq (.block 0 (.loop l129_0)) c129_1)))) σ st Q:=
 sq_ (W.reg (s_alloc (m_ (e_ (sq_ (W.reg (m_ (s_build (f_cons H1 J f_nil) (s_alloc (so_ J (show lk _ (d,4098)=some (_,([.i .u8 0,.i .i64 0,.s [],.sl .full (List.map Val.row ([]:List Val)),.b false]:List AV)) from lk_here) J J J (e_ (sq_ (q_ J (m_ (m_ (h.elim fun _ o=>o.elim fun _ e=>cX_ (sec H0 (sec H2 sen)) e.1 (Nat.lt_succ_of_lt hkp) (lk_otherP hkp (lk_otherP hkp (lk_otherP hkp BP))) (fun _ k c=>e_ (cb_ J (fun j=>q_ J (l_ J ((c.1 (d,4098) (Nat.lt_succ_self d) (key_LP hkp)).trans lk_here) J J (so_ J ((c.1 (d,0) (Nat.lt_succ_self d) (key_LP hkp)).trans (lk_other J (lk_other J (show lk _ (d,0)=some (_,([.i .u8 0,.i .i64 0,.s [],.sl .full (List.map Val.row ([]:List Val)),.b false]:List AV)) from lk_here)))) J J J (m_ (er_ (hQ _ _ _ _ _ _ _ _ J lk_here J (lk_otherP hkp k) (Fr.box (Fr.pass (Fr.box (Fr.box (Fr.box FR))) c)) (e.2.1 j))))))) (fun j=>sk_ (sq_ (bk_ ((e.2.2 j) (I129_0 prog d Q st0 kp vp end2 nest3) (fun _ _ _ hb _ _ _ _ _ _ H0 H2 H3 H8 H10 Ab4098 B0 B4098 BP FR=>W.loop (w129_1 hQ hkp (fun _ _ _ x=>x) H0 H2 H3 H8 H10 Ab4098 B0 B4098 BP FR hb)) _ _ _ _ _ _ H0 H2 H3 J J ApM.full ((c.1 (d,0) (Nat.lt_succ_self d) (key_LP hkp)).trans (lk_other J (lk_other J (show lk _ (d,0)=some (_,([.i .u8 0,.i .i64 0,.s [],.sl .full (List.map Val.row ([]:List Val)),.b false]:List AV)) from lk_here)))) ((c.1 (d,4098) (Nat.lt_succ_self d) (key_LP hkp)).trans lk_here) k (Fr.pass (Fr.box (Fr.box (Fr.box FR))) c)))))))))))))))))))))))
end
theorem p129 {prog:Prog}(hf:prog.fn 129=some pf129){kind1:Int}{end2:BS}{nest3:Int}{mP:Sc}{K:Val→Bool→Sc→Prop}(h:T129_0 prog K kind1 end2 nest3 mP):PuXK prog 129 (Bx [.s mP.left]) [.i .u8 kind1,.s end2,.i .i64 nest3] (fun r (b_:Sc)=>∃res0:Val,∃res1:Bool,(∃o_0:Own,r=.tup [res0.avo o_0,.b res1])∧K res0 res1 b_) (fun b_=>(Bx [.s b_.left])):=
  PuXK.of hf rfl (fun _=>Bx.out) fun d st kp vp hkp hB=>w129_0 (st0:=st) (Q:=fun e σ st'=>(e=.normal∨e=.ret)∧∃r b_,ares σ st' pf129.res=some r∧_∧_∧Fr d kp st.bx st.ow st'.bx st'.ow) (fun σ st' k0 v0 o_0 res0 res1 b_ H8 HB8 H9 hb hf hk=>⟨.inr rfl,.tup [res0.avo o_0,.b res1],b_,by simp only [pf129,ares,aresL,ares_cellA (n:=5) H8 HB8 rfl,H9,ares_tmp,Option.map_some,ares_cellA (n:=5) H8 HB8 rfl,H9],⟨res0,res1,⟨o_0,rfl⟩,hk⟩,hb,hf⟩) hkp (σ:=sl0 [.p kp vp 0,.i .u8 kind1,.s end2,.i .i64 nest3]) rfl rfl rfl rfl hB Fr.refl h
def r107_0:List AI:=[oO 4 (.alloc [z8,z6,zs,zl,zb]),oC 5 (.b false)]
def r107_1:List AI:=[oM 12 1,oV 13 .eql 12 0,oM 14 13,gF 14 (oM 15 0),gF 14 (oN 16 15),gF 14 (oF 17 0 16),gF 14 (oL 18 17),gF 14 (oB 19 .eql (.t 18) (.c (.s []))),oR 20 14 19]
def r107_2:List AI:=[oO 21 (.build [z8,z6,zs,zl,zb] []),oS 5 4 21,oC 5 (.b false)]
def r107_3:List AI:=[oM 23 0,oO 24 (.call true 128 [(.t 23),(.c (.s [116,114,117,101]))]),oM 22 24]
def r107_4:List AI:=[oO 25 (.build [z8,z6,zs,zl,zb] [(0,1,(.c (.i .u8 1))),(1,1,(.c (.i .i64 1)))]),oS 5 4 25,oC 5 (.b true)]
def r107_5:List AI:=[oM 27 0,oO 28 (.call true 128 [(.t 27),(.c (.s [102,97,108,115,101]))]),oM 26 28]
def r107_6:List AI:=[oO 29 (.build [z8,z6,zs,zl,zb] [(0,1,(.c (.i .u8 1)))]),oS 5 4 29,oC 5 (.b true)]
def r107_7:List AI:=[oM 31 0,oO 32 (.call true 128 [(.t 31),(.c (.s [110,105,108]))]),oM 30 32]
def r107_8:List AI:=[oO 33 (.build [z8,z6,zs,zl,zb] [(0,1,(.c (.i .u8 4)))]),oS 5 4 33,oC 5 (.b true)]
def r107_9:List AI:=[oM 35 0,oO 36 (.call true 128 [(.t 35),(.c (.s [38,46,46,46]))]),oM 34 36]
def r107_10:List AI:=[oO 37 (.build [z8,z6,zs,zl,zb] [(0,1,(.c (.i .u8 4))),(4,1,(.c (.b true)))]),oS 5 4 37,oC 5 (.b true)]
def r107_11:List AI:=[oM 39 0,oO 40 (.call true 128 [(.t 39),(.c (.s [60,46,46,46,62]))]),oM 38 40]
def r107_12:List AI:=[oO 41 (.build [z8,z6,zs,zl,zb] [(0,1,(.c (.i .u8 7))),(4,1,(.c (.b true)))]),oS 5 4 41,oC 5 (.b true)]
def r107_13:List AI:=[oM 43 0,oO 44 (.call true 128 [(.t 43),(.c (.s [38]))]),oM 42 44]
def r107_14:List AI:=[oM 46 0,oM 47 1,oV 48 .sub 47 1,oO 49 (.call true 107 [(.t 46),(.t 48)]),oM 45 49,oE 50 0 45,oE 51 1 45,oO 6 (.alloc [z8,z6,zs,zl,zb]),oS 5 6 50,oM 7 51]
def r107_15:List AI:=[oK 52 5 6,oO 53 (.bslice [z8,z6,zs,zl,zb] 1 [(0,(.t 52))]),oO 54 (.build [z8,z6,zs,zl,zb] [(0,1,(.c (.i .u8 4))),(3,1,(.t 53))]),oM 55 7,oS 5 4 54,oM 5 55]
def r107_16:List AI:=[oM 57 0,oO 58 (.call true 128 [(.t 57),(.c (.s [123]))]),oM 56 58]
def r107_17:List AI:=[oM 59 0,oM 60 1,oV 61 .sub 60 1,oO 62 (.call true 129 [(.t 59),(.c (.i .u8 5)),(.c (.s [125])),(.t 61)]),oE 63 0 62,oE 64 1 62,oS 5 4 63,oM 5 64]
def r107_18:List AI:=[oM 66 0,oO 67 (.call true 128 [(.t 66),(.c (.s [91]))]),oM 65 67]
def r107_19:List AI:=[oM 68 0,oM 69 1,oV 70 .sub 69 1,oO 71 (.call true 129 [(.t 68),(.c (.i .u8 6)),(.c (.s [93])),(.t 70)]),oE 72 0 71,oE 73 1 71,oS 5 4 72,oM 5 73]
def r107_20:List AI:=[oM 75 0,oO 76 (.call true 128 [(.t 75),(.c (.s [60]))]),oM 74 76]
def r107_21:List AI:=[oM 77 0,oM 78 1,oV 79 .sub 78 1,oO 80 (.call true 129 [(.t 77),(.c (.i .u8 7)),(.c (.s [62])),(.t 79)]),oE 81 0 80,oE 82 1 80,oS 5 4 81,oM 5 82]
def r107_22:List AI:=[oM 84 0,oN 85 84,oF 86 0 85,oL 87 86,oO 88 (.ixS (.t 87) (.c (.i .i64 0))),oW 89 .eql 88 34,oM 83 89]
def r107_23:List AI:=[oM 91 0,oO 92 (.call true 130 [(.t 91)]),oM 90 92,oE 93 0 90,oE 94 1 90,oM 8 93,oM 9 94]
def r107_24:List AI:=[oM 95 8,oO 96 (.build [z8,z6,zs,zl,zb] [(0,1,(.c (.i .u8 3))),(2,1,(.t 95))]),oM 97 9,oS 5 4 96,oM 5 97]
def r107_25:List AI:=[oM 99 0,oO 100 (.call true 131 [(.t 99)]),oM 98 100,oE 101 0 98,oE 102 1 98,oM 10 101,oM 11 102]
def r107_26:List AI:=[oM 103 10,oO 104 (.build [z8,z6,zs,zl,zb] [(0,1,(.c (.i .u8 2))),(1,1,(.t 103))]),oM 105 11,oS 5 4 104,oM 5 105]
abbrev c107_0:AC:=(.cond (.t 42) (sR 14 r107_14 (sR 15 r107_15 .ret)) (sR 16 r107_16 (.cond (.t 56) (sR 17 r107_17 .ret) (sR 18 r107_18 (.cond (.t 65) (sR 19 r107_19 .ret) (sR 20 r107_20 (.cond (.t 74) (sR 21 r107_21 .ret) (sR 22 r107_22 (.cond (.t 83) (sR 23 r107_23 (sR 24 r107_24 .ret)) .skip)))))))))
abbrev c107_1:AC:=(.cond (.t 38) (sR 12 r107_12 .ret) (sR 13 r107_13 c107_0))
abbrev c107_2:AC:=(.cond (.t 34) (sR 10 r107_10 .ret) (sR 11 r107_11 c107_1))
abbrev c107_3:AC:=(.cond (.t 30) (sR 8 r107_8 .ret) (sR 9 r107_9 c107_2))
abbrev c107_4:AC:=(.cond (.t 26) (sR 6 r107_6 .ret) (sR 7 r107_7 c107_3))
abbrev c107_5:AC:=(.cond (.t 22) (sR 4 r107_4 .ret) (sR 5 r107_5 c107_4))
abbrev c107_6:AC:=(.seq (.block 0 (sR 3 r107_3 c107_5)) (sR 25 r107_25 (sR 26 r107_26 .ret)))
abbrev c107_7:AC:=(.seq (sR 1 r107_1 (.cond (.t 20) (sR 2 r107_2 .ret) .skip)) c107_6)
abbrev b107:AC:=(sR 0 r107_0 c107_7)
def pf107:AF:={ nt:=106,res:=[.cell 4 5 true,.tmp 5],body:=b107 }
abbrev H107 (d:Nat)(st0:St)(kp:Key)(vp:Nat)(Q:AE→Sl→St→Prop)(K:Val→Bool→Sc→Prop):Prop:=∀(σ:Sl)(st:St)(k0:Key)(v0:Nat)(o0_0:Own)(res0:Val)(res1:Bool)(b_:Sc),σ 4=.p k0 v0 0→lk st.bx k0=some (v0,[.i .u8 res0.kind,.i .i64 res0.int,.s res0.text,.sl o0_0 (List.map Val.row res0.list),.b res0.cut])→σ 5=.b res1→lk st.bx kp=some (vp,[.s b_.left])→Fr d kp st0.bx st0.ow st.bx st.ow→K res0 res1 b_→Q .ret σ st
def T107_8 (prog:Prog)(K:Val→Bool→Sc→Prop)(nest1:Int)(t42:Bool)(m0:Val)(mP:Sc):Prop:=
  (t42=true→∃e:Val,∃c,∃a7:Sc,PuX prog 107 (Bx [.s mP.left]) [.i .i64 (IntKind.i64.wrap (nest1-1))] (fun r=>∃o'4_0:Own,r=.tup [e.avo o'4_0,.b c]) ((Bx [.s a7.left]))∧K (Val.mk 4 0 [] [e] false) c a7)∧(t42=false→∃k,∃u:Sc,PuX prog 128 (Bx [.s mP.left]) [.s ([123]:BS)] (fun r=>r=.b k) ((Bx [.s u.left]))∧(k=true→∃y:Val,∃a6,∃b0:Sc,PuX prog 129 (Bx [.s u.left]) [.i .u8 5,.s ([125]:BS),.i .i64 (IntKind.i64.wrap (nest1-1))] (fun r=>∃o'22_0:Own,r=.tup [y.avo o'22_0,.b a6]) ((Bx [.s b0.left]))∧K y a6 b0)∧(k=false→∃q,∃v:Sc,PuX prog 128 (Bx [.s u.left]) [.s ([91]:BS)] (fun r=>r=.b q) ((Bx [.s v.left]))∧(q=true→∃a0:Val,∃a9,∃a2:Sc,PuX prog 129 (Bx [.s v.left]) [.i .u8 6,.s ([93]:BS),.i .i64 (IntKind.i64.wrap (nest1-1))] (fun r=>∃o'40_0:Own,r=.tup [a0.avo o'40_0,.b a9]) ((Bx [.s a2.left]))∧K a0 a9 a2)∧(q=false→∃o,∃j:Sc,PuX prog 128 (Bx [.s v.left]) [.s ([60]:BS)] (fun r=>r=.b o) ((Bx [.s j.left]))∧(o=true→∃a5:Val,∃x,∃z:Sc,PuX prog 129 (Bx [.s j.left]) [.i .u8 7,.s ([62]:BS),.i .i64 (IntKind.i64.wrap (nest1-1))] (fun r=>∃o'58_0:Own,r=.tup [a5.avo o'58_0,.b x]) ((Bx [.s z.left]))∧K a5 x z)∧(o=false→∃p:UInt8,j.left[0]?=some p∧((p.toNat:Int)=34→∃a1 a3,∃a8:Sc,PuX prog 130 (Bx [.s j.left]) [] (fun r=>r=.tup [.s a1,.b a3]) ((Bx [.s a8.left]))∧K (Val.mk 3 0 a1 ([]:List Val) false) a3 a8)∧(¬((p.toNat:Int)=34)→∃b1 w,∃a4:Sc,PuX prog 131 (Bx [.s j.left]) [] (fun r=>r=.tup [.i .i64 b1,.b w]) ((Bx [.s a4.left]))∧K (Val.mk 2 b1 [] ([]:List Val) false) w a4)))))
def T107_7 (prog:Prog)(K:Val→Bool→Sc→Prop)(nest1:Int)(t38:Bool)(m0:Val)(mP:Sc):Prop:=
  (t38=true→K (Val.mk 7 0 [] ([]:List Val) true) true mP)∧(t38=false→∃c,∃e:Sc,PuX prog 128 (Bx [.s mP.left]) [.s ([38]:BS)] (fun r=>r=.b c) ((Bx [.s e.left]))∧T107_8 prog K nest1 c m0 e)
def T107_6 (prog:Prog)(K:Val→Bool→Sc→Prop)(nest1:Int)(t34:Bool)(m0:Val)(mP:Sc):Prop:=
  (t34=true→K (Val.mk 4 0 [] ([]:List Val) true) true mP)∧(t34=false→∃c,∃e:Sc,PuX prog 128 (Bx [.s mP.left]) [.s ([60,46,46,46,62]:BS)] (fun r=>r=.b c) ((Bx [.s e.left]))∧T107_7 prog K nest1 c m0 e)
def T107_5 (prog:Prog)(K:Val→Bool→Sc→Prop)(nest1:Int)(t30:Bool)(m0:Val)(mP:Sc):Prop:=
  (t30=true→K (Val.mk 4 0 [] ([]:List Val) false) true mP)∧(t30=false→∃c,∃e:Sc,PuX prog 128 (Bx [.s mP.left]) [.s ([38,46,46,46]:BS)] (fun r=>r=.b c) ((Bx [.s e.left]))∧T107_6 prog K nest1 c m0 e)
def T107_4 (prog:Prog)(K:Val→Bool→Sc→Prop)(nest1:Int)(t26:Bool)(m0:Val)(mP:Sc):Prop:=
  (t26=true→K (Val.mk 1 0 [] ([]:List Val) false) true mP)∧(t26=false→∃c,∃e:Sc,PuX prog 128 (Bx [.s mP.left]) [.s ([110,105,108]:BS)] (fun r=>r=.b c) ((Bx [.s e.left]))∧T107_5 prog K nest1 c m0 e)
def T107_3 (prog:Prog)(K:Val→Bool→Sc→Prop)(nest1:Int)(t22:Bool)(m0:Val)(mP:Sc):Prop:=
  (t22=true→K (Val.mk 1 1 [] ([]:List Val) false) true mP)∧(t22=false→∃c,∃e:Sc,PuX prog 128 (Bx [.s mP.left]) [.s ([102,97,108,115,101]:BS)] (fun r=>r=.b c) ((Bx [.s e.left]))∧T107_4 prog K nest1 c m0 e)
def T107_2 (prog:Prog)(K:Val→Bool→Sc→Prop)(nest1:Int)(m0:Val)(mP:Sc):Prop:=
  ∃e,∃c:Sc,PuX prog 128 (Bx [.s mP.left]) [.s ([116,114,117,101]:BS)] (fun r=>r=.b e) ((Bx [.s c.left]))∧T107_3 prog K nest1 e m0 c
def T107_1 (prog:Prog)(K:Val→Bool→Sc→Prop)(nest1:Int)(m0:Val)(mP:Sc):Prop:=
  (nest1=0→K (Val.mk 0 0 [] ([]:List Val) false) false mP)∧(¬(nest1=0)→(mP.left=([]:BS)→K (Val.mk 0 0 [] ([]:List Val) false) false mP)∧(¬(mP.left=([]:BS))→T107_2 prog K nest1 m0 mP))
def T107_0 (prog:Prog)(K:Val→Bool→Sc→Prop)(nest1:Int)(mP:Sc):Prop:=
  T107_1 prog K nest1 (Val.mk 0 0 [] ([]:List Val) false) mP
section
variable {prog:Prog}{d:Nat}{Q:AE→Sl→St→Prop}{K:Val→Bool→Sc→Prop}{st0:St}{kp:Key}{vp:Nat}(hQ:H107 d st0 kp vp Q K)(hkp:kp.1<d){σ:Sl}{st:St}
include hQ hkp
variable {nest1:Int}{t42:Bool}{m0:Val}{mP:Sc}{o_m0_3:Own}{v0:Nat}{t38 t34 t30 t26 t22:Bool}
variable (H0:σ 0=.p kp vp 0)(H1:σ 1=.i .i64 nest1)(H4:σ 4=.p (d,0) v0 0)(H42:σ 42=.b t42)(H38:σ 38=.b t38)(H34:σ 34=.b t34)(H30:σ 30=.b t30)(H26:σ 26=.b t26)(H22:σ 22=.b t22)(B0:lk st.bx (d,0)=some (v0,[.i .u8 m0.kind,.i .i64 m0.int,.s m0.text,.sl o_m0_3 (List.map Val.row m0.list),.b m0.cut]))(BP:lk st.bx kp=some (vp,[.s mP.left]))(FR:Fr d kp st0.bx st0.ow st.bx st.ow)
include H0 H1 H4 H42 B0 BP FR in
theorem w107_8 (h:T107_8 prog K nest1 t42 m0 mP):W prog d c107_0 σ st (blockW 0 (thenW prog d (sR 25 r107_25 (sR 26 r107_26 .ret)) Q)):=
 cb_ H42 (fun u=>sq_ (W.reg (m_ (m_ (b_ H1 J sub_ (x2 (h.1 u) fun c9 _ b3=>b3.elim fun _ a2=>s_callX1 (sec H0 (sec J sen)) a2.1 (Nat.lt_succ_of_lt hkp) (lk_otherP hkp BP) (fun o'4_0 _ c5 z=>m_ (x_ J J (x_ J J (s_alloc (so_ J ((z.1 (d,57351) (Nat.lt_succ_self d) (key_LP hkp)).trans (show lk _ (d,57351)=some (_,([.i .u8 0,.i .i64 0,.s [],.sl .full (List.map Val.row ([]:List Val)),.b false]:List AV)) from lk_here)) J J J (m_ (e_ (q_ J (l_ J lk_here J J (s_bslM (f:=Val.row) (l:=[c9]) J J (g_cons J J J g_nil) (by simp only [List.map_cons,List.map_nil,Val.row_eq];rfl) (s_build (f_cons J J (f_cons J J f_nil)) (m_ (so_ H4 (lk_other J ((z.1 (d,0) (Nat.lt_succ_self d) (key_LP hkp)).trans (lk_other J B0))) J J J (m_ (er_ (hQ _ _ _ _ _ _ _ _ H4 lk_here J (lk_otherP hkp (lk_otherP hkp c5)) (Fr.box (Fr.box (Fr.pass (Fr.box FR) z))) a2.2)))))))))))))))))))))) (fun u=>q_ J (m_ ((h.2 u).elim fun _ c1=>c1.elim fun _ o=>cX_ (sec H0 (sec J sen)) o.1 (Nat.lt_succ_of_lt hkp) BP (fun _ a6 c=>m_ (e_ (cb_ J (fun v=>q_ J (m_ (m_ (b_ H1 J sub_ (x2 (o.2.1 v) fun _ _ b4=>b4.elim fun _ a0=>s_callX1 (sec H0 (sec J (sec J (sec J sen)))) a0.1 (Nat.lt_succ_of_lt hkp) a6 (fun o'22_0 _ c2 a8=>x_ J J (x_ J J (so_ H4 ((a8.1 (d,0) (Nat.lt_succ_self d) (key_LP hkp)).trans ((c.1 (d,0) (Nat.lt_succ_self d) (key_LP hkp)).trans B0)) J J J (m_ (er_ (hQ _ _ _ _ _ _ _ _ H4 lk_here J (lk_otherP hkp c2) (Fr.box (Fr.pass (Fr.pass FR c) a8)) a0.2))))))))))) (fun v=>q_ J (m_ ((o.2.2 v).elim fun _ c0=>c0.elim fun _ p=>cX_ (sec H0 (sec J sen)) p.1 (Nat.lt_succ_of_lt hkp) a6 (fun _ a7 e=>m_ (e_ (cb_ J (fun w=>q_ J (m_ (m_ (b_ H1 J sub_ (x2 (p.2.1 w) fun _ _ b5=>b5.elim fun _ a1=>s_callX1 (sec H0 (sec J (sec J (sec J sen)))) a1.1 (Nat.lt_succ_of_lt hkp) a7 (fun o'40_0 _ c3 a9=>x_ J J (x_ J J (so_ H4 ((a9.1 (d,0) (Nat.lt_succ_self d) (key_LP hkp)).trans ((e.1 (d,0) (Nat.lt_succ_self d) (key_LP hkp)).trans ((c.1 (d,0) (Nat.lt_succ_self d) (key_LP hkp)).trans B0))) J J J (m_ (er_ (hQ _ _ _ _ _ _ _ _ H4 lk_here J (lk_otherP hkp c3) (Fr.box (Fr.pass (Fr.pass (Fr.pass FR c) e) a9)) a1.2))))))))))) (fun w=>q_ J (m_ ((p.2.2 w).elim fun _ b9=>b9.elim fun _ q=>cX_ (sec H0 (sec J sen)) q.1 (Nat.lt_succ_of_lt hkp) a7 (fun _ k j=>m_ (e_ (cb_ J (fun x=>q_ J (m_ (m_ (b_ H1 J sub_ (x2 (q.2.1 x) fun _ _ b6=>b6.elim fun _ a3=>s_callX1 (sec H0 (sec J (sec J (sec J sen)))) a3.1 (Nat.lt_succ_of_lt hkp) k (fun o'58_0 _ c4 b0=>x_ J J (x_ J J (so_ H4 ((b0.1 (d,0) (Nat.lt_succ_self d) (key_LP hkp)).trans ((j.1 (d,0) (Nat.lt_succ_self d) (key_LP hkp)).trans ((e.1 (d,0) (Nat.lt_succ_self d) (key_LP hkp)).trans ((c.1 (d,0) (Nat.lt_succ_self d) (key_LP hkp)).trans B0)))) J J J (m_ (er_ (hQ _ _ _ _ _ _ _ _ H4 lk_here J (lk_otherP hkp c4) (Fr.box (Fr.pass (Fr.pass (Fr.pass (Fr.pass FR c) e) j) b0)) a3.2))))))))))) (fun x=>q_ J (m_ (s_nilP H0 (f_ J (l_ J k J J ((q.2.2 x).elim fun _ r=>s_ixS J J (by decide) r.1 (b_ J J eql_ (m_ (e_ (cs_ J (fun y=>q_ J (m_ (x2 (r.2.1 y) fun _ _ b7=>b7.elim fun _ a4=>cX_ (sec H0 sen) a4.1 (Nat.lt_succ_of_lt hkp) k (fun _ c6 b1=>m_ (x_ J J (x_ J J (m_ (m_ (e_ (q_ J (m_ (s_build (f_cons J J (f_cons J J f_nil)) (m_ (so_ H4 ((b1.1 (d,0) (Nat.lt_succ_self d) (key_LP hkp)).trans ((j.1 (d,0) (Nat.lt_succ_self d) (key_LP hkp)).trans ((e.1 (d,0) (Nat.lt_succ_self d) (key_LP hkp)).trans ((c.1 (d,0) (Nat.lt_succ_self d) (key_LP hkp)).trans B0)))) J J J (m_ (er_ (hQ _ _ _ _ _ _ _ _ H4 lk_here J (lk_otherP hkp c6) (Fr.box (Fr.pass (Fr.pass (Fr.pass (Fr.pass FR c) e) j) b1)) a4.2))))))))))))))))) (fun y=>sk_ (q_ J (m_ (x2 (r.2.2 y) fun _ _ b8=>b8.elim fun _ a5=>cX_ (sec H0 sen) a5.1 (Nat.lt_succ_of_lt hkp) k (fun _ c7 b2=>m_ (x_ J J (x_ J J (m_ (m_ (e_ (q_ J (m_ (s_build (f_cons J J (f_cons J J f_nil)) (m_ (so_ H4 ((b2.1 (d,0) (Nat.lt_succ_self d) (key_LP hkp)).trans ((j.1 (d,0) (Nat.lt_succ_self d) (key_LP hkp)).trans ((e.1 (d,0) (Nat.lt_succ_self d) (key_LP hkp)).trans ((c.1 (d,0) (Nat.lt_succ_self d) (key_LP hkp)).trans B0)))) J J J (m_ (er_ (hQ _ _ _ _ _ _ _ _ H4 lk_here J (lk_otherP hkp c7) (Fr.box (Fr.pass (Fr.pass (Fr.pass (Fr.pass FR c) e) j) b2)) a5.2))))))))))))))))))))))))))))))))))))))))))))))
include H0 H1 H4 H38 B0 BP FR in
theorem w107_7 (h:T107_7 prog K nest1 t38 m0 mP):W prog d c107_1 σ st (blockW 0 (thenW prog d (sR 25 r107_25 (sR 26 r107_26 .ret)) Q)):=
 cb_ H38 (fun c=>q_ J (s_build (f_cons J J (f_cons J J f_nil)) (so_ H4 B0 J J J (m_ (er_ (hQ _ _ _ _ _ _ _ _ H4 lk_here J (lk_otherP hkp BP) (Fr.box FR) (h.1 c))))))) (fun c=>q_ J (m_ ((h.2 c).elim fun _ j=>j.elim fun _ e=>cX_ (sec H0 (sec J sen)) e.1 (Nat.lt_succ_of_lt hkp) BP (fun _ k i=>m_ (e_ (w107_8 hQ hkp H0 H1 H4 J ((i.1 (d,0) (Nat.lt_succ_self d) (key_LP hkp)).trans B0) k (Fr.pass FR i) e.2))))))
include H0 H1 H4 H34 B0 BP FR in
theorem w107_6 (h:T107_6 prog K nest1 t34 m0 mP):W prog d c107_2 σ st (blockW 0 (thenW prog d (sR 25 r107_25 (sR 26 r107_26 .ret)) Q)):=
 cb_ H34 (fun c=>q_ J (s_build (f_cons J J (f_cons J J f_nil)) (so_ H4 B0 J J J (m_ (er_ (hQ _ _ _ _ _ _ _ _ H4 lk_here J (lk_otherP hkp BP) (Fr.box FR) (h.1 c))))))) (fun c=>q_ J (m_ ((h.2 c).elim fun _ j=>j.elim fun _ e=>cX_ (sec H0 (sec J sen)) e.1 (Nat.lt_succ_of_lt hkp) BP (fun _ k i=>m_ (e_ (w107_7 hQ hkp H0 H1 H4 J ((i.1 (d,0) (Nat.lt_succ_self d) (key_LP hkp)).trans B0) k (Fr.pass FR i) e.2))))))
include H0 H1 H4 H30 B0 BP FR in
theorem w107_5 (h:T107_5 prog K nest1 t30 m0 mP):W prog d c107_3 σ st (blockW 0 (thenW prog d (sR 25 r107_25 (sR 26 r107_26 .ret)) Q)):=
 cb_ H30 (fun c=>q_ J (s_build (f_cons J J f_nil) (so_ H4 B0 J J J (m_ (er_ (hQ _ _ _ _ _ _ _ _ H4 lk_here J (lk_otherP hkp BP) (Fr.box FR) (h.1 c))))))) (fun c=>q_ J (m_ ((h.2 c).elim fun _ j=>j.elim fun _ e=>cX_ (sec H0 (sec J sen)) e.1 (Nat.lt_succ_of_lt hkp) BP (fun _ k i=>m_ (e_ (w107_6 hQ hkp H0 H1 H4 J ((i.1 (d,0) (Nat.lt_succ_self d) (key_LP hkp)).trans B0) k (Fr.pass FR i) e.2))))))
include H0 H1 H4 H26 B0 BP FR in
theorem w107_4 (h:T107_4 prog K nest1 t26 m0 mP):W prog d c107_4 σ st (blockW 0 (thenW prog d (sR 25 r107_25 (sR 26 r107_26 .ret)) Q)):=
 cb_ H26 (fun c=>q_ J (s_build (f_cons J J f_nil) (so_ H4 B0 J J J (m_ (er_ (hQ _ _ _ _ _ _ _ _ H4 lk_here J (lk_otherP hkp BP) (Fr.box FR) (h.1 c))))))) (fun c=>q_ J (m_ ((h.2 c).elim fun _ j=>j.elim fun _ e=>cX_ (sec H0 (sec J sen)) e.1 (Nat.lt_succ_of_lt hkp) BP (fun _ k i=>m_ (e_ (w107_5 hQ hkp H0 H1 H4 J ((i.1 (d,0) (Nat.lt_succ_self d) (key_LP hkp)).trans B0) k (Fr.pass FR i) e.2))))))
include H0 H1 H4 H22 B0 BP FR in
theorem w107_3 (h:T107_3 prog K nest1 t22 m0 mP):W prog d c107_5 σ st (blockW 0 (thenW prog d (sR 25 r107_25 (sR 26 r107_26 .ret)) Q)):=
 cb_ H22 (fun c=>q_ J (s_build (f_cons J J (f_cons J J f_nil)) (so_ H4 B0 J J J (m_ (er_ (hQ _ _ _ _ _ _ _ _ H4 lk_here J (lk_otherP hkp BP) (Fr.box FR) (h.1 c))))))) (fun c=>q_ J (m_ ((h.2 c).elim fun _ j=>j.elim fun _ e=>cX_ (sec H0 (sec J sen)) e.1 (Nat.lt_succ_of_lt hkp) BP (fun _ k i=>m_ (e_ (w107_4 hQ hkp H0 H1 H4 J ((i.1 (d,0) (Nat.lt_succ_self d) (key_LP hkp)).trans B0) k (Fr.pass FR i) e.2))))))
include H0 H1 H4 B0 BP FR in
theorem w107_2 (h:T107_2 prog K nest1 m0 mP):W prog d c107_6 σ st Q:=
 sq_ (bk_ (q_ J (m_ (h.elim fun _ i=>i.elim fun _ c=>cX_ (sec H0 (sec J sen)) c.1 (Nat.lt_succ_of_lt hkp) BP (fun _ j e=>m_ (e_ (w107_3 hQ hkp H0 H1 H4 J ((e.1 (d,0) (Nat.lt_succ_self d) (key_LP hkp)).trans B0) j (Fr.pass FR e) c.2)))))))
include H0 H1 H4 B0 BP FR in
theorem w107_1 (h:T107_1 prog K nest1 m0 mP):W prog d c107_7 σ st Q:=
 sq_ (q_ J (s_mvI H1 (b_ J J eql_ (s_mvB J (em_ (g:=14) J (fun c=>z_ 6 J (e_ (ct_ J (q_ J (s_build f_nil (so_ H4 B0 J J J (m_ (er_ (hQ _ _ _ _ _ _ _ _ H4 lk_here J (lk_otherP hkp BP) (Fr.box FR) (h.1 c)))))))))) (fun c=>gy_ J (s_mv H0 (gy_ J (s_nilP J (gy_ J (f_ J (gy_ J (l_ J BP J J (gy_ J (b_ J J seq_ (pf_ J J (e_ (cs_ J (fun e=>q_ J (s_build f_nil (so_ H4 B0 J J J (m_ (er_ (hQ _ _ _ _ _ _ _ _ H4 lk_here J (lk_otherP hkp BP) (Fr.box FR) ((h.2 c).1 e))))))) (fun e=>sk_ (w107_2 hQ hkp H0 H1 H4 B0 BP FR ((h.2 c).2 e)))))))))))))))))))))
include H0 H1 BP FR in
theorem w107_0 (h:T107_0 prog K nest1 mP):W prog d (sR 0 r107_0 c107_7) σ st Q:=
 sq_ (W.reg (s_alloc (m_ (e_ (w107_1 (m0:=(Val.mk 0 0 [] ([]:List Val) false)) hQ hkp H0 H1 J (show lk _ (d,0)=some (_,([.i .u8 0,.i .i64 0,.s [],.sl .full (List.map Val.row ([]:List Val)),.b false]:List AV)) from lk_here) (lk_otherP hkp BP) (Fr.box FR) h)))))
end
theorem p107 {prog:Prog}(hf:prog.fn 107=some pf107){nest1:Int}{mP:Sc}{K:Val→Bool→Sc→Prop}(h:T107_0 prog K nest1 mP):PuXK prog 107 (Bx [.s mP.left]) [.i .i64 nest1] (fun r (b_:Sc)=>∃res0:Val,∃res1:Bool,(∃o_0:Own,r=.tup [res0.avo o_0,.b res1])∧K res0 res1 b_) (fun b_=>(Bx [.s b_.left])):=
  PuXK.of hf rfl (fun _=>Bx.out) fun d st kp vp hkp hB=>w107_0 (st0:=st) (Q:=fun e σ st'=>(e=.normal∨e=.ret)∧∃r b_,ares σ st' pf107.res=some r∧_∧_∧Fr d kp st.bx st.ow st'.bx st'.ow) (fun σ st' k0 v0 o_0 res0 res1 b_ H4 HB4 H5 hb hf hk=>⟨.inr rfl,.tup [res0.avo o_0,.b res1],b_,by simp only [pf107,ares,aresL,ares_cellA (n:=5) H4 HB4 rfl,H5,ares_tmp,Option.map_some,ares_cellA (n:=5) H4 HB4 rfl,H5],⟨res0,res1,⟨o_0,rfl⟩,hk⟩,hb,hf⟩) hkp (σ:=sl0 [.p kp vp 0,.i .i64 nest1]) rfl rfl hB Fr.refl h
def r74_0:List AI:=[oO 2 (.alloc [z8,z6,zs,zl,zb]),oI 3 0]
def r74_1:List AI:=[oM 9 0,oH 10 9,oV 11 .gtr 10 1400000]
def r74_2:List AI:=[oO 12 (.build [z8,z6,zs,zl,zb] []),oS 5 2 12,oI 3 4]
def r74_3:List AI:=[oM 13 0,oO 14 (.build [zs] [(0,1,(.t 13))]),oY 15 1 14,oM 4 15]
def r74_4:List AI:=[oM 17 4,oO 18 (.call true 107 [(.t 17),(.c (.i .i64 130))]),oM 16 18,oE 19 0 16,oE 20 1 16,oO 5 (.alloc [z8,z6,zs,zl,zb]),oS 5 5 19,oM 6 20]
def r74_5:List AI:=[oM 21 6,oZ 22 21,oM 23 22,gF 23 (oM 24 4),gF 23 (oN 25 24),gF 23 (oF 26 0 25),gF 23 (oL 27 26),gF 23 (oB 28 .neq (.t 27) (.c (.s []))),oR 29 23 28]
def r74_6:List AI:=[oO 30 (.build [z8,z6,zs,zl,zb] []),oS 5 2 30,oI 3 12]
def r74_7:List AI:=[oK 32 5 5,oQ 33 72 [32],oM 31 33,oE 34 0 31,oE 35 1 31,oM 7 34,oM 8 35]
def r74_8:List AI:=[oM 36 8,oV 37 .neq 36 0,oM 38 37,gF 38 (oM 39 7),gF 38 (oM 40 0),gF 38 (oT 41 .neq 39 40),oR 42 38 41]
def r74_9:List AI:=[oO 43 (.build [z8,z6,zs,zl,zb] []),oS 5 2 43,oI 3 12]
def r74_10:List AI:=[oK 44 5 5,oS 5 2 44,oI 3 0]
abbrev b74:AC:=(sR 0 r74_0 (.seq (sR 1 r74_1 (.cond (.t 11) (sR 2 r74_2 .ret) .skip)) (sR 3 r74_3 (sR 4 r74_4 (.seq (sR 5 r74_5 (.cond (.t 29) (sR 6 r74_6 .ret) .skip)) (.seq (sR 7 r74_7 (sR 8 r74_8 (.cond (.t 42) (sR 9 r74_9 .ret) .skip))) (sR 10 r74_10 .ret)))))))
def pf74:AF:={ nt:=45,res:=[.cell 2 5 true,.tmp 3],body:=b74 }
abbrev H74 (Q:AE→Sl→St→Prop)(K:Val→Int→Prop):Prop:=∀(σ:Sl)(st:St)(k0:Key)(v0:Nat)(o0_0:Own)(res0:Val)(res1:Int),σ 2=.p k0 v0 0→lk st.bx k0=some (v0,[.i .u8 res0.kind,.i .i64 res0.int,.s res0.text,.sl o0_0 (List.map Val.row res0.list),.b res0.cut])→σ 3=.i .i64 res1→K res0 res1→Q .ret σ st
def T74_0 (prog:Prog)(K:Val→Int→Prop)(s0:BS):Prop:=
  ((s0.length:Int)>1400000→K (Val.mk 0 0 [] ([]:List Val) false) 4)∧(¬((s0.length:Int)>1400000)→∃o:Val,∃j,∃c:Sc,PuX prog 107 (Bx [.s s0]) [.i .i64 130] (fun r=>∃o'4_0:Own,r=.tup [o.avo o'4_0,.b j]) ((Bx [.s c.left]))∧((!j)=true→K (Val.mk 0 0 [] ([]:List Val) false) 12)∧((!j)=false→(c.left≠([]:BS)→K (Val.mk 0 0 [] ([]:List Val) false) 12)∧(¬(c.left≠([]:BS))→∃e k,Pus prog 72 [o.av] (.tup [.s e,.i .i64 k])∧(k≠0→K (Val.mk 0 0 [] ([]:List Val) false) 12)∧(¬(k≠0)→(e≠s0→K (Val.mk 0 0 [] ([]:List Val) false) 12)∧(¬(e≠s0)→K o 0)))))
section
variable {prog:Prog}{d:Nat}{Q:AE→Sl→St→Prop}{K:Val→Int→Prop}(hQ:H74 Q K){σ:Sl}{st:St}
include hQ
variable {s0:BS}
variable (H0:σ 0=.s s0)
include H0 in
theorem w74_0 (h:T74_0 prog K s0):W prog d (sR 0 r74_0 (.seq (sR 1 r74_1 (.cond (.t 11) (sR 2 r74_2 .ret) .skip)) (sR 3 r74_3 (sR 4 r74_4 (.seq (sR 5 r74_5 (.cond (.t 29) (sR 6 r74_6 .ret) .skip)) (.seq (sR 7 r74_7 (sR 8 r74_8 (.cond (.t 42) (sR 9 r74_9 .ret) .skip))) (sR 10 r74_10 .ret))))))) σ st Q:=
 sq_ (W.reg (s_alloc (m_ (e_ (sq_ (q_ J (m_ (ln_ H0 (b_ J J gtr_ (e_ (cs_ J (fun p=>q_ J (s_build f_nil (so_ J (show lk _ (d,0)=some (_,([.i .u8 0,.i .i64 0,.s [],.sl .full (List.map Val.row ([]:List Val)),.b false]:List AV)) from lk_here) J J J (m_ (er_ (hQ _ _ _ _ _ _ _ J lk_here J (h.1 p))))))) (fun p=>sk_ (q_ J (m_ (s_build (f_cons H0 J f_nil) (s_box J J (m_ (e_ (sq_ (W.reg (m_ (x2 (h.2 p) fun _ _ u=>u.elim fun _ j=>s_callX1 (sec J (sec J sen)) j.1 (Nat.lt_succ_self d) (lk_other J lk_here) (fun o'4_0 _ v c=>m_ (x_ J J (x_ J J (s_alloc (so_ J ((c.1 (d,16389) (Nat.lt_succ_self d) (key_LL J)).trans (show lk _ (d,16389)=some (_,([.i .u8 0,.i .i64 0,.s [],.sl .full (List.map Val.row ([]:List Val)),.b false]:List AV)) from lk_here)) J J J (m_ (e_ (sq_ (q_ J (s_mvB J (nt_ J (s_mvB J (eb_ (g:=23) J (fun k=>z_ 6 J (e_ (ct_ J (q_ J (s_build f_nil (so_ J (lk_other J ((c.1 (d,0) (Nat.lt_succ_self d) (key_LL J)).trans (lk_other J (lk_other J (show lk _ (d,0)=some (_,([.i .u8 0,.i .i64 0,.s [],.sl .full (List.map Val.row ([]:List Val)),.b false]:List AV)) from lk_here))))) J J J (m_ (er_ (hQ _ _ _ _ _ _ _ J lk_here J (j.2.1 k)))))))))) (fun k=>gy_ J (s_mv J (gy_ J (s_nilP J (gy_ J (f_ J (gy_ J (l_ J (lk_other J v) J J (gy_ J (b_ J J sne_ (pf_ J J (e_ (cs_ J (fun q=>q_ J (s_build f_nil (so_ J (lk_other J ((c.1 (d,0) (Nat.lt_succ_self d) (key_LL J)).trans (lk_other J (lk_other J (show lk _ (d,0)=some (_,([.i .u8 0,.i .i64 0,.s [],.sl .full (List.map Val.row ([]:List Val)),.b false]:List AV)) from lk_here))))) J J J (m_ (er_ (hQ _ _ _ _ _ _ _ J lk_here J ((j.2.2 k).1 q))))))) (fun q=>sk_ (sq_ (q_ J (l_ J lk_here J J (x2 ((j.2.2 k).2 q) fun _ _ e=>ca_ (sc1 J J) e.1 (m_ (x_ J J (x_ J J (m_ (m_ (e_ (q_ J (s_mvI J (b_ J J neq_ (s_mvB J (em_ (g:=38) J (fun o=>z_ 4 J (e_ (ct_ J (q_ J (s_build f_nil (so_ J (lk_other J ((c.1 (d,0) (Nat.lt_succ_self d) (key_LL J)).trans (lk_other J (lk_other J (show lk _ (d,0)=some (_,([.i .u8 0,.i .i64 0,.s [],.sl .full (List.map Val.row ([]:List Val)),.b false]:List AV)) from lk_here))))) J J J (m_ (er_ (hQ _ _ _ _ _ _ _ J lk_here J (e.2.1 o)))))))))) (fun o=>gy_ J (s_mvS J (gy_ J (s_mvS H0 (gy_ J (b_ J J sne_ (pf_ J J (e_ (cs_ J (fun r=>q_ J (s_build f_nil (so_ J (lk_other J ((c.1 (d,0) (Nat.lt_succ_self d) (key_LL J)).trans (lk_other J (lk_other J (show lk _ (d,0)=some (_,([.i .u8 0,.i .i64 0,.s [],.sl .full (List.map Val.row ([]:List Val)),.b false]:List AV)) from lk_here))))) J J J (m_ (er_ (hQ _ _ _ _ _ _ _ J lk_here J ((e.2.2 o).1 r))))))) (fun r=>sk_ (q_ J (l_ J lk_here J J (so_ J (lk_other J ((c.1 (d,0) (Nat.lt_succ_self d) (key_LL J)).trans (lk_other J (lk_other J (show lk _ (d,0)=some (_,([.i .u8 0,.i .i64 0,.s [],.sl .full (List.map Val.row ([]:List Val)),.b false]:List AV)) from lk_here))))) J J J (m_ (er_ (hQ _ _ _ _ _ _ _ J lk_here J ((e.2.2 o).2 r)))))))))))))))))))))))))))))))))))))))))))))))))))))))))))))))))))))))))))))))))
end
theorem p74 {prog:Prog}(hf:prog.fn 74=some pf74){s0:BS}{K:Val→Int→Prop}(h:T74_0 prog K s0) :∃res0:Val,∃res1:Int,K res0 res1∧Pus prog 74 [.s s0] (.tup [res0.av,.i .i64 res1]):=by
  obtain ⟨v,hv,res0,res1,hk,rfl⟩:=Pus.of (K:=fun v=>∃res0:Val,∃res1:Int,K res0 res1∧v=.tup [res0.av,.i .i64 res1]) hf rfl (w74_0 (σ:=sl0 [.s s0]) (fun σ st k0 v0 o0_0 res0 res1 H2 HB2 H3 hk=>⟨.tup [res0.avo o0_0,.i .i64 res1],by simp only [pf74,ares,aresL,ares_cellA (n:=5) H2 HB2 rfl,H3,ares_tmp,Option.map_some],_,rfl,res0,res1,hk,rfl⟩) rfl h)
  exact ⟨res0,res1,hk,hv⟩
abbrev H75 (Q:AE→Sl→St→Prop)(K:Val→Int→Prop):Prop:=∀(σ:Sl)(st:St)(k0:Key)(v0:Nat)(o0_0:Own)(res0:Val)(res1:Int),σ 2=.p k0 v0 0→lk st.bx k0=some (v0,[.i .u8 res0.kind,.i .i64 res0.int,.s res0.text,.sl o0_0 (List.map Val.row res0.list),.b res0.cut])→σ 3=.i .i64 res1→K res0 res1→Q .ret σ st
section
variable {prog:Prog}{d:Nat}{Q:AE→Sl→St→Prop}{K:Val→Int→Prop}(hQ:H75 Q K){σ:Sl}{st:St}
include hQ
end
abbrev H108 (Q:AE→Sl→St→Prop)(K:Val→BS→Bool→Prop):Prop:=∀(σ:Sl)(st:St)(k0:Key)(v0:Nat)(o0_0:Own)(res0:Val)(res1:BS)(res2:Bool),σ 4=.p k0 v0 0→lk st.bx k0=some (v0,[.i .u8 res0.kind,.i .i64 res0.int,.s res0.text,.sl o0_0 (List.map Val.row res0.list),.b res0.cut])→σ 5=.s res1→σ 6=.b res2→K res0 res1 res2→Q .ret σ st
section
variable {prog:Prog}{d:Nat}{Q:AE→Sl→St→Prop}{K:Val→BS→Bool→Prop}(hQ:H108 Q K){σ:Sl}{st:St}
include hQ
end
abbrev H132 (Q:AE→Sl→St→Prop)(K:Bool→Prop):Prop:=∀(σ:Sl)(st:St)(res0:Bool),σ 4=.b res0→K res0→Q .ret σ st
section
variable {prog:Prog}{d:Nat}{Q:AE→Sl→St→Prop}{K:Bool→Prop}(hQ:H132 Q K){σ:Sl}{st:St}
include hQ
end
abbrev H133 (Q:AE→Sl→St→Prop)(K:Val→BS→Bool→Prop):Prop:=∀(σ:Sl)(st:St)(k0:Key)(v0:Nat)(o0_0:Own)(res0:Val)(res1:BS)(res2:Bool),σ 8=.p k0 v0 0→lk st.bx k0=some (v0,[.i .u8 res0.kind,.i .i64 res0.int,.s res0.text,.sl o0_0 (List.map Val.row res0.list),.b res0.cut])→σ 9=.s res1→σ 10=.b res2→K res0 res1 res2→Q .ret σ st
section
variable {prog:Prog}{d:Nat}{Q:AE→Sl→St→Prop}{K:Val→BS→Bool→Prop}(hQ:H133 Q K){σ:Sl}{st:St}
include hQ
end
abbrev H134 (Q:AE→Sl→St→Prop)(K:Int→Prop):Prop:=∀(σ:Sl)(st:St)(res0:Int),σ 2=.i .i64 res0→K res0→Q .ret σ st
section
variable {prog:Prog}{d:Nat}{Q:AE→Sl→St→Prop}{K:Int→Prop}(hQ:H134 Q K){σ:Sl}{st:St}
include hQ
end
abbrev H135 (Q:AE→Sl→St→Prop)(K:Int→Prop):Prop:=∀(σ:Sl)(st:St)(res0:Int),σ 2=.i .i64 res0→K res0→Q .ret σ st
section
variable {prog:Prog}{d:Nat}{Q:AE→Sl→St→Prop}{K:Int→Prop}(hQ:H135 Q K){σ:Sl}{st:St}
include hQ
end
def r78_0:List AI:=[oY 2 5 0,oY 3 5 1,oC 4 (.b false)]
def r78_1:List AI:=[oF 6 0 2,oL 7 6,oF 8 0 3,oL 9 8,oT 10 .neq 7 9,oM 11 10,gF 11 (oF 12 1 2),gF 11 (oL 13 12),gF 11 (oF 14 1 3),gF 11 (oL 15 14),gF 11 (oT 16 .neq 13 15),oR 17 11 16,oM 18 17,gF 18 (oF 19 2 2),gF 18 (oL 20 19),gF 18 (oF 21 2 3),gF 18 (oL 22 21),gF 18 (oT 23 .neq 20 22),oR 24 18 23,oM 25 24,gF 25 (oF 26 4 2),gF 25 (oL 27 26),gF 25 (oF 28 4 3),gF 25 (oL 29 28),gF 25 (oO 30 (.beq true (.t 27) (.t 29))),oR 31 25 30,oM 32 31,gF 32 (oF 33 3 2),gF 32 (oL 34 33),gF 32 (oJ 35 34),gF 32 (oF 36 3 3),gF 32 (oL 37 36),gF 32 (oJ 38 37),gF 32 (oT 39 .neq 35 38),oR 40 32 39]
def r78_2:List AI:=[oC 4 (.b false)]
def r78_3:List AI:=[oI 5 0]
def r78_4:List AI:=[oM 41 5,oF 42 3 2,oL 43 42,oJ 44 43,oT 45 .lss 41 44]
def r78_5:List AI:=[oF 48 3 2,oL 49 48,oM 50 5,oX 51 5 49 50,oK 52 5 51,oF 53 3 3,oL 54 53,oM 55 5,oX 56 5 54 55,oK 57 5 56,oQ 58 78 [52,57],oZ 59 58]
def r78_6:List AI:=[oC 4 (.b false)]
def r78_7:List AI:=[oM 46 5,oV 47 .add 46 1,oM 5 47]
def r78_8:List AI:=[oC 4 (.b true)]
abbrev l78_0:AC:=(.seq (sR 4 r78_4 (.cond (.t 45) .skip (.exit 0))) (.seq (.block 1 (sR 6 r78_5 (.cond (.t 59) (sR 7 r78_6 .ret) .skip))) (.reg 5 r78_7)))
abbrev c78_1:AC:=(sR 8 r78_8 .ret)
abbrev b78:AC:=(sR 0 r78_0 (.seq (sR 1 r78_1 (.cond (.t 40) (sR 2 r78_2 .ret) .skip)) (.seq (sR 3 r78_3 (.block 0 (.loop l78_0))) c78_1)))
def pf78:AF:={ nt:=60,res:=[.tmp 4],body:=b78 }
abbrev I78_0 (prog:Prog)(d:Nat)(Q:AE→Sl→St→Prop)(i5:Int)(m0:Val)(m1:Val):Prop:=
  ∀(σ:Sl)(st:St) (v0 v1:Nat),σ 2=.p (d,0) v0 0→σ 3=.p (d,1) v1 0→σ 5=.i .i64 i5→lk st.bx (d,0)=some (v0,Val.cs m0)→lk st.bx (d,1)=some (v1,Val.cs m1)→W prog d (.loop l78_0) σ st (blockW 0 (thenW prog d c78_1 Q))
def T78_2 (prog:Prog)(K:Bool→Prop) :Prop:=
  K true
def T78_1 (prog:Prog)(K:Bool→Prop)(P0:Int→Val→Val→Prop)(i5:Int)(m0:Val)(m1:Val):Prop:=
  (i5<(m0.list.length:Int)→0≤i5∧∃e:Val,m0.list[(i5).toNat]?=some e∧0≤i5∧∃i:Val,m1.list[(i5).toNat]?=some i∧∃c,Pus prog 78 [e.av,i.av] (.b c)∧((!c)=true→K false)∧((!c)=false→P0 (IntKind.i64.wrap (i5+1)) m0 m1))∧(¬(i5<(m0.list.length:Int))→T78_2 prog K )
def T78_0 (prog:Prog)(K:Bool→Prop)(a0:Val)(b1:Val):Prop:=
  (a0.kind≠b1.kind→K false)∧(¬(a0.kind≠b1.kind)→(a0.int≠b1.int→K false)∧(¬(a0.int≠b1.int)→(a0.text≠b1.text→K false)∧(¬(a0.text≠b1.text)→(a0.cut≠b1.cut→K false)∧(¬(a0.cut≠b1.cut)→((a0.list.length:Int)≠(b1.list.length:Int)→K false)∧(¬((a0.list.length:Int)≠(b1.list.length:Int))→∀P0:Int→Val→Val→Prop,(∀(i5:Int)(m0:Val)(m1:Val),T78_1 prog K P0 i5 m0 m1→P0 i5 m0 m1)→P0 0 a0 b1)))))
section
variable {prog:Prog}{d:Nat}{Q:AE→Sl→St→Prop}{K:Bool→Prop}(hQ:H1 AV.b 4 Q K){σ:Sl}{st:St}
include hQ
variable {i5:Int}{m0 m1:Val}{P0:Int→Val→Val→Prop}{v0 v1:Nat}{a0 b1:Val}
variable (kP0 :∀(i5:Int)(m0:Val)(m1:Val),P0 i5 m0 m1→I78_0 prog d Q i5 m0 m1)(H0:σ 0=a0.av)(H2:σ 2=.p (d,0) v0 0)(H1:σ 1=b1.av)(H3:σ 3=.p (d,1) v1 0)(H5:σ 5=.i .i64 i5)(B0:lk st.bx (d,0)=some (v0,Val.cs m0))(B1:lk st.bx (d,1)=some (v1,Val.cs m1))
theorem w78_2 (h:T78_2 prog K ):W prog d c78_1 σ st Q:=
 au trivial
include kP0 H2 H3 H5 B0 B1 in
theorem w78_1 (h:T78_1 prog K P0 i5 m0 m1):W prog d l78_0 σ st (thenW prog d (.loop l78_0) (blockW 0 (thenW prog d c78_1 Q))):=
 au @w78_2
include H0 H1 in
theorem w78_0 (h:T78_0 prog K a0 b1):W prog d (sR 0 r78_0 (.seq (sR 1 r78_1 (.cond (.t 40) (sR 2 r78_2 .ret) .skip)) (.seq (sR 3 r78_3 (.block 0 (.loop l78_0))) c78_1))) σ st Q:=
 q_ J (s_box H0 J (s_box H1 J (m_ (e_ (sq_ (q_ J (f_ J (l_ J (lk_other J lk_here) J J (f_ J (l_ J lk_here J J (b_ J J neq_ (s_mvB J (em_ (g:=11) J (fun c=>z_ 29 J (e_ (ct_ J (q_ J (m_ (er_ (hQ J (h.1 c)))))))) (fun c=>gy_ J (f_ J (gy_ J (l_ J (lk_other J lk_here) J J (gy_ J (f_ J (gy_ J (l_ J lk_here J J (gy_ J (b_ J J neq_ (z_ 2 J (em_ (g:=18) J (fun e=>z_ 22 J (e_ (ct_ J (q_ J (m_ (er_ (hQ J ((h.2 c).1 e)))))))) (fun e=>gy_ J (f_ J (gy_ J (l_ J (lk_other J lk_here) J J (gy_ J (f_ J (gy_ J (l_ J lk_here J J (gy_ J (b_ J J sne_ (z_ 2 J (em_ (g:=25) J (fun i=>z_ 15 J (e_ (ct_ J (q_ J (m_ (er_ (hQ J (((h.2 c).2 e).1 i)))))))) (fun i=>gy_ J (f_ J (gy_ J (l_ J (lk_other J lk_here) J J (gy_ J (f_ J (gy_ J (l_ J lk_here J J (gy_ J (s_bne J J (z_ 2 J (em_ (g:=32) J (fun j=>z_ 8 J (e_ (ct_ J (q_ J (m_ (er_ (hQ J ((((h.2 c).2 e).2 i).1 j)))))))) (fun j=>gy_ J (f_ J (gy_ J (l_ J (lk_other J lk_here) J J (gy_ J (ll_ J (gy_ J (f_ J (gy_ J (l_ J lk_here J J (gy_ J (ll_ J (gy_ J (b_ J J neq_ (pf_ J J (e_ (cs_ J (fun k=>q_ J (m_ (er_ (hQ J (((((h.2 c).2 e).2 i).2 j).1 k))))) (fun k=>sk_ (sq_ (q_ J (m_ (e_ (bk_ ((((((h.2 c).2 e).2 i).2 j).2 k) (I78_0 prog d Q ) (fun _ _ _ hb _ _ _ _ H2 H3 H5 B0 B1=>W.loop (w78_1 hQ (fun _ _ _ x=>x) H2 H3 H5 B0 B1 hb)) _ _ _ _ J J J (lk_other J lk_here) lk_here)))))))))))))))))))))))))))))))))))))))))))))))))))))))))))))))))))))))))
end
theorem p78 {prog:Prog}(hf:prog.fn 78=some pf78){a0:Val}{b1:Val}{K:Bool→Prop}(h:T78_0 prog K a0 b1) :∃res0:Bool,K res0∧Pus prog 78 [a0.av,b1.av] (.b res0):=
 P1 hf J (w78_0 (h1 J fun _=>J) J J h)
end Go.AM

namespace Go.AM
open Go
set_option maxRecDepth 4000
set_option maxHeartbeats 2000000
attribute [local irreducible] Decidable.decide W WO fillCells fillRows
def r130_0:List AI:=[oC 2 (.s []),oC 3 (.b false)]
def r130_1:List AI:=[oI 4 1]
def r130_2:List AI:=[oM 8 4,oM 9 0,oN 10 9,oF 11 0 10,oL 12 11,oH 13 12,oT 14 .geq 8 13,oM 7 14]
def r130_3:List AI:=[oC 2 (.s []),oC 3 (.b false)]
def r130_4:List AI:=[oM 16 0,oN 17 16,oF 18 0 17,oL 19 18,oM 20 4,oO 21 (.ixS (.t 19) (.t 20)),oW 22 .eql 21 92,oM 15 22]
def r130_5:List AI:=[oM 23 4,oV 24 .add 23 2,oM 4 24]
def r130_6:List AI:=[oM 26 0,oN 27 26,oF 28 0 27,oL 29 28,oM 30 4,oO 31 (.ixS (.t 29) (.t 30)),oW 32 .neq 31 34,oM 25 32]
def r130_7:List AI:=[oM 33 4,oV 34 .add 33 1,oM 4 34]
def r130_8:List AI:=[oM 36 0,oN 37 36,oF 38 0 37,oL 39 38,oM 40 4,oV 41 .add 40 1,oO 42 (.slS (.t 39) none (some (.t 41))),oQ 43 25 [42],oM 35 43,oE 44 0 35,oE 45 1 35,oM 5 44,oM 6 45]
def r130_9:List AI:=[oM 46 0,oM 47 0,oN 48 47,oF 49 0 48,oL 50 49,oM 51 4,oV 52 .add 51 1,oO 53 (.slS (.t 50) (some (.t 52)) none),oN 54 46,oF 55 0 54,oS 1 55 53]
def r130_10:List AI:=[oM 56 5,oM 57 6,oV 58 .eql 57 0,oM 2 56,oM 3 58]
abbrev l130_0:AC:=(.seq (.block 0 (sR 2 r130_2 (.cond (.t 7) (sR 3 r130_3 .ret) (sR 4 r130_4 (.cond (.t 15) (sR 5 r130_5 (.goto 0)) (sR 6 r130_6 (.cond (.t 25) (sR 7 r130_7 (.goto 0)) .skip))))))) (sR 8 r130_8 (sR 9 r130_9 (sR 10 r130_10 .ret))))
abbrev c130_1:AC:=(.gscope 0 (.reg 1 r130_1) l130_0)
abbrev b130:AC:=(sR 0 r130_0 c130_1)
def pf130:AF:={ nt:=59,res:=[.tmp 2,.tmp 3],body:=b130 }
abbrev H130 (d:Nat)(st0:St)(kp:Key)(vp:Nat)(Q:AE→Sl→St→Prop)(K:BS→Bool→Sc→Prop):Prop:=∀(σ:Sl)(st:St)(res0:BS)(res1:Bool)(b_:Sc),σ 2=.s res0→σ 3=.b res1→lk st.bx kp=some (vp,[.s b_.left])→Fr d kp st0.bx st0.ow st.bx st.ow→K res0 res1 b_→Q .ret σ st
abbrev I130_0 (prog:Prog)(d:Nat)(Q:AE→Sl→St→Prop)(st0:St)(kp:Key)(vp:Nat)(n4:Int)(mP:Sc):Prop:=
  ∀(σ:Sl)(st:St),σ 0=.p kp vp 0→σ 4=.i .i64 n4→lk st.bx kp=some (vp,[.s mP.left])→Fr d kp st0.bx st0.ow st.bx st.ow→WG prog d 0 l130_0 σ st Q
def T130_2 (prog:Prog)(K:BS→Bool→Sc→Prop)(P0:Int→Sc→Prop)(n4:Int)(mP:Sc):Prop:=
  (n4≥(mP.left.length:Int)→K ([]:BS) false mP)∧(¬(n4≥(mP.left.length:Int))→0≤n4∧∃c:UInt8,mP.left[(n4).toNat]?=some c∧((c.toNat:Int)=92→P0 (IntKind.i64.wrap (n4+2)) mP)∧(¬((c.toNat:Int)=92)→0≤n4∧∃e:UInt8,mP.left[(n4).toNat]?=some e∧((e.toNat:Int)≠34→P0 (IntKind.i64.wrap (n4+1)) mP)∧(¬((e.toNat:Int)≠34)→0≤(IntKind.i64.wrap (n4+1))∧(IntKind.i64.wrap (n4+1)).toNat≤mP.left.length∧∃k j,Pus prog 25 [.s (mP.left.take (IntKind.i64.wrap (n4+1)).toNat)] (.tup [.s k,.i .i64 j])∧0≤(IntKind.i64.wrap (n4+1))∧(IntKind.i64.wrap (n4+1)).toNat≤mP.left.length∧K k (decide (j=0)) (Sc.mk (mP.left.drop (IntKind.i64.wrap (n4+1)).toNat)))))
def T130_1 (prog:Prog)(K:BS→Bool→Sc→Prop)(mP:Sc):Prop:=
  ∀P0:Int→Sc→Prop,(∀(n4:Int)(mP:Sc),T130_2 prog K P0 n4 mP→P0 n4 mP)→P0 1 mP
def T130_0 (prog:Prog)(K:BS→Bool→Sc→Prop)(mP:Sc):Prop:=
  T130_1 prog K mP
section
variable {prog:Prog}{d:Nat}{Q:AE→Sl→St→Prop}{K:BS→Bool→Sc→Prop}{st0:St}{kp:Key}{vp:Nat}(hQ:H130 d st0 kp vp Q K)(hkp:kp.1<d){σ:Sl}{st:St}
include hQ hkp
variable {n4:Int}{mP:Sc}{P0:Int→Sc→Prop}
variable (kP0 :∀(n4:Int)(mP:Sc),P0 n4 mP→I130_0 prog d Q st0 kp vp n4 mP)(H0:σ 0=.p kp vp 0)(H4:σ 4=.i .i64 n4)(BP:lk st.bx kp=some (vp,[.s mP.left]))(FR:Fr d kp st0.bx st0.ow st.bx st.ow)
include kP0 H0 H4 BP FR in
theorem w130_2 (h:T130_2 prog K P0 n4 mP):W prog d l130_0 σ st (jumpW prog d 0 l130_0 Q):=
 sq_ (bk_ (q_ J (m_ (m_ (s_nilP H0 (f_ J (l_ J BP J J (ln_ J (b_ H4 J geq_ (m_ (e_ (cs_ J (fun k=>q_ J (m_ (m_ (er_ (hQ _ _ _ _ _ J J BP FR (h.1 k)))))) (fun k=>q_ J (m_ (s_nilP H0 (f_ J (l_ J BP J J (m_ ((h.2 k).2.elim fun _ j=>s_ixS J H4 (h.2 k).1 j.1 (b_ J J eql_ (m_ (e_ (cs_ J (fun o=>q_ J (m_ (b_ H4 J add_ (m_ (e_ (W.goto ⟨rfl,kP0 _ _ (j.2.1 o) _ _ H0 J BP FR⟩)))))) (fun o=>q_ J (m_ (s_nilP H0 (f_ J (l_ J BP J J (m_ ((j.2.2 o).2.elim fun _ c=>s_ixS J H4 (j.2.2 o).1 c.1 (b_ J J neq_ (m_ (e_ (cs_ J (fun e=>q_ J (m_ (b_ H4 J add_ (m_ (e_ (W.goto ⟨rfl,kP0 _ _ (c.2.1 e) _ _ H0 J BP FR⟩)))))) (fun e=>sk_ (q_ J (m_ (s_nilP H0 (f_ J (l_ J BP J J (m_ (b_ H4 J add_ (s_slS_hi J J (c.2.2 e).1 (c.2.2 e).2.1 (x2 (c.2.2 e).2.2 fun _ _ i=>ca_ (sc1 J J) i.1 (m_ (x_ J J (x_ J J (m_ (m_ (e_ (q_ J (m_ (m_ (s_nilP H0 (f_ J (l_ J BP J J (m_ (b_ H4 J add_ (s_slS_lo J J i.2.1 i.2.2.1 (s_nilP H0 (f_ J (so_ J BP J J J (e_ (q_ J (m_ (m_ (b_ J J eql_ (m_ (m_ (er_ (hQ _ _ _ _ _ J J lk_here (Fr.own FR) i.2.2.2)))))))))))))))))))))))))))))))))))))))))))))))))))))))))))))))))))))))
include H0 BP FR in
theorem w130_1 (h:T130_1 prog K mP):W prog d c130_1 σ st Q:=
 W.gscope' (W.reg0 J fun _ _=>m_ (e_ (h (I130_0 prog d Q st0 kp vp ) (fun _ _ hb _ _ H0 H4 BP FR=>WG.step (w130_2 hQ hkp (fun _ _ x=>x) H0 H4 BP FR hb)) _ _ H0 J BP FR)))
include H0 BP FR in
theorem w130_0 (h:T130_0 prog K mP):W prog d (sR 0 r130_0 c130_1) σ st Q:=
 au @w130_1
end
theorem p130 {prog:Prog}(hf:prog.fn 130=some pf130){mP:Sc}{K:BS→Bool→Sc→Prop}(h:T130_0 prog K mP):PuXK prog 130 (Bx [.s mP.left]) [] (fun r (b_:Sc)=>∃res0:BS,∃res1:Bool,(r=.tup [.s res0,.b res1])∧K res0 res1 b_) (fun b_=>(Bx [.s b_.left])):=
  PuXK.of hf rfl (fun _=>Bx.out) fun d st kp vp hkp hB=>w130_0 (st0:=st) (Q:=fun e σ st'=>(e=.normal∨e=.ret)∧∃r b_,ares σ st' pf130.res=some r∧_∧_∧Fr d kp st.bx st.ow st'.bx st'.ow) (fun σ st'   res0 res1 b_ H2 H3 hb hf hk=>⟨.inr rfl,.tup [.s res0,.b res1],b_,by simp only [pf130,ares,aresL,H2,H3,ares1,Option.map_some,H2,H3],⟨res0,res1,rfl,hk⟩,hb,hf⟩) hkp (σ:=sl0 [.p kp vp 0]) rfl hB Fr.refl h
def r131_0:List AI:=[oI 2 0,oC 3 (.b false)]
def r131_1:List AI:=[oI 4 0]
def r131_2:List AI:=[oM 7 4,oM 8 0,oN 9 8,oF 10 0 9,oL 11 10,oH 12 11,oT 13 .lss 7 12,oM 14 13,gT 14 (oM 15 0),gT 14 (oN 16 15),gT 14 (oF 17 0 16),gT 14 (oL 18 17),gT 14 (oM 19 4),gT 14 (oO 20 (.ixS (.t 18) (.t 19))),gT 14 (oW 21 .geq 20 48),gT 14 (oM 22 21),gT 22 (oM 23 0),gT 22 (oN 24 23),gT 22 (oF 25 0 24),gT 22 (oL 26 25),gT 22 (oM 27 4),gT 22 (oO 28 (.ixS (.t 26) (.t 27))),gT 22 (oW 29 .leq 28 57),gT 14 (oA 30 22 29),gT 14 (oM 31 30),gF 31 (oM 32 4),gF 31 (oV 33 .eql 32 0),gF 31 (oM 34 33),gT 34 (oM 35 0),gT 34 (oN 36 35),gT 34 (oF 37 0 36),gT 34 (oL 38 37),gT 34 (oM 39 4),gT 34 (oO 40 (.ixS (.t 38) (.t 39))),gT 34 (oW 41 .eql 40 45),gF 31 (oA 42 34 41),gT 14 (oR 43 31 42),oA 44 14 43]
def r131_3:List AI:=[oM 45 4,oV 46 .add 45 1,oM 4 46]
def r131_4:List AI:=[oM 48 0,oN 49 48,oF 50 0 49,oL 51 50,oM 52 4,oO 53 (.slS (.t 51) none (some (.t 52))),oQ 54 21 [53],oM 47 54,oE 55 0 47,oE 56 1 47,oM 5 55,oM 6 56]
def r131_5:List AI:=[oM 57 0,oM 58 0,oN 59 58,oF 60 0 59,oL 61 60,oM 62 4,oO 63 (.slS (.t 61) (some (.t 62)) none),oN 64 57,oF 65 0 64,oS 1 65 63]
def r131_6:List AI:=[oM 66 5,oM 67 6,oV 68 .eql 67 0,oM 2 66,oM 3 68]
abbrev l131_0:AC:=(.seq (sR 2 r131_2 (.cond (.t 44) (sR 3 r131_3 (.goto 0)) .skip)) (sR 4 r131_4 (sR 5 r131_5 (sR 6 r131_6 .ret))))
abbrev c131_1:AC:=(.gscope 0 (.reg 1 r131_1) l131_0)
abbrev b131:AC:=(sR 0 r131_0 c131_1)
def pf131:AF:={ nt:=69,res:=[.tmp 2,.tmp 3],body:=b131 }
abbrev H131 (d:Nat)(st0:St)(kp:Key)(vp:Nat)(Q:AE→Sl→St→Prop)(K:Int→Bool→Sc→Prop):Prop:=∀(σ:Sl)(st:St)(res0:Int)(res1:Bool)(b_:Sc),σ 2=.i .i64 res0→σ 3=.b res1→lk st.bx kp=some (vp,[.s b_.left])→Fr d kp st0.bx st0.ow st.bx st.ow→K res0 res1 b_→Q .ret σ st
abbrev I131_0 (prog:Prog)(d:Nat)(Q:AE→Sl→St→Prop)(st0:St)(kp:Key)(vp:Nat)(n4:Int)(mP:Sc):Prop:=
  ∀(σ:Sl)(st:St),σ 0=.p kp vp 0→σ 4=.i .i64 n4→lk st.bx kp=some (vp,[.s mP.left])→Fr d kp st0.bx st0.ow st.bx st.ow→WG prog d 0 l131_0 σ st Q
def T131_2 (prog:Prog)(K:Int→Bool→Sc→Prop)(P0:Int→Sc→Prop)(n4:Int)(mP:Sc):Prop:=
  (n4<(mP.left.length:Int)→0≤n4∧∃c:UInt8,mP.left[(n4).toNat]?=some c∧((c.toNat:Int)≥48→0≤n4∧∃j:UInt8,mP.left[(n4).toNat]?=some j∧((j.toNat:Int)≤57→P0 (IntKind.i64.wrap (n4+1)) mP)∧(¬((j.toNat:Int)≤57)→(n4=0→0≤n4∧∃e:UInt8,mP.left[(n4).toNat]?=some e∧((e.toNat:Int)=45→P0 (IntKind.i64.wrap (n4+1)) mP)∧(¬((e.toNat:Int)=45)→0≤n4∧(n4).toNat≤mP.left.length∧∃u y,Pus prog 21 [.s (mP.left.take (n4).toNat)] (.tup [.i .i64 u,.i .i64 y])∧0≤n4∧(n4).toNat≤mP.left.length∧K u (decide (y=0)) (Sc.mk (mP.left.drop (n4).toNat))))∧(¬(n4=0)→0≤n4∧(n4).toNat≤mP.left.length∧∃x o,Pus prog 21 [.s (mP.left.take (n4).toNat)] (.tup [.i .i64 x,.i .i64 o])∧0≤n4∧(n4).toNat≤mP.left.length∧K x (decide (o=0)) (Sc.mk (mP.left.drop (n4).toNat)))))∧(¬((c.toNat:Int)≥48)→(n4=0→0≤n4∧∃k:UInt8,mP.left[(n4).toNat]?=some k∧((k.toNat:Int)=45→P0 (IntKind.i64.wrap (n4+1)) mP)∧(¬((k.toNat:Int)=45)→0≤n4∧(n4).toNat≤mP.left.length∧∃w p,Pus prog 21 [.s (mP.left.take (n4).toNat)] (.tup [.i .i64 w,.i .i64 p])∧0≤n4∧(n4).toNat≤mP.left.length∧K w (decide (p=0)) (Sc.mk (mP.left.drop (n4).toNat))))∧(¬(n4=0)→0≤n4∧(n4).toNat≤mP.left.length∧∃v r,Pus prog 21 [.s (mP.left.take (n4).toNat)] (.tup [.i .i64 v,.i .i64 r])∧0≤n4∧(n4).toNat≤mP.left.length∧K v (decide (r=0)) (Sc.mk (mP.left.drop (n4).toNat)))))∧(¬(n4<(mP.left.length:Int))→0≤n4∧(n4).toNat≤mP.left.length∧∃q z,Pus prog 21 [.s (mP.left.take (n4).toNat)] (.tup [.i .i64 q,.i .i64 z])∧0≤n4∧(n4).toNat≤mP.left.length∧K q (decide (z=0)) (Sc.mk (mP.left.drop (n4).toNat)))
def T131_1 (prog:Prog)(K:Int→Bool→Sc→Prop)(mP:Sc):Prop:=
  ∀P0:Int→Sc→Prop,(∀(n4:Int)(mP:Sc),T131_2 prog K P0 n4 mP→P0 n4 mP)→P0 0 mP
def T131_0 (prog:Prog)(K:Int→Bool→Sc→Prop)(mP:Sc):Prop:=
  T131_1 prog K mP
section
variable {prog:Prog}{d:Nat}{Q:AE→Sl→St→Prop}{K:Int→Bool→Sc→Prop}{st0:St}{kp:Key}{vp:Nat}(hQ:H131 d st0 kp vp Q K)(hkp:kp.1<d){σ:Sl}{st:St}
include hQ hkp
variable {n4:Int}{mP:Sc}{P0:Int→Sc→Prop}
variable (kP0 :∀(n4:Int)(mP:Sc),P0 n4 mP→I131_0 prog d Q st0 kp vp n4 mP)(H0:σ 0=.p kp vp 0)(H4:σ 4=.i .i64 n4)(BP:lk st.bx kp=some (vp,[.s mP.left]))(FR:Fr d kp st0.bx st0.ow st.bx st.ow)
include kP0 H0 H4 BP FR in
theorem w131_2 (h:T131_2 prog K P0 n4 mP):W prog d l131_0 σ st (jumpW prog d 0 l131_0 Q):=
 sq_ (q_ J (s_mvI H4 (s_mv H0 (s_nilP J (f_ J (l_ J BP J J (ln_ J (b_ J J lss_ (s_mvB J (em_ (g:=14) J (fun k=>gy_ J (s_mv H0 (gy_ J (s_nilP J (gy_ J (f_ J (gy_ J (l_ J BP J J (gy_ J (s_mvI H4 (gy_ J ((h.1 k).2.elim fun _ c=>s_ixS J J (h.1 k).1 c.1 (gy_ J (b_ J J geq_ (gy_ J (s_mvB J (em_ (g:=22) J (fun e=>gy_ J (s_mv H0 (gy_ J (s_nilP J (gy_ J (f_ J (gy_ J (l_ J BP J J (gy_ J (s_mvI H4 (gy_ J ((c.2.1 e).2.elim fun _ i=>s_ixS J J (c.2.1 e).1 i.1 (gy_ J (b_ J J leq_ (gy_ J (pt_ J J (gy_ J (s_mvB J (em_ (g:=31) J (fun j=>z_ 3 J (gt_ J (gt_ J (gt_ J (gt_ J (gt_ J (gt_ J (gt_ J (nT J (gy_ J (z_ 2 J (e_ (ct_ J (q_ J (m_ (b_ H4 J add_ (m_ (e_ (W.goto ⟨rfl,kP0 _ _ (i.2.1 j) _ _ H0 J BP FR⟩))))))))))))))))))) (fun j=>gy_ J (s_mvI H4 (gy_ J (b_ J J eql_ (gy_ J (s_mvB J (em_ (g:=34) J (fun p=>gy_ J (s_mv H0 (gy_ J (s_nilP J (gy_ J (f_ J (gy_ J (l_ J BP J J (gy_ J (s_mvI H4 (gy_ J (((i.2.2 j).1 p).2.elim fun _ q=>s_ixS J J ((i.2.2 j).1 p).1 q.1 (gy_ J (b_ J J eql_ (gy_ J (pt_ J J (gy_ J (z_ 2 J (e_ (cs_ J (fun s=>q_ J (m_ (b_ H4 J add_ (m_ (e_ (W.goto ⟨rfl,kP0 _ _ (q.2.1 s) _ _ H0 J BP FR⟩)))))) (fun s=>sk_ (q_ J (m_ (s_nilP H0 (f_ J (l_ J BP J J (m_ (s_slS_hi J H4 (q.2.2 s).1 (q.2.2 s).2.1 (x2 (q.2.2 s).2.2 fun _ _ v=>ca_ (sc1 J J) v.1 (m_ (x_ J J (x_ J J (m_ (m_ (e_ (q_ J (m_ (m_ (s_nilP H0 (f_ J (l_ J BP J J (m_ (s_slS_lo J H4 v.2.1 v.2.2.1 (s_nilP H0 (f_ J (so_ J BP J J J (e_ (q_ J (m_ (m_ (b_ J J eql_ (m_ (m_ (er_ (hQ _ _ _ _ _ J J lk_here (Fr.own FR) v.2.2.2))))))))))))))))))))))))))))))))))))))))))))))))))))))) (fun p=>z_ 7 J (gy_ J (pf_ J J (gy_ J (z_ 2 J (e_ (cf_ J (sk_ (q_ J (m_ (s_nilP H0 (f_ J (l_ J BP J J (m_ (s_slS_hi J H4 ((i.2.2 j).2 p).1 ((i.2.2 j).2 p).2.1 (x2 ((i.2.2 j).2 p).2.2 fun _ _ w=>ca_ (sc1 J J) w.1 (m_ (x_ J J (x_ J J (m_ (m_ (e_ (q_ J (m_ (m_ (s_nilP H0 (f_ J (l_ J BP J J (m_ (s_slS_lo J H4 w.2.1 w.2.2.1 (s_nilP H0 (f_ J (so_ J BP J J J (e_ (q_ J (m_ (m_ (b_ J J eql_ (m_ (m_ (er_ (hQ _ _ _ _ _ J J lk_here (Fr.own FR) w.2.2.2)))))))))))))))))))))))))))))))))))))))))))))))))))))))))))))))))))) (fun e=>z_ 7 J (gy_ J (pf_ J J (gy_ J (s_mvB J (gy_ J (s_mvI H4 (gy_ J (b_ J J eql_ (gy_ J (s_mvB J (em_ (g:=34) J (fun o=>gy_ J (s_mv H0 (gy_ J (s_nilP J (gy_ J (f_ J (gy_ J (l_ J BP J J (gy_ J (s_mvI H4 (gy_ J (((c.2.2 e).1 o).2.elim fun _ r=>s_ixS J J ((c.2.2 e).1 o).1 r.1 (gy_ J (b_ J J eql_ (gy_ J (pt_ J J (gy_ J (z_ 2 J (e_ (cs_ J (fun u=>q_ J (m_ (b_ H4 J add_ (m_ (e_ (W.goto ⟨rfl,kP0 _ _ (r.2.1 u) _ _ H0 J BP FR⟩)))))) (fun u=>sk_ (q_ J (m_ (s_nilP H0 (f_ J (l_ J BP J J (m_ (s_slS_hi J H4 (r.2.2 u).1 (r.2.2 u).2.1 (x2 (r.2.2 u).2.2 fun _ _ x=>ca_ (sc1 J J) x.1 (m_ (x_ J J (x_ J J (m_ (m_ (e_ (q_ J (m_ (m_ (s_nilP H0 (f_ J (l_ J BP J J (m_ (s_slS_lo J H4 x.2.1 x.2.2.1 (s_nilP H0 (f_ J (so_ J BP J J J (e_ (q_ J (m_ (m_ (b_ J J eql_ (m_ (m_ (er_ (hQ _ _ _ _ _ J J lk_here (Fr.own FR) x.2.2.2))))))))))))))))))))))))))))))))))))))))))))))))))))))) (fun o=>z_ 7 J (gy_ J (pf_ J J (gy_ J (z_ 2 J (e_ (cf_ J (sk_ (q_ J (m_ (s_nilP H0 (f_ J (l_ J BP J J (m_ (s_slS_hi J H4 ((c.2.2 e).2 o).1 ((c.2.2 e).2 o).2.1 (x2 ((c.2.2 e).2 o).2.2 fun _ _ y=>ca_ (sc1 J J) y.1 (m_ (x_ J J (x_ J J (m_ (m_ (e_ (q_ J (m_ (m_ (s_nilP H0 (f_ J (l_ J BP J J (m_ (s_slS_lo J H4 y.2.1 y.2.2.1 (s_nilP H0 (f_ J (so_ J BP J J J (e_ (q_ J (m_ (m_ (b_ J J eql_ (m_ (m_ (er_ (hQ _ _ _ _ _ J J lk_here (Fr.own FR) y.2.2.2))))))))))))))))))))))))))))))))))))))))))))))))))))))))))))))))))))))) (fun k=>z_ 8 J (gt_ J (gt_ J (gt_ J (gt_ J (gt_ J (gt_ J (gt_ J (z_ 2 J (gt_ J (gt_ J (gt_ J (gt_ J (gt_ J (gt_ J (gt_ J (gt_ J (gt_ J (gt_ J (gt_ J (z_ 2 J (e_ (cf_ J (sk_ (q_ J (m_ (s_nilP H0 (f_ J (l_ J BP J J (m_ (s_slS_hi J H4 (h.2 k).1 (h.2 k).2.1 (x2 (h.2 k).2.2 fun _ _ z=>ca_ (sc1 J J) z.1 (m_ (x_ J J (x_ J J (m_ (m_ (e_ (q_ J (m_ (m_ (s_nilP H0 (f_ J (l_ J BP J J (m_ (s_slS_lo J H4 z.2.1 z.2.2.1 (s_nilP H0 (f_ J (so_ J BP J J J (e_ (q_ J (m_ (m_ (b_ J J eql_ (m_ (m_ (er_ (hQ _ _ _ _ _ J J lk_here (Fr.own FR) z.2.2.2))))))))))))))))))))))))))))))))))))))))))))))))))))))))))))))))))))
include H0 BP FR in
theorem w131_1 (h:T131_1 prog K mP):W prog d c131_1 σ st Q:=
 W.gscope' (W.reg0 J fun _ _=>m_ (e_ (h (I131_0 prog d Q st0 kp vp ) (fun _ _ hb _ _ H0 H4 BP FR=>WG.step (w131_2 hQ hkp (fun _ _ x=>x) H0 H4 BP FR hb)) _ _ H0 J BP FR)))
include H0 BP FR in
theorem w131_0 (h:T131_0 prog K mP):W prog d (sR 0 r131_0 c131_1) σ st Q:=
 au @w131_1
end
theorem p131 {prog:Prog}(hf:prog.fn 131=some pf131){mP:Sc}{K:Int→Bool→Sc→Prop}(h:T131_0 prog K mP):PuXK prog 131 (Bx [.s mP.left]) [] (fun r (b_:Sc)=>∃res0:Int,∃res1:Bool,(r=.tup [.i .i64 res0,.b res1])∧K res0 res1 b_) (fun b_=>(Bx [.s b_.left])):=
  PuXK.of hf rfl (fun _=>Bx.out) fun d st kp vp hkp hB=>w131_0 (st0:=st) (Q:=fun e σ st'=>(e=.normal∨e=.ret)∧∃r b_,ares σ st' pf131.res=some r∧_∧_∧Fr d kp st.bx st.ow st'.bx st'.ow) (fun σ st'   res0 res1 b_ H2 H3 hb hf hk=>⟨.inr rfl,.tup [.i .i64 res0,.b res1],b_,by simp only [pf131,ares,aresL,H2,H3,ares1,Option.map_some,H2,H3],⟨res0,res1,rfl,hk⟩,hb,hf⟩) hkp (σ:=sl0 [.p kp vp 0]) rfl hB Fr.refl h
abbrev H66 (Q:AE→Sl→St→Prop)(K:Bool→Prop):Prop:=∀(σ:Sl)(st:St)(res0:Bool),σ 4=.b res0→K res0→Q .ret σ st
section
variable {prog:Prog}{d:Nat}{Q:AE→Sl→St→Prop}{K:Bool→Prop}(hQ:H66 Q K){σ:Sl}{st:St}
include hQ
end
end Go.AM

namespace Go.AM
open Go
set_option maxRecDepth 4000
set_option maxHeartbeats 2000000
attribute [local irreducible] Decidable.decide W WO fillCells fillRows
def r178_0:List AI:=[oO 0 (.alloc [zs,zs,zs,zs])]
def r178_1:List AI:=[oO 1 (.build [zs,zs,zs,zs] [(1,1,(.c (.s [102,97,117,108,116,32,49,58,32,100,105,118,105,115,105,111,110,32,98,121,32,122,101,114,111]))),(2,1,(.c (.s [102,97,117,108,116,32,50,58,32,110,105,108,32,112,111,105,110,116,101,114]))),(3,1,(.c (.s [102,97,117,108,116,32,51,58,32,111,117,116,32,111,102,32,114,97,110,103,101])))]),oS 4 0 1]
abbrev b178:AC:=(sR 0 r178_0 (sR 1 r178_1 .ret))
def pf178:AF:={ nt:=2,res:=[.cell 0 4 true],body:=b178 }
abbrev H178 (Q:AE→Sl→St→Prop)(K:LB→Prop):Prop:=∀(σ:Sl)(st:St)(k0:Key)(v0:Nat)(res0:LB),σ 0=.p k0 v0 0→lk st.bx k0=some (v0,List.map AV.s res0)→res0.length=4→K res0→Q .ret σ st
def T178_0 (prog:Prog)(K:LB→Prop) :Prop:=
  K [[],([102,97,117,108,116,32,49,58,32,100,105,118,105,115,105,111,110,32,98,121,32,122,101,114,111]:BS),([102,97,117,108,116,32,50,58,32,110,105,108,32,112,111,105,110,116,101,114]:BS),([102,97,117,108,116,32,51,58,32,111,117,116,32,111,102,32,114,97,110,103,101]:BS)]
section
variable {prog:Prog}{d:Nat}{Q:AE→Sl→St→Prop}{K:LB→Prop}(hQ:H178 Q K){σ:Sl}{st:St}
include hQ
theorem w178_0 (h:T178_0 prog K ):W prog d (sR 0 r178_0 (sR 1 r178_1 .ret)) σ st Q:=
 sq_ (W.reg (s_alloc (e_ (q_ J (s_buildM (f:=AV.s) (l:=[[],([102,97,117,108,116,32,49,58,32,100,105,118,105,115,105,111,110,32,98,121,32,122,101,114,111]:BS),([102,97,117,108,116,32,50,58,32,110,105,108,32,112,111,105,110,116,101,114]:BS),([102,97,117,108,116,32,51,58,32,111,117,116,32,111,102,32,114,97,110,103,101]:BS)]) (f_cons J J (f_cons J J (f_cons J J f_nil))) J (s_storeArr (f:=AV.s) (fun _=>J) J (show lk _ (d,0)=some (_,(List.map AV.s (List.replicate 4 ([]:BS)):List AV)) from lk_here) (by simp) J J (er_ (hQ _ _ _ _ _ J lk_here (by simp) h))))))))
end
theorem p178 {prog:Prog}(hf:prog.fn 178=some pf178)  {K:LB→Prop}(h:T178_0 prog K ) :∃res0:LB,K res0∧Pus prog 178 [] (.ag (List.map AV.s res0)):=by
  obtain ⟨v,hv,res0,hk,rfl⟩:=Pus.of (K:=fun v=>∃res0:LB,K res0∧v=.ag (List.map AV.s res0)) hf rfl (w178_0 (σ:=sl0 []) (fun σ st k0 v0  res0 H0 HB0 HL0 hk=>⟨.ag (List.map AV.s res0),by simp only [pf178,ares,aresL,ares_cellA (n:=4) H0 HB0 (by simpa using HL0),ares_tmp,Option.map_some],_,strip_ag AV.s (fun _=>rfl) _,res0,hk,rfl⟩)  h)
  exact ⟨res0,hk,hv⟩
def r183_0:List AI:=[oO 0 (.alloc [z8,z8,z8,z8,z8])]
def r183_1:List AI:=[oO 1 (.build [z8,z8,z8,z8,z8] [(1,1,(.c (.i .u8 2))),(2,1,(.c (.i .u8 1))),(3,1,(.c (.i .u8 3))),(4,1,(.c (.i .u8 2)))]),oS 5 0 1]
abbrev b183:AC:=(sR 0 r183_0 (sR 1 r183_1 .ret))
def pf183:AF:={ nt:=2,res:=[.cell 0 5 true],body:=b183 }
abbrev H183 (Q:AE→Sl→St→Prop)(K:BS→Prop):Prop:=∀(σ:Sl)(st:St)(k0:Key)(v0:Nat)(res0:BS),σ 0=.p k0 v0 0→lk st.bx k0=some (v0,List.map c8 res0)→res0.length=5→K res0→Q .ret σ st
def T183_0 (prog:Prog)(K:BS→Prop) :Prop:=
  K [0,(2:UInt8),(1:UInt8),(3:UInt8),(2:UInt8)]
section
variable {prog:Prog}{d:Nat}{Q:AE→Sl→St→Prop}{K:BS→Prop}(hQ:H183 Q K){σ:Sl}{st:St}
include hQ
theorem w183_0 (h:T183_0 prog K ):W prog d (sR 0 r183_0 (sR 1 r183_1 .ret)) σ st Q:=
 sq_ (W.reg (s_alloc (e_ (q_ J (s_buildM (f:=c8) (l:=[0,(2:UInt8),(1:UInt8),(3:UInt8),(2:UInt8)]) (f_cons J J (f_cons J J (f_cons J J (f_cons J J f_nil)))) J (s_storeArr (f:=c8) (fun _=>J) J (show lk _ (d,0)=some (_,(List.map c8 (List.replicate 5 (0:UInt8)):List AV)) from lk_here) (by simp) J J (er_ (hQ _ _ _ _ _ J lk_here (by simp) h))))))))
end
theorem p183 {prog:Prog}(hf:prog.fn 183=some pf183)  {K:BS→Prop}(h:T183_0 prog K ) :∃res0:BS,K res0∧Pus prog 183 [] (.ag (List.map c8 res0)):=by
  obtain ⟨v,hv,res0,hk,rfl⟩:=Pus.of (K:=fun v=>∃res0:BS,K res0∧v=.ag (List.map c8 res0)) hf rfl (w183_0 (σ:=sl0 []) (fun σ st k0 v0  res0 H0 HB0 HL0 hk=>⟨.ag (List.map c8 res0),by simp only [pf183,ares,aresL,ares_cellA (n:=5) H0 HB0 (by simpa using HL0),ares_tmp,Option.map_some],_,strip_ag c8 (fun _=>rfl) _,res0,hk,rfl⟩)  h)
  exact ⟨res0,hk,hv⟩
def r191_0:List AI:=[oC 4 (.b false)]
def r191_1:List AI:=[oM 5 0,oH 6 5,oM 7 1,oH 8 7,oT 9 .geq 6 8,oM 10 9,gT 10 (oM 11 0),gT 10 (oM 12 0),gT 10 (oH 13 12),gT 10 (oM 14 1),gT 10 (oH 15 14),gT 10 (oT 16 .sub 13 15),gT 10 (oO 17 (.slS (.t 11) (some (.t 16)) none)),gT 10 (oM 18 1),gT 10 (oT 19 .eql 17 18),oA 20 10 19,oM 4 20]
abbrev b191:AC:=(sR 0 r191_0 (sR 1 r191_1 .ret))
def pf191:AF:={ nt:=21,res:=[.tmp 4],body:=b191 }
def T191_0 (prog:Prog)(K:Bool→Prop)(s0:BS)(suffix1:BS):Prop:=
  ((s0.length:Int)≥(suffix1.length:Int)→0≤(IntKind.i64.wrap ((s0.length:Int)-(suffix1.length:Int)))∧(IntKind.i64.wrap ((s0.length:Int)-(suffix1.length:Int))).toNat≤s0.length∧K (decide ((s0.drop (IntKind.i64.wrap ((s0.length:Int)-(suffix1.length:Int))).toNat)=suffix1)))∧(¬((s0.length:Int)≥(suffix1.length:Int))→K false)
section
variable {prog:Prog}{d:Nat}{Q:AE→Sl→St→Prop}{K:Bool→Prop}(hQ:H1 AV.b 4 Q K){σ:Sl}{st:St}
include hQ
variable {s0 suffix1:BS}
variable (H0:σ 0=.s s0)(H1:σ 1=.s suffix1)
include H0 H1 in
theorem w191_0 (h:T191_0 prog K s0 suffix1):W prog d (sR 0 r191_0 (sR 1 r191_1 .ret)) σ st Q:=
 au trivial
end
theorem p191 {prog:Prog}(hf:prog.fn 191=some pf191){s0:BS}{suffix1:BS}{K:Bool→Prop}(h:T191_0 prog K s0 suffix1) :∃res0:Bool,K res0∧Pus prog 191 [.s s0,.s suffix1] (.b res0):=
 P1 hf J (w191_0 (h1 J fun _=>J) J J h)
def r186_0:List AI:=[oC 4 (.b false)]
def r186_1:List AI:=[oM 5 0,oM 6 1,oQ 7 191 [5,6],oM 4 7]
abbrev b186:AC:=(sR 0 r186_0 (sR 1 r186_1 .ret))
def pf186:AF:={ nt:=8,res:=[.tmp 4],body:=b186 }
def T186_0 (prog:Prog)(K:Bool→Prop)(s0:BS)(suffix1:BS):Prop:=
  ∃c,Pus prog 191 [.s s0,.s suffix1] (.b c)∧K c
section
variable {prog:Prog}{d:Nat}{Q:AE→Sl→St→Prop}{K:Bool→Prop}(hQ:H1 AV.b 4 Q K){σ:Sl}{st:St}
include hQ
variable {s0 suffix1:BS}
variable (H0:σ 0=.s s0)(H1:σ 1=.s suffix1)
include H0 H1 in
theorem w186_0 (h:T186_0 prog K s0 suffix1):W prog d (sR 0 r186_0 (sR 1 r186_1 .ret)) σ st Q:=
 au trivial
end
theorem p186 {prog:Prog}(hf:prog.fn 186=some pf186){s0:BS}{suffix1:BS}{K:Bool→Prop}(h:T186_0 prog K s0 suffix1) :∃res0:Bool,K res0∧Pus prog 186 [.s s0,.s suffix1] (.b res0):=
 P1 hf J (w186_0 (h1 J fun _=>J) J J h)
def r190_0:List AI:=[oC 4 (.s []),oC 5 (.b false)]
def r190_1:List AI:=[oM 6 0,oM 7 1,oQ 8 191 [6,7],oZ 9 8]
def r190_2:List AI:=[oM 10 0,oM 4 10,oC 5 (.b false)]
def r190_3:List AI:=[oM 11 0,oM 12 0,oH 13 12,oM 14 1,oH 15 14,oT 16 .sub 13 15,oO 17 (.slS (.t 11) none (some (.t 16))),oM 4 17,oC 5 (.b true)]
abbrev b190:AC:=(sR 0 r190_0 (.seq (sR 1 r190_1 (.cond (.t 9) (sR 2 r190_2 .ret) .skip)) (sR 3 r190_3 .ret)))
def pf190:AF:={ nt:=18,res:=[.tmp 4,.tmp 5],body:=b190 }
def T190_0 (prog:Prog)(K:BS→Bool→Prop)(s0:BS)(suffix1:BS):Prop:=
  ∃c,Pus prog 191 [.s s0,.s suffix1] (.b c)∧((!c)=true→K s0 false)∧((!c)=false→0≤(IntKind.i64.wrap ((s0.length:Int)-(suffix1.length:Int)))∧(IntKind.i64.wrap ((s0.length:Int)-(suffix1.length:Int))).toNat≤s0.length∧K (s0.take (IntKind.i64.wrap ((s0.length:Int)-(suffix1.length:Int))).toNat) true)
section
variable {prog:Prog}{d:Nat}{Q:AE→Sl→St→Prop}{K:BS→Bool→Prop}(hQ:H2 AV.s AV.b 4 5 Q K){σ:Sl}{st:St}
include hQ
variable {s0 suffix1:BS}
variable (H0:σ 0=.s s0)(H1:σ 1=.s suffix1)
include H0 H1 in
theorem w190_0 (h:T190_0 prog K s0 suffix1):W prog d (sR 0 r190_0 (.seq (sR 1 r190_1 (.cond (.t 9) (sR 2 r190_2 .ret) .skip)) (sR 3 r190_3 .ret))) σ st Q:=
 au trivial
end
theorem p190 {prog:Prog}(hf:prog.fn 190=some pf190){s0:BS}{suffix1:BS}{K:BS→Bool→Prop}(h:T190_0 prog K s0 suffix1) :∃res0:BS,∃res1:Bool,K res0 res1∧Pus prog 190 [.s s0,.s suffix1] (.tup [.s res0,.b res1]):=
 P2 hf J (w190_0 (h2 J fun _ _=>J) J J h)
def r180_0:List AI:=[oC 4 (.s []),oC 5 (.b false)]
def r180_1:List AI:=[oM 6 0,oM 7 1,oQ 8 190 [6,7],oE 9 0 8,oE 10 1 8,oM 4 9,oM 5 10]
abbrev b180:AC:=(sR 0 r180_0 (sR 1 r180_1 .ret))
def pf180:AF:={ nt:=11,res:=[.tmp 4,.tmp 5],body:=b180 }
def T180_0 (prog:Prog)(K:BS→Bool→Prop)(s0:BS)(suffix1:BS):Prop:=
  ∃e c,Pus prog 190 [.s s0,.s suffix1] (.tup [.s e,.b c])∧K e c
section
variable {prog:Prog}{d:Nat}{Q:AE→Sl→St→Prop}{K:BS→Bool→Prop}(hQ:H2 AV.s AV.b 4 5 Q K){σ:Sl}{st:St}
include hQ
variable {s0 suffix1:BS}
variable (H0:σ 0=.s s0)(H1:σ 1=.s suffix1)
include H0 H1 in
theorem w180_0 (h:T180_0 prog K s0 suffix1):W prog d (sR 0 r180_0 (sR 1 r180_1 .ret)) σ st Q:=
 au trivial
end
theorem p180 {prog:Prog}(hf:prog.fn 180=some pf180){s0:BS}{suffix1:BS}{K:BS→Bool→Prop}(h:T180_0 prog K s0 suffix1) :∃res0:BS,∃res1:Bool,K res0 res1∧Pus prog 180 [.s s0,.s suffix1] (.tup [.s res0,.b res1]):=
 P2 hf J (w180_0 (h2 J fun _ _=>J) J J h)
abbrev H182 (Q:AE→Sl→St→Prop)(K:BS→Bool→Prop):Prop:=∀(σ:Sl)(st:St)(res0:BS)(res1:Bool),σ 4=.s res0→σ 5=.b res1→K res0 res1→Q .ret σ st
section
variable {prog:Prog}{d:Nat}{Q:AE→Sl→St→Prop}{K:BS→Bool→Prop}(hQ:H182 Q K){σ:Sl}{st:St}
include hQ
end
def r158_0:List AI:=[oY 1 7 0,oI 2 0]
def r158_1:List AI:=[oF 4 0 1,oL 5 4,oB 6 .gtr (.t 5) (.c (.i .u64 4)),oM 7 6,gF 7 (oF 8 1 1),gF 7 (oF 9 0 8),gF 7 (oL 10 9),gF 7 (oQ 11 183 []),gF 7 (oF 12 0 1),gF 7 (oL 13 12),gF 7 (oO 14 (.ixA 5 1 false (.t 11) (.t 13))),gF 7 (oT 15 .neq 10 14),oR 16 7 15]
def r158_2:List AI:=[oI 2 8]
def r158_3:List AI:=[oF 17 0 1,oL 18 17,oB 19 .eql (.t 18) (.c (.i .u64 0))]
def r158_4:List AI:=[oF 20 1 1,oK 21 5 20,oO 3 (.alloc [z8,z6,zs,zl,zb]),oS 5 3 21]
def r158_5:List AI:=[oF 22 1 3,oL 23 22,oV 24 .neq 23 0,oM 25 24,gF 25 (oF 26 2 3),gF 25 (oL 27 26),gF 25 (oB 28 .neq (.t 27) (.c (.s []))),oR 29 25 28,oM 30 29,gF 30 (oF 31 3 3),gF 30 (oL 32 31),gF 30 (oJ 33 32),gF 30 (oV 34 .gtr 33 0),oR 35 30 34,oM 36 35,gF 36 (oF 37 4 3),gF 36 (oL 38 37),oR 39 36 38,oM 40 39,gF 40 (oF 41 6 1),gF 40 (oL 42 41),gF 40 (oB 43 .andNot (.t 42) (.c (.i .u64 4))),gF 40 (oB 44 .neq (.t 43) (.c (.i .u64 2))),oR 45 40 44]
def r158_6:List AI:=[oI 2 8]
def r158_7:List AI:=[oI 2 0]
def r158_8:List AI:=[oF 46 6 1,oL 47 46,oB 48 .andNot (.t 47) (.c (.i .u64 5)),oB 49 .neq (.t 48) (.c (.i .u64 0)),oM 50 49,gF 50 (oF 51 0 1),gF 50 (oL 52 51),gF 50 (oB 53 .eql (.t 52) (.c (.i .u64 4))),gF 50 (oM 54 53),gT 54 (oF 55 1 1),gT 54 (oF 56 1 55),gT 54 (oL 57 56),gT 54 (oV 58 .lss 57 1),gT 54 (oM 59 58),gF 59 (oF 60 1 1),gF 59 (oF 61 1 60),gF 59 (oL 62 61),gF 59 (oV 63 .gtr 62 3),gT 54 (oR 64 59 63),gF 50 (oA 65 54 64),oR 66 50 65]
def r158_9:List AI:=[oI 2 8]
def r158_10:List AI:=[oF 67 1 1,oK 68 5 67,oQ 69 76 [68],oM 2 69]
abbrev c158_0:AC:=(sR 10 r158_10 .ret)
abbrev c158_1:AC:=(.seq (sR 8 r158_8 (.cond (.t 66) (sR 9 r158_9 .ret) .skip)) c158_0)
abbrev c158_2:AC:=(.seq (sR 3 r158_3 (.cond (.t 19) (sR 4 r158_4 (.seq (sR 5 r158_5 (.cond (.t 45) (sR 6 r158_6 .ret) .skip)) (sR 7 r158_7 .ret))) .skip)) c158_1)
abbrev c158_3:AC:=(.seq (sR 1 r158_1 (.cond (.t 16) (sR 2 r158_2 .ret) .skip)) c158_2)
abbrev b158:AC:=(sR 0 r158_0 c158_3)
def pf158:AF:={ nt:=70,res:=[.tmp 2],body:=b158 }
def T158_4 (prog:Prog)(K:Int→Prop)(m0:Pan):Prop:=
  ∃c,Pus prog 76 [m0.value.av] (.i .i64 c)∧K c
def T158_3 (prog:Prog)(K:Int→Prop)(m0:Pan):Prop:=
  ((bAndNot .u64 m0.flags 5)≠0→K 8)∧(¬((bAndNot .u64 m0.flags 5)≠0)→(m0.tag=4→(m0.value.int<1→K 8)∧(¬(m0.value.int<1)→(m0.value.int>3→K 8)∧(¬(m0.value.int>3)→T158_4 prog K m0)))∧(¬(m0.tag=4)→T158_4 prog K m0))
def T158_2 (prog:Prog)(K:Int→Prop)(m0:Pan):Prop:=
  (m0.tag=0→(m0.value.int≠0→K 8)∧(¬(m0.value.int≠0)→(m0.value.text≠([]:BS)→K 8)∧(¬(m0.value.text≠([]:BS))→((m0.value.list.length:Int)>0→K 8)∧(¬((m0.value.list.length:Int)>0)→(m0.value.cut=true→K 8)∧(m0.value.cut=false→((bAndNot .u64 m0.flags 4)≠2→K 8)∧(¬((bAndNot .u64 m0.flags 4)≠2)→K 0))))))∧(¬(m0.tag=0)→T158_3 prog K m0)
def T158_1 (prog:Prog)(K:Int→Prop)(m0:Pan):Prop:=
  (m0.tag>4→K 8)∧(¬(m0.tag>4)→∃c:BS,Pus prog 183 [] (.ag (List.map c8 c))∧c.length=5∧0≤m0.tag∧∃e:UInt8,(c:List (UInt8))[(m0.tag).toNat]?=some e∧(m0.value.kind≠(e.toNat:Int)→K 8)∧(¬(m0.value.kind≠(e.toNat:Int))→T158_2 prog K m0))
def T158_0 (prog:Prog)(K:Int→Prop)(p0:Pan):Prop:=
  T158_1 prog K p0
section
variable {prog:Prog}{d:Nat}{Q:AE→Sl→St→Prop}{K:Int→Prop}(hQ:H1 (AV.i .i64) 2 Q K){σ:Sl}{st:St}
include hQ
variable {m0:Pan}{v0:Nat}{p0:Pan}
variable (H1:σ 1=.p (d,0) v0 0)(H0:σ 0=p0.av)(B0:lk st.bx (d,0)=some (v0,Pan.cs m0))
include H1 B0 in
theorem w158_4 (h:T158_4 prog K m0):W prog d c158_0 σ st Q:=
 au trivial
include H1 B0 in
theorem w158_3 (h:T158_3 prog K m0):W prog d c158_1 σ st Q:=
 au @w158_4
include H1 B0 in
theorem w158_2 (h:T158_2 prog K m0):W prog d c158_2 σ st Q:=
 au @w158_3
include H1 B0 in
theorem w158_1 (h:T158_1 prog K m0):W prog d c158_3 σ st Q:=
 au @w158_2
include H0 in
theorem w158_0 (h:T158_0 prog K p0):W prog d (sR 0 r158_0 c158_3) σ st Q:=
 au @w158_1
end
theorem p158 {prog:Prog}(hf:prog.fn 158=some pf158){p0:Pan}{K:Int→Prop}(h:T158_0 prog K p0) :∃res0:Int,K res0∧Pus prog 158 [p0.av] (.i .i64 res0):=
 P1 hf J (w158_0 (h1 J fun _=>J) J h)
abbrev H159 (Q:AE→Sl→St→Prop)(K:Int→Prop):Prop:=∀(σ:Sl)(st:St)(res0:Int),σ 2=.i .i64 res0→K res0→Q .ret σ st
section
variable {prog:Prog}{d:Nat}{Q:AE→Sl→St→Prop}{K:Int→Prop}(hQ:H159 Q K){σ:Sl}{st:St}
include hQ
end
abbrev H179 (Q:AE→Sl→St→Prop)(K:BS→Prop):Prop:=∀(σ:Sl)(st:St)(res0:BS),σ 2=.s res0→K res0→Q .ret σ st
section
variable {prog:Prog}{d:Nat}{Q:AE→Sl→St→Prop}{K:BS→Prop}(hQ:H179 Q K){σ:Sl}{st:St}
include hQ
end
def r154_0:List AI:=[oY 1 7 0,oC 2 (.s []),oI 3 0]
def r154_1:List AI:=[oK 8 7 1,oQ 9 158 [8],oM 4 9]
def r154_2:List AI:=[oM 10 4,oV 11 .neq 10 0]
def r154_3:List AI:=[oM 12 4,oC 2 (.s []),oM 3 12]
def r154_4:List AI:=[oC 5 (.s [101,120,105,116])]
def r154_5:List AI:=[oF 13 0 1,oL 14 13]
def r154_6:List AI:=[oB 27 .eql (.t 14) (.c (.i .u64 0)),oM 26 27]
def r154_7:List AI:=[oB 29 .eql (.t 14) (.c (.i .u64 4)),oM 28 29]
def r154_8:List AI:=[oQ 30 178 [],oF 31 1 1,oF 32 1 31,oL 33 32,oO 34 (.ixA 4 1 false (.t 30) (.t 33)),oM 5 34]
def r154_9:List AI:=[oF 16 1 1,oK 17 5 16,oQ 18 72 [17],oM 15 18,oE 19 0 15,oE 20 1 15,oM 6 19,oM 7 20]
def r154_10:List AI:=[oM 21 7,oV 22 .neq 21 0]
def r154_11:List AI:=[oM 23 7,oC 2 (.s []),oM 3 23]
def r154_12:List AI:=[oM 24 6,oB 25 .add (.c (.s [112,97,110,105,99,32])) (.t 24),oM 5 25]
def r154_13:List AI:=[oF 35 6 1,oL 36 35,oB 37 .and (.t 36) (.c (.i .u64 1)),oB 38 .neq (.t 37) (.c (.i .u64 0))]
def r154_14:List AI:=[oM 39 5,oB 40 .add (.t 39) (.c (.s [32,114,101,99,111,118,101,114,101,100])),oM 5 40]
def r154_15:List AI:=[oF 41 6 1,oL 42 41,oB 43 .and (.t 42) (.c (.i .u64 4)),oB 44 .neq (.t 43) (.c (.i .u64 0))]
def r154_16:List AI:=[oM 45 5,oB 46 .add (.t 45) (.c (.s [32,97,98,111,114,116,101,100])),oM 5 46]
def r154_17:List AI:=[oM 47 5,oM 2 47,oI 3 0]
abbrev c154_0:AC:=(sR 17 r154_17 .ret)
abbrev c154_1:AC:=(.seq (sR 15 r154_15 (.cond (.t 44) (.reg 16 r154_16) .skip)) c154_0)
abbrev c154_2:AC:=(.seq (sR 13 r154_13 (.cond (.t 38) (.reg 14 r154_14) .skip)) c154_1)
abbrev b154:AC:=(sR 0 r154_0 (.seq (sR 1 r154_1 (sR 2 r154_2 (.cond (.t 11) (sR 3 r154_3 .ret) .skip))) (sR 4 r154_4 (.seq (sR 5 r154_5 (.block 0 (sR 10 r154_6 (.cond (.t 26) .skip (sR 11 r154_7 (.cond (.t 28) (.reg 12 r154_8) (sR 6 r154_9 (.seq (sR 7 r154_10 (.cond (.t 22) (sR 8 r154_11 .ret) .skip)) (.reg 9 r154_12))))))))) c154_2))))
def pf154:AF:={ nt:=48,res:=[.tmp 2,.tmp 3],body:=b154 }
def T154_3 (prog:Prog)(K:BS→Int→Prop)(s5:BS):Prop:=
  K s5 0
def T154_2 (prog:Prog)(K:BS→Int→Prop)(s5:BS)(m0:Pan):Prop:=
  ((bAnd .u64 m0.flags 4)≠0→s5.length+([32,97,98,111,114,116,101,100]:BS).length≤maxStr∧T154_3 prog K (s5++([32,97,98,111,114,116,101,100]:BS)))∧(¬((bAnd .u64 m0.flags 4)≠0)→T154_3 prog K s5)
def T154_1 (prog:Prog)(K:BS→Int→Prop)(s5:BS)(m0:Pan):Prop:=
  ((bAnd .u64 m0.flags 1)≠0→s5.length+([32,114,101,99,111,118,101,114,101,100]:BS).length≤maxStr∧T154_2 prog K (s5++([32,114,101,99,111,118,101,114,101,100]:BS)) m0)∧(¬((bAnd .u64 m0.flags 1)≠0)→T154_2 prog K s5 m0)
def T154_0 (prog:Prog)(K:BS→Int→Prop)(p0:Pan):Prop:=
  ∃c,Pus prog 158 [p0.av] (.i .i64 c)∧(c≠0→K ([]:BS) c)∧(¬(c≠0)→(p0.tag=0→T154_1 prog K ([101,120,105,116]:BS) p0)∧(¬(p0.tag=0)→(p0.tag=4→∃k:LB,Pus prog 178 [] (.ag (List.map AV.s k))∧k.length=4∧0≤p0.value.int∧∃o,(k:LB)[(p0.value.int).toNat]?=some o∧T154_1 prog K o p0)∧(¬(p0.tag=4)→∃j:BS,∃e,Pus prog 72 [p0.value.av] (.tup [.s j,.i .i64 e])∧(e≠0→K ([]:BS) e)∧(¬(e≠0)→([112,97,110,105,99,32]:BS).length+j.length≤maxStr∧T154_1 prog K (([112,97,110,105,99,32]:BS)++j) p0))))
section
variable {prog:Prog}{d:Nat}{Q:AE→Sl→St→Prop}{K:BS→Int→Prop}(hQ:H2 AV.s (AV.i .i64) 2 3 Q K){σ:Sl}{st:St}
include hQ
variable {s5:BS}{m0:Pan}{v0:Nat}{p0:Pan}
variable (H1:σ 1=.p (d,0) v0 0)(H0:σ 0=p0.av)(H5:σ 5=.s s5)(B0:lk st.bx (d,0)=some (v0,Pan.cs m0))
include H5 in
theorem w154_3 (h:T154_3 prog K s5):W prog d c154_0 σ st Q:=
 au trivial
include H1 H5 B0 in
theorem w154_2 (h:T154_2 prog K s5 m0):W prog d c154_1 σ st Q:=
 au @w154_3
include H1 H5 B0 in
theorem w154_1 (h:T154_1 prog K s5 m0):W prog d c154_2 σ st Q:=
 au @w154_2
include H0 in
theorem w154_0 (h:T154_0 prog K p0):W prog d (sR 0 r154_0 (.seq (sR 1 r154_1 (sR 2 r154_2 (.cond (.t 11) (sR 3 r154_3 .ret) .skip))) (sR 4 r154_4 (.seq (sR 5 r154_5 (.block 0 (sR 10 r154_6 (.cond (.t 26) .skip (sR 11 r154_7 (.cond (.t 28) (.reg 12 r154_8) (sR 6 r154_9 (.seq (sR 7 r154_10 (.cond (.t 22) (sR 8 r154_11 .ret) .skip)) (.reg 9 r154_12))))))))) c154_2)))) σ st Q:=
 au @w154_1
end
theorem p154 {prog:Prog}(hf:prog.fn 154=some pf154){p0:Pan}{K:BS→Int→Prop}(h:T154_0 prog K p0) :∃res0:BS,∃res1:Int,K res0 res1∧Pus prog 154 [p0.av] (.tup [.s res0,.i .i64 res1]):=
 P2 hf J (w154_0 (h2 J fun _ _=>J) J h)
abbrev H155 (Q:AE→Sl→St→Prop)(K:BS→Int→Prop):Prop:=∀(σ:Sl)(st:St)(res0:BS)(res1:Int),σ 2=.s res0→σ 3=.i .i64 res1→K res0 res1→Q .ret σ st
section
variable {prog:Prog}{d:Nat}{Q:AE→Sl→St→Prop}{K:BS→Int→Prop}(hQ:H155 Q K){σ:Sl}{st:St}
include hQ
end
end Go.AM

namespace Go.AM
open Go
set_option maxRecDepth 4000
set_option maxHeartbeats 2000000
attribute [local irreducible] Decidable.decide W WO fillCells fillRows
def r181_0:List AI:=[oO 2 (.alloc [z7,z8,z6,zs,zl,zb,z7]),oC 3 (.b false)]
def r181_1:List AI:=[oM 12 0,oB 13 .eql (.t 12) (.c (.s [101,120,105,116]))]
def r181_2:List AI:=[oO 14 (.build [z7,z8,z6,zs,zl,zb,z7] [(6,1,(.c (.i .u64 2)))]),oS 7 2 14,oC 3 (.b true)]
def r181_3:List AI:=[oQ 15 178 [],oI 16 0]
def r181_4:List AI:=[oV 17 .lss 16 4]
def r181_5:List AI:=[oM 18 16,oO 19 (.ixA 4 1 false (.t 15) (.t 16)),oM 4 18,oM 5 19]
def r181_6:List AI:=[oM 20 4,oV 21 .gtr 20 0,oM 22 21,gT 22 (oM 23 5),gT 22 (oM 24 0),gT 22 (oT 25 .eql 23 24),oA 26 22 25]
def r181_7:List AI:=[oM 27 4,oO 28 (.build [z8,z6,zs,zl,zb] [(0,1,(.c (.i .u8 2))),(1,1,(.t 27))]),oO 29 (.build [z7,z8,z6,zs,zl,zb,z7] [(0,1,(.c (.i .u64 4))),(1,5,(.t 28))]),oS 7 2 29,oC 3 (.b true)]
def r181_8:List AI:=[oV 30 .add 16 1,oM 16 30]
def r181_9:List AI:=[oM 32 0,oO 33 (.call false 36 [(.t 32),(.c (.s [112,97,110,105,99,32]))]),oM 31 33,oE 34 0 31,oE 35 1 31,oM 6 34,oM 7 35]
def r181_10:List AI:=[oM 36 7,oZ 37 36]
def r181_11:List AI:=[oO 38 (.build [z7,z8,z6,zs,zl,zb,z7] []),oS 7 2 38,oC 3 (.b false)]
def r181_12:List AI:=[oM 40 6,oQ 41 74 [40],oM 39 41,oE 42 0 39,oE 43 1 39,oO 8 (.alloc [z8,z6,zs,zl,zb]),oS 5 8 42,oM 9 43]
def r181_13:List AI:=[oQ 44 183 [],oI 45 0]
def r181_14:List AI:=[oV 46 .lss 45 5]
def r181_15:List AI:=[oM 47 45,oO 48 (.ixA 5 1 false (.t 44) (.t 45)),oM 10 47,oM 11 48]
def r181_16:List AI:=[oM 49 9,oV 50 .eql 49 0,oM 51 50,gT 51 (oM 52 11),gT 51 (oF 53 0 8),gT 51 (oL 54 53),gT 51 (oT 55 .eql 52 54),oA 56 51 55]
def r181_17:List AI:=[oM 57 10,oO 58 (.cvi .u64 (.t 57)),oK 59 5 8,oO 60 (.build [z7,z8,z6,zs,zl,zb,z7] [(0,1,(.t 58)),(1,5,(.t 59))]),oS 7 2 60,oC 3 (.b true)]
def r181_18:List AI:=[oV 61 .add 45 1,oM 45 61]
def r181_19:List AI:=[oO 62 (.build [z7,z8,z6,zs,zl,zb,z7] []),oS 7 2 62,oC 3 (.b false)]
abbrev c181_0:AC:=(.cond (.t 26) (sR 7 r181_7 .ret) .skip)
abbrev l181_0:AC:=(sR 4 r181_4 (.seq (.cond (.t 17) .skip (.exit 0)) (.seq (.block 1 (sR 5 r181_5 (sR 6 r181_6 c181_0))) (.reg 8 r181_8))))
abbrev c181_2:AC:=(.cond (.t 56) (sR 17 r181_17 .ret) .skip)
abbrev l181_1:AC:=(sR 14 r181_14 (.seq (.cond (.t 46) .skip (.exit 2)) (.seq (.block 3 (sR 15 r181_15 (sR 16 r181_16 c181_2))) (.reg 18 r181_18))))
abbrev c181_4:AC:=(sR 19 r181_19 .ret)
abbrev c181_5:AC:=(sR 9 r181_9 (.seq (sR 10 r181_10 (.cond (.t 37) (sR 11 r181_11 .ret) .skip)) (sR 12 r181_12 (.seq (sR 13 r181_13 (.block 2 (.loop l181_1))) c181_4))))
abbrev c181_6:AC:=(.seq (sR 3 r181_3 (.block 0 (.loop l181_0))) c181_5)
abbrev c181_7:AC:=(.seq (sR 1 r181_1 (.cond (.t 13) (sR 2 r181_2 .ret) .skip)) c181_6)
abbrev b181:AC:=(sR 0 r181_0 c181_7)
def pf181:AF:={ nt:=63,res:=[.cell 2 7 true,.tmp 3],body:=b181 }
abbrev H181 (Q:AE→Sl→St→Prop)(K:Pan→Bool→Prop):Prop:=∀(σ:Sl)(st:St)(k0:Key)(v0:Nat)(o0_0:Own)(res0:Pan)(res1:Bool),σ 2=.p k0 v0 0→lk st.bx k0=some (v0,[.i .u64 res0.tag,.i .u8 res0.value.kind,.i .i64 res0.value.int,.s res0.value.text,.sl o0_0 (List.map Val.row res0.value.list),.b res0.value.cut,.i .u64 res0.flags])→σ 3=.b res1→K res0 res1→Q .ret σ st
abbrev I181_0 (prog:Prog)(d:Nat)(Q:AE→Sl→St→Prop)(s0:BS)(t15:LB)(t16:Int)(m0:Pan):Prop:=
  ∀(σ:Sl)(st:St)(o_m0_4:Own)(v0:Nat),σ 0=.s s0→σ 2=.p (d,0) v0 0→σ 15=.ag (List.map AV.s t15)→σ 16=.i .i64 t16→lk st.bx (d,0)=some (v0,[.i .u64 m0.tag,.i .u8 m0.value.kind,.i .i64 m0.value.int,.s m0.value.text,.sl o_m0_4 (List.map Val.row m0.value.list),.b m0.value.cut,.i .u64 m0.flags])→W prog d (.loop l181_0) σ st (blockW 0 (thenW prog d c181_5 Q))
def T181_4 (prog:Prog)(K:Pan→Bool→Prop)(P0:Int→Pan→Prop)(s0:BS)(n4:Int)(t15:LB)(t16:Int)(t26:Bool)(m0:Pan):Prop:=
  (t26=true→K (Pan.mk 4 (Val.mk 2 n4 [] ([]:List Val) false) 0) true)∧(t26=false→P0 (IntKind.i64.wrap (t16+1)) m0)
abbrev I181_1 (prog:Prog)(d:Nat)(Q:AE→Sl→St→Prop)(e9:Int)(t44:List (UInt8))(t45:Int)(m0:Pan)(m49157:Val):Prop:=
  ∀(σ:Sl)(st:St)(o_m0_4:Own) (v0 v49157:Nat),σ 2=.p (d,0) v0 0→σ 8=.p (d,49157) v49157 0→σ 9=.i .i64 e9→σ 44=.ag (List.map c8 t44)→σ 45=.i .i64 t45→lk st.bx (d,0)=some (v0,[.i .u64 m0.tag,.i .u8 m0.value.kind,.i .i64 m0.value.int,.s m0.value.text,.sl o_m0_4 (List.map Val.row m0.value.list),.b m0.value.cut,.i .u64 m0.flags])→lk st.bx (d,49157)=some (v49157,Val.cs m49157)→W prog d (.loop l181_1) σ st (blockW 2 (thenW prog d c181_4 Q))
def T181_7 (prog:Prog)(K:Pan→Bool→Prop)(P1:Int→Pan→Val→Prop)(e9:Int)(tag10:Int)(t44:List (UInt8))(t45:Int)(t56:Bool)(m0:Pan)(m49157:Val):Prop:=
  (t56=true→K (Pan.mk (IntKind.u64.wrap tag10) m49157 0) true)∧(t56=false→P1 (IntKind.i64.wrap (t45+1)) m0 m49157)
def T181_8 (prog:Prog)(K:Pan→Bool→Prop)(m0:Pan):Prop:=
  K (Pan.mk 0 (Val.mk 0 0 [] ([]:List Val) false) 0) false
def T181_6 (prog:Prog)(K:Pan→Bool→Prop)(P1:Int→Pan→Val→Prop)(e9:Int)(t44:List (UInt8))(t45:Int)(m0:Pan)(m49157:Val):Prop:=
  (t45<5→t44.length=5∧0≤t45∧∃c:UInt8,(t44:List (UInt8))[(t45).toNat]?=some c∧(e9=0→T181_7 prog K P1 e9 t45 t44 t45 (decide ((c.toNat:Int)=m49157.kind)) m0 m49157)∧(¬(e9=0)→T181_7 prog K P1 e9 t45 t44 t45 false m0 m49157))∧(¬(t45<5)→T181_8 prog K m0)
def T181_5 (prog:Prog)(K:Pan→Bool→Prop)(s0:BS)(m0:Pan):Prop:=
  ∃o c,Pus prog 36 [.s s0,.s ([112,97,110,105,99,32]:BS)] (.tup [.s o,.b c])∧((!c)=true→K (Pan.mk 0 (Val.mk 0 0 [] ([]:List Val) false) 0) false)∧((!c)=false→∃e:Val,∃k,Pus prog 74 [.s o] (.tup [e.av,.i .i64 k])∧∃j,Pus prog 183 [] (.ag (List.map c8 j))∧∀P1:Int→Pan→Val→Prop,(∀(t45:Int)(m0:Pan)(m49157:Val),T181_6 prog K P1 k j t45 m0 m49157→P1 t45 m0 m49157)→P1 0 m0 e)
def T181_3 (prog:Prog)(K:Pan→Bool→Prop)(P0:Int→Pan→Prop)(s0:BS)(t15:LB)(t16:Int)(m0:Pan):Prop:=
  (t16<4→t15.length=4∧0≤t16∧∃c,(t15:LB)[(t16).toNat]?=some c∧(t16>0→T181_4 prog K P0 s0 t16 t15 t16 (decide (c=s0)) m0)∧(¬(t16>0)→T181_4 prog K P0 s0 t16 t15 t16 false m0))∧(¬(t16<4)→T181_5 prog K s0 m0)
def T181_2 (prog:Prog)(K:Pan→Bool→Prop)(s0:BS)(m0:Pan):Prop:=
  ∃c,Pus prog 178 [] (.ag (List.map AV.s c))∧∀P0:Int→Pan→Prop,(∀(t16:Int)(m0:Pan),T181_3 prog K P0 s0 c t16 m0→P0 t16 m0)→P0 0 m0
def T181_1 (prog:Prog)(K:Pan→Bool→Prop)(s0:BS)(m0:Pan):Prop:=
  (s0=([101,120,105,116]:BS)→K (Pan.mk 0 (Val.mk 0 0 [] ([]:List Val) false) 2) true)∧(¬(s0=([101,120,105,116]:BS))→T181_2 prog K s0 m0)
def T181_0 (prog:Prog)(K:Pan→Bool→Prop)(s0:BS):Prop:=
  T181_1 prog K s0 (Pan.mk 0 (Val.mk 0 0 [] ([]:List Val) false) 0)
section
variable {prog:Prog}{d:Nat}{Q:AE→Sl→St→Prop}{K:Pan→Bool→Prop}(hQ:H181 Q K){σ:Sl}{st:St}
include hQ
variable {s0:BS}{n4:Int}{t15:LB}{t16:Int}{t26:Bool}{m0:Pan}{P0:Int→Pan→Prop}{o_m0_4:Own}{v0:Nat}{e9 tag10:Int}{t44:List (UInt8)}{t45:Int}{t56:Bool}{m49157:Val}{P1:Int→Pan→Val→Prop}{v49157:Nat}
variable (kP0 :∀(t16:Int)(m0:Pan),P0 t16 m0→I181_0 prog d Q s0 t15 t16 m0) (kP1 :∀(t45:Int)(m0:Pan)(m49157:Val),P1 t45 m0 m49157→I181_1 prog d Q e9 t44 t45 m0 m49157)(H0:σ 0=.s s0)(H2:σ 2=.p (d,0) v0 0)(H4:σ 4=.i .i64 n4)(H8:σ 8=.p (d,49157) v49157 0)(H15:σ 15=.ag (List.map AV.s t15))(H9:σ 9=.i .i64 e9)(H16:σ 16=.i .i64 t16)(H10:σ 10=.i .i64 tag10)(H26:σ 26=.b t26)(H44:σ 44=.ag (List.map c8 t44))(H45:σ 45=.i .i64 t45)(H56:σ 56=.b t56)(B0:lk st.bx (d,0)=some (v0,[.i .u64 m0.tag,.i .u8 m0.value.kind,.i .i64 m0.value.int,.s m0.value.text,.sl o_m0_4 (List.map Val.row m0.value.list),.b m0.value.cut,.i .u64 m0.flags]))(B49157:lk st.bx (d,49157)=some (v49157,Val.cs m49157))
include kP0 H0 H2 H4 H15 H16 H26 B0 in
theorem w181_4 (h:T181_4 prog K P0 s0 n4 t15 t16 t26 m0):W prog d c181_0 σ st (blockW 1 (thenW prog d (.reg 8 r181_8) (thenW prog d (.loop l181_0) (blockW 0 (thenW prog d c181_5 Q))))):=
 cb_ H26 (fun c=>q_ J (m_ (s_build (f_cons J J (f_cons H4 J f_nil)) (s_build (f_cons J J (f_cons J J f_nil)) (so_ H2 B0 J J J (m_ (er_ (hQ _ _ _ _ _ _ _ H2 lk_here J (h.1 c))))))))) (fun c=>sk_ (W.reg0 J fun _ _=>b_ H16 J add_ (m_ (e_ (kP0 _ _ (h.2 c) _ _ _ _ H0 H2 H15 J B0)))))
include kP1 H2 H8 H9 H10 H44 H45 H56 B0 B49157 in
theorem w181_7 (h:T181_7 prog K P1 e9 tag10 t44 t45 t56 m0 m49157):W prog d c181_2 σ st (blockW 3 (thenW prog d (.reg 18 r181_18) (thenW prog d (.loop l181_1) (blockW 2 (thenW prog d c181_4 Q))))):=
 cb_ H56 (fun c=>q_ J (m_ (s_cvi H10 (l_ H8 B49157 J J (s_build (f_cons J J (f_cons J J f_nil)) (so_ H2 B0 J J J (m_ (er_ (hQ _ _ _ _ _ _ _ H2 lk_here J (h.1 c)))))))))) (fun c=>sk_ (W.reg0 J fun _ _=>b_ H45 J add_ (m_ (e_ (kP1 _ _ _ (h.2 c) _ _ _ _ _ H2 H8 H9 H44 J B0 B49157)))))
include H2 B0 in
theorem w181_8 (h:T181_8 prog K m0):W prog d c181_4 σ st Q:=
 au trivial
include kP1 H2 H8 H9 H44 H45 B0 B49157 in
theorem w181_6 (h:T181_6 prog K P1 e9 t44 t45 m0 m49157):W prog d l181_1 σ st (thenW prog d (.loop l181_1) (blockW 2 (thenW prog d c181_4 Q))):=
 q_ J (b_ H45 J lss_ (e_ (sq_ (cs_ J (fun c=>sk_ (sq_ (bk_ (q_ J (m_ ((h.1 c).2.2.elim fun _ e=>s_ixA (f:=c8) (h.1 c).1 H44 H45 (h.1 c).2.1 e.1 (m_ (m_ (e_ (q_ J (s_mvI H9 (b_ J J eql_ (s_mvB J (em_ (g:=51) J (fun i=>gy_ J (s_mvI J (gy_ J (f_ H8 (gy_ J (l_ J B49157 J J (gy_ J (b_ J J eql_ (pt_ J J (e_ (w181_7 hQ kP1 H2 H8 H9 H45 H44 H45 J B0 B49157 (e.2.1 i)))))))))))) (fun i=>z_ 5 J (e_ (w181_7 hQ kP1 H2 H8 H9 H45 H44 H45 J B0 B49157 (e.2.2 i)))))))))))))))))) (fun c=>ex_ (w181_8 hQ H2 B0 (h.2 c)))))))
include H0 H2 B0 in
theorem w181_5 (h:T181_5 prog K s0 m0):W prog d c181_5 σ st Q:=
 q_ J (m_ (x2 h fun _ _ c=>ca_ (sc2 H0 J J) c.1 (m_ (x_ J J (x_ J J (m_ (m_ (e_ (sq_ (q_ J (m_ (nt_ J (e_ (cb_ J (fun e=>q_ J (s_build f_nil (so_ H2 B0 J J J (m_ (er_ (hQ _ _ _ _ _ _ _ H2 lk_here J (c.2.1 e))))))) (fun e=>sk_ (sq_ (W.reg (m_ (x2 (c.2.2 e) fun _ o j=>ca_ (sc1 J J) j.1 (m_ (x_ J J (x_ J J (s_alloc (so_ J (show lk _ (d,49157)=some (_,([.i .u8 0,.i .i64 0,.s [],.sl .full (List.map Val.row ([]:List Val)),.b false]:List AV)) from lk_here) J J J (m_ (e_ (sq_ (q_ J (j.2.elim fun p k=>ca_ sn k.1 (m_ (e_ (bk_ (k.2 (I181_1 prog d Q o p) (fun _ _ _ hb _ _ _ _ _ H2 H8 H9 H44 H45 B0 B49157=>W.loop (w181_6 hQ (fun _ _ _ x=>x) H2 H8 H9 H44 H45 B0 B49157 hb)) _ _ _ _ _ H2 J J J J (lk_other J (lk_other J B0)) lk_here)))))))))))))))))))))))))))))))))
include kP0 H0 H2 H15 H16 B0 in
theorem w181_3 (h:T181_3 prog K P0 s0 t15 t16 m0):W prog d l181_0 σ st (thenW prog d (.loop l181_0) (blockW 0 (thenW prog d c181_5 Q))):=
 q_ J (b_ H16 J lss_ (e_ (sq_ (cs_ J (fun c=>sk_ (sq_ (bk_ (q_ J (m_ ((h.1 c).2.2.elim fun _ e=>s_ixA (f:=AV.s) (h.1 c).1 H15 H16 (h.1 c).2.1 e.1 (m_ (m_ (e_ (q_ J (s_mvI H16 (b_ J J gtr_ (s_mvB J (em_ (g:=22) J (fun i=>gy_ J (s_mvS J (gy_ J (s_mvS H0 (gy_ J (b_ J J seq_ (pt_ J J (e_ (w181_4 hQ kP0 H0 H2 H16 H15 H16 J B0 (e.2.1 i)))))))))) (fun i=>z_ 4 J (e_ (w181_4 hQ kP0 H0 H2 H16 H15 H16 J B0 (e.2.2 i)))))))))))))))))) (fun c=>ex_ (w181_5 hQ H0 H2 B0 (h.2 c)))))))
include H0 H2 B0 in
theorem w181_2 (h:T181_2 prog K s0 m0):W prog d c181_6 σ st Q:=
 sq_ (q_ J (h.elim fun e c=>ca_ sn c.1 (m_ (e_ (bk_ (c.2 (I181_0 prog d Q s0 e) (fun _ _ hb _ _ _ _ H0 H2 H15 H16 B0=>W.loop (w181_3 hQ (fun _ _ x=>x) H0 H2 H15 H16 B0 hb)) _ _ _ _ H0 H2 J J B0))))))
include H0 H2 B0 in
theorem w181_1 (h:T181_1 prog K s0 m0):W prog d c181_7 σ st Q:=
 sq_ (q_ J (m_ (b_ H0 J seq_ (e_ (cs_ J (fun c=>q_ J (s_build (f_cons J J f_nil) (so_ H2 B0 J J J (m_ (er_ (hQ _ _ _ _ _ _ _ H2 lk_here J (h.1 c))))))) (fun c=>sk_ (w181_2 hQ H0 H2 B0 (h.2 c))))))))
include H0 in
theorem w181_0 (h:T181_0 prog K s0):W prog d (sR 0 r181_0 c181_7) σ st Q:=
 au @w181_1
end
theorem p181 {prog:Prog}(hf:prog.fn 181=some pf181){s0:BS}{K:Pan→Bool→Prop}(h:T181_0 prog K s0) :∃res0:Pan,∃res1:Bool,K res0 res1∧Pus prog 181 [.s s0] (.tup [res0.av,.b res1]):=by
  obtain ⟨v,hv,res0,res1,hk,rfl⟩:=Pus.of (K:=fun v=>∃res0:Pan,∃res1:Bool,K res0 res1∧v=.tup [res0.av,.b res1]) hf rfl (w181_0 (σ:=sl0 [.s s0]) (fun σ st k0 v0 o0_0 res0 res1 H2 HB2 H3 hk=>⟨.tup [res0.avo o0_0,.b res1],by simp only [pf181,ares,aresL,ares_cellA (n:=7) H2 HB2 rfl,H3,ares_tmp,Option.map_some],_,rfl,res0,res1,hk,rfl⟩) rfl h)
  exact ⟨res0,res1,hk,hv⟩
def r156_0:List AI:=[oO 2 (.alloc [z7,z8,z6,zs,zl,zb,z7]),oI 3 0]
def r156_1:List AI:=[oM 9 0,oH 10 9,oV 11 .gtr 10 2000]
def r156_2:List AI:=[oO 12 (.build [z7,z8,z6,zs,zl,zb,z7] []),oS 7 2 12,oI 3 4]
def r156_3:List AI:=[oM 14 0,oO 15 (.call false 180 [(.t 14),(.c (.s [32,97,98,111,114,116,101,100]))]),oM 13 15,oE 16 0 13,oE 17 1 13,oM 4 16,oM 5 17]
def r156_4:List AI:=[oM 19 4,oO 20 (.call false 180 [(.t 19),(.c (.s [32,114,101,99,111,118,101,114,101,100]))]),oM 18 20,oE 21 0 18,oE 22 1 18,oM 4 21,oM 6 22]
def r156_5:List AI:=[oM 24 4,oQ 25 181 [24],oM 23 25,oE 26 0 23,oE 27 1 23,oO 7 (.alloc [z7,z8,z6,zs,zl,zb,z7]),oS 7 7 26,oM 8 27]
def r156_6:List AI:=[oM 28 6]
def r156_7:List AI:=[oF 29 6 7,oL 30 29,oB 31 .or (.t 30) (.c (.i .u64 1)),oF 32 6 7,oS 1 32 31]
def r156_8:List AI:=[oM 33 5]
def r156_9:List AI:=[oF 34 6 7,oL 35 34,oB 36 .or (.t 35) (.c (.i .u64 4)),oF 37 6 7,oS 1 37 36]
def r156_10:List AI:=[oM 38 8,oZ 39 38,oM 40 39,gF 40 (oK 41 7 7),gF 40 (oQ 42 158 [41]),gF 40 (oV 43 .neq 42 0),oR 44 40 43]
def r156_11:List AI:=[oO 45 (.build [z7,z8,z6,zs,zl,zb,z7] []),oS 7 2 45,oI 3 12]
def r156_12:List AI:=[oK 46 7 7,oS 7 2 46,oI 3 0]
abbrev c156_0:AC:=(.seq (sR 10 r156_10 (.cond (.t 44) (sR 11 r156_11 .ret) .skip)) (sR 12 r156_12 .ret))
abbrev c156_1:AC:=(.seq (sR 8 r156_8 (.cond (.t 33) (.reg 9 r156_9) .skip)) c156_0)
abbrev b156:AC:=(sR 0 r156_0 (.seq (sR 1 r156_1 (.cond (.t 11) (sR 2 r156_2 .ret) .skip)) (sR 3 r156_3 (sR 4 r156_4 (sR 5 r156_5 (.seq (sR 6 r156_6 (.cond (.t 28) (.reg 7 r156_7) .skip)) c156_1))))))
def pf156:AF:={ nt:=47,res:=[.cell 2 7 true,.tmp 3],body:=b156 }
abbrev H156 (Q:AE→Sl→St→Prop)(K:Pan→Int→Prop):Prop:=∀(σ:Sl)(st:St)(k0:Key)(v0:Nat)(o0_0:Own)(res0:Pan)(res1:Int),σ 2=.p k0 v0 0→lk st.bx k0=some (v0,[.i .u64 res0.tag,.i .u8 res0.value.kind,.i .i64 res0.value.int,.s res0.value.text,.sl o0_0 (List.map Val.row res0.value.list),.b res0.value.cut,.i .u64 res0.flags])→σ 3=.i .i64 res1→K res0 res1→Q .ret σ st
def T156_2 (prog:Prog)(K:Pan→Int→Prop)(ok8:Bool)(m0:Pan)(m20485:Pan):Prop:=
  ((!ok8)=true→K (Pan.mk 0 (Val.mk 0 0 [] ([]:List Val) false) 0) 12)∧((!ok8)=false→∃c,Pus prog 158 [m20485.av] (.i .i64 c)∧(c≠0→K (Pan.mk 0 (Val.mk 0 0 [] ([]:List Val) false) 0) 12)∧(¬(c≠0)→K m20485 0))
def T156_1 (prog:Prog)(K:Pan→Int→Prop)(aborted5:Bool)(ok8:Bool)(m0:Pan)(m20485:Pan):Prop:=
  (aborted5=true→T156_2 prog K ok8 m0 (Pan.mk m20485.tag m20485.value (bOr .u64 m20485.flags 4)))∧(aborted5=false→T156_2 prog K ok8 m0 m20485)
def T156_0 (prog:Prog)(K:Pan→Int→Prop)(s0:BS):Prop:=
  ((s0.length:Int)>2000→K (Pan.mk 0 (Val.mk 0 0 [] ([]:List Val) false) 0) 4)∧(¬((s0.length:Int)>2000)→∃o j,Pus prog 180 [.s s0,.s ([32,97,98,111,114,116,101,100]:BS)] (.tup [.s o,.b j])∧∃k e,Pus prog 180 [.s o,.s ([32,114,101,99,111,118,101,114,101,100]:BS)] (.tup [.s k,.b e])∧∃c:Pan,∃i,Pus prog 181 [.s k] (.tup [c.av,.b i])∧(e=true→T156_1 prog K j i (Pan.mk 0 (Val.mk 0 0 [] ([]:List Val) false) 0) (Pan.mk c.tag c.value (bOr .u64 c.flags 1)))∧(e=false→T156_1 prog K j i (Pan.mk 0 (Val.mk 0 0 [] ([]:List Val) false) 0) c))
section
variable {prog:Prog}{d:Nat}{Q:AE→Sl→St→Prop}{K:Pan→Int→Prop}(hQ:H156 Q K){σ:Sl}{st:St}
include hQ
variable {ok8:Bool}{m0 m20485:Pan}{o_m0_4:Own}{v0 v20485:Nat}{aborted5:Bool}{s0:BS}
variable (H2:σ 2=.p (d,0) v0 0)(H0:σ 0=.s s0)(H5:σ 5=.b aborted5)(H7:σ 7=.p (d,20485) v20485 0)(H8:σ 8=.b ok8)(B0:lk st.bx (d,0)=some (v0,[.i .u64 m0.tag,.i .u8 m0.value.kind,.i .i64 m0.value.int,.s m0.value.text,.sl o_m0_4 (List.map Val.row m0.value.list),.b m0.value.cut,.i .u64 m0.flags]))(B20485:lk st.bx (d,20485)=some (v20485,Pan.cs m20485))
include H2 H7 H8 B0 B20485 in
theorem w156_2 (h:T156_2 prog K ok8 m0 m20485):W prog d c156_0 σ st Q:=
 au trivial
include H2 H5 H7 H8 B0 B20485 in
theorem w156_1 (h:T156_1 prog K aborted5 ok8 m0 m20485):W prog d c156_1 σ st Q:=
 au @w156_2
include H0 in
theorem w156_0 (h:T156_0 prog K s0):W prog d (sR 0 r156_0 (.seq (sR 1 r156_1 (.cond (.t 11) (sR 2 r156_2 .ret) .skip)) (sR 3 r156_3 (sR 4 r156_4 (sR 5 r156_5 (.seq (sR 6 r156_6 (.cond (.t 28) (.reg 7 r156_7) .skip)) c156_1)))))) σ st Q:=
 au @w156_1
end
theorem p156 {prog:Prog}(hf:prog.fn 156=some pf156){s0:BS}{K:Pan→Int→Prop}(h:T156_0 prog K s0) :∃res0:Pan,∃res1:Int,K res0 res1∧Pus prog 156 [.s s0] (.tup [res0.av,.i .i64 res1]):=by
  obtain ⟨v,hv,res0,res1,hk,rfl⟩:=Pus.of (K:=fun v=>∃res0:Pan,∃res1:Int,K res0 res1∧v=.tup [res0.av,.i .i64 res1]) hf rfl (w156_0 (σ:=sl0 [.s s0]) (fun σ st k0 v0 o0_0 res0 res1 H2 HB2 H3 hk=>⟨.tup [res0.avo o0_0,.i .i64 res1],by simp only [pf156,ares,aresL,ares_cellA (n:=7) H2 HB2 rfl,H3,ares_tmp,Option.map_some],_,rfl,res0,res1,hk,rfl⟩) rfl h)
  exact ⟨res0,res1,hk,hv⟩
abbrev H157 (Q:AE→Sl→St→Prop)(K:Pan→Int→Prop):Prop:=∀(σ:Sl)(st:St)(k0:Key)(v0:Nat)(o0_0:Own)(res0:Pan)(res1:Int),σ 2=.p k0 v0 0→lk st.bx k0=some (v0,[.i .u64 res0.tag,.i .u8 res0.value.kind,.i .i64 res0.value.int,.s res0.value.text,.sl o0_0 (List.map Val.row res0.value.list),.b res0.value.cut,.i .u64 res0.flags])→σ 3=.i .i64 res1→K res0 res1→Q .ret σ st
section
variable {prog:Prog}{d:Nat}{Q:AE→Sl→St→Prop}{K:Pan→Int→Prop}(hQ:H157 Q K){σ:Sl}{st:St}
include hQ
end
def r160_0:List AI:=[oY 2 7 0,oY 3 7 1,oC 4 (.b false)]
def r160_1:List AI:=[oF 5 0 2,oL 6 5,oF 7 0 3,oL 8 7,oT 9 .eql 6 8,oM 10 9,gT 10 (oF 11 6 2),gT 10 (oL 12 11),gT 10 (oF 13 6 3),gT 10 (oL 14 13),gT 10 (oT 15 .eql 12 14),oA 16 10 15,oM 17 16,gT 17 (oF 18 1 2),gT 17 (oK 19 5 18),gT 17 (oF 20 1 3),gT 17 (oK 21 5 20),gT 17 (oQ 22 78 [19,21]),oA 23 17 22,oM 4 23]
abbrev b160:AC:=(sR 0 r160_0 (sR 1 r160_1 .ret))
def pf160:AF:={ nt:=24,res:=[.tmp 4],body:=b160 }
def T160_0 (prog:Prog)(K:Bool→Prop)(a0:Pan)(b1:Pan):Prop:=
  (a0.tag=b1.tag→(a0.flags=b1.flags→∃c,Pus prog 78 [a0.value.av,b1.value.av] (.b c)∧K c)∧(¬(a0.flags=b1.flags)→K false))∧(¬(a0.tag=b1.tag)→K false)
section
variable {prog:Prog}{d:Nat}{Q:AE→Sl→St→Prop}{K:Bool→Prop}(hQ:H1 AV.b 4 Q K){σ:Sl}{st:St}
include hQ
variable {a0 b1:Pan}
variable (H0:σ 0=a0.av)(H1:σ 1=b1.av)
include H0 H1 in
theorem w160_0 (h:T160_0 prog K a0 b1):W prog d (sR 0 r160_0 (sR 1 r160_1 .ret)) σ st Q:=
 au trivial
end
theorem p160 {prog:Prog}(hf:prog.fn 160=some pf160){a0:Pan}{b1:Pan}{K:Bool→Prop}(h:T160_0 prog K a0 b1) :∃res0:Bool,K res0∧Pus prog 160 [a0.av,b1.av] (.b res0):=
 P1 hf J (w160_0 (h1 J fun _=>J) J J h)
abbrev H148 (Q:AE→Sl→St→Prop)(K:Bool→Prop):Prop:=∀(σ:Sl)(st:St)(res0:Bool),σ 4=.b res0→K res0→Q .ret σ st
section
variable {prog:Prog}{d:Nat}{Q:AE→Sl→St→Prop}{K:Bool→Prop}(hQ:H148 Q K){σ:Sl}{st:St}
include hQ
end
end Go.AM

namespace Go.AM
open Go
set_option maxRecDepth 4000
set_option maxHeartbeats 2000000
attribute [local irreducible] Decidable.decide W WO fillCells fillRows
def r185_0:List AI:=[oI 2 0]
def r185_1:List AI:=[oM 6 0,oJ 7 6,oV 8 .gtr 7 410]
def r185_2:List AI:=[oI 2 4]
def r185_3:List AI:=[oM 9 0,oJ 10 9,oI 11 0]
def r185_4:List AI:=[oT 12 .lss 11 10]
def r185_5:List AI:=[oX 13 7 9 11,oK 14 7 13,oO 4 (.alloc [z7,z8,z6,zs,zl,zb,z7]),oS 7 4 14]
def r185_6:List AI:=[oK 15 7 4,oQ 16 158 [15],oM 5 16]
def r185_7:List AI:=[oM 17 5,oV 18 .neq 17 0]
def r185_8:List AI:=[oM 19 5,oM 2 19]
def r185_9:List AI:=[oV 20 .add 11 1,oM 11 20]
def r185_10:List AI:=[oI 2 0]
abbrev l185_0:AC:=(sR 4 r185_4 (.seq (.cond (.t 12) .skip (.exit 0)) (.seq (.block 1 (sR 5 r185_5 (sR 6 r185_6 (sR 7 r185_7 (.cond (.t 18) (sR 8 r185_8 .ret) .skip))))) (.reg 9 r185_9))))
abbrev c185_1:AC:=(sR 10 r185_10 .ret)
abbrev b185:AC:=(sR 0 r185_0 (.seq (sR 1 r185_1 (.cond (.t 8) (sR 2 r185_2 .ret) .skip)) (.seq (sR 3 r185_3 (.block 0 (.loop l185_0))) c185_1)))
def pf185:AF:={ nt:=21,res:=[.tmp 2],body:=b185 }
abbrev I185_0 (prog:Prog)(d:Nat)(Q:AE→Sl→St→Prop)(t9:List Pan)(t10:Int)(t11:Int):Prop:=
  ∀(σ:Sl)(st:St)(o_t9:Own),σ 9=.sl o_t9 (List.map Pan.row t9)→σ 10=.i .i64 t10→σ 11=.i .i64 t11→W prog d (.loop l185_0) σ st (blockW 0 (thenW prog d c185_1 Q))
def T185_2 (prog:Prog)(K:Int→Prop) :Prop:=
  K 0
def T185_1 (prog:Prog)(K:Int→Prop)(P0:Int→Prop)(t9:List Pan)(t10:Int)(t11:Int):Prop:=
  (t11<t10→0≤t11∧∃e:Pan,t9[(t11).toNat]?=some e∧∃c,Pus prog 158 [e.av] (.i .i64 c)∧(c≠0→K c)∧(¬(c≠0)→P0 (IntKind.i64.wrap (t11+1))))∧(¬(t11<t10)→T185_2 prog K )
def T185_0 (prog:Prog)(K:Int→Prop)(l0:List Pan):Prop:=
  ((l0.length:Int)>410→K 4)∧(¬((l0.length:Int)>410)→∀P0:Int→Prop,(∀(t11:Int),T185_1 prog K P0 l0 (l0.length:Int) t11→P0 t11)→P0 0)
section
variable {prog:Prog}{d:Nat}{Q:AE→Sl→St→Prop}{K:Int→Prop}(hQ:H1 (AV.i .i64) 2 Q K){σ:Sl}{st:St}
include hQ
variable {t9:List Pan}{t10 t11:Int}{P0:Int→Prop}{o_t9:Own}{l0:List Pan}{o_l0:Own}
variable (kP0 :∀(t11:Int),P0 t11→I185_0 prog d Q t9 t10 t11)(H0:σ 0=.sl o_l0 (List.map Pan.row l0))(H9:σ 9=.sl o_t9 (List.map Pan.row t9))(H10:σ 10=.i .i64 t10)(H11:σ 11=.i .i64 t11)
theorem w185_2 (h:T185_2 prog K ):W prog d c185_1 σ st Q:=
 au trivial
include kP0 H9 H10 H11 in
theorem w185_1 (h:T185_1 prog K P0 t9 t10 t11):W prog d l185_0 σ st (thenW prog d (.loop l185_0) (blockW 0 (thenW prog d c185_1 Q))):=
 au @w185_2
include H0 in
theorem w185_0 (h:T185_0 prog K l0):W prog d (sR 0 r185_0 (.seq (sR 1 r185_1 (.cond (.t 8) (sR 2 r185_2 .ret) .skip)) (.seq (sR 3 r185_3 (.block 0 (.loop l185_0))) c185_1))) σ st Q:=
 q_ J (m_ (e_ (sq_ (q_ J (s_mvL H0 (ll_ J (b_ J J gtr_ (e_ (cs_ J (fun c=>q_ J (m_ (er_ (hQ J (h.1 c))))) (fun c=>sk_ (sq_ (q_ J (s_mvL H0 (ll_ J (m_ (e_ (bk_ ((h.2 c) (I185_0 prog d Q l0 (l0.length:Int)) (fun _ hb _ _ _ H9 H10 H11=>W.loop (w185_1 hQ (fun _ x=>x) H9 H10 H11 hb)) _ _ _ J J J))))))))))))))))))
end
theorem p185 {prog:Prog}(hf:prog.fn 185=some pf185){l0:List Pan}{K:Int→Prop}(h:T185_0 prog K l0) :∃res0:Int,K res0∧Pus prog 185 [.sl .ext (List.map Pan.row l0)] (.i .i64 res0):=
 P1 hf J (w185_0 (h1 J fun _=>J) J h)
abbrev H163 (Q:AE→Sl→St→Prop)(K:Int→Prop):Prop:=∀(σ:Sl)(st:St)(res0:Int),σ 2=.i .i64 res0→K res0→Q .ret σ st
section
variable {prog:Prog}{d:Nat}{Q:AE→Sl→St→Prop}{K:Int→Prop}(hQ:H163 Q K){σ:Sl}{st:St}
include hQ
end
def r165_0:List AI:=[oI 2 0,oI 3 0]
def r165_1:List AI:=[oM 7 0,oQ 8 185 [7],oM 4 8]
def r165_2:List AI:=[oM 9 4,oV 10 .neq 9 0]
def r165_3:List AI:=[oM 11 4,oI 2 0,oM 3 11]
def r165_4:List AI:=[oM 12 0,oJ 13 12,oI 14 0]
def r165_5:List AI:=[oT 15 .lss 14 13]
def r165_6:List AI:=[oM 16 14,oX 17 7 12 14,oK 18 7 17,oO 6 (.alloc [z7,z8,z6,zs,zl,zb,z7]),oM 5 16,oS 7 6 18]
def r165_7:List AI:=[oF 19 6 6,oL 20 19,oB 21 .eql (.t 20) (.c (.i .u64 0))]
def r165_8:List AI:=[oM 22 5,oM 2 22,oI 3 0]
def r165_9:List AI:=[oV 23 .add 14 1,oM 14 23]
def r165_10:List AI:=[oI 2 0,oI 3 6]
abbrev l165_0:AC:=(sR 5 r165_5 (.seq (.cond (.t 15) .skip (.exit 0)) (.seq (.block 1 (sR 6 r165_6 (sR 7 r165_7 (.cond (.t 21) (sR 8 r165_8 .ret) .skip)))) (.reg 9 r165_9))))
abbrev c165_1:AC:=(sR 10 r165_10 .ret)
abbrev b165:AC:=(sR 0 r165_0 (.seq (sR 1 r165_1 (sR 2 r165_2 (.cond (.t 10) (sR 3 r165_3 .ret) .skip))) (.seq (sR 4 r165_4 (.block 0 (.loop l165_0))) c165_1)))
def pf165:AF:={ nt:=24,res:=[.tmp 2,.tmp 3],body:=b165 }
abbrev I165_0 (prog:Prog)(d:Nat)(Q:AE→Sl→St→Prop)(t12:List Pan)(t13:Int)(t14:Int):Prop:=
  ∀(σ:Sl)(st:St)(o_t12:Own),σ 12=.sl o_t12 (List.map Pan.row t12)→σ 13=.i .i64 t13→σ 14=.i .i64 t14→W prog d (.loop l165_0) σ st (blockW 0 (thenW prog d c165_1 Q))
def T165_2 (prog:Prog)(K:Int→Int→Prop) :Prop:=
  K 0 6
def T165_1 (prog:Prog)(K:Int→Int→Prop)(P0:Int→Prop)(t12:List Pan)(t13:Int)(t14:Int):Prop:=
  (t14<t13→0≤t14∧∃c:Pan,t12[(t14).toNat]?=some c∧(c.flags=0→K t14 0)∧(¬(c.flags=0)→P0 (IntKind.i64.wrap (t14+1))))∧(¬(t14<t13)→T165_2 prog K )
def T165_0 (prog:Prog)(K:Int→Int→Prop)(l0:List Pan):Prop:=
  ∃c,Pus prog 185 [.sl .ext (List.map Pan.row l0)] (.i .i64 c)∧(c≠0→K 0 c)∧(¬(c≠0)→∀P0:Int→Prop,(∀(t14:Int),T165_1 prog K P0 l0 (l0.length:Int) t14→P0 t14)→P0 0)
section
variable {prog:Prog}{d:Nat}{Q:AE→Sl→St→Prop}{K:Int→Int→Prop}(hQ:H2 (AV.i .i64) (AV.i .i64) 2 3 Q K){σ:Sl}{st:St}
include hQ
variable {t12:List Pan}{t13 t14:Int}{P0:Int→Prop}{o_t12:Own}{l0:List Pan}{o_l0:Own}
variable (kP0 :∀(t14:Int),P0 t14→I165_0 prog d Q t12 t13 t14)(H0:σ 0=.sl o_l0 (List.map Pan.row l0))(H12:σ 12=.sl o_t12 (List.map Pan.row t12))(H13:σ 13=.i .i64 t13)(H14:σ 14=.i .i64 t14)
theorem w165_2 (h:T165_2 prog K ):W prog d c165_1 σ st Q:=
 au trivial
include kP0 H12 H13 H14 in
theorem w165_1 (h:T165_1 prog K P0 t12 t13 t14):W prog d l165_0 σ st (thenW prog d (.loop l165_0) (blockW 0 (thenW prog d c165_1 Q))):=
 au @w165_2
include H0 in
theorem w165_0 (h:T165_0 prog K l0):W prog d (sR 0 r165_0 (.seq (sR 1 r165_1 (sR 2 r165_2 (.cond (.t 10) (sR 3 r165_3 .ret) .skip))) (.seq (sR 4 r165_4 (.block 0 (.loop l165_0))) c165_1))) σ st Q:=
 q_ J (m_ (m_ (e_ (sq_ (q_ J (s_mvL H0 (h.elim fun _ c=>ca_ (sc1 J J) c.1 (m_ (e_ (q_ J (m_ (b_ J J neq_ (e_ (cs_ J (fun e=>q_ J (m_ (m_ (m_ (er_ (hQ J J (c.2.1 e))))))) (fun e=>sk_ (sq_ (q_ J (s_mvL H0 (ll_ J (m_ (e_ (bk_ ((c.2.2 e) (I165_0 prog d Q l0 (l0.length:Int)) (fun _ hb _ _ _ H12 H13 H14=>W.loop (w165_1 hQ (fun _ x=>x) H12 H13 H14 hb)) _ _ _ J J J)))))))))))))))))))))))
end
theorem p165 {prog:Prog}(hf:prog.fn 165=some pf165){l0:List Pan}{K:Int→Int→Prop}(h:T165_0 prog K l0) :∃res0:Int,∃res1:Int,K res0 res1∧Pus prog 165 [.sl .ext (List.map Pan.row l0)] (.tup [.i .i64 res0,.i .i64 res1]):=
 P2 hf J (w165_0 (h2 J fun _ _=>J) J h)
def r169_0:List AI:=[oI 2 0,oI 3 0]
def r169_1:List AI:=[oM 6 0,oQ 7 163 [6],oM 4 7]
def r169_2:List AI:=[oM 8 4,oV 9 .neq 8 0]
def r169_3:List AI:=[oM 10 4,oI 2 0,oM 3 10]
def r169_4:List AI:=[oI 5 0]
def r169_5:List AI:=[oM 11 5,oM 12 0,oJ 13 12,oT 14 .lss 11 13]
def r169_6:List AI:=[oM 17 0,oM 18 5,oX 19 7 17 18,oF 20 6 19,oL 21 20,oB 22 .eql (.t 21) (.c (.i .u64 0))]
def r169_7:List AI:=[oM 23 5,oM 2 23,oI 3 0]
def r169_8:List AI:=[oM 15 5,oV 16 .add 15 1,oM 5 16]
def r169_9:List AI:=[oI 2 0,oI 3 6]
abbrev l169_0:AC:=(.seq (sR 5 r169_5 (.cond (.t 14) .skip (.exit 0))) (.seq (.block 1 (sR 7 r169_6 (.cond (.t 22) (sR 8 r169_7 .ret) .skip))) (.reg 6 r169_8)))
abbrev c169_1:AC:=(sR 9 r169_9 .ret)
abbrev b169:AC:=(sR 0 r169_0 (.seq (sR 1 r169_1 (sR 2 r169_2 (.cond (.t 9) (sR 3 r169_3 .ret) .skip))) (.seq (sR 4 r169_4 (.block 0 (.loop l169_0))) c169_1)))
def pf169:AF:={ nt:=24,res:=[.tmp 2,.tmp 3],body:=b169 }
abbrev H169 (Q:AE→Sl→St→Prop)(K:Int→Int→Prop):Prop:=∀(σ:Sl)(st:St)(res0:Int)(res1:Int),σ 2=.i .i64 res0→σ 3=.i .i64 res1→K res0 res1→Q .ret σ st
section
variable {prog:Prog}{d:Nat}{Q:AE→Sl→St→Prop}{K:Int→Int→Prop}(hQ:H169 Q K){σ:Sl}{st:St}
include hQ
end
abbrev H170 (Q:AE→Sl→St→Prop)(K:Bool→Prop):Prop:=∀(σ:Sl)(st:St)(res0:Bool),σ 4=.b res0→K res0→Q .ret σ st
section
variable {prog:Prog}{d:Nat}{Q:AE→Sl→St→Prop}{K:Bool→Prop}(hQ:H170 Q K){σ:Sl}{st:St}
include hQ
end
abbrev H162 (Q:AE→Sl→St→Prop)(K:Bool→Prop):Prop:=∀(σ:Sl)(st:St)(res0:Bool),σ 2=.b res0→K res0→Q .ret σ st
section
variable {prog:Prog}{d:Nat}{Q:AE→Sl→St→Prop}{K:Bool→Prop}(hQ:H162 Q K){σ:Sl}{st:St}
include hQ
end
def r164_0:List AI:=[oC 2 (.s []),oI 3 0]
def r164_1:List AI:=[oM 10 0,oQ 11 185 [10],oM 4 11]
def r164_2:List AI:=[oM 12 4,oV 13 .neq 12 0]
def r164_3:List AI:=[oM 14 4,oC 2 (.s []),oM 3 14]
def r164_4:List AI:=[oO 5 (.alloc [.np,.sl .full []])]
def r164_5:List AI:=[oM 15 0,oJ 16 15,oI 17 0]
def r164_6:List AI:=[oT 18 .lss 17 16]
def r164_7:List AI:=[oX 19 7 15 17,oK 20 7 19,oO 7 (.alloc [z7,z8,z6,zs,zl,zb,z7]),oS 7 7 20]
def r164_8:List AI:=[oK 22 7 7,oQ 23 154 [22],oM 21 23,oE 24 0 21,oE 25 1 21,oM 8 24,oM 9 25]
def r164_9:List AI:=[oM 26 9,oV 27 .neq 26 0]
def r164_10:List AI:=[oM 28 9,oC 2 (.s []),oM 3 28]
def r164_11:List AI:=[oM 29 8,oB 30 .add (.t 29) (.c (.s [10])),oO 31 (.call true 126 [(.t 5),(.t 30)])]
def r164_12:List AI:=[oV 32 .add 17 1,oM 17 32]
def r164_13:List AI:=[oO 33 (.call true 105 [(.t 5)]),oM 2 33,oI 3 0]
abbrev l164_0:AC:=(sR 6 r164_6 (.seq (.cond (.t 18) .skip (.exit 0)) (.seq (.block 1 (sR 7 r164_7 (sR 8 r164_8 (.seq (sR 9 r164_9 (.cond (.t 27) (sR 10 r164_10 .ret) .skip)) (.reg 11 r164_11))))) (.reg 12 r164_12))))
abbrev c164_1:AC:=(sR 13 r164_13 .ret)
abbrev b164:AC:=(sR 0 r164_0 (.seq (sR 1 r164_1 (sR 2 r164_2 (.cond (.t 13) (sR 3 r164_3 .ret) .skip))) (sR 1000004 r164_4 (.seq (sR 5 r164_5 (.block 0 (.loop l164_0))) c164_1))))
def pf164:AF:={ nt:=34,res:=[.tmp 2,.tmp 3],body:=b164 }
abbrev I164_0 (prog:Prog)(d:Nat)(Q:AE→Sl→St→Prop)(t15:List Pan)(t16:Int)(t17:Int)(m4096016384:BS):Prop:=
  ∀(σ:Sl)(st:St)(o_t15:Own)(v4096016384:Nat),σ 5=.p (d,1000004*4096+0) v4096016384 0→σ 15=.sl o_t15 (List.map Pan.row t15)→σ 16=.i .i64 t16→σ 17=.i .i64 t17→Bl m4096016384 st.bx st.ow (d,1000004*4096+0) v4096016384→W prog d (.loop l164_0) σ st (blockW 0 (thenW prog d c164_1 Q))
def T164_2 (prog:Prog)(K:BS→Int→Prop)(m4096016384:BS):Prop:=
  ∃c,PuX prog 105 (Bl m4096016384) [] (fun r=>r=.s c) (fun _ _ _ _=>True)∧K c 0
def T164_1 (prog:Prog)(K:BS→Int→Prop)(P0:Int→BS→Prop)(t15:List Pan)(t16:Int)(t17:Int)(m4096016384:BS):Prop:=
  (t17<t16→0≤t17∧∃k:Pan,t15[(t17).toNat]?=some k∧∃e:BS,∃c,Pus prog 154 [k.av] (.tup [.s e,.i .i64 c])∧(c≠0→K ([]:BS) c)∧(¬(c≠0)→e.length+([10]:BS).length≤maxStr∧∃o,∃j:BS,PuX prog 126 (Bl m4096016384) [.s (e++([10]:BS))] (fun r=>r=.tup [.i .i64 o,.ni]) ((Bl j))∧P0 (IntKind.i64.wrap (t17+1)) j))∧(¬(t17<t16)→T164_2 prog K m4096016384)
def T164_0 (prog:Prog)(K:BS→Int→Prop)(l0:List Pan):Prop:=
  ∃c,Pus prog 185 [.sl .ext (List.map Pan.row l0)] (.i .i64 c)∧(c≠0→K ([]:BS) c)∧(¬(c≠0)→∀P0:Int→BS→Prop,(∀(t17:Int)(m4096016384:BS),T164_1 prog K P0 l0 (l0.length:Int) t17 m4096016384→P0 t17 m4096016384)→P0 0 ([]:BS))
section
variable {prog:Prog}{d:Nat}{Q:AE→Sl→St→Prop}{K:BS→Int→Prop}(hQ:H2 AV.s (AV.i .i64) 2 3 Q K){σ:Sl}{st:St}
include hQ
variable {m4096016384:BS}{v4096016384:Nat}{t15:List Pan}{t16 t17:Int}{P0:Int→BS→Prop}{o_t15:Own}{l0:List Pan}{o_l0:Own}
variable (kP0 :∀(t17:Int)(m4096016384:BS),P0 t17 m4096016384→I164_0 prog d Q t15 t16 t17 m4096016384)(H0:σ 0=.sl o_l0 (List.map Pan.row l0))(H5:σ 5=.p (d,1000004*4096+0) v4096016384 0)(H15:σ 15=.sl o_t15 (List.map Pan.row t15))(H16:σ 16=.i .i64 t16)(H17:σ 17=.i .i64 t17)(B4096016384:Bl m4096016384 st.bx st.ow (d,1000004*4096+0) v4096016384)
include H5 B4096016384 in
theorem w164_2 (h:T164_2 prog K m4096016384):W prog d c164_1 σ st Q:=
 q_ J (h.elim fun _ c=>cX_ (sec H5 sen) c.1 (Nat.lt_succ_self d) B4096016384 (fun _ _ _=>m_ (m_ (er_ (hQ J J c.2)))))
include kP0 H5 H15 H16 H17 B4096016384 in
theorem w164_1 (h:T164_1 prog K P0 t15 t16 t17 m4096016384):W prog d l164_0 σ st (thenW prog d (.loop l164_0) (blockW 0 (thenW prog d c164_1 Q))):=
 q_ J (b_ H17 H16 lss_ (e_ (sq_ (cs_ J (fun e=>sk_ (sq_ (bk_ (sq_ (W.reg ((h.1 e).2.elim fun p o=>ia_ H15 H17 (h.1 e).1 o.1 (Pan.row_eq p) J (lf_ J J J (s_alloc (so_ J (show lk _ (d,28674)=some (_,([.i .u64 0,.i .u8 0,.i .i64 0,.s [],.sl .full (List.map Val.row ([]:List Val)),.b false,.i .u64 0]:List AV)) from lk_here) J J J (e_ (q_ J (l_ J lk_here J J (x2 o.2 fun _ _ c=>ca_ (sc1 J J) c.1 (m_ (x_ J J (x_ J J (m_ (m_ (e_ (sq_ (q_ J (m_ (b_ J J neq_ (e_ (cs_ J (fun j=>q_ J (m_ (m_ (m_ (er_ (hQ J J (c.2.1 j))))))) (fun j=>sk_ (W.reg0 J fun _ _=>m_ (b_ J J (abin_cat' (c.2.2 j).1) ((c.2.2 j).2.elim fun _ q=>q.elim fun _ k=>cX_ (sec H5 (sec J sen)) k.1 (Nat.lt_succ_self d) (Bl.other (key_LL J) (Bl.other (key_LL J) B4096016384)) (fun _ r _=>e_ (W.reg0 J fun _ _=>b_ H17 J add_ (m_ (e_ (kP0 _ _ k.2 _ _ _ _ H5 H15 H16 J r)))))))))))))))))))))))))))))))))) (fun e=>ex_ (w164_2 hQ H5 B4096016384 (h.2 e)))))))
include H0 in
theorem w164_0 (h:T164_0 prog K l0):W prog d (sR 0 r164_0 (.seq (sR 1 r164_1 (sR 2 r164_2 (.cond (.t 13) (sR 3 r164_3 .ret) .skip))) (sR 1000004 r164_4 (.seq (sR 5 r164_5 (.block 0 (.loop l164_0))) c164_1)))) σ st Q:=
 q_ J (m_ (m_ (e_ (sq_ (q_ J (s_mvL H0 (h.elim fun _ c=>ca_ (sc1 J J) c.1 (m_ (e_ (q_ J (m_ (b_ J J neq_ (e_ (cs_ J (fun e=>q_ J (m_ (m_ (m_ (er_ (hQ J J (c.2.1 e))))))) (fun e=>sk_ (sq_ (W.regB J (fun _ _ _ i _=>sq_ (q_ J (s_mvL H0 (ll_ J (m_ (e_ (bk_ ((c.2.2 e) (I164_0 prog d Q l0 (l0.length:Int)) (fun _ _ hb _ _ _ _ H5 H15 H16 H17 B4096016384=>W.loop (w164_1 hQ (fun _ _ x=>x) H5 H15 H16 H17 B4096016384 hb)) _ _ _ _ J J J J i)))))))))))))))))))))))))
end
theorem p164 {prog:Prog}(hf:prog.fn 164=some pf164){l0:List Pan}{K:BS→Int→Prop}(h:T164_0 prog K l0) :∃res0:BS,∃res1:Int,K res0 res1∧Pus prog 164 [.sl .ext (List.map Pan.row l0)] (.tup [.s res0,.i .i64 res1]):=
 P2 hf J (w164_0 (h2 J fun _ _=>J) J h)
abbrev H166 (Q:AE→Sl→St→Prop)(K:BS→Int→Prop):Prop:=∀(σ:Sl)(st:St)(res0:BS)(res1:Int),σ 2=.s res0→σ 3=.i .i64 res1→K res0 res1→Q .ret σ st
section
variable {prog:Prog}{d:Nat}{Q:AE→Sl→St→Prop}{K:BS→Int→Prop}(hQ:H166 Q K){σ:Sl}{st:St}
include hQ
end
def r171_0:List AI:=[oY 2 7 0,oC 4 (.b false)]
def r171_1:List AI:=[oK 10 7 2,oQ 11 154 [10],oM 9 11,oE 12 0 9,oE 13 1 9,oM 5 12,oM 6 13]
def r171_2:List AI:=[oM 15 1,oQ 16 156 [15],oM 14 16,oE 17 0 14,oE 18 1 14,oO 7 (.alloc [z7,z8,z6,zs,zl,zb,z7]),oS 7 7 17,oM 8 18]
def r171_3:List AI:=[oM 19 6,oV 20 .eql 19 0,oM 21 20,gT 21 (oM 22 5),gT 21 (oM 23 1),gT 21 (oT 24 .eql 22 23),oA 25 21 24,oM 26 25,gT 26 (oM 27 8),gT 26 (oV 28 .eql 27 0),oA 29 26 28,oM 30 29,gT 30 (oK 31 7 2),gT 30 (oK 32 7 7),gT 30 (oQ 33 160 [31,32]),oA 34 30 33,oM 4 34]
abbrev b171:AC:=(sR 0 r171_0 (sR 1 r171_1 (sR 2 r171_2 (sR 3 r171_3 .ret))))
def pf171:AF:={ nt:=35,res:=[.tmp 4],body:=b171 }
def T171_0 (prog:Prog)(K:Bool→Prop)(p0:Pan)(want1:BS):Prop:=
  ∃c j,Pus prog 154 [p0.av] (.tup [.s c,.i .i64 j])∧∃k:Pan,∃e,Pus prog 156 [.s want1] (.tup [k.av,.i .i64 e])∧(j=0→(c=want1→(e=0→∃o,Pus prog 160 [p0.av,k.av] (.b o)∧K o)∧(¬(e=0)→K false))∧(¬(c=want1)→K false))∧(¬(j=0)→K false)
section
variable {prog:Prog}{d:Nat}{Q:AE→Sl→St→Prop}{K:Bool→Prop}(hQ:H1 AV.b 4 Q K){σ:Sl}{st:St}
include hQ
variable {p0:Pan}{want1:BS}
variable (H0:σ 0=p0.av)(H1:σ 1=.s want1)
include H0 H1 in
theorem w171_0 (h:T171_0 prog K p0 want1):W prog d (sR 0 r171_0 (sR 1 r171_1 (sR 2 r171_2 (sR 3 r171_3 .ret)))) σ st Q:=
 au trivial
end
theorem p171 {prog:Prog}(hf:prog.fn 171=some pf171){p0:Pan}{want1:BS}{K:Bool→Prop}(h:T171_0 prog K p0 want1) :∃res0:Bool,K res0∧Pus prog 171 [p0.av,.s want1] (.b res0):=
 P1 hf J (w171_0 (h1 J fun _=>J) J J h)
def r172_0:List AI:=[oO 2 (.alloc [z8,z6,zs,zl,zb])]
def r172_1:List AI:=[oM 3 0,oO 4 (.build [z8,z6,zs,zl,zb] [(0,1,(.c (.i .u8 2))),(1,1,(.t 3))]),oS 5 2 4]
abbrev b172:AC:=(sR 0 r172_0 (sR 1 r172_1 .ret))
def pf172:AF:={ nt:=5,res:=[.cell 2 5 true],body:=b172 }
abbrev H172 (Q:AE→Sl→St→Prop)(K:Val→Prop):Prop:=∀(σ:Sl)(st:St)(k0:Key)(v0:Nat)(o0_0:Own)(res0:Val),σ 2=.p k0 v0 0→lk st.bx k0=some (v0,[.i .u8 res0.kind,.i .i64 res0.int,.s res0.text,.sl o0_0 (List.map Val.row res0.list),.b res0.cut])→K res0→Q .ret σ st
def T172_0 (prog:Prog)(K:Val→Prop)(n0:Int):Prop:=
  K (Val.mk 2 n0 [] ([]:List Val) false)
section
variable {prog:Prog}{d:Nat}{Q:AE→Sl→St→Prop}{K:Val→Prop}(hQ:H172 Q K){σ:Sl}{st:St}
include hQ
variable {n0:Int}
variable (H0:σ 0=.i .i64 n0)
include H0 in
theorem w172_0 (h:T172_0 prog K n0):W prog d (sR 0 r172_0 (sR 1 r172_1 .ret)) σ st Q:=
 sq_ (W.reg (s_alloc (e_ (q_ J (m_ (s_build (f_cons J J (f_cons H0 J f_nil)) (so_ J (show lk _ (d,0)=some (_,([.i .u8 0,.i .i64 0,.s [],.sl .full (List.map Val.row ([]:List Val)),.b false]:List AV)) from lk_here) J J J (er_ (hQ _ _ _ _ _ _ J lk_here h)))))))))
end
theorem p172 {prog:Prog}(hf:prog.fn 172=some pf172){n0:Int}{K:Val→Prop}(h:T172_0 prog K n0) :∃res0:Val,K res0∧Pus prog 172 [.i .i64 n0] (res0.av):=by
  obtain ⟨v,hv,res0,hk,rfl⟩:=Pus.of (K:=fun v=>∃res0:Val,K res0∧v=res0.av) hf rfl (w172_0 (σ:=sl0 [.i .i64 n0]) (fun σ st k0 v0 o0_0 res0 H2 HB2 hk=>⟨res0.avo o0_0,by simp only [pf172,ares,aresL,ares_cellA (n:=5) H2 HB2 rfl,ares_tmp,Option.map_some],_,rfl,res0,hk,rfl⟩) rfl h)
  exact ⟨res0,hk,hv⟩
def r173_0:List AI:=[oO 0 (.alloc [z8,z6,zs,zl,zb])]
def r173_1:List AI:=[oO 1 (.build [z8,z6,zs,zl,zb] [(0,1,(.c (.i .u8 1))),(1,1,(.c (.i .i64 1)))]),oS 5 0 1]
abbrev b173:AC:=(sR 0 r173_0 (sR 1 r173_1 .ret))
def pf173:AF:={ nt:=2,res:=[.cell 0 5 true],body:=b173 }
abbrev H173 (Q:AE→Sl→St→Prop)(K:Val→Prop):Prop:=∀(σ:Sl)(st:St)(k0:Key)(v0:Nat)(o0_0:Own)(res0:Val),σ 0=.p k0 v0 0→lk st.bx k0=some (v0,[.i .u8 res0.kind,.i .i64 res0.int,.s res0.text,.sl o0_0 (List.map Val.row res0.list),.b res0.cut])→K res0→Q .ret σ st
def T173_0 (prog:Prog)(K:Val→Prop) :Prop:=
  K (Val.mk 1 1 [] ([]:List Val) false)
section
variable {prog:Prog}{d:Nat}{Q:AE→Sl→St→Prop}{K:Val→Prop}(hQ:H173 Q K){σ:Sl}{st:St}
include hQ
theorem w173_0 (h:T173_0 prog K ):W prog d (sR 0 r173_0 (sR 1 r173_1 .ret)) σ st Q:=
 sq_ (W.reg (s_alloc (e_ (q_ J (s_build (f_cons J J (f_cons J J f_nil)) (so_ J (show lk _ (d,0)=some (_,([.i .u8 0,.i .i64 0,.s [],.sl .full (List.map Val.row ([]:List Val)),.b false]:List AV)) from lk_here) J J J (er_ (hQ _ _ _ _ _ _ J lk_here h))))))))
end
theorem p173 {prog:Prog}(hf:prog.fn 173=some pf173)  {K:Val→Prop}(h:T173_0 prog K ) :∃res0:Val,K res0∧Pus prog 173 [] (res0.av):=by
  obtain ⟨v,hv,res0,hk,rfl⟩:=Pus.of (K:=fun v=>∃res0:Val,K res0∧v=res0.av) hf rfl (w173_0 (σ:=sl0 []) (fun σ st k0 v0 o0_0 res0 H0 HB0 hk=>⟨res0.avo o0_0,by simp only [pf173,ares,aresL,ares_cellA (n:=5) H0 HB0 rfl,ares_tmp,Option.map_some],_,rfl,res0,hk,rfl⟩)  h)
  exact ⟨res0,hk,hv⟩
def r174_0:List AI:=[oO 2 (.alloc [z8,z6,zs,zl,zb])]
def r174_1:List AI:=[oM 3 0,oO 4 (.build [z8,z6,zs,zl,zb] [(0,1,(.c (.i .u8 3))),(2,1,(.t 3))]),oS 5 2 4]
abbrev b174:AC:=(sR 0 r174_0 (sR 1 r174_1 .ret))
def pf174:AF:={ nt:=5,res:=[.cell 2 5 true],body:=b174 }
abbrev H174 (Q:AE→Sl→St→Prop)(K:Val→Prop):Prop:=∀(σ:Sl)(st:St)(k0:Key)(v0:Nat)(o0_0:Own)(res0:Val),σ 2=.p k0 v0 0→lk st.bx k0=some (v0,[.i .u8 res0.kind,.i .i64 res0.int,.s res0.text,.sl o0_0 (List.map Val.row res0.list),.b res0.cut])→K res0→Q .ret σ st
def T174_0 (prog:Prog)(K:Val→Prop)(s0:BS):Prop:=
  K (Val.mk 3 0 s0 ([]:List Val) false)
section
variable {prog:Prog}{d:Nat}{Q:AE→Sl→St→Prop}{K:Val→Prop}(hQ:H174 Q K){σ:Sl}{st:St}
include hQ
variable {s0:BS}
variable (H0:σ 0=.s s0)
include H0 in
theorem w174_0 (h:T174_0 prog K s0):W prog d (sR 0 r174_0 (sR 1 r174_1 .ret)) σ st Q:=
 sq_ (W.reg (s_alloc (e_ (q_ J (m_ (s_build (f_cons J J (f_cons H0 J f_nil)) (so_ J (show lk _ (d,0)=some (_,([.i .u8 0,.i .i64 0,.s [],.sl .full (List.map Val.row ([]:List Val)),.b false]:List AV)) from lk_here) J J J (er_ (hQ _ _ _ _ _ _ J lk_here h)))))))))
end
theorem p174 {prog:Prog}(hf:prog.fn 174=some pf174){s0:BS}{K:Val→Prop}(h:T174_0 prog K s0) :∃res0:Val,K res0∧Pus prog 174 [.s s0] (res0.av):=by
  obtain ⟨v,hv,res0,hk,rfl⟩:=Pus.of (K:=fun v=>∃res0:Val,K res0∧v=res0.av) hf rfl (w174_0 (σ:=sl0 [.s s0]) (fun σ st k0 v0 o0_0 res0 H2 HB2 hk=>⟨res0.avo o0_0,by simp only [pf174,ares,aresL,ares_cellA (n:=5) H2 HB2 rfl,ares_tmp,Option.map_some],_,rfl,res0,hk,rfl⟩) rfl h)
  exact ⟨res0,hk,hv⟩
def r176_0:List AI:=[oC 2 (.b false)]
def r176_1:List AI:=[oM 6 0,oQ 7 156 [6],oM 5 7,oE 8 0 5,oE 9 1 5,oO 3 (.alloc [z7,z8,z6,zs,zl,zb,z7]),oS 7 3 8,oM 4 9]
def r176_2:List AI:=[oM 10 4,oV 11 .eql 10 12,oM 12 11,gT 12 (oK 13 7 3),gT 12 (oO 14 (.build [z7,z8,z6,zs,zl,zb,z7] [])),gT 12 (oQ 15 160 [13,14]),oA 16 12 15,oM 2 16]
abbrev b176:AC:=(sR 0 r176_0 (sR 1 r176_1 (sR 2 r176_2 .ret)))
def pf176:AF:={ nt:=17,res:=[.tmp 2],body:=b176 }
def T176_0 (prog:Prog)(K:Bool→Prop)(s0:BS):Prop:=
  ∃j:Pan,∃c,Pus prog 156 [.s s0] (.tup [j.av,.i .i64 c])∧(c=12→∃e,Pus prog 160 [j.av,.ag [.i .u64 0,.i .u8 0,.i .i64 0,.s [],.sl .ext (List.map Val.row ([]:List Val)),.b false,.i .u64 0]] (.b e)∧K e)∧(¬(c=12)→K false)
section
variable {prog:Prog}{d:Nat}{Q:AE→Sl→St→Prop}{K:Bool→Prop}(hQ:H1 AV.b 2 Q K){σ:Sl}{st:St}
include hQ
variable {s0:BS}
variable (H0:σ 0=.s s0)
include H0 in
theorem w176_0 (h:T176_0 prog K s0):W prog d (sR 0 r176_0 (sR 1 r176_1 (sR 2 r176_2 .ret))) σ st Q:=
 au trivial
end
theorem p176 {prog:Prog}(hf:prog.fn 176=some pf176){s0:BS}{K:Bool→Prop}(h:T176_0 prog K s0) :∃res0:Bool,K res0∧Pus prog 176 [.s s0] (.b res0):=
 P1 hf J (w176_0 (h1 J fun _=>J) J h)
def r184_0:List AI:=[oC 0 (.sl .full [])]
def r184_1:List AI:=[oO 1 (.call false 174 [(.c (.s [97,32,98]))]),oO 2 (.build [z7,z8,z6,zs,zl,zb,z7] [(0,1,(.c (.i .u64 3))),(1,5,(.t 1)),(6,1,(.c (.i .u64 1)))]),oO 3 (.call false 172 [(.c (.i .i64 1))]),oO 4 (.build [z7,z8,z6,zs,zl,zb,z7] [(0,1,(.c (.i .u64 4))),(1,5,(.t 3)),(6,1,(.c (.i .u64 4)))]),oO 5 (.build [z7,z8,z6,zs,zl,zb,z7] [(6,1,(.c (.i .u64 2)))]),oO 6 (.bslice [z7,z8,z6,zs,zl,zb,z7] 3 [(0,(.t 2)),(1,(.t 4)),(2,(.t 5))]),oM 0 6]
abbrev b184:AC:=(sR 0 r184_0 (sR 1 r184_1 .ret))
def pf184:AF:={ nt:=7,res:=[.tmp 0],body:=b184 }
abbrev H184 (d:Nat)(st0:St)(Q:AE→Sl→St→Prop)(K:List Pan→Prop):Prop:=∀(σ:Sl)(st:St)(res0:List Pan),σ 0=.sl .full (List.map Pan.row res0)→Fr d (d,0) st0.bx st0.ow st.bx st.ow→K res0→Q .ret σ st
def T184_0 (prog:Prog)(K:List Pan→Prop) :Prop:=
  ∃e:Val,Pus prog 174 [.s ([97,32,98]:BS)] (e.av)∧∃c:Val,Pus prog 172 [.i .i64 1] (c.av)∧K [(Pan.mk 3 e 1),(Pan.mk 4 c 4),(Pan.mk 0 (Val.mk 0 0 [] ([]:List Val) false) 2)]
section
variable {prog:Prog}{d:Nat}{Q:AE→Sl→St→Prop}{K:List Pan→Prop}{st0:St}(hQ:H184 d st0 Q K){σ:Sl}{st:St}
include hQ
variable (FR:Fr d (d,0) st0.bx st0.ow st.bx st.ow)
include FR in
theorem w184_0 (h:T184_0 prog K ):W prog d (sR 0 r184_0 (sR 1 r184_1 .ret)) σ st Q:=
 q_ J (s_mvL (f:=Pan.row) (l:=[]) J (e_ (q_ J (h.elim fun i c=>ca_ (sc1 J J) c.1 (s_build (f_cons J J (f_cons J J (f_cons J J f_nil))) (c.2.elim fun j e=>ca_ (sc1 J J) e.1 (s_build (f_cons J J (f_cons J J (f_cons J J f_nil))) (s_build (f_cons J J f_nil) (s_bslM (f:=Pan.row) (l:=[(Pan.mk 3 i 1),(Pan.mk 4 j 4),(Pan.mk 0 (Val.mk 0 0 [] ([]:List Val) false) 2)]) J J (g_cons J J J (g_cons J J J (g_cons J J J g_nil))) (by simp only [List.map_cons,List.map_nil,Pan.row_eq];rfl) (s_mvL J (er_ (hQ _ _ _ J FR e.2))))))))))))
end
theorem p184 {prog:Prog}(hf:prog.fn 184=some pf184)  {K:List Pan→Prop}(h:T184_0 prog K ):PuN prog 184 [] (fun r=>∃res0:List Pan,(r=.sl .full (List.map Pan.row res0))∧K res0):=
  PuN.of hf rfl fun d st=>w184_0 (st0:=st) (Q:=fun e σ st'=>(e=.normal∨e=.ret)∧∃r,ares σ st' pf184.res=some r∧_∧Fr d (d,0) st.bx st.ow st'.bx st'.ow) (fun σ st'   res0 H0 hf hk=>⟨.inr rfl,.sl .full (List.map Pan.row res0),by simp only [pf184,ares,aresL,H0,ares1,Option.map_some,H0],⟨res0,rfl,hk⟩,hf⟩) (σ:=sl0 []) Fr.refl h
def r161_0:List AI:=[oC 0 (.b false)]
def r161_1:List AI:=[oO 8 (.call true 184 []),oQ 9 165 [8],oM 7 9,oE 10 0 7,oE 11 1 7,oM 1 10,oM 2 11]
def r161_2:List AI:=[oO 13 (.call true 184 []),oO 14 (.call false 172 [(.c (.i .i64 (-1)))]),oO 15 (.build [z7,z8,z6,zs,zl,zb,z7] [(0,1,(.c (.i .u64 1))),(1,5,(.t 14))]),oO 16 (.bslice [z7,z8,z6,zs,zl,zb,z7] 1 [(0,(.t 15))]),oO 17 (.app 7 80 (.t 13) (.t 16)),oQ 18 165 [17],oM 12 18,oE 19 0 12,oE 20 1 12,oM 3 19,oM 4 20]
def r161_3:List AI:=[oO 22 (.call true 184 []),oQ 23 164 [22],oM 21 23,oE 24 0 21,oE 25 1 21,oM 5 24,oM 6 25]
def r161_4:List AI:=[oO 26 (.call true 184 []),oO 27 (.iaL 7 (.t 26) (.c (.i .i64 0))),oK 28 7 27,oO 29 (.call false 171 [(.t 28),(.c (.s [112,97,110,105,99,32,34,97,32,98,34,32,114,101,99,111,118,101,114,101,100]))]),oM 30 29,gT 30 (oO 31 (.call true 184 [])),gT 30 (oO 32 (.iaL 7 (.t 31) (.c (.i .i64 1)))),gT 30 (oK 33 7 32),gT 30 (oO 34 (.call false 171 [(.t 33),(.c (.s [102,97,117,108,116,32,49,58,32,100,105,118,105,115,105,111,110,32,98,121,32,122,101,114,111,32,97,98,111,114,116,101,100]))])),oA 35 30 34,oM 36 35,gT 36 (oO 37 (.call true 184 [])),gT 36 (oO 38 (.iaL 7 (.t 37) (.c (.i .i64 2)))),gT 36 (oK 39 7 38),gT 36 (oO 40 (.call false 171 [(.t 39),(.c (.s [101,120,105,116]))])),oA 41 36 40,oM 42 41,gT 42 (oM 43 2),gT 42 (oV 44 .eql 43 6),oA 45 42 44,oM 46 45,gT 46 (oM 47 4),gT 46 (oV 48 .eql 47 0),oA 49 46 48,oM 50 49,gT 50 (oM 51 3),gT 50 (oV 52 .eql 51 3),oA 53 50 52,oM 54 53,gT 54 (oO 55 (.call false 176 [(.c (.s [112,97,110,105,99,32,110,105,108]))])),oA 56 54 55,oM 57 56,gT 57 (oO 58 (.call false 176 [(.c (.s [101,120,105,116,32,114,101,99,111,118,101,114,101,100]))])),oA 59 57 58,oM 60 59,gT 60 (oM 61 6),gT 60 (oV 62 .eql 61 0),oA 63 60 62,oM 64 63,gT 64 (oM 65 5),gT 64 (oB 66 .eql (.t 65) (.c (.s [112,97,110,105,99,32,34,97,32,98,34,32,114,101,99,111,118,101,114,101,100,10,102,97,117,108,116,32,49,58,32,100,105,118,105,115,105,111,110,32,98,121,32,122,101,114,111,32,97,98,111,114,116,101,100,10,101,120,105,116,10]))),oA 67 64 66,oM 0 67]
abbrev c161_0:AC:=(sR 2 r161_2 (sR 3 r161_3 (sR 4 r161_4 .ret)))
abbrev c161_1:AC:=(sR 1 r161_1 c161_0)
abbrev b161:AC:=(sR 0 r161_0 c161_1)
def pf161:AF:={ nt:=68,res:=[.tmp 0],body:=b161 }
def T161_2 (prog:Prog)(K:Bool→Prop)(e2:Int):Prop:=
  ∃c:List Pan,(PuN prog 184 [] (fun r=>r=.sl .full (List.map Pan.row c)))∧∃e:Val,Pus prog 172 [.i .i64 (-1)] (e.av)∧Fit (c.length+[(Pan.mk 1 e 0)].length) 80∧∃p u,Pus prog 165 [.sl .ext (List.map Pan.row (c++[(Pan.mk 1 e 0)]))] (.tup [.i .i64 p,.i .i64 u])∧∃a0,(PuN prog 184 [] (fun r=>r=.sl .full (List.map Pan.row a0)))∧∃a3 k,Pus prog 164 [.sl .ext (List.map Pan.row a0)] (.tup [.s a3,.i .i64 k])∧∃a2,(PuN prog 184 [] (fun r=>r=.sl .full (List.map Pan.row a2)))∧∃a1:Pan,a2[0]?=some a1∧∃q,Pus prog 171 [a1.av,.s ([112,97,110,105,99,32,34,97,32,98,34,32,114,101,99,111,118,101,114,101,100]:BS)] (.b q)∧(q=true→∃z,(PuN prog 184 [] (fun r=>r=.sl .full (List.map Pan.row z)))∧∃a4:Pan,z[1]?=some a4∧∃o,Pus prog 171 [a4.av,.s ([102,97,117,108,116,32,49,58,32,100,105,118,105,115,105,111,110,32,98,121,32,122,101,114,111,32,97,98,111,114,116,101,100]:BS)] (.b o)∧(o=true→∃x,(PuN prog 184 [] (fun r=>r=.sl .full (List.map Pan.row x)))∧∃y:Pan,x[2]?=some y∧∃j,Pus prog 171 [y.av,.s ([101,120,105,116]:BS)] (.b j)∧(j=true→(e2=6→(u=0→(p=3→∃v,Pus prog 176 [.s ([112,97,110,105,99,32,110,105,108]:BS)] (.b v)∧(v=true→∃w,Pus prog 176 [.s ([101,120,105,116,32,114,101,99,111,118,101,114,101,100]:BS)] (.b w)∧(w=true→(k=0→K (decide (a3=([112,97,110,105,99,32,34,97,32,98,34,32,114,101,99,111,118,101,114,101,100,10,102,97,117,108,116,32,49,58,32,100,105,118,105,115,105,111,110,32,98,121,32,122,101,114,111,32,97,98,111,114,116,101,100,10,101,120,105,116,10]:BS))))∧(¬(k=0)→K false))∧(w=false→K false))∧(v=false→K false))∧(¬(p=3)→K false))∧(¬(u=0)→K false))∧(¬(e2=6)→K false))∧(j=false→K false))∧(o=false→K false))∧(q=false→K false)
def T161_1 (prog:Prog)(K:Bool→Prop) :Prop:=
  ∃e,(PuN prog 184 [] (fun r=>r=.sl .full (List.map Pan.row e)))∧∃j c,Pus prog 165 [.sl .ext (List.map Pan.row e)] (.tup [.i .i64 j,.i .i64 c])∧T161_2 prog K c
def T161_0 (prog:Prog)(K:Bool→Prop) :Prop:=
  T161_1 prog K 
section
variable {prog:Prog}{d:Nat}{Q:AE→Sl→St→Prop}{K:Bool→Prop}(hQ:H1 AV.b 0 Q K){σ:Sl}{st:St}
include hQ
variable {e2:Int}
variable (H2:σ 2=.i .i64 e2)
include H2 in
theorem w161_2 (h:T161_2 prog K e2):W prog d c161_0 σ st Q:=
 q_ J (h.elim fun _ a1=>s_callN sen (a1.1) (fun _ _=>a1.2.elim fun b2 s=>ca_ (sc1 J J) s.1 (s_build (f_cons J J (f_cons J J f_nil)) (s_bslM (f:=Pan.row) (l:=[(Pan.mk 1 b2 0)]) J J (g_cons J J J g_nil) (by simp only [List.map_cons,List.map_nil,Pan.row_eq];rfl) (s_app Pan.row_len J J J App.full s.2.1 J (fun _ _ _ _ _=>x2 s.2.2 fun _ _ z=>ca_ (sc1 J J) z.1 (m_ (x_ J J (x_ J J (m_ (m_ (e_ (q_ J (z.2.elim fun _ a0=>s_callN sen (a0.1) (fun _ _=>x2 a0.2 fun _ _ a2=>ca_ (sc1 J J) a2.1 (m_ (x_ J J (x_ J J (m_ (m_ (e_ (q_ J (a2.2.elim fun _ a3=>s_callN sen (a3.1) (fun _ _=>a3.2.elim fun a9 a4=>ia_ J J (by decide) a4.1 (Pan.row_eq a9) J (lf_ J J J (a4.2.elim fun _ p=>ca_ (sc2 J J J) p.1 (s_mvB J (eb_ (g:=30) J (fun u=>gy_ J ((p.2.1 u).elim fun _ a5=>s_callN sen (a5.1) (fun _ _=>gy_ J (a5.2.elim fun b0 a6=>ia_ J J (by decide) a6.1 (Pan.row_eq b0) J (gy_ J (lf_ J J J (gy_ J (a6.2.elim fun _ q=>ca_ (sc2 J J J) q.1 (z_ 2 J (eb_ (g:=36) J (fun v=>gy_ J ((q.2.1 v).elim fun _ a7=>s_callN sen (a7.1) (fun _ _=>gy_ J (a7.2.elim fun b1 a8=>ia_ J J (by decide) a8.1 (Pan.row_eq b1) J (gy_ J (lf_ J J J (gy_ J (a8.2.elim fun _ c=>ca_ (sc2 J J J) c.1 (z_ 2 J (eb_ (g:=42) J (fun e=>gy_ J (s_mvI H2 (gy_ J (b_ J J eql_ (z_ 2 J (em_ (g:=46) J (fun i=>gy_ J (s_mvI J (gy_ J (b_ J J eql_ (z_ 2 J (em_ (g:=50) J (fun k=>gy_ J (s_mvI J (gy_ J (b_ J J eql_ (z_ 2 J (em_ (g:=54) J (fun w=>gy_ J (((((c.2.1 e).1 i).1 k).1 w).elim fun _ r=>ca_ (sc1 J J) r.1 (z_ 2 J (eb_ (g:=57) J (fun x=>gy_ J ((r.2.1 x).elim fun _ j=>ca_ (sc1 J J) j.1 (z_ 2 J (eb_ (g:=60) J (fun o=>gy_ J (s_mvI J (gy_ J (b_ J J eql_ (z_ 2 J (em_ (g:=64) J (fun y=>gy_ J (s_mvS J (gy_ J (b_ J J seq_ (z_ 2 J (er_ (hQ J ((j.2.1 o).1 y)))))))) (fun y=>z_ 4 J (er_ (hQ J ((j.2.1 o).2 y)))))))))) (fun o=>z_ 8 J (er_ (hQ J (j.2.2 o)))))))) (fun x=>z_ 11 J (er_ (hQ J (r.2.2 x)))))))) (fun w=>z_ 14 J (er_ (hQ J ((((c.2.1 e).1 i).1 k).2 w)))))))))) (fun k=>z_ 18 J (er_ (hQ J (((c.2.1 e).1 i).2 k)))))))))) (fun i=>z_ 22 J (er_ (hQ J ((c.2.1 e).2 i)))))))))) (fun e=>z_ 26 J (er_ (hQ J (c.2.2 e)))))))))))))) (fun v=>z_ 32 J (er_ (hQ J (q.2.2 v)))))))))))))) (fun u=>z_ 38 J (er_ (hQ J (p.2.2 u))))))))))))))))))))))))))))))))
theorem w161_1 (h:T161_1 prog K ):W prog d c161_1 σ st Q:=
 q_ J (h.elim fun _ c=>s_callN sen (c.1) (fun _ _=>x2 c.2 fun _ _ e=>ca_ (sc1 J J) e.1 (m_ (x_ J J (x_ J J (m_ (m_ (e_ (w161_2 hQ J e.2)))))))))
theorem w161_0 (h:T161_0 prog K ):W prog d (sR 0 r161_0 c161_1) σ st Q:=
 q_ J (m_ (e_ (w161_1 hQ h)))
end
theorem p161 {prog:Prog}(hf:prog.fn 161=some pf161)  {K:Bool→Prop}(h:T161_0 prog K ) :∃res0:Bool,K res0∧Pus prog 161 [] (.b res0):=
 P1 hf J (w161_0 (h1 J fun _=>J)  h)
end Go.AM

namespace Go.AM
open Go
set_option maxRecDepth 4000
attribute [local irreducible] WO fillCells fillRows
abbrev H149 (Q:AE→Sl→St→Prop)(K:Bool→Prop):Prop:=∀(σ:Sl)(st:St)(res0:Bool),σ 4=.b res0→K res0→Q .ret σ st
section
variable {prog:Prog}{d:Nat}{Q:AE→Sl→St→Prop}{K:Bool→Prop}(hQ:H149 Q K){σ:Sl}{st:St}
include hQ
end
abbrev H150 (Q:AE→Sl→St→Prop)(K:Bool→Prop):Prop:=∀(σ:Sl)(st:St)(res0:Bool),σ 2=.b res0→K res0→Q .ret σ st
section
variable {prog:Prog}{d:Nat}{Q:AE→Sl→St→Prop}{K:Bool→Prop}(hQ:H150 Q K){σ:Sl}{st:St}
include hQ
end
end Go.AM

namespace Go.AM
open Go
set_option maxRecDepth 4000
attribute [local irreducible] WO fillCells fillRows
abbrev H177 (Q:AE→Sl→St→Prop)(K:LB→Bool→Prop):Prop:=∀(σ:Sl)(st:St)(o0:Own)(res0:LB)(res1:Bool),σ 2=.sl o0 (List.map rowS res0)→σ 3=.b res1→K res0 res1→Q .ret σ st
section
variable {prog:Prog}{d:Nat}{Q:AE→Sl→St→Prop}{K:LB→Bool→Prop}(hQ:H177 Q K){σ:Sl}{st:St}
include hQ
end
abbrev H168 (Q:AE→Sl→St→Prop)(K:List Pan→Int→Prop):Prop:=∀(σ:Sl)(st:St)(o0:Own)(res0:List Pan)(res1:Int),σ 2=.sl o0 (List.map Pan.row res0)→σ 3=.i .i64 res1→K res0 res1→Q .ret σ st
section
variable {prog:Prog}{d:Nat}{Q:AE→Sl→St→Prop}{K:List Pan→Int→Prop}(hQ:H168 Q K){σ:Sl}{st:St}
include hQ
end
def r189_0:List AI:=[oC 4 (.s [])]
def r189_1:List AI:=[oM 5 0,oM 6 1,oQ 7 196 [5,6],oM 4 7]
abbrev b189:AC:=(sR 0 r189_0 (sR 1 r189_1 .ret))
def pf189:AF:={ nt:=8,res:=[.tmp 4],body:=b189 }
def T189_0 (prog:Prog)(K:BS→Prop)(s0:BS)(suffix1:BS):Prop:=
  ∃c,Pus prog 196 [.s s0,.s suffix1] (.s c)∧K c
section
variable {prog:Prog}{d:Nat}{Q:AE→Sl→St→Prop}{K:BS→Prop}(hQ:H1 AV.s 4 Q K){σ:Sl}{st:St}
include hQ
variable {s0 suffix1:BS}
variable (H0:σ 0=.s s0)(H1:σ 1=.s suffix1)
include H0 H1 in
theorem w189_0 (h:T189_0 prog K s0 suffix1):W prog d (sR 0 r189_0 (sR 1 r189_1 .ret)) σ st Q:=
 q_ J (m_ (e_ (q_ J (m_ (m_ (h.elim fun _ c=>ca_ (sc2 H0 H1 J) c.1 (m_ (er_ (hQ J c.2)))))))))
end
theorem p189 {prog:Prog}(hf:prog.fn 189=some pf189){s0:BS}{suffix1:BS}{K:BS→Prop}(h:T189_0 prog K s0 suffix1) :∃res0:BS,K res0∧Pus prog 189 [.s s0,.s suffix1] (.s res0):=
 P1 hf J (w189_0 (h1 J fun _=>J) J J h)
def r196_0:List AI:=[oC 4 (.s [])]
def r196_1:List AI:=[oM 5 0,oM 6 1,oQ 7 191 [5,6]]
def r196_2:List AI:=[oM 8 0,oM 9 0,oH 10 9,oM 11 1,oH 12 11,oT 13 .sub 10 12,oO 14 (.slS (.t 8) none (some (.t 13))),oM 4 14]
def r196_3:List AI:=[oM 15 0,oM 4 15]
abbrev b196:AC:=(sR 0 r196_0 (.seq (sR 1 r196_1 (.cond (.t 7) (sR 2 r196_2 .ret) .skip)) (sR 3 r196_3 .ret)))
def pf196:AF:={ nt:=16,res:=[.tmp 4],body:=b196 }
def T196_0 (prog:Prog)(K:BS→Prop)(s0:BS)(suffix1:BS):Prop:=
  ∃c,Pus prog 191 [.s s0,.s suffix1] (.b c)∧(c=true→0≤(IntKind.i64.wrap ((s0.length:Int)-(suffix1.length:Int)))∧(IntKind.i64.wrap ((s0.length:Int)-(suffix1.length:Int))).toNat≤s0.length∧K (s0.take (IntKind.i64.wrap ((s0.length:Int)-(suffix1.length:Int))).toNat))∧(c=false→K s0)
section
variable {prog:Prog}{d:Nat}{Q:AE→Sl→St→Prop}{K:BS→Prop}(hQ:H1 AV.s 4 Q K){σ:Sl}{st:St}
include hQ
variable {s0 suffix1:BS}
variable (H0:σ 0=.s s0)(H1:σ 1=.s suffix1)
include H0 H1 in
theorem w196_0 (h:T196_0 prog K s0 suffix1):W prog d (sR 0 r196_0 (.seq (sR 1 r196_1 (.cond (.t 7) (sR 2 r196_2 .ret) .skip)) (sR 3 r196_3 .ret))) σ st Q:=
 q_ J (m_ (e_ (sq_ (q_ J (m_ (m_ (h.elim fun _ c=>ca_ (sc2 H0 H1 J) c.1 (e_ (cb_ J (fun e=>q_ J (m_ (m_ (ln_ H0 (m_ (ln_ H1 (b_ J J sub_ (s_slS_hi H0 J (c.2.1 e).1 (c.2.1 e).2.1 (m_ (er_ (hQ J (c.2.1 e).2.2))))))))))) (fun e=>sk_ (q_ J (m_ (m_ (er_ (hQ H0 (c.2.2 e))))))))))))))))
end
theorem p196 {prog:Prog}(hf:prog.fn 196=some pf196){s0:BS}{suffix1:BS}{K:BS→Prop}(h:T196_0 prog K s0 suffix1) :∃res0:BS,K res0∧Pus prog 196 [.s s0,.s suffix1] (.s res0):=
 P1 hf J (w196_0 (h1 J fun _=>J) J J h)
abbrev H151 (Q:AE→Sl→St→Prop)(K:Bool→Prop):Prop:=∀(σ:Sl)(st:St)(res0:Bool),σ 4=.b res0→K res0→Q .ret σ st
section
variable {prog:Prog}{d:Nat}{Q:AE→Sl→St→Prop}{K:Bool→Prop}(hQ:H151 Q K){σ:Sl}{st:St}
include hQ
end
abbrev H153 (Q:AE→Sl→St→Prop)(K:Bool→Prop):Prop:=∀(σ:Sl)(st:St)(res0:Bool),σ 4=.b res0→K res0→Q .ret σ st
section
variable {prog:Prog}{d:Nat}{Q:AE→Sl→St→Prop}{K:Bool→Prop}(hQ:H153 Q K){σ:Sl}{st:St}
include hQ
end
end Go.AM

namespace Go.AM
open Go Go.RowKit
abbrev wideR (l:Nat):Fence:=Fence.wide.inRound l
theorem rows_in {P:Program} {row:String} {args:Array Value} {w:World} {R:Value→World→Prop} (h:Rows P row args w R) (r n:Nat):RowsIn (wideR r) n P row args w R:=fun c cs _=>by
 obtain ⟨v,w',h1,h2⟩:=h c cs
 exact ⟨v,w',h1,stepsIn_wide.2 h2⟩
theorem calls_in {P:Program} {f:FuncId} {args:Array Value} {w:World} {R:Ending→World→Prop} (h:Calls P f args w R) (r n:Nat):CallsIn (wideR r) n P f args w R:=CallsIn.inRound r (callsIn_wide.2 h)
theorem oper_in {P:Program} {o:Oper} (hd :∀c,o.op≠.defer c) {a:Act} {w:World} {next next':Act→World→Prop} {Q:Exit→Act→World→Prop} (hQ:¬LetsOut Q) (hn :∀a w,next a w→next' a w) (h:o.wp P a w next Q) (r n:Nat):o.wpIn (wideR r) n P a w next' Q:=by
 refine ⟨fun _ _=>trivial,?_⟩
 rw [Oper.semAt_eq _ _ _ hd]
 unfold Oper.wp at h
 generalize (execOp a.eval o).run P w=res at h ⊢
 cases res with
 | ok x w'=>
  cases x with
  | value v=>exact hn _ _ h
  | skip=>exact hn _ _ h
  | defer d=>exact hn _ _ h
  | enter f args=>
   refine ⟨fun h=>(by cases h),(calls_in h r (n-1)).mono fun e w'' he=>?_⟩
   cases e with
   | returned v=>exact hn _ _ he
   | panicked c=>exact he
   | outgrown=>exact absurd he hQ
  | row row args=>exact ⟨fun h=>(by cases h),(rows_in h r (n-1)).mono fun v w'' he=>hn _ _ he⟩
  | _=>exact h.elim
 | halt x w'=>
  cases x with
  | panic v=>exact h
  | _=>exact h.elim
theorem ops_in {P:Program} {ops:Array Oper} {Q:Exit→Act→World→Prop} (hQ:¬LetsOut Q) (hd :∀(i:Nat) o,ops[i]?=some o→∀c,o.op≠.defer c) (r n:Nat) :∀(l:List Nat) (a:Act) (w:World),wpOps P ops Q l a w→wpOpsIn (wideR r) n P ops Q l a w
 | [],a,w,h=>h
 | i::l,a,w,h=>by
  simp only [wpOps] at h
  simp only [wpOpsIn]
  cases ho:ops[i]? with
  | none=>
   simp only [ho] at h ⊢
   exact ops_in hQ hd r n l a w h
  | some o=>
   simp only [ho] at h ⊢
   split at h
   ·rename_i hw
    rw [if_pos hw]
    rcases h with h | ⟨_,h⟩
    ·exact oper_in (hd i o ho) hQ (fun a w h=>ops_in hQ hd r n l a w h) h r n
    ·exact absurd h hQ
   ·rename_i hw
    rw [if_neg hw]
    exact ⟨fun _ _=>trivial,ops_in hQ hd r n l _ w h⟩
def noDefer (ops:Array Oper):Bool:=ops.toList.all fun o=>match o.op with | .defer _=>false | _=>true
theorem noDefer_get {ops:Array Oper} (h:noDefer ops=true) :∀(i:Nat) o,ops[i]?=some o→∀c,o.op≠.defer c:=fun i o ho c hc=>by
 have:=List.all_eq_true.1 h o (Array.mem_toList_iff.2 (Array.mem_of_getElem? ho))
 rw [hc] at this
 cases this
variable {P:Program} {X:Cx}
theorem region_in_round {C:CallF} (hT:TTok P X.T) (hC:CallOk P X.fm C) {nt d id:Nat} {ops:Array Oper} {aops:List AI} (hc:cOpers X nt ops ops.toList=some aops) (hbig:bigOk X id ops=true) (hnd:noDefer ops=true) {σ:Sl} {st:St} {σ':Sl} {st':St} (h:areg C d (bigId X id ops) aops σ st=some (σ',st')) {G:Gh} {w0 w:World} {a:Act} (hfm:X.fm=G.fm) (hA:RelA G nt σ a) (hR:Rel G w0 st w)
  {Q:Exit→Act→World→Prop} (hQ :∀a' w' G',RelA G' nt σ' a'→Run G G' w0 st st' w' d→Q .normal a' w') (r n:Nat):(Code.region id ops false).wpIn (wideR r) n P Q a w:=by
 refine wpIn_mono (wpIn_region (ops_in (Q:=fun e a w=>e=.normal∧Q e a w) (fun h=>by obtain ⟨_,_,h,_⟩:=h;cases h) (noDefer_get hnd) r n _ _ _ ?_)) fun e a w h=>h.2
 have hlen0:aops.length=ops.size:=by
  have:=(cOpers_get hc).1
  simpa using this.symm
 unfold areg at h
 rw [aregL_O (ops:=aops) (fun j=>by simp)] at h
 rw [← List.range_eq_range'] at h
 obtain ⟨h1,h2⟩:=region_in (d:=d) (id:=bigId X id ops) (aops:=aops) hR (l:=List.range ops.size)
 rw [hlen0] at h
 exact ops_ok hT hC hc (bigOk_inv hbig) (Nat.le_refl _) (fun a' w' G' h3 h4=>⟨rfl,hQ a' w' G' h3 h4⟩) (List.range ops.size) hfm List.nodup_range hA h1 h2 (by rw [hlen0];exact h)
end Go.AM

namespace Go.AM
open Go Go.RowKit
section
variable {P:Program} {X:Cx}
def plainR (X:Cx) (nt:Nat):Code→Bool
 | .skip=>true
 | .region _ ops draw=>!draw&&(cLitB X nt ops draw).isNone&&noDefer ops&&(frzOf X.fz ops).isEmpty
 | .seq a b=>plainR X nt a&&plainR X nt b
 | .cond _ a b=>plainR X nt a&&plainR X nt b
 | .block _ c=>plainR X nt c
 | .exit _=>true
 | .ret=>true
 | _=>false
theorem region_round {C:CallF} (hT:TTok P X.T) (hC:CallOk P X.fm C) {nt d id n:Nat} {ops:Array Oper} {draw:Bool} {ac:AC} (hp:plainR X nt (.region id ops draw)=true) (hcr:cRegion X nt id ops draw=some ac) {σ:Sl} {st:St} {e:AE} {σ':Sl} {st':St} (h:acode C n d ac σ st=some (e,σ',st')) {G:Gh} {w0 w:World} {a:Act} (hfm:X.fm=G.fm) (hA:RelA G nt σ a) (hR:Rel G w0 st w)
  {Q:Exit→Act→World→Prop} (hQ :∀a' w' G',RelA G' nt σ' a'→Run G G' w0 st st' w' d→Q (toExit e) a' w') (r m:Nat):(Code.region id ops draw).wpIn (wideR r) m P Q a w:=by
 simp only [plainR,Bool.and_eq_true,Bool.not_eq_true'] at hp
 obtain ⟨⟨⟨hd,hl⟩,hnd⟩,_⟩:=hp
 subst hd
 unfold cRegion at hcr
 split at hcr
 ·rename_i aops h1
  rw [h1] at hl;cases hl
 split at hcr
 case h_2=>cases hcr
 rename_i aops hc
 split at hcr
 case isFalse=>cases hcr
 rename_i hbig
 rw [if_neg (by simp)] at hcr
 cases hcr
 simp only [acode,Option.map_eq_some_iff,Prod.mk.injEq] at h
 obtain ⟨⟨σ1,st1⟩,h,rfl,rfl,rfl⟩:=h
 exact region_in_round hT hC hc hbig hnd h hfm hA hR hQ r m
theorem code_in_round {C:CallF} (hT:TTok P X.T) (hC:CallOk P X.fm C) {nt:Nat} (n d:Nat) :∀(c:Code),plainR X nt c=true→∀{ac:AC},cCode X nt c=some ac→∀{σ:Sl} {st:St} {e:AE} {σ':Sl} {st':St},acode C n d ac σ st=some (e,σ',st')→∀{G:Gh} {w0 w:World} {a:Act},X.fm=G.fm→RelA G nt σ a→Rel G w0 st w→
  ∀{Q:Exit→Act→World→Prop},(∀a' w' G',RelA G' nt σ' a'→Run G G' w0 st st' w' d→Q (toExit e) a' w')→∀(r m:Nat),c.wpIn (wideR r) m P Q a w:=by
 intro c
 induction c with
 | skip=>
  intro _ ac hc σ st e σ' st' h G w0 w a hfm hA hR Q hQ r m
  cases hc;cases h
  exact wpIn_skip (hQ a w G hA (.refl hR))
 | exit id=>
  intro _ ac hc σ st e σ' st' h G w0 w a hfm hA hR Q hQ r m
  cases hc;cases h
  exact wpIn_exit (hQ a w G hA (.refl hR))
 | ret=>
  intro _ ac hc σ st e σ' st' h G w0 w a hfm hA hR Q hQ r m
  cases hc;cases h
  exact wpIn_ret (hQ a w G hA (.refl hR))
 | region id ops draw=>
  intro hp ac hc σ st e σ' st' h G w0 w a hfm hA hR Q hQ r m
  unfold cCode at hc
  split at hc
  ·rename_i x hx
   cases hc
   have hf:frzOf X.fz ops=[]:=by simp only [plainR,Bool.and_eq_true] at hp;exact List.isEmpty_iff.1 hp.2
   rw [hf] at h
   exact region_round hT hC hp hx h hfm hA hR hQ r m
  ·cases hc
   simp only [stk,acode,Opd.ev] at h
   cases h
 | seq x y ihx ihy=>
  intro hp ac hc σ st e σ' st' h G w0 w a hfm hA hR Q hQ r m
  simp only [plainR,Bool.and_eq_true] at hp
  unfold cCode at hc
  split at hc
  case h_2=>cases hc
  rename_i ax ay hx hy
  cases hc
  simp only [acode] at h
  split at h
  ·rename_i σ1 st1 h1
   refine wpIn_seq (ihx hp.1 hx h1 hfm hA hR (fun a1 w1 G1 hA1 hrun1=>?_) r m)
   exact ihy hp.2 hy h (by rw [hrun1.le.fm];exact hfm) hA1 hrun1.rel (fun a2 w2 G2 hA2 hrun2=>hQ a2 w2 G2 hA2 (hrun1.trans hrun2)) r m
  ·rename_i hne
   refine wpIn_seq (ihx hp.1 hx h hfm hA hR (fun a1 w1 G1 hA1 hrun1=>?_) r m)
   have:=hQ a1 w1 G1 hA1 hrun1
   cases e with
   | normal=>exact absurd h (hne _ _)
   | exit id=>exact this
   | ret=>exact this
   | goto l=>exact this
 | cond z x y ihx ihy=>
  intro hp ac hc σ st e σ' st' h G w0 w a hfm hA hR Q hQ r m
  simp only [plainR,Bool.and_eq_true] at hp
  unfold cCode at hc
  split at hc
  case h_2=>cases hc
  rename_i az ax ay hz hx hy
  cases hc
  simp only [acode] at h
  rw [hfm] at hz
  have hv:=cOpd_ok hA hz
  unfold Same at hv
  revert hv
  split at h
  ·rename_i ht
   rw [ht]
   intro hv
   exact wpIn_cond_true hv.bool_inv (ihx hp.1 hx h hfm hA hR hQ r m)
  ·rename_i ht
   rw [ht]
   intro hv
   exact wpIn_cond_false hv.bool_inv (ihy hp.2 hy h hfm hA hR hQ r m)
  ·cases h
 | block id c ih=>
  intro hp ac hc σ st e σ' st' h G w0 w a hfm hA hR Q hQ r m
  simp only [plainR] at hp
  unfold cCode at hc
  split at hc
  case h_2=>cases hc
  rename_i x hx
  cases hc
  simp only [acode] at h
  refine wpIn_block ?_
  split at h
  ·rename_i id' σ1 st1 h1
   refine ih hp hx h1 hfm hA hR (fun a1 w1 G1 hA1 hrun1=>?_) r m
   split at h
   ·rename_i hid
    cases h
    have:=hQ a1 w1 G1 hA1 hrun1
    simp only [toExit,Exit.inBlock,hid,if_true]
    exact this
   ·rename_i hid
    cases h
    have:=hQ a1 w1 G1 hA1 hrun1
    simp only [toExit,Exit.inBlock,hid,if_false]
    exact this
  ·rename_i hne
   refine ih hp hx h hfm hA hR (fun a1 w1 G1 hA1 hrun1=>?_) r m
   have:=hQ a1 w1 G1 hA1 hrun1
   cases e with
   | normal=>exact this
   | exit id'=>exact absurd h (hne _ _ _)
   | ret=>exact this
   | goto l=>exact this
 | loop c ih=>intro hp;cases hp
 | rangeFunc f ps x y ihx ihy=>intro hp;cases hp
 | scope c ih=>intro hp;cases hp
 | label l=>intro hp;cases hp
 | goto l=>intro hp;cases hp
 | refuse w=>intro hp;cases hp
end
theorem obN_no {o:Obj} (h:obN o=true) (h':o.isCells=true):False:=by cases o<;>first | (cases h;done) | (cases h';done)
section
variable {G:Gh} {w0 w:World} {st:St}
def Gh.setM (G:Gh) (b:Nat) (x:MO):Gh:=⟨G.H,G.ρ,G.ω,G.fm,fun b'=>if b'=b then some x else G.M b'⟩
theorem Gh.setM_at (b:Nat) (x:MO):(G.setM b x).M b=some x:=if_pos rfl
theorem Gh.setM_ne {b b':Nat} (x:MO) (h:b'≠b):(G.setM b x).M b'=G.M b':=if_neg h
theorem Gh.setM_le {b:Nat} {x:MO} (h :∀l,G.M b≠some (.mp l)):G.LeR (G.setM b x):=⟨fun _ _ _ h=>h,fun _ _ _ h=>h,fun _ _ _ h=>h,rfl,fun b' l h'=>by
 show (if b'=b then some x else G.M b')=_
 rw [if_neg (by rintro rfl;exact h l h')]
 exact h'⟩
theorem Gh.setM_leM {b:Nat} {x:MO} (h:G.M b=none):G.Le (G.setM b x):=⟨fun _ _ _ h=>h,fun _ _ _ h=>h,fun _ _ _ h=>h,rfl,fun b' l h'=>by
 show (if b'=b then some x else G.M b')=_
 rw [if_neg (by rintro rfl;rw [h] at h';cases h')]
 exact h'⟩
theorem Rel.putOb (hR:Rel G w0 st w) {b:Nat} {o o':Obj} (hb:w.heap[b]?=some o) (ho:obN o=true) (ho2:obN o'=true) (hge:w0.heap.size≤b) (hn :∀l,G.M b≠some (.mp l)):Rel (G.setM b (.ob o')) w0 st (w.putObj b o'):=by
 have hlt:=block_lt hb
 have hle:=Gh.setM_le (G:=G) (x:=.ob o') hn
 have hh :∀i,i≠b→(w.putObj b o').heap[i]?=w.heap[i]?:=fun i hi=>World.putObj_heap_other hi
 have hcell :∀{g:Nat} {cs:Array Value} {e:TypeId} {z:Nat × Nat},w.heap[g]?=some (.cells cs e z)→g≠b:=by
  rintro g cs e z h rfl
  rw [hb] at h
  cases h
  cases ho
 have hbel:Below w0.heap.size w (w.putObj b o'):=(Below.refl _ w).grown (grownBy_putObj' w b o') hR.bel.size (fun k e=>by cases e;exact hge)
 refine ⟨hR.bel.trans hbel,fun g o v h=>?_,fun k ver cs g h1 h2=>?_,hR.inj,fun k ver n h=>?_,hR.owinj,hR.fresh,fun k ver cs g h0 h1 h2=>?_,fun k ver n h0 h1 g cap size h2=>?_,fun b' x hx=>?_⟩
 ·obtain ⟨h1,h2⟩:=hR.ext g o v h
  refine ⟨?_,h2⟩
  obtain ⟨ob,h3,h4⟩:=cells_of_cell h1
  have hne:g≠b:=by
   rintro rfl
   rw [hb] at h3
   cases h3
   exact obN_no ho h4
  exact (World.cell?_of_block (w:=w) (hh g hne)).trans h1
 ·obtain ⟨us,e,a1,a2,a3,a4,a5⟩:=hR.bx k ver cs g h1 h2
  exact ⟨us,e,a1,(hh g (hcell a2)).trans a2,a3.monoR hle,a4,a5⟩
 ·obtain ⟨g,cap,size,h1,⟨cur,e,a1,a2,a3⟩,h2⟩:=hR.ow k ver n h
  exact ⟨g,cap,size,h1,⟨cur,e,a1,(hh g (hcell a2)).trans a2,a3⟩,h2⟩
 ·obtain ⟨us,a1,a2⟩:=hR.bxT k ver cs g h0 h1 h2
  exact ⟨us,(hh g (hcell a1)).trans a1,a2⟩
 ·obtain ⟨us,a1⟩:=hR.owT k ver n h0 h1 g cap size h2
  exact ⟨us,(hh g (hcell a1)).trans a1⟩
 ·by_cases e:b'=b
  ·subst e
   rw [Gh.setM_at] at hx
   cases hx
   exact ⟨World.putObj_heap_same hlt,ho2⟩
  ·rw [Gh.setM_ne _ e] at hx
   exact (hR.mp b' x hx).keep fun o _ _=>hh b' e
theorem Rel.newOb (hR:Rel G w0 st w) {o:Obj} (ho:obN o=true):G.M w.heap.size=none∧Rel (G.setM w.heap.size (.ob o)) w0 st (w.alloc o):=by
 have hb:Below w.heap.size w (w.alloc o):=(Below.refl _ w).alloc (Nat.le_refl _) o
 have hn:G.M w.heap.size=none:=by
  cases h:G.M w.heap.size with
  | none=>rfl
  | some x=>
   exfalso
   have:=hR.mp _ x h
   cases x with
   | mp l=>obtain ⟨_,_,h1,_⟩:=this;exact Nat.lt_irrefl _ (block_lt h1)
   | ob o=>exact Nat.lt_irrefl _ (block_lt this.1)
 refine ⟨hn,(hR.below hb).setM (Gh.setM_leM (x:=.ob o) hn).M fun b x (hx:(G.setM w.heap.size (.ob o)).M b=some x)=>?_⟩
 by_cases h:b=w.heap.size
 ·subst h
  rw [Gh.setM_at] at hx
  cases hx
  exact ⟨World.alloc_heap_new w o,ho⟩
 ·rw [Gh.setM_ne _ h] at hx
  exact (hR.below hb).mp b x hx
end
end Go.AM

namespace Go.AM
open Go
structure Has03 (prog:Prog):Prop where
 f42:prog.fn 42=some pf42
 f46:prog.fn 46=some pf46
 f36:prog.fn 36=some pf36
 f43:prog.fn 43=some pf43
 f47:prog.fn 47=some pf47
 f11:prog.fn 11=some pf11
 f15:prog.fn 15=some pf15
 f21:prog.fn 21=some pf21
 f25:prog.fn 25=some pf25
 f30:prog.fn 30=some pf30
 f34:prog.fn 34=some pf34
 f37:prog.fn 37=some pf37
 f39:prog.fn 39=some pf39
 f45:prog.fn 45=some pf45
 f48:prog.fn 48=none
 o48 :∀(s:Bytes) (c:UInt8),prog.orac 48 [.s s,.i .u8 (c.toNat:Int)]=some (.i .i64 (Lib.indexByte s c))
section
variable {prog:Prog} (H:Has03 prog)
include H
theorem c30 {s b:Bytes} (hs:s.length≤10000000) (hb:b.length≤1000000000):PuA prog 30 (b.map row8) [.s s] ((b++quo s).map row8):=by
 refine PuAK.to ?_
 have hp:=p30 H.f30 (b0:=b) (s1:=s) (K:=fun x=>x=b++quo s) (by
  unfold T30_0 T30_1
  refine ⟨⟨by simp only [List.length_cons,List.length_nil,maxBytes_eq];omega,by simp only [List.length_cons,List.length_nil,maxBytes_eq];omega⟩,fun P hP=>?_⟩
  refine loop_up (fun i=>b++34::chrs (s.take i)) s.length ?_ ?_
  ·apply hP
   unfold T30_2 T30_4
   have h1:=chrs_len (s.take s.length)
   simp only [List.take_length] at h1 ⊢
   refine ⟨fun h=>absurd h (by omega),fun _=>⟨⟨?_,?_⟩,?_⟩⟩
   ·simp only [List.length_append,List.length_cons,List.length_nil,maxBytes_eq];omega
   ·simp only [List.length_append,List.length_cons,List.length_nil,maxBytes_eq];omega
   ·simp only [quo,List.append_assoc,List.cons_append]
  ·intro i hi ih
   apply hP
   have h1:=chrs_len (s.take i)
   have hc:=s[i].toNat_lt
   rw [chrs_take hi] at ih
   rw [← List.cons_append,← List.append_assoc] at ih
   generalize hx:s[i]=c at ih hc
   have w1:bShr .u8 (c.toNat:Int) 4=((c.toNat / 16:Nat):Int):=by
    show (c.toNat:Int).fdiv 16=_
    rw [Int.fdiv_eq_ediv_of_nonneg _ (by omega)];omega
   have w2:bAnd .u8 (c.toNat:Int) 15=((c.toNat % 16:Nat):Int):=by
    unfold bAnd
    have hx:(BitVec.ofInt IntKind.u8.bits (c.toNat:Int) &&& BitVec.ofInt IntKind.u8.bits 15).toNat=c.toNat % 16:=by
     show (BitVec.ofInt 8 (c.toNat:Int) &&& BitVec.ofInt 8 15).toNat=c.toNat % 16
     rw [BitVec.toNat_and]
     have h1:(BitVec.ofInt 8 (c.toNat:Int)).toNat=c.toNat:=by
      simp
     rw [h1]
     exact Nat.and_two_pow_sub_one_eq_mod c.toNat 4
    rw [hx]
    exact wr_u8 (by omega) (by omega)
   have fit :∀x:Bytes,x.length≤4→Fit ((b++34::chrs (s.take i)).length+x.length) 1:=by
    intro x hx
    simp only [List.length_take] at h1
    refine ⟨?_,?_⟩<;>(simp only [List.length_append,List.length_cons,maxBytes_eq];omega)
   unfold T30_2 T30_3
   rw [wr_succ (by omega)]
   refine ⟨fun _=>⟨by omega,c,by rw [toNat_cast,List.getElem?_eq_getElem hi,hx],?_⟩,fun h=>absurd (show (i:Int)<s.length by omega) h⟩
   simp only [w1,w2,toNat_cast,hexd_get (show c.toNat / 16<16 by omega),hexd_get (show c.toNat % 16<16 by omega),Option.some.injEq,exists_eq_left']
   unfold chr at ih
   refine ⟨fun h2=>⟨fit _ (by simp),?_⟩,fun h2=>⟨fun h3=>⟨fit _ (by simp),?_⟩,fun h3=>⟨fun h4=>⟨fit _ (by simp),?_⟩,fun h4=>⟨fun h5=>⟨by omega,by omega,fit _ (by simp),?_⟩,fun h5=>⟨fun h6=>⟨by omega,by omega,fit _ (by simp),?_⟩,fun h6=>⟨fit _ (by simp),?_⟩⟩⟩⟩⟩⟩
   ·rwa [if_pos (by omega)] at ih
   ·rwa [if_pos (by omega)] at ih
   ·rwa [if_neg (by omega),if_pos (by omega)] at ih
   ·rwa [if_neg (by omega),if_neg (by omega),if_pos (by omega)] at ih
   ·rwa [if_neg (by omega),if_neg (by omega),if_pos (by omega)] at ih
   ·rwa [if_neg (by omega),if_neg (by omega),if_neg (by omega)] at ih)
 intro d st o ha
 obtain ⟨o',st',rows',⟨x,rfl,rfl⟩,h1,h2⟩:=hp d st o ha
 exact ⟨o',st',_,rfl,h1,h2⟩
theorem c11 (s:Bytes):Pus prog 11 [.s s] (.tup [.s (quoR s).1,.i .i64 (quoR s).2]):=by
 obtain ⟨x,y,⟨rfl,rfl⟩,h⟩:=p11 H.f11 (s0:=s) (K:=fun x y=>x=(quoR s).1∧y=(quoR s).2) (by
  unfold T11_0 quoR
  refine ⟨fun h=>?_,fun h=>⟨_,c30 H (b:=[]) (s:=s) (by omega) (by simp),?_⟩⟩
  ·rw [if_pos (by omega)];exact ⟨rfl,rfl⟩
  ·rw [if_neg (by omega)];exact ⟨rfl,rfl⟩)
 exact h
theorem c34 {n b:Nat} (hb:2≤b) (hb':b≤16) (hn:n<18446744073709551616):Pus prog 34 [.i .u64 (n:Int),.i .u64 (b:Int)] (.s (digs b n)):=by
 obtain ⟨x,rfl,h⟩:=p34 H.f34 (n0:=(n:Int)) (base1:=(b:Int)) (K:=fun x=>x=digs b n) (by
  unfold T34_0
  intro P hP
  have key :∀f n',n'<b ^ f→0<f→n'<18446744073709551616→∀a:Nat,f≤a→a≤64→∀m:Bytes,m.length=64→(ds b f n'++m.drop a=digs b n)→P (n':Int) (a:Int) m:=by
   intro f
   induction f with
   | zero=>intro _ _ h;exact absurd h (Nat.lt_irrefl _)
   | succ f ih=>
    intro n' hf _ hn' a ha ha' m hm hd
    apply hP
    have e1:(n':Int).tmod (b:Int)=((n' % b:Nat):Int):=by rw [Int.tmod_eq_emod_of_nonneg (by omega)];omega
    have e2:(n':Int).tdiv (b:Int)=((n' / b:Nat):Int):=by rw [Int.tdiv_eq_ediv_of_nonneg (by omega)];omega
    have e3:IntKind.i64.wrap ((a:Int)-1)=((a-1:Nat):Int):=by rw [wr_i64 (by omega) (by omega)];omega
    have hq:n' / b≤n':=Nat.div_le_self _ _
    have hr:n' % b<b:=Nat.mod_lt _ (by omega)
    have e4:IntKind.u64.wrap ((n' / b:Nat):Int)=((n' / b:Nat):Int):=wr_u64_nat (by omega)
    have hset :∀c:UInt8,(m.set (a-1) c).drop (a-1)=c::m.drop a:=by
     intro c
     rw [List.drop_eq_getElem_cons (by simp;omega),List.getElem_set_self,List.drop_set_of_lt (by omega),show a-1+1=a by omega]
    unfold T34_1
    simp only [e1,e2,e3,e4,toNat_cast,hset]
    refine ⟨by omega,by omega,hexd (n' % b),hexd_get (by omega),by omega,by omega,by omega,by omega,fun h=>⟨by simp [hm],by omega,by omega,?_⟩,fun h=>?_⟩
    ·rw [← hd]
     unfold ds
     have hz:n' / b=0:=by omega
     have hlt:n'<b:=by
      rcases Nat.lt_or_ge n' b with h | h
      ·exact h
      ·have:=Nat.div_pos h (by omega);omega
     rw [if_pos hlt,Nat.mod_eq_of_lt hlt]
     rfl
    ·have hz:n' / b≠0:=by omega
     have hlt:¬ n'<b:=fun h=>hz (Nat.div_eq_of_lt h)
     have h1:n' / b<b ^ f:=by
      rw [Nat.div_lt_iff_lt_mul (by omega)]
      rw [Nat.pow_succ] at hf
      exact hf
     have h2:0<f:=by
      rcases Nat.eq_zero_or_pos f with rfl | h
      ·simp at h1;omega
      ·exact h
     refine ih (n' / b) h1 h2 (by omega) (a-1) (by omega) (by omega) _ (by simp [hm]) ?_
     rw [hset,← hd]
     conv=>rhs;unfold ds
     rw [if_neg hlt,List.append_assoc]
     rfl
  refine key 64 n ?_ (by omega) hn 64 (by omega) (by omega) _ (by simp) ?_
  ·calc n<2 ^ 64:=hn
    _≤b ^ 64:=Nat.pow_le_pow_left hb 64
  ·simp [digs])
 exact h
theorem c15 {n:Int} (h1:-9223372036854775808≤n) (h2:n<9223372036854775808):Pus prog 15 [.i .i64 n] (.s (num n)):=by
 obtain ⟨x,rfl,h⟩:=p15 H.f15 (n0:=n) (K:=fun x=>x=num n) (by
  unfold T15_0
  refine ⟨fun h=>?_,fun h=>?_⟩
  ·have e:IntKind.u64.wrap (0-(IntKind.u64.wrap n))=(((-n).toNat:Nat):Int):=by rw [IntKind.wrap_u64,IntKind.wrap_u64];omega
   rw [e]
   refine ⟨_,c34 H (b:=10) (by omega) (by omega) (by omega),?_,?_⟩
   ·have:=ds_len 10 64 (-n).toNat
    simp only [digs,List.length_cons,List.length_nil,maxStr_eq];omega
   ·unfold num;rw [if_pos h];rfl
  ·have e:IntKind.u64.wrap n=((n.toNat:Nat):Int):=by rw [IntKind.wrap_u64];omega
   rw [e]
   refine ⟨_,c34 H (b:=10) (by omega) (by omega) (by omega),?_⟩
   unfold num;rw [if_neg h])
 exact h
end
end Go.AM
