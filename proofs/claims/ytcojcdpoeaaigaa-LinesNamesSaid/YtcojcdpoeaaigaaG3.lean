/- Parts of the proof: U38a, U38b, U38c, U38d, U38e, U38f, U38g. -/
import Derived.Test.YtcojcdpoeaaigaaG2
set_option linter.all false
namespace Go.AM
open Go
set_option maxRecDepth 4000
attribute [local irreducible] WO fillCells fillRows
abbrev H71 (Q:AE→Sl→St→Prop)(K:Bool→Prop):Prop:=∀(σ:Sl)(st:St)(res0:Bool),σ 2=.b res0→K res0→Q .ret σ st
section
variable {prog:Prog}{d:Nat}{Q:AE→Sl→St→Prop}{K:Bool→Prop}(hQ:H71 Q K){σ:Sl}{st:St}
include hQ
end
def r72_0:List AI:=[oY 1 5 0,oC 2 (.s []),oI 3 0]
def r72_1:List AI:=[oK 7 5 1,oQ 8 76 [7],oM 4 8]
def r72_2:List AI:=[oM 9 4,oV 10 .neq 9 0]
def r72_3:List AI:=[oM 11 4,oC 2 (.s []),oM 3 11]
def r72_4:List AI:=[oO 5 (.alloc [.np,.sl .full []])]
def r72_5:List AI:=[oK 12 5 1,oO 13 (.call true 104 [(.t 5),(.t 12)]),oM 6 13]
def r72_6:List AI:=[oM 14 6,oV 15 .neq 14 0]
def r72_7:List AI:=[oM 16 6,oC 2 (.s []),oM 3 16]
def r72_8:List AI:=[oO 17 (.call true 105 [(.t 5)]),oM 2 17,oI 3 0]
abbrev b72:AC:=(sR 0 r72_0 (.seq (sR 1 r72_1 (sR 2 r72_2 (.cond (.t 10) (sR 3 r72_3 .ret) .skip))) (sR 1000004 r72_4 (.seq (sR 5 r72_5 (sR 6 r72_6 (.cond (.t 15) (sR 7 r72_7 .ret) .skip))) (sR 8 r72_8 .ret)))))
def pf72:AF:={ nt:=18,res:=[.tmp 2,.tmp 3],body:=b72 }
def T72_0 (prog:Prog)(K:BS→Int→Prop)(v0:Val):Prop:=
  ∃c,Pus prog 76 [v0.av] (.i .i64 c)∧(c≠0→K ([]:BS) c)∧(¬(c≠0)→∃e,∃j:BS,PuX prog 104 (Bl ([]:BS)) [v0.av] (fun r=>r=.i .i64 e) ((Bl j))∧(e≠0→K ([]:BS) e)∧(¬(e≠0)→∃k,PuX prog 105 (Bl j) [] (fun r=>r=.s k) (fun _ _ _ _=>True)∧K k 0))
section
variable {prog:Prog}{d:Nat}{Q:AE→Sl→St→Prop}{K:BS→Int→Prop}(hQ:H2 AV.s (AV.i .i64) 2 3 Q K){σ:Sl}{st:St}
include hQ
variable {v0:Val}
variable (H0:σ 0=v0.av)
include H0 in
theorem w72_0 (h:T72_0 prog K v0):W prog d (sR 0 r72_0 (.seq (sR 1 r72_1 (sR 2 r72_2 (.cond (.t 10) (sR 3 r72_3 .ret) .skip))) (sR 1000004 r72_4 (.seq (sR 5 r72_5 (sR 6 r72_6 (.cond (.t 15) (sR 7 r72_7 .ret) .skip))) (sR 8 r72_8 .ret))))) σ st Q:=
 q_ J (s_box H0 J (m_ (m_ (e_ (sq_ (q_ J (l_ J lk_here J J (h.elim fun _ e=>ca_ (sc1 J J) e.1 (m_ (e_ (q_ J (m_ (b_ J J neq_ (e_ (cs_ J (fun j=>q_ J (m_ (m_ (m_ (er_ (hQ J J (e.2.1 j))))))) (fun j=>sk_ (sq_ (W.regB J (fun _ _ _ q r=>sq_ (q_ J (l_ J ((r (d,0) (key_LL J)).trans lk_here) J J ((e.2.2 j).elim fun _ o=>o.elim fun _ c=>cX_ (sec J (sec J sen)) c.1 (Nat.lt_succ_self d) q (fun _ p _=>m_ (e_ (q_ J (m_ (b_ J J neq_ (e_ (cs_ J (fun i=>q_ J (m_ (m_ (m_ (er_ (hQ J J (c.2.1 i))))))) (fun i=>sk_ (q_ J ((c.2.2 i).elim fun _ k=>cX_ (sec J sen) k.1 (Nat.lt_succ_self d) p (fun _ _ _=>m_ (m_ (er_ (hQ J J k.2))))))))))))))))))))))))))))))))))))
end
theorem p72 {prog:Prog}(hf:prog.fn 72=some pf72){v0:Val}{K:BS→Int→Prop}(h:T72_0 prog K v0) :∃res0:BS,∃res1:Int,K res0 res1∧Pus prog 72 [v0.av] (.tup [.s res0,.i .i64 res1]):=
 P2 hf J (w72_0 (h2 J fun _ _=>J) J h)
abbrev H73 (Q:AE→Sl→St→Prop)(K:BS→Int→Prop):Prop:=∀(σ:Sl)(st:St)(res0:BS)(res1:Int),σ 2=.s res0→σ 3=.i .i64 res1→K res0 res1→Q .ret σ st
section
variable {prog:Prog}{d:Nat}{Q:AE→Sl→St→Prop}{K:BS→Int→Prop}(hQ:H73 Q K){σ:Sl}{st:St}
include hQ
end
def r76_0:List AI:=[oY 1 5 0,oI 2 0]
def r76_1:List AI:=[oK 6 5 1,oO 7 (.call false 109 [(.t 6),(.c (.i .i64 130))]),oM 5 7,oE 8 0 5,oE 9 1 5,oM 3 8,oM 4 9]
def r76_2:List AI:=[oM 10 4,oZ 11 10]
def r76_3:List AI:=[oI 2 8]
def r76_4:List AI:=[oI 2 0]
abbrev b76:AC:=(sR 0 r76_0 (.seq (sR 1 r76_1 (sR 2 r76_2 (.cond (.t 11) (sR 3 r76_3 .ret) .skip))) (sR 4 r76_4 .ret)))
def pf76:AF:={ nt:=12,res:=[.tmp 2],body:=b76 }
def T76_0 (prog:Prog)(K:Int→Prop)(v0:Val):Prop:=
  ∃e c,Pus prog 109 [v0.av,.i .i64 130] (.tup [.i .i64 e,.b c])∧((!c)=true→K 8)∧((!c)=false→K 0)
section
variable {prog:Prog}{d:Nat}{Q:AE→Sl→St→Prop}{K:Int→Prop}(hQ:H1 (AV.i .i64) 2 Q K){σ:Sl}{st:St}
include hQ
variable {v0:Val}
variable (H0:σ 0=v0.av)
include H0 in
theorem w76_0 (h:T76_0 prog K v0):W prog d (sR 0 r76_0 (.seq (sR 1 r76_1 (sR 2 r76_2 (.cond (.t 11) (sR 3 r76_3 .ret) .skip))) (sR 4 r76_4 .ret))) σ st Q:=
 q_ J (s_box H0 J (m_ (e_ (sq_ (q_ J (l_ J lk_here J J (x2 h fun _ _ c=>ca_ (sc2 J J J) c.1 (m_ (x_ J J (x_ J J (m_ (m_ (e_ (q_ J (m_ (nt_ J (e_ (cb_ J (fun e=>q_ J (m_ (er_ (hQ J (c.2.1 e))))) (fun e=>sk_ (q_ J (m_ (er_ (hQ J (c.2.2 e))))))))))))))))))))))))
end
theorem p76 {prog:Prog}(hf:prog.fn 76=some pf76){v0:Val}{K:Int→Prop}(h:T76_0 prog K v0) :∃res0:Int,K res0∧Pus prog 76 [v0.av] (.i .i64 res0):=
 P1 hf J (w76_0 (h1 J fun _=>J) J h)
abbrev H77 (Q:AE→Sl→St→Prop)(K:Int→Prop):Prop:=∀(σ:Sl)(st:St)(res0:Int),σ 2=.i .i64 res0→K res0→Q .ret σ st
section
variable {prog:Prog}{d:Nat}{Q:AE→Sl→St→Prop}{K:Int→Prop}(hQ:H77 Q K){σ:Sl}{st:St}
include hQ
end
abbrev H102 (Q:AE→Sl→St→Prop)(K:Bool→Prop):Prop:=∀(σ:Sl)(st:St)(res0:Bool),σ 4=.b res0→K res0→Q .ret σ st
section
variable {prog:Prog}{d:Nat}{Q:AE→Sl→St→Prop}{K:Bool→Prop}(hQ:H102 Q K){σ:Sl}{st:St}
include hQ
end
abbrev H103 (Q:AE→Sl→St→Prop)(K:Int→Prop):Prop:=∀(σ:Sl)(st:St)(res0:Int),σ 2=.i .i64 res0→K res0→Q .ret σ st
section
variable {prog:Prog}{d:Nat}{Q:AE→Sl→St→Prop}{K:Int→Prop}(hQ:H103 Q K){σ:Sl}{st:St}
include hQ
end
def r104_0:List AI:=[oY 3 5 1,oI 4 0]
def r104_1:List AI:=[oO 11 (.build [zs,zs,zs,zs,zs,zs,zs,zs] [(5,1,(.c (.s [123,125]))),(6,1,(.c (.s [91,93]))),(7,1,(.c (.s [60,62])))]),oF 12 0 3,oL 13 12,oO 14 (.ixA 8 1 false (.t 11) (.t 13)),oM 5 14]
def r104_2:List AI:=[oF 43 0 3,oL 44 43,oW 45 .eql 44 1,oM 46 45,gT 46 (oF 47 1 3),gT 46 (oL 48 47),gT 46 (oV 49 .eql 48 1),oA 50 46 49,oM 42 50]
def r104_3:List AI:=[oM 51 0,oO 52 (.call true 126 [(.t 51),(.c (.s [116,114,117,101]))])]
def r104_4:List AI:=[oF 54 0 3,oL 55 54,oW 56 .eql 55 1,oM 53 56]
def r104_5:List AI:=[oM 57 0,oO 58 (.call true 126 [(.t 57),(.c (.s [102,97,108,115,101]))])]
def r104_6:List AI:=[oF 60 0 3,oL 61 60,oW 62 .eql 61 2,oM 59 62]
def r104_7:List AI:=[oM 63 0,oF 64 1 3,oL 65 64,oQ 66 15 [65],oO 67 (.call true 126 [(.t 63),(.t 66)])]
def r104_8:List AI:=[oF 69 0 3,oL 70 69,oW 71 .eql 70 3,oM 68 71]
def r104_9:List AI:=[oF 73 2 3,oL 74 73,oQ 75 11 [74],oM 72 75,oE 76 0 72,oE 77 1 72,oM 6 76,oM 7 77]
def r104_10:List AI:=[oM 78 0,oM 79 6,oO 80 (.call true 126 [(.t 78),(.t 79)])]
def r104_11:List AI:=[oM 81 7,oM 4 81]
def r104_12:List AI:=[oF 83 0 3,oL 84 83,oW 85 .eql 84 4,oM 86 85,gT 86 (oF 87 4 3),gT 86 (oL 88 87),oA 89 86 88,oM 82 89]
def r104_13:List AI:=[oM 90 0,oO 91 (.call true 126 [(.t 90),(.c (.s [38,46,46,46]))])]
def r104_14:List AI:=[oF 93 0 3,oL 94 93,oW 95 .eql 94 4,oM 96 95,gT 96 (oF 97 3 3),gT 96 (oL 98 97),gT 96 (oJ 99 98),gT 96 (oV 100 .eql 99 0),oA 101 96 100,oM 92 101]
def r104_15:List AI:=[oM 102 0,oO 103 (.call true 126 [(.t 102),(.c (.s [110,105,108]))])]
def r104_16:List AI:=[oF 105 0 3,oL 106 105,oW 107 .eql 106 4,oM 104 107]
def r104_17:List AI:=[oM 108 0,oO 109 (.call true 126 [(.t 108),(.c (.s [38]))])]
def r104_18:List AI:=[oM 110 0,oF 111 3 3,oL 112 111,oO 113 (.iaL 5 (.t 112) (.c (.i .i64 0))),oK 114 5 113,oO 115 (.call true 104 [(.t 110),(.t 114)]),oM 4 115]
def r104_19:List AI:=[oF 117 4 3,oL 118 117,oM 116 118]
def r104_20:List AI:=[oM 119 0,oO 120 (.call true 126 [(.t 119),(.c (.s [60,46,46,46,62]))])]
def r104_21:List AI:=[oM 15 0,oM 16 5,oO 17 (.slS (.t 16) none (some (.c (.i .i64 1)))),oO 18 (.call true 126 [(.t 15),(.t 17)])]
def r104_22:List AI:=[oF 19 3 3,oL 20 19,oJ 21 20,oI 22 0]
def r104_23:List AI:=[oT 23 .lss 22 21]
def r104_24:List AI:=[oM 24 22,oX 25 5 20 22,oK 26 5 25,oO 9 (.alloc [z8,z6,zs,zl,zb]),oM 8 24,oS 5 9 26]
def r104_25:List AI:=[oM 27 8,oV 28 .gtr 27 0]
def r104_26:List AI:=[oM 29 0,oO 30 (.call true 126 [(.t 29),(.c (.s [44,32]))])]
def r104_27:List AI:=[oM 31 0,oK 32 5 9,oO 33 (.call true 104 [(.t 31),(.t 32)]),oM 10 33]
def r104_28:List AI:=[oM 34 10,oV 35 .neq 34 0]
def r104_29:List AI:=[oM 36 10,oM 4 36]
def r104_30:List AI:=[oV 37 .add 22 1,oM 22 37]
def r104_31:List AI:=[oM 38 0,oM 39 5,oO 40 (.slS (.t 39) (some (.c (.i .i64 1))) none),oO 41 (.call true 126 [(.t 38),(.t 40)])]
def r104_32:List AI:=[oI 4 0]
abbrev c104_0:AC:=(sR 8 r104_27 (sR 9 r104_28 (.cond (.t 35) (sR 10 r104_29 .ret) .skip)))
abbrev l104_0:AC:=(sR 4 r104_23 (.seq (.cond (.t 23) .skip (.exit 1)) (.seq (.block 2 (sR 5 r104_24 (.seq (sR 6 r104_25 (.cond (.t 28) (.reg 7 r104_26) .skip)) c104_0))) (.reg 11 r104_30))))
abbrev c104_2:AC:=(.reg 12 r104_31)
abbrev c104_3:AC:=(.cond (.t 82) (.reg 24 r104_13) (sR 25 r104_14 (.cond (.t 92) (.reg 26 r104_15) (sR 27 r104_16 (.cond (.t 104) (sR 28 r104_17 (sR 29 r104_18 .ret)) (sR 30 r104_19 (.cond (.t 116) (.reg 31 r104_20) (sR 2 r104_21 (.seq (sR 3 r104_22 (.block 1 (.loop l104_0))) c104_2)))))))))
abbrev c104_4:AC:=(.cond (.t 68) (sR 20 r104_9 (sR 21 r104_10 (sR 22 r104_11 .ret))) (sR 23 r104_12 c104_3))
abbrev c104_5:AC:=(.cond (.t 59) (.reg 18 r104_7) (sR 19 r104_8 c104_4))
abbrev c104_6:AC:=(.cond (.t 53) (.reg 16 r104_5) (sR 17 r104_6 c104_5))
abbrev c104_7:AC:=(.cond (.t 42) (.reg 14 r104_3) (sR 15 r104_4 c104_6))
abbrev c104_8:AC:=(sR 32 r104_32 .ret)
abbrev c104_9:AC:=(.seq (.block 0 (sR 13 r104_2 c104_7)) c104_8)
abbrev c104_10:AC:=(sR 1 r104_1 c104_9)
abbrev b104:AC:=(sR 0 r104_0 c104_10)
def pf104:AF:={ nt:=121,res:=[.tmp 4],body:=b104 }
abbrev H104 (d:Nat)(st0:St)(kp:Key)(vp:Nat)(Q:AE→Sl→St→Prop)(K:Int→BS→Prop):Prop:=∀(σ:Sl)(st:St)(res0:Int)(b_:BS),σ 4=.i .i64 res0→Bl b_ st.bx st.ow kp vp→Fr d kp st0.bx st0.ow st.bx st.ow→K res0 b_→Q .ret σ st
def T104_4 (prog:Prog)(K:Int→BS→Prop)(mP:BS):Prop:=
  K 0 mP
abbrev I104_0 (prog:Prog)(d:Nat)(Q:AE→Sl→St→Prop)(st0:St)(kp:Key)(vp:Nat)(ends5:BS)(t20:List Val)(t21:Int)(t22:Int)(mP:BS):Prop:=
  ∀(σ:Sl)(st:St)(o_t20:Own),σ 0=.p kp vp 0→σ 5=.s ends5→σ 20=.sl o_t20 (List.map Val.row t20)→σ 21=.i .i64 t21→σ 22=.i .i64 t22→Bl mP st.bx st.ow kp vp→Fr d kp st0.bx st0.ow st.bx st.ow→W prog d (.loop l104_0) σ st (blockW 1 (thenW prog d c104_2 (blockW 0 (thenW prog d c104_8 Q))))
def T104_10 (prog:Prog)(K:Int→BS→Prop)(P0:Int→BS→Prop)(ends5:BS)(t20:List Val)(t21:Int)(t22:Int)(m20483:Val)(mP:BS):Prop:=
  ∃c,∃e:BS,PuX prog 104 (Bl mP) [m20483.av] (fun r=>r=.i .i64 c) ((Bl e))∧(c≠0→K c e)∧(¬(c≠0)→P0 (IntKind.i64.wrap (t22+1)) e)
def T104_11 (prog:Prog)(K:Int→BS→Prop)(ends5:BS)(mP:BS):Prop:=
  1≤ends5.length∧∃e,∃c:BS,PuX prog 126 (Bl mP) [.s (ends5.drop 1)] (fun r=>r=.tup [.i .i64 e,.ni]) ((Bl c))∧T104_4 prog K c
def T104_9 (prog:Prog)(K:Int→BS→Prop)(P0:Int→BS→Prop)(ends5:BS)(t20:List Val)(t21:Int)(t22:Int)(mP:BS):Prop:=
  (t22<t21→0≤t22∧∃c,t20[(t22).toNat]?=some c∧(t22>0→∃j,∃e:BS,PuX prog 126 (Bl mP) [.s ([44,32]:BS)] (fun r=>r=.tup [.i .i64 j,.ni]) ((Bl e))∧T104_10 prog K P0 ends5 t20 t21 t22 c e)∧(¬(t22>0)→T104_10 prog K P0 ends5 t20 t21 t22 c mP))∧(¬(t22<t21)→T104_11 prog K ends5 mP)
def T104_8 (prog:Prog)(K:Int→BS→Prop)(ends5:BS)(t82:Bool)(m0:Val)(mP:BS):Prop:=
  (t82=true→∃e,∃c:BS,PuX prog 126 (Bl mP) [.s ([38,46,46,46]:BS)] (fun r=>r=.tup [.i .i64 e,.ni]) ((Bl c))∧T104_4 prog K c)∧(t82=false→(m0.kind=4→((m0.list.length:Int)=0→∃a5,∃q:BS,PuX prog 126 (Bl mP) [.s ([110,105,108]:BS)] (fun r=>r=.tup [.i .i64 a5,.ni]) ((Bl q))∧T104_4 prog K q)∧(¬((m0.list.length:Int)=0)→(m0.kind=4→∃a3,∃o:BS,PuX prog 126 (Bl mP) [.s ([38]:BS)] (fun r=>r=.tup [.i .i64 a3,.ni]) ((Bl o))∧∃x:Val,m0.list[0]?=some x∧∃p,∃u:BS,PuX prog 104 (Bl o) [x.av] (fun r=>r=.i .i64 p) ((Bl u))∧K p u)∧(¬(m0.kind=4)→(m0.cut=true→∃a4,∃k:BS,PuX prog 126 (Bl mP) [.s ([60,46,46,46,62]:BS)] (fun r=>r=.tup [.i .i64 a4,.ni]) ((Bl k))∧T104_4 prog K k)∧(m0.cut=false→1≤ends5.length∧∃a7,∃a0:BS,PuX prog 126 (Bl mP) [.s (ends5.take 1)] (fun r=>r=.tup [.i .i64 a7,.ni]) ((Bl a0))∧∀P0:Int→BS→Prop,(∀(t22:Int)(mP:BS),T104_9 prog K P0 ends5 m0.list (m0.list.length:Int) t22 mP→P0 t22 mP)→P0 0 a0))))∧(¬(m0.kind=4)→(m0.kind=4→∃a2,∃z:BS,PuX prog 126 (Bl mP) [.s ([38]:BS)] (fun r=>r=.tup [.i .i64 a2,.ni]) ((Bl z))∧∃w:Val,m0.list[0]?=some w∧∃y,∃a1:BS,PuX prog 104 (Bl z) [w.av] (fun r=>r=.i .i64 y) ((Bl a1))∧K y a1)∧(¬(m0.kind=4)→(m0.cut=true→∃a8,∃j:BS,PuX prog 126 (Bl mP) [.s ([60,46,46,46,62]:BS)] (fun r=>r=.tup [.i .i64 a8,.ni]) ((Bl j))∧T104_4 prog K j)∧(m0.cut=false→1≤ends5.length∧∃a6,∃v:BS,PuX prog 126 (Bl mP) [.s (ends5.take 1)] (fun r=>r=.tup [.i .i64 a6,.ni]) ((Bl v))∧∀P0:Int→BS→Prop,(∀(t22:Int)(mP:BS),T104_9 prog K P0 ends5 m0.list (m0.list.length:Int) t22 mP→P0 t22 mP)→P0 0 v))))
def T104_7 (prog:Prog)(K:Int→BS→Prop)(ends5:BS)(t68:Bool)(m0:Val)(mP:BS):Prop:=
  (t68=true→∃c j,Pus prog 11 [.s m0.text] (.tup [.s c,.i .i64 j])∧∃k,∃e:BS,PuX prog 126 (Bl mP) [.s c] (fun r=>r=.tup [.i .i64 k,.ni]) ((Bl e))∧K j e)∧(t68=false→(m0.kind=4→T104_8 prog K ends5 m0.cut m0 mP)∧(¬(m0.kind=4)→T104_8 prog K ends5 false m0 mP))
def T104_6 (prog:Prog)(K:Int→BS→Prop)(ends5:BS)(t59:Bool)(m0:Val)(mP:BS):Prop:=
  (t59=true→∃e,Pus prog 15 [.i .i64 m0.int] (.s e)∧∃j,∃c:BS,PuX prog 126 (Bl mP) [.s e] (fun r=>r=.tup [.i .i64 j,.ni]) ((Bl c))∧T104_4 prog K c)∧(t59=false→T104_7 prog K ends5 (decide (m0.kind=3)) m0 mP)
def T104_5 (prog:Prog)(K:Int→BS→Prop)(ends5:BS)(t53:Bool)(m0:Val)(mP:BS):Prop:=
  (t53=true→∃e,∃c:BS,PuX prog 126 (Bl mP) [.s ([102,97,108,115,101]:BS)] (fun r=>r=.tup [.i .i64 e,.ni]) ((Bl c))∧T104_4 prog K c)∧(t53=false→T104_6 prog K ends5 (decide (m0.kind=2)) m0 mP)
def T104_3 (prog:Prog)(K:Int→BS→Prop)(ends5:BS)(t42:Bool)(m0:Val)(mP:BS):Prop:=
  (t42=true→∃e,∃c:BS,PuX prog 126 (Bl mP) [.s ([116,114,117,101]:BS)] (fun r=>r=.tup [.i .i64 e,.ni]) ((Bl c))∧T104_4 prog K c)∧(t42=false→T104_5 prog K ends5 (decide (m0.kind=1)) m0 mP)
def T104_2 (prog:Prog)(K:Int→BS→Prop)(ends5:BS)(m0:Val)(mP:BS):Prop:=
  (m0.kind=1→T104_3 prog K ends5 (decide (m0.int=1)) m0 mP)∧(¬(m0.kind=1)→T104_3 prog K ends5 false m0 mP)
def T104_1 (prog:Prog)(K:Int→BS→Prop)(m0:Val)(mP:BS):Prop:=
  0≤m0.kind∧∃c,([[],[],[],[],[],([123,125]:BS),([91,93]:BS),([60,62]:BS)]:LB)[(m0.kind).toNat]?=some c∧T104_2 prog K c m0 mP
def T104_0 (prog:Prog)(K:Int→BS→Prop)(v1:Val)(mP:BS):Prop:=
  T104_1 prog K v1 mP
section
variable {prog:Prog}{d:Nat}{Q:AE→Sl→St→Prop}{K:Int→BS→Prop}{st0:St}{kp:Key}{vp:Nat}(hQ:H104 d st0 kp vp Q K)(hkp:kp.1<d){σ:Sl}{st:St}
include hQ hkp
variable {mP ends5:BS}{t20:List Val}{t21 t22:Int}{m20483:Val}{P0:Int→BS→Prop}{o_t20:Own}{v20483:Nat}{t82:Bool}{m0:Val}{v0:Nat}{t68 t59 t53 t42:Bool}{v1:Val}
variable (kP0 :∀(t22:Int)(mP:BS),P0 t22 mP→I104_0 prog d Q st0 kp vp ends5 t20 t21 t22 mP)(H0:σ 0=.p kp vp 0)(H3:σ 3=.p (d,0) v0 0)(H1:σ 1=v1.av)(H5:σ 5=.s ends5)(H9:σ 9=.p (d,20483) v20483 0)(H82:σ 82=.b t82)(H68:σ 68=.b t68)(H59:σ 59=.b t59)(H53:σ 53=.b t53)(H42:σ 42=.b t42)(H20:σ 20=.sl o_t20 (List.map Val.row t20))(B0:lk st.bx (d,0)=some (v0,Val.cs m0))(H21:σ 21=.i .i64 t21)(H22:σ 22=.i .i64 t22)(B20483:lk st.bx (d,20483)=some (v20483,Val.cs m20483))(BP:Bl mP st.bx st.ow kp vp)(FR:Fr d kp st0.bx st0.ow st.bx st.ow)
include BP FR in
theorem w104_4 (h:T104_4 prog K mP):W prog d c104_8 σ st Q:=
 q_ J (m_ (er_ (hQ _ _ _ _ J BP FR h)))
include kP0 H0 H5 H9 H20 H21 H22 B20483 BP FR in
theorem w104_10 (h:T104_10 prog K P0 ends5 t20 t21 t22 m20483 mP):W prog d c104_0 σ st (blockW 2 (thenW prog d (.reg 11 r104_30) (thenW prog d (.loop l104_0) (blockW 1 (thenW prog d c104_2 (blockW 0 (thenW prog d c104_8 Q))))))):=
 q_ J (m_ (l_ H9 B20483 J J (h.elim fun _ k=>k.elim fun _ c=>cX_ (sec H0 (sec J sen)) c.1 (Nat.lt_succ_of_lt hkp) BP (fun _ i j=>m_ (e_ (q_ J (m_ (b_ J J neq_ (e_ (cs_ J (fun e=>q_ J (m_ (m_ (er_ (hQ _ _ _ _ J i (Fr.pass FR j) (c.2.1 e)))))) (fun e=>sk_ (W.reg0 J fun _ _=>b_ H22 J add_ (m_ (e_ (kP0 _ _ (c.2.2 e) _ _ _ H0 H5 H20 H21 J i (Fr.pass FR j))))))))))))))))
include H0 H5 BP FR in
theorem w104_11 (h:T104_11 prog K ends5 mP):W prog d c104_2 σ st (blockW 0 (thenW prog d c104_8 Q)):=
 W.reg0 J fun _ _=>m_ (m_ (s_slS_lo H5 J (by decide) h.1 (h.2.elim fun _ e=>e.elim fun _ c=>cX_ (sec H0 (sec J sen)) c.1 (Nat.lt_succ_of_lt hkp) BP (fun _ i j=>e_ (w104_4 hQ hkp i (Fr.pass FR j) c.2)))))
include kP0 H0 H5 H20 H21 H22 BP FR in
theorem w104_9 (h:T104_9 prog K P0 ends5 t20 t21 t22 mP):W prog d l104_0 σ st (thenW prog d (.loop l104_0) (blockW 1 (thenW prog d c104_2 (blockW 0 (thenW prog d c104_8 Q))))):=
 q_ J (b_ H22 H21 lss_ (e_ (sq_ (cs_ J (fun c=>sk_ (sq_ (bk_ (sq_ (W.reg (m_ ((h.1 c).2.elim fun p e=>ia_ H20 H22 (h.1 c).1 e.1 (Val.row_eq p) J (lf_ J J J (s_alloc (m_ (so_ J (show lk _ (d,20483)=some (_,([.i .u8 0,.i .i64 0,.s [],.sl .full (List.map Val.row ([]:List Val)),.b false]:List AV)) from lk_here) J J J (e_ (sq_ (q_ J (m_ (b_ H22 J gtr_ (e_ (cs_ J (fun j=>W.reg0 J fun _ _=>m_ ((e.2.1 j).elim fun _ q=>q.elim fun _ k=>cX_ (sec H0 (sec J sen)) k.1 (Nat.lt_succ_of_lt hkp) (Bl.other (key_LP hkp) (Bl.other (key_LP hkp) BP)) (fun _ r o=>e_ (w104_10 hQ hkp kP0 H0 H5 J H20 H21 H22 ((o.1 (d,20483) (Nat.lt_succ_self d) (key_LP hkp)).trans lk_here) r (Fr.pass (Fr.box (Fr.box FR)) o) k.2)))) (fun j=>sk_ (w104_10 hQ hkp kP0 H0 H5 J H20 H21 H22 lk_here (Bl.other (key_LP hkp) (Bl.other (key_LP hkp) BP)) (Fr.box (Fr.box FR)) (e.2.2 j))))))))))))))))))))) (fun c=>ex_ (w104_11 hQ hkp H0 H5 BP FR (h.2 c)))))))
include H0 H3 H5 H82 B0 BP FR in
theorem w104_8 (h:T104_8 prog K ends5 t82 m0 mP):W prog d c104_3 σ st (blockW 0 (thenW prog d c104_8 Q)):=
 cb_ H82 (fun c=>W.reg0 J fun _ _=>m_ ((h.1 c).elim fun _ b8=>b8.elim fun _ v=>cX_ (sec H0 (sec J sen)) v.1 (Nat.lt_succ_of_lt hkp) BP (fun _ c5 d4=>e_ (w104_4 hQ hkp c5 (Fr.pass FR d4) v.2)))) (fun c=>q_ J (f_ H3 (l_ J B0 J J (b_ J J eql_ (s_mvB J (em_ (g:=96) J (fun e=>gy_ J (f_ H3 (gy_ J (l_ J B0 J J (gy_ J (ll_ J (gy_ J (b_ J J eql_ (z_ 2 J (e_ (cs_ J (fun i=>W.reg0 J fun _ _=>m_ ((((h.2 c).1 e).1 i).elim fun _ b0=>b0.elim fun _ q=>cX_ (sec H0 (sec J sen)) q.1 (Nat.lt_succ_of_lt hkp) BP (fun _ c0 d1=>e_ (w104_4 hQ hkp c0 (Fr.pass FR d1) q.2)))) (fun i=>q_ J (f_ H3 (l_ J B0 J J (b_ J J eql_ (m_ (e_ (cs_ J (fun j=>q_ J (m_ (((((h.2 c).1 e).2 i).1 j).elim fun _ b2=>b2.elim fun _ r=>cX_ (sec H0 (sec J sen)) r.1 (Nat.lt_succ_of_lt hkp) BP (fun _ c1 a4=>e_ (q_ J (m_ (f_ H3 (l_ J ((a4.1 (d,0) (Nat.lt_succ_self d) (key_LP hkp)).trans B0) J J (r.2.elim fun a8 s=>ia_ J J (by decide) s.1 (Val.row_eq a8) J (lf_ J J J (s.2.elim fun _ b1=>b1.elim fun _ u=>cX_ (sec H0 (sec J sen)) u.1 (Nat.lt_succ_of_lt hkp) c1 (fun _ c2 d2=>m_ (er_ (hQ _ _ _ _ J c2 (Fr.pass (Fr.pass FR a4) d2) u.2)))))))))))))) (fun j=>q_ J (f_ H3 (l_ J B0 J J (m_ (e_ (cb_ J (fun o=>W.reg0 J fun _ _=>m_ ((((((h.2 c).1 e).2 i).2 j).1 o).elim fun _ b3=>b3.elim fun _ w=>cX_ (sec H0 (sec J sen)) w.1 (Nat.lt_succ_of_lt hkp) BP (fun _ c3 d3=>e_ (w104_4 hQ hkp c3 (Fr.pass FR d3) w.2)))) (fun o=>q_ J (m_ (m_ (s_slS_hi H5 J (by decide) (((((h.2 c).1 e).2 i).2 j).2 o).1 ((((((h.2 c).1 e).2 i).2 j).2 o).2.elim fun _ b4=>b4.elim fun _ y=>cX_ (sec H0 (sec J sen)) y.1 (Nat.lt_succ_of_lt hkp) BP (fun _ c4 a5=>e_ (sq_ (q_ J (f_ H3 (l_ J ((a5.1 (d,0) (Nat.lt_succ_self d) (key_LP hkp)).trans B0) J J (ll_ J (m_ (e_ (bk_ (y.2 (I104_0 prog d Q st0 kp vp ends5 m0.list (m0.list.length:Int)) (fun _ _ hb _ _ _ H0 H5 H20 H21 H22 BP FR=>W.loop (w104_9 hQ hkp (fun _ _ x=>x) H0 H5 H20 H21 H22 BP FR hb)) _ _ _ H0 H5 J J J c4 (Fr.pass FR a5)))))))))))))))))))))))))))))))))))))))) (fun e=>z_ 6 J (e_ (cf_ J (q_ J (f_ H3 (l_ J B0 J J (b_ J J eql_ (m_ (e_ (cs_ J (fun k=>q_ J (m_ ((((h.2 c).2 e).1 k).elim fun _ b6=>b6.elim fun _ z=>cX_ (sec H0 (sec J sen)) z.1 (Nat.lt_succ_of_lt hkp) BP (fun _ c6 a6=>e_ (q_ J (m_ (f_ H3 (l_ J ((a6.1 (d,0) (Nat.lt_succ_self d) (key_LP hkp)).trans B0) J J (z.2.elim fun a9 a0=>ia_ J J (by decide) a0.1 (Val.row_eq a9) J (lf_ J J J (a0.2.elim fun _ b5=>b5.elim fun _ a1=>cX_ (sec H0 (sec J sen)) a1.1 (Nat.lt_succ_of_lt hkp) c6 (fun _ c7 d5=>m_ (er_ (hQ _ _ _ _ J c7 (Fr.pass (Fr.pass FR a6) d5) a1.2)))))))))))))) (fun k=>q_ J (f_ H3 (l_ J B0 J J (m_ (e_ (cb_ J (fun p=>W.reg0 J fun _ _=>m_ (((((h.2 c).2 e).2 k).1 p).elim fun _ b7=>b7.elim fun _ a2=>cX_ (sec H0 (sec J sen)) a2.1 (Nat.lt_succ_of_lt hkp) BP (fun _ c9 d6=>e_ (w104_4 hQ hkp c9 (Fr.pass FR d6) a2.2)))) (fun p=>q_ J (m_ (m_ (s_slS_hi H5 J (by decide) ((((h.2 c).2 e).2 k).2 p).1 (((((h.2 c).2 e).2 k).2 p).2.elim fun _ b9=>b9.elim fun _ a3=>cX_ (sec H0 (sec J sen)) a3.1 (Nat.lt_succ_of_lt hkp) BP (fun _ d0 a7=>e_ (sq_ (q_ J (f_ H3 (l_ J ((a7.1 (d,0) (Nat.lt_succ_self d) (key_LP hkp)).trans B0) J J (ll_ J (m_ (e_ (bk_ (a3.2 (I104_0 prog d Q st0 kp vp ends5 m0.list (m0.list.length:Int)) (fun _ _ hb _ _ _ H0 H5 H20 H21 H22 BP FR=>W.loop (w104_9 hQ hkp (fun _ _ x=>x) H0 H5 H20 H21 H22 BP FR hb)) _ _ _ H0 H5 J J J d0 (Fr.pass FR a7))))))))))))))))))))))))))))))))))))))
include H0 H3 H5 H68 B0 BP FR in
theorem w104_7 (h:T104_7 prog K ends5 t68 m0 mP):W prog d c104_4 σ st (blockW 0 (thenW prog d c104_8 Q)):=
 cb_ H68 (fun c=>q_ J (f_ H3 (l_ J B0 J J (x2 (h.1 c) fun _ _ i=>ca_ (sc1 J J) i.1 (m_ (x_ J J (x_ J J (m_ (m_ (e_ (q_ J (m_ (m_ (i.2.elim fun _ k=>k.elim fun _ j=>cX_ (sec H0 (sec J sen)) j.1 (Nat.lt_succ_of_lt hkp) BP (fun _ o p=>e_ (q_ J (m_ (m_ (er_ (hQ _ _ _ _ J o (Fr.pass FR p) j.2)))))))))))))))))))) (fun c=>q_ J (f_ H3 (l_ J B0 J J (b_ J J eql_ (s_mvB J (em_ (g:=86) J (fun e=>gy_ J (f_ H3 (gy_ J (l_ J B0 J J (z_ 2 J (e_ (w104_8 hQ hkp H0 H3 H5 J B0 BP FR ((h.2 c).1 e)))))))) (fun e=>z_ 4 J (e_ (w104_8 hQ hkp H0 H3 H5 J B0 BP FR ((h.2 c).2 e))))))))))
include H0 H3 H5 H59 B0 BP FR in
theorem w104_6 (h:T104_6 prog K ends5 t59 m0 mP):W prog d c104_5 σ st (blockW 0 (thenW prog d c104_8 Q)):=
 cb_ H59 (fun c=>W.reg0 J fun _ _=>m_ (f_ H3 (l_ J B0 J J ((h.1 c).elim fun _ e=>ca_ (sc1 J J) e.1 (e.2.elim fun _ j=>j.elim fun _ i=>cX_ (sec H0 (sec J sen)) i.1 (Nat.lt_succ_of_lt hkp) BP (fun _ k o=>e_ (w104_4 hQ hkp k (Fr.pass FR o) i.2))))))) (fun c=>q_ J (f_ H3 (l_ J B0 J J (b_ J J eql_ (m_ (e_ (w104_7 hQ hkp H0 H3 H5 J B0 BP FR (h.2 c))))))))
include H0 H3 H5 H53 B0 BP FR in
theorem w104_5 (h:T104_5 prog K ends5 t53 m0 mP):W prog d c104_6 σ st (blockW 0 (thenW prog d c104_8 Q)):=
 cb_ H53 (fun c=>W.reg0 J fun _ _=>m_ ((h.1 c).elim fun _ i=>i.elim fun _ e=>cX_ (sec H0 (sec J sen)) e.1 (Nat.lt_succ_of_lt hkp) BP (fun _ j k=>e_ (w104_4 hQ hkp j (Fr.pass FR k) e.2)))) (fun c=>q_ J (f_ H3 (l_ J B0 J J (b_ J J eql_ (m_ (e_ (w104_6 hQ hkp H0 H3 H5 J B0 BP FR (h.2 c))))))))
include H0 H3 H5 H42 B0 BP FR in
theorem w104_3 (h:T104_3 prog K ends5 t42 m0 mP):W prog d c104_7 σ st (blockW 0 (thenW prog d c104_8 Q)):=
 cb_ H42 (fun c=>W.reg0 J fun _ _=>m_ ((h.1 c).elim fun _ i=>i.elim fun _ e=>cX_ (sec H0 (sec J sen)) e.1 (Nat.lt_succ_of_lt hkp) BP (fun _ j k=>e_ (w104_4 hQ hkp j (Fr.pass FR k) e.2)))) (fun c=>q_ J (f_ H3 (l_ J B0 J J (b_ J J eql_ (m_ (e_ (w104_5 hQ hkp H0 H3 H5 J B0 BP FR (h.2 c))))))))
include H0 H3 H5 B0 BP FR in
theorem w104_2 (h:T104_2 prog K ends5 m0 mP):W prog d c104_9 σ st Q:=
 sq_ (bk_ (q_ J (f_ H3 (l_ J B0 J J (b_ J J eql_ (s_mvB J (em_ (g:=46) J (fun c=>gy_ J (f_ H3 (gy_ J (l_ J B0 J J (gy_ J (b_ J J eql_ (z_ 2 J (e_ (w104_3 hQ hkp H0 H3 H5 J B0 BP FR (h.1 c)))))))))) (fun c=>z_ 5 J (e_ (w104_3 hQ hkp H0 H3 H5 J B0 BP FR (h.2 c)))))))))))
include H0 H3 B0 BP FR in
theorem w104_1 (h:T104_1 prog K m0 mP):W prog d c104_10 σ st Q:=
 q_ J (s_buildM (f:=AV.s) (l:=[[],[],[],[],[],([123,125]:BS),([91,93]:BS),([60,62]:BS)]) (f_cons J J (f_cons J J (f_cons J J f_nil))) J (f_ H3 (l_ J B0 J J (h.2.elim fun _ c=>s_ixA (f:=AV.s) J J J h.1 c.1 (m_ (e_ (w104_2 hQ hkp H0 H3 J B0 BP FR c.2)))))))
include H0 H1 BP FR in
theorem w104_0 (h:T104_0 prog K v1 mP):W prog d (sR 0 r104_0 c104_10) σ st Q:=
 q_ J (s_box H1 J (m_ (e_ (w104_1 hQ hkp H0 J lk_here (Bl.other (key_LP hkp) BP) (Fr.box FR) h))))
end
theorem p104 {prog:Prog}(hf:prog.fn 104=some pf104){v1:Val}{mP:BS}{K:Int→BS→Prop}(h:T104_0 prog K v1 mP):PuXK prog 104 (Bl mP) [v1.av] (fun r (b_:BS)=>∃res0:Int,(r=.i .i64 res0)∧K res0 b_) (fun b_=>(Bl b_)):=
  PuXK.of hf rfl (fun _=>Bl.out) fun d st kp vp hkp hB=>w104_0 (st0:=st) (Q:=fun e σ st'=>(e=.normal∨e=.ret)∧∃r b_,ares σ st' pf104.res=some r∧_∧_∧Fr d kp st.bx st.ow st'.bx st'.ow) (fun σ st'   res0 b_ H4 hb hf hk=>⟨.inr rfl,.i .i64 res0,b_,by simp only [pf104,ares,aresL,H4,ares1,Option.map_some,H4],⟨res0,rfl,hk⟩,hb,hf⟩) hkp (σ:=sl0 [.p kp vp 0,v1.av]) rfl rfl hB Fr.refl h
abbrev H106 (Q:AE→Sl→St→Prop)(K:BS→Prop):Prop:=∀(σ:Sl)(st:St)(res0:BS),σ 2=.s res0→K res0→Q .ret σ st
section
variable {prog:Prog}{d:Nat}{Q:AE→Sl→St→Prop}{K:BS→Prop}(hQ:H106 Q K){σ:Sl}{st:St}
include hQ
end
def r109_0:List AI:=[oY 2 5 0,oI 4 0,oC 5 (.b false)]
def r109_1:List AI:=[oF 15 0 2,oL 16 15,oO 17 (.build [z8,z6,zs,zl,zb] [(0,1,(.t 16))]),oO 6 (.alloc [z8,z6,zs,zl,zb]),oS 5 6 17,oI 7 0,oI 8 0]
def r109_2:List AI:=[oF 18 0 2,oL 19 18]
def r109_3:List AI:=[oW 21 .eql 19 1,oM 20 21]
def r109_4:List AI:=[oF 22 1 2,oL 23 22,oV 24 .and 23 1,oF 25 1 6,oS 1 25 24]
def r109_5:List AI:=[oW 27 .eql 19 2,oM 26 27]
def r109_6:List AI:=[oF 28 1 2,oL 29 28,oF 30 1 6,oS 1 30 29]
def r109_7:List AI:=[oW 32 .eql 19 3,oM 31 32]
def r109_8:List AI:=[oF 33 2 2,oL 34 33,oF 35 2 6,oS 1 35 34]
def r109_9:List AI:=[oW 37 .eql 19 4,oM 36 37]
def r109_10:List AI:=[oF 38 4 2,oL 39 38,oF 40 4 6,oS 1 40 39,oI 7 1]
def r109_11:List AI:=[oW 42 .eql 19 5,oM 41 42]
def r109_12:List AI:=[oI 7 8]
def r109_13:List AI:=[oW 44 .eql 19 6,oM 43 44]
def r109_14:List AI:=[oI 7 16,oI 8 1]
def r109_15:List AI:=[oW 46 .eql 19 7,oM 45 46]
def r109_16:List AI:=[oF 47 4 2,oL 48 47,oF 49 4 6,oS 1 49 48,oI 7 16]
def r109_17:List AI:=[oI 4 0,oC 5 (.b false)]
def r109_18:List AI:=[oF 50 3 2,oL 51 50,oJ 52 51,oM 9 52]
def r109_19:List AI:=[oM 53 1,oV 54 .eql 53 0,oM 55 54,gF 55 (oF 56 1 6),gF 55 (oL 57 56),gF 55 (oF 58 1 2),gF 55 (oL 59 58),gF 55 (oT 60 .neq 57 59),oR 61 55 60,oM 62 61,gF 62 (oF 63 2 6),gF 62 (oL 64 63),gF 62 (oF 65 2 2),gF 62 (oL 66 65),gF 62 (oT 67 .neq 64 66),oR 68 62 67,oM 69 68,gF 69 (oF 70 2 2),gF 69 (oL 71 70),gF 69 (oH 72 71),gF 69 (oV 73 .gtr 72 64),oR 74 69 73,oM 75 74,gF 75 (oF 76 4 6),gF 75 (oL 77 76),gF 75 (oF 78 4 2),gF 75 (oL 79 78),gF 75 (oO 80 (.beq true (.t 77) (.t 79))),oR 81 75 80,oM 82 81,gF 82 (oF 83 4 2),gF 82 (oL 84 83),gF 82 (oM 85 84),gT 85 (oM 86 9),gT 85 (oV 87 .gtr 86 0),gF 82 (oA 88 85 87),oR 89 82 88,oM 90 89,gF 90 (oM 91 9),gF 90 (oM 92 7),gF 90 (oT 93 .gtr 91 92),oR 94 90 93,oM 95 94,gF 95 (oM 96 9),gF 95 (oM 97 8),gF 95 (oT 98 .lss 96 97),oR 99 95 98]
def r109_20:List AI:=[oI 4 0,oC 5 (.b false)]
def r109_21:List AI:=[oI 10 1]
def r109_22:List AI:=[oF 100 3 2,oL 101 100,oJ 102 101,oI 103 0]
def r109_23:List AI:=[oT 104 .lss 103 102]
def r109_24:List AI:=[oX 105 5 101 103,oK 106 5 105,oO 12 (.alloc [z8,z6,zs,zl,zb]),oS 5 12 106]
def r109_25:List AI:=[oK 108 5 12,oM 109 1,oV 110 .sub 109 1,oQ 111 109 [108,110],oM 107 111,oE 112 0 107,oE 113 1 107,oM 13 112,oM 14 113]
def r109_26:List AI:=[oM 114 10,oM 115 13,oT 116 .add 114 115,oM 10 116]
def r109_27:List AI:=[oM 117 14,oZ 118 117,oM 119 118,gF 119 (oM 120 10),gF 119 (oV 121 .gtr 120 5000),oR 122 119 121]
def r109_28:List AI:=[oI 4 0,oC 5 (.b false)]
def r109_29:List AI:=[oV 123 .add 103 1,oM 103 123]
def r109_30:List AI:=[oM 124 10,oM 4 124,oC 5 (.b true)]
abbrev l109_0:AC:=(sR 23 r109_23 (.seq (.cond (.t 104) .skip (.exit 1)) (.seq (.block 2 (sR 24 r109_24 (sR 25 r109_25 (sR 26 r109_26 (sR 27 r109_27 (.cond (.t 122) (sR 28 r109_28 .ret) .skip)))))) (.reg 29 r109_29))))
abbrev c109_1:AC:=(sR 30 r109_30 .ret)
abbrev c109_2:AC:=(.seq (sR 19 r109_19 (.cond (.t 99) (sR 20 r109_20 .ret) .skip)) (sR 21 r109_21 (.seq (sR 22 r109_22 (.block 1 (.loop l109_0))) c109_1)))
abbrev c109_3:AC:=(sR 18 r109_18 c109_2)
abbrev c109_4:AC:=(.seq (sR 2 r109_2 (.block 0 (sR 4 r109_3 (.cond (.t 20) (.reg 5 r109_4) (sR 6 r109_5 (.cond (.t 26) (.reg 7 r109_6) (sR 8 r109_7 (.cond (.t 31) (.reg 9 r109_8) (sR 10 r109_9 (.cond (.t 36) (.reg 11 r109_10) (sR 12 r109_11 (.cond (.t 41) (.reg 13 r109_12) (sR 14 r109_13 (.cond (.t 43) (.reg 15 r109_14) (sR 16 r109_15 (.cond (.t 45) (.reg 17 r109_16) (sR 3 r109_17 .ret))))))))))))))))) c109_3)
abbrev c109_5:AC:=(sR 1 r109_1 c109_4)
abbrev b109:AC:=(sR 0 r109_0 c109_5)
def pf109:AF:={ nt:=125,res:=[.tmp 4,.tmp 5],body:=b109 }
abbrev I109_0 (prog:Prog)(d:Nat)(Q:AE→Sl→St→Prop)(nest1:Int)(t101:List Val)(t102:Int)(sum10:Int)(t103:Int):Prop:=
  ∀(σ:Sl)(st:St)(o_t101:Own),σ 1=.i .i64 nest1→σ 10=.i .i64 sum10→σ 101=.sl o_t101 (List.map Val.row t101)→σ 102=.i .i64 t102→σ 103=.i .i64 t103→W prog d (.loop l109_0) σ st (blockW 1 (thenW prog d c109_1 Q))
def T109_6 (prog:Prog)(K:Int→Bool→Prop)(sum10:Int):Prop:=
  K sum10 true
def T109_5 (prog:Prog)(K:Int→Bool→Prop)(P0:Int→Int→Prop)(nest1:Int)(sum10:Int)(t101:List Val)(t102:Int)(t103:Int):Prop:=
  (t103<t102→0≤t103∧∃j:Val,t101[(t103).toNat]?=some j∧∃c e,Pus prog 109 [j.av,.i .i64 (IntKind.i64.wrap (nest1-1))] (.tup [.i .i64 c,.b e])∧((!e)=true→K 0 false)∧((!e)=false→((IntKind.i64.wrap (sum10+c))>5000→K 0 false)∧(¬((IntKind.i64.wrap (sum10+c))>5000)→P0 (IntKind.i64.wrap (sum10+c)) (IntKind.i64.wrap (t103+1)))))∧(¬(t103<t102)→T109_6 prog K sum10)
def T109_4 (prog:Prog)(K:Int→Bool→Prop)(nest1:Int)(most7:Int)(least8:Int)(n9:Int)(m0:Val)(m4099:Val):Prop:=
  (nest1=0→K 0 false)∧(¬(nest1=0)→(m4099.int≠m0.int→K 0 false)∧(¬(m4099.int≠m0.int)→(m4099.text≠m0.text→K 0 false)∧(¬(m4099.text≠m0.text)→((m0.text.length:Int)>64→K 0 false)∧(¬((m0.text.length:Int)>64)→(m4099.cut≠m0.cut→K 0 false)∧(¬(m4099.cut≠m0.cut)→(m0.cut=true→(n9>0→K 0 false)∧(¬(n9>0)→(n9>most7→K 0 false)∧(¬(n9>most7)→(n9<least8→K 0 false)∧(¬(n9<least8)→∀P0:Int→Int→Prop,(∀(sum10:Int)(t103:Int),T109_5 prog K P0 nest1 sum10 m0.list (m0.list.length:Int) t103→P0 sum10 t103)→P0 1 0))))∧(m0.cut=false→(n9>most7→K 0 false)∧(¬(n9>most7)→(n9<least8→K 0 false)∧(¬(n9<least8)→∀P0:Int→Int→Prop,(∀(sum10:Int)(t103:Int),T109_5 prog K P0 nest1 sum10 m0.list (m0.list.length:Int) t103→P0 sum10 t103)→P0 1 0))))))))
def T109_3 (prog:Prog)(K:Int→Bool→Prop)(nest1:Int)(most7:Int)(least8:Int)(m0:Val)(m4099:Val):Prop:=
  T109_4 prog K nest1 most7 least8 (m0.list.length:Int) m0 m4099
def T109_2 (prog:Prog)(K:Int→Bool→Prop)(nest1:Int)(most7:Int)(least8:Int)(m0:Val)(m4099:Val):Prop:=
  (m0.kind=1→T109_3 prog K nest1 most7 least8 m0 (Val.mk m4099.kind (bAnd .i64 m0.int 1) m4099.text m4099.list m4099.cut))∧(¬(m0.kind=1)→(m0.kind=2→T109_3 prog K nest1 most7 least8 m0 (Val.mk m4099.kind m0.int m4099.text m4099.list m4099.cut))∧(¬(m0.kind=2)→(m0.kind=3→T109_3 prog K nest1 most7 least8 m0 (Val.mk m4099.kind m4099.int m0.text m4099.list m4099.cut))∧(¬(m0.kind=3)→(m0.kind=4→T109_3 prog K nest1 1 least8 m0 (Val.mk m4099.kind m4099.int m4099.text m4099.list m0.cut))∧(¬(m0.kind=4)→(m0.kind=5→T109_3 prog K nest1 8 least8 m0 m4099)∧(¬(m0.kind=5)→(m0.kind=6→T109_3 prog K nest1 16 1 m0 m4099)∧(¬(m0.kind=6)→(m0.kind=7→T109_3 prog K nest1 16 least8 m0 (Val.mk m4099.kind m4099.int m4099.text m4099.list m0.cut))∧(¬(m0.kind=7)→K 0 false)))))))
def T109_1 (prog:Prog)(K:Int→Bool→Prop)(nest1:Int)(m0:Val):Prop:=
  T109_2 prog K nest1 0 0 m0 (Val.mk m0.kind 0 [] ([]:List Val) false)
def T109_0 (prog:Prog)(K:Int→Bool→Prop)(v0:Val)(nest1:Int):Prop:=
  T109_1 prog K nest1 v0
section
variable {prog:Prog}{d:Nat}{Q:AE→Sl→St→Prop}{K:Int→Bool→Prop}(hQ:H2 (AV.i .i64) AV.b 4 5 Q K){σ:Sl}{st:St}
include hQ
variable {sum10 nest1:Int}{t101:List Val}{t102 t103:Int}{P0:Int→Int→Prop}{o_t101:Own}{most7 least8 n9:Int}{m0 m4099:Val}{o_m4099_3:Own}{v0 v4099:Nat}
variable (kP0 :∀(sum10:Int)(t103:Int),P0 sum10 t103→I109_0 prog d Q nest1 t101 t102 sum10 t103)(H1:σ 1=.i .i64 nest1)(H10:σ 10=.i .i64 sum10)(H2:σ 2=.p (d,0) v0 0)(H101:σ 101=.sl o_t101 (List.map Val.row t101))(H6:σ 6=.p (d,4099) v4099 0)(H102:σ 102=.i .i64 t102)(H7:σ 7=.i .i64 most7)(H103:σ 103=.i .i64 t103)(H8:σ 8=.i .i64 least8)(H9:σ 9=.i .i64 n9)(Ab4099:ApM d st.ow o_m4099_3 m4099.list.length)(B0:lk st.bx (d,0)=some (v0,Val.cs m0))(B4099:lk st.bx (d,4099)=some (v4099,[.i .u8 m4099.kind,.i .i64 m4099.int,.s m4099.text,.sl o_m4099_3 (List.map Val.row m4099.list),.b m4099.cut]))
include H10 in
theorem w109_6 (h:T109_6 prog K sum10):W prog d c109_1 σ st Q:=
 q_ J (m_ (m_ (m_ (er_ (hQ H10 J h)))))
include kP0 H1 H10 H101 H102 H103 in
theorem w109_5 (h:T109_5 prog K P0 nest1 sum10 t101 t102 t103):W prog d l109_0 σ st (thenW prog d (.loop l109_0) (blockW 1 (thenW prog d c109_1 Q))):=
 q_ J (b_ H103 H102 lss_ (e_ (sq_ (cs_ J (fun e=>sk_ (sq_ (bk_ (sq_ (W.reg ((h.1 e).2.elim fun p o=>ia_ H101 H103 (h.1 e).1 o.1 (Val.row_eq p) J (lf_ J J J (s_alloc (so_ J (show lk _ (d,98306)=some (_,([.i .u8 0,.i .i64 0,.s [],.sl .full (List.map Val.row ([]:List Val)),.b false]:List AV)) from lk_here) J J J (e_ (q_ J (l_ J lk_here J J (m_ (b_ H1 J sub_ (x2 o.2 fun _ _ c=>ca_ (sc2 J J J) c.1 (m_ (x_ J J (x_ J J (m_ (m_ (e_ (q_ J (m_ (m_ (b_ H10 J add_ (m_ (e_ (q_ J (s_mvB J (nt_ J (s_mvB J (eb_ (g:=119) J (fun j=>z_ 3 J (e_ (ct_ J (q_ J (m_ (m_ (er_ (hQ J J (c.2.1 j))))))))) (fun j=>gy_ J (s_mvI J (gy_ J (b_ J J gtr_ (pf_ J J (e_ (cs_ J (fun k=>q_ J (m_ (m_ (er_ (hQ J J ((c.2.2 j).1 k)))))) (fun k=>sk_ (W.reg0 J fun _ _=>b_ H103 J add_ (m_ (e_ (kP0 _ _ ((c.2.2 j).2 k) _ _ _ H1 J H101 H102 J)))))))))))))))))))))))))))))))))))))))))))) (fun e=>ex_ (w109_6 hQ H10 (h.2 e)))))))
include H1 H2 H6 H7 H8 H9 Ab4099 B0 B4099 in
theorem w109_4 (h:T109_4 prog K nest1 most7 least8 n9 m0 m4099):W prog d c109_2 σ st Q:=
 sq_ (q_ J (s_mvI H1 (b_ J J eql_ (s_mvB J (em_ (g:=55) J (fun c=>z_ 30 J (gt_ J (gt_ J (z_ 12 J (e_ (ct_ J (q_ J (m_ (m_ (er_ (hQ J J (h.1 c)))))))))))) (fun c=>gy_ J (f_ H6 (gy_ J (l_ J B4099 J J (gy_ J (f_ H2 (gy_ J (l_ J B0 J J (gy_ J (b_ J J neq_ (z_ 2 J (em_ (g:=62) J (fun e=>z_ 23 J (gt_ J (gt_ J (z_ 12 J (e_ (ct_ J (q_ J (m_ (m_ (er_ (hQ J J ((h.2 c).1 e)))))))))))) (fun e=>gy_ J (f_ H6 (gy_ J (l_ J B4099 J J (gy_ J (f_ H2 (gy_ J (l_ J B0 J J (gy_ J (b_ J J sne_ (z_ 2 J (em_ (g:=69) J (fun i=>z_ 16 J (gt_ J (gt_ J (z_ 12 J (e_ (ct_ J (q_ J (m_ (m_ (er_ (hQ J J (((h.2 c).2 e).1 i)))))))))))) (fun i=>gy_ J (f_ H2 (gy_ J (l_ J B0 J J (gy_ J (ln_ J (gy_ J (b_ J J gtr_ (z_ 2 J (em_ (g:=75) J (fun j=>z_ 10 J (gt_ J (gt_ J (z_ 12 J (e_ (ct_ J (q_ J (m_ (m_ (er_ (hQ J J ((((h.2 c).2 e).2 i).1 j)))))))))))) (fun j=>gy_ J (f_ H6 (gy_ J (l_ J B4099 J J (gy_ J (f_ H2 (gy_ J (l_ J B0 J J (gy_ J (s_bne J J (z_ 2 J (em_ (g:=82) J (fun k=>z_ 3 J (gt_ J (gt_ J (z_ 12 J (e_ (ct_ J (q_ J (m_ (m_ (er_ (hQ J J (((((h.2 c).2 e).2 i).2 j).1 k)))))))))))) (fun k=>gy_ J (f_ H2 (gy_ J (l_ J B0 J J (gy_ J (s_mvB J (eb_ (g:=85) J (fun o=>gy_ J (s_mvI H9 (gy_ J (b_ J J gtr_ (gy_ J (z_ 3 J (em_ (g:=90) J (fun p=>z_ 9 J (e_ (ct_ J (q_ J (m_ (m_ (er_ (hQ J J (((((((h.2 c).2 e).2 i).2 j).2 k).1 o).1 p))))))))) (fun p=>gy_ J (s_mvI H9 (gy_ J (s_mvI H7 (gy_ J (b_ J J gtr_ (z_ 2 J (em_ (g:=95) J (fun r=>z_ 4 J (e_ (ct_ J (q_ J (m_ (m_ (er_ (hQ J J ((((((((h.2 c).2 e).2 i).2 j).2 k).1 o).2 p).1 r))))))))) (fun r=>gy_ J (s_mvI H9 (gy_ J (s_mvI H8 (gy_ J (b_ J J lss_ (pf_ J J (e_ (cs_ J (fun u=>q_ J (m_ (m_ (er_ (hQ J J (((((((((h.2 c).2 e).2 i).2 j).2 k).1 o).2 p).2 r).1 u)))))) (fun u=>sk_ (q_ J (m_ (e_ (sq_ (q_ J (f_ H2 (l_ J B0 J J (ll_ J (m_ (e_ (bk_ ((((((((((h.2 c).2 e).2 i).2 j).2 k).1 o).2 p).2 r).2 u) (I109_0 prog d Q nest1 m0.list (m0.list.length:Int)) (fun _ _ hb _ _ _ H1 H10 H101 H102 H103=>W.loop (w109_5 hQ (fun _ _ x=>x) H1 H10 H101 H102 H103 hb)) _ _ _ H1 J J J J))))))))))))))))))))))))))))))))))))) (fun o=>z_ 2 J (gy_ J (z_ 3 J (gy_ J (s_mvI H9 (gy_ J (s_mvI H7 (gy_ J (b_ J J gtr_ (z_ 2 J (em_ (g:=95) J (fun q=>z_ 4 J (e_ (ct_ J (q_ J (m_ (m_ (er_ (hQ J J (((((((h.2 c).2 e).2 i).2 j).2 k).2 o).1 q))))))))) (fun q=>gy_ J (s_mvI H9 (gy_ J (s_mvI H8 (gy_ J (b_ J J lss_ (pf_ J J (e_ (cs_ J (fun s=>q_ J (m_ (m_ (er_ (hQ J J ((((((((h.2 c).2 e).2 i).2 j).2 k).2 o).2 q).1 s)))))) (fun s=>sk_ (q_ J (m_ (e_ (sq_ (q_ J (f_ H2 (l_ J B0 J J (ll_ J (m_ (e_ (bk_ (((((((((h.2 c).2 e).2 i).2 j).2 k).2 o).2 q).2 s) (I109_0 prog d Q nest1 m0.list (m0.list.length:Int)) (fun _ _ hb _ _ _ H1 H10 H101 H102 H103=>W.loop (w109_5 hQ (fun _ _ x=>x) H1 H10 H101 H102 H103 hb)) _ _ _ H1 J J J J)))))))))))))))))))))))))))))))))))))))))))))))))))))))))))))))))))))))))))))))))))))))))))
include H1 H2 H6 H7 H8 Ab4099 B0 B4099 in
theorem w109_3 (h:T109_3 prog K nest1 most7 least8 m0 m4099):W prog d c109_3 σ st Q:=
 q_ J (f_ H2 (l_ J B0 J J (ll_ J (m_ (e_ (w109_4 hQ H1 H2 H6 H7 H8 J Ab4099 B0 B4099 h))))))
include H1 H2 H6 H7 H8 Ab4099 B0 B4099 in
theorem w109_2 (h:T109_2 prog K nest1 most7 least8 m0 m4099):W prog d c109_4 σ st Q:=
 sq_ (q_ J (f_ H2 (l_ J B0 J J (e_ (bk_ (q_ J (b_ J J eql_ (m_ (e_ (cs_ J (fun c=>W.reg0 J fun _ _=>f_ H2 (l_ J B0 J J (b_ J J (abin_and _ _ _) (f_ H6 (so_ J B4099 J J J (e_ (w109_3 (m4099:=(Val.mk m4099.kind (bAnd .i64 m0.int 1) m4099.text m4099.list m4099.cut)) hQ H1 H2 H6 H7 H8 Ab4099 (lk_other J B0) lk_here (h.1 c)))))))) (fun c=>q_ J (b_ J J eql_ (m_ (e_ (cs_ J (fun e=>W.reg0 J fun _ _=>f_ H2 (l_ J B0 J J (f_ H6 (so_ J B4099 J J J (e_ (w109_3 (m4099:=(Val.mk m4099.kind m0.int m4099.text m4099.list m4099.cut)) hQ H1 H2 H6 H7 H8 Ab4099 (lk_other J B0) lk_here ((h.2 c).1 e))))))) (fun e=>q_ J (b_ J J eql_ (m_ (e_ (cs_ J (fun i=>W.reg0 J fun _ _=>f_ H2 (l_ J B0 J J (f_ H6 (so_ J B4099 J J J (e_ (w109_3 (m4099:=(Val.mk m4099.kind m4099.int m0.text m4099.list m4099.cut)) hQ H1 H2 H6 H7 H8 Ab4099 (lk_other J B0) lk_here (((h.2 c).2 e).1 i))))))) (fun i=>q_ J (b_ J J eql_ (m_ (e_ (cs_ J (fun j=>W.reg0 J fun _ _=>f_ H2 (l_ J B0 J J (f_ H6 (so_ J B4099 J J J (m_ (e_ (w109_3 (m4099:=(Val.mk m4099.kind m4099.int m4099.text m4099.list m0.cut)) hQ H1 H2 H6 J H8 Ab4099 (lk_other J B0) lk_here ((((h.2 c).2 e).2 i).1 j)))))))) (fun j=>q_ J (b_ J J eql_ (m_ (e_ (cs_ J (fun k=>W.reg0 J fun _ _=>m_ (e_ (w109_3 hQ H1 H2 H6 J H8 Ab4099 B0 B4099 (((((h.2 c).2 e).2 i).2 j).1 k)))) (fun k=>q_ J (b_ J J eql_ (m_ (e_ (cs_ J (fun o=>W.reg0 J fun _ _=>m_ (m_ (e_ (w109_3 hQ H1 H2 H6 J J Ab4099 B0 B4099 ((((((h.2 c).2 e).2 i).2 j).2 k).1 o))))) (fun o=>q_ J (b_ J J eql_ (m_ (e_ (cs_ J (fun p=>W.reg0 J fun _ _=>f_ H2 (l_ J B0 J J (f_ H6 (so_ J B4099 J J J (m_ (e_ (w109_3 (m4099:=(Val.mk m4099.kind m4099.int m4099.text m4099.list m0.cut)) hQ H1 H2 H6 J H8 Ab4099 (lk_other J B0) lk_here (((((((h.2 c).2 e).2 i).2 j).2 k).2 o).1 p)))))))) (fun p=>q_ J (m_ (m_ (er_ (hQ J J (((((((h.2 c).2 e).2 i).2 j).2 k).2 o).2 p))))))))))))))))))))))))))))))))))))))))))))))
include H1 H2 B0 in
theorem w109_1 (h:T109_1 prog K nest1 m0):W prog d c109_5 σ st Q:=
 sq_ (W.reg (f_ H2 (l_ J (lk_other J B0) J J (s_build (f_cons J J f_nil) (s_alloc (so_ J (show lk _ (d,4099)=some (_,([.i .u8 0,.i .i64 0,.s [],.sl .full (List.map Val.row ([]:List Val)),.b false]:List AV)) from lk_here) J J J (m_ (m_ (e_ (w109_2 (m4099:=(Val.mk m0.kind 0 [] ([]:List Val) false)) hQ H1 H2 J J J ApM.full (lk_other J (lk_other J B0)) lk_here h))))))))))
theorem w109_0 {v0:Val}{nest1:Int}(H0:σ 0=v0.av)(H1:σ 1=.i .i64 nest1)(h:T109_0 prog K v0 nest1):W prog d (sR 0 r109_0 c109_5) σ st Q:=
 q_ J (s_box H0 J (m_ (m_ (e_ (w109_1 hQ H1 J lk_here h)))))
end
theorem p109 {prog:Prog}(hf:prog.fn 109=some pf109){v0:Val}{nest1:Int}{K:Int→Bool→Prop}(h:T109_0 prog K v0 nest1) :∃res0:Int,∃res1:Bool,K res0 res1∧Pus prog 109 [v0.av,.i .i64 nest1] (.tup [.i .i64 res0,.b res1]):=
 P2 hf J (w109_0 (h2 J fun _ _=>J) J J h)
abbrev H110 (Q:AE→Sl→St→Prop)(K:Bool→Prop):Prop:=∀(σ:Sl)(st:St)(res0:Bool),σ 4=.b res0→K res0→Q .ret σ st
section
variable {prog:Prog}{d:Nat}{Q:AE→Sl→St→Prop}{K:Bool→Prop}(hQ:H110 Q K){σ:Sl}{st:St}
include hQ
end
abbrev H127 (Q:AE→Sl→St→Prop)(K:BS→Prop):Prop:=∀(σ:Sl)(st:St)(res0:BS),σ 2=.s res0→K res0→Q .ret σ st
section
variable {prog:Prog}{d:Nat}{Q:AE→Sl→St→Prop}{K:BS→Prop}(hQ:H127 Q K){σ:Sl}{st:St}
include hQ
end
abbrev H136 (Q:AE→Sl→St→Prop)(K:Bool→Prop):Prop:=∀(σ:Sl)(st:St)(res0:Bool),σ 2=.b res0→K res0→Q .ret σ st
section
variable {prog:Prog}{d:Nat}{Q:AE→Sl→St→Prop}{K:Bool→Prop}(hQ:H136 Q K){σ:Sl}{st:St}
include hQ
end
end Go.AM

namespace Go.AM
open Go
set_option maxRecDepth 4000
attribute [local irreducible] WO fillCells fillRows
def r128_0:List AI:=[oC 4 (.b false)]
def r128_1:List AI:=[oM 8 0,oN 9 8,oF 10 0 9,oL 11 10,oM 12 1,oQ 13 36 [11,12],oM 7 13,oE 14 0 7,oE 15 1 7,oM 5 14,oM 6 15]
def r128_2:List AI:=[oM 16 0,oM 17 5,oN 18 16,oF 19 0 18,oS 1 19 17]
def r128_3:List AI:=[oM 20 6,oM 4 20]
abbrev b128:AC:=(sR 0 r128_0 (sR 1 r128_1 (sR 2 r128_2 (sR 3 r128_3 .ret))))
def pf128:AF:={ nt:=21,res:=[.tmp 4],body:=b128 }
abbrev H128 (d:Nat)(st0:St)(kp:Key)(vp:Nat)(Q:AE→Sl→St→Prop)(K:Bool→Sc→Prop):Prop:=∀(σ:Sl)(st:St)(res0:Bool)(b_:Sc),σ 4=.b res0→lk st.bx kp=some (vp,[.s b_.left])→Fr d kp st0.bx st0.ow st.bx st.ow→K res0 b_→Q .ret σ st
def T128_0 (prog:Prog)(K:Bool→Sc→Prop)(what1:BS)(mP:Sc):Prop:=
  ∃c e,Pus prog 36 [.s mP.left,.s what1] (.tup [.s c,.b e])∧K e (Sc.mk c)
section
variable {prog:Prog}{d:Nat}{Q:AE→Sl→St→Prop}{K:Bool→Sc→Prop}{st0:St}{kp:Key}{vp:Nat}(hQ:H128 d st0 kp vp Q K)(hkp:kp.1<d){σ:Sl}{st:St}
include hQ hkp
variable {what1:BS}{mP:Sc}
variable (H0:σ 0=.p kp vp 0)(H1:σ 1=.s what1)(BP:lk st.bx kp=some (vp,[.s mP.left]))(FR:Fr d kp st0.bx st0.ow st.bx st.ow)
include H0 H1 BP FR in
theorem w128_0 (h:T128_0 prog K what1 mP):W prog d (sR 0 r128_0 (sR 1 r128_1 (sR 2 r128_2 (sR 3 r128_3 .ret)))) σ st Q:=
 q_ J (m_ (e_ (q_ J (m_ (s_nilP H0 (f_ J (l_ J BP J J (m_ (x2 h fun _ _ c=>ca_ (sc2 J H1 J) c.1 (m_ (x_ J J (x_ J J (m_ (m_ (e_ (q_ J (m_ (m_ (s_nilP H0 (f_ J (so_ J BP J J J (e_ (q_ J (m_ (m_ (er_ (hQ _ _ _ _ J lk_here (Fr.own FR) c.2)))))))))))))))))))))))))))
end
theorem p128 {prog:Prog}(hf:prog.fn 128=some pf128){what1:BS}{mP:Sc}{K:Bool→Sc→Prop}(h:T128_0 prog K what1 mP):PuXK prog 128 (Bx [.s mP.left]) [.s what1] (fun r (b_:Sc)=>∃res0:Bool,(r=.b res0)∧K res0 b_) (fun b_=>(Bx [.s b_.left])):=
  PuXK.of hf rfl (fun _=>Bx.out) fun d st kp vp hkp hB=>w128_0 (st0:=st) (Q:=fun e σ st'=>(e=.normal∨e=.ret)∧∃r b_,ares σ st' pf128.res=some r∧_∧_∧Fr d kp st.bx st.ow st'.bx st'.ow) (fun σ st'   res0 b_ H4 hb hf hk=>⟨.inr rfl,.b res0,b_,by simp only [pf128,ares,aresL,H4,ares1,Option.map_some,H4],⟨res0,rfl,hk⟩,hb,hf⟩) hkp (σ:=sl0 [.p kp vp 0,.s what1]) rfl rfl hB Fr.refl h
def r129_0:List AI:=[oO 8 (.alloc [z8,z6,zs,zl,zb]),oC 9 (.b false)]
def r129_1:List AI:=[oM 13 1,oO 14 (.build [z8,z6,zs,zl,zb] [(0,1,(.t 13))]),oO 10 (.alloc [z8,z6,zs,zl,zb]),oS 5 10 14]
def r129_2:List AI:=[oM 15 0,oM 16 2,oO 17 (.call true 128 [(.t 15),(.t 16)])]
def r129_3:List AI:=[oK 18 5 10,oS 5 8 18,oC 9 (.b true)]
def r129_4:List AI:=[oF 19 3 10,oL 20 19,oJ 21 20,oV 22 .leq 21 16]
def r129_5:List AI:=[oM 24 0,oM 25 3,oO 26 (.call true 107 [(.t 24),(.t 25)]),oM 23 26,oE 27 0 23,oE 28 1 23,oO 11 (.alloc [z8,z6,zs,zl,zb]),oS 5 11 27,oM 12 28]
def r129_6:List AI:=[oM 29 12,oZ 30 29]
def r129_7:List AI:=[oK 31 5 10,oS 5 8 31,oC 9 (.b false)]
def r129_8:List AI:=[oF 32 3 10,oL 33 32,oK 34 5 11,oO 35 (.bslice [z8,z6,zs,zl,zb] 1 [(0,(.t 34))]),oO 36 (.app 5 64 (.t 33) (.t 35)),oF 37 3 10,oS 1 37 36]
def r129_9:List AI:=[oM 38 0,oM 39 2,oO 40 (.call true 128 [(.t 38),(.t 39)])]
def r129_10:List AI:=[oK 41 5 10,oS 5 8 41,oC 9 (.b true)]
def r129_11:List AI:=[oM 42 0,oO 43 (.call true 128 [(.t 42),(.c (.s [44,32]))]),oZ 44 43]
def r129_12:List AI:=[oK 45 5 10,oS 5 8 45,oC 9 (.b false)]
def r129_13:List AI:=[oK 46 5 10,oS 5 8 46,oC 9 (.b false)]
abbrev l129_0:AC:=(.seq (sR 4 r129_4 (.cond (.t 22) .skip (.exit 0))) (.block 1 (sR 5 r129_5 (.seq (sR 6 r129_6 (.cond (.t 30) (sR 7 r129_7 .ret) .skip)) (sR 8 r129_8 (.seq (sR 9 r129_9 (.cond (.t 40) (sR 10 r129_10 .ret) .skip)) (sR 11 r129_11 (.cond (.t 44) (sR 12 r129_12 .ret) .skip))))))))
abbrev c129_1:AC:=(sR 13 r129_13 .ret)
abbrev b129:AC:=(sR 0 r129_0 (sR 1 r129_1 (.seq (sR 2 r129_2 (.cond (.t 17) (sR 3 r129_3 .ret) .skip)) (.seq (.block 0 (.loop l129_0)) c129_1))))
def pf129:AF:={ nt:=47,res:=[.cell 8 5 true,.tmp 9],body:=b129 }
abbrev H129 (d:Nat)(st0:St)(kp:Key)(vp:Nat)(Q:AE→Sl→St→Prop)(K:Val→Bool→Sc→Prop):Prop:=∀(σ:Sl)(st:St)(k0:Key)(v0:Nat)(o0_0:Own)(res0:Val)(res1:Bool)(b_:Sc),σ 8=.p k0 v0 0→lk st.bx k0=some (v0,[.i .u8 res0.kind,.i .i64 res0.int,.s res0.text,.sl o0_0 (List.map Val.row res0.list),.b res0.cut])→σ 9=.b res1→lk st.bx kp=some (vp,[.s b_.left])→Fr d kp st0.bx st0.ow st.bx st.ow→K res0 res1 b_→Q .ret σ st
abbrev I129_0 (prog:Prog)(d:Nat)(Q:AE→Sl→St→Prop)(st0:St)(kp:Key)(vp:Nat)(end2:BS)(nest3:Int)(m0:Val)(m4098:Val)(mP:Sc):Prop:=
  ∀(σ:Sl)(st:St) (o_m0_3 o_m4098_3:Own) (v0 v4098:Nat),σ 0=.p kp vp 0→σ 2=.s end2→σ 3=.i .i64 nest3→σ 8=.p (d,0) v0 0→σ 10=.p (d,4098) v4098 0→ApM d st.ow o_m4098_3 m4098.list.length→lk st.bx (d,0)=some (v0,[.i .u8 m0.kind,.i .i64 m0.int,.s m0.text,.sl o_m0_3 (List.map Val.row m0.list),.b m0.cut])→lk st.bx (d,4098)=some (v4098,[.i .u8 m4098.kind,.i .i64 m4098.int,.s m4098.text,.sl o_m4098_3 (List.map Val.row m4098.list),.b m4098.cut])→lk st.bx kp=some (vp,[.s mP.left])→Fr d kp st0.bx st0.ow st.bx st.ow→W prog d (.loop l129_0) σ st (blockW 0 (thenW prog d c129_1 Q))
def T129_2 (prog:Prog)(K:Val→Bool→Sc→Prop)(m0:Val)(m4098:Val)(mP:Sc):Prop:=
  K m4098 false mP
def T129_1 (prog:Prog)(K:Val→Bool→Sc→Prop)(P0:Val→Val→Sc→Prop)(end2:BS)(nest3:Int)(m0:Val)(m4098:Val)(mP:Sc):Prop:=
  ((m4098.list.length:Int)≤16→∃c:Val,∃k,∃e:Sc,PuX prog 107 (Bx [.s mP.left]) [.i .i64 nest3] (fun r=>∃o'4_0:Own,r=.tup [c.avo o'4_0,.b k]) ((Bx [.s e.left]))∧((!k)=true→K m4098 false e)∧((!k)=false→Fit (m4098.list.length+[c].length) 64∧∃o,∃j:Sc,PuX prog 128 (Bx [.s e.left]) [.s end2] (fun r=>r=.b o) ((Bx [.s j.left]))∧(o=true→K (Val.mk m4098.kind m4098.int m4098.text (m4098.list++[c]) m4098.cut) true j)∧(o=false→∃q,∃p:Sc,PuX prog 128 (Bx [.s j.left]) [.s ([44,32]:BS)] (fun r=>r=.b q) ((Bx [.s p.left]))∧((!q)=true→K (Val.mk m4098.kind m4098.int m4098.text (m4098.list++[c]) m4098.cut) false p)∧((!q)=false→P0 m0 (Val.mk m4098.kind m4098.int m4098.text (m4098.list++[c]) m4098.cut) p))))∧(¬((m4098.list.length:Int)≤16)→T129_2 prog K m0 m4098 mP)
def T129_0 (prog:Prog)(K:Val→Bool→Sc→Prop)(kind1:Int)(end2:BS)(nest3:Int)(mP:Sc):Prop:=
  ∃c,∃e:Sc,PuX prog 128 (Bx [.s mP.left]) [.s end2] (fun r=>r=.b c) ((Bx [.s e.left]))∧(c=true→K (Val.mk kind1 0 [] ([]:List Val) false) true e)∧(c=false→∀P0:Val→Val→Sc→Prop,(∀(m0:Val)(m4098:Val)(mP:Sc),T129_1 prog K P0 end2 nest3 m0 m4098 mP→P0 m0 m4098 mP)→P0 (Val.mk 0 0 [] ([]:List Val) false) (Val.mk kind1 0 [] ([]:List Val) false) e)
section
variable {prog:Prog}{d:Nat}{Q:AE→Sl→St→Prop}{K:Val→Bool→Sc→Prop}{st0:St}{kp:Key}{vp:Nat}(hQ:H129 d st0 kp vp Q K)(hkp:kp.1<d){σ:Sl}{st:St}
include hQ hkp
variable {m0 m4098:Val}{mP:Sc}{o_m0_3 o_m4098_3:Own}{v0 v4098:Nat}{end2:BS}{nest3:Int}{P0:Val→Val→Sc→Prop}{kind1:Int}
variable (kP0 :∀(m0:Val)(m4098:Val)(mP:Sc),P0 m0 m4098 mP→I129_0 prog d Q st0 kp vp end2 nest3 m0 m4098 mP)(H0:σ 0=.p kp vp 0)(H1:σ 1=.i .u8 kind1)(H2:σ 2=.s end2)(H3:σ 3=.i .i64 nest3)(H8:σ 8=.p (d,0) v0 0)(H10:σ 10=.p (d,4098) v4098 0)(Ab4098:ApM d st.ow o_m4098_3 m4098.list.length)(B0:lk st.bx (d,0)=some (v0,[.i .u8 m0.kind,.i .i64 m0.int,.s m0.text,.sl o_m0_3 (List.map Val.row m0.list),.b m0.cut]))(B4098:lk st.bx (d,4098)=some (v4098,[.i .u8 m4098.kind,.i .i64 m4098.int,.s m4098.text,.sl o_m4098_3 (List.map Val.row m4098.list),.b m4098.cut]))(BP:lk st.bx kp=some (vp,[.s mP.left]))(FR:Fr d kp st0.bx st0.ow st.bx st.ow)
include H8 H10 Ab4098 B0 B4098 BP FR in
theorem w129_2 (h:T129_2 prog K m0 m4098 mP):W prog d c129_1 σ st Q:=
 q_ J (l_ H10 B4098 J J (so_ H8 B0 J J J (m_ (er_ (hQ _ _ _ _ _ _ _ _ H8 lk_here J (lk_otherP hkp BP) (Fr.box FR) h)))))
include kP0 H0 H2 H3 H8 H10 Ab4098 B0 B4098 BP FR in
theorem w129_1 (h:T129_1 prog K P0 end2 nest3 m0 m4098 mP):W prog d l129_0 σ st (thenW prog d (.loop l129_0) (blockW 0 (thenW prog d c129_1 Q))):=
 sq_ (q_ J (f_ H10 (l_ J B4098 J J (ll_ J (b_ J J leq_ (e_ (cs_ J (fun u=>sk_ (bk_ (sq_ (W.reg (m_ (m_ (x2 (h.1 u) fun a5 _ a3=>a3.elim fun _ k=>s_callX1 (sec H0 (sec H3 sen)) k.1 (Nat.lt_succ_of_lt hkp) (lk_otherP hkp BP) (fun o'4_0 _ z c=>m_ (x_ J J (x_ J J (s_alloc (so_ J ((c.1 (d,20486) (Nat.lt_succ_self d) (key_LP hkp)).trans (show lk _ (d,20486)=some (_,([.i .u8 0,.i .i64 0,.s [],.sl .full (List.map Val.row ([]:List Val)),.b false]:List AV)) from lk_here)) J J J (m_ (e_ (sq_ (q_ J (m_ (nt_ J (e_ (cb_ J (fun o=>q_ J (l_ H10 (lk_other J ((c.1 (d,4098) (Nat.lt_succ_self d) (key_LP hkp)).trans (lk_other J B4098))) J J (so_ H8 (lk_other J ((c.1 (d,0) (Nat.lt_succ_self d) (key_LP hkp)).trans (lk_other J B0))) J J J (m_ (er_ (hQ _ _ _ _ _ _ _ _ H8 lk_here J (lk_otherP hkp (lk_otherP hkp z)) (Fr.box (Fr.box (Fr.pass (Fr.box FR) c))) (k.2.1 o))))))) (fun o=>sk_ (q_ J (f_ H10 (l_ J (lk_other J ((c.1 (d,4098) (Nat.lt_succ_self d) (key_LP hkp)).trans (lk_other J B4098))) J J (l_ J lk_here J J (s_bslM (f:=Val.row) (l:=[a5]) J J (g_cons J J J g_nil) (by simp only [List.map_cons,List.map_nil,Val.row_eq];rfl) (s_app Val.row_len J J J ((ApM.call Ab4098 c).1) (k.2.2 o).1 J (fun _ _ a0 r a4=>f_ H10 (so_ J (lk_other J ((c.1 (d,4098) (Nat.lt_succ_self d) (key_LP hkp)).trans (lk_other J B4098))) J J J (e_ (sq_ (q_ J (m_ (m_ ((k.2.2 o).2.elim fun _ a2=>a2.elim fun _ p=>cX_ (sec H0 (sec H2 sen)) p.1 (Nat.lt_succ_of_lt hkp) (lk_otherP hkp (lk_otherP hkp z)) (fun _ x e=>e_ (cb_ J (fun v=>q_ J (l_ H10 ((e.1 (d,4098) (Nat.lt_succ_self d) (key_LP hkp)).trans lk_here) J J (so_ H8 ((e.1 (d,0) (Nat.lt_succ_self d) (key_LP hkp)).trans (lk_other J (lk_other J ((c.1 (d,0) (Nat.lt_succ_self d) (key_LP hkp)).trans (lk_other J B0))))) J J J (m_ (er_ (hQ _ _ _ _ _ _ _ _ H8 lk_here J (lk_otherP hkp x) (Fr.box (Fr.pass (Fr.box (Fr.app (Fr.box (Fr.pass (Fr.box FR) c)) (ApM.call Ab4098 c).2 r)) e)) (p.2.1 v))))))) (fun v=>sk_ (q_ J (m_ ((p.2.2 v).elim fun _ a1=>a1.elim fun _ q=>cX_ (sec H0 (sec J sen)) q.1 (Nat.lt_succ_of_lt hkp) x (fun _ y j=>nt_ J (e_ (cb_ J (fun w=>q_ J (l_ H10 ((j.1 (d,4098) (Nat.lt_succ_self d) (key_LP hkp)).trans ((e.1 (d,4098) (Nat.lt_succ_self d) (key_LP hkp)).trans lk_here)) J J (so_ H8 ((j.1 (d,0) (Nat.lt_succ_self d) (key_LP hkp)).trans ((e.1 (d,0) (Nat.lt_succ_self d) (key_LP hkp)).trans (lk_other J (lk_other J ((c.1 (d,0) (Nat.lt_succ_self d) (key_LP hkp)).trans (lk_other J B0)))))) J J J (m_ (er_ (hQ _ _ _ _ _ _ _ _ H8 lk_here J (lk_otherP hkp y) (Fr.box (Fr.pass (Fr.pass (Fr.box (Fr.app (Fr.box (Fr.pass (Fr.box FR) c)) (ApM.call Ab4098 c).2 r)) e) j)) (q.2.1 w))))))) (fun w=>sk_ (kP0 _ _ _ (q.2.2 w) _ _ _ _ _ _ H0 H2 H3 H8 H10 (ApM.call (ApM.call (ApM.mk a0 (Mine.app (ApM.call Ab4098 c).2 J a4)) e) j) ((j.1 (d,0) (Nat.lt_succ_self d) (key_LP hkp)).trans ((e.1 (d,0) (Nat.lt_succ_self d) (key_LP hkp)).trans (lk_other J (lk_other J ((c.1 (d,0) (Nat.lt_succ_self d) (key_LP hkp)).trans (lk_other J B0)))))) ((j.1 (d,4098) (Nat.lt_succ_self d) (key_LP hkp)).trans ((e.1 (d,4098) (Nat.lt_succ_self d) (key_LP hkp)).trans lk_here)) y (Fr.pass (Fr.pass (Fr.box (Fr.app (Fr.box (Fr.pass (Fr.box FR) c)) (ApM.call Ab4098 c).2 r)) e) j))))))))))))))))))))))))))))))))))))))))))))))) (fun u=>ex_ (w129_2 hQ hkp H8 H10 Ab4098 B0 B4098 BP FR (h.2 u))))))))))
include H0 H1 H2 H3 BP FR in
theorem w129_0 (h:T129_0 prog K kind1 end2 nest3 mP):W prog d (sR 0 r129_0 (sR 1 r129_1 (.seq (sR 2 r129_2 (.cond (.t 17) (sR 3 r129_3 .ret) .skip)) (.seq (.block 0 (.loop l129_0)) c129_1)))) σ st Q:=
 sq_ (W.reg (s_alloc (m_ (e_ (sq_ (W.reg (m_ (s_build (f_cons H1 J f_nil) (s_alloc (so_ J (show lk _ (d,4098)=some (_,([.i .u8 0,.i .i64 0,.s [],.sl .full (List.map Val.row ([]:List Val)),.b false]:List AV)) from lk_here) J J J (e_ (sq_ (q_ J (m_ (m_ (h.elim fun _ o=>o.elim fun _ e=>cX_ (sec H0 (sec H2 sen)) e.1 (Nat.lt_succ_of_lt hkp) (lk_otherP hkp (lk_otherP hkp (lk_otherP hkp BP))) (fun _ k c=>e_ (cb_ J (fun j=>q_ J (l_ J ((c.1 (d,4098) (Nat.lt_succ_self d) (key_LP hkp)).trans lk_here) J J (so_ J ((c.1 (d,0) (Nat.lt_succ_self d) (key_LP hkp)).trans (lk_other J (lk_other J (show lk _ (d,0)=some (_,([.i .u8 0,.i .i64 0,.s [],.sl .full (List.map Val.row ([]:List Val)),.b false]:List AV)) from lk_here)))) J J J (m_ (er_ (hQ _ _ _ _ _ _ _ _ J lk_here J (lk_otherP hkp k) (Fr.box (Fr.pass (Fr.box (Fr.box (Fr.box FR))) c)) (e.2.1 j))))))) (fun j=>sk_ (sq_ (bk_ ((e.2.2 j) (I129_0 prog d Q st0 kp vp end2 nest3) (fun _ _ _ hb _ _ _ _ _ _ H0 H2 H3 H8 H10 Ab4098 B0 B4098 BP FR=>W.loop (w129_1 hQ hkp (fun _ _ _ x=>x) H0 H2 H3 H8 H10 Ab4098 B0 B4098 BP FR hb)) _ _ _ _ _ _ H0 H2 H3 J J ApM.full ((c.1 (d,0) (Nat.lt_succ_self d) (key_LP hkp)).trans (lk_other J (lk_other J (show lk _ (d,0)=some (_,([.i .u8 0,.i .i64 0,.s [],.sl .full (List.map Val.row ([]:List Val)),.b false]:List AV)) from lk_here)))) ((c.1 (d,4098) (Nat.lt_succ_self d) (key_LP hkp)).trans lk_here) k (Fr.pass (Fr.box (Fr.box (Fr.box FR))) c)))))))))))))))))))))))
end
theorem p129 {prog:Prog}(hf:prog.fn 129=some pf129){kind1:Int}{end2:BS}{nest3:Int}{mP:Sc}{K:Val→Bool→Sc→Prop}(h:T129_0 prog K kind1 end2 nest3 mP):PuXK prog 129 (Bx [.s mP.left]) [.i .u8 kind1,.s end2,.i .i64 nest3] (fun r (b_:Sc)=>∃res0:Val,∃res1:Bool,(∃o_0:Own,r=.tup [res0.avo o_0,.b res1])∧K res0 res1 b_) (fun b_=>(Bx [.s b_.left])):=
  PuXK.of hf rfl (fun _=>Bx.out) fun d st kp vp hkp hB=>w129_0 (st0:=st) (Q:=fun e σ st'=>(e=.normal∨e=.ret)∧∃r b_,ares σ st' pf129.res=some r∧_∧_∧Fr d kp st.bx st.ow st'.bx st'.ow) (fun σ st' k0 v0 o_0 res0 res1 b_ H8 HB8 H9 hb hf hk=>⟨.inr rfl,.tup [res0.avo o_0,.b res1],b_,by simp only [pf129,ares,aresL,ares_cellA (n:=5) H8 HB8 rfl,H9,ares_tmp,Option.map_some,ares_cellA (n:=5) H8 HB8 rfl,H9],⟨res0,res1,⟨o_0,rfl⟩,hk⟩,hb,hf⟩) hkp (σ:=sl0 [.p kp vp 0,.i .u8 kind1,.s end2,.i .i64 nest3]) rfl rfl rfl rfl hB Fr.refl h
def r107_0:List AI:=[oO 4 (.alloc [z8,z6,zs,zl,zb]),oC 5 (.b false)]
def r107_1:List AI:=[oM 12 1,oV 13 .eql 12 0,oM 14 13,gF 14 (oM 15 0),gF 14 (oN 16 15),gF 14 (oF 17 0 16),gF 14 (oL 18 17),gF 14 (oB 19 .eql (.t 18) (.c (.s []))),oR 20 14 19]
def r107_2:List AI:=[oO 21 (.build [z8,z6,zs,zl,zb] []),oS 5 4 21,oC 5 (.b false)]
def r107_3:List AI:=[oM 23 0,oO 24 (.call true 128 [(.t 23),(.c (.s [116,114,117,101]))]),oM 22 24]
def r107_4:List AI:=[oO 25 (.build [z8,z6,zs,zl,zb] [(0,1,(.c (.i .u8 1))),(1,1,(.c (.i .i64 1)))]),oS 5 4 25,oC 5 (.b true)]
def r107_5:List AI:=[oM 27 0,oO 28 (.call true 128 [(.t 27),(.c (.s [102,97,108,115,101]))]),oM 26 28]
def r107_6:List AI:=[oO 29 (.build [z8,z6,zs,zl,zb] [(0,1,(.c (.i .u8 1)))]),oS 5 4 29,oC 5 (.b true)]
def r107_7:List AI:=[oM 31 0,oO 32 (.call true 128 [(.t 31),(.c (.s [110,105,108]))]),oM 30 32]
def r107_8:List AI:=[oO 33 (.build [z8,z6,zs,zl,zb] [(0,1,(.c (.i .u8 4)))]),oS 5 4 33,oC 5 (.b true)]
def r107_9:List AI:=[oM 35 0,oO 36 (.call true 128 [(.t 35),(.c (.s [38,46,46,46]))]),oM 34 36]
def r107_10:List AI:=[oO 37 (.build [z8,z6,zs,zl,zb] [(0,1,(.c (.i .u8 4))),(4,1,(.c (.b true)))]),oS 5 4 37,oC 5 (.b true)]
def r107_11:List AI:=[oM 39 0,oO 40 (.call true 128 [(.t 39),(.c (.s [60,46,46,46,62]))]),oM 38 40]
def r107_12:List AI:=[oO 41 (.build [z8,z6,zs,zl,zb] [(0,1,(.c (.i .u8 7))),(4,1,(.c (.b true)))]),oS 5 4 41,oC 5 (.b true)]
def r107_13:List AI:=[oM 43 0,oO 44 (.call true 128 [(.t 43),(.c (.s [38]))]),oM 42 44]
def r107_14:List AI:=[oM 46 0,oM 47 1,oV 48 .sub 47 1,oO 49 (.call true 107 [(.t 46),(.t 48)]),oM 45 49,oE 50 0 45,oE 51 1 45,oO 6 (.alloc [z8,z6,zs,zl,zb]),oS 5 6 50,oM 7 51]
def r107_15:List AI:=[oK 52 5 6,oO 53 (.bslice [z8,z6,zs,zl,zb] 1 [(0,(.t 52))]),oO 54 (.build [z8,z6,zs,zl,zb] [(0,1,(.c (.i .u8 4))),(3,1,(.t 53))]),oM 55 7,oS 5 4 54,oM 5 55]
def r107_16:List AI:=[oM 57 0,oO 58 (.call true 128 [(.t 57),(.c (.s [123]))]),oM 56 58]
def r107_17:List AI:=[oM 59 0,oM 60 1,oV 61 .sub 60 1,oO 62 (.call true 129 [(.t 59),(.c (.i .u8 5)),(.c (.s [125])),(.t 61)]),oE 63 0 62,oE 64 1 62,oS 5 4 63,oM 5 64]
def r107_18:List AI:=[oM 66 0,oO 67 (.call true 128 [(.t 66),(.c (.s [91]))]),oM 65 67]
def r107_19:List AI:=[oM 68 0,oM 69 1,oV 70 .sub 69 1,oO 71 (.call true 129 [(.t 68),(.c (.i .u8 6)),(.c (.s [93])),(.t 70)]),oE 72 0 71,oE 73 1 71,oS 5 4 72,oM 5 73]
def r107_20:List AI:=[oM 75 0,oO 76 (.call true 128 [(.t 75),(.c (.s [60]))]),oM 74 76]
def r107_21:List AI:=[oM 77 0,oM 78 1,oV 79 .sub 78 1,oO 80 (.call true 129 [(.t 77),(.c (.i .u8 7)),(.c (.s [62])),(.t 79)]),oE 81 0 80,oE 82 1 80,oS 5 4 81,oM 5 82]
def r107_22:List AI:=[oM 84 0,oN 85 84,oF 86 0 85,oL 87 86,oO 88 (.ixS (.t 87) (.c (.i .i64 0))),oW 89 .eql 88 34,oM 83 89]
def r107_23:List AI:=[oM 91 0,oO 92 (.call true 130 [(.t 91)]),oM 90 92,oE 93 0 90,oE 94 1 90,oM 8 93,oM 9 94]
def r107_24:List AI:=[oM 95 8,oO 96 (.build [z8,z6,zs,zl,zb] [(0,1,(.c (.i .u8 3))),(2,1,(.t 95))]),oM 97 9,oS 5 4 96,oM 5 97]
def r107_25:List AI:=[oM 99 0,oO 100 (.call true 131 [(.t 99)]),oM 98 100,oE 101 0 98,oE 102 1 98,oM 10 101,oM 11 102]
def r107_26:List AI:=[oM 103 10,oO 104 (.build [z8,z6,zs,zl,zb] [(0,1,(.c (.i .u8 2))),(1,1,(.t 103))]),oM 105 11,oS 5 4 104,oM 5 105]
abbrev c107_0:AC:=(.cond (.t 42) (sR 14 r107_14 (sR 15 r107_15 .ret)) (sR 16 r107_16 (.cond (.t 56) (sR 17 r107_17 .ret) (sR 18 r107_18 (.cond (.t 65) (sR 19 r107_19 .ret) (sR 20 r107_20 (.cond (.t 74) (sR 21 r107_21 .ret) (sR 22 r107_22 (.cond (.t 83) (sR 23 r107_23 (sR 24 r107_24 .ret)) .skip)))))))))
abbrev c107_1:AC:=(.cond (.t 38) (sR 12 r107_12 .ret) (sR 13 r107_13 c107_0))
abbrev c107_2:AC:=(.cond (.t 34) (sR 10 r107_10 .ret) (sR 11 r107_11 c107_1))
abbrev c107_3:AC:=(.cond (.t 30) (sR 8 r107_8 .ret) (sR 9 r107_9 c107_2))
abbrev c107_4:AC:=(.cond (.t 26) (sR 6 r107_6 .ret) (sR 7 r107_7 c107_3))
abbrev c107_5:AC:=(.cond (.t 22) (sR 4 r107_4 .ret) (sR 5 r107_5 c107_4))
abbrev c107_6:AC:=(.seq (.block 0 (sR 3 r107_3 c107_5)) (sR 25 r107_25 (sR 26 r107_26 .ret)))
abbrev c107_7:AC:=(.seq (sR 1 r107_1 (.cond (.t 20) (sR 2 r107_2 .ret) .skip)) c107_6)
abbrev b107:AC:=(sR 0 r107_0 c107_7)
def pf107:AF:={ nt:=106,res:=[.cell 4 5 true,.tmp 5],body:=b107 }
abbrev H107 (d:Nat)(st0:St)(kp:Key)(vp:Nat)(Q:AE→Sl→St→Prop)(K:Val→Bool→Sc→Prop):Prop:=∀(σ:Sl)(st:St)(k0:Key)(v0:Nat)(o0_0:Own)(res0:Val)(res1:Bool)(b_:Sc),σ 4=.p k0 v0 0→lk st.bx k0=some (v0,[.i .u8 res0.kind,.i .i64 res0.int,.s res0.text,.sl o0_0 (List.map Val.row res0.list),.b res0.cut])→σ 5=.b res1→lk st.bx kp=some (vp,[.s b_.left])→Fr d kp st0.bx st0.ow st.bx st.ow→K res0 res1 b_→Q .ret σ st
def T107_8 (prog:Prog)(K:Val→Bool→Sc→Prop)(nest1:Int)(t42:Bool)(m0:Val)(mP:Sc):Prop:=
  (t42=true→∃e:Val,∃c,∃y:Sc,PuX prog 107 (Bx [.s mP.left]) [.i .i64 (IntKind.i64.wrap (nest1-1))] (fun r=>∃o'4_0:Own,r=.tup [e.avo o'4_0,.b c]) ((Bx [.s y.left]))∧K (Val.mk 4 0 [] [e] false) c y)∧(t42=false→∃u,∃p:Sc,PuX prog 128 (Bx [.s mP.left]) [.s ([123]:BS)] (fun r=>r=.b u) ((Bx [.s p.left]))∧(u=true→∃a4:Val,∃a1,∃z:Sc,PuX prog 129 (Bx [.s p.left]) [.i .u8 5,.s ([125]:BS),.i .i64 (IntKind.i64.wrap (nest1-1))] (fun r=>∃o'22_0:Own,r=.tup [a4.avo o'22_0,.b a1]) ((Bx [.s z.left]))∧K a4 a1 z)∧(u=false→∃k,∃q:Sc,PuX prog 128 (Bx [.s p.left]) [.s ([91]:BS)] (fun r=>r=.b k) ((Bx [.s q.left]))∧(k=true→∃a8:Val,∃a5,∃b0:Sc,PuX prog 129 (Bx [.s q.left]) [.i .u8 6,.s ([93]:BS),.i .i64 (IntKind.i64.wrap (nest1-1))] (fun r=>∃o'40_0:Own,r=.tup [a8.avo o'40_0,.b a5]) ((Bx [.s b0.left]))∧K a8 a5 b0)∧(k=false→∃v,∃j:Sc,PuX prog 128 (Bx [.s q.left]) [.s ([60]:BS)] (fun r=>r=.b v) ((Bx [.s j.left]))∧(v=true→∃a9:Val,∃w,∃a6:Sc,PuX prog 129 (Bx [.s j.left]) [.i .u8 7,.s ([62]:BS),.i .i64 (IntKind.i64.wrap (nest1-1))] (fun r=>∃o'58_0:Own,r=.tup [a9.avo o'58_0,.b w]) ((Bx [.s a6.left]))∧K a9 w a6)∧(v=false→∃o:UInt8,j.left[0]?=some o∧((o.toNat:Int)=34→∃a3 a7,∃x:Sc,PuX prog 130 (Bx [.s j.left]) [] (fun r=>r=.tup [.s a3,.b a7]) ((Bx [.s x.left]))∧K (Val.mk 3 0 a3 ([]:List Val) false) a7 x)∧(¬((o.toNat:Int)=34)→∃b1 a2,∃a0:Sc,PuX prog 131 (Bx [.s j.left]) [] (fun r=>r=.tup [.i .i64 b1,.b a2]) ((Bx [.s a0.left]))∧K (Val.mk 2 b1 [] ([]:List Val) false) a2 a0)))))
def T107_7 (prog:Prog)(K:Val→Bool→Sc→Prop)(nest1:Int)(t38:Bool)(m0:Val)(mP:Sc):Prop:=
  (t38=true→K (Val.mk 7 0 [] ([]:List Val) true) true mP)∧(t38=false→∃c,∃e:Sc,PuX prog 128 (Bx [.s mP.left]) [.s ([38]:BS)] (fun r=>r=.b c) ((Bx [.s e.left]))∧T107_8 prog K nest1 c m0 e)
def T107_6 (prog:Prog)(K:Val→Bool→Sc→Prop)(nest1:Int)(t34:Bool)(m0:Val)(mP:Sc):Prop:=
  (t34=true→K (Val.mk 4 0 [] ([]:List Val) true) true mP)∧(t34=false→∃c,∃e:Sc,PuX prog 128 (Bx [.s mP.left]) [.s ([60,46,46,46,62]:BS)] (fun r=>r=.b c) ((Bx [.s e.left]))∧T107_7 prog K nest1 c m0 e)
def T107_5 (prog:Prog)(K:Val→Bool→Sc→Prop)(nest1:Int)(t30:Bool)(m0:Val)(mP:Sc):Prop:=
  (t30=true→K (Val.mk 4 0 [] ([]:List Val) false) true mP)∧(t30=false→∃c,∃e:Sc,PuX prog 128 (Bx [.s mP.left]) [.s ([38,46,46,46]:BS)] (fun r=>r=.b c) ((Bx [.s e.left]))∧T107_6 prog K nest1 c m0 e)
def T107_4 (prog:Prog)(K:Val→Bool→Sc→Prop)(nest1:Int)(t26:Bool)(m0:Val)(mP:Sc):Prop:=
  (t26=true→K (Val.mk 1 0 [] ([]:List Val) false) true mP)∧(t26=false→∃c,∃e:Sc,PuX prog 128 (Bx [.s mP.left]) [.s ([110,105,108]:BS)] (fun r=>r=.b c) ((Bx [.s e.left]))∧T107_5 prog K nest1 c m0 e)
def T107_3 (prog:Prog)(K:Val→Bool→Sc→Prop)(nest1:Int)(t22:Bool)(m0:Val)(mP:Sc):Prop:=
  (t22=true→K (Val.mk 1 1 [] ([]:List Val) false) true mP)∧(t22=false→∃c,∃e:Sc,PuX prog 128 (Bx [.s mP.left]) [.s ([102,97,108,115,101]:BS)] (fun r=>r=.b c) ((Bx [.s e.left]))∧T107_4 prog K nest1 c m0 e)
def T107_2 (prog:Prog)(K:Val→Bool→Sc→Prop)(nest1:Int)(m0:Val)(mP:Sc):Prop:=
  ∃c,∃e:Sc,PuX prog 128 (Bx [.s mP.left]) [.s ([116,114,117,101]:BS)] (fun r=>r=.b c) ((Bx [.s e.left]))∧T107_3 prog K nest1 c m0 e
def T107_1 (prog:Prog)(K:Val→Bool→Sc→Prop)(nest1:Int)(m0:Val)(mP:Sc):Prop:=
  (nest1=0→K (Val.mk 0 0 [] ([]:List Val) false) false mP)∧(¬(nest1=0)→(mP.left=([]:BS)→K (Val.mk 0 0 [] ([]:List Val) false) false mP)∧(¬(mP.left=([]:BS))→T107_2 prog K nest1 m0 mP))
def T107_0 (prog:Prog)(K:Val→Bool→Sc→Prop)(nest1:Int)(mP:Sc):Prop:=
  T107_1 prog K nest1 (Val.mk 0 0 [] ([]:List Val) false) mP
section
variable {prog:Prog}{d:Nat}{Q:AE→Sl→St→Prop}{K:Val→Bool→Sc→Prop}{st0:St}{kp:Key}{vp:Nat}(hQ:H107 d st0 kp vp Q K)(hkp:kp.1<d){σ:Sl}{st:St}
include hQ hkp
variable {nest1:Int}{t42:Bool}{m0:Val}{mP:Sc}{o_m0_3:Own}{v0:Nat}{t38 t34 t30 t26 t22:Bool}
variable (H0:σ 0=.p kp vp 0)(H1:σ 1=.i .i64 nest1)(H4:σ 4=.p (d,0) v0 0)(H42:σ 42=.b t42)(H38:σ 38=.b t38)(H34:σ 34=.b t34)(H30:σ 30=.b t30)(H26:σ 26=.b t26)(H22:σ 22=.b t22)(B0:lk st.bx (d,0)=some (v0,[.i .u8 m0.kind,.i .i64 m0.int,.s m0.text,.sl o_m0_3 (List.map Val.row m0.list),.b m0.cut]))(BP:lk st.bx kp=some (vp,[.s mP.left]))(FR:Fr d kp st0.bx st0.ow st.bx st.ow)
include H0 H1 H4 H42 B0 BP FR in
theorem w107_8 (h:T107_8 prog K nest1 t42 m0 mP):W prog d c107_0 σ st (blockW 0 (thenW prog d (sR 25 r107_25 (sR 26 r107_26 .ret)) Q)):=
 cb_ H42 (fun u=>sq_ (W.reg (m_ (m_ (b_ H1 J sub_ (x2 (h.1 u) fun c9 _ b3=>b3.elim fun _ a2=>s_callX1 (sec H0 (sec J sen)) a2.1 (Nat.lt_succ_of_lt hkp) (lk_otherP hkp BP) (fun o'4_0 _ c5 z=>m_ (x_ J J (x_ J J (s_alloc (so_ J ((z.1 (d,57351) (Nat.lt_succ_self d) (key_LP hkp)).trans (show lk _ (d,57351)=some (_,([.i .u8 0,.i .i64 0,.s [],.sl .full (List.map Val.row ([]:List Val)),.b false]:List AV)) from lk_here)) J J J (m_ (e_ (q_ J (l_ J lk_here J J (s_bslM (f:=Val.row) (l:=[c9]) J J (g_cons J J J g_nil) (by simp only [List.map_cons,List.map_nil,Val.row_eq];rfl) (s_build (f_cons J J (f_cons J J f_nil)) (m_ (so_ H4 (lk_other J ((z.1 (d,0) (Nat.lt_succ_self d) (key_LP hkp)).trans (lk_other J B0))) J J J (m_ (er_ (hQ _ _ _ _ _ _ _ _ H4 lk_here J (lk_otherP hkp (lk_otherP hkp c5)) (Fr.box (Fr.box (Fr.pass (Fr.box FR) z))) a2.2)))))))))))))))))))))) (fun u=>q_ J (m_ ((h.2 u).elim fun _ c1=>c1.elim fun _ o=>cX_ (sec H0 (sec J sen)) o.1 (Nat.lt_succ_of_lt hkp) BP (fun _ a6 c=>m_ (e_ (cb_ J (fun v=>q_ J (m_ (m_ (b_ H1 J sub_ (x2 (o.2.1 v) fun _ _ b4=>b4.elim fun _ a0=>s_callX1 (sec H0 (sec J (sec J (sec J sen)))) a0.1 (Nat.lt_succ_of_lt hkp) a6 (fun o'22_0 _ c2 a8=>x_ J J (x_ J J (so_ H4 ((a8.1 (d,0) (Nat.lt_succ_self d) (key_LP hkp)).trans ((c.1 (d,0) (Nat.lt_succ_self d) (key_LP hkp)).trans B0)) J J J (m_ (er_ (hQ _ _ _ _ _ _ _ _ H4 lk_here J (lk_otherP hkp c2) (Fr.box (Fr.pass (Fr.pass FR c) a8)) a0.2))))))))))) (fun v=>q_ J (m_ ((o.2.2 v).elim fun _ c0=>c0.elim fun _ p=>cX_ (sec H0 (sec J sen)) p.1 (Nat.lt_succ_of_lt hkp) a6 (fun _ a7 e=>m_ (e_ (cb_ J (fun w=>q_ J (m_ (m_ (b_ H1 J sub_ (x2 (p.2.1 w) fun _ _ b5=>b5.elim fun _ a1=>s_callX1 (sec H0 (sec J (sec J (sec J sen)))) a1.1 (Nat.lt_succ_of_lt hkp) a7 (fun o'40_0 _ c3 a9=>x_ J J (x_ J J (so_ H4 ((a9.1 (d,0) (Nat.lt_succ_self d) (key_LP hkp)).trans ((e.1 (d,0) (Nat.lt_succ_self d) (key_LP hkp)).trans ((c.1 (d,0) (Nat.lt_succ_self d) (key_LP hkp)).trans B0))) J J J (m_ (er_ (hQ _ _ _ _ _ _ _ _ H4 lk_here J (lk_otherP hkp c3) (Fr.box (Fr.pass (Fr.pass (Fr.pass FR c) e) a9)) a1.2))))))))))) (fun w=>q_ J (m_ ((p.2.2 w).elim fun _ b9=>b9.elim fun _ q=>cX_ (sec H0 (sec J sen)) q.1 (Nat.lt_succ_of_lt hkp) a7 (fun _ k j=>m_ (e_ (cb_ J (fun x=>q_ J (m_ (m_ (b_ H1 J sub_ (x2 (q.2.1 x) fun _ _ b6=>b6.elim fun _ a3=>s_callX1 (sec H0 (sec J (sec J (sec J sen)))) a3.1 (Nat.lt_succ_of_lt hkp) k (fun o'58_0 _ c4 b0=>x_ J J (x_ J J (so_ H4 ((b0.1 (d,0) (Nat.lt_succ_self d) (key_LP hkp)).trans ((j.1 (d,0) (Nat.lt_succ_self d) (key_LP hkp)).trans ((e.1 (d,0) (Nat.lt_succ_self d) (key_LP hkp)).trans ((c.1 (d,0) (Nat.lt_succ_self d) (key_LP hkp)).trans B0)))) J J J (m_ (er_ (hQ _ _ _ _ _ _ _ _ H4 lk_here J (lk_otherP hkp c4) (Fr.box (Fr.pass (Fr.pass (Fr.pass (Fr.pass FR c) e) j) b0)) a3.2))))))))))) (fun x=>q_ J (m_ (s_nilP H0 (f_ J (l_ J k J J ((q.2.2 x).elim fun _ r=>s_ixS J J (by decide) r.1 (b_ J J eql_ (m_ (e_ (cs_ J (fun y=>q_ J (m_ (x2 (r.2.1 y) fun _ _ b7=>b7.elim fun _ a4=>cX_ (sec H0 sen) a4.1 (Nat.lt_succ_of_lt hkp) k (fun _ c6 b1=>m_ (x_ J J (x_ J J (m_ (m_ (e_ (q_ J (m_ (s_build (f_cons J J (f_cons J J f_nil)) (m_ (so_ H4 ((b1.1 (d,0) (Nat.lt_succ_self d) (key_LP hkp)).trans ((j.1 (d,0) (Nat.lt_succ_self d) (key_LP hkp)).trans ((e.1 (d,0) (Nat.lt_succ_self d) (key_LP hkp)).trans ((c.1 (d,0) (Nat.lt_succ_self d) (key_LP hkp)).trans B0)))) J J J (m_ (er_ (hQ _ _ _ _ _ _ _ _ H4 lk_here J (lk_otherP hkp c6) (Fr.box (Fr.pass (Fr.pass (Fr.pass (Fr.pass FR c) e) j) b1)) a4.2))))))))))))))))) (fun y=>sk_ (q_ J (m_ (x2 (r.2.2 y) fun _ _ b8=>b8.elim fun _ a5=>cX_ (sec H0 sen) a5.1 (Nat.lt_succ_of_lt hkp) k (fun _ c7 b2=>m_ (x_ J J (x_ J J (m_ (m_ (e_ (q_ J (m_ (s_build (f_cons J J (f_cons J J f_nil)) (m_ (so_ H4 ((b2.1 (d,0) (Nat.lt_succ_self d) (key_LP hkp)).trans ((j.1 (d,0) (Nat.lt_succ_self d) (key_LP hkp)).trans ((e.1 (d,0) (Nat.lt_succ_self d) (key_LP hkp)).trans ((c.1 (d,0) (Nat.lt_succ_self d) (key_LP hkp)).trans B0)))) J J J (m_ (er_ (hQ _ _ _ _ _ _ _ _ H4 lk_here J (lk_otherP hkp c7) (Fr.box (Fr.pass (Fr.pass (Fr.pass (Fr.pass FR c) e) j) b2)) a5.2))))))))))))))))))))))))))))))))))))))))))))))
include H0 H1 H4 H38 B0 BP FR in
theorem w107_7 (h:T107_7 prog K nest1 t38 m0 mP):W prog d c107_1 σ st (blockW 0 (thenW prog d (sR 25 r107_25 (sR 26 r107_26 .ret)) Q)):=
 cb_ H38 (fun c=>q_ J (s_build (f_cons J J (f_cons J J f_nil)) (so_ H4 B0 J J J (m_ (er_ (hQ _ _ _ _ _ _ _ _ H4 lk_here J (lk_otherP hkp BP) (Fr.box FR) (h.1 c))))))) (fun c=>q_ J (m_ ((h.2 c).elim fun _ j=>j.elim fun _ e=>cX_ (sec H0 (sec J sen)) e.1 (Nat.lt_succ_of_lt hkp) BP (fun _ k i=>m_ (e_ (w107_8 hQ hkp H0 H1 H4 J ((i.1 (d,0) (Nat.lt_succ_self d) (key_LP hkp)).trans B0) k (Fr.pass FR i) e.2))))))
include H0 H1 H4 H34 B0 BP FR in
theorem w107_6 (h:T107_6 prog K nest1 t34 m0 mP):W prog d c107_2 σ st (blockW 0 (thenW prog d (sR 25 r107_25 (sR 26 r107_26 .ret)) Q)):=
 cb_ H34 (fun c=>q_ J (s_build (f_cons J J (f_cons J J f_nil)) (so_ H4 B0 J J J (m_ (er_ (hQ _ _ _ _ _ _ _ _ H4 lk_here J (lk_otherP hkp BP) (Fr.box FR) (h.1 c))))))) (fun c=>q_ J (m_ ((h.2 c).elim fun _ j=>j.elim fun _ e=>cX_ (sec H0 (sec J sen)) e.1 (Nat.lt_succ_of_lt hkp) BP (fun _ k i=>m_ (e_ (w107_7 hQ hkp H0 H1 H4 J ((i.1 (d,0) (Nat.lt_succ_self d) (key_LP hkp)).trans B0) k (Fr.pass FR i) e.2))))))
include H0 H1 H4 H30 B0 BP FR in
theorem w107_5 (h:T107_5 prog K nest1 t30 m0 mP):W prog d c107_3 σ st (blockW 0 (thenW prog d (sR 25 r107_25 (sR 26 r107_26 .ret)) Q)):=
 cb_ H30 (fun c=>q_ J (s_build (f_cons J J f_nil) (so_ H4 B0 J J J (m_ (er_ (hQ _ _ _ _ _ _ _ _ H4 lk_here J (lk_otherP hkp BP) (Fr.box FR) (h.1 c))))))) (fun c=>q_ J (m_ ((h.2 c).elim fun _ j=>j.elim fun _ e=>cX_ (sec H0 (sec J sen)) e.1 (Nat.lt_succ_of_lt hkp) BP (fun _ k i=>m_ (e_ (w107_6 hQ hkp H0 H1 H4 J ((i.1 (d,0) (Nat.lt_succ_self d) (key_LP hkp)).trans B0) k (Fr.pass FR i) e.2))))))
include H0 H1 H4 H26 B0 BP FR in
theorem w107_4 (h:T107_4 prog K nest1 t26 m0 mP):W prog d c107_4 σ st (blockW 0 (thenW prog d (sR 25 r107_25 (sR 26 r107_26 .ret)) Q)):=
 cb_ H26 (fun c=>q_ J (s_build (f_cons J J f_nil) (so_ H4 B0 J J J (m_ (er_ (hQ _ _ _ _ _ _ _ _ H4 lk_here J (lk_otherP hkp BP) (Fr.box FR) (h.1 c))))))) (fun c=>q_ J (m_ ((h.2 c).elim fun _ j=>j.elim fun _ e=>cX_ (sec H0 (sec J sen)) e.1 (Nat.lt_succ_of_lt hkp) BP (fun _ k i=>m_ (e_ (w107_5 hQ hkp H0 H1 H4 J ((i.1 (d,0) (Nat.lt_succ_self d) (key_LP hkp)).trans B0) k (Fr.pass FR i) e.2))))))
include H0 H1 H4 H22 B0 BP FR in
theorem w107_3 (h:T107_3 prog K nest1 t22 m0 mP):W prog d c107_5 σ st (blockW 0 (thenW prog d (sR 25 r107_25 (sR 26 r107_26 .ret)) Q)):=
 cb_ H22 (fun c=>q_ J (s_build (f_cons J J (f_cons J J f_nil)) (so_ H4 B0 J J J (m_ (er_ (hQ _ _ _ _ _ _ _ _ H4 lk_here J (lk_otherP hkp BP) (Fr.box FR) (h.1 c))))))) (fun c=>q_ J (m_ ((h.2 c).elim fun _ j=>j.elim fun _ e=>cX_ (sec H0 (sec J sen)) e.1 (Nat.lt_succ_of_lt hkp) BP (fun _ k i=>m_ (e_ (w107_4 hQ hkp H0 H1 H4 J ((i.1 (d,0) (Nat.lt_succ_self d) (key_LP hkp)).trans B0) k (Fr.pass FR i) e.2))))))
include H0 H1 H4 B0 BP FR in
theorem w107_2 (h:T107_2 prog K nest1 m0 mP):W prog d c107_6 σ st Q:=
 sq_ (bk_ (q_ J (m_ (h.elim fun _ i=>i.elim fun _ c=>cX_ (sec H0 (sec J sen)) c.1 (Nat.lt_succ_of_lt hkp) BP (fun _ j e=>m_ (e_ (w107_3 hQ hkp H0 H1 H4 J ((e.1 (d,0) (Nat.lt_succ_self d) (key_LP hkp)).trans B0) j (Fr.pass FR e) c.2)))))))
include H0 H1 H4 B0 BP FR in
theorem w107_1 (h:T107_1 prog K nest1 m0 mP):W prog d c107_7 σ st Q:=
 sq_ (q_ J (s_mvI H1 (b_ J J eql_ (s_mvB J (em_ (g:=14) J (fun c=>z_ 6 J (e_ (ct_ J (q_ J (s_build f_nil (so_ H4 B0 J J J (m_ (er_ (hQ _ _ _ _ _ _ _ _ H4 lk_here J (lk_otherP hkp BP) (Fr.box FR) (h.1 c)))))))))) (fun c=>gy_ J (s_mv H0 (gy_ J (s_nilP J (gy_ J (f_ J (gy_ J (l_ J BP J J (gy_ J (b_ J J seq_ (pf_ J J (e_ (cs_ J (fun e=>q_ J (s_build f_nil (so_ H4 B0 J J J (m_ (er_ (hQ _ _ _ _ _ _ _ _ H4 lk_here J (lk_otherP hkp BP) (Fr.box FR) ((h.2 c).1 e))))))) (fun e=>sk_ (w107_2 hQ hkp H0 H1 H4 B0 BP FR ((h.2 c).2 e)))))))))))))))))))))
include H0 H1 BP FR in
theorem w107_0 (h:T107_0 prog K nest1 mP):W prog d (sR 0 r107_0 c107_7) σ st Q:=
 sq_ (W.reg (s_alloc (m_ (e_ (w107_1 (m0:=(Val.mk 0 0 [] ([]:List Val) false)) hQ hkp H0 H1 J (show lk _ (d,0)=some (_,([.i .u8 0,.i .i64 0,.s [],.sl .full (List.map Val.row ([]:List Val)),.b false]:List AV)) from lk_here) (lk_otherP hkp BP) (Fr.box FR) h)))))
end
theorem p107 {prog:Prog}(hf:prog.fn 107=some pf107){nest1:Int}{mP:Sc}{K:Val→Bool→Sc→Prop}(h:T107_0 prog K nest1 mP):PuXK prog 107 (Bx [.s mP.left]) [.i .i64 nest1] (fun r (b_:Sc)=>∃res0:Val,∃res1:Bool,(∃o_0:Own,r=.tup [res0.avo o_0,.b res1])∧K res0 res1 b_) (fun b_=>(Bx [.s b_.left])):=
  PuXK.of hf rfl (fun _=>Bx.out) fun d st kp vp hkp hB=>w107_0 (st0:=st) (Q:=fun e σ st'=>(e=.normal∨e=.ret)∧∃r b_,ares σ st' pf107.res=some r∧_∧_∧Fr d kp st.bx st.ow st'.bx st'.ow) (fun σ st' k0 v0 o_0 res0 res1 b_ H4 HB4 H5 hb hf hk=>⟨.inr rfl,.tup [res0.avo o_0,.b res1],b_,by simp only [pf107,ares,aresL,ares_cellA (n:=5) H4 HB4 rfl,H5,ares_tmp,Option.map_some,ares_cellA (n:=5) H4 HB4 rfl,H5],⟨res0,res1,⟨o_0,rfl⟩,hk⟩,hb,hf⟩) hkp (σ:=sl0 [.p kp vp 0,.i .i64 nest1]) rfl rfl hB Fr.refl h
def r74_0:List AI:=[oO 2 (.alloc [z8,z6,zs,zl,zb]),oI 3 0]
def r74_1:List AI:=[oM 9 0,oH 10 9,oV 11 .gtr 10 1400000]
def r74_2:List AI:=[oO 12 (.build [z8,z6,zs,zl,zb] []),oS 5 2 12,oI 3 4]
def r74_3:List AI:=[oM 13 0,oO 14 (.build [zs] [(0,1,(.t 13))]),oY 15 1 14,oM 4 15]
def r74_4:List AI:=[oM 17 4,oO 18 (.call true 107 [(.t 17),(.c (.i .i64 130))]),oM 16 18,oE 19 0 16,oE 20 1 16,oO 5 (.alloc [z8,z6,zs,zl,zb]),oS 5 5 19,oM 6 20]
def r74_5:List AI:=[oM 21 6,oZ 22 21,oM 23 22,gF 23 (oM 24 4),gF 23 (oN 25 24),gF 23 (oF 26 0 25),gF 23 (oL 27 26),gF 23 (oB 28 .neq (.t 27) (.c (.s []))),oR 29 23 28]
def r74_6:List AI:=[oO 30 (.build [z8,z6,zs,zl,zb] []),oS 5 2 30,oI 3 12]
def r74_7:List AI:=[oK 32 5 5,oQ 33 72 [32],oM 31 33,oE 34 0 31,oE 35 1 31,oM 7 34,oM 8 35]
def r74_8:List AI:=[oM 36 8,oV 37 .neq 36 0,oM 38 37,gF 38 (oM 39 7),gF 38 (oM 40 0),gF 38 (oT 41 .neq 39 40),oR 42 38 41]
def r74_9:List AI:=[oO 43 (.build [z8,z6,zs,zl,zb] []),oS 5 2 43,oI 3 12]
def r74_10:List AI:=[oK 44 5 5,oS 5 2 44,oI 3 0]
abbrev b74:AC:=(sR 0 r74_0 (.seq (sR 1 r74_1 (.cond (.t 11) (sR 2 r74_2 .ret) .skip)) (sR 3 r74_3 (sR 4 r74_4 (.seq (sR 5 r74_5 (.cond (.t 29) (sR 6 r74_6 .ret) .skip)) (.seq (sR 7 r74_7 (sR 8 r74_8 (.cond (.t 42) (sR 9 r74_9 .ret) .skip))) (sR 10 r74_10 .ret)))))))
def pf74:AF:={ nt:=45,res:=[.cell 2 5 true,.tmp 3],body:=b74 }
abbrev H74 (Q:AE→Sl→St→Prop)(K:Val→Int→Prop):Prop:=∀(σ:Sl)(st:St)(k0:Key)(v0:Nat)(o0_0:Own)(res0:Val)(res1:Int),σ 2=.p k0 v0 0→lk st.bx k0=some (v0,[.i .u8 res0.kind,.i .i64 res0.int,.s res0.text,.sl o0_0 (List.map Val.row res0.list),.b res0.cut])→σ 3=.i .i64 res1→K res0 res1→Q .ret σ st
def T74_0 (prog:Prog)(K:Val→Int→Prop)(s0:BS):Prop:=
  ((s0.length:Int)>1400000→K (Val.mk 0 0 [] ([]:List Val) false) 4)∧(¬((s0.length:Int)>1400000)→∃o:Val,∃e,∃c:Sc,PuX prog 107 (Bx [.s s0]) [.i .i64 130] (fun r=>∃o'4_0:Own,r=.tup [o.avo o'4_0,.b e]) ((Bx [.s c.left]))∧((!e)=true→K (Val.mk 0 0 [] ([]:List Val) false) 12)∧((!e)=false→(c.left≠([]:BS)→K (Val.mk 0 0 [] ([]:List Val) false) 12)∧(¬(c.left≠([]:BS))→∃j k,Pus prog 72 [o.av] (.tup [.s j,.i .i64 k])∧(k≠0→K (Val.mk 0 0 [] ([]:List Val) false) 12)∧(¬(k≠0)→(j≠s0→K (Val.mk 0 0 [] ([]:List Val) false) 12)∧(¬(j≠s0)→K o 0)))))
section
variable {prog:Prog}{d:Nat}{Q:AE→Sl→St→Prop}{K:Val→Int→Prop}(hQ:H74 Q K){σ:Sl}{st:St}
include hQ
variable {s0:BS}
variable (H0:σ 0=.s s0)
include H0 in
theorem w74_0 (h:T74_0 prog K s0):W prog d (sR 0 r74_0 (.seq (sR 1 r74_1 (.cond (.t 11) (sR 2 r74_2 .ret) .skip)) (sR 3 r74_3 (sR 4 r74_4 (.seq (sR 5 r74_5 (.cond (.t 29) (sR 6 r74_6 .ret) .skip)) (.seq (sR 7 r74_7 (sR 8 r74_8 (.cond (.t 42) (sR 9 r74_9 .ret) .skip))) (sR 10 r74_10 .ret))))))) σ st Q:=
 sq_ (W.reg (s_alloc (m_ (e_ (sq_ (q_ J (m_ (ln_ H0 (b_ J J gtr_ (e_ (cs_ J (fun p=>q_ J (s_build f_nil (so_ J (show lk _ (d,0)=some (_,([.i .u8 0,.i .i64 0,.s [],.sl .full (List.map Val.row ([]:List Val)),.b false]:List AV)) from lk_here) J J J (m_ (er_ (hQ _ _ _ _ _ _ _ J lk_here J (h.1 p))))))) (fun p=>sk_ (q_ J (m_ (s_build (f_cons H0 J f_nil) (s_box J J (m_ (e_ (sq_ (W.reg (m_ (x2 (h.2 p) fun _ _ u=>u.elim fun _ j=>s_callX1 (sec J (sec J sen)) j.1 (Nat.lt_succ_self d) (lk_other J lk_here) (fun o'4_0 _ v c=>m_ (x_ J J (x_ J J (s_alloc (so_ J ((c.1 (d,16389) (Nat.lt_succ_self d) (key_LL J)).trans (show lk _ (d,16389)=some (_,([.i .u8 0,.i .i64 0,.s [],.sl .full (List.map Val.row ([]:List Val)),.b false]:List AV)) from lk_here)) J J J (m_ (e_ (sq_ (q_ J (s_mvB J (nt_ J (s_mvB J (eb_ (g:=23) J (fun k=>z_ 6 J (e_ (ct_ J (q_ J (s_build f_nil (so_ J (lk_other J ((c.1 (d,0) (Nat.lt_succ_self d) (key_LL J)).trans (lk_other J (lk_other J (show lk _ (d,0)=some (_,([.i .u8 0,.i .i64 0,.s [],.sl .full (List.map Val.row ([]:List Val)),.b false]:List AV)) from lk_here))))) J J J (m_ (er_ (hQ _ _ _ _ _ _ _ J lk_here J (j.2.1 k)))))))))) (fun k=>gy_ J (s_mv J (gy_ J (s_nilP J (gy_ J (f_ J (gy_ J (l_ J (lk_other J v) J J (gy_ J (b_ J J sne_ (pf_ J J (e_ (cs_ J (fun q=>q_ J (s_build f_nil (so_ J (lk_other J ((c.1 (d,0) (Nat.lt_succ_self d) (key_LL J)).trans (lk_other J (lk_other J (show lk _ (d,0)=some (_,([.i .u8 0,.i .i64 0,.s [],.sl .full (List.map Val.row ([]:List Val)),.b false]:List AV)) from lk_here))))) J J J (m_ (er_ (hQ _ _ _ _ _ _ _ J lk_here J ((j.2.2 k).1 q))))))) (fun q=>sk_ (sq_ (q_ J (l_ J lk_here J J (x2 ((j.2.2 k).2 q) fun _ _ e=>ca_ (sc1 J J) e.1 (m_ (x_ J J (x_ J J (m_ (m_ (e_ (q_ J (s_mvI J (b_ J J neq_ (s_mvB J (em_ (g:=38) J (fun o=>z_ 4 J (e_ (ct_ J (q_ J (s_build f_nil (so_ J (lk_other J ((c.1 (d,0) (Nat.lt_succ_self d) (key_LL J)).trans (lk_other J (lk_other J (show lk _ (d,0)=some (_,([.i .u8 0,.i .i64 0,.s [],.sl .full (List.map Val.row ([]:List Val)),.b false]:List AV)) from lk_here))))) J J J (m_ (er_ (hQ _ _ _ _ _ _ _ J lk_here J (e.2.1 o)))))))))) (fun o=>gy_ J (s_mvS J (gy_ J (s_mvS H0 (gy_ J (b_ J J sne_ (pf_ J J (e_ (cs_ J (fun r=>q_ J (s_build f_nil (so_ J (lk_other J ((c.1 (d,0) (Nat.lt_succ_self d) (key_LL J)).trans (lk_other J (lk_other J (show lk _ (d,0)=some (_,([.i .u8 0,.i .i64 0,.s [],.sl .full (List.map Val.row ([]:List Val)),.b false]:List AV)) from lk_here))))) J J J (m_ (er_ (hQ _ _ _ _ _ _ _ J lk_here J ((e.2.2 o).1 r))))))) (fun r=>sk_ (q_ J (l_ J lk_here J J (so_ J (lk_other J ((c.1 (d,0) (Nat.lt_succ_self d) (key_LL J)).trans (lk_other J (lk_other J (show lk _ (d,0)=some (_,([.i .u8 0,.i .i64 0,.s [],.sl .full (List.map Val.row ([]:List Val)),.b false]:List AV)) from lk_here))))) J J J (m_ (er_ (hQ _ _ _ _ _ _ _ J lk_here J ((e.2.2 o).2 r)))))))))))))))))))))))))))))))))))))))))))))))))))))))))))))))))))))))))))))))))
end
theorem p74 {prog:Prog}(hf:prog.fn 74=some pf74){s0:BS}{K:Val→Int→Prop}(h:T74_0 prog K s0) :∃res0:Val,∃res1:Int,K res0 res1∧Pus prog 74 [.s s0] (.tup [res0.av,.i .i64 res1]):=by
  obtain ⟨v,hv,res0,res1,hk,rfl⟩:=Pus.of (K:=fun v=>∃res0:Val,∃res1:Int,K res0 res1∧v=.tup [res0.av,.i .i64 res1]) hf rfl (w74_0 (σ:=sl0 [.s s0]) (fun σ st k0 v0 o0_0 res0 res1 H2 HB2 H3 hk=>⟨.tup [res0.avo o0_0,.i .i64 res1],by simp only [pf74,ares,aresL,ares_cellA (n:=5) H2 HB2 rfl,H3,ares_tmp,Option.map_some],_,rfl,res0,res1,hk,rfl⟩) rfl h)
  exact ⟨res0,res1,hk,hv⟩
abbrev H75 (Q:AE→Sl→St→Prop)(K:Val→Int→Prop):Prop:=∀(σ:Sl)(st:St)(k0:Key)(v0:Nat)(o0_0:Own)(res0:Val)(res1:Int),σ 2=.p k0 v0 0→lk st.bx k0=some (v0,[.i .u8 res0.kind,.i .i64 res0.int,.s res0.text,.sl o0_0 (List.map Val.row res0.list),.b res0.cut])→σ 3=.i .i64 res1→K res0 res1→Q .ret σ st
section
variable {prog:Prog}{d:Nat}{Q:AE→Sl→St→Prop}{K:Val→Int→Prop}(hQ:H75 Q K){σ:Sl}{st:St}
include hQ
end
abbrev H108 (Q:AE→Sl→St→Prop)(K:Val→BS→Bool→Prop):Prop:=∀(σ:Sl)(st:St)(k0:Key)(v0:Nat)(o0_0:Own)(res0:Val)(res1:BS)(res2:Bool),σ 4=.p k0 v0 0→lk st.bx k0=some (v0,[.i .u8 res0.kind,.i .i64 res0.int,.s res0.text,.sl o0_0 (List.map Val.row res0.list),.b res0.cut])→σ 5=.s res1→σ 6=.b res2→K res0 res1 res2→Q .ret σ st
section
variable {prog:Prog}{d:Nat}{Q:AE→Sl→St→Prop}{K:Val→BS→Bool→Prop}(hQ:H108 Q K){σ:Sl}{st:St}
include hQ
end
abbrev H132 (Q:AE→Sl→St→Prop)(K:Bool→Prop):Prop:=∀(σ:Sl)(st:St)(res0:Bool),σ 4=.b res0→K res0→Q .ret σ st
section
variable {prog:Prog}{d:Nat}{Q:AE→Sl→St→Prop}{K:Bool→Prop}(hQ:H132 Q K){σ:Sl}{st:St}
include hQ
end
abbrev H133 (Q:AE→Sl→St→Prop)(K:Val→BS→Bool→Prop):Prop:=∀(σ:Sl)(st:St)(k0:Key)(v0:Nat)(o0_0:Own)(res0:Val)(res1:BS)(res2:Bool),σ 8=.p k0 v0 0→lk st.bx k0=some (v0,[.i .u8 res0.kind,.i .i64 res0.int,.s res0.text,.sl o0_0 (List.map Val.row res0.list),.b res0.cut])→σ 9=.s res1→σ 10=.b res2→K res0 res1 res2→Q .ret σ st
section
variable {prog:Prog}{d:Nat}{Q:AE→Sl→St→Prop}{K:Val→BS→Bool→Prop}(hQ:H133 Q K){σ:Sl}{st:St}
include hQ
end
abbrev H134 (Q:AE→Sl→St→Prop)(K:Int→Prop):Prop:=∀(σ:Sl)(st:St)(res0:Int),σ 2=.i .i64 res0→K res0→Q .ret σ st
section
variable {prog:Prog}{d:Nat}{Q:AE→Sl→St→Prop}{K:Int→Prop}(hQ:H134 Q K){σ:Sl}{st:St}
include hQ
end
abbrev H135 (Q:AE→Sl→St→Prop)(K:Int→Prop):Prop:=∀(σ:Sl)(st:St)(res0:Int),σ 2=.i .i64 res0→K res0→Q .ret σ st
section
variable {prog:Prog}{d:Nat}{Q:AE→Sl→St→Prop}{K:Int→Prop}(hQ:H135 Q K){σ:Sl}{st:St}
include hQ
end
def r78_0:List AI:=[oY 2 5 0,oY 3 5 1,oC 4 (.b false)]
def r78_1:List AI:=[oF 6 0 2,oL 7 6,oF 8 0 3,oL 9 8,oT 10 .neq 7 9,oM 11 10,gF 11 (oF 12 1 2),gF 11 (oL 13 12),gF 11 (oF 14 1 3),gF 11 (oL 15 14),gF 11 (oT 16 .neq 13 15),oR 17 11 16,oM 18 17,gF 18 (oF 19 2 2),gF 18 (oL 20 19),gF 18 (oF 21 2 3),gF 18 (oL 22 21),gF 18 (oT 23 .neq 20 22),oR 24 18 23,oM 25 24,gF 25 (oF 26 4 2),gF 25 (oL 27 26),gF 25 (oF 28 4 3),gF 25 (oL 29 28),gF 25 (oO 30 (.beq true (.t 27) (.t 29))),oR 31 25 30,oM 32 31,gF 32 (oF 33 3 2),gF 32 (oL 34 33),gF 32 (oJ 35 34),gF 32 (oF 36 3 3),gF 32 (oL 37 36),gF 32 (oJ 38 37),gF 32 (oT 39 .neq 35 38),oR 40 32 39]
def r78_2:List AI:=[oC 4 (.b false)]
def r78_3:List AI:=[oI 5 0]
def r78_4:List AI:=[oM 41 5,oF 42 3 2,oL 43 42,oJ 44 43,oT 45 .lss 41 44]
def r78_5:List AI:=[oF 48 3 2,oL 49 48,oM 50 5,oX 51 5 49 50,oK 52 5 51,oF 53 3 3,oL 54 53,oM 55 5,oX 56 5 54 55,oK 57 5 56,oQ 58 78 [52,57],oZ 59 58]
def r78_6:List AI:=[oC 4 (.b false)]
def r78_7:List AI:=[oM 46 5,oV 47 .add 46 1,oM 5 47]
def r78_8:List AI:=[oC 4 (.b true)]
abbrev l78_0:AC:=(.seq (sR 4 r78_4 (.cond (.t 45) .skip (.exit 0))) (.seq (.block 1 (sR 6 r78_5 (.cond (.t 59) (sR 7 r78_6 .ret) .skip))) (.reg 5 r78_7)))
abbrev c78_1:AC:=(sR 8 r78_8 .ret)
abbrev b78:AC:=(sR 0 r78_0 (.seq (sR 1 r78_1 (.cond (.t 40) (sR 2 r78_2 .ret) .skip)) (.seq (sR 3 r78_3 (.block 0 (.loop l78_0))) c78_1)))
def pf78:AF:={ nt:=60,res:=[.tmp 4],body:=b78 }
abbrev I78_0 (prog:Prog)(d:Nat)(Q:AE→Sl→St→Prop)(i5:Int)(m0:Val)(m1:Val):Prop:=
  ∀(σ:Sl)(st:St) (v0 v1:Nat),σ 2=.p (d,0) v0 0→σ 3=.p (d,1) v1 0→σ 5=.i .i64 i5→lk st.bx (d,0)=some (v0,Val.cs m0)→lk st.bx (d,1)=some (v1,Val.cs m1)→W prog d (.loop l78_0) σ st (blockW 0 (thenW prog d c78_1 Q))
def T78_2 (prog:Prog)(K:Bool→Prop) :Prop:=
  K true
def T78_1 (prog:Prog)(K:Bool→Prop)(P0:Int→Val→Val→Prop)(i5:Int)(m0:Val)(m1:Val):Prop:=
  (i5<(m0.list.length:Int)→0≤i5∧∃e:Val,m0.list[(i5).toNat]?=some e∧0≤i5∧∃i:Val,m1.list[(i5).toNat]?=some i∧∃c,Pus prog 78 [e.av,i.av] (.b c)∧((!c)=true→K false)∧((!c)=false→P0 (IntKind.i64.wrap (i5+1)) m0 m1))∧(¬(i5<(m0.list.length:Int))→T78_2 prog K )
def T78_0 (prog:Prog)(K:Bool→Prop)(a0:Val)(b1:Val):Prop:=
  (a0.kind≠b1.kind→K false)∧(¬(a0.kind≠b1.kind)→(a0.int≠b1.int→K false)∧(¬(a0.int≠b1.int)→(a0.text≠b1.text→K false)∧(¬(a0.text≠b1.text)→(a0.cut≠b1.cut→K false)∧(¬(a0.cut≠b1.cut)→((a0.list.length:Int)≠(b1.list.length:Int)→K false)∧(¬((a0.list.length:Int)≠(b1.list.length:Int))→∀P0:Int→Val→Val→Prop,(∀(i5:Int)(m0:Val)(m1:Val),T78_1 prog K P0 i5 m0 m1→P0 i5 m0 m1)→P0 0 a0 b1)))))
section
variable {prog:Prog}{d:Nat}{Q:AE→Sl→St→Prop}{K:Bool→Prop}(hQ:H1 AV.b 4 Q K){σ:Sl}{st:St}
include hQ
variable {i5:Int}{m0 m1:Val}{P0:Int→Val→Val→Prop}{v0 v1:Nat}{a0 b1:Val}
variable (kP0 :∀(i5:Int)(m0:Val)(m1:Val),P0 i5 m0 m1→I78_0 prog d Q i5 m0 m1)(H0:σ 0=a0.av)(H2:σ 2=.p (d,0) v0 0)(H1:σ 1=b1.av)(H3:σ 3=.p (d,1) v1 0)(H5:σ 5=.i .i64 i5)(B0:lk st.bx (d,0)=some (v0,Val.cs m0))(B1:lk st.bx (d,1)=some (v1,Val.cs m1))
theorem w78_2 (h:T78_2 prog K ):W prog d c78_1 σ st Q:=
 q_ J (m_ (er_ (hQ J h)))
include kP0 H2 H3 H5 B0 B1 in
theorem w78_1 (h:T78_1 prog K P0 i5 m0 m1):W prog d l78_0 σ st (thenW prog d (.loop l78_0) (blockW 0 (thenW prog d c78_1 Q))):=
 sq_ (q_ J (m_ (f_ H2 (l_ J B0 J J (ll_ J (b_ H5 J lss_ (e_ (cs_ J (fun c=>sk_ (sq_ (bk_ (q_ J (f_ H2 (l_ J B0 J J (m_ ((h.1 c).2.elim fun o e=>ia_ J H5 (h.1 c).1 e.1 (Val.row_eq o) J (lf_ J J J (f_ H3 (l_ J B1 J J (m_ (e.2.2.elim fun p k=>ia_ J H5 e.2.1 k.1 (Val.row_eq p) J (lf_ J J J (k.2.elim fun _ i=>ca_ (sc2 J J J) i.1 (nt_ J (e_ (cb_ J (fun j=>q_ J (m_ (er_ (hQ J (i.2.1 j))))) (fun j=>sk_ (W.reg0 J fun _ _=>m_ (b_ H5 J add_ (m_ (e_ (kP0 _ _ _ (i.2.2 j) _ _ _ _ H2 H3 J B0 B1)))))))))))))))))))))))) (fun c=>ex_ (w78_2 hQ (h.2 c)))))))))))
include H0 H1 in
theorem w78_0 (h:T78_0 prog K a0 b1):W prog d (sR 0 r78_0 (.seq (sR 1 r78_1 (.cond (.t 40) (sR 2 r78_2 .ret) .skip)) (.seq (sR 3 r78_3 (.block 0 (.loop l78_0))) c78_1))) σ st Q:=
 q_ J (s_box H0 J (s_box H1 J (m_ (e_ (sq_ (q_ J (f_ J (l_ J (lk_other J lk_here) J J (f_ J (l_ J lk_here J J (b_ J J neq_ (s_mvB J (em_ (g:=11) J (fun c=>z_ 29 J (e_ (ct_ J (q_ J (m_ (er_ (hQ J (h.1 c)))))))) (fun c=>gy_ J (f_ J (gy_ J (l_ J (lk_other J lk_here) J J (gy_ J (f_ J (gy_ J (l_ J lk_here J J (gy_ J (b_ J J neq_ (z_ 2 J (em_ (g:=18) J (fun e=>z_ 22 J (e_ (ct_ J (q_ J (m_ (er_ (hQ J ((h.2 c).1 e)))))))) (fun e=>gy_ J (f_ J (gy_ J (l_ J (lk_other J lk_here) J J (gy_ J (f_ J (gy_ J (l_ J lk_here J J (gy_ J (b_ J J sne_ (z_ 2 J (em_ (g:=25) J (fun i=>z_ 15 J (e_ (ct_ J (q_ J (m_ (er_ (hQ J (((h.2 c).2 e).1 i)))))))) (fun i=>gy_ J (f_ J (gy_ J (l_ J (lk_other J lk_here) J J (gy_ J (f_ J (gy_ J (l_ J lk_here J J (gy_ J (s_bne J J (z_ 2 J (em_ (g:=32) J (fun j=>z_ 8 J (e_ (ct_ J (q_ J (m_ (er_ (hQ J ((((h.2 c).2 e).2 i).1 j)))))))) (fun j=>gy_ J (f_ J (gy_ J (l_ J (lk_other J lk_here) J J (gy_ J (ll_ J (gy_ J (f_ J (gy_ J (l_ J lk_here J J (gy_ J (ll_ J (gy_ J (b_ J J neq_ (pf_ J J (e_ (cs_ J (fun k=>q_ J (m_ (er_ (hQ J (((((h.2 c).2 e).2 i).2 j).1 k))))) (fun k=>sk_ (sq_ (q_ J (m_ (e_ (bk_ ((((((h.2 c).2 e).2 i).2 j).2 k) (I78_0 prog d Q ) (fun _ _ _ hb _ _ _ _ H2 H3 H5 B0 B1=>W.loop (w78_1 hQ (fun _ _ _ x=>x) H2 H3 H5 B0 B1 hb)) _ _ _ _ J J J (lk_other J lk_here) lk_here)))))))))))))))))))))))))))))))))))))))))))))))))))))))))))))))))))))))))
end
theorem p78 {prog:Prog}(hf:prog.fn 78=some pf78){a0:Val}{b1:Val}{K:Bool→Prop}(h:T78_0 prog K a0 b1) :∃res0:Bool,K res0∧Pus prog 78 [a0.av,b1.av] (.b res0):=
 P1 hf J (w78_0 (h1 J fun _=>J) J J h)
end Go.AM

namespace Go.AM
open Go
set_option maxRecDepth 4000
attribute [local irreducible] WO fillCells fillRows
def r130_0:List AI:=[oC 2 (.s []),oC 3 (.b false)]
def r130_1:List AI:=[oI 4 1]
def r130_2:List AI:=[oM 8 4,oM 9 0,oN 10 9,oF 11 0 10,oL 12 11,oH 13 12,oT 14 .geq 8 13,oM 7 14]
def r130_3:List AI:=[oC 2 (.s []),oC 3 (.b false)]
def r130_4:List AI:=[oM 16 0,oN 17 16,oF 18 0 17,oL 19 18,oM 20 4,oO 21 (.ixS (.t 19) (.t 20)),oW 22 .eql 21 92,oM 15 22]
def r130_5:List AI:=[oM 23 4,oV 24 .add 23 2,oM 4 24]
def r130_6:List AI:=[oM 26 0,oN 27 26,oF 28 0 27,oL 29 28,oM 30 4,oO 31 (.ixS (.t 29) (.t 30)),oW 32 .neq 31 34,oM 25 32]
def r130_7:List AI:=[oM 33 4,oV 34 .add 33 1,oM 4 34]
def r130_8:List AI:=[oM 36 0,oN 37 36,oF 38 0 37,oL 39 38,oM 40 4,oV 41 .add 40 1,oO 42 (.slS (.t 39) none (some (.t 41))),oQ 43 25 [42],oM 35 43,oE 44 0 35,oE 45 1 35,oM 5 44,oM 6 45]
def r130_9:List AI:=[oM 46 0,oM 47 0,oN 48 47,oF 49 0 48,oL 50 49,oM 51 4,oV 52 .add 51 1,oO 53 (.slS (.t 50) (some (.t 52)) none),oN 54 46,oF 55 0 54,oS 1 55 53]
def r130_10:List AI:=[oM 56 5,oM 57 6,oV 58 .eql 57 0,oM 2 56,oM 3 58]
abbrev l130_0:AC:=(.seq (.block 0 (sR 2 r130_2 (.cond (.t 7) (sR 3 r130_3 .ret) (sR 4 r130_4 (.cond (.t 15) (sR 5 r130_5 (.goto 0)) (sR 6 r130_6 (.cond (.t 25) (sR 7 r130_7 (.goto 0)) .skip))))))) (sR 8 r130_8 (sR 9 r130_9 (sR 10 r130_10 .ret))))
abbrev c130_1:AC:=(.gscope 0 (.reg 1 r130_1) l130_0)
abbrev b130:AC:=(sR 0 r130_0 c130_1)
def pf130:AF:={ nt:=59,res:=[.tmp 2,.tmp 3],body:=b130 }
abbrev H130 (d:Nat)(st0:St)(kp:Key)(vp:Nat)(Q:AE→Sl→St→Prop)(K:BS→Bool→Sc→Prop):Prop:=∀(σ:Sl)(st:St)(res0:BS)(res1:Bool)(b_:Sc),σ 2=.s res0→σ 3=.b res1→lk st.bx kp=some (vp,[.s b_.left])→Fr d kp st0.bx st0.ow st.bx st.ow→K res0 res1 b_→Q .ret σ st
abbrev I130_0 (prog:Prog)(d:Nat)(Q:AE→Sl→St→Prop)(st0:St)(kp:Key)(vp:Nat)(n4:Int)(mP:Sc):Prop:=
  ∀(σ:Sl)(st:St),σ 0=.p kp vp 0→σ 4=.i .i64 n4→lk st.bx kp=some (vp,[.s mP.left])→Fr d kp st0.bx st0.ow st.bx st.ow→WG prog d 0 l130_0 σ st Q
def T130_2 (prog:Prog)(K:BS→Bool→Sc→Prop)(P0:Int→Sc→Prop)(n4:Int)(mP:Sc):Prop:=
  (n4≥(mP.left.length:Int)→K ([]:BS) false mP)∧(¬(n4≥(mP.left.length:Int))→0≤n4∧∃c:UInt8,mP.left[(n4).toNat]?=some c∧((c.toNat:Int)=92→P0 (IntKind.i64.wrap (n4+2)) mP)∧(¬((c.toNat:Int)=92)→0≤n4∧∃e:UInt8,mP.left[(n4).toNat]?=some e∧((e.toNat:Int)≠34→P0 (IntKind.i64.wrap (n4+1)) mP)∧(¬((e.toNat:Int)≠34)→0≤(IntKind.i64.wrap (n4+1))∧(IntKind.i64.wrap (n4+1)).toNat≤mP.left.length∧∃j k,Pus prog 25 [.s (mP.left.take (IntKind.i64.wrap (n4+1)).toNat)] (.tup [.s j,.i .i64 k])∧0≤(IntKind.i64.wrap (n4+1))∧(IntKind.i64.wrap (n4+1)).toNat≤mP.left.length∧K j (decide (k=0)) (Sc.mk (mP.left.drop (IntKind.i64.wrap (n4+1)).toNat)))))
def T130_1 (prog:Prog)(K:BS→Bool→Sc→Prop)(mP:Sc):Prop:=
  ∀P0:Int→Sc→Prop,(∀(n4:Int)(mP:Sc),T130_2 prog K P0 n4 mP→P0 n4 mP)→P0 1 mP
def T130_0 (prog:Prog)(K:BS→Bool→Sc→Prop)(mP:Sc):Prop:=
  T130_1 prog K mP
section
variable {prog:Prog}{d:Nat}{Q:AE→Sl→St→Prop}{K:BS→Bool→Sc→Prop}{st0:St}{kp:Key}{vp:Nat}(hQ:H130 d st0 kp vp Q K)(hkp:kp.1<d){σ:Sl}{st:St}
include hQ hkp
variable {n4:Int}{mP:Sc}{P0:Int→Sc→Prop}
variable (kP0 :∀(n4:Int)(mP:Sc),P0 n4 mP→I130_0 prog d Q st0 kp vp n4 mP)(H0:σ 0=.p kp vp 0)(H4:σ 4=.i .i64 n4)(BP:lk st.bx kp=some (vp,[.s mP.left]))(FR:Fr d kp st0.bx st0.ow st.bx st.ow)
include kP0 H0 H4 BP FR in
theorem w130_2 (h:T130_2 prog K P0 n4 mP):W prog d l130_0 σ st (jumpW prog d 0 l130_0 Q):=
 sq_ (bk_ (q_ J (m_ (m_ (s_nilP H0 (f_ J (l_ J BP J J (ln_ J (b_ H4 J geq_ (m_ (e_ (cs_ J (fun k=>q_ J (m_ (m_ (er_ (hQ _ _ _ _ _ J J BP FR (h.1 k)))))) (fun k=>q_ J (m_ (s_nilP H0 (f_ J (l_ J BP J J (m_ ((h.2 k).2.elim fun _ j=>s_ixS J H4 (h.2 k).1 j.1 (b_ J J eql_ (m_ (e_ (cs_ J (fun o=>q_ J (m_ (b_ H4 J add_ (m_ (e_ (W.goto ⟨rfl,kP0 _ _ (j.2.1 o) _ _ H0 J BP FR⟩)))))) (fun o=>q_ J (m_ (s_nilP H0 (f_ J (l_ J BP J J (m_ ((j.2.2 o).2.elim fun _ c=>s_ixS J H4 (j.2.2 o).1 c.1 (b_ J J neq_ (m_ (e_ (cs_ J (fun e=>q_ J (m_ (b_ H4 J add_ (m_ (e_ (W.goto ⟨rfl,kP0 _ _ (c.2.1 e) _ _ H0 J BP FR⟩)))))) (fun e=>sk_ (q_ J (m_ (s_nilP H0 (f_ J (l_ J BP J J (m_ (b_ H4 J add_ (s_slS_hi J J (c.2.2 e).1 (c.2.2 e).2.1 (x2 (c.2.2 e).2.2 fun _ _ i=>ca_ (sc1 J J) i.1 (m_ (x_ J J (x_ J J (m_ (m_ (e_ (q_ J (m_ (m_ (s_nilP H0 (f_ J (l_ J BP J J (m_ (b_ H4 J add_ (s_slS_lo J J i.2.1 i.2.2.1 (s_nilP H0 (f_ J (so_ J BP J J J (e_ (q_ J (m_ (m_ (b_ J J eql_ (m_ (m_ (er_ (hQ _ _ _ _ _ J J lk_here (Fr.own FR) i.2.2.2)))))))))))))))))))))))))))))))))))))))))))))))))))))))))))))))))))))))
include H0 BP FR in
theorem w130_1 (h:T130_1 prog K mP):W prog d c130_1 σ st Q:=
 W.gscope' (W.reg0 J fun _ _=>m_ (e_ (h (I130_0 prog d Q st0 kp vp ) (fun _ _ hb _ _ H0 H4 BP FR=>WG.step (w130_2 hQ hkp (fun _ _ x=>x) H0 H4 BP FR hb)) _ _ H0 J BP FR)))
include H0 BP FR in
theorem w130_0 (h:T130_0 prog K mP):W prog d (sR 0 r130_0 c130_1) σ st Q:=
 q_ J (m_ (m_ (e_ (w130_1 hQ hkp H0 BP FR h))))
end
theorem p130 {prog:Prog}(hf:prog.fn 130=some pf130){mP:Sc}{K:BS→Bool→Sc→Prop}(h:T130_0 prog K mP):PuXK prog 130 (Bx [.s mP.left]) [] (fun r (b_:Sc)=>∃res0:BS,∃res1:Bool,(r=.tup [.s res0,.b res1])∧K res0 res1 b_) (fun b_=>(Bx [.s b_.left])):=
  PuXK.of hf rfl (fun _=>Bx.out) fun d st kp vp hkp hB=>w130_0 (st0:=st) (Q:=fun e σ st'=>(e=.normal∨e=.ret)∧∃r b_,ares σ st' pf130.res=some r∧_∧_∧Fr d kp st.bx st.ow st'.bx st'.ow) (fun σ st'   res0 res1 b_ H2 H3 hb hf hk=>⟨.inr rfl,.tup [.s res0,.b res1],b_,by simp only [pf130,ares,aresL,H2,H3,ares1,Option.map_some,H2,H3],⟨res0,res1,rfl,hk⟩,hb,hf⟩) hkp (σ:=sl0 [.p kp vp 0]) rfl hB Fr.refl h
def r131_0:List AI:=[oI 2 0,oC 3 (.b false)]
def r131_1:List AI:=[oI 4 0]
def r131_2:List AI:=[oM 7 4,oM 8 0,oN 9 8,oF 10 0 9,oL 11 10,oH 12 11,oT 13 .lss 7 12,oM 14 13,gT 14 (oM 15 0),gT 14 (oN 16 15),gT 14 (oF 17 0 16),gT 14 (oL 18 17),gT 14 (oM 19 4),gT 14 (oO 20 (.ixS (.t 18) (.t 19))),gT 14 (oW 21 .geq 20 48),gT 14 (oM 22 21),gT 22 (oM 23 0),gT 22 (oN 24 23),gT 22 (oF 25 0 24),gT 22 (oL 26 25),gT 22 (oM 27 4),gT 22 (oO 28 (.ixS (.t 26) (.t 27))),gT 22 (oW 29 .leq 28 57),gT 14 (oA 30 22 29),gT 14 (oM 31 30),gF 31 (oM 32 4),gF 31 (oV 33 .eql 32 0),gF 31 (oM 34 33),gT 34 (oM 35 0),gT 34 (oN 36 35),gT 34 (oF 37 0 36),gT 34 (oL 38 37),gT 34 (oM 39 4),gT 34 (oO 40 (.ixS (.t 38) (.t 39))),gT 34 (oW 41 .eql 40 45),gF 31 (oA 42 34 41),gT 14 (oR 43 31 42),oA 44 14 43]
def r131_3:List AI:=[oM 45 4,oV 46 .add 45 1,oM 4 46]
def r131_4:List AI:=[oM 48 0,oN 49 48,oF 50 0 49,oL 51 50,oM 52 4,oO 53 (.slS (.t 51) none (some (.t 52))),oQ 54 21 [53],oM 47 54,oE 55 0 47,oE 56 1 47,oM 5 55,oM 6 56]
def r131_5:List AI:=[oM 57 0,oM 58 0,oN 59 58,oF 60 0 59,oL 61 60,oM 62 4,oO 63 (.slS (.t 61) (some (.t 62)) none),oN 64 57,oF 65 0 64,oS 1 65 63]
def r131_6:List AI:=[oM 66 5,oM 67 6,oV 68 .eql 67 0,oM 2 66,oM 3 68]
abbrev l131_0:AC:=(.seq (sR 2 r131_2 (.cond (.t 44) (sR 3 r131_3 (.goto 0)) .skip)) (sR 4 r131_4 (sR 5 r131_5 (sR 6 r131_6 .ret))))
abbrev c131_1:AC:=(.gscope 0 (.reg 1 r131_1) l131_0)
abbrev b131:AC:=(sR 0 r131_0 c131_1)
def pf131:AF:={ nt:=69,res:=[.tmp 2,.tmp 3],body:=b131 }
abbrev H131 (d:Nat)(st0:St)(kp:Key)(vp:Nat)(Q:AE→Sl→St→Prop)(K:Int→Bool→Sc→Prop):Prop:=∀(σ:Sl)(st:St)(res0:Int)(res1:Bool)(b_:Sc),σ 2=.i .i64 res0→σ 3=.b res1→lk st.bx kp=some (vp,[.s b_.left])→Fr d kp st0.bx st0.ow st.bx st.ow→K res0 res1 b_→Q .ret σ st
abbrev I131_0 (prog:Prog)(d:Nat)(Q:AE→Sl→St→Prop)(st0:St)(kp:Key)(vp:Nat)(n4:Int)(mP:Sc):Prop:=
  ∀(σ:Sl)(st:St),σ 0=.p kp vp 0→σ 4=.i .i64 n4→lk st.bx kp=some (vp,[.s mP.left])→Fr d kp st0.bx st0.ow st.bx st.ow→WG prog d 0 l131_0 σ st Q
def T131_2 (prog:Prog)(K:Int→Bool→Sc→Prop)(P0:Int→Sc→Prop)(n4:Int)(mP:Sc):Prop:=
  (n4<(mP.left.length:Int)→0≤n4∧∃c:UInt8,mP.left[(n4).toNat]?=some c∧((c.toNat:Int)≥48→0≤n4∧∃j:UInt8,mP.left[(n4).toNat]?=some j∧((j.toNat:Int)≤57→P0 (IntKind.i64.wrap (n4+1)) mP)∧(¬((j.toNat:Int)≤57)→(n4=0→0≤n4∧∃e:UInt8,mP.left[(n4).toNat]?=some e∧((e.toNat:Int)=45→P0 (IntKind.i64.wrap (n4+1)) mP)∧(¬((e.toNat:Int)=45)→0≤n4∧(n4).toNat≤mP.left.length∧∃r w,Pus prog 21 [.s (mP.left.take (n4).toNat)] (.tup [.i .i64 r,.i .i64 w])∧0≤n4∧(n4).toNat≤mP.left.length∧K r (decide (w=0)) (Sc.mk (mP.left.drop (n4).toNat))))∧(¬(n4=0)→0≤n4∧(n4).toNat≤mP.left.length∧∃q u,Pus prog 21 [.s (mP.left.take (n4).toNat)] (.tup [.i .i64 q,.i .i64 u])∧0≤n4∧(n4).toNat≤mP.left.length∧K q (decide (u=0)) (Sc.mk (mP.left.drop (n4).toNat)))))∧(¬((c.toNat:Int)≥48)→(n4=0→0≤n4∧∃k:UInt8,mP.left[(n4).toNat]?=some k∧((k.toNat:Int)=45→P0 (IntKind.i64.wrap (n4+1)) mP)∧(¬((k.toNat:Int)=45)→0≤n4∧(n4).toNat≤mP.left.length∧∃x y,Pus prog 21 [.s (mP.left.take (n4).toNat)] (.tup [.i .i64 x,.i .i64 y])∧0≤n4∧(n4).toNat≤mP.left.length∧K x (decide (y=0)) (Sc.mk (mP.left.drop (n4).toNat))))∧(¬(n4=0)→0≤n4∧(n4).toNat≤mP.left.length∧∃p o,Pus prog 21 [.s (mP.left.take (n4).toNat)] (.tup [.i .i64 p,.i .i64 o])∧0≤n4∧(n4).toNat≤mP.left.length∧K p (decide (o=0)) (Sc.mk (mP.left.drop (n4).toNat)))))∧(¬(n4<(mP.left.length:Int))→0≤n4∧(n4).toNat≤mP.left.length∧∃z v,Pus prog 21 [.s (mP.left.take (n4).toNat)] (.tup [.i .i64 z,.i .i64 v])∧0≤n4∧(n4).toNat≤mP.left.length∧K z (decide (v=0)) (Sc.mk (mP.left.drop (n4).toNat)))
def T131_1 (prog:Prog)(K:Int→Bool→Sc→Prop)(mP:Sc):Prop:=
  ∀P0:Int→Sc→Prop,(∀(n4:Int)(mP:Sc),T131_2 prog K P0 n4 mP→P0 n4 mP)→P0 0 mP
def T131_0 (prog:Prog)(K:Int→Bool→Sc→Prop)(mP:Sc):Prop:=
  T131_1 prog K mP
section
variable {prog:Prog}{d:Nat}{Q:AE→Sl→St→Prop}{K:Int→Bool→Sc→Prop}{st0:St}{kp:Key}{vp:Nat}(hQ:H131 d st0 kp vp Q K)(hkp:kp.1<d){σ:Sl}{st:St}
include hQ hkp
variable {n4:Int}{mP:Sc}{P0:Int→Sc→Prop}
variable (kP0 :∀(n4:Int)(mP:Sc),P0 n4 mP→I131_0 prog d Q st0 kp vp n4 mP)(H0:σ 0=.p kp vp 0)(H4:σ 4=.i .i64 n4)(BP:lk st.bx kp=some (vp,[.s mP.left]))(FR:Fr d kp st0.bx st0.ow st.bx st.ow)
include kP0 H0 H4 BP FR in
theorem w131_2 (h:T131_2 prog K P0 n4 mP):W prog d l131_0 σ st (jumpW prog d 0 l131_0 Q):=
 sq_ (q_ J (s_mvI H4 (s_mv H0 (s_nilP J (f_ J (l_ J BP J J (ln_ J (b_ J J lss_ (s_mvB J (em_ (g:=14) J (fun k=>gy_ J (s_mv H0 (gy_ J (s_nilP J (gy_ J (f_ J (gy_ J (l_ J BP J J (gy_ J (s_mvI H4 (gy_ J ((h.1 k).2.elim fun _ c=>s_ixS J J (h.1 k).1 c.1 (gy_ J (b_ J J geq_ (gy_ J (s_mvB J (em_ (g:=22) J (fun e=>gy_ J (s_mv H0 (gy_ J (s_nilP J (gy_ J (f_ J (gy_ J (l_ J BP J J (gy_ J (s_mvI H4 (gy_ J ((c.2.1 e).2.elim fun _ i=>s_ixS J J (c.2.1 e).1 i.1 (gy_ J (b_ J J leq_ (gy_ J (pt_ J J (gy_ J (s_mvB J (em_ (g:=31) J (fun j=>z_ 3 J (gt_ J (gt_ J (gt_ J (gt_ J (gt_ J (gt_ J (gt_ J (nT J (gy_ J (z_ 2 J (e_ (ct_ J (q_ J (m_ (b_ H4 J add_ (m_ (e_ (W.goto ⟨rfl,kP0 _ _ (i.2.1 j) _ _ H0 J BP FR⟩))))))))))))))))))) (fun j=>gy_ J (s_mvI H4 (gy_ J (b_ J J eql_ (gy_ J (s_mvB J (em_ (g:=34) J (fun p=>gy_ J (s_mv H0 (gy_ J (s_nilP J (gy_ J (f_ J (gy_ J (l_ J BP J J (gy_ J (s_mvI H4 (gy_ J (((i.2.2 j).1 p).2.elim fun _ q=>s_ixS J J ((i.2.2 j).1 p).1 q.1 (gy_ J (b_ J J eql_ (gy_ J (pt_ J J (gy_ J (z_ 2 J (e_ (cs_ J (fun s=>q_ J (m_ (b_ H4 J add_ (m_ (e_ (W.goto ⟨rfl,kP0 _ _ (q.2.1 s) _ _ H0 J BP FR⟩)))))) (fun s=>sk_ (q_ J (m_ (s_nilP H0 (f_ J (l_ J BP J J (m_ (s_slS_hi J H4 (q.2.2 s).1 (q.2.2 s).2.1 (x2 (q.2.2 s).2.2 fun _ _ v=>ca_ (sc1 J J) v.1 (m_ (x_ J J (x_ J J (m_ (m_ (e_ (q_ J (m_ (m_ (s_nilP H0 (f_ J (l_ J BP J J (m_ (s_slS_lo J H4 v.2.1 v.2.2.1 (s_nilP H0 (f_ J (so_ J BP J J J (e_ (q_ J (m_ (m_ (b_ J J eql_ (m_ (m_ (er_ (hQ _ _ _ _ _ J J lk_here (Fr.own FR) v.2.2.2))))))))))))))))))))))))))))))))))))))))))))))))))))))) (fun p=>z_ 7 J (gy_ J (pf_ J J (gy_ J (z_ 2 J (e_ (cf_ J (sk_ (q_ J (m_ (s_nilP H0 (f_ J (l_ J BP J J (m_ (s_slS_hi J H4 ((i.2.2 j).2 p).1 ((i.2.2 j).2 p).2.1 (x2 ((i.2.2 j).2 p).2.2 fun _ _ w=>ca_ (sc1 J J) w.1 (m_ (x_ J J (x_ J J (m_ (m_ (e_ (q_ J (m_ (m_ (s_nilP H0 (f_ J (l_ J BP J J (m_ (s_slS_lo J H4 w.2.1 w.2.2.1 (s_nilP H0 (f_ J (so_ J BP J J J (e_ (q_ J (m_ (m_ (b_ J J eql_ (m_ (m_ (er_ (hQ _ _ _ _ _ J J lk_here (Fr.own FR) w.2.2.2)))))))))))))))))))))))))))))))))))))))))))))))))))))))))))))))))))) (fun e=>z_ 7 J (gy_ J (pf_ J J (gy_ J (s_mvB J (gy_ J (s_mvI H4 (gy_ J (b_ J J eql_ (gy_ J (s_mvB J (em_ (g:=34) J (fun o=>gy_ J (s_mv H0 (gy_ J (s_nilP J (gy_ J (f_ J (gy_ J (l_ J BP J J (gy_ J (s_mvI H4 (gy_ J (((c.2.2 e).1 o).2.elim fun _ r=>s_ixS J J ((c.2.2 e).1 o).1 r.1 (gy_ J (b_ J J eql_ (gy_ J (pt_ J J (gy_ J (z_ 2 J (e_ (cs_ J (fun u=>q_ J (m_ (b_ H4 J add_ (m_ (e_ (W.goto ⟨rfl,kP0 _ _ (r.2.1 u) _ _ H0 J BP FR⟩)))))) (fun u=>sk_ (q_ J (m_ (s_nilP H0 (f_ J (l_ J BP J J (m_ (s_slS_hi J H4 (r.2.2 u).1 (r.2.2 u).2.1 (x2 (r.2.2 u).2.2 fun _ _ x=>ca_ (sc1 J J) x.1 (m_ (x_ J J (x_ J J (m_ (m_ (e_ (q_ J (m_ (m_ (s_nilP H0 (f_ J (l_ J BP J J (m_ (s_slS_lo J H4 x.2.1 x.2.2.1 (s_nilP H0 (f_ J (so_ J BP J J J (e_ (q_ J (m_ (m_ (b_ J J eql_ (m_ (m_ (er_ (hQ _ _ _ _ _ J J lk_here (Fr.own FR) x.2.2.2))))))))))))))))))))))))))))))))))))))))))))))))))))))) (fun o=>z_ 7 J (gy_ J (pf_ J J (gy_ J (z_ 2 J (e_ (cf_ J (sk_ (q_ J (m_ (s_nilP H0 (f_ J (l_ J BP J J (m_ (s_slS_hi J H4 ((c.2.2 e).2 o).1 ((c.2.2 e).2 o).2.1 (x2 ((c.2.2 e).2 o).2.2 fun _ _ y=>ca_ (sc1 J J) y.1 (m_ (x_ J J (x_ J J (m_ (m_ (e_ (q_ J (m_ (m_ (s_nilP H0 (f_ J (l_ J BP J J (m_ (s_slS_lo J H4 y.2.1 y.2.2.1 (s_nilP H0 (f_ J (so_ J BP J J J (e_ (q_ J (m_ (m_ (b_ J J eql_ (m_ (m_ (er_ (hQ _ _ _ _ _ J J lk_here (Fr.own FR) y.2.2.2))))))))))))))))))))))))))))))))))))))))))))))))))))))))))))))))))))))) (fun k=>z_ 8 J (gt_ J (gt_ J (gt_ J (gt_ J (gt_ J (gt_ J (gt_ J (z_ 2 J (gt_ J (gt_ J (gt_ J (gt_ J (gt_ J (gt_ J (gt_ J (gt_ J (gt_ J (gt_ J (gt_ J (z_ 2 J (e_ (cf_ J (sk_ (q_ J (m_ (s_nilP H0 (f_ J (l_ J BP J J (m_ (s_slS_hi J H4 (h.2 k).1 (h.2 k).2.1 (x2 (h.2 k).2.2 fun _ _ z=>ca_ (sc1 J J) z.1 (m_ (x_ J J (x_ J J (m_ (m_ (e_ (q_ J (m_ (m_ (s_nilP H0 (f_ J (l_ J BP J J (m_ (s_slS_lo J H4 z.2.1 z.2.2.1 (s_nilP H0 (f_ J (so_ J BP J J J (e_ (q_ J (m_ (m_ (b_ J J eql_ (m_ (m_ (er_ (hQ _ _ _ _ _ J J lk_here (Fr.own FR) z.2.2.2))))))))))))))))))))))))))))))))))))))))))))))))))))))))))))))))))))
include H0 BP FR in
theorem w131_1 (h:T131_1 prog K mP):W prog d c131_1 σ st Q:=
 W.gscope' (W.reg0 J fun _ _=>m_ (e_ (h (I131_0 prog d Q st0 kp vp ) (fun _ _ hb _ _ H0 H4 BP FR=>WG.step (w131_2 hQ hkp (fun _ _ x=>x) H0 H4 BP FR hb)) _ _ H0 J BP FR)))
include H0 BP FR in
theorem w131_0 (h:T131_0 prog K mP):W prog d (sR 0 r131_0 c131_1) σ st Q:=
 q_ J (m_ (m_ (e_ (w131_1 hQ hkp H0 BP FR h))))
end
theorem p131 {prog:Prog}(hf:prog.fn 131=some pf131){mP:Sc}{K:Int→Bool→Sc→Prop}(h:T131_0 prog K mP):PuXK prog 131 (Bx [.s mP.left]) [] (fun r (b_:Sc)=>∃res0:Int,∃res1:Bool,(r=.tup [.i .i64 res0,.b res1])∧K res0 res1 b_) (fun b_=>(Bx [.s b_.left])):=
  PuXK.of hf rfl (fun _=>Bx.out) fun d st kp vp hkp hB=>w131_0 (st0:=st) (Q:=fun e σ st'=>(e=.normal∨e=.ret)∧∃r b_,ares σ st' pf131.res=some r∧_∧_∧Fr d kp st.bx st.ow st'.bx st'.ow) (fun σ st'   res0 res1 b_ H2 H3 hb hf hk=>⟨.inr rfl,.tup [.i .i64 res0,.b res1],b_,by simp only [pf131,ares,aresL,H2,H3,ares1,Option.map_some,H2,H3],⟨res0,res1,rfl,hk⟩,hb,hf⟩) hkp (σ:=sl0 [.p kp vp 0]) rfl hB Fr.refl h
abbrev H66 (Q:AE→Sl→St→Prop)(K:Bool→Prop):Prop:=∀(σ:Sl)(st:St)(res0:Bool),σ 4=.b res0→K res0→Q .ret σ st
section
variable {prog:Prog}{d:Nat}{Q:AE→Sl→St→Prop}{K:Bool→Prop}(hQ:H66 Q K){σ:Sl}{st:St}
include hQ
end
end Go.AM

namespace Go.AM
open Go
set_option maxRecDepth 4000
attribute [local irreducible] WO fillCells fillRows
def r111_0:List AI:=[oC 2 (.s [])]
def r111_1:List AI:=[oM 3 0,oQ 4 15 [3],oM 2 4]
abbrev b111:AC:=(sR 0 r111_0 (sR 1 r111_1 .ret))
def pf111:AF:={ nt:=5,res:=[.tmp 2],body:=b111 }
def T111_0 (prog:Prog)(K:BS→Prop)(n0:Int):Prop:=
  ∃c,Pus prog 15 [.i .i64 n0] (.s c)∧K c
section
variable {prog:Prog}{d:Nat}{Q:AE→Sl→St→Prop}{K:BS→Prop}(hQ:H1 AV.s 2 Q K){σ:Sl}{st:St}
include hQ
variable {n0:Int}
variable (H0:σ 0=.i .i64 n0)
include H0 in
theorem w111_0 (h:T111_0 prog K n0):W prog d (sR 0 r111_0 (sR 1 r111_1 .ret)) σ st Q:=
 q_ J (m_ (e_ (q_ J (m_ (h.elim fun _ c=>ca_ (sc1 H0 J) c.1 (m_ (er_ (hQ J c.2))))))))
end
theorem p111 {prog:Prog}(hf:prog.fn 111=some pf111){n0:Int}{K:BS→Prop}(h:T111_0 prog K n0) :∃res0:BS,K res0∧Pus prog 111 [.i .i64 n0] (.s res0):=
 P1 hf J (w111_0 (h1 J fun _=>J) J h)
def r112_0:List AI:=[oC 2 (.s [])]
def r112_1:List AI:=[oM 6 0,oQ 7 11 [6],oM 5 7,oE 8 0 5,oE 9 1 5,oM 3 8,oM 4 9]
def r112_2:List AI:=[oM 10 3,oM 2 10]
abbrev b112:AC:=(sR 0 r112_0 (sR 1 r112_1 (sR 2 r112_2 .ret)))
def pf112:AF:={ nt:=11,res:=[.tmp 2],body:=b112 }
def T112_0 (prog:Prog)(K:BS→Prop)(s0:BS):Prop:=
  ∃c e,Pus prog 11 [.s s0] (.tup [.s c,.i .i64 e])∧K c
section
variable {prog:Prog}{d:Nat}{Q:AE→Sl→St→Prop}{K:BS→Prop}(hQ:H1 AV.s 2 Q K){σ:Sl}{st:St}
include hQ
variable {s0:BS}
variable (H0:σ 0=.s s0)
include H0 in
theorem w112_0 (h:T112_0 prog K s0):W prog d (sR 0 r112_0 (sR 1 r112_1 (sR 2 r112_2 .ret))) σ st Q:=
 q_ J (m_ (e_ (q_ J (m_ (x2 h fun _ _ c=>ca_ (sc1 H0 J) c.1 (m_ (x_ J J (x_ J J (m_ (m_ (e_ (q_ J (m_ (m_ (er_ (hQ J c.2))))))))))))))))
end
theorem p112 {prog:Prog}(hf:prog.fn 112=some pf112){s0:BS}{K:BS→Prop}(h:T112_0 prog K s0) :∃res0:BS,K res0∧Pus prog 112 [.s s0] (.s res0):=
 P1 hf J (w112_0 (h1 J fun _=>J) J h)
def r113_0:List AI:=[oO 0 (.alloc [zs,zs,zs,zs])]
def r113_1:List AI:=[oO 1 (.build [zs,zs,zs,zs] [(0,1,(.c (.s [99,97,108,108]))),(1,1,(.c (.s [100,101,102,101,114]))),(2,1,(.c (.s [112,97,110,105,99]))),(3,1,(.c (.s [101,120,105,116])))]),oS 4 0 1]
abbrev b113:AC:=(sR 0 r113_0 (sR 1 r113_1 .ret))
def pf113:AF:={ nt:=2,res:=[.cell 0 4 true],body:=b113 }
abbrev H113 (Q:AE→Sl→St→Prop)(K:LB→Prop):Prop:=∀(σ:Sl)(st:St)(k0:Key)(v0:Nat)(res0:LB),σ 0=.p k0 v0 0→lk st.bx k0=some (v0,List.map AV.s res0)→res0.length=4→K res0→Q .ret σ st
def T113_0 (prog:Prog)(K:LB→Prop) :Prop:=
  K [([99,97,108,108]:BS),([100,101,102,101,114]:BS),([112,97,110,105,99]:BS),([101,120,105,116]:BS)]
section
variable {prog:Prog}{d:Nat}{Q:AE→Sl→St→Prop}{K:LB→Prop}(hQ:H113 Q K){σ:Sl}{st:St}
include hQ
theorem w113_0 (h:T113_0 prog K ):W prog d (sR 0 r113_0 (sR 1 r113_1 .ret)) σ st Q:=
 sq_ (W.reg (s_alloc (e_ (q_ J (s_buildM (f:=AV.s) (l:=[([99,97,108,108]:BS),([100,101,102,101,114]:BS),([112,97,110,105,99]:BS),([101,120,105,116]:BS)]) (f_cons J J (f_cons J J (f_cons J J (f_cons J J f_nil)))) J (s_storeArr (f:=AV.s) (fun _=>J) J (show lk _ (d,0)=some (_,(List.map AV.s (List.replicate 4 ([]:BS)):List AV)) from lk_here) (by simp) J J (er_ (hQ _ _ _ _ _ J lk_here (by simp) h))))))))
end
theorem p113 {prog:Prog}(hf:prog.fn 113=some pf113)  {K:LB→Prop}(h:T113_0 prog K ) :∃res0:LB,K res0∧Pus prog 113 [] (.ag (List.map AV.s res0)):=by
  obtain ⟨v,hv,res0,hk,rfl⟩:=Pus.of (K:=fun v=>∃res0:LB,K res0∧v=.ag (List.map AV.s res0)) hf rfl (w113_0 (σ:=sl0 []) (fun σ st k0 v0  res0 H0 HB0 HL0 hk=>⟨.ag (List.map AV.s res0),by simp only [pf113,ares,aresL,ares_cellA (n:=4) H0 HB0 (by simpa using HL0),ares_tmp,Option.map_some],_,strip_ag AV.s (fun _=>rfl) _,res0,hk,rfl⟩)  h)
  exact ⟨res0,hk,hv⟩
def r115_0:List AI:=[oC 4 (.b false)]
def r115_1:List AI:=[oM 5 0,oM 6 1,oO 7 (.call true 139 [(.t 5),(.t 6)]),oV 8 .geq 7 0,oM 4 8]
abbrev b115:AC:=(sR 0 r115_0 (sR 1 r115_1 .ret))
def pf115:AF:={ nt:=9,res:=[.tmp 4],body:=b115 }
def T115_0 (prog:Prog)(K:Bool→Prop)(s0:LB)(f1:Nat × List AV):Prop:=
  ∃c,(∀e:Own,PuN prog 139 [.sl e (List.map rowS s0),.fn f1.1 f1.2] (fun r=>r=.i .i64 c))∧K (decide (c≥0))
section
variable {prog:Prog}{d:Nat}{Q:AE→Sl→St→Prop}{K:Bool→Prop}{st0:St}(hQ:HF d st0 AV.b 4 Q K){σ:Sl}{st:St}
include hQ
variable {s0:LB}{f1:Nat × List AV}{o_s0:Own}
variable (H0:σ 0=.sl o_s0 (List.map rowS s0))(H1:σ 1=.fn f1.1 f1.2)(FR:Fr d (d,0) st0.bx st0.ow st.bx st.ow)
include H0 H1 FR in
theorem w115_0 (h:T115_0 prog K s0 f1):W prog d (sR 0 r115_0 (sR 1 r115_1 .ret)) σ st Q:=
 q_ J (m_ (e_ (q_ J (s_mvL H0 (m_ (h.elim fun _ c=>s_callN (sec J (sec H1 sen)) (c.1 _) (fun _ e=>b_ J J geq_ (m_ (er_ (hQ J (Fr.raw FR e) c.2))))))))))
end
theorem p115 {prog:Prog}(hf:prog.fn 115=some pf115){s0:LB}{f1:Nat × List AV}{K:Bool→Prop}(h:T115_0 prog K s0 f1)(o_s0:Own):PuN prog 115 [.sl o_s0 (List.map rowS s0),.fn f1.1 f1.2] (fun r=>∃res0:Bool,(r=.b res0)∧K res0):=
 PF hf J J fun d st Q q=>w115_0 q J J Fr.refl h
def r116_0:List AI:=[oC 2 (.b false)]
def r116_1:List AI:=[oM 3 0,oH 4 3,oV 5 .gtr 4 1400060,oM 2 5]
abbrev b116:AC:=(sR 0 r116_0 (sR 1 r116_1 .ret))
def pf116:AF:={ nt:=6,res:=[.tmp 2],body:=b116 }
def T116_0 (prog:Prog)(K:Bool→Prop)(s0:BS):Prop:=
  K (decide ((s0.length:Int)>1400060))
section
variable {prog:Prog}{d:Nat}{Q:AE→Sl→St→Prop}{K:Bool→Prop}{st0:St}(hQ:HF d st0 AV.b 2 Q K){σ:Sl}{st:St}
include hQ
variable {s0:BS}
variable (H0:σ 0=.s s0)(FR:Fr d (d,0) st0.bx st0.ow st.bx st.ow)
include H0 FR in
theorem w116_0 (h:T116_0 prog K s0):W prog d (sR 0 r116_0 (sR 1 r116_1 .ret)) σ st Q:=
 q_ J (m_ (e_ (q_ J (m_ (ln_ H0 (b_ J J gtr_ (m_ (er_ (hQ J FR h)))))))))
end
theorem p116 {prog:Prog}(hf:prog.fn 116=some pf116){s0:BS}{K:Bool→Prop}(h:T116_0 prog K s0):PuN prog 116 [.s s0] (fun r=>∃res0:Bool,(r=.b res0)∧K res0):=
 PF hf J J fun d st Q q=>w116_0 q J Fr.refl h
def r139_0:List AI:=[oI 4 0]
def r139_1:List AI:=[oM 6 0,oJ 7 6,oI 8 0]
def r139_2:List AI:=[oT 9 .lss 8 7]
def r139_3:List AI:=[oM 10 8,oM 5 10]
def r139_4:List AI:=[oM 11 1,oM 12 0,oM 13 5,oX 14 1 12 13,oL 15 14,oO 16 (.callv (.t 11) [(.t 15)])]
def r139_5:List AI:=[oM 17 5,oM 4 17]
def r139_6:List AI:=[oV 18 .add 8 1,oM 8 18]
def r139_7:List AI:=[oI 4 (-1)]
abbrev l139_0:AC:=(sR 2 r139_2 (.seq (.cond (.t 9) .skip (.exit 0)) (.seq (.block 1 (sR 3 r139_3 (sR 4 r139_4 (.cond (.t 16) (sR 5 r139_5 .ret) .skip)))) (.reg 6 r139_6))))
abbrev c139_1:AC:=(sR 7 r139_7 .ret)
abbrev b139:AC:=(sR 0 r139_0 (.seq (sR 1 r139_1 (.block 0 (.loop l139_0))) c139_1))
def pf139:AF:={ nt:=19,res:=[.tmp 4],body:=b139 }
abbrev I139_0 (prog:Prog)(d:Nat)(Q:AE→Sl→St→Prop)(st0:St)(s0:LB)(f1:Nat × List AV)(t7:Int)(t8:Int):Prop:=
  ∀(σ:Sl)(st:St)(o_s0:Own),σ 0=.sl o_s0 (List.map rowS s0)→σ 1=.fn f1.1 f1.2→σ 7=.i .i64 t7→σ 8=.i .i64 t8→Fr d (d,0) st0.bx st0.ow st.bx st.ow→W prog d (.loop l139_0) σ st (blockW 0 (thenW prog d c139_1 Q))
def T139_2 (prog:Prog)(K:Int→Prop) :Prop:=
  K (-1)
def T139_1 (prog:Prog)(K:Int→Prop)(P0:Int→Prop)(s0:LB)(f1:Nat × List AV)(t7:Int)(t8:Int):Prop:=
  (t8<t7→0≤t8∧∃e,s0[(t8).toNat]?=some e∧∃c,(PuN prog f1.1 ([.s e]++f1.2) (fun r=>r=.b c))∧(c=true→K t8)∧(c=false→P0 (IntKind.i64.wrap (t8+1))))∧(¬(t8<t7)→T139_2 prog K )
def T139_0 (prog:Prog)(K:Int→Prop)(s0:LB)(f1:Nat × List AV):Prop:=
  ∀P0:Int→Prop,(∀(t8:Int),T139_1 prog K P0 s0 f1 (s0.length:Int) t8→P0 t8)→P0 0
section
variable {prog:Prog}{d:Nat}{Q:AE→Sl→St→Prop}{K:Int→Prop}{st0:St}(hQ:HF d st0 (AV.i .i64) 4 Q K){σ:Sl}{st:St}
include hQ
variable {s0:LB}{f1:Nat × List AV}{t7 t8:Int}{P0:Int→Prop}{o_s0:Own}
variable (kP0 :∀(t8:Int),P0 t8→I139_0 prog d Q st0 s0 f1 t7 t8)(H0:σ 0=.sl o_s0 (List.map rowS s0))(H1:σ 1=.fn f1.1 f1.2)(H7:σ 7=.i .i64 t7)(H8:σ 8=.i .i64 t8)(FR:Fr d (d,0) st0.bx st0.ow st.bx st.ow)
include FR in
theorem w139_2 (h:T139_2 prog K ):W prog d c139_1 σ st Q:=
 q_ J (m_ (er_ (hQ J FR h)))
include kP0 H0 H1 H7 H8 FR in
theorem w139_1 (h:T139_1 prog K P0 s0 f1 t7 t8):W prog d l139_0 σ st (thenW prog d (.loop l139_0) (blockW 0 (thenW prog d c139_1 Q))):=
 q_ J (b_ H8 H7 lss_ (e_ (sq_ (cs_ J (fun c=>sk_ (sq_ (bk_ (q_ J (m_ (m_ (e_ (q_ J (m_ (s_mvL H0 (m_ ((h.1 c).2.elim fun _ j=>ia_ J H8 (h.1 c).1 j.1 J J (lf_ J J J (j.2.elim fun _ e=>s_callV H1 (sec J sen) (e.1) (fun _ k=>e_ (cb_ J (fun i=>q_ J (m_ (m_ (er_ (hQ H8 (Fr.raw FR k) (e.2.1 i)))))) (fun i=>sk_ (W.reg0 J fun _ _=>b_ H8 J add_ (m_ (e_ (kP0 _ (e.2.2 i) _ _ _ H0 H1 H7 J (Fr.raw FR k)))))))))))))))))))))) (fun c=>ex_ (w139_2 hQ FR (h.2 c)))))))
include H0 H1 FR in
theorem w139_0 (h:T139_0 prog K s0 f1):W prog d (sR 0 r139_0 (.seq (sR 1 r139_1 (.block 0 (.loop l139_0))) c139_1)) σ st Q:=
 q_ J (m_ (e_ (sq_ (q_ J (s_mvL H0 (ll_ J (m_ (e_ (bk_ (h (I139_0 prog d Q st0 s0 f1 (s0.length:Int)) (fun _ hb _ _ _ H0 H1 H7 H8 FR=>W.loop (w139_1 hQ (fun _ x=>x) H0 H1 H7 H8 FR hb)) _ _ _ H0 H1 J J FR))))))))))
end
theorem p139 {prog:Prog}(hf:prog.fn 139=some pf139){s0:LB}{f1:Nat × List AV}{K:Int→Prop}(h:T139_0 prog K s0 f1)(o_s0:Own):PuN prog 139 [.sl o_s0 (List.map rowS s0),.fn f1.1 f1.2] (fun r=>∃res0:Int,(r=.i .i64 res0)∧K res0):=
 PF hf J J fun d st Q q=>w139_0 q J J Fr.refl h
def r122_0:List AI:=[oC 4 (.b false)]
def r122_1:List AI:=[oM 5 0,oM 6 1,oO 7 (.call true 144 [(.t 5),(.t 6)]),oV 8 .geq 7 0,oM 4 8]
abbrev b122:AC:=(sR 0 r122_0 (sR 1 r122_1 .ret))
def pf122:AF:={ nt:=9,res:=[.tmp 4],body:=b122 }
def T122_0 (prog:Prog)(K:Bool→Prop)(s0:List Fld)(f1:Nat × List AV):Prop:=
  ∃c,(∀e:Own,PuN prog 144 [.sl e (List.map Fld.row s0),.fn f1.1 f1.2] (fun r=>r=.i .i64 c))∧K (decide (c≥0))
section
variable {prog:Prog}{d:Nat}{Q:AE→Sl→St→Prop}{K:Bool→Prop}{st0:St}(hQ:HF d st0 AV.b 4 Q K){σ:Sl}{st:St}
include hQ
variable {s0:List Fld}{f1:Nat × List AV}{o_s0:Own}
variable (H0:σ 0=.sl o_s0 (List.map Fld.row s0))(H1:σ 1=.fn f1.1 f1.2)(FR:Fr d (d,0) st0.bx st0.ow st.bx st.ow)
include H0 H1 FR in
theorem w122_0 (h:T122_0 prog K s0 f1):W prog d (sR 0 r122_0 (sR 1 r122_1 .ret)) σ st Q:=
 q_ J (m_ (e_ (q_ J (s_mvL H0 (m_ (h.elim fun _ c=>s_callN (sec J (sec H1 sen)) (c.1 _) (fun _ e=>b_ J J geq_ (m_ (er_ (hQ J (Fr.raw FR e) c.2))))))))))
end
theorem p122 {prog:Prog}(hf:prog.fn 122=some pf122){s0:List Fld}{f1:Nat × List AV}{K:Bool→Prop}(h:T122_0 prog K s0 f1)(o_s0:Own):PuN prog 122 [.sl o_s0 (List.map Fld.row s0),.fn f1.1 f1.2] (fun r=>∃res0:Bool,(r=.b res0)∧K res0):=
 PF hf J J fun d st Q q=>w122_0 q J J Fr.refl h
def r123_0:List AI:=[oY 1 2 0,oC 2 (.b false)]
def r123_1:List AI:=[oF 3 0 1,oL 4 3,oH 5 4,oV 6 .gtr 5 16,oM 2 6]
abbrev b123:AC:=(sR 0 r123_0 (sR 1 r123_1 .ret))
def pf123:AF:={ nt:=7,res:=[.tmp 2],body:=b123 }
def T123_0 (prog:Prog)(K:Bool→Prop)(s0:Fld):Prop:=
  K (decide ((s0.name.length:Int)>16))
section
variable {prog:Prog}{d:Nat}{Q:AE→Sl→St→Prop}{K:Bool→Prop}{st0:St}(hQ:HF d st0 AV.b 2 Q K){σ:Sl}{st:St}
include hQ
variable {s0:Fld}
variable (H0:σ 0=s0.av)(FR:Fr d (d,0) st0.bx st0.ow st.bx st.ow)
include H0 FR in
theorem w123_0 (h:T123_0 prog K s0):W prog d (sR 0 r123_0 (sR 1 r123_1 .ret)) σ st Q:=
 q_ J (s_box H0 J (m_ (e_ (q_ J (f_ J (l_ J lk_here J J (ln_ J (b_ J J gtr_ (m_ (er_ (hQ J (Fr.box FR) h)))))))))))
end
theorem p123 {prog:Prog}(hf:prog.fn 123=some pf123){s0:Fld}{K:Bool→Prop}(h:T123_0 prog K s0):PuN prog 123 [s0.av] (fun r=>∃res0:Bool,(r=.b res0)∧K res0):=
 PF hf J J fun d st Q q=>w123_0 q J Fr.refl h
def r144_0:List AI:=[oI 4 0]
def r144_1:List AI:=[oM 6 0,oJ 7 6,oI 8 0]
def r144_2:List AI:=[oT 9 .lss 8 7]
def r144_3:List AI:=[oM 10 8,oM 5 10]
def r144_4:List AI:=[oM 11 1,oM 12 0,oM 13 5,oX 14 2 12 13,oK 15 2 14,oO 16 (.callv (.t 11) [(.t 15)])]
def r144_5:List AI:=[oM 17 5,oM 4 17]
def r144_6:List AI:=[oV 18 .add 8 1,oM 8 18]
def r144_7:List AI:=[oI 4 (-1)]
abbrev l144_0:AC:=(sR 2 r144_2 (.seq (.cond (.t 9) .skip (.exit 0)) (.seq (.block 1 (sR 3 r144_3 (sR 4 r144_4 (.cond (.t 16) (sR 5 r144_5 .ret) .skip)))) (.reg 6 r144_6))))
abbrev c144_1:AC:=(sR 7 r144_7 .ret)
abbrev b144:AC:=(sR 0 r144_0 (.seq (sR 1 r144_1 (.block 0 (.loop l144_0))) c144_1))
def pf144:AF:={ nt:=19,res:=[.tmp 4],body:=b144 }
abbrev I144_0 (prog:Prog)(d:Nat)(Q:AE→Sl→St→Prop)(st0:St)(s0:List Fld)(f1:Nat × List AV)(t7:Int)(t8:Int):Prop:=
  ∀(σ:Sl)(st:St)(o_s0:Own),σ 0=.sl o_s0 (List.map Fld.row s0)→σ 1=.fn f1.1 f1.2→σ 7=.i .i64 t7→σ 8=.i .i64 t8→Fr d (d,0) st0.bx st0.ow st.bx st.ow→W prog d (.loop l144_0) σ st (blockW 0 (thenW prog d c144_1 Q))
def T144_2 (prog:Prog)(K:Int→Prop) :Prop:=
  K (-1)
def T144_1 (prog:Prog)(K:Int→Prop)(P0:Int→Prop)(s0:List Fld)(f1:Nat × List AV)(t7:Int)(t8:Int):Prop:=
  (t8<t7→0≤t8∧∃e:Fld,s0[(t8).toNat]?=some e∧∃c,(PuN prog f1.1 ([e.av]++f1.2) (fun r=>r=.b c))∧(c=true→K t8)∧(c=false→P0 (IntKind.i64.wrap (t8+1))))∧(¬(t8<t7)→T144_2 prog K )
def T144_0 (prog:Prog)(K:Int→Prop)(s0:List Fld)(f1:Nat × List AV):Prop:=
  ∀P0:Int→Prop,(∀(t8:Int),T144_1 prog K P0 s0 f1 (s0.length:Int) t8→P0 t8)→P0 0
section
variable {prog:Prog}{d:Nat}{Q:AE→Sl→St→Prop}{K:Int→Prop}{st0:St}(hQ:HF d st0 (AV.i .i64) 4 Q K){σ:Sl}{st:St}
include hQ
variable {s0:List Fld}{f1:Nat × List AV}{t7 t8:Int}{P0:Int→Prop}{o_s0:Own}
variable (kP0 :∀(t8:Int),P0 t8→I144_0 prog d Q st0 s0 f1 t7 t8)(H0:σ 0=.sl o_s0 (List.map Fld.row s0))(H1:σ 1=.fn f1.1 f1.2)(H7:σ 7=.i .i64 t7)(H8:σ 8=.i .i64 t8)(FR:Fr d (d,0) st0.bx st0.ow st.bx st.ow)
include FR in
theorem w144_2 (h:T144_2 prog K ):W prog d c144_1 σ st Q:=
 q_ J (m_ (er_ (hQ J FR h)))
include kP0 H0 H1 H7 H8 FR in
theorem w144_1 (h:T144_1 prog K P0 s0 f1 t7 t8):W prog d l144_0 σ st (thenW prog d (.loop l144_0) (blockW 0 (thenW prog d c144_1 Q))):=
 q_ J (b_ H8 H7 lss_ (e_ (sq_ (cs_ J (fun c=>sk_ (sq_ (bk_ (q_ J (m_ (m_ (e_ (q_ J (m_ (s_mvL H0 (m_ ((h.1 c).2.elim fun o j=>ia_ J H8 (h.1 c).1 j.1 (Fld.row_eq o) J (lf_ J J J (j.2.elim fun _ e=>s_callV H1 (sec J sen) (e.1) (fun _ k=>e_ (cb_ J (fun i=>q_ J (m_ (m_ (er_ (hQ H8 (Fr.raw FR k) (e.2.1 i)))))) (fun i=>sk_ (W.reg0 J fun _ _=>b_ H8 J add_ (m_ (e_ (kP0 _ (e.2.2 i) _ _ _ H0 H1 H7 J (Fr.raw FR k)))))))))))))))))))))) (fun c=>ex_ (w144_2 hQ FR (h.2 c)))))))
include H0 H1 FR in
theorem w144_0 (h:T144_0 prog K s0 f1):W prog d (sR 0 r144_0 (.seq (sR 1 r144_1 (.block 0 (.loop l144_0))) c144_1)) σ st Q:=
 q_ J (m_ (e_ (sq_ (q_ J (s_mvL H0 (ll_ J (m_ (e_ (bk_ (h (I144_0 prog d Q st0 s0 f1 (s0.length:Int)) (fun _ hb _ _ _ H0 H1 H7 H8 FR=>W.loop (w144_1 hQ (fun _ x=>x) H0 H1 H7 H8 FR hb)) _ _ _ H0 H1 J J FR))))))))))
end
theorem p144 {prog:Prog}(hf:prog.fn 144=some pf144){s0:List Fld}{f1:Nat × List AV}{K:Int→Prop}(h:T144_0 prog K s0 f1)(o_s0:Own):PuN prog 144 [.sl o_s0 (List.map Fld.row s0),.fn f1.1 f1.2] (fun r=>∃res0:Int,(r=.i .i64 res0)∧K res0):=
 PF hf J J fun d st Q q=>w144_0 q J J Fr.refl h
def r141_0:List AI:=[oI 4 0]
def r141_1:List AI:=[oM 6 0,oJ 7 6,oI 8 0]
def r141_2:List AI:=[oT 9 .lss 8 7]
def r141_3:List AI:=[oM 10 8,oM 5 10]
def r141_4:List AI:=[oM 11 1,oM 12 0,oM 13 5,oX 14 1 12 13,oL 15 14,oT 16 .eql 11 15]
def r141_5:List AI:=[oM 17 5,oM 4 17]
def r141_6:List AI:=[oV 18 .add 8 1,oM 8 18]
def r141_7:List AI:=[oI 4 (-1)]
abbrev l141_0:AC:=(sR 2 r141_2 (.seq (.cond (.t 9) .skip (.exit 0)) (.seq (.block 1 (sR 3 r141_3 (sR 4 r141_4 (.cond (.t 16) (sR 5 r141_5 .ret) .skip)))) (.reg 6 r141_6))))
abbrev c141_1:AC:=(sR 7 r141_7 .ret)
abbrev b141:AC:=(sR 0 r141_0 (.seq (sR 1 r141_1 (.block 0 (.loop l141_0))) c141_1))
def pf141:AF:={ nt:=19,res:=[.tmp 4],body:=b141 }
abbrev I141_0 (prog:Prog)(d:Nat)(Q:AE→Sl→St→Prop)(s0:LB)(v1:BS)(t7:Int)(t8:Int):Prop:=
  ∀(σ:Sl)(st:St)(o_s0:Own),σ 0=.sl o_s0 (List.map rowS s0)→σ 1=.s v1→σ 7=.i .i64 t7→σ 8=.i .i64 t8→W prog d (.loop l141_0) σ st (blockW 0 (thenW prog d c141_1 Q))
def T141_2 (prog:Prog)(K:Int→Prop) :Prop:=
  K (-1)
def T141_1 (prog:Prog)(K:Int→Prop)(P0:Int→Prop)(s0:LB)(v1:BS)(t7:Int)(t8:Int):Prop:=
  (t8<t7→0≤t8∧∃c,s0[(t8).toNat]?=some c∧(v1=c→K t8)∧(¬(v1=c)→P0 (IntKind.i64.wrap (t8+1))))∧(¬(t8<t7)→T141_2 prog K )
def T141_0 (prog:Prog)(K:Int→Prop)(s0:LB)(v1:BS):Prop:=
  ∀P0:Int→Prop,(∀(t8:Int),T141_1 prog K P0 s0 v1 (s0.length:Int) t8→P0 t8)→P0 0
section
variable {prog:Prog}{d:Nat}{Q:AE→Sl→St→Prop}{K:Int→Prop}(hQ:H1 (AV.i .i64) 4 Q K){σ:Sl}{st:St}
include hQ
variable {s0:LB}{v1:BS}{t7 t8:Int}{P0:Int→Prop}{o_s0:Own}
variable (kP0 :∀(t8:Int),P0 t8→I141_0 prog d Q s0 v1 t7 t8)(H0:σ 0=.sl o_s0 (List.map rowS s0))(H1:σ 1=.s v1)(H7:σ 7=.i .i64 t7)(H8:σ 8=.i .i64 t8)
theorem w141_2 (h:T141_2 prog K ):W prog d c141_1 σ st Q:=
 q_ J (m_ (er_ (hQ J h)))
include kP0 H0 H1 H7 H8 in
theorem w141_1 (h:T141_1 prog K P0 s0 v1 t7 t8):W prog d l141_0 σ st (thenW prog d (.loop l141_0) (blockW 0 (thenW prog d c141_1 Q))):=
 q_ J (b_ H8 H7 lss_ (e_ (sq_ (cs_ J (fun c=>sk_ (sq_ (bk_ (q_ J (m_ (m_ (e_ (q_ J (m_ (s_mvL H0 (m_ ((h.1 c).2.elim fun _ e=>ia_ J H8 (h.1 c).1 e.1 J J (lf_ J J J (b_ H1 J seq_ (e_ (cs_ J (fun i=>q_ J (m_ (m_ (er_ (hQ H8 (e.2.1 i)))))) (fun i=>sk_ (W.reg0 J fun _ _=>b_ H8 J add_ (m_ (e_ (kP0 _ (e.2.2 i) _ _ _ H0 H1 H7 J))))))))))))))))))))) (fun c=>ex_ (w141_2 hQ (h.2 c)))))))
include H0 H1 in
theorem w141_0 (h:T141_0 prog K s0 v1):W prog d (sR 0 r141_0 (.seq (sR 1 r141_1 (.block 0 (.loop l141_0))) c141_1)) σ st Q:=
 q_ J (m_ (e_ (sq_ (q_ J (s_mvL H0 (ll_ J (m_ (e_ (bk_ (h (I141_0 prog d Q s0 v1 (s0.length:Int)) (fun _ hb _ _ _ H0 H1 H7 H8=>W.loop (w141_1 hQ (fun _ x=>x) H0 H1 H7 H8 hb)) _ _ _ H0 H1 J J))))))))))
end
theorem p141 {prog:Prog}(hf:prog.fn 141=some pf141){s0:LB}{v1:BS}{K:Int→Prop}(h:T141_0 prog K s0 v1) :∃res0:Int,K res0∧Pus prog 141 [.sl .ext (List.map rowS s0),.s v1] (.i .i64 res0):=
 P1 hf J (w141_0 (h1 J fun _=>J) J J h)
def r119_0:List AI:=[oC 4 (.b false)]
def r119_1:List AI:=[oM 6 0,oJ 7 6,oM 8 1,oJ 9 8,oT 10 .neq 7 9]
def r119_2:List AI:=[oC 4 (.b false)]
def r119_3:List AI:=[oM 11 0,oJ 12 11,oI 13 0]
def r119_4:List AI:=[oT 14 .lss 13 12]
def r119_5:List AI:=[oM 15 13,oM 5 15]
def r119_6:List AI:=[oM 16 0,oM 17 5,oX 18 1 16 17,oL 19 18,oM 20 1,oM 21 5,oX 22 1 20 21,oL 23 22,oT 24 .neq 19 23]
def r119_7:List AI:=[oC 4 (.b false)]
def r119_8:List AI:=[oV 25 .add 13 1,oM 13 25]
def r119_9:List AI:=[oC 4 (.b true)]
abbrev l119_0:AC:=(sR 4 r119_4 (.seq (.cond (.t 14) .skip (.exit 0)) (.seq (.block 1 (sR 5 r119_5 (sR 6 r119_6 (.cond (.t 24) (sR 7 r119_7 .ret) .skip)))) (.reg 8 r119_8))))
abbrev c119_1:AC:=(sR 9 r119_9 .ret)
abbrev b119:AC:=(sR 0 r119_0 (.seq (sR 1 r119_1 (.cond (.t 10) (sR 2 r119_2 .ret) .skip)) (.seq (sR 3 r119_3 (.block 0 (.loop l119_0))) c119_1)))
def pf119:AF:={ nt:=26,res:=[.tmp 4],body:=b119 }
abbrev I119_0 (prog:Prog)(d:Nat)(Q:AE→Sl→St→Prop)(s10:LB)(s21:LB)(t12:Int)(t13:Int):Prop:=
  ∀(σ:Sl)(st:St) (o_s10 o_s21:Own),σ 0=.sl o_s10 (List.map rowS s10)→σ 1=.sl o_s21 (List.map rowS s21)→σ 12=.i .i64 t12→σ 13=.i .i64 t13→W prog d (.loop l119_0) σ st (blockW 0 (thenW prog d c119_1 Q))
def T119_2 (prog:Prog)(K:Bool→Prop) :Prop:=
  K true
def T119_1 (prog:Prog)(K:Bool→Prop)(P0:Int→Prop)(s10:LB)(s21:LB)(t12:Int)(t13:Int):Prop:=
  (t13<t12→0≤t13∧∃c,s10[(t13).toNat]?=some c∧0≤t13∧∃e,s21[(t13).toNat]?=some e∧(c≠e→K false)∧(¬(c≠e)→P0 (IntKind.i64.wrap (t13+1))))∧(¬(t13<t12)→T119_2 prog K )
def T119_0 (prog:Prog)(K:Bool→Prop)(s10:LB)(s21:LB):Prop:=
  ((s10.length:Int)≠(s21.length:Int)→K false)∧(¬((s10.length:Int)≠(s21.length:Int))→∀P0:Int→Prop,(∀(t13:Int),T119_1 prog K P0 s10 s21 (s10.length:Int) t13→P0 t13)→P0 0)
section
variable {prog:Prog}{d:Nat}{Q:AE→Sl→St→Prop}{K:Bool→Prop}(hQ:H1 AV.b 4 Q K){σ:Sl}{st:St}
include hQ
variable {s10 s21:LB}{t12 t13:Int}{P0:Int→Prop}{o_s10 o_s21:Own}
variable (kP0 :∀(t13:Int),P0 t13→I119_0 prog d Q s10 s21 t12 t13)(H0:σ 0=.sl o_s10 (List.map rowS s10))(H1:σ 1=.sl o_s21 (List.map rowS s21))(H12:σ 12=.i .i64 t12)(H13:σ 13=.i .i64 t13)
theorem w119_2 (h:T119_2 prog K ):W prog d c119_1 σ st Q:=
 q_ J (m_ (er_ (hQ J h)))
include kP0 H0 H1 H12 H13 in
theorem w119_1 (h:T119_1 prog K P0 s10 s21 t12 t13):W prog d l119_0 σ st (thenW prog d (.loop l119_0) (blockW 0 (thenW prog d c119_1 Q))):=
 q_ J (b_ H13 H12 lss_ (e_ (sq_ (cs_ J (fun c=>sk_ (sq_ (bk_ (q_ J (m_ (m_ (e_ (q_ J (s_mvL H0 (m_ ((h.1 c).2.elim fun _ e=>ia_ J H13 (h.1 c).1 e.1 J J (lf_ J J J (s_mvL H1 (m_ (e.2.2.elim fun _ i=>ia_ J H13 e.2.1 i.1 J J (lf_ J J J (b_ J J sne_ (e_ (cs_ J (fun j=>q_ J (m_ (er_ (hQ J (i.2.1 j))))) (fun j=>sk_ (W.reg0 J fun _ _=>b_ H13 J add_ (m_ (e_ (kP0 _ (i.2.2 j) _ _ _ _ H0 H1 H12 J)))))))))))))))))))))))) (fun c=>ex_ (w119_2 hQ (h.2 c)))))))
include H0 H1 in
theorem w119_0 (h:T119_0 prog K s10 s21):W prog d (sR 0 r119_0 (.seq (sR 1 r119_1 (.cond (.t 10) (sR 2 r119_2 .ret) .skip)) (.seq (sR 3 r119_3 (.block 0 (.loop l119_0))) c119_1))) σ st Q:=
 q_ J (m_ (e_ (sq_ (q_ J (s_mvL H0 (ll_ J (s_mvL H1 (ll_ J (b_ J J neq_ (e_ (cs_ J (fun c=>q_ J (m_ (er_ (hQ J (h.1 c))))) (fun c=>sk_ (sq_ (q_ J (s_mvL H0 (ll_ J (m_ (e_ (bk_ ((h.2 c) (I119_0 prog d Q s10 s21 (s10.length:Int)) (fun _ hb _ _ _ _ H0 H1 H12 H13=>W.loop (w119_1 hQ (fun _ x=>x) H0 H1 H12 H13 hb)) _ _ _ _ H0 H1 J J))))))))))))))))))))
end
theorem p119 {prog:Prog}(hf:prog.fn 119=some pf119){s10:LB}{s21:LB}{K:Bool→Prop}(h:T119_0 prog K s10 s21) :∃res0:Bool,K res0∧Pus prog 119 [.sl .ext (List.map rowS s10),.sl .ext (List.map rowS s21)] (.b res0):=
 P1 hf J (w119_0 (h1 J fun _=>J) J J h)
def r86_0:List AI:=[oY 2 3 0,oY 3 4 1,oI 4 0]
def r86_1:List AI:=[oF 9 0 3,oL 10 9,oV 11 .lss 10 0,oM 12 11,gF 12 (oF 13 0 3),gF 12 (oL 14 13),gF 12 (oF 15 2 2),gF 12 (oL 16 15),gF 12 (oJ 17 16),gF 12 (oT 18 .geq 14 17),oR 19 12 18,oM 20 19,gF 20 (oF 21 2 3),gF 20 (oL 22 21),gF 20 (oB 23 .gtr (.t 22) (.c (.i .u64 3))),oR 24 20 23]
def r86_2:List AI:=[oI 4 8]
def r86_3:List AI:=[oF 25 2 2,oL 26 25,oF 27 0 3,oL 28 27,oX 29 7 26 28,oK 30 7 29,oO 5 (.alloc [zs,z6,z6,zl,zl,zl,zl]),oS 7 5 30]
def r86_4:List AI:=[oF 31 3 5,oL 32 31,oJ 33 32,oV 34 .gtr 33 16,oM 35 34,gF 35 (oF 36 0 5),gF 35 (oL 37 36),gF 35 (oH 38 37),gF 35 (oV 39 .gtr 38 16),oR 40 35 39,oM 41 40,gF 41 (oF 42 1 3),gF 41 (oL 43 42),gF 41 (oV 44 .lss 43 0),oR 45 41 44,oM 46 45,gF 46 (oF 47 1 3),gF 46 (oL 48 47),gF 46 (oF 49 4 5),gF 46 (oL 50 49),gF 46 (oJ 51 50),gF 46 (oT 52 .geq 48 51),oR 53 46 52,oM 54 53,gF 54 (oF 55 3 5),gF 54 (oL 56 55),gF 54 (oO 57 (.call true 122 [(.t 56),(.c (.fn 123 []))])),oR 58 54 57]
def r86_5:List AI:=[oI 4 8]
def r86_6:List AI:=[oI 6 (-1)]
def r86_7:List AI:=[oF 59 3 3,oL 60 59,oJ 61 60,oI 62 0]
def r86_8:List AI:=[oT 63 .lss 62 61]
def r86_9:List AI:=[oX 64 6 60 62,oK 65 6 64,oO 8 (.alloc [z6,z8,z6,zs,zl,zb]),oS 6 8 65]
def r86_10:List AI:=[oF 66 0 8,oL 67 66,oM 68 6,oT 69 .leq 67 68,oM 70 69,gF 70 (oF 71 0 8),gF 70 (oL 72 71),gF 70 (oF 73 3 5),gF 70 (oL 74 73),gF 70 (oJ 75 74),gF 70 (oT 76 .geq 72 75),oR 77 70 76,oM 78 77,gF 78 (oF 79 1 8),gF 78 (oK 80 5 79),gF 78 (oQ 81 76 [80]),gF 78 (oV 82 .neq 81 0),oR 83 78 82]
def r86_11:List AI:=[oI 4 8]
def r86_12:List AI:=[oF 84 0 8,oL 85 84,oM 6 85]
def r86_13:List AI:=[oV 86 .add 62 1,oM 62 86]
def r86_14:List AI:=[oI 4 0]
abbrev l86_0:AC:=(sR 8 r86_8 (.seq (.cond (.t 63) .skip (.exit 0)) (.seq (.block 1 (sR 9 r86_9 (.seq (sR 10 r86_10 (.cond (.t 83) (sR 11 r86_11 .ret) .skip)) (.reg 12 r86_12)))) (.reg 13 r86_13))))
abbrev c86_1:AC:=(sR 14 r86_14 .ret)
abbrev c86_2:AC:=(sR 6 r86_6 (.seq (sR 7 r86_7 (.block 0 (.loop l86_0))) c86_1))
abbrev c86_3:AC:=(.seq (sR 4 r86_4 (.cond (.t 58) (sR 5 r86_5 .ret) .skip)) c86_2)
abbrev c86_4:AC:=(sR 3 r86_3 c86_3)
abbrev c86_5:AC:=(.seq (sR 1 r86_1 (.cond (.t 24) (sR 2 r86_2 .ret) .skip)) c86_4)
abbrev b86:AC:=(sR 0 r86_0 c86_5)
def pf86:AF:={ nt:=87,res:=[.tmp 4],body:=b86 }
abbrev I86_0 (prog:Prog)(d:Nat)(Q:AE→Sl→St→Prop)(t60:List Loc)(t61:Int)(last6:Int)(t62:Int)(m12294:Fun):Prop:=
  ∀(σ:Sl)(st:St)(o_t60:Own)(v12294:Nat),σ 5=.p (d,12294) v12294 0→σ 6=.i .i64 last6→σ 60=.sl o_t60 (List.map Loc.row t60)→σ 61=.i .i64 t61→σ 62=.i .i64 t62→lk st.bx (d,12294)=some (v12294,Fun.cs m12294)→W prog d (.loop l86_0) σ st (blockW 0 (thenW prog d c86_1 Q))
def T86_6 (prog:Prog)(K:Int→Prop) :Prop:=
  K 0
def T86_5 (prog:Prog)(K:Int→Prop)(P0:Int→Int→Fun→Prop)(last6:Int)(t60:List Loc)(t61:Int)(t62:Int)(m12294:Fun):Prop:=
  (t62<t61→0≤t62∧∃c:Loc,t60[(t62).toNat]?=some c∧(c.slot≤last6→K 8)∧(¬(c.slot≤last6)→(c.slot≥(m12294.slots.length:Int)→K 8)∧(¬(c.slot≥(m12294.slots.length:Int))→∃e,Pus prog 76 [c.value.av] (.i .i64 e)∧(e≠0→K 8)∧(¬(e≠0)→P0 c.slot (IntKind.i64.wrap (t62+1)) m12294))))∧(¬(t62<t61)→T86_6 prog K )
def T86_4 (prog:Prog)(K:Int→Prop)(m1:Frm)(m12294:Fun):Prop:=
  ∀P0:Int→Int→Fun→Prop,(∀(last6:Int)(t62:Int)(m12294:Fun),T86_5 prog K P0 last6 m1.locals (m1.locals.length:Int) t62 m12294→P0 last6 t62 m12294)→P0 (-1) 0 m12294
def T86_3 (prog:Prog)(K:Int→Prop)(m1:Frm)(m12294:Fun):Prop:=
  ((m12294.slots.length:Int)>16→K 8)∧(¬((m12294.slots.length:Int)>16)→((m12294.name.length:Int)>16→K 8)∧(¬((m12294.name.length:Int)>16)→(m1.pos<0→K 8)∧(¬(m1.pos<0)→(m1.pos≥(m12294.code.length:Int)→K 8)∧(¬(m1.pos≥(m12294.code.length:Int))→∃c,(∀e:Own,PuN prog 122 [.sl e (List.map Fld.row m12294.slots),.fn 123 []] (fun r=>r=.b c))∧(c=true→K 8)∧(c=false→T86_4 prog K m1 m12294)))))
def T86_2 (prog:Prog)(K:Int→Prop)(m0:Img)(m1:Frm):Prop:=
  0≤m1.func∧∃c,m0.funcs[(m1.func).toNat]?=some c∧T86_3 prog K m1 c
def T86_1 (prog:Prog)(K:Int→Prop)(m0:Img)(m1:Frm):Prop:=
  (m1.func<0→K 8)∧(¬(m1.func<0)→(m1.func≥(m0.funcs.length:Int)→K 8)∧(¬(m1.func≥(m0.funcs.length:Int))→(m1.mode>3→K 8)∧(¬(m1.mode>3)→T86_2 prog K m0 m1)))
def T86_0 (prog:Prog)(K:Int→Prop)(m0:Img)(x1:Frm):Prop:=
  T86_1 prog K m0 x1
section
variable {prog:Prog}{d:Nat}{Q:AE→Sl→St→Prop}{K:Int→Prop}(hQ:H1 (AV.i .i64) 4 Q K){σ:Sl}{st:St}
include hQ
variable {last6:Int}{t60:List Loc}{t61 t62:Int}{m12294:Fun}{P0:Int→Int→Fun→Prop}{o_t60:Own}{v12294:Nat}{m1:Frm}{v1:Nat}{m0:Img}{v0:Nat}{x1:Frm}
variable (kP0 :∀(last6:Int)(t62:Int)(m12294:Fun),P0 last6 t62 m12294→I86_0 prog d Q t60 t61 last6 t62 m12294)(H2:σ 2=.p (d,0) v0 0)(H0:σ 0=m0.av)(H3:σ 3=.p (d,1) v1 0)(H1:σ 1=x1.av)(H5:σ 5=.p (d,12294) v12294 0)(B0:lk st.bx (d,0)=some (v0,Img.cs m0))(H6:σ 6=.i .i64 last6)(B1:lk st.bx (d,1)=some (v1,Frm.cs m1))(H60:σ 60=.sl o_t60 (List.map Loc.row t60))(H61:σ 61=.i .i64 t61)(H62:σ 62=.i .i64 t62)(B12294:lk st.bx (d,12294)=some (v12294,Fun.cs m12294))
theorem w86_6 (h:T86_6 prog K ):W prog d c86_1 σ st Q:=
 q_ J (m_ (er_ (hQ J h)))
include kP0 H5 H6 H60 H61 H62 B12294 in
theorem w86_5 (h:T86_5 prog K P0 last6 t60 t61 t62 m12294):W prog d l86_0 σ st (thenW prog d (.loop l86_0) (blockW 0 (thenW prog d c86_1 Q))):=
 q_ J (b_ H62 H61 lss_ (e_ (sq_ (cs_ J (fun e=>sk_ (sq_ (bk_ (sq_ (W.reg ((h.1 e).2.elim fun q c=>ia_ H60 H62 (h.1 e).1 c.1 (Loc.row_eq q) J (lf_ J J J (s_alloc (so_ J (show lk _ (d,36866)=some (_,([.i .i64 0,.i .u8 0,.i .i64 0,.s [],.sl .full (List.map Val.row ([]:List Val)),.b false]:List AV)) from lk_here) J J J (e_ (sq_ (q_ J (f_ J (l_ J lk_here J J (s_mvI H6 (b_ J J leq_ (s_mvB J (em_ (g:=70) J (fun j=>z_ 13 J (e_ (ct_ J (q_ J (m_ (er_ (hQ J (c.2.1 j)))))))) (fun j=>gy_ J (f_ J (gy_ J (l_ J lk_here J J (gy_ J (f_ H5 (gy_ J (l_ J (lk_other J (lk_other J B12294)) J J (gy_ J (ll_ J (gy_ J (b_ J J geq_ (z_ 2 J (em_ (g:=78) J (fun o=>z_ 5 J (e_ (ct_ J (q_ J (m_ (er_ (hQ J ((c.2.2 j).1 o)))))))) (fun o=>gy_ J (f_ J (gy_ J (l_ J lk_here J J (gy_ J (((c.2.2 j).2 o).elim fun _ k=>ca_ (sc1 J J) k.1 (gy_ J (b_ J J neq_ (pf_ J J (e_ (cs_ J (fun p=>q_ J (m_ (er_ (hQ J (k.2.1 p))))) (fun p=>sk_ (W.reg0 J fun _ _=>f_ J (l_ J lk_here J J (m_ (e_ (W.reg0 J fun _ _=>b_ H62 J add_ (m_ (e_ (kP0 _ _ _ (k.2.2 p) _ _ _ _ H5 J H60 H61 J (lk_other J (lk_other J B12294)))))))))))))))))))))))))))))))))))))))))))))))))))))) (fun e=>ex_ (w86_6 hQ (h.2 e)))))))
include H3 H5 B1 B12294 in
theorem w86_4 (h:T86_4 prog K m1 m12294):W prog d c86_2 σ st Q:=
 q_ J (m_ (e_ (sq_ (q_ J (f_ H3 (l_ J B1 J J (ll_ J (m_ (e_ (bk_ (h (I86_0 prog d Q m1.locals (m1.locals.length:Int)) (fun _ _ _ hb _ _ _ _ H5 H6 H60 H61 H62 B12294=>W.loop (w86_5 hQ (fun _ _ _ x=>x) H5 H6 H60 H61 H62 B12294 hb)) _ _ _ _ H5 J J J J B12294)))))))))))
include H3 H5 B1 B12294 in
theorem w86_3 (h:T86_3 prog K m1 m12294):W prog d c86_3 σ st Q:=
 sq_ (q_ J (f_ H5 (l_ J B12294 J J (ll_ J (b_ J J gtr_ (s_mvB J (em_ (g:=35) J (fun c=>z_ 23 J (e_ (ct_ J (q_ J (m_ (er_ (hQ J (h.1 c)))))))) (fun c=>gy_ J (f_ H5 (gy_ J (l_ J B12294 J J (gy_ J (ln_ J (gy_ J (b_ J J gtr_ (z_ 2 J (em_ (g:=41) J (fun e=>z_ 17 J (e_ (ct_ J (q_ J (m_ (er_ (hQ J ((h.2 c).1 e)))))))) (fun e=>gy_ J (f_ H3 (gy_ J (l_ J B1 J J (gy_ J (b_ J J lss_ (z_ 2 J (em_ (g:=46) J (fun i=>z_ 12 J (e_ (ct_ J (q_ J (m_ (er_ (hQ J (((h.2 c).2 e).1 i)))))))) (fun i=>gy_ J (f_ H3 (gy_ J (l_ J B1 J J (gy_ J (f_ H5 (gy_ J (l_ J B12294 J J (gy_ J (ll_ J (gy_ J (b_ J J geq_ (z_ 2 J (em_ (g:=54) J (fun o=>z_ 4 J (e_ (ct_ J (q_ J (m_ (er_ (hQ J ((((h.2 c).2 e).2 i).1 o)))))))) (fun o=>gy_ J (f_ H5 (gy_ J (l_ J B12294 J J (gy_ J (((((h.2 c).2 e).2 i).2 o).elim fun _ j=>s_callN (sec J (sec J sen)) (j.1 _) (fun _ p=>pf_ J J (e_ (cb_ J (fun k=>q_ J (m_ (er_ (hQ J (j.2.1 k))))) (fun k=>sk_ (w86_4 hQ H3 H5 ((p.1 (d,1) (Nat.lt_succ_self d) key_dn).trans B1) ((p.1 (d,12294) (Nat.lt_succ_self d) key_dn).trans B12294) (j.2.2 k)))))))))))))))))))))))))))))))))))))))))))))))))))
include H2 H3 B0 B1 in
theorem w86_2 (h:T86_2 prog K m0 m1):W prog d c86_4 σ st Q:=
 sq_ (W.reg (f_ H2 (l_ J (lk_other J B0) J J (f_ H3 (l_ J (lk_other J B1) J J (h.2.elim fun e c=>ia_ J J h.1 c.1 (Fun.row_eq e) J (lf_ J J J (s_alloc (so_ J (show lk _ (d,12294)=some (_,([.s [],.i .i64 0,.i .i64 0,.sl .full (List.map Fld.row ([]:List Fld)),.sl .full (List.map Ins.row ([]:List Ins)),.sl .full (List.map Rnn.row ([]:List Rnn)),.sl .full (List.map Rnn.row ([]:List Rnn))]:List AV)) from lk_here) J J J (e_ (w86_3 hQ H3 J (lk_other J (lk_other J B1)) lk_here c.2)))))))))))
include H2 H3 B0 B1 in
theorem w86_1 (h:T86_1 prog K m0 m1):W prog d c86_5 σ st Q:=
 sq_ (q_ J (f_ H3 (l_ J B1 J J (b_ J J lss_ (s_mvB J (em_ (g:=12) J (fun c=>z_ 12 J (e_ (ct_ J (q_ J (m_ (er_ (hQ J (h.1 c)))))))) (fun c=>gy_ J (f_ H3 (gy_ J (l_ J B1 J J (gy_ J (f_ H2 (gy_ J (l_ J B0 J J (gy_ J (ll_ J (gy_ J (b_ J J geq_ (z_ 2 J (em_ (g:=20) J (fun e=>z_ 4 J (e_ (ct_ J (q_ J (m_ (er_ (hQ J ((h.2 c).1 e)))))))) (fun e=>gy_ J (f_ H3 (gy_ J (l_ J B1 J J (gy_ J (b_ J J gtr_ (pf_ J J (e_ (cs_ J (fun i=>q_ J (m_ (er_ (hQ J (((h.2 c).2 e).1 i))))) (fun i=>sk_ (w86_2 hQ H2 H3 B0 B1 (((h.2 c).2 e).2 i))))))))))))))))))))))))))))))))
include H0 H1 in
theorem w86_0 (h:T86_0 prog K m0 x1):W prog d (sR 0 r86_0 c86_5) σ st Q:=
 q_ J (s_box H0 J (s_box H1 J (m_ (e_ (w86_1 hQ J J (lk_other J lk_here) lk_here h)))))
end
theorem p86 {prog:Prog}(hf:prog.fn 86=some pf86){m0:Img}{x1:Frm}{K:Int→Prop}(h:T86_0 prog K m0 x1) :∃res0:Int,K res0∧Pus prog 86 [m0.av,x1.av] (.i .i64 res0):=
 P1 hf J (w86_0 (h1 J fun _=>J) J J h)
def r82_0:List AI:=[oY 3 3 0,oY 5 4 2,oC 6 (.sl .full []),oI 7 0]
def r82_1:List AI:=[oM 15 1,oV 16 .lss 15 0,oM 17 16,gF 17 (oM 18 1),gF 17 (oV 19 .geq 18 170),oR 20 17 19]
def r82_2:List AI:=[oC 6 (.sl .full []),oI 7 2]
def r82_3:List AI:=[oK 21 3 3,oK 22 4 5,oQ 23 86 [21,22],oM 8 23]
def r82_4:List AI:=[oM 24 8,oV 25 .neq 24 0]
def r82_5:List AI:=[oM 26 8,oC 6 (.sl .full []),oM 7 26]
def r82_6:List AI:=[oF 27 2 3,oL 28 27,oF 29 0 5,oL 30 29,oX 31 7 28 30,oK 32 7 31,oO 9 (.alloc [zs,z6,z6,zl,zl,zl,zl]),oS 7 9 32]
def r82_7:List AI:=[oM 33 1,oQ 34 111 [33],oB 35 .add (.c (.s [35])) (.t 34),oB 36 .add (.t 35) (.c (.s [32])),oF 37 0 5,oL 38 37,oQ 39 111 [38],oT 40 .add 36 39,oB 41 .add (.t 40) (.c (.s [32])),oF 42 0 9,oL 43 42,oQ 44 112 [43],oT 45 .add 41 44,oB 46 .add (.t 45) (.c (.s [32,97,116,32])),oF 47 1 5,oL 48 47,oQ 49 111 [48],oT 50 .add 46 49,oB 51 .add (.t 50) (.c (.s [32])),oQ 52 113 [],oF 53 2 5,oL 54 53,oO 55 (.ixA 4 1 false (.t 52) (.t 54)),oT 56 .add 51 55,oO 57 (.bslice [zs] 1 [(0,(.t 56))]),oM 10 57]
def r82_8:List AI:=[oF 58 3 5,oL 59 58,oJ 60 59,oI 61 0]
def r82_9:List AI:=[oT 62 .lss 61 60]
def r82_10:List AI:=[oX 63 6 59 61,oK 64 6 63,oO 12 (.alloc [z6,z8,z6,zs,zl,zb]),oS 6 12 64]
def r82_11:List AI:=[oF 66 1 12,oK 67 5 66,oQ 68 72 [67],oM 65 68,oE 69 0 65,oE 70 1 65,oM 13 69,oM 14 70]
def r82_12:List AI:=[oM 71 14,oV 72 .neq 71 0]
def r82_13:List AI:=[oM 73 14,oC 6 (.sl .full []),oM 7 73]
def r82_14:List AI:=[oM 74 10,oF 75 0 12,oL 76 75,oQ 77 111 [76],oB 78 .add (.c (.s [32,32])) (.t 77),oB 79 .add (.t 78) (.c (.s [32])),oF 80 3 9,oL 81 80,oF 82 0 12,oL 83 82,oX 84 2 81 83,oF 85 0 84,oL 86 85,oQ 87 112 [86],oT 88 .add 79 87,oB 89 .add (.t 88) (.c (.s [32,61,32])),oM 90 13,oT 91 .add 89 90,oO 92 (.bslice [zs] 1 [(0,(.t 91))]),oO 93 (.app 1 16 (.t 74) (.t 92)),oM 10 93]
def r82_15:List AI:=[oV 94 .add 61 1,oM 61 94]
def r82_16:List AI:=[oM 95 10,oM 6 95,oI 7 0]
abbrev l82_0:AC:=(sR 9 r82_9 (.seq (.cond (.t 62) .skip (.exit 0)) (.seq (.block 1 (sR 10 r82_10 (sR 11 r82_11 (.seq (sR 12 r82_12 (.cond (.t 72) (sR 13 r82_13 .ret) .skip)) (.reg 14 r82_14))))) (.reg 15 r82_15))))
abbrev c82_1:AC:=(sR 16 r82_16 .ret)
abbrev c82_2:AC:=(sR 7 r82_7 (.seq (sR 8 r82_8 (.block 0 (.loop l82_0))) c82_1))
abbrev c82_3:AC:=(sR 6 r82_6 c82_2)
abbrev c82_4:AC:=(.seq (sR 3 r82_3 (sR 4 r82_4 (.cond (.t 25) (sR 5 r82_5 .ret) .skip))) c82_3)
abbrev c82_5:AC:=(.seq (sR 1 r82_1 (.cond (.t 20) (sR 2 r82_2 .ret) .skip)) c82_4)
abbrev b82:AC:=(sR 0 r82_0 c82_5)
def pf82:AF:={ nt:=96,res:=[.tmp 6,.tmp 7],body:=b82 }
abbrev I82_0 (prog:Prog)(d:Nat)(Q:AE→Sl→St→Prop)(t59:List Loc)(t60:Int)(out10:LB)(t61:Int)(m24582:Fun):Prop:=
  ∀(σ:Sl)(st:St) (o_out10 o_t59:Own)(v24582:Nat),σ 9=.p (d,24582) v24582 0→σ 10=.sl o_out10 (List.map rowS out10)→σ 59=.sl o_t59 (List.map Loc.row t59)→σ 60=.i .i64 t60→σ 61=.i .i64 t61→ApM d st.ow o_out10 out10.length→lk st.bx (d,24582)=some (v24582,Fun.cs m24582)→W prog d (.loop l82_0) σ st (blockW 0 (thenW prog d c82_1 Q))
def T82_6 (prog:Prog)(K:LB→Int→Prop)(out10:LB):Prop:=
  K out10 0
def T82_5 (prog:Prog)(K:LB→Int→Prop)(P0:LB→Int→Fun→Prop)(out10:LB)(t59:List Loc)(t60:Int)(t61:Int)(m24582:Fun):Prop:=
  (t61<t60→0≤t61∧∃j:Loc,t59[(t61).toNat]?=some j∧∃o:BS,∃k,Pus prog 72 [j.value.av] (.tup [.s o,.i .i64 k])∧(k≠0→K ([]:LB) k)∧(¬(k≠0)→∃c:BS,Pus prog 111 [.i .i64 j.slot] (.s c)∧([32,32]:BS).length+c.length≤maxStr∧(([32,32]:BS)++c).length+([32]:BS).length≤maxStr∧0≤j.slot∧∃p:Fld,m24582.slots[(j.slot).toNat]?=some p∧∃e:BS,Pus prog 112 [.s p.name] (.s e)∧((([32,32]:BS)++c)++([32]:BS)).length+e.length≤maxStr∧(((([32,32]:BS)++c)++([32]:BS))++e).length+([32,61,32]:BS).length≤maxStr∧((((([32,32]:BS)++c)++([32]:BS))++e)++([32,61,32]:BS)).length+o.length≤maxStr∧Fit (out10.length+[(((((([32,32]:BS)++c)++([32]:BS))++e)++([32,61,32]:BS))++o)].length) 16∧P0 (out10++[(((((([32,32]:BS)++c)++([32]:BS))++e)++([32,61,32]:BS))++o)]) (IntKind.i64.wrap (t61+1)) m24582))∧(¬(t61<t60)→T82_6 prog K out10)
def T82_4 (prog:Prog)(K:LB→Int→Prop)(k1:Int)(m1:Frm)(m24582:Fun):Prop:=
  ∃c:BS,Pus prog 111 [.i .i64 k1] (.s c)∧([35]:BS).length+c.length≤maxStr∧(([35]:BS)++c).length+([32]:BS).length≤maxStr∧∃e:BS,Pus prog 111 [.i .i64 m1.func] (.s e)∧((([35]:BS)++c)++([32]:BS)).length+e.length≤maxStr∧(((([35]:BS)++c)++([32]:BS))++e).length+([32]:BS).length≤maxStr∧∃j:BS,Pus prog 112 [.s m24582.name] (.s j)∧((((([35]:BS)++c)++([32]:BS))++e)++([32]:BS)).length+j.length≤maxStr∧(((((([35]:BS)++c)++([32]:BS))++e)++([32]:BS))++j).length+([32,97,116,32]:BS).length≤maxStr∧∃k:BS,Pus prog 111 [.i .i64 m1.pos] (.s k)∧((((((([35]:BS)++c)++([32]:BS))++e)++([32]:BS))++j)++([32,97,116,32]:BS)).length+k.length≤maxStr∧(((((((([35]:BS)++c)++([32]:BS))++e)++([32]:BS))++j)++([32,97,116,32]:BS))++k).length+([32]:BS).length≤maxStr∧∃o:LB,Pus prog 113 [] (.ag (List.map AV.s o))∧o.length=4∧0≤m1.mode∧∃p:BS,(o:LB)[(m1.mode).toNat]?=some p∧((((((((([35]:BS)++c)++([32]:BS))++e)++([32]:BS))++j)++([32,97,116,32]:BS))++k)++([32]:BS)).length+p.length≤maxStr∧∀P0:LB→Int→Fun→Prop,(∀(out10:LB)(t61:Int)(m24582:Fun),T82_5 prog K P0 out10 m1.locals (m1.locals.length:Int) t61 m24582→P0 out10 t61 m24582)→P0 [(((((((((([35]:BS)++c)++([32]:BS))++e)++([32]:BS))++j)++([32,97,116,32]:BS))++k)++([32]:BS))++p)] 0 m24582
def T82_3 (prog:Prog)(K:LB→Int→Prop)(k1:Int)(m0:Img)(m1:Frm):Prop:=
  0≤m1.func∧∃c,m0.funcs[(m1.func).toNat]?=some c∧T82_4 prog K k1 m1 c
def T82_2 (prog:Prog)(K:LB→Int→Prop)(k1:Int)(m0:Img)(m1:Frm):Prop:=
  ∃c,Pus prog 86 [m0.av,m1.av] (.i .i64 c)∧(c≠0→K ([]:LB) c)∧(¬(c≠0)→T82_3 prog K k1 m0 m1)
def T82_1 (prog:Prog)(K:LB→Int→Prop)(k1:Int)(m0:Img)(m1:Frm):Prop:=
  (k1<0→K ([]:LB) 2)∧(¬(k1<0)→(k1≥170→K ([]:LB) 2)∧(¬(k1≥170)→T82_2 prog K k1 m0 m1))
def T82_0 (prog:Prog)(K:LB→Int→Prop)(m0:Img)(k1:Int)(x2:Frm):Prop:=
  T82_1 prog K k1 m0 x2
section
variable {prog:Prog}{d:Nat}{Q:AE→Sl→St→Prop}{K:LB→Int→Prop}(hQ:HM rowS (AV.i .i64) 6 7 Q K){σ:Sl}{st:St}
include hQ
variable {out10:LB}{o_out10:Own}{t59:List Loc}{t60 t61:Int}{m24582:Fun}{P0:LB→Int→Fun→Prop}{o_t59:Own}{v24582:Nat}{k1:Int}{m1:Frm}{v1:Nat}{m0:Img}{v0:Nat}{x2:Frm}
variable (kP0 :∀(out10:LB)(t61:Int)(m24582:Fun),P0 out10 t61 m24582→I82_0 prog d Q t59 t60 out10 t61 m24582)(H0:σ 0=m0.av)(H1:σ 1=.i .i64 k1)(H3:σ 3=.p (d,0) v0 0)(H2:σ 2=x2.av)(H5:σ 5=.p (d,1) v1 0)(H9:σ 9=.p (d,24582) v24582 0)(B0:lk st.bx (d,0)=some (v0,Img.cs m0))(H10:σ 10=.sl o_out10 (List.map rowS out10))(B1:lk st.bx (d,1)=some (v1,Frm.cs m1))(H59:σ 59=.sl o_t59 (List.map Loc.row t59))(H60:σ 60=.i .i64 t60)(H61:σ 61=.i .i64 t61)(A10:ApM d st.ow o_out10 out10.length)(B24582:lk st.bx (d,24582)=some (v24582,Fun.cs m24582))
include H10 A10 in
theorem w82_6 (h:T82_6 prog K out10):W prog d c82_1 σ st Q:=
 q_ J (s_mvL H10 (s_mvL J (m_ (er_ (hQ J J h)))))
include kP0 H9 H10 H59 H60 H61 A10 B24582 in
theorem w82_5 (h:T82_5 prog K P0 out10 t59 t60 t61 m24582):W prog d l82_0 σ st (thenW prog d (.loop l82_0) (blockW 0 (thenW prog d c82_1 Q))):=
 q_ J (b_ H61 H60 lss_ (e_ (sq_ (cs_ J (fun j=>sk_ (sq_ (bk_ (sq_ (W.reg ((h.1 j).2.elim fun v q=>ia_ H59 H61 (h.1 j).1 q.1 (Loc.row_eq v) J (lf_ J J J (s_alloc (so_ J (show lk _ (d,40962)=some (_,([.i .i64 0,.i .u8 0,.i .i64 0,.s [],.sl .full (List.map Val.row ([]:List Val)),.b false]:List AV)) from lk_here) J J J (e_ (q_ J (f_ J (l_ J lk_here J J (x2 q.2 fun y _ k=>ca_ (sc1 J J) k.1 (m_ (x_ J J (x_ J J (m_ (m_ (e_ (sq_ (q_ J (m_ (b_ J J neq_ (e_ (cs_ J (fun o=>q_ J (m_ (s_mvL (f:=rowS) (l:=[]) J (m_ (er_ (hQ J J (k.2.1 o))))))) (fun o=>sk_ (W.reg0 J fun _ _=>s_mvL H10 (f_ J (l_ J lk_here J J ((k.2.2 o).elim fun z e=>ca_ (sc1 J J) e.1 (b_ J J (abin_cat' e.2.1) (b_ J J (abin_cat' e.2.2.1) (f_ H9 (l_ J (lk_other J (lk_other J B24582)) J J (f_ J (l_ J lk_here J J (e.2.2.2.2.elim fun u p=>ia_ J J e.2.2.2.1 p.1 (Fld.row_eq u) J (ff_ J (lf_ J J J (p.2.elim fun x c=>ca_ (sc1 J J) c.1 (b_ J J (abin_cat' c.2.1) (b_ J J (abin_cat' c.2.2.1) (m_ (b_ J J (abin_cat' c.2.2.2.1) (s_bslM (f:=rowS) (l:=[(((((([32,32]:BS)++z)++([32]:BS))++x)++([32,61,32]:BS))++y)]) J J (g_cons J J J g_nil) J (s_app rowS_len J J J A10.1 c.2.2.2.2.1 J (fun _ _ r _ w=>s_mvL J (e_ (W.reg0 J fun _ _=>b_ H61 J add_ (m_ (e_ (kP0 _ _ _ c.2.2.2.2.2 _ _ _ _ _ H9 J H59 H60 J (ApM.mk r (Mine.app A10.2 J w)) (lk_other J (lk_other J B24582))))))))))))))))))))))))))))))))))))))))))))))))))))))) (fun j=>ex_ (w82_6 hQ H10 A10 (h.2 j)))))))
include H1 H5 H9 B1 B24582 in
theorem w82_4 (h:T82_4 prog K k1 m1 m24582):W prog d c82_2 σ st Q:=
 q_ J (m_ (h.elim fun q e=>ca_ (sc1 H1 J) e.1 (b_ J J (abin_cat' e.2.1) (b_ J J (abin_cat' e.2.2.1) (f_ H5 (l_ J B1 J J (e.2.2.2.elim fun r i=>ca_ (sc1 J J) i.1 (b_ J J (abin_cat' i.2.1) (b_ J J (abin_cat' i.2.2.1) (f_ H9 (l_ J B24582 J J (i.2.2.2.elim fun u j=>ca_ (sc1 J J) j.1 (b_ J J (abin_cat' j.2.1) (b_ J J (abin_cat' j.2.2.1) (f_ H5 (l_ J B1 J J (j.2.2.2.elim fun v k=>ca_ (sc1 J J) k.1 (b_ J J (abin_cat' k.2.1) (b_ J J (abin_cat' k.2.2.1) (k.2.2.2.elim fun _ c=>ca_ sn c.1 (f_ H5 (l_ J B1 J J (c.2.2.2.elim fun p o=>s_ixA (f:=AV.s) c.2.1 J J c.2.2.1 o.1 (b_ J J (abin_cat' o.2.1) (s_bslM (f:=rowS) (l:=[(((((((((([35]:BS)++q)++([32]:BS))++r)++([32]:BS))++u)++([32,97,116,32]:BS))++v)++([32]:BS))++p)]) J J (g_cons J J J g_nil) J (s_mvL J (e_ (sq_ (q_ J (f_ H5 (l_ J B1 J J (ll_ J (m_ (e_ (bk_ (o.2.2 (I82_0 prog d Q m1.locals (m1.locals.length:Int)) (fun _ _ _ hb _ _ _ _ _ H9 H10 H59 H60 H61 A10 B24582=>W.loop (w82_5 hQ (fun _ _ _ x=>x) H9 H10 H59 H60 H61 A10 B24582 hb)) _ _ _ _ _ H9 J J J J ApM.full B24582))))))))))))))))))))))))))))))))))))
include H1 H3 H5 B0 B1 in
theorem w82_3 (h:T82_3 prog K k1 m0 m1):W prog d c82_3 σ st Q:=
 sq_ (W.reg (f_ H3 (l_ J (lk_other J B0) J J (f_ H5 (l_ J (lk_other J B1) J J (h.2.elim fun e c=>ia_ J J h.1 c.1 (Fun.row_eq e) J (lf_ J J J (s_alloc (so_ J (show lk _ (d,24582)=some (_,([.s [],.i .i64 0,.i .i64 0,.sl .full (List.map Fld.row ([]:List Fld)),.sl .full (List.map Ins.row ([]:List Ins)),.sl .full (List.map Rnn.row ([]:List Rnn)),.sl .full (List.map Rnn.row ([]:List Rnn))]:List AV)) from lk_here) J J J (e_ (w82_4 hQ H1 H5 J (lk_other J (lk_other J B1)) lk_here c.2)))))))))))
include H1 H3 H5 B0 B1 in
theorem w82_2 (h:T82_2 prog K k1 m0 m1):W prog d c82_4 σ st Q:=
 sq_ (q_ J (l_ H3 B0 J J (l_ H5 B1 J J (h.elim fun _ c=>ca_ (sc2 J J J) c.1 (m_ (e_ (q_ J (m_ (b_ J J neq_ (e_ (cs_ J (fun e=>q_ J (m_ (s_mvL (f:=rowS) (l:=[]) J (m_ (er_ (hQ J J (c.2.1 e))))))) (fun e=>sk_ (w82_3 hQ H1 H3 H5 B0 B1 (c.2.2 e))))))))))))))
include H1 H3 H5 B0 B1 in
theorem w82_1 (h:T82_1 prog K k1 m0 m1):W prog d c82_5 σ st Q:=
 sq_ (q_ J (s_mvI H1 (b_ J J lss_ (s_mvB J (em_ (g:=17) J (fun c=>z_ 3 J (e_ (ct_ J (q_ J (s_mvL (f:=rowS) (l:=[]) J (m_ (er_ (hQ J J (h.1 c))))))))) (fun c=>gy_ J (s_mvI H1 (gy_ J (b_ J J geq_ (pf_ J J (e_ (cs_ J (fun e=>q_ J (s_mvL (f:=rowS) (l:=[]) J (m_ (er_ (hQ J J ((h.2 c).1 e)))))) (fun e=>sk_ (w82_2 hQ H1 H3 H5 B0 B1 ((h.2 c).2 e)))))))))))))))
include H0 H1 H2 in
theorem w82_0 (h:T82_0 prog K m0 k1 x2):W prog d (sR 0 r82_0 c82_5) σ st Q:=
 q_ J (s_box H0 J (s_box H2 J (s_mvL (f:=rowS) (l:=[]) J (m_ (e_ (w82_1 hQ H1 J J (lk_other J lk_here) lk_here h))))))
end
theorem p82 {prog:Prog}(hf:prog.fn 82=some pf82){m0:Img}{k1:Int}{x2:Frm}{K:LB→Int→Prop}(h:T82_0 prog K m0 k1 x2) :∃res0:LB,∃res1:Int,K res0 res1∧Pus prog 82 [m0.av,.i .i64 k1,x2.av] (.tup [.sl .ext (List.map rowS res0),.i .i64 res1]):=
 P2 hf J (w82_0 (hM J fun _ _ _=>J) J J J h)
end Go.AM

namespace Go.AM
open Go
set_option maxRecDepth 4000
attribute [local irreducible] WO fillCells fillRows
def r140_0:List AI:=[oI 4 0,oC 5 (.b false)]
def r140_1:List AI:=[oM 9 0,oO 10 (.call true 131 [(.t 9)]),oM 8 10,oE 11 0 8,oE 12 1 8,oM 6 11,oM 7 12]
def r140_2:List AI:=[oM 13 6,oM 14 7,oM 15 14,gT 15 (oM 16 6),gT 15 (oV 17 .geq 16 0),oA 18 15 17,oM 19 18,gT 19 (oM 20 6),gT 19 (oM 21 1),gT 19 (oT 22 .lss 20 21),oA 23 19 22,oM 4 13,oM 5 23]
abbrev b140:AC:=(sR 0 r140_0 (sR 1 r140_1 (sR 2 r140_2 .ret)))
def pf140:AF:={ nt:=24,res:=[.tmp 4,.tmp 5],body:=b140 }
abbrev H140 (d:Nat)(st0:St)(kp:Key)(vp:Nat)(Q:AE→Sl→St→Prop)(K:Int→Bool→Sc→Prop):Prop:=∀(σ:Sl)(st:St)(res0:Int)(res1:Bool)(b_:Sc),σ 4=.i .i64 res0→σ 5=.b res1→lk st.bx kp=some (vp,[.s b_.left])→Fr d kp st0.bx st0.ow st.bx st.ow→K res0 res1 b_→Q .ret σ st
def T140_0 (prog:Prog)(K:Int→Bool→Sc→Prop)(n1:Int)(mP:Sc):Prop:=
  ∃c j,∃e:Sc,PuX prog 131 (Bx [.s mP.left]) [] (fun r=>r=.tup [.i .i64 c,.b j]) ((Bx [.s e.left]))∧(j=true→(c≥0→K c (decide (c<n1)) e)∧(¬(c≥0)→K c false e))∧(j=false→K c false e)
section
variable {prog:Prog}{d:Nat}{Q:AE→Sl→St→Prop}{K:Int→Bool→Sc→Prop}{st0:St}{kp:Key}{vp:Nat}(hQ:H140 d st0 kp vp Q K)(hkp:kp.1<d){σ:Sl}{st:St}
include hQ hkp
variable {n1:Int}{mP:Sc}
variable (H0:σ 0=.p kp vp 0)(H1:σ 1=.i .i64 n1)(BP:lk st.bx kp=some (vp,[.s mP.left]))(FR:Fr d kp st0.bx st0.ow st.bx st.ow)
include H0 H1 BP FR in
theorem w140_0 (h:T140_0 prog K n1 mP):W prog d (sR 0 r140_0 (sR 1 r140_1 (sR 2 r140_2 .ret))) σ st Q:=
 q_ J (m_ (m_ (e_ (q_ J (m_ (x2 h fun _ _ o=>o.elim fun _ c=>cX_ (sec H0 sen) c.1 (Nat.lt_succ_of_lt hkp) BP (fun _ j k=>m_ (x_ J J (x_ J J (m_ (m_ (e_ (q_ J (s_mvI J (z_ 2 J (eb_ (g:=15) J (fun e=>gy_ J (s_mvI J (gy_ J (b_ J J geq_ (z_ 2 J (em_ (g:=19) J (fun i=>gy_ J (s_mvI J (gy_ J (s_mvI H1 (gy_ J (b_ J J lss_ (pt_ J J (s_mvI J (s_mvB J (er_ (hQ _ _ _ _ _ J J j (Fr.pass FR k) ((c.2.1 e).1 i)))))))))))) (fun i=>z_ 4 J (s_mvI J (s_mvB J (er_ (hQ _ _ _ _ _ J J j (Fr.pass FR k) ((c.2.1 e).2 i)))))))))))) (fun e=>z_ 8 J (s_mvI J (s_mvB J (er_ (hQ _ _ _ _ _ J J j (Fr.pass FR k) (c.2.2 e))))))))))))))))))))))
end
theorem p140 {prog:Prog}(hf:prog.fn 140=some pf140){n1:Int}{mP:Sc}{K:Int→Bool→Sc→Prop}(h:T140_0 prog K n1 mP):PuXK prog 140 (Bx [.s mP.left]) [.i .i64 n1] (fun r (b_:Sc)=>∃res0:Int,∃res1:Bool,(r=.tup [.i .i64 res0,.b res1])∧K res0 res1 b_) (fun b_=>(Bx [.s b_.left])):=
  PuXK.of hf rfl (fun _=>Bx.out) fun d st kp vp hkp hB=>w140_0 (st0:=st) (Q:=fun e σ st'=>(e=.normal∨e=.ret)∧∃r b_,ares σ st' pf140.res=some r∧_∧_∧Fr d kp st.bx st.ow st'.bx st'.ow) (fun σ st'   res0 res1 b_ H4 H5 hb hf hk=>⟨.inr rfl,.tup [.i .i64 res0,.b res1],b_,by simp only [pf140,ares,aresL,H4,H5,ares1,Option.map_some,H4,H5],⟨res0,res1,rfl,hk⟩,hb,hf⟩) hkp (σ:=sl0 [.p kp vp 0,.i .i64 n1]) rfl rfl hB Fr.refl h
def r117_0:List AI:=[oY 2 3 0,oI 4 0,oO 5 (.alloc [z6,z6,z7,zl]),oC 6 (.b false)]
def r117_1:List AI:=[oM 13 1,oO 14 (.build [zs] [(0,1,(.t 13))]),oY 15 1 14,oM 7 15]
def r117_2:List AI:=[oO 8 (.alloc [z6,z6,z7,zl])]
def r117_3:List AI:=[oM 16 7,oO 17 (.call true 128 [(.t 16),(.c (.s [35]))]),oZ 18 17]
def r117_4:List AI:=[oK 19 4 8,oI 4 0,oS 4 5 19,oC 6 (.b false)]
def r117_5:List AI:=[oM 21 7,oO 22 (.call true 140 [(.t 21),(.c (.i .i64 170))]),oM 20 22,oE 23 0 20,oE 24 1 20,oM 9 23,oM 10 24]
def r117_6:List AI:=[oM 25 10,oZ 26 25,oM 27 26,gF 27 (oM 28 7),gF 27 (oO 29 (.call true 128 [(.t 28),(.c (.s [32]))])),gF 27 (oZ 30 29),oR 31 27 30]
def r117_7:List AI:=[oK 32 4 8,oI 4 0,oS 4 5 32,oC 6 (.b false)]
def r117_8:List AI:=[oM 34 7,oF 35 2 2,oL 36 35,oJ 37 36,oO 38 (.call true 140 [(.t 34),(.t 37)]),oM 33 38,oE 39 0 33,oE 40 1 33,oF 41 0 8,oS 1 41 39,oM 10 40]
def r117_9:List AI:=[oM 42 10,oZ 43 42,oM 44 43,gF 44 (oM 45 7),gF 44 (oF 46 2 2),gF 44 (oL 47 46),gF 44 (oF 48 0 8),gF 44 (oL 49 48),gF 44 (oX 50 7 47 49),gF 44 (oF 51 0 50),gF 44 (oL 52 51),gF 44 (oQ 53 112 [52]),gF 44 (oB 54 .add (.c (.s [32])) (.t 53)),gF 44 (oB 55 .add (.t 54) (.c (.s [32,97,116,32]))),gF 44 (oO 56 (.call true 128 [(.t 45),(.t 55)])),gF 44 (oZ 57 56),oR 58 44 57]
def r117_10:List AI:=[oK 59 4 8,oI 4 0,oS 4 5 59,oC 6 (.b false)]
def r117_11:List AI:=[oM 61 7,oF 62 2 2,oL 63 62,oF 64 0 8,oL 65 64,oX 66 7 63 65,oF 67 4 66,oL 68 67,oJ 69 68,oO 70 (.call true 140 [(.t 61),(.t 69)]),oM 60 70,oE 71 0 60,oE 72 1 60,oF 73 1 8,oS 1 73 71,oM 10 72]
def r117_12:List AI:=[oM 74 10,oZ 75 74,oM 76 75,gF 76 (oM 77 7),gF 76 (oO 78 (.call true 128 [(.t 77),(.c (.s [32]))])),gF 76 (oZ 79 78),oR 80 76 79]
def r117_13:List AI:=[oK 81 4 8,oI 4 0,oS 4 5 81,oC 6 (.b false)]
def r117_14:List AI:=[oQ 82 113 [],oO 11 (.alloc [zs,zs,zs,zs]),oS 4 11 82]
def r117_15:List AI:=[oO 83 (.slA 4 1 (.t 11) none none),oM 84 7,oN 85 84,oF 86 0 85,oL 87 86,oQ 88 141 [83,87],oM 12 88]
def r117_16:List AI:=[oM 89 12,oO 90 (.max (.c (.i .i64 0)) (.t 89)),oO 91 (.cvi .u64 (.t 90)),oF 92 2 8,oS 1 92 91]
def r117_17:List AI:=[oM 93 9,oK 94 4 8,oM 95 12,oV 96 .geq 95 0,oM 4 93,oS 4 5 94,oM 6 96]
abbrev c117_0:AC:=(.cond (.t 31) (sR 7 r117_7 .ret) .skip)
abbrev c117_1:AC:=(.cond (.t 58) (sR 10 r117_10 .ret) .skip)
abbrev c117_2:AC:=(.cond (.t 80) (sR 13 r117_13 .ret) .skip)
abbrev c117_3:AC:=(sR 14 r117_14 (sR 15 r117_15 (sR 16 r117_16 (sR 17 r117_17 .ret))))
abbrev c117_4:AC:=(sR 11 r117_11 (.seq (sR 12 r117_12 c117_2) c117_3))
abbrev c117_5:AC:=(.seq (sR 9 r117_9 c117_1) c117_4)
abbrev c117_6:AC:=(sR 8 r117_8 c117_5)
abbrev c117_7:AC:=(.seq (sR 6 r117_6 c117_0) c117_6)
abbrev c117_8:AC:=(sR 5 r117_5 c117_7)
abbrev c117_9:AC:=(.seq (sR 3 r117_3 (.cond (.t 18) (sR 4 r117_4 .ret) .skip)) c117_8)
abbrev c117_10:AC:=(sR 2 r117_2 c117_9)
abbrev c117_11:AC:=(sR 1 r117_1 c117_10)
abbrev b117:AC:=(sR 0 r117_0 c117_11)
def pf117:AF:={ nt:=97,res:=[.tmp 4,.cell 5 4 true,.tmp 6],body:=b117 }
abbrev H117 (d:Nat)(st0:St)(Q:AE→Sl→St→Prop)(K:Int→Frm→Bool→Prop):Prop:=∀(σ:Sl)(st:St)(k1:Key)(v1:Nat)(res0:Int)(res1:Frm)(res2:Bool),σ 4=.i .i64 res0→σ 5=.p k1 v1 0→lk st.bx k1=some (v1,[.i .i64 res1.func,.i .i64 res1.pos,.i .u64 res1.mode,.sl .full (List.map Loc.row res1.locals)])→σ 6=.b res2→Fr d (d,0) st0.bx st0.ow st.bx st.ow→K res0 res1 res2→Q .ret σ st
def T117_12 (prog:Prog)(K:Int→Frm→Bool→Prop)(k9:Int)(m2:Frm)(m4098:Sc)(m8192:Frm):Prop:=
  ∃c:LB,Pus prog 113 [] (.ag (List.map AV.s c))∧c.length=4∧c.length=4∧∃e,Pus prog 141 [.sl .ext (List.map rowS c),.s m4098.left] (.i .i64 e)∧K k9 (Frm.mk m8192.func m8192.pos (IntKind.u64.wrap (if 0<e then e else 0)) m8192.locals) (decide (e≥0))
def T117_11 (prog:Prog)(K:Int→Frm→Bool→Prop)(k9:Int)(t80:Bool)(m2:Frm)(m4098:Sc)(m8192:Frm):Prop:=
  (t80=true→K 0 m8192 false)∧(t80=false→T117_12 prog K k9 m2 m4098 m8192)
def T117_10 (prog:Prog)(K:Int→Frm→Bool→Prop)(k9:Int)(m0:Img)(m2:Frm)(m4098:Sc)(m8192:Frm):Prop:=
  0≤m8192.func∧∃k:Fun,m0.funcs[(m8192.func).toNat]?=some k∧∃c j,∃e:Sc,PuX prog 140 (Bx [.s m4098.left]) [.i .i64 (k.code.length:Int)] (fun r=>r=.tup [.i .i64 c,.b j]) ((Bx [.s e.left]))∧((!j)=true→T117_11 prog K k9 true m2 e (Frm.mk m8192.func c m8192.mode m8192.locals))∧((!j)=false→∃o,∃p:Sc,PuX prog 128 (Bx [.s e.left]) [.s ([32]:BS)] (fun r=>r=.b o) ((Bx [.s p.left]))∧T117_11 prog K k9 (!o) m2 p (Frm.mk m8192.func c m8192.mode m8192.locals))
def T117_9 (prog:Prog)(K:Int→Frm→Bool→Prop)(k9:Int)(t58:Bool)(m0:Img)(m2:Frm)(m4098:Sc)(m8192:Frm):Prop:=
  (t58=true→K 0 m8192 false)∧(t58=false→T117_10 prog K k9 m0 m2 m4098 m8192)
def T117_8 (prog:Prog)(K:Int→Frm→Bool→Prop)(k9:Int)(ok10:Bool)(m0:Img)(m2:Frm)(m4098:Sc)(m8192:Frm):Prop:=
  ((!ok10)=true→T117_9 prog K k9 true m0 m2 m4098 m8192)∧((!ok10)=false→0≤m8192.func∧∃i:Fun,m0.funcs[(m8192.func).toNat]?=some i∧∃c:BS,Pus prog 112 [.s i.name] (.s c)∧([32]:BS).length+c.length≤maxStr∧(([32]:BS)++c).length+([32,97,116,32]:BS).length≤maxStr∧∃j,∃e:Sc,PuX prog 128 (Bx [.s m4098.left]) [.s ((([32]:BS)++c)++([32,97,116,32]:BS))] (fun r=>r=.b j) ((Bx [.s e.left]))∧T117_9 prog K k9 (!j) m0 m2 e m8192)
def T117_7 (prog:Prog)(K:Int→Frm→Bool→Prop)(k9:Int)(m0:Img)(m2:Frm)(m4098:Sc)(m8192:Frm):Prop:=
  ∃c j,∃e:Sc,PuX prog 140 (Bx [.s m4098.left]) [.i .i64 (m0.funcs.length:Int)] (fun r=>r=.tup [.i .i64 c,.b j]) ((Bx [.s e.left]))∧T117_8 prog K k9 j m0 m2 e (Frm.mk c m8192.pos m8192.mode m8192.locals)
def T117_6 (prog:Prog)(K:Int→Frm→Bool→Prop)(k9:Int)(t31:Bool)(m0:Img)(m2:Frm)(m4098:Sc)(m8192:Frm):Prop:=
  (t31=true→K 0 m8192 false)∧(t31=false→T117_7 prog K k9 m0 m2 m4098 m8192)
def T117_5 (prog:Prog)(K:Int→Frm→Bool→Prop)(k9:Int)(ok10:Bool)(m0:Img)(m2:Frm)(m4098:Sc)(m8192:Frm):Prop:=
  ((!ok10)=true→T117_6 prog K k9 true m0 m2 m4098 m8192)∧((!ok10)=false→∃c,∃e:Sc,PuX prog 128 (Bx [.s m4098.left]) [.s ([32]:BS)] (fun r=>r=.b c) ((Bx [.s e.left]))∧T117_6 prog K k9 (!c) m0 m2 e m8192)
def T117_4 (prog:Prog)(K:Int→Frm→Bool→Prop)(m0:Img)(m2:Frm)(m4098:Sc)(m8192:Frm):Prop:=
  ∃c j,∃e:Sc,PuX prog 140 (Bx [.s m4098.left]) [.i .i64 170] (fun r=>r=.tup [.i .i64 c,.b j]) ((Bx [.s e.left]))∧T117_5 prog K c j m0 m2 e m8192
def T117_3 (prog:Prog)(K:Int→Frm→Bool→Prop)(m0:Img)(m2:Frm)(m4098:Sc)(m8192:Frm):Prop:=
  ∃c,∃e:Sc,PuX prog 128 (Bx [.s m4098.left]) [.s ([35]:BS)] (fun r=>r=.b c) ((Bx [.s e.left]))∧((!c)=true→K 0 m8192 false)∧((!c)=false→T117_4 prog K m0 m2 e m8192)
def T117_2 (prog:Prog)(K:Int→Frm→Bool→Prop)(m0:Img)(m2:Frm)(m4098:Sc):Prop:=
  T117_3 prog K m0 m2 m4098 (Frm.mk 0 0 0 ([]:List Loc))
def T117_1 (prog:Prog)(K:Int→Frm→Bool→Prop)(line1:BS)(m0:Img)(m2:Frm):Prop:=
  T117_2 prog K m0 m2 (Sc.mk line1)
def T117_0 (prog:Prog)(K:Int→Frm→Bool→Prop)(m0:Img)(line1:BS):Prop:=
  T117_1 prog K line1 m0 (Frm.mk 0 0 0 ([]:List Loc))
section
variable {prog:Prog}{d:Nat}{Q:AE→Sl→St→Prop}{K:Int→Frm→Bool→Prop}{st0:St}(hQ:H117 d st0 Q K){σ:Sl}{st:St}
include hQ
variable {k9:Int}{m2:Frm}{m4098:Sc}{m8192:Frm}{v2 v4098 v8192:Nat}{t80:Bool}{m0:Img}{v0:Nat}{t58 ok10 t31:Bool}{line1:BS}
variable (H0:σ 0=m0.av)(H1:σ 1=.s line1)(H2:σ 2=.p (d,0) v0 0)(H5:σ 5=.p (d,2) v2 0)(H7:σ 7=.p (d,4098) v4098 0)(H8:σ 8=.p (d,8192) v8192 0)(H9:σ 9=.i .i64 k9)(H80:σ 80=.b t80)(H58:σ 58=.b t58)(H10:σ 10=.b ok10)(H31:σ 31=.b t31)(B0:lk st.bx (d,0)=some (v0,Img.cs m0))(B2:lk st.bx (d,2)=some (v2,[.i .i64 m2.func,.i .i64 m2.pos,.i .u64 m2.mode,.sl .full (List.map Loc.row m2.locals)]))(B4098:lk st.bx (d,4098)=some (v4098,[.s m4098.left]))(B8192:lk st.bx (d,8192)=some (v8192,[.i .i64 m8192.func,.i .i64 m8192.pos,.i .u64 m8192.mode,.sl .full (List.map Loc.row m8192.locals)]))(FR:Fr d (d,0) st0.bx st0.ow st.bx st.ow)
include H5 H7 H8 H9 B2 B4098 B8192 FR in
theorem w117_12 (h:T117_12 prog K k9 m2 m4098 m8192):W prog d c117_3 σ st Q:=
 sq_ (W.reg (h.elim fun _ c=>ca_ sn c.1 (s_alloc (s_storeArr (f:=AV.s) (fun _=>J) J (show lk _ (d,57345)=some (_,(List.map AV.s (List.replicate 4 ([]:BS)):List AV)) from lk_here) (by simp) J c.2.1 (e_ (q_ J (s_slA_S J lk_here c.2.2.1 J (m_ (s_nilP H7 (f_ J (l_ J (lk_del_other J (lk_other J (lk_other J B4098))) J J (c.2.2.2.elim fun _ e=>ca_ (sc2 J J J) e.1 (m_ (e_ (q_ J (m_ (s_max J J (s_cvi J (f_ H8 (so_ J (lk_del_other J (lk_other J (lk_other J B8192))) J J J (e_ (q_ J (m_ (l_ H8 lk_here J J (m_ (b_ J J geq_ (m_ (so_ H5 (lk_other J (lk_del_other J (lk_other J (lk_other J B2)))) J J J (m_ (er_ (hQ _ _ _ _ _ _ _ H9 H5 lk_here J (Fr.box (Fr.box (Fr.del (Fr.box (Fr.box FR))))) e.2)))))))))))))))))))))))))))))))
include H5 H7 H8 H9 H80 B2 B4098 B8192 FR in
theorem w117_11 (h:T117_11 prog K k9 t80 m2 m4098 m8192):W prog d c117_2 σ st (thenW prog d c117_3 Q):=
 cb_ H80 (fun c=>q_ J (l_ H8 B8192 J J (m_ (so_ H5 B2 J J J (m_ (er_ (hQ _ _ _ _ _ _ _ J H5 lk_here J (Fr.box FR) (h.1 c)))))))) (fun c=>sk_ (w117_12 hQ H5 H7 H8 H9 B2 B4098 B8192 FR (h.2 c)))
include H2 H5 H7 H8 H9 B0 B2 B4098 B8192 FR in
theorem w117_10 (h:T117_10 prog K k9 m0 m2 m4098 m8192):W prog d c117_4 σ st Q:=
 q_ J (m_ (f_ H2 (l_ J B0 J J (f_ H8 (l_ J B8192 J J (h.2.elim fun r o=>ia_ J J h.1 o.1 (Fun.row_eq r) J (ff_ J (lf_ J J J (ll_ J (x2 o.2 fun q _ u=>u.elim fun _ e=>cX_ (sec H7 (sec J sen)) e.1 (Nat.lt_succ_self d) B4098 (fun _ p c=>m_ (x_ J J (x_ J J (f_ H8 (so_ J ((c.1 (d,8192) (Nat.lt_succ_self d) (key_LL J)).trans B8192) J J J (m_ (e_ (sq_ (q_ J (s_mvB J (nt_ J (s_mvB J (eb_ (g:=76) J (fun i=>z_ 4 J (e_ (w117_11 (m8192:=(Frm.mk m8192.func q m8192.mode m8192.locals)) hQ H5 H7 H8 H9 J (lk_other J ((c.1 (d,2) (Nat.lt_succ_self d) (key_LL J)).trans B2)) (lk_other J p) lk_here (Fr.box (Fr.call FR c)) (e.2.1 i)))) (fun i=>gy_ J (s_mv H7 (gy_ J ((e.2.2 i).elim fun _ s=>s.elim fun _ k=>cX_ (sec J (sec J sen)) k.1 (Nat.lt_succ_self d) (lk_other J p) (fun _ v j=>gy_ J (nt_ J (pf_ J J (e_ (w117_11 (m8192:=(Frm.mk m8192.func q m8192.mode m8192.locals)) hQ H5 H7 H8 H9 J ((j.1 (d,2) (Nat.lt_succ_self d) (key_LL J)).trans (lk_other J ((c.1 (d,2) (Nat.lt_succ_self d) (key_LL J)).trans B2))) v ((j.1 (d,8192) (Nat.lt_succ_self d) (key_LL J)).trans lk_here) (Fr.call (Fr.box (Fr.call FR c)) j) k.2))))))))))))))))))))))))))))))))
include H2 H5 H7 H8 H9 H58 B0 B2 B4098 B8192 FR in
theorem w117_9 (h:T117_9 prog K k9 t58 m0 m2 m4098 m8192):W prog d c117_1 σ st (thenW prog d c117_4 Q):=
 cb_ H58 (fun c=>q_ J (l_ H8 B8192 J J (m_ (so_ H5 B2 J J J (m_ (er_ (hQ _ _ _ _ _ _ _ J H5 lk_here J (Fr.box FR) (h.1 c)))))))) (fun c=>sk_ (w117_10 hQ H2 H5 H7 H8 H9 B0 B2 B4098 B8192 FR (h.2 c)))
include H2 H5 H7 H8 H9 H10 B0 B2 B4098 B8192 FR in
theorem w117_8 (h:T117_8 prog K k9 ok10 m0 m2 m4098 m8192):W prog d c117_5 σ st Q:=
 sq_ (q_ J (s_mvB H10 (nt_ J (s_mvB J (eb_ (g:=44) J (fun e=>z_ 14 J (e_ (w117_9 hQ H2 H5 H7 H8 H9 J B0 B2 B4098 B8192 FR (h.1 e)))) (fun e=>gy_ J (s_mv H7 (gy_ J (f_ H2 (gy_ J (l_ J B0 J J (gy_ J (f_ H8 (gy_ J (l_ J B8192 J J (gy_ J ((h.2 e).2.elim fun o j=>ia_ J J (h.2 e).1 j.1 (Fun.row_eq o) J (gy_ J (ff_ J (gy_ J (lf_ J J J (gy_ J (j.2.elim fun _ c=>ca_ (sc1 J J) c.1 (gy_ J (b_ J J (abin_cat' c.2.1) (gy_ J (b_ J J (abin_cat' c.2.2.1) (gy_ J (c.2.2.2.elim fun _ p=>p.elim fun _ k=>cX_ (sec J (sec J sen)) k.1 (Nat.lt_succ_self d) B4098 (fun _ q i=>gy_ J (nt_ J (pf_ J J (e_ (w117_9 hQ H2 H5 H7 H8 H9 J ((i.1 (d,0) (Nat.lt_succ_self d) (key_LL J)).trans B0) ((i.1 (d,2) (Nat.lt_succ_self d) (key_LL J)).trans B2) q ((i.1 (d,8192) (Nat.lt_succ_self d) (key_LL J)).trans B8192) (Fr.call FR i) k.2))))))))))))))))))))))))))))))))))
include H2 H5 H7 H8 H9 B0 B2 B4098 B8192 FR in
theorem w117_7 (h:T117_7 prog K k9 m0 m2 m4098 m8192):W prog d c117_6 σ st Q:=
 q_ J (m_ (f_ H2 (l_ J B0 J J (ll_ J (x2 h fun k _ i=>i.elim fun _ e=>cX_ (sec H7 (sec J sen)) e.1 (Nat.lt_succ_self d) B4098 (fun _ j c=>m_ (x_ J J (x_ J J (f_ H8 (so_ J ((c.1 (d,8192) (Nat.lt_succ_self d) (key_LL J)).trans B8192) J J J (m_ (e_ (w117_8 (m8192:=(Frm.mk k m8192.pos m8192.mode m8192.locals)) hQ H2 H5 H7 H8 H9 J (lk_other J ((c.1 (d,0) (Nat.lt_succ_self d) (key_LL J)).trans B0)) (lk_other J ((c.1 (d,2) (Nat.lt_succ_self d) (key_LL J)).trans B2)) (lk_other J j) lk_here (Fr.box (Fr.call FR c)) e.2)))))))))))))
include H2 H5 H7 H8 H9 H31 B0 B2 B4098 B8192 FR in
theorem w117_6 (h:T117_6 prog K k9 t31 m0 m2 m4098 m8192):W prog d c117_0 σ st (thenW prog d c117_6 Q):=
 cb_ H31 (fun c=>q_ J (l_ H8 B8192 J J (m_ (so_ H5 B2 J J J (m_ (er_ (hQ _ _ _ _ _ _ _ J H5 lk_here J (Fr.box FR) (h.1 c)))))))) (fun c=>sk_ (w117_7 hQ H2 H5 H7 H8 H9 B0 B2 B4098 B8192 FR (h.2 c)))
include H2 H5 H7 H8 H9 H10 B0 B2 B4098 B8192 FR in
theorem w117_5 (h:T117_5 prog K k9 ok10 m0 m2 m4098 m8192):W prog d c117_7 σ st Q:=
 sq_ (q_ J (s_mvB H10 (nt_ J (s_mvB J (eb_ (g:=27) J (fun e=>z_ 4 J (e_ (w117_6 hQ H2 H5 H7 H8 H9 J B0 B2 B4098 B8192 FR (h.1 e)))) (fun e=>gy_ J (s_mv H7 (gy_ J ((h.2 e).elim fun _ j=>j.elim fun _ i=>cX_ (sec J (sec J sen)) i.1 (Nat.lt_succ_self d) B4098 (fun _ k c=>gy_ J (nt_ J (pf_ J J (e_ (w117_6 hQ H2 H5 H7 H8 H9 J ((c.1 (d,0) (Nat.lt_succ_self d) (key_LL J)).trans B0) ((c.1 (d,2) (Nat.lt_succ_self d) (key_LL J)).trans B2) k ((c.1 (d,8192) (Nat.lt_succ_self d) (key_LL J)).trans B8192) (Fr.call FR c) i.2))))))))))))))
include H2 H5 H7 H8 B0 B2 B4098 B8192 FR in
theorem w117_4 (h:T117_4 prog K m0 m2 m4098 m8192):W prog d c117_8 σ st Q:=
 q_ J (m_ (x2 h fun _ _ i=>i.elim fun _ e=>cX_ (sec H7 (sec J sen)) e.1 (Nat.lt_succ_self d) B4098 (fun _ j c=>m_ (x_ J J (x_ J J (m_ (m_ (e_ (w117_5 hQ H2 H5 H7 H8 J J ((c.1 (d,0) (Nat.lt_succ_self d) (key_LL J)).trans B0) ((c.1 (d,2) (Nat.lt_succ_self d) (key_LL J)).trans B2) j ((c.1 (d,8192) (Nat.lt_succ_self d) (key_LL J)).trans B8192) (Fr.call FR c) e.2)))))))))
include H2 H5 H7 H8 B0 B2 B4098 B8192 FR in
theorem w117_3 (h:T117_3 prog K m0 m2 m4098 m8192):W prog d c117_9 σ st Q:=
 sq_ (q_ J (m_ (h.elim fun _ j=>j.elim fun _ e=>cX_ (sec H7 (sec J sen)) e.1 (Nat.lt_succ_self d) B4098 (fun _ k c=>nt_ J (e_ (cb_ J (fun i=>q_ J (l_ H8 ((c.1 (d,8192) (Nat.lt_succ_self d) (key_LL J)).trans B8192) J J (m_ (so_ H5 ((c.1 (d,2) (Nat.lt_succ_self d) (key_LL J)).trans B2) J J J (m_ (er_ (hQ _ _ _ _ _ _ _ J H5 lk_here J (Fr.box (Fr.call FR c)) (e.2.1 i)))))))) (fun i=>sk_ (w117_4 hQ H2 H5 H7 H8 ((c.1 (d,0) (Nat.lt_succ_self d) (key_LL J)).trans B0) ((c.1 (d,2) (Nat.lt_succ_self d) (key_LL J)).trans B2) k ((c.1 (d,8192) (Nat.lt_succ_self d) (key_LL J)).trans B8192) (Fr.call FR c) (e.2.2 i)))))))))
include H2 H5 H7 B0 B2 B4098 FR in
theorem w117_2 (h:T117_2 prog K m0 m2 m4098):W prog d c117_10 σ st Q:=
 sq_ (W.reg (s_alloc (e_ (w117_3 (m8192:=(Frm.mk 0 0 0 ([]:List Loc))) hQ H2 H5 H7 J (lk_other J B0) (lk_other J B2) (lk_other J B4098) (show lk _ (d,8192)=some (_,([.i .i64 0,.i .i64 0,.i .u64 0,.sl .full (List.map Loc.row ([]:List Loc))]:List AV)) from lk_here) (Fr.box FR) h))))
include H1 H2 H5 B0 B2 FR in
theorem w117_1 (h:T117_1 prog K line1 m0 m2):W prog d c117_11 σ st Q:=
 q_ J (m_ (s_build (f_cons H1 J f_nil) (s_box J J (m_ (e_ (w117_2 (m4098:=(Sc.mk line1)) hQ H2 H5 J (lk_other J B0) (lk_other J B2) lk_here (Fr.box FR) h))))))
include H0 H1 FR in
theorem w117_0 (h:T117_0 prog K m0 line1):W prog d (sR 0 r117_0 c117_11) σ st Q:=
 sq_ (W.reg (s_box H0 J (m_ (s_alloc (m_ (e_ (w117_1 (m2:=(Frm.mk 0 0 0 ([]:List Loc))) hQ H1 J J lk_here (lk_other J (show lk _ (d,2)=some (_,([.i .i64 0,.i .i64 0,.i .u64 0,.sl .full (List.map Loc.row ([]:List Loc))]:List AV)) from lk_here)) (Fr.box (Fr.box FR)) h)))))))
end
theorem p117 {prog:Prog}(hf:prog.fn 117=some pf117){m0:Img}{line1:BS}{K:Int→Frm→Bool→Prop}(h:T117_0 prog K m0 line1):PuN prog 117 [m0.av,.s line1] (fun r=>∃res0:Int,∃res1:Frm,∃res2:Bool,(r=.tup [.i .i64 res0,res1.avo .full,.b res2])∧K res0 res1 res2):=
  PuN.of hf rfl fun d st=>w117_0 (st0:=st) (Q:=fun e σ st'=>(e=.normal∨e=.ret)∧∃r,ares σ st' pf117.res=some r∧_∧Fr d (d,0) st.bx st.ow st'.bx st'.ow) (fun σ st' k1 v1  res0 res1 res2 H4 H5 HB5 H6 hf hk=>⟨.inr rfl,.tup [.i .i64 res0,res1.avo .full,.b res2],by simp only [pf117,ares,aresL,H4,ares_cellA (n:=4) H5 HB5 rfl,H6,ares_tmp,Option.map_some,H4,ares_cellA (n:=4) H5 HB5 rfl,H6],⟨res0,res1,res2,rfl,hk⟩,hf⟩) (σ:=sl0 [m0.av,.s line1]) rfl rfl Fr.refl h
def r118_0:List AI:=[oY 2 7 0,oO 4 (.alloc [z6,z8,z6,zs,zl,zb]),oC 5 (.b false)]
def r118_1:List AI:=[oM 11 1,oO 12 (.build [zs] [(0,1,(.t 11))]),oY 13 1 12,oM 6 13]
def r118_2:List AI:=[oM 14 6,oO 15 (.call true 128 [(.t 14),(.c (.s [32,32]))]),oZ 16 15]
def r118_3:List AI:=[oO 17 (.build [z6,z8,z6,zs,zl,zb] []),oS 6 4 17,oC 5 (.b false)]
def r118_4:List AI:=[oM 19 6,oF 20 3 2,oL 21 20,oJ 22 21,oO 23 (.call true 140 [(.t 19),(.t 22)]),oM 18 23,oE 24 0 18,oE 25 1 18,oM 7 24,oM 8 25]
def r118_5:List AI:=[oM 26 8,oZ 27 26,oM 28 27,gF 28 (oM 29 6),gF 28 (oF 30 3 2),gF 28 (oL 31 30),gF 28 (oM 32 7),gF 28 (oX 33 2 31 32),gF 28 (oF 34 0 33),gF 28 (oL 35 34),gF 28 (oQ 36 112 [35]),gF 28 (oB 37 .add (.c (.s [32])) (.t 36)),gF 28 (oB 38 .add (.t 37) (.c (.s [32,61,32]))),gF 28 (oO 39 (.call true 128 [(.t 29),(.t 38)])),gF 28 (oZ 40 39),oR 41 28 40]
def r118_6:List AI:=[oO 42 (.build [z6,z8,z6,zs,zl,zb] []),oS 6 4 42,oC 5 (.b false)]
def r118_7:List AI:=[oM 44 6,oN 45 44,oF 46 0 45,oL 47 46,oQ 48 74 [47],oM 43 48,oE 49 0 43,oE 50 1 43,oO 9 (.alloc [z8,z6,zs,zl,zb]),oS 5 9 49,oM 10 50]
def r118_8:List AI:=[oM 51 7,oK 52 5 9,oO 53 (.build [z6,z8,z6,zs,zl,zb] [(0,1,(.t 51)),(1,5,(.t 52))]),oM 54 10,oV 55 .eql 54 0,oS 6 4 53,oM 5 55]
abbrev c118_0:AC:=(sR 7 r118_7 (sR 8 r118_8 .ret))
abbrev b118:AC:=(sR 0 r118_0 (sR 1 r118_1 (.seq (sR 2 r118_2 (.cond (.t 16) (sR 3 r118_3 .ret) .skip)) (sR 4 r118_4 (.seq (sR 5 r118_5 (.cond (.t 41) (sR 6 r118_6 .ret) .skip)) c118_0)))))
def pf118:AF:={ nt:=56,res:=[.cell 4 6 true,.tmp 5],body:=b118 }
abbrev H118 (Q:AE→Sl→St→Prop)(K:Loc→Bool→Prop):Prop:=∀(σ:Sl)(st:St)(k0:Key)(v0:Nat)(o0_0:Own)(res0:Loc)(res1:Bool),σ 4=.p k0 v0 0→lk st.bx k0=some (v0,[.i .i64 res0.slot,.i .u8 res0.value.kind,.i .i64 res0.value.int,.s res0.value.text,.sl o0_0 (List.map Val.row res0.value.list),.b res0.value.cut])→σ 5=.b res1→K res0 res1→Q .ret σ st
def T118_1 (prog:Prog)(K:Loc→Bool→Prop)(i7:Int)(m1:Loc)(m4098:Sc):Prop:=
  ∃c:Val,∃e,Pus prog 74 [.s m4098.left] (.tup [c.av,.i .i64 e])∧K (Loc.mk i7 c) (decide (e=0))
def T118_0 (prog:Prog)(K:Loc→Bool→Prop)(f0:Fun)(line1:BS):Prop:=
  ∃c,∃u:Sc,PuX prog 128 (Bx [.s line1]) [.s ([32,32]:BS)] (fun r=>r=.b c) ((Bx [.s u.left]))∧((!c)=true→K (Loc.mk 0 (Val.mk 0 0 [] ([]:List Val) false)) false)∧((!c)=false→∃e k,∃q:Sc,PuX prog 140 (Bx [.s u.left]) [.i .i64 (f0.slots.length:Int)] (fun r=>r=.tup [.i .i64 e,.b k]) ((Bx [.s q.left]))∧((!k)=true→K (Loc.mk 0 (Val.mk 0 0 [] ([]:List Val) false)) false)∧((!k)=false→0≤e∧∃v:Fld,f0.slots[(e).toNat]?=some v∧∃j:BS,Pus prog 112 [.s v.name] (.s j)∧([32]:BS).length+j.length≤maxStr∧(([32]:BS)++j).length+([32,61,32]:BS).length≤maxStr∧∃o,∃p:Sc,PuX prog 128 (Bx [.s q.left]) [.s ((([32]:BS)++j)++([32,61,32]:BS))] (fun r=>r=.b o) ((Bx [.s p.left]))∧((!o)=true→K (Loc.mk 0 (Val.mk 0 0 [] ([]:List Val) false)) false)∧((!o)=false→T118_1 prog K e (Loc.mk 0 (Val.mk 0 0 [] ([]:List Val) false)) p)))
section
variable {prog:Prog}{d:Nat}{Q:AE→Sl→St→Prop}{K:Loc→Bool→Prop}(hQ:H118 Q K){σ:Sl}{st:St}
include hQ
variable {i7:Int}{m1:Loc}{m4098:Sc}{o_m1_4:Own}{v1 v4098:Nat}{f0:Fun}{line1:BS}
variable (H4:σ 4=.p (d,1) v1 0)(H0:σ 0=f0.av)(H6:σ 6=.p (d,4098) v4098 0)(H1:σ 1=.s line1)(H7:σ 7=.i .i64 i7)(B1:lk st.bx (d,1)=some (v1,[.i .i64 m1.slot,.i .u8 m1.value.kind,.i .i64 m1.value.int,.s m1.value.text,.sl o_m1_4 (List.map Val.row m1.value.list),.b m1.value.cut]))(B4098:lk st.bx (d,4098)=some (v4098,[.s m4098.left]))
include H4 H6 H7 B1 B4098 in
theorem w118_1 (h:T118_1 prog K i7 m1 m4098):W prog d c118_0 σ st Q:=
 sq_ (W.reg (m_ (s_nilP H6 (f_ J (l_ J (lk_other J B4098) J J (x2 h fun _ _ c=>ca_ (sc1 J J) c.1 (m_ (x_ J J (x_ J J (s_alloc (so_ J (show lk _ (d,28680)=some (_,([.i .u8 0,.i .i64 0,.s [],.sl .full (List.map Val.row ([]:List Val)),.b false]:List AV)) from lk_here) J J J (m_ (e_ (q_ J (m_ (l_ J lk_here J J (s_build (f_cons H7 J (f_cons J J f_nil)) (m_ (b_ J J eql_ (so_ H4 (lk_other J (lk_other J B1)) J J J (m_ (er_ (hQ _ _ _ _ _ _ _ H4 lk_here J c.2)))))))))))))))))))))))
include H0 H1 in
theorem w118_0 (h:T118_0 prog K f0 line1):W prog d (sR 0 r118_0 (sR 1 r118_1 (.seq (sR 2 r118_2 (.cond (.t 16) (sR 3 r118_3 .ret) .skip)) (sR 4 r118_4 (.seq (sR 5 r118_5 (.cond (.t 41) (sR 6 r118_6 .ret) .skip)) c118_0))))) σ st Q:=
 sq_ (W.reg (s_box H0 J (s_alloc (m_ (e_ (q_ J (m_ (s_build (f_cons H1 J f_nil) (s_box J J (m_ (e_ (sq_ (q_ J (m_ (h.elim fun _ a0=>a0.elim fun _ q=>cX_ (sec J (sec J sen)) q.1 (Nat.lt_succ_self d) lk_here (fun _ a3 c=>nt_ J (e_ (cb_ J (fun u=>q_ J (s_build f_nil (so_ J ((c.1 (d,1) (Nat.lt_succ_self d) (key_LL J)).trans (lk_other J (lk_other J (show lk _ (d,1)=some (_,([.i .i64 0,.i .u8 0,.i .i64 0,.s [],.sl .full (List.map Val.row ([]:List Val)),.b false]:List AV)) from lk_here)))) J J J (m_ (er_ (hQ _ _ _ _ _ _ _ J lk_here J (q.2.1 u))))))) (fun u=>sk_ (q_ J (m_ (f_ J (l_ J ((c.1 (d,0) (Nat.lt_succ_self d) (key_LL J)).trans (lk_other J lk_here)) J J (ll_ J (x2 (q.2.2 u) fun _ _ z=>z.elim fun _ e=>cX_ (sec J (sec J sen)) e.1 (Nat.lt_succ_self d) a3 (fun _ a1 o=>m_ (x_ J J (x_ J J (m_ (m_ (e_ (sq_ (q_ J (s_mvB J (nt_ J (s_mvB J (eb_ (g:=28) J (fun k=>z_ 13 J (e_ (ct_ J (q_ J (s_build f_nil (so_ J ((o.1 (d,1) (Nat.lt_succ_self d) (key_LL J)).trans ((c.1 (d,1) (Nat.lt_succ_self d) (key_LL J)).trans (lk_other J (lk_other J (show lk _ (d,1)=some (_,([.i .i64 0,.i .u8 0,.i .i64 0,.s [],.sl .full (List.map Val.row ([]:List Val)),.b false]:List AV)) from lk_here))))) J J J (m_ (er_ (hQ _ _ _ _ _ _ _ J lk_here J (e.2.1 k)))))))))) (fun k=>gy_ J (s_mv J (gy_ J (f_ J (gy_ J (l_ J ((o.1 (d,0) (Nat.lt_succ_self d) (key_LL J)).trans ((c.1 (d,0) (Nat.lt_succ_self d) (key_LL J)).trans (lk_other J lk_here))) J J (gy_ J (s_mvI J (gy_ J ((e.2.2 k).2.elim fun x v=>ia_ J J (e.2.2 k).1 v.1 (Fld.row_eq x) J (gy_ J (ff_ J (gy_ J (lf_ J J J (gy_ J (v.2.elim fun _ j=>ca_ (sc1 J J) j.1 (gy_ J (b_ J J (abin_cat' j.2.1) (gy_ J (b_ J J (abin_cat' j.2.2.1) (gy_ J (j.2.2.2.elim fun _ y=>y.elim fun _ p=>cX_ (sec J (sec J sen)) p.1 (Nat.lt_succ_self d) a1 (fun _ a2 w=>gy_ J (nt_ J (pf_ J J (e_ (cb_ J (fun r=>q_ J (s_build f_nil (so_ J ((w.1 (d,1) (Nat.lt_succ_self d) (key_LL J)).trans ((o.1 (d,1) (Nat.lt_succ_self d) (key_LL J)).trans ((c.1 (d,1) (Nat.lt_succ_self d) (key_LL J)).trans (lk_other J (lk_other J (show lk _ (d,1)=some (_,([.i .i64 0,.i .u8 0,.i .i64 0,.s [],.sl .full (List.map Val.row ([]:List Val)),.b false]:List AV)) from lk_here)))))) J J J (m_ (er_ (hQ _ _ _ _ _ _ _ J lk_here J (p.2.1 r))))))) (fun r=>sk_ (w118_1 (m1:=(Loc.mk 0 (Val.mk 0 0 [] ([]:List Val) false))) hQ J J J ((w.1 (d,1) (Nat.lt_succ_self d) (key_LL J)).trans ((o.1 (d,1) (Nat.lt_succ_self d) (key_LL J)).trans ((c.1 (d,1) (Nat.lt_succ_self d) (key_LL J)).trans (lk_other J (lk_other J (show lk _ (d,1)=some (_,([.i .i64 0,.i .u8 0,.i .i64 0,.s [],.sl .full (List.map Val.row ([]:List Val)),.b false]:List AV)) from lk_here)))))) a2 (p.2.2 r)))))))))))))))))))))))))))))))))))))))))))))))))))))))))))))))))))
end
theorem p118 {prog:Prog}(hf:prog.fn 118=some pf118){f0:Fun}{line1:BS}{K:Loc→Bool→Prop}(h:T118_0 prog K f0 line1) :∃res0:Loc,∃res1:Bool,K res0 res1∧Pus prog 118 [f0.av,.s line1] (.tup [res0.av,.b res1]):=by
  obtain ⟨v,hv,res0,res1,hk,rfl⟩:=Pus.of (K:=fun v=>∃res0:Loc,∃res1:Bool,K res0 res1∧v=.tup [res0.av,.b res1]) hf rfl (w118_0 (σ:=sl0 [f0.av,.s line1]) (fun σ st k0 v0 o0_0 res0 res1 H4 HB4 H5 hk=>⟨.tup [res0.avo o0_0,.b res1],by simp only [pf118,ares,aresL,ares_cellA (n:=6) H4 HB4 rfl,H5,ares_tmp,Option.map_some],_,rfl,res0,res1,hk,rfl⟩) rfl rfl h)
  exact ⟨res0,res1,hk,hv⟩
def r84_0:List AI:=[oY 2 3 0,oI 4 0,oO 5 (.alloc [z6,z6,z7,zl]),oI 6 0]
def r84_1:List AI:=[oM 16 1,oJ 17 16,oV 18 .gtr 17 17,oM 19 18,gF 19 (oM 20 1),gF 19 (oO 21 (.call true 115 [(.t 20),(.c (.fn 116 []))])),oR 22 19 21]
def r84_2:List AI:=[oO 23 (.build [z6,z6,z7,zl] []),oI 4 0,oS 4 5 23,oI 6 4]
def r84_3:List AI:=[oM 24 1,oJ 25 24,oV 26 .eql 25 0]
def r84_4:List AI:=[oO 27 (.build [z6,z6,z7,zl] []),oI 4 0,oS 4 5 27,oI 6 12]
def r84_5:List AI:=[oK 29 3 2,oM 30 1,oO 31 (.iaL 1 (.t 30) (.c (.i .i64 0))),oL 32 31,oO 33 (.call true 117 [(.t 29),(.t 32)]),oM 28 33,oE 34 0 28,oE 35 1 28,oE 36 2 28,oO 8 (.alloc [z6,z6,z7,zl]),oM 7 34,oS 4 8 35,oM 9 36]
def r84_6:List AI:=[oM 37 9,oZ 38 37]
def r84_7:List AI:=[oO 39 (.build [z6,z6,z7,zl] []),oI 4 0,oS 4 5 39,oI 6 12]
def r84_8:List AI:=[oM 40 1,oO 41 (.slL 1 (.t 40) (some (.c (.i .i64 1))) none),oJ 42 41,oI 43 0]
def r84_9:List AI:=[oT 44 .lss 43 42]
def r84_10:List AI:=[oX 45 1 41 43,oL 46 45,oM 11 46]
def r84_11:List AI:=[oF 48 2 2,oL 49 48,oF 50 0 8,oL 51 50,oX 52 7 49 51,oK 53 7 52,oM 54 11,oQ 55 118 [53,54],oM 47 55,oE 56 0 47,oE 57 1 47,oO 12 (.alloc [z6,z8,z6,zs,zl,zb]),oS 6 12 56,oM 13 57]
def r84_12:List AI:=[oM 58 13,oZ 59 58]
def r84_13:List AI:=[oO 60 (.build [z6,z6,z7,zl] []),oI 4 0,oS 4 5 60,oI 6 12]
def r84_14:List AI:=[oF 61 3 8,oL 62 61,oK 63 6 12,oO 64 (.bslice [z6,z8,z6,zs,zl,zb] 1 [(0,(.t 63))]),oO 65 (.app 6 72 (.t 62) (.t 64)),oF 66 3 8,oS 1 66 65]
def r84_15:List AI:=[oV 67 .add 43 1,oM 43 67]
def r84_16:List AI:=[oK 69 3 2,oM 70 7,oK 71 4 8,oQ 72 82 [69,70,71],oM 68 72,oE 73 0 68,oE 74 1 68,oM 14 73,oM 15 74]
def r84_17:List AI:=[oM 75 15,oV 76 .neq 75 0,oM 77 76,gF 77 (oM 78 14),gF 77 (oM 79 1),gF 77 (oQ 80 119 [78,79]),gF 77 (oZ 81 80),oR 82 77 81]
def r84_18:List AI:=[oO 83 (.build [z6,z6,z7,zl] []),oI 4 0,oS 4 5 83,oI 6 12]
def r84_19:List AI:=[oM 84 7,oK 85 4 8,oM 4 84,oS 4 5 85,oI 6 0]
abbrev c84_0:AC:=(.cond (.t 22) (sR 2 r84_2 .ret) .skip)
abbrev l84_0:AC:=(sR 9 r84_9 (.seq (.cond (.t 44) .skip (.exit 0)) (.seq (.block 1 (sR 10 r84_10 (sR 11 r84_11 (.seq (sR 12 r84_12 (.cond (.t 59) (sR 13 r84_13 .ret) .skip)) (.reg 14 r84_14))))) (.reg 15 r84_15))))
abbrev c84_2:AC:=(.cond (.t 82) (sR 18 r84_18 .ret) .skip)
abbrev c84_3:AC:=(sR 19 r84_19 .ret)
abbrev c84_4:AC:=(.seq (sR 16 r84_16 (sR 17 r84_17 c84_2)) c84_3)
abbrev c84_5:AC:=(.seq (sR 8 r84_8 (.block 0 (.loop l84_0))) c84_4)
abbrev c84_6:AC:=(.seq (sR 6 r84_6 (.cond (.t 38) (sR 7 r84_7 .ret) .skip)) c84_5)
abbrev c84_7:AC:=(sR 5 r84_5 c84_6)
abbrev c84_8:AC:=(.seq (sR 3 r84_3 (.cond (.t 26) (sR 4 r84_4 .ret) .skip)) c84_7)
abbrev c84_9:AC:=(.seq (sR 1 r84_1 c84_0) c84_8)
abbrev b84:AC:=(sR 0 r84_0 c84_9)
def pf84:AF:={ nt:=86,res:=[.tmp 4,.cell 5 4 true,.tmp 6],body:=b84 }
abbrev H84 (Q:AE→Sl→St→Prop)(K:Int→Frm→Int→Prop):Prop:=∀(σ:Sl)(st:St)(k1:Key)(v1:Nat)(o1_0:Own)(res0:Int)(res1:Frm)(res2:Int),σ 4=.i .i64 res0→σ 5=.p k1 v1 0→lk st.bx k1=some (v1,[.i .i64 res1.func,.i .i64 res1.pos,.i .u64 res1.mode,.sl o1_0 (List.map Loc.row res1.locals)])→σ 6=.i .i64 res2→K res0 res1 res2→Q .ret σ st
abbrev I84_0 (prog:Prog)(d:Nat)(Q:AE→Sl→St→Prop)(l1:LB)(k7:Int)(t41:LB)(t42:Int)(t43:Int)(m0:Img)(m2:Frm)(m20489:Frm):Prop:=
  ∀(σ:Sl)(st:St) (o_l1 o_t41 o_m2_3 o_m20489_3:Own) (v0 v2 v20489:Nat),σ 1=.sl o_l1 (List.map rowS l1)→σ 2=.p (d,0) v0 0→σ 5=.p (d,2) v2 0→σ 7=.i .i64 k7→σ 8=.p (d,20489) v20489 0→σ 41=.sl o_t41 (List.map rowS t41)→σ 42=.i .i64 t42→σ 43=.i .i64 t43→ApM d st.ow o_m20489_3 m20489.locals.length→lk st.bx (d,0)=some (v0,Img.cs m0)→lk st.bx (d,2)=some (v2,[.i .i64 m2.func,.i .i64 m2.pos,.i .u64 m2.mode,.sl o_m2_3 (List.map Loc.row m2.locals)])→lk st.bx (d,20489)=some (v20489,[.i .i64 m20489.func,.i .i64 m20489.pos,.i .u64 m20489.mode,.sl o_m20489_3 (List.map Loc.row m20489.locals)])→W prog d (.loop l84_0) σ st (blockW 0 (thenW prog d c84_4 Q))
def T84_10 (prog:Prog)(K:Int→Frm→Int→Prop)(k7:Int)(m2:Frm)(m20489:Frm):Prop:=
  K k7 m20489 0
def T84_9 (prog:Prog)(K:Int→Frm→Int→Prop)(k7:Int)(t82:Bool)(m2:Frm)(m20489:Frm):Prop:=
  (t82=true→K 0 (Frm.mk 0 0 0 ([]:List Loc)) 12)∧(t82=false→T84_10 prog K k7 m2 m20489)
def T84_8 (prog:Prog)(K:Int→Frm→Int→Prop)(l1:LB)(k7:Int)(m0:Img)(m2:Frm)(m20489:Frm):Prop:=
  ∃e c,Pus prog 82 [m0.av,.i .i64 k7,m20489.av] (.tup [.sl .ext (List.map rowS e),.i .i64 c])∧(c≠0→T84_9 prog K k7 true m2 m20489)∧(¬(c≠0)→∃j,Pus prog 119 [.sl .ext (List.map rowS e),.sl .ext (List.map rowS l1)] (.b j)∧T84_9 prog K k7 (!j) m2 m20489)
def T84_7 (prog:Prog)(K:Int→Frm→Int→Prop)(P0:Int→Img→Frm→Frm→Prop)(l1:LB)(k7:Int)(t41:LB)(t42:Int)(t43:Int)(m0:Img)(m2:Frm)(m20489:Frm):Prop:=
  (t43<t42→0≤t43∧∃i,t41[(t43).toNat]?=some i∧0≤m20489.func∧∃j:Fun,m0.funcs[(m20489.func).toNat]?=some j∧∃e:Loc,∃c,Pus prog 118 [j.av,.s i] (.tup [e.av,.b c])∧((!c)=true→K 0 (Frm.mk 0 0 0 ([]:List Loc)) 12)∧((!c)=false→Fit (m20489.locals.length+[e].length) 72∧P0 (IntKind.i64.wrap (t43+1)) m0 m2 (Frm.mk m20489.func m20489.pos m20489.mode (m20489.locals++[e]))))∧(¬(t43<t42)→T84_8 prog K l1 k7 m0 m2 m20489)
def T84_6 (prog:Prog)(K:Int→Frm→Int→Prop)(l1:LB)(k7:Int)(m0:Img)(m2:Frm)(m20489:Frm):Prop:=
  1≤l1.length∧∀P0:Int→Img→Frm→Frm→Prop,(∀(t43:Int)(m0:Img)(m2:Frm)(m20489:Frm),T84_7 prog K P0 l1 k7 (l1.drop 1) ((l1.drop 1).length:Int) t43 m0 m2 m20489→P0 t43 m0 m2 m20489)→P0 0 m0 m2 m20489
def T84_5 (prog:Prog)(K:Int→Frm→Int→Prop)(l1:LB)(k7:Int)(ok9:Bool)(m0:Img)(m2:Frm)(m20489:Frm):Prop:=
  ((!ok9)=true→K 0 (Frm.mk 0 0 0 ([]:List Loc)) 12)∧((!ok9)=false→T84_6 prog K l1 k7 m0 m2 m20489)
def T84_4 (prog:Prog)(K:Int→Frm→Int→Prop)(l1:LB)(m0:Img)(m2:Frm):Prop:=
  ∃j,l1[0]?=some j∧∃k,∃e:Frm,∃c,(PuN prog 117 [m0.av,.s j] (fun r=>r=.tup [.i .i64 k,e.avo .full,.b c]))∧T84_5 prog K l1 k c m0 m2 e
def T84_3 (prog:Prog)(K:Int→Frm→Int→Prop)(l1:LB)(m0:Img)(m2:Frm):Prop:=
  ((l1.length:Int)=0→K 0 (Frm.mk 0 0 0 ([]:List Loc)) 12)∧(¬((l1.length:Int)=0)→T84_4 prog K l1 m0 m2)
def T84_2 (prog:Prog)(K:Int→Frm→Int→Prop)(l1:LB)(t22:Bool)(m0:Img)(m2:Frm):Prop:=
  (t22=true→K 0 (Frm.mk 0 0 0 ([]:List Loc)) 4)∧(t22=false→T84_3 prog K l1 m0 m2)
def T84_1 (prog:Prog)(K:Int→Frm→Int→Prop)(l1:LB)(m0:Img)(m2:Frm):Prop:=
  ((l1.length:Int)>17→T84_2 prog K l1 true m0 m2)∧(¬((l1.length:Int)>17)→∃c,(∀e:Own,PuN prog 115 [.sl e (List.map rowS l1),.fn 116 []] (fun r=>r=.b c))∧T84_2 prog K l1 c m0 m2)
def T84_0 (prog:Prog)(K:Int→Frm→Int→Prop)(m0:Img)(l1:LB):Prop:=
  T84_1 prog K l1 m0 (Frm.mk 0 0 0 ([]:List Loc))
section
variable {prog:Prog}{d:Nat}{Q:AE→Sl→St→Prop}{K:Int→Frm→Int→Prop}(hQ:H84 Q K){σ:Sl}{st:St}
include hQ
variable {k7:Int}{m2 m20489:Frm}{o_m2_3 o_m20489_3:Own}{v2 v20489:Nat}{t82:Bool}{l1:LB}{m0:Img}{o_l1:Own}{v0:Nat}{t41:LB}{t42 t43:Int}{P0:Int→Img→Frm→Frm→Prop}{o_t41:Own}{ok9 t22:Bool}
variable (kP0 :∀(t43:Int)(m0:Img)(m2:Frm)(m20489:Frm),P0 t43 m0 m2 m20489→I84_0 prog d Q l1 k7 t41 t42 t43 m0 m2 m20489)(H0:σ 0=m0.av)(H1:σ 1=.sl o_l1 (List.map rowS l1))(H2:σ 2=.p (d,0) v0 0)(H5:σ 5=.p (d,2) v2 0)(H7:σ 7=.i .i64 k7)(H22:σ 22=.b t22)(H8:σ 8=.p (d,20489) v20489 0)(H82:σ 82=.b t82)(H41:σ 41=.sl o_t41 (List.map rowS t41))(H9:σ 9=.b ok9)(H42:σ 42=.i .i64 t42)(H43:σ 43=.i .i64 t43)(Ab20489:ApM d st.ow o_m20489_3 m20489.locals.length)(B0:lk st.bx (d,0)=some (v0,Img.cs m0))(B2:lk st.bx (d,2)=some (v2,[.i .i64 m2.func,.i .i64 m2.pos,.i .u64 m2.mode,.sl o_m2_3 (List.map Loc.row m2.locals)]))(B20489:lk st.bx (d,20489)=some (v20489,[.i .i64 m20489.func,.i .i64 m20489.pos,.i .u64 m20489.mode,.sl o_m20489_3 (List.map Loc.row m20489.locals)]))
include H5 H7 H8 Ab20489 B2 B20489 in
theorem w84_10 (h:T84_10 prog K k7 m2 m20489):W prog d c84_3 σ st Q:=
 q_ J (m_ (l_ H8 B20489 J J (m_ (so_ H5 B2 J J J (m_ (er_ (hQ _ _ _ _ _ _ _ _ H7 H5 lk_here J h)))))))
include H5 H7 H8 H82 Ab20489 B2 B20489 in
theorem w84_9 (h:T84_9 prog K k7 t82 m2 m20489):W prog d c84_2 σ st (thenW prog d c84_3 Q):=
 cb_ H82 (fun c=>q_ J (s_build f_nil (m_ (so_ H5 B2 J J J (m_ (er_ (hQ _ _ _ _ _ _ _ _ J H5 lk_here J (h.1 c)))))))) (fun c=>sk_ (w84_10 hQ H5 H7 H8 Ab20489 B2 B20489 (h.2 c)))
include H1 H2 H5 H7 H8 Ab20489 B0 B2 B20489 in
theorem w84_8 (h:T84_8 prog K l1 k7 m0 m2 m20489):W prog d c84_4 σ st Q:=
 sq_ (q_ J (l_ H2 B0 J J (m_ (l_ H8 B20489 J J (x2 h fun _ _ c=>ca_ (sc3 J H7 J J) c.1 (m_ (x_ J J (x_ J J (s_mvL J (m_ (e_ (q_ J (s_mvI J (b_ J J neq_ (s_mvB J (em_ (g:=77) J (fun e=>z_ 5 J (e_ (w84_9 hQ H5 H7 H8 J Ab20489 B2 B20489 (c.2.1 e)))) (fun e=>gy_ J (s_mvL J (gy_ J (s_mvL H1 (gy_ J ((c.2.2 e).elim fun _ i=>ca_ (sc2 J J J) i.1 (gy_ J (nt_ J (pf_ J J (e_ (w84_9 hQ H5 H7 H8 J Ab20489 B2 B20489 i.2)))))))))))))))))))))))))))
include kP0 H1 H2 H5 H7 H8 H41 H42 H43 Ab20489 B0 B2 B20489 in
theorem w84_7 (h:T84_7 prog K P0 l1 k7 t41 t42 t43 m0 m2 m20489):W prog d l84_0 σ st (thenW prog d (.loop l84_0) (blockW 0 (thenW prog d c84_4 Q))):=
 q_ J (b_ H43 H42 lss_ (e_ (sq_ (cs_ J (fun e=>sk_ (sq_ (bk_ (q_ J ((h.1 e).2.elim fun _ k=>ia_ H41 H43 (h.1 e).1 k.1 J J (lf_ J J J (m_ (e_ (sq_ (W.reg (f_ H2 (l_ J (lk_other J B0) J J (f_ H8 (l_ J (lk_other J B20489) J J (k.2.2.elim fun q o=>ia_ J J k.2.1 o.1 (Fun.row_eq q) J (lf_ J J J (m_ (x2 o.2 fun u _ c=>ca_ (sc2 J J J) c.1 (m_ (x_ J J (x_ J J (s_alloc (so_ J (show lk _ (d,45067)=some (_,([.i .i64 0,.i .u8 0,.i .i64 0,.s [],.sl .full (List.map Val.row ([]:List Val)),.b false]:List AV)) from lk_here) J J J (m_ (e_ (sq_ (q_ J (m_ (nt_ J (e_ (cb_ J (fun j=>q_ J (s_build f_nil (m_ (so_ H5 (lk_other J (lk_other J B2)) J J J (m_ (er_ (hQ _ _ _ _ _ _ _ _ J H5 lk_here J (c.2.1 j)))))))) (fun j=>sk_ (W.reg0 J fun _ _=>f_ H8 (l_ J (lk_other J (lk_other J B20489)) J J (l_ J lk_here J J (s_bslM (f:=Loc.row) (l:=[u]) J J (g_cons J J J g_nil) (by simp only [List.map_cons,List.map_nil,Loc.row_eq];rfl) (s_app Loc.row_len J J J Ab20489.1 (c.2.2 j).1 J (fun _ _ p _ r=>f_ H8 (so_ J (lk_other J (lk_other J B20489)) J J J (e_ (W.reg0 J fun _ _=>b_ H43 J add_ (m_ (e_ (kP0 _ _ _ _ (c.2.2 j).2 _ _ _ _ _ _ _ _ _ H1 H2 H5 H7 H8 H41 H42 J (ApM.mk p (Mine.app Ab20489.2 J r)) (lk_other J (lk_other J (lk_other J B0))) (lk_other J (lk_other J (lk_other J B2))) lk_here)))))))))))))))))))))))))))))))))))))))))))) (fun e=>ex_ (w84_8 hQ H1 H2 H5 H7 H8 Ab20489 B0 B2 B20489 (h.2 e)))))))
include H1 H2 H5 H7 H8 Ab20489 B0 B2 B20489 in
theorem w84_6 (h:T84_6 prog K l1 k7 m0 m2 m20489):W prog d c84_5 σ st Q:=
 sq_ (q_ J (s_mvL H1 (s_slL_lo rowS_len J J (by decide) h.1 (ll_ J (m_ (e_ (bk_ (h.2 (I84_0 prog d Q l1 k7 (l1.drop 1) ((l1.drop 1).length:Int)) (fun _ _ _ _ hb _ _ _ _ _ _ _ _ _ H1 H2 H5 H7 H8 H41 H42 H43 Ab20489 B0 B2 B20489=>W.loop (w84_7 hQ (fun _ _ _ _ x=>x) H1 H2 H5 H7 H8 H41 H42 H43 Ab20489 B0 B2 B20489 hb)) _ _ _ _ _ _ _ _ _ H1 H2 H5 H7 H8 J J J Ab20489 B0 B2 B20489))))))))
include H1 H2 H5 H7 H8 H9 Ab20489 B0 B2 B20489 in
theorem w84_5 (h:T84_5 prog K l1 k7 ok9 m0 m2 m20489):W prog d c84_6 σ st Q:=
 sq_ (q_ J (m_ (nt_ H9 (e_ (cb_ J (fun c=>q_ J (s_build f_nil (m_ (so_ H5 B2 J J J (m_ (er_ (hQ _ _ _ _ _ _ _ _ J H5 lk_here J (h.1 c)))))))) (fun c=>sk_ (w84_6 hQ H1 H2 H5 H7 H8 Ab20489 B0 B2 B20489 (h.2 c))))))))
include H1 H2 H5 B0 B2 in
theorem w84_4 (h:T84_4 prog K l1 m0 m2):W prog d c84_7 σ st Q:=
 sq_ (W.reg (l_ H2 (lk_other J B0) J J (s_mvL H1 (h.elim fun _ e=>ia_ J J (by decide) e.1 J J (lf_ J J J (x2 e.2 fun _ _ k=>k.elim fun _ j=>s_callN (sec J (sec J sen)) (j.1) (fun _ c=>m_ (x_ J J (x_ J J (x_ J J (s_alloc (m_ (so_ J ((c.1 (d,20489) (Nat.lt_succ_self d) key_dn).trans (show lk _ (d,20489)=some (_,([.i .i64 0,.i .i64 0,.i .u64 0,.sl .full (List.map Loc.row ([]:List Loc))]:List AV)) from lk_here)) J J J (m_ (e_ (w84_5 hQ H1 H2 H5 J J J ApM.full (lk_other J ((c.1 (d,0) (Nat.lt_succ_self d) key_dn).trans (lk_other J B0))) (lk_other J ((c.1 (d,2) (Nat.lt_succ_self d) key_dn).trans (lk_other J B2))) lk_here j.2))))))))))))))))
include H1 H2 H5 B0 B2 in
theorem w84_3 (h:T84_3 prog K l1 m0 m2):W prog d c84_8 σ st Q:=
 sq_ (q_ J (s_mvL H1 (ll_ J (b_ J J eql_ (e_ (cs_ J (fun c=>q_ J (s_build f_nil (m_ (so_ H5 B2 J J J (m_ (er_ (hQ _ _ _ _ _ _ _ _ J H5 lk_here J (h.1 c)))))))) (fun c=>sk_ (w84_4 hQ H1 H2 H5 B0 B2 (h.2 c)))))))))
include H1 H2 H5 H22 B0 B2 in
theorem w84_2 (h:T84_2 prog K l1 t22 m0 m2):W prog d c84_0 σ st (thenW prog d c84_8 Q):=
 cb_ H22 (fun c=>q_ J (s_build f_nil (m_ (so_ H5 B2 J J J (m_ (er_ (hQ _ _ _ _ _ _ _ _ J H5 lk_here J (h.1 c)))))))) (fun c=>sk_ (w84_3 hQ H1 H2 H5 B0 B2 (h.2 c)))
include H1 H2 H5 B0 B2 in
theorem w84_1 (h:T84_1 prog K l1 m0 m2):W prog d c84_9 σ st Q:=
 sq_ (q_ J (s_mvL H1 (ll_ J (b_ J J gtr_ (s_mvB J (em_ (g:=19) J (fun c=>z_ 3 J (e_ (w84_2 hQ H1 H2 H5 J B0 B2 (h.1 c)))) (fun c=>gy_ J (s_mvL H1 (gy_ J ((h.2 c).elim fun _ e=>s_callN (sec J (sec J sen)) (e.1 _) (fun _ i=>pf_ J J (e_ (w84_2 hQ H1 H2 H5 J ((i.1 (d,0) (Nat.lt_succ_self d) key_dn).trans B0) ((i.1 (d,2) (Nat.lt_succ_self d) key_dn).trans B2) e.2)))))))))))))
include H0 H1 in
theorem w84_0 (h:T84_0 prog K m0 l1):W prog d (sR 0 r84_0 c84_9) σ st Q:=
 sq_ (W.reg (s_box H0 J (m_ (s_alloc (m_ (e_ (w84_1 (m2:=(Frm.mk 0 0 0 ([]:List Loc))) hQ H1 J J lk_here (lk_other J (show lk _ (d,2)=some (_,([.i .i64 0,.i .i64 0,.i .u64 0,.sl .full (List.map Loc.row ([]:List Loc))]:List AV)) from lk_here)) h)))))))
end
theorem p84 {prog:Prog}(hf:prog.fn 84=some pf84){m0:Img}{l1:LB}{K:Int→Frm→Int→Prop}(h:T84_0 prog K m0 l1) :∃res0:Int,∃res1:Frm,∃res2:Int,K res0 res1 res2∧Pus prog 84 [m0.av,.sl .ext (List.map rowS l1)] (.tup [.i .i64 res0,res1.av,.i .i64 res2]):=by
  obtain ⟨v,hv,res0,res1,res2,hk,rfl⟩:=Pus.of (K:=fun v=>∃res0:Int,∃res1:Frm,∃res2:Int,K res0 res1 res2∧v=.tup [.i .i64 res0,res1.av,.i .i64 res2]) hf rfl (w84_0 (σ:=sl0 [m0.av,.sl .ext (List.map rowS l1)]) (fun σ st k1 v1 o1_0 res0 res1 res2 H4 H5 HB5 H6 hk=>⟨.tup [.i .i64 res0,res1.avo o1_0,.i .i64 res2],by simp only [pf84,ares,aresL,H4,ares_cellA (n:=4) H5 HB5 rfl,H6,ares_tmp,Option.map_some],_,rfl,res0,res1,res2,hk,rfl⟩) rfl rfl h)
  exact ⟨res0,res1,res2,hk,hv⟩
end Go.AM

namespace Go.AM
open Go
set_option maxRecDepth 4000
attribute [local irreducible] WO fillCells fillRows
abbrev H81 (Q:AE→Sl→St→Prop)(K:Bool→Prop):Prop:=∀(σ:Sl)(st:St)(res0:Bool),σ 2=.b res0→K res0→Q .ret σ st
section
variable {prog:Prog}{d:Nat}{Q:AE→Sl→St→Prop}{K:Bool→Prop}(hQ:H81 Q K){σ:Sl}{st:St}
include hQ
end
abbrev H79 (Q:AE→Sl→St→Prop)(K:Bool→Prop):Prop:=∀(σ:Sl)(st:St)(res0:Bool),σ 2=.b res0→K res0→Q .ret σ st
section
variable {prog:Prog}{d:Nat}{Q:AE→Sl→St→Prop}{K:Bool→Prop}(hQ:H79 Q K){σ:Sl}{st:St}
include hQ
end
abbrev H80 (Q:AE→Sl→St→Prop)(K:Bool→Prop):Prop:=∀(σ:Sl)(st:St)(res0:Bool),σ 2=.b res0→K res0→Q .ret σ st
section
variable {prog:Prog}{d:Nat}{Q:AE→Sl→St→Prop}{K:Bool→Prop}(hQ:H80 Q K){σ:Sl}{st:St}
include hQ
end
abbrev H83 (Q:AE→Sl→St→Prop)(K:LB→Int→Prop):Prop:=∀(σ:Sl)(st:St)(o0:Own)(res0:LB)(res1:Int),σ 6=.sl o0 (List.map rowS res0)→σ 7=.i .i64 res1→K res0 res1→Q .ret σ st
section
variable {prog:Prog}{d:Nat}{Q:AE→Sl→St→Prop}{K:LB→Int→Prop}(hQ:H83 Q K){σ:Sl}{st:St}
include hQ
end
abbrev H87 (Q:AE→Sl→St→Prop)(K:Int→Prop):Prop:=∀(σ:Sl)(st:St)(res0:Int),σ 4=.i .i64 res0→K res0→Q .ret σ st
section
variable {prog:Prog}{d:Nat}{Q:AE→Sl→St→Prop}{K:Int→Prop}(hQ:H87 Q K){σ:Sl}{st:St}
include hQ
end
abbrev H114 (Q:AE→Sl→St→Prop)(K:LB→Prop):Prop:=∀(σ:Sl)(st:St)(o0:Own)(res0:LB),σ 6=.sl o0 (List.map rowS res0)→K res0→Q .ret σ st
section
variable {prog:Prog}{d:Nat}{Q:AE→Sl→St→Prop}{K:LB→Prop}(hQ:H114 Q K){σ:Sl}{st:St}
include hQ
end
abbrev H137 (Q:AE→Sl→St→Prop)(K:BS→Prop):Prop:=∀(σ:Sl)(st:St)(res0:BS),σ 2=.s res0→K res0→Q .ret σ st
section
variable {prog:Prog}{d:Nat}{Q:AE→Sl→St→Prop}{K:BS→Prop}(hQ:H137 Q K){σ:Sl}{st:St}
include hQ
end
abbrev H138 (Q:AE→Sl→St→Prop)(K:BS→Prop):Prop:=∀(σ:Sl)(st:St)(res0:BS),σ 2=.s res0→K res0→Q .ret σ st
section
variable {prog:Prog}{d:Nat}{Q:AE→Sl→St→Prop}{K:BS→Prop}(hQ:H138 Q K){σ:Sl}{st:St}
include hQ
end
def r88_0:List AI:=[oY 2 4 0,oY 3 4 1,oC 4 (.b false)]
def r88_1:List AI:=[oF 5 0 2,oL 6 5,oF 7 0 3,oL 8 7,oT 9 .eql 6 8,oM 10 9,gT 10 (oF 11 1 2),gT 10 (oL 12 11),gT 10 (oF 13 1 3),gT 10 (oL 14 13),gT 10 (oT 15 .eql 12 14),oA 16 10 15,oM 17 16,gT 17 (oF 18 2 2),gT 17 (oL 19 18),gT 17 (oF 20 2 3),gT 17 (oL 21 20),gT 17 (oT 22 .eql 19 21),oA 23 17 22,oM 24 23,gT 24 (oF 25 3 2),gT 24 (oL 26 25),gT 24 (oF 27 3 3),gT 24 (oL 28 27),gT 24 (oQ 29 124 [26,28]),oA 30 24 29,oM 4 30]
abbrev b88:AC:=(sR 0 r88_0 (sR 1 r88_1 .ret))
def pf88:AF:={ nt:=31,res:=[.tmp 4],body:=b88 }
def T88_0 (prog:Prog)(K:Bool→Prop)(a0:Frm)(b1:Frm):Prop:=
  (a0.func=b1.func→(a0.pos=b1.pos→(a0.mode=b1.mode→∃c,Pus prog 124 [.sl .ext (List.map Loc.row a0.locals),.sl .ext (List.map Loc.row b1.locals)] (.b c)∧K c)∧(¬(a0.mode=b1.mode)→K false))∧(¬(a0.pos=b1.pos)→K false))∧(¬(a0.func=b1.func)→K false)
section
variable {prog:Prog}{d:Nat}{Q:AE→Sl→St→Prop}{K:Bool→Prop}(hQ:H1 AV.b 4 Q K){σ:Sl}{st:St}
include hQ
variable {a0 b1:Frm}
variable (H0:σ 0=a0.av)(H1:σ 1=b1.av)
include H0 H1 in
theorem w88_0 (h:T88_0 prog K a0 b1):W prog d (sR 0 r88_0 (sR 1 r88_1 .ret)) σ st Q:=
 q_ J (s_box H0 J (s_box H1 J (m_ (e_ (q_ J (f_ J (l_ J (lk_other J lk_here) J J (f_ J (l_ J lk_here J J (b_ J J eql_ (s_mvB J (em_ (g:=10) J (fun c=>gy_ J (f_ J (gy_ J (l_ J (lk_other J lk_here) J J (gy_ J (f_ J (gy_ J (l_ J lk_here J J (gy_ J (b_ J J eql_ (z_ 2 J (em_ (g:=17) J (fun e=>gy_ J (f_ J (gy_ J (l_ J (lk_other J lk_here) J J (gy_ J (f_ J (gy_ J (l_ J lk_here J J (gy_ J (b_ J J eql_ (z_ 2 J (em_ (g:=24) J (fun i=>gy_ J (f_ J (gy_ J (l_ J (lk_other J lk_here) J J (gy_ J (f_ J (gy_ J (l_ J lk_here J J (gy_ J ((((h.1 c).1 e).1 i).elim fun _ j=>ca_ (sc2 J J J) j.1 (z_ 2 J (er_ (hQ J j.2))))))))))))) (fun i=>z_ 7 J (er_ (hQ J (((h.1 c).1 e).2 i)))))))))))))))) (fun e=>z_ 14 J (er_ (hQ J ((h.1 c).2 e)))))))))))))))) (fun c=>z_ 21 J (er_ (hQ J (h.2 c))))))))))))))))
end
theorem p88 {prog:Prog}(hf:prog.fn 88=some pf88){a0:Frm}{b1:Frm}{K:Bool→Prop}(h:T88_0 prog K a0 b1) :∃res0:Bool,K res0∧Pus prog 88 [a0.av,b1.av] (.b res0):=
 P1 hf J (w88_0 (h1 J fun _=>J) J J h)
def r124_0:List AI:=[oC 4 (.b false)]
def r124_1:List AI:=[oM 6 0,oJ 7 6,oM 8 1,oJ 9 8,oT 10 .neq 7 9]
def r124_2:List AI:=[oC 4 (.b false)]
def r124_3:List AI:=[oI 5 0]
def r124_4:List AI:=[oM 11 5,oM 12 0,oJ 13 12,oT 14 .lss 11 13]
def r124_5:List AI:=[oM 17 0,oM 18 5,oX 19 6 17 18,oF 20 0 19,oL 21 20,oM 22 1,oM 23 5,oX 24 6 22 23,oF 25 0 24,oL 26 25,oT 27 .neq 21 26,oM 28 27,gF 28 (oM 29 0),gF 28 (oM 30 5),gF 28 (oX 31 6 29 30),gF 28 (oF 32 1 31),gF 28 (oK 33 5 32),gF 28 (oM 34 1),gF 28 (oM 35 5),gF 28 (oX 36 6 34 35),gF 28 (oF 37 1 36),gF 28 (oK 38 5 37),gF 28 (oQ 39 78 [33,38]),gF 28 (oZ 40 39),oR 41 28 40]
def r124_6:List AI:=[oC 4 (.b false)]
def r124_7:List AI:=[oM 15 5,oV 16 .add 15 1,oM 5 16]
def r124_8:List AI:=[oC 4 (.b true)]
abbrev l124_0:AC:=(.seq (sR 4 r124_4 (.cond (.t 14) .skip (.exit 0))) (.seq (.block 1 (sR 6 r124_5 (.cond (.t 41) (sR 7 r124_6 .ret) .skip))) (.reg 5 r124_7)))
abbrev c124_1:AC:=(sR 8 r124_8 .ret)
abbrev b124:AC:=(sR 0 r124_0 (.seq (sR 1 r124_1 (.cond (.t 10) (sR 2 r124_2 .ret) .skip)) (.seq (sR 3 r124_3 (.block 0 (.loop l124_0))) c124_1)))
def pf124:AF:={ nt:=42,res:=[.tmp 4],body:=b124 }
abbrev I124_0 (prog:Prog)(d:Nat)(Q:AE→Sl→St→Prop)(a0:List Loc)(b1:List Loc)(i5:Int):Prop:=
  ∀(σ:Sl)(st:St) (o_a0 o_b1:Own),σ 0=.sl o_a0 (List.map Loc.row a0)→σ 1=.sl o_b1 (List.map Loc.row b1)→σ 5=.i .i64 i5→W prog d (.loop l124_0) σ st (blockW 0 (thenW prog d c124_1 Q))
def T124_2 (prog:Prog)(K:Bool→Prop) :Prop:=
  K true
def T124_1 (prog:Prog)(K:Bool→Prop)(P0:Int→Prop)(a0:List Loc)(b1:List Loc)(i5:Int):Prop:=
  (i5<(a0.length:Int)→0≤i5∧∃i:Loc,a0[(i5).toNat]?=some i∧0≤i5∧∃c:Loc,b1[(i5).toNat]?=some c∧(i.slot≠c.slot→K false)∧(¬(i.slot≠c.slot)→0≤i5∧∃k:Loc,a0[(i5).toNat]?=some k∧0≤i5∧∃j:Loc,b1[(i5).toNat]?=some j∧∃e,Pus prog 78 [k.value.av,j.value.av] (.b e)∧((!e)=true→K false)∧((!e)=false→P0 (IntKind.i64.wrap (i5+1)))))∧(¬(i5<(a0.length:Int))→T124_2 prog K )
def T124_0 (prog:Prog)(K:Bool→Prop)(a0:List Loc)(b1:List Loc):Prop:=
  ((a0.length:Int)≠(b1.length:Int)→K false)∧(¬((a0.length:Int)≠(b1.length:Int))→∀P0:Int→Prop,(∀(i5:Int),T124_1 prog K P0 a0 b1 i5→P0 i5)→P0 0)
section
variable {prog:Prog}{d:Nat}{Q:AE→Sl→St→Prop}{K:Bool→Prop}(hQ:H1 AV.b 4 Q K){σ:Sl}{st:St}
include hQ
variable {a0 b1:List Loc}{i5:Int}{P0:Int→Prop}{o_a0 o_b1:Own}
variable (kP0 :∀(i5:Int),P0 i5→I124_0 prog d Q a0 b1 i5)(H0:σ 0=.sl o_a0 (List.map Loc.row a0))(H1:σ 1=.sl o_b1 (List.map Loc.row b1))(H5:σ 5=.i .i64 i5)
theorem w124_2 (h:T124_2 prog K ):W prog d c124_1 σ st Q:=
 q_ J (m_ (er_ (hQ J h)))
include kP0 H0 H1 H5 in
theorem w124_1 (h:T124_1 prog K P0 a0 b1 i5):W prog d l124_0 σ st (thenW prog d (.loop l124_0) (blockW 0 (thenW prog d c124_1 Q))):=
 sq_ (q_ J (m_ (s_mvL H0 (ll_ J (b_ H5 J lss_ (e_ (cs_ J (fun e=>sk_ (sq_ (bk_ (q_ J (s_mvL H0 (s_mvI H5 ((h.1 e).2.elim fun r k=>ia_ J J (h.1 e).1 k.1 (Loc.row_eq r) J (ff_ J (lf_ J J J (s_mvL H1 (s_mvI H5 (k.2.2.elim fun s c=>ia_ J J k.2.1 c.1 (Loc.row_eq s) J (ff_ J (lf_ J J J (b_ J J neq_ (s_mvB J (em_ (g:=28) J (fun i=>z_ 13 J (e_ (ct_ J (q_ J (m_ (er_ (hQ J (c.2.1 i)))))))) (fun i=>gy_ J (s_mvL H0 (gy_ J (s_mvI H5 (gy_ J ((c.2.2 i).2.elim fun u o=>ia_ J J (c.2.2 i).1 o.1 (Loc.row_eq u) J (gy_ J (ff_ J (gy_ J (lf_ J J J (gy_ J (s_mvL H1 (gy_ J (s_mvI H5 (gy_ J (o.2.2.elim fun v q=>ia_ J J o.2.1 q.1 (Loc.row_eq v) J (gy_ J (ff_ J (gy_ J (lf_ J J J (gy_ J (q.2.elim fun _ j=>ca_ (sc2 J J J) j.1 (gy_ J (nt_ J (pf_ J J (e_ (cb_ J (fun p=>q_ J (m_ (er_ (hQ J (j.2.1 p))))) (fun p=>sk_ (W.reg0 J fun _ _=>m_ (b_ H5 J add_ (m_ (e_ (kP0 _ (j.2.2 p) _ _ _ _ H0 H1 J)))))))))))))))))))))))))))))))))))))))))))))))))) (fun e=>ex_ (w124_2 hQ (h.2 e))))))))))
include H0 H1 in
theorem w124_0 (h:T124_0 prog K a0 b1):W prog d (sR 0 r124_0 (.seq (sR 1 r124_1 (.cond (.t 10) (sR 2 r124_2 .ret) .skip)) (.seq (sR 3 r124_3 (.block 0 (.loop l124_0))) c124_1))) σ st Q:=
 q_ J (m_ (e_ (sq_ (q_ J (s_mvL H0 (ll_ J (s_mvL H1 (ll_ J (b_ J J neq_ (e_ (cs_ J (fun c=>q_ J (m_ (er_ (hQ J (h.1 c))))) (fun c=>sk_ (sq_ (q_ J (m_ (e_ (bk_ ((h.2 c) (I124_0 prog d Q a0 b1) (fun _ hb _ _ _ _ H0 H1 H5=>W.loop (w124_1 hQ (fun _ x=>x) H0 H1 H5 hb)) _ _ _ _ H0 H1 J))))))))))))))))))
end
theorem p124 {prog:Prog}(hf:prog.fn 124=some pf124){a0:List Loc}{b1:List Loc}{K:Bool→Prop}(h:T124_0 prog K a0 b1) :∃res0:Bool,K res0∧Pus prog 124 [.sl .ext (List.map Loc.row a0),.sl .ext (List.map Loc.row b1)] (.b res0):=
 P1 hf J (w124_0 (h1 J fun _=>J) J J h)
end Go.AM

namespace Go.AM
open Go
set_option maxRecDepth 4000
attribute [local irreducible] WO fillCells fillRows
abbrev H85 (Q:AE→Sl→St→Prop)(K:Int→Frm→Int→Prop):Prop:=∀(σ:Sl)(st:St)(k1:Key)(v1:Nat)(o1_0:Own)(res0:Int)(res1:Frm)(res2:Int),σ 4=.i .i64 res0→σ 5=.p k1 v1 0→lk st.bx k1=some (v1,[.i .i64 res1.func,.i .i64 res1.pos,.i .u64 res1.mode,.sl o1_0 (List.map Loc.row res1.locals)])→σ 6=.i .i64 res2→K res0 res1 res2→Q .ret σ st
section
variable {prog:Prog}{d:Nat}{Q:AE→Sl→St→Prop}{K:Int→Frm→Int→Prop}(hQ:H85 Q K){σ:Sl}{st:St}
include hQ
end
abbrev H120 (d:Nat)(st0:St)(Q:AE→Sl→St→Prop)(K:Int→Frm→Bool→Prop):Prop:=∀(σ:Sl)(st:St)(k1:Key)(v1:Nat)(res0:Int)(res1:Frm)(res2:Bool),σ 4=.i .i64 res0→σ 5=.p k1 v1 0→lk st.bx k1=some (v1,[.i .i64 res1.func,.i .i64 res1.pos,.i .u64 res1.mode,.sl .full (List.map Loc.row res1.locals)])→σ 6=.b res2→Fr d (d,0) st0.bx st0.ow st.bx st.ow→K res0 res1 res2→Q .ret σ st
section
variable {prog:Prog}{d:Nat}{Q:AE→Sl→St→Prop}{K:Int→Frm→Bool→Prop}{st0:St}(hQ:H120 d st0 Q K){σ:Sl}{st:St}
include hQ
end
abbrev H121 (Q:AE→Sl→St→Prop)(K:Loc→Bool→Prop):Prop:=∀(σ:Sl)(st:St)(k0:Key)(v0:Nat)(o0_0:Own)(res0:Loc)(res1:Bool),σ 4=.p k0 v0 0→lk st.bx k0=some (v0,[.i .i64 res0.slot,.i .u8 res0.value.kind,.i .i64 res0.value.int,.s res0.value.text,.sl o0_0 (List.map Val.row res0.value.list),.b res0.value.cut])→σ 5=.b res1→K res0 res1→Q .ret σ st
section
variable {prog:Prog}{d:Nat}{Q:AE→Sl→St→Prop}{K:Loc→Bool→Prop}(hQ:H121 Q K){σ:Sl}{st:St}
include hQ
end
abbrev H142 (Q:AE→Sl→St→Prop)(K:BS→Bool→Prop):Prop:=∀(σ:Sl)(st:St)(res0:BS)(res1:Bool),σ 4=.s res0→σ 5=.b res1→K res0 res1→Q .ret σ st
section
variable {prog:Prog}{d:Nat}{Q:AE→Sl→St→Prop}{K:BS→Bool→Prop}(hQ:H142 Q K){σ:Sl}{st:St}
include hQ
end
abbrev H143 (Q:AE→Sl→St→Prop)(K:Int→BS→Bool→Prop):Prop:=∀(σ:Sl)(st:St)(res0:Int)(res1:BS)(res2:Bool),σ 4=.i .i64 res0→σ 5=.s res1→σ 6=.b res2→K res0 res1 res2→Q .ret σ st
section
variable {prog:Prog}{d:Nat}{Q:AE→Sl→St→Prop}{K:Int→BS→Bool→Prop}(hQ:H143 Q K){σ:Sl}{st:St}
include hQ
end
end Go.AM
