/- Parts of the proof: U44g, U44h, U44i, H44b, H44c, K44b, C30, C30b, V38b, V44, C44, C44b, V38c, V39, V39b, C38. -/
import Derived.Test.YtbcdfamilcmjnaaG5
import Derived.Test.YtbcdfamilcmjnaaG2
import Derived.Test.YtbcdfamilcmjnaaRows
import Derived.Test.YtbcdfamilcmjnaaG3
import Derived.Test.YtbcdfamilcmjnaaG4
import Derived.Shelf.Strings.Builder1
set_option linter.all false
/- Parts of the proof. -/
namespace Go.AM
open Go
set_option linter.unusedVariables false
set_option linter.unusedSimpArgs false
set_option maxRecDepth 4000
attribute [local irreducible] WO fillCells fillRows
def r268_0:List AI:=[oC 2 (.i .i64 0)]
def r268_1:List AI:=[oM 15 0,
 oN 16 15,
 oF 17 7 16,
 oF 18 1 17,
 oL 19 18,
 oM 3 19]
def r268_2:List AI:=[oM 20 3,
 oM 21 0,
 oN 22 21,
 oF 23 3 22,
 oF 24 3 23,
 oL 25 24,
 oO 26 (.len false (.t 25)),
 oB 27 .geq (.t 20) (.t 26)]
def r268_3:List AI:=[oC 2 (.i .i64 6)]
def r268_4:List AI:=[oM 28 0,
 oN 29 28,
 oF 30 3 29,
 oF 31 3 30,
 oL 32 31,
 oM 33 3,
 oO 34 (.iaL 5 (.t 32) (.t 33)),
 oO 35 (.load 5 true (.t 34)),
 oO 4 (.alloc [.i .u8 0,.i .i64 0,.sl .full [],.sl .full [],.sl .full []]),
 oS 5 4 35]
def r268_5:List AI:=[oM 36 0,
 oN 37 36,
 oF 38 7 37,
 oF 39 0 38,
 oL 40 39,
 oB 41 .eql (.t 40) (.c (.i .u8 3)),
 oM 42 41,
 oG 43 (.mv (.t 0)) 42 true,
 oG 44 (.nilc (.t 43)) 42 true,
 oG 45 (.fad 7 (.t 44)) 42 true,
 oG 46 (.fad 2 (.t 45)) 42 true,
 oG 47 (.load 1 false (.t 46)) 42 true,
 oG 48 (.fad 2 (.t 4)) 42 true,
 oG 49 (.load 1 false (.t 48)) 42 true,
 oG 50 (.len false (.t 49)) 42 true,
 oG 51 (.bin .geq (.t 47) (.t 50)) 42 true,
 oO 52 (.pick (.t 42) (.t 51) (.c (.b false)))]
def r268_6:List AI:=[oC 2 (.i .i64 6)]
def r268_7:List AI:=[oM 54 0,
 oN 55 54,
 oF 56 0 55,
 oO 57 (.load 3 true (.t 56)),
 oM 58 3,
 oO 59 (.load 5 true (.t 4)),
 oO 60 (.call false 207 [(.t 57),(.t 58),(.t 59)]),
 oM 53 60,
 oE 61 0 53,
 oE 62 1 53,
 oM 5 61,
 oM 6 62]
def r268_8:List AI:=[oM 63 6,
 oB 64 .neq (.t 63) (.c (.i .i64 0))]
def r268_9:List AI:=[oM 65 6,
 oM 2 65]
def r268_10:List AI:=[oM 66 5,
 oO 67 (.slL 1 (.t 66) (some (.c (.i .i64 1))) none),
 oM 5 67]
def r268_11:List AI:=[oF 68 2 4,
 oL 69 68,
 oO 70 (.len false (.t 69)),
 oC 71 (.i .i64 0)]
def r268_12:List AI:=[oB 72 .lss (.t 71) (.t 70)]
def r268_13:List AI:=[oM 73 71,
 oO 74 (.iaL 4 (.t 69) (.t 71)),
 oO 75 (.load 4 true (.t 74)),
 oO 8 (.alloc [.i .i64 0,.i .i64 0,.i .u64 0,.sl .full []]),
 oM 7 73,
 oS 4 8 75]
def r268_14:List AI:=[oF 76 3 8,
 oL 77 76,
 oO 78 (.len false (.t 77)),
 oB 79 .add (.c (.i .i64 1)) (.t 78),
 oM 9 79]
def r268_15:List AI:=[oM 80 0,
 oN 81 80,
 oF 82 7 81,
 oF 83 0 82,
 oL 84 83,
 oB 85 .eql (.t 84) (.c (.i .u8 2))]
def r268_16:List AI:=[oM 86 0,
 oM 87 5,
 oO 88 (.iaL 1 (.t 87) (.c (.i .i64 0))),
 oL 89 88,
 oO 90 (.slS (.t 89) (some (.c (.i .i64 2))) none),
 oO 91 (.call true 276 [(.t 86),(.t 90)])]
def r268_17:List AI:=[oM 92 0,
 oN 93 92,
 oF 94 7 93,
 oF 95 0 94,
 oL 96 95,
 oB 97 .eql (.t 96) (.c (.i .u8 3)),
 oM 98 97,
 oG 99 (.mv (.t 0)) 98 true,
 oG 100 (.nilc (.t 99)) 98 true,
 oG 101 (.fad 7 (.t 100)) 98 true,
 oG 102 (.fad 2 (.t 101)) 98 true,
 oG 103 (.load 1 false (.t 102)) 98 true,
 oG 104 (.mv (.t 7)) 98 true,
 oG 105 (.bin .eql (.t 103) (.t 104)) 98 true,
 oO 106 (.pick (.t 98) (.t 105) (.c (.b false)))]
def r268_18:List AI:=[oM 107 5,
 oM 108 9,
 oO 109 (.slL 1 (.t 107) (some (.c (.i .i64 1))) (some (.t 108))),
 oO 110 (.len false (.t 109)),
 oC 111 (.i .i64 0)]
def r268_19:List AI:=[oB 112 .lss (.t 111) (.t 110)]
def r268_20:List AI:=[oO 113 (.iaL 1 (.t 109) (.t 111)),
 oL 114 113,
 oM 11 114]
def r268_21:List AI:=[oM 115 0,
 oM 116 11,
 oO 117 (.slS (.t 116) (some (.c (.i .i64 2))) none),
 oO 118 (.call true 276 [(.t 115),(.t 117)])]
def r268_22:List AI:=[oB 119 .add (.t 111) (.c (.i .i64 1)),
 oM 111 119]
def r268_23:List AI:=[oM 120 5,
 oM 121 9,
 oO 122 (.slL 1 (.t 120) (some (.t 121)) none),
 oM 5 122]
def r268_24:List AI:=[oB 123 .add (.t 71) (.c (.i .i64 1)),
 oM 71 123]
def r268_25:List AI:=[oF 124 3 4,
 oL 125 124,
 oO 126 (.len false (.t 125)),
 oM 12 126]
def r268_26:List AI:=[oM 127 0,
 oN 128 127,
 oF 129 7 128,
 oF 130 0 129,
 oL 131 130]
def r268_27:List AI:=[oB 133 .eql (.t 131) (.c (.i .u8 4)),
 oM 132 133]
def r268_28:List AI:=[oM 134 5,
 oM 135 12,
 oO 136 (.slL 1 (.t 134) none (some (.t 135))),
 oM 5 136]
def r268_29:List AI:=[oB 138 .eql (.t 131) (.c (.i .u8 5)),
 oM 137 138]
def r268_30:List AI:=[oM 139 5,
 oM 140 12,
 oO 141 (.slL 1 (.t 139) (some (.t 140)) none),
 oM 5 141]
def r268_31:List AI:=[oC 5 (.sl .full [])]
def r268_32:List AI:=[oM 142 5,
 oO 143 (.len false (.t 142)),
 oC 144 (.i .i64 0)]
def r268_33:List AI:=[oB 145 .lss (.t 144) (.t 143)]
def r268_34:List AI:=[oO 146 (.iaL 1 (.t 142) (.t 144)),
 oL 147 146,
 oM 14 147]
def r268_35:List AI:=[oM 148 0,
 oM 149 14,
 oO 150 (.slS (.t 149) (some (.c (.i .i64 2))) none),
 oO 151 (.call true 276 [(.t 148),(.t 150)])]
def r268_36:List AI:=[oB 152 .add (.t 144) (.c (.i .i64 1)),
 oM 144 152]
def r268_37:List AI:=[oC 2 (.i .i64 0)]
abbrev l268_1:AC:=(.seq (.reg 19 r268_19) (.seq (.cond (.t 112) .skip (.exit 2)) (.seq (.block 3 (.seq (.reg 20 r268_20) (.reg 21 r268_21))) (.reg 22 r268_22))))
abbrev c268_1:AC:=(.cond (.t 106) (.seq (.reg 18 r268_18) (.block 2 (.loop l268_1))) .skip)
abbrev c268_2:AC:=(.reg 23 r268_23)
abbrev c268_3:AC:=(.seq (.seq (.reg 17 r268_17) c268_1) c268_2)
abbrev c268_4:AC:=(.reg 24 r268_24)
abbrev l268_0:AC:=(.seq (.reg 12 r268_12) (.seq (.cond (.t 72) .skip (.exit 0)) (.seq (.block 1 (.seq (.reg 13 r268_13) (.seq (.reg 14 r268_14) (.seq (.seq (.reg 15 r268_15) (.cond (.t 85) (.reg 16 r268_16) .skip)) c268_3)))) c268_4)))
abbrev l268_2:AC:=(.seq (.reg 33 r268_33) (.seq (.cond (.t 145) .skip (.exit 5)) (.seq (.block 6 (.seq (.reg 34 r268_34) (.reg 35 r268_35))) (.reg 36 r268_36))))
abbrev c268_7:AC:=(.seq (.reg 37 r268_37) .ret)
abbrev c268_8:AC:=(.seq (.seq (.reg 32 r268_32) (.block 5 (.loop l268_2))) c268_7)
abbrev c268_9:AC:=(.seq (.reg 25 r268_25) (.seq (.seq (.reg 26 r268_26) (.block 4 (.seq (.reg 28 r268_27) (.cond (.t 132) (.reg 29 r268_28) (.seq (.reg 30 r268_29) (.cond (.t 137) (.reg 31 r268_30) (.reg 27 r268_31))))))) c268_8))
abbrev c268_10:AC:=(.seq (.seq (.reg 11 r268_11) (.block 0 (.loop l268_0))) c268_9)
abbrev c268_11:AC:=(.seq (.reg 10 r268_10) c268_10)
abbrev c268_12:AC:=(.seq (.seq (.reg 8 r268_8) (.cond (.t 64) (.seq (.reg 9 r268_9) .ret) .skip)) c268_11)
abbrev c268_13:AC:=(.seq (.reg 7 r268_7) c268_12)
abbrev c268_14:AC:=(.seq (.seq (.reg 5 r268_5) (.cond (.t 52) (.seq (.reg 6 r268_6) .ret) .skip)) c268_13)
abbrev c268_15:AC:=(.seq (.reg 4 r268_4) c268_14)
abbrev c268_16:AC:=(.seq (.seq (.reg 2 r268_2) (.cond (.t 27) (.seq (.reg 3 r268_3) .ret) .skip)) c268_15)
abbrev c268_17:AC:=(.seq (.reg 1 r268_1) c268_16)
abbrev b268:AC:=(.seq (.reg 0 r268_0) c268_17)
def pf268:AF:={ nt:=153,res:=[.tmp 2],body:=b268 }
abbrev H268 (d:Nat)(st0:St)(kp:Key)(vp:Nat)(Q:AE→Sl→St→Prop)(K:Int→Dsk→Prop):Prop:=∀(σ:Sl)(st:St)(res0:Int)(b_:Dsk),σ 2 = .i .i64 res0→Dk b_ st.bx st.ow kp vp→Fr d kp st0.bx st0.ow st.bx st.ow→K res0 b_→Q .ret σ st
abbrev I268_0 (prog:Prog)(d:Nat)(Q:AE→Sl→St→Prop)(st0:St)(kp:Key)(vp:Nat)(t69:List Frm)(t70:Int)(l5:List (List UInt8))(t71:Int)(m16392:Rou)(mP:Dsk):Prop:=
  ∀(σ:Sl)(st:St) (o_l5 o_t69:Own)(v16392:Nat),σ 0 = .p kp vp 0→σ 4 = .p (d,16392) v16392 0→σ 5 = .sl o_l5 (List.map rowS l5)→σ 69 = .sl o_t69 (List.map Frm.row t69)→σ 70 = .i .i64 t70→σ 71 = .i .i64 t71→lk st.bx (d,16392) = some (v16392,[.i .u8 m16392.status,.i .i64 m16392.key,.sl .ext (List.map Frm.row m16392.frames),.sl .ext (List.map Dfr.row m16392.defers),.sl .ext (List.map Pan.row m16392.panics)])→Dk mP st.bx st.ow kp vp→Fr d kp st0.bx st0.ow st.bx st.ow→W prog d (.loop l268_0) σ st (blockW 0 (thenW prog d c268_9 Q))
abbrev I268_1 (prog:Prog)(d:Nat)(Q:AE→Sl→St→Prop)(st0:St)(kp:Key)(vp:Nat)(l5:List (List UInt8))(n9:Int)(t69:List Frm)(t70:Int)(t71:Int)(t109:List (List UInt8))(t110:Int)(t111:Int)(m16392:Rou)(mP:Dsk):Prop:=
  ∀(σ:Sl)(st:St) (o_l5 o_t69 o_t109:Own)(v16392:Nat),σ 0 = .p kp vp 0→σ 4 = .p (d,16392) v16392 0→σ 5 = .sl o_l5 (List.map rowS l5)→σ 9 = .i .i64 n9→σ 69 = .sl o_t69 (List.map Frm.row t69)→σ 70 = .i .i64 t70→σ 71 = .i .i64 t71→σ 109 = .sl o_t109 (List.map rowS t109)→σ 110 = .i .i64 t110→σ 111 = .i .i64 t111→lk st.bx (d,16392) = some (v16392,[.i .u8 m16392.status,.i .i64 m16392.key,.sl .ext (List.map Frm.row m16392.frames),.sl .ext (List.map Dfr.row m16392.defers),.sl .ext (List.map Pan.row m16392.panics)])→Dk mP st.bx st.ow kp vp→Fr d kp st0.bx st0.ow st.bx st.ow→W prog d (.loop l268_1) σ st (blockW 2 (thenW prog d c268_2 (blockW 1 (thenW prog d c268_4 (thenW prog d (.loop l268_0) (blockW 0 (thenW prog d c268_9 Q)))))))
def T268_14 (prog:Prog)(K:Int→Dsk→Prop)(P0:List (List UInt8)→Int→Rou→Dsk→Prop)(l5:List (List UInt8))(t69:List Frm)(t70:Int)(t71:Int)(m16392:Rou)(mP:Dsk):Prop:=
  P0 l5 (IntKind.i64.wrap (t71 + 1)) m16392 mP
def T268_13 (prog:Prog)(K:Int→Dsk→Prop)(P0:List (List UInt8)→Int→Rou→Dsk→Prop)(l5:List (List UInt8))(n9:Int)(t69:List Frm)(t70:Int)(t71:Int)(m16392:Rou)(mP:Dsk):Prop:=
  0≤n9∧(n9).toNat≤l5.length∧T268_14 prog K P0 (l5.drop (n9).toNat) t69 t70 t71 m16392 mP
def T268_12 (prog:Prog)(K:Int→Dsk→Prop)(P1:Int→Rou→Dsk→Prop)(P0:List (List UInt8)→Int→Rou→Dsk→Prop)(l5:List (List UInt8))(n9:Int)(t69:List Frm)(t70:Int)(t71:Int)(t109:List (List UInt8))(t110:Int)(t111:Int)(m16392:Rou)(mP:Dsk):Prop:=
  (t111 < t110→0≤t111∧∃c'2:List UInt8,t109[(t111).toNat]? = some c'2∧2≤c'2.length∧∃b'9:Dsk,PuX prog 276 (Dk mP) [.s (c'2.drop 2)] (fun r=>r = .tup []) ((Dk b'9))∧P1 (IntKind.i64.wrap (t111 + 1)) m16392 b'9)∧(¬(t111 < t110)→T268_13 prog K P0 l5 n9 t69 t70 t71 m16392 mP)
def T268_11 (prog:Prog)(K:Int→Dsk→Prop)(P0:List (List UInt8)→Int→Rou→Dsk→Prop)(l5:List (List UInt8))(n9:Int)(t69:List Frm)(t70:Int)(t71:Int)(t106:Bool)(m16392:Rou)(mP:Dsk):Prop:=
  (t106 = true→0≤(1:Int)∧1≤n9∧(n9).toNat≤l5.length∧∀P1:Int→Rou→Dsk→Prop,(∀(t111:Int)(m16392:Rou)(mP:Dsk),T268_12 prog K P1 P0 l5 n9 t69 t70 t71 ((l5.drop 1).take ((n9).toNat - 1)) (((l5.drop 1).take ((n9).toNat - 1)).length:Int) t111 m16392 mP→P1 t111 m16392 mP)→P1 0 m16392 mP)∧(t106 = false→T268_13 prog K P0 l5 n9 t69 t70 t71 m16392 mP)
def T268_10 (prog:Prog)(K:Int→Dsk→Prop)(P0:List (List UInt8)→Int→Rou→Dsk→Prop)(l5:List (List UInt8))(k7:Int)(n9:Int)(t69:List Frm)(t70:Int)(t71:Int)(m16392:Rou)(mP:Dsk):Prop:=
  (mP.query.kind = 3→T268_11 prog K P0 l5 n9 t69 t70 t71 (decide (mP.query.k = k7)) m16392 mP)∧(¬(mP.query.kind = 3)→T268_11 prog K P0 l5 n9 t69 t70 t71 false m16392 mP)
abbrev I268_2 (prog:Prog)(d:Nat)(Q:AE→Sl→St→Prop)(st0:St)(kp:Key)(vp:Nat)(t142:List (List UInt8))(t143:Int)(t144:Int)(mP:Dsk):Prop:=
  ∀(σ:Sl)(st:St)(o_t142:Own),σ 0 = .p kp vp 0→σ 142 = .sl o_t142 (List.map rowS t142)→σ 143 = .i .i64 t143→σ 144 = .i .i64 t144→Dk mP st.bx st.ow kp vp→Fr d kp st0.bx st0.ow st.bx st.ow→W prog d (.loop l268_2) σ st (blockW 5 (thenW prog d c268_7 Q))
def T268_18 (prog:Prog)(K:Int→Dsk→Prop)(mP:Dsk):Prop:=
  K 0 mP
def T268_17 (prog:Prog)(K:Int→Dsk→Prop)(P2:Int→Dsk→Prop)(t142:List (List UInt8))(t143:Int)(t144:Int)(mP:Dsk):Prop:=
  (t144 < t143→0≤t144∧∃c'2:List UInt8,t142[(t144).toNat]? = some c'2∧2≤c'2.length∧∃b'9:Dsk,PuX prog 276 (Dk mP) [.s (c'2.drop 2)] (fun r=>r = .tup []) ((Dk b'9))∧P2 (IntKind.i64.wrap (t144 + 1)) b'9)∧(¬(t144 < t143)→T268_18 prog K mP)
def T268_16 (prog:Prog)(K:Int→Dsk→Prop)(l5:List (List UInt8))(mP:Dsk):Prop:=
  ∀P2:Int→Dsk→Prop,(∀(t144:Int)(mP:Dsk),T268_17 prog K P2 l5 (l5.length:Int) t144 mP→P2 t144 mP)→P2 0 mP
def T268_15 (prog:Prog)(K:Int→Dsk→Prop)(l5:List (List UInt8))(m16392:Rou)(mP:Dsk):Prop:=
  (mP.query.kind = 4→0≤(m16392.defers.length:Int)∧(m16392.defers.length:Int).toNat≤l5.length∧T268_16 prog K (l5.take (m16392.defers.length:Int).toNat) mP)∧(¬(mP.query.kind = 4)→(mP.query.kind = 5→0≤(m16392.defers.length:Int)∧(m16392.defers.length:Int).toNat≤l5.length∧T268_16 prog K (l5.drop (m16392.defers.length:Int).toNat) mP)∧(¬(mP.query.kind = 5)→T268_16 prog K ([]:List (List UInt8)) mP))
def T268_9 (prog:Prog)(K:Int→Dsk→Prop)(P0:List (List UInt8)→Int→Rou→Dsk→Prop)(l5:List (List UInt8))(t69:List Frm)(t70:Int)(t71:Int)(m16392:Rou)(mP:Dsk):Prop:=
  (t71 < t70→0≤t71∧∃c'2:Frm,t69[(t71).toNat]? = some c'2∧(mP.query.kind = 2→∃c'5:List UInt8,l5[0]? = some c'5∧2≤c'5.length∧∃b'12:Dsk,PuX prog 276 (Dk mP) [.s (c'5.drop 2)] (fun r=>r = .tup []) ((Dk b'12))∧T268_10 prog K P0 l5 t71 (IntKind.i64.wrap (1 + (c'2.locals.length:Int))) t69 t70 t71 m16392 b'12)∧(¬(mP.query.kind = 2)→T268_10 prog K P0 l5 t71 (IntKind.i64.wrap (1 + (c'2.locals.length:Int))) t69 t70 t71 m16392 mP))∧(¬(t71 < t70)→T268_15 prog K l5 m16392 mP)
def T268_8 (prog:Prog)(K:Int→Dsk→Prop)(l5:List (List UInt8))(m16392:Rou)(mP:Dsk):Prop:=
  ∀P0:List (List UInt8)→Int→Rou→Dsk→Prop,(∀(l5:List (List UInt8))(t71:Int)(m16392_b:Rou)(mP:Dsk),T268_9 prog K P0 l5 m16392.frames (m16392.frames.length:Int) t71 m16392_b mP→P0 l5 t71 m16392_b mP)→P0 l5 0 m16392 mP
def T268_7 (prog:Prog)(K:Int→Dsk→Prop)(l5:List (List UInt8))(m16392:Rou)(mP:Dsk):Prop:=
  1≤l5.length∧T268_8 prog K (l5.drop 1) m16392 mP
def T268_6 (prog:Prog)(K:Int→Dsk→Prop)(l5:List (List UInt8))(e6:Int)(m16392:Rou)(mP:Dsk):Prop:=
  (e6≠0→K e6 mP)∧(¬(e6≠0)→T268_7 prog K l5 m16392 mP)
def T268_5 (prog:Prog)(K:Int→Dsk→Prop)(g3:Int)(m16392:Rou)(mP:Dsk):Prop:=
  ∃r'1:List (List UInt8),∃r'2:Int,Pus prog 207 [mP.image.av,.i .i64 g3,m16392.av] (.tup [.sl .ext (List.map rowS r'1),.i .i64 r'2])∧T268_6 prog K r'1 r'2 m16392 mP
def T268_4 (prog:Prog)(K:Int→Dsk→Prop)(g3:Int)(m16392:Rou)(mP:Dsk):Prop:=
  (mP.query.kind = 3→(mP.query.k ≥ (m16392.frames.length:Int)→K 6 mP)∧(¬(mP.query.k ≥ (m16392.frames.length:Int))→T268_5 prog K g3 m16392 mP))∧(¬(mP.query.kind = 3)→T268_5 prog K g3 m16392 mP)
def T268_3 (prog:Prog)(K:Int→Dsk→Prop)(g3:Int)(mP:Dsk):Prop:=
  0≤g3∧∃c'1:Rou,mP.state.routines[(g3).toNat]? = some c'1∧T268_4 prog K g3 c'1 mP
def T268_2 (prog:Prog)(K:Int→Dsk→Prop)(g3:Int)(mP:Dsk):Prop:=
  (g3 ≥ (mP.state.routines.length:Int)→K 6 mP)∧(¬(g3 ≥ (mP.state.routines.length:Int))→T268_3 prog K g3 mP)
def T268_1 (prog:Prog)(K:Int→Dsk→Prop)(mP:Dsk):Prop:=
  T268_2 prog K mP.query.g mP
def T268_0 (prog:Prog)(K:Int→Dsk→Prop)(mP:Dsk):Prop:=
  T268_1 prog K mP
section
variable {prog:Prog}{d:Nat}{Q:AE→Sl→St→Prop}{K:Int→Dsk→Prop}{st0:St}{kp:Key}{vp:Nat}(hQ:H268 d st0 kp vp Q K)(hkp:kp.1 < d){σ:Sl}{st:St}
include hQ hkp
theorem w268_14 {l5:List (List UInt8)}{t69:List Frm}{t70 t71:Int}{m16392:Rou}{mP:Dsk}{P0:List (List UInt8)→Int→Rou→Dsk→Prop} (kP0 :∀(l5:List (List UInt8))(t71:Int)(m16392:Rou)(mP:Dsk),P0 l5 t71 m16392 mP→I268_0 prog d Q st0 kp vp t69 t70 l5 t71 m16392 mP){o_l5 o_t69:Own}{v16392:Nat}(H0:σ 0 = .p kp vp 0)(H4:σ 4 = .p (d,16392) v16392 0)(H5:σ 5 = .sl o_l5 (List.map rowS l5))(H69:σ 69 = .sl o_t69 (List.map Frm.row t69))(H70:σ 70 = .i .i64 t70)(H71:σ 71 = .i .i64 t71)(B16392:lk st.bx (d,16392) = some (v16392,[.i .u8 m16392.status,.i .i64 m16392.key,.sl .ext (List.map Frm.row m16392.frames),.sl .ext (List.map Dfr.row m16392.defers),.sl .ext (List.map Pan.row m16392.panics)]))(BP:Dk mP st.bx st.ow kp vp)(FR:Fr d kp st0.bx st0.ow st.bx st.ow)(h:T268_14 prog K P0 l5 t69 t70 t71 m16392 mP):W prog d c268_4 σ st (thenW prog d (.loop l268_0) (blockW 0 (thenW prog d c268_9 Q))):=
 W.reg0 rfl fun _ _=>b_ H71 rfl add_ (m_ (e_ (kP0 _ _ _ _ h _ _ _ _ _ H0 H4 H5 H69 H70 rfl B16392 BP FR)))
theorem w268_13 {l5:List (List UInt8)}{n9:Int}{t69:List Frm}{t70 t71:Int}{m16392:Rou}{mP:Dsk}{P0:List (List UInt8)→Int→Rou→Dsk→Prop} (kP0 :∀(l5:List (List UInt8))(t71:Int)(m16392:Rou)(mP:Dsk),P0 l5 t71 m16392 mP→I268_0 prog d Q st0 kp vp t69 t70 l5 t71 m16392 mP){o_l5 o_t69:Own}{v16392:Nat}(H0:σ 0 = .p kp vp 0)(H4:σ 4 = .p (d,16392) v16392 0)(H5:σ 5 = .sl o_l5 (List.map rowS l5))(H9:σ 9 = .i .i64 n9)(H69:σ 69 = .sl o_t69 (List.map Frm.row t69))(H70:σ 70 = .i .i64 t70)(H71:σ 71 = .i .i64 t71)(B16392:lk st.bx (d,16392) = some (v16392,[.i .u8 m16392.status,.i .i64 m16392.key,.sl .ext (List.map Frm.row m16392.frames),.sl .ext (List.map Dfr.row m16392.defers),.sl .ext (List.map Pan.row m16392.panics)]))(BP:Dk mP st.bx st.ow kp vp)(FR:Fr d kp st0.bx st0.ow st.bx st.ow)(h:T268_13 prog K P0 l5 n9 t69 t70 t71 m16392 mP):W prog d c268_2 σ st (blockW 1 (thenW prog d c268_4 (thenW prog d (.loop l268_0) (blockW 0 (thenW prog d c268_9 Q))))):=
 W.reg0 rfl fun _ _=>s_mvL H5 (m_ (s_slL_lo rowS_len rfl H9 h.1 h.2.1 (s_mvL rfl (e_ (w268_14 hQ hkp kP0 H0 H4 rfl H69 H70 H71 B16392 BP FR h.2.2)))))
theorem w268_12 {l5:List (List UInt8)}{n9:Int}{t69:List Frm}{t70 t71:Int}{t109:List (List UInt8)}{t110 t111:Int}{m16392:Rou}{mP:Dsk}{P1:Int→Rou→Dsk→Prop}{P0:List (List UInt8)→Int→Rou→Dsk→Prop} (kP1 :∀(t111:Int)(m16392:Rou)(mP:Dsk),P1 t111 m16392 mP→I268_1 prog d Q st0 kp vp l5 n9 t69 t70 t71 t109 t110 t111 m16392 mP) (kP0 :∀(l5:List (List UInt8))(t71:Int)(m16392:Rou)(mP:Dsk),P0 l5 t71 m16392 mP→I268_0 prog d Q st0 kp vp t69 t70 l5 t71 m16392 mP){o_l5 o_t69 o_t109:Own}{v16392:Nat}(H0:σ 0 = .p kp vp 0)(H4:σ 4 = .p (d,16392) v16392 0)(H5:σ 5 = .sl o_l5 (List.map rowS l5))(H9:σ 9 = .i .i64 n9)(H69:σ 69 = .sl o_t69 (List.map Frm.row t69))(H70:σ 70 = .i .i64 t70)(H71:σ 71 = .i .i64 t71)(H109:σ 109 = .sl o_t109 (List.map rowS t109))(H110:σ 110 = .i .i64 t110)(H111:σ 111 = .i .i64 t111)(B16392:lk st.bx (d,16392) = some (v16392,[.i .u8 m16392.status,.i .i64 m16392.key,.sl .ext (List.map Frm.row m16392.frames),.sl .ext (List.map Dfr.row m16392.defers),.sl .ext (List.map Pan.row m16392.panics)]))(BP:Dk mP st.bx st.ow kp vp)(FR:Fr d kp st0.bx st0.ow st.bx st.ow)(h:T268_12 prog K P1 P0 l5 n9 t69 t70 t71 t109 t110 t111 m16392 mP):W prog d l268_1 σ st (thenW prog d (.loop l268_1) (blockW 2 (thenW prog d c268_2 (blockW 1 (thenW prog d c268_4 (thenW prog d (.loop l268_0) (blockW 0 (thenW prog d c268_9 Q)))))))):=
 q_ rfl (b_ H111 H110 lss_ (e_ (sq_ (cs_ rfl (fun g'1=>sk_ (sq_ (bk_ (q_ rfl ((h.1 g'1).2.elim fun c'2 e'3=>ia_ H109 H111 (h.1 g'1).1 e'3.1 rfl rfl (lf_ rfl rfl rfl (m_ (e_ (W.reg0 rfl fun _ _=>m_ (m_ (s_slS_lo rfl rfl (by decide) e'3.2.1 (e'3.2.2.elim fun b'9 e'5=>cX_ (sec H0 (sec rfl sen)) e'5.1 (Nat.lt_succ_of_lt hkp) BP (fun st'6 hb'7 hf'8=>e_ (W.reg0 rfl fun _ _=>b_ H111 rfl add_ (m_ (e_ (kP1 _ _ _ e'5.2 _ _ _ _ _ _ H0 H4 H5 H9 H69 H70 H71 H109 H110 rfl ((hf'8.1 (d,16392) (Nat.lt_succ_self d) (key_LP hkp)).trans B16392) hb'7 (Fr.pass FR hf'8)))))))))))))))))) (fun g'1=>ex_ (w268_13 hQ hkp kP0 H0 H4 H5 H9 H69 H70 H71 B16392 BP FR (h.2 g'1)))))))
theorem w268_11 {l5:List (List UInt8)}{n9:Int}{t69:List Frm}{t70 t71:Int}{t106:Bool}{m16392:Rou}{mP:Dsk}{P0:List (List UInt8)→Int→Rou→Dsk→Prop} (kP0 :∀(l5:List (List UInt8))(t71:Int)(m16392:Rou)(mP:Dsk),P0 l5 t71 m16392 mP→I268_0 prog d Q st0 kp vp t69 t70 l5 t71 m16392 mP){o_l5 o_t69:Own}{v16392:Nat}(H0:σ 0 = .p kp vp 0)(H4:σ 4 = .p (d,16392) v16392 0)(H5:σ 5 = .sl o_l5 (List.map rowS l5))(H9:σ 9 = .i .i64 n9)(H69:σ 69 = .sl o_t69 (List.map Frm.row t69))(H70:σ 70 = .i .i64 t70)(H71:σ 71 = .i .i64 t71)(H106:σ 106 = .b t106)(B16392:lk st.bx (d,16392) = some (v16392,[.i .u8 m16392.status,.i .i64 m16392.key,.sl .ext (List.map Frm.row m16392.frames),.sl .ext (List.map Dfr.row m16392.defers),.sl .ext (List.map Pan.row m16392.panics)]))(BP:Dk mP st.bx st.ow kp vp)(FR:Fr d kp st0.bx st0.ow st.bx st.ow)(h:T268_11 prog K P0 l5 n9 t69 t70 t71 t106 m16392 mP):W prog d c268_1 σ st (thenW prog d c268_2 (blockW 1 (thenW prog d c268_4 (thenW prog d (.loop l268_0) (blockW 0 (thenW prog d c268_9 Q)))))):=
 cb_ H106 (fun g'1=>q_ rfl (s_mvL H5 (m_ (s_slL rowS_len rfl rfl H9 (h.1 g'1).1 (h.1 g'1).2.1 (h.1 g'1).2.2.1 (ll_ rfl (m_ (e_ (bk_ ((h.1 g'1).2.2.2 (I268_1 prog d Q st0 kp vp l5 n9 t69 t70 t71 ((l5.drop 1).take ((n9).toNat - 1)) (((l5.drop 1).take ((n9).toNat - 1)).length:Int)) (fun _ _ _ hb _ _ _ _ _ _ H0 H4 H5 H9 H69 H70 H71 H109 H110 H111 B16392 BP FR=>W.loop (w268_12 hQ hkp (fun _ _ _ x=>x) kP0 H0 H4 H5 H9 H69 H70 H71 H109 H110 H111 B16392 BP FR hb)) _ _ _ _ _ _ H0 H4 H5 H9 H69 H70 H71 rfl rfl rfl B16392 BP FR))))))))) (fun g'1=>sk_ (w268_13 hQ hkp kP0 H0 H4 H5 H9 H69 H70 H71 B16392 BP FR (h.2 g'1)))
theorem w268_10 {l5:List (List UInt8)}{k7 n9:Int}{t69:List Frm}{t70 t71:Int}{m16392:Rou}{mP:Dsk}{P0:List (List UInt8)→Int→Rou→Dsk→Prop} (kP0 :∀(l5:List (List UInt8))(t71:Int)(m16392:Rou)(mP:Dsk),P0 l5 t71 m16392 mP→I268_0 prog d Q st0 kp vp t69 t70 l5 t71 m16392 mP){o_l5 o_t69:Own}{v16392:Nat}(H0:σ 0 = .p kp vp 0)(H4:σ 4 = .p (d,16392) v16392 0)(H5:σ 5 = .sl o_l5 (List.map rowS l5))(H7:σ 7 = .i .i64 k7)(H9:σ 9 = .i .i64 n9)(H69:σ 69 = .sl o_t69 (List.map Frm.row t69))(H70:σ 70 = .i .i64 t70)(H71:σ 71 = .i .i64 t71)(B16392:lk st.bx (d,16392) = some (v16392,[.i .u8 m16392.status,.i .i64 m16392.key,.sl .ext (List.map Frm.row m16392.frames),.sl .ext (List.map Dfr.row m16392.defers),.sl .ext (List.map Pan.row m16392.panics)]))(BP:Dk mP st.bx st.ow kp vp)(FR:Fr d kp st0.bx st0.ow st.bx st.ow)(h:T268_10 prog K P0 l5 k7 n9 t69 t70 t71 m16392 mP):W prog d c268_3 σ st (blockW 1 (thenW prog d c268_4 (thenW prog d (.loop l268_0) (blockW 0 (thenW prog d c268_9 Q))))):=
 sq_ (q_ rfl (s_mv H0 (s_nilP rfl (f_ rfl (f_ rfl (s_loadD rfl BP rfl rfl (b_ rfl rfl eql_ (s_mvB rfl (em_ (g:=98) rfl (fun g'1=>gy_ rfl (s_mv H0 (gy_ rfl (s_nilP rfl (gy_ rfl (f_ rfl (gy_ rfl (f_ rfl (gy_ rfl (s_loadD rfl BP rfl rfl (gy_ rfl (s_mvI H7 (gy_ rfl (b_ rfl rfl eql_ (pt_ rfl rfl (e_ (w268_11 hQ hkp kP0 H0 H4 H5 H9 H69 H70 H71 rfl B16392 BP FR (h.1 g'1)))))))))))))))))) (fun g'1=>gn_ (b:=false) rfl rfl (gn_ (b:=false) rfl rfl (gn_ (b:=false) rfl rfl (gn_ (b:=false) rfl rfl (gn_ (b:=false) rfl rfl (gn_ (b:=false) rfl rfl (gn_ (b:=false) rfl rfl (pf_ rfl rfl (e_ (w268_11 hQ hkp kP0 H0 H4 H5 H9 H69 H70 H71 rfl B16392 BP FR (h.2 g'1))))))))))))))))))))
theorem w268_18 {mP:Dsk}(BP:Dk mP st.bx st.ow kp vp)(FR:Fr d kp st0.bx st0.ow st.bx st.ow)(h:T268_18 prog K mP):W prog d c268_7 σ st Q:=
 q_ rfl (m_ (e_ (rt_ (hQ _ _ _ _ rfl BP FR h))))
theorem w268_17 {t142:List (List UInt8)}{t143 t144:Int}{mP:Dsk}{P2:Int→Dsk→Prop} (kP2 :∀(t144:Int)(mP:Dsk),P2 t144 mP→I268_2 prog d Q st0 kp vp t142 t143 t144 mP){o_t142:Own}(H0:σ 0 = .p kp vp 0)(H142:σ 142 = .sl o_t142 (List.map rowS t142))(H143:σ 143 = .i .i64 t143)(H144:σ 144 = .i .i64 t144)(BP:Dk mP st.bx st.ow kp vp)(FR:Fr d kp st0.bx st0.ow st.bx st.ow)(h:T268_17 prog K P2 t142 t143 t144 mP):W prog d l268_2 σ st (thenW prog d (.loop l268_2) (blockW 5 (thenW prog d c268_7 Q))):=
 q_ rfl (b_ H144 H143 lss_ (e_ (sq_ (cs_ rfl (fun g'1=>sk_ (sq_ (bk_ (q_ rfl ((h.1 g'1).2.elim fun c'2 e'3=>ia_ H142 H144 (h.1 g'1).1 e'3.1 rfl rfl (lf_ rfl rfl rfl (m_ (e_ (W.reg0 rfl fun _ _=>m_ (m_ (s_slS_lo rfl rfl (by decide) e'3.2.1 (e'3.2.2.elim fun b'9 e'5=>cX_ (sec H0 (sec rfl sen)) e'5.1 (Nat.lt_succ_of_lt hkp) BP (fun st'6 hb'7 hf'8=>e_ (W.reg0 rfl fun _ _=>b_ H144 rfl add_ (m_ (e_ (kP2 _ _ e'5.2 _ _ _ H0 H142 H143 rfl hb'7 (Fr.pass FR hf'8)))))))))))))))))) (fun g'1=>ex_ (w268_18 hQ hkp BP FR (h.2 g'1)))))))
theorem w268_16 {l5:List (List UInt8)}{mP:Dsk}{o_l5:Own}(H0:σ 0 = .p kp vp 0)(H5:σ 5 = .sl o_l5 (List.map rowS l5))(BP:Dk mP st.bx st.ow kp vp)(FR:Fr d kp st0.bx st0.ow st.bx st.ow)(h:T268_16 prog K l5 mP):W prog d c268_8 σ st Q:=
 sq_ (q_ rfl (s_mvL H5 (ll_ rfl (m_ (e_ (bk_ (h (I268_2 prog d Q st0 kp vp l5 (l5.length:Int)) (fun _ _ hb _ _ _ H0 H142 H143 H144 BP FR=>W.loop (w268_17 hQ hkp (fun _ _ x=>x) H0 H142 H143 H144 BP FR hb)) _ _ _ H0 rfl rfl rfl BP FR)))))))
theorem w268_15 {l5:List (List UInt8)}{m16392:Rou}{mP:Dsk}{o_l5:Own}{v16392:Nat}(H0:σ 0 = .p kp vp 0)(H4:σ 4 = .p (d,16392) v16392 0)(H5:σ 5 = .sl o_l5 (List.map rowS l5))(B16392:lk st.bx (d,16392) = some (v16392,[.i .u8 m16392.status,.i .i64 m16392.key,.sl .ext (List.map Frm.row m16392.frames),.sl .ext (List.map Dfr.row m16392.defers),.sl .ext (List.map Pan.row m16392.panics)]))(BP:Dk mP st.bx st.ow kp vp)(FR:Fr d kp st0.bx st0.ow st.bx st.ow)(h:T268_15 prog K l5 m16392 mP):W prog d c268_9 σ st Q:=
 q_ rfl (f_ H4 (l_ rfl B16392 rfl rfl (ll_ rfl (m_ (e_ (sq_ (q_ rfl (m_ (s_nilP H0 (f_ rfl (f_ rfl (s_loadD rfl BP rfl rfl (e_ (bk_ (q_ rfl (b_ rfl rfl eql_ (m_ (e_ (cs_ rfl (fun g'1=>W.reg0 rfl fun _ _=>s_mvL H5 (m_ (s_slL_hi rowS_len rfl rfl (h.1 g'1).1 (h.1 g'1).2.1 (s_mvL rfl (e_ (w268_16 hQ hkp H0 rfl BP FR (h.1 g'1).2.2)))))) (fun g'1=>q_ rfl (b_ rfl rfl eql_ (m_ (e_ (cs_ rfl (fun g'2=>W.reg0 rfl fun _ _=>s_mvL H5 (m_ (s_slL_lo rowS_len rfl rfl ((h.2 g'1).1 g'2).1 ((h.2 g'1).1 g'2).2.1 (s_mvL rfl (e_ (w268_16 hQ hkp H0 rfl BP FR ((h.2 g'1).1 g'2).2.2)))))) (fun g'2=>W.reg0 rfl fun _ _=>s_mvL (f:=rowS) (l:=[]) rfl (e_ (w268_16 hQ hkp H0 rfl BP FR ((h.2 g'1).2 g'2))))))))))))))))))))))))))))
theorem w268_9 {l5:List (List UInt8)}{t69:List Frm}{t70 t71:Int}{m16392:Rou}{mP:Dsk}{P0:List (List UInt8)→Int→Rou→Dsk→Prop} (kP0 :∀(l5:List (List UInt8))(t71:Int)(m16392:Rou)(mP:Dsk),P0 l5 t71 m16392 mP→I268_0 prog d Q st0 kp vp t69 t70 l5 t71 m16392 mP){o_l5 o_t69:Own}{v16392:Nat}(H0:σ 0 = .p kp vp 0)(H4:σ 4 = .p (d,16392) v16392 0)(H5:σ 5 = .sl o_l5 (List.map rowS l5))(H69:σ 69 = .sl o_t69 (List.map Frm.row t69))(H70:σ 70 = .i .i64 t70)(H71:σ 71 = .i .i64 t71)(B16392:lk st.bx (d,16392) = some (v16392,[.i .u8 m16392.status,.i .i64 m16392.key,.sl .ext (List.map Frm.row m16392.frames),.sl .ext (List.map Dfr.row m16392.defers),.sl .ext (List.map Pan.row m16392.panics)]))(BP:Dk mP st.bx st.ow kp vp)(FR:Fr d kp st0.bx st0.ow st.bx st.ow)(h:T268_9 prog K P0 l5 t69 t70 t71 m16392 mP):W prog d l268_0 σ st (thenW prog d (.loop l268_0) (blockW 0 (thenW prog d c268_9 Q))):=
 q_ rfl (b_ H71 H70 lss_ (e_ (sq_ (cs_ rfl (fun g'1=>sk_ (sq_ (bk_ (sq_ (W.reg (m_ ((h.1 g'1).2.elim fun c'2 e'3=>ia_ H69 H71 (h.1 g'1).1 e'3.1 (Frm.row_eq c'2) rfl (lf_ rfl rfl rfl (s_alloc (m_ (so_ rfl (show lk _ (d,53251) = some (_,([.i .i64 0,.i .i64 0,.i .u64 0,.sl .full (List.map Loc.row ([]:List Loc))]:List AV)) from lk_here) rfl rfl rfl (e_ (q_ rfl (f_ rfl (l_ rfl lk_here rfl rfl (ll_ rfl (b_ rfl rfl add_ (m_ (e_ (sq_ (q_ rfl (m_ (s_nilP H0 (f_ rfl (f_ rfl (s_loadD rfl (Dk.other (key_LP hkp) (Dk.other (key_LP hkp) BP)) rfl rfl (b_ rfl rfl eql_ (e_ (cs_ rfl (fun g'4=>W.reg0 rfl fun _ _=>m_ (s_mvL H5 ((e'3.2.1 g'4).elim fun c'5 e'6=>ia_ rfl rfl (by decide) e'6.1 rfl rfl (lf_ rfl rfl rfl (s_slS_lo rfl rfl (by decide) e'6.2.1 (e'6.2.2.elim fun b'12 e'8=>cX_ (sec H0 (sec rfl sen)) e'8.1 (Nat.lt_succ_of_lt hkp) (Dk.other (key_LP hkp) (Dk.other (key_LP hkp) BP)) (fun st'9 hb'10 hf'11=>e_ (w268_10 hQ hkp kP0 H0 H4 H5 H71 rfl H69 H70 H71 ((hf'11.1 (d,16392) (Nat.lt_succ_self d) (key_LP hkp)).trans (lk_other rfl (lk_other rfl B16392))) hb'10 (Fr.pass (Fr.box (Fr.box FR)) hf'11) e'8.2)))))))) (fun g'4=>sk_ (w268_10 hQ hkp kP0 H0 H4 H5 H71 rfl H69 H70 H71 (lk_other rfl (lk_other rfl B16392)) (Dk.other (key_LP hkp) (Dk.other (key_LP hkp) BP)) (Fr.box (Fr.box FR)) (e'3.2.2 g'4)))))))))))))))))))))))))))))))) (fun g'1=>ex_ (w268_15 hQ hkp H0 H4 H5 B16392 BP FR (h.2 g'1)))))))
theorem w268_8 {l5:List (List UInt8)}{m16392:Rou}{mP:Dsk}{o_l5:Own}{v16392:Nat}(H0:σ 0 = .p kp vp 0)(H4:σ 4 = .p (d,16392) v16392 0)(H5:σ 5 = .sl o_l5 (List.map rowS l5))(B16392:lk st.bx (d,16392) = some (v16392,[.i .u8 m16392.status,.i .i64 m16392.key,.sl .ext (List.map Frm.row m16392.frames),.sl .ext (List.map Dfr.row m16392.defers),.sl .ext (List.map Pan.row m16392.panics)]))(BP:Dk mP st.bx st.ow kp vp)(FR:Fr d kp st0.bx st0.ow st.bx st.ow)(h:T268_8 prog K l5 m16392 mP):W prog d c268_10 σ st Q:=
 sq_ (q_ rfl (f_ H4 (l_ rfl B16392 rfl rfl (ll_ rfl (m_ (e_ (bk_ (h (I268_0 prog d Q st0 kp vp m16392.frames (m16392.frames.length:Int)) (fun _ _ _ _ hb _ _ _ _ _ H0 H4 H5 H69 H70 H71 B16392 BP FR=>W.loop (w268_9 hQ hkp (fun _ _ _ _ x=>x) H0 H4 H5 H69 H70 H71 B16392 BP FR hb)) _ _ _ _ _ H0 H4 H5 rfl rfl rfl B16392 BP FR))))))))
theorem w268_7 {l5:List (List UInt8)}{m16392:Rou}{mP:Dsk}{o_l5:Own}{v16392:Nat}(H0:σ 0 = .p kp vp 0)(H4:σ 4 = .p (d,16392) v16392 0)(H5:σ 5 = .sl o_l5 (List.map rowS l5))(B16392:lk st.bx (d,16392) = some (v16392,[.i .u8 m16392.status,.i .i64 m16392.key,.sl .ext (List.map Frm.row m16392.frames),.sl .ext (List.map Dfr.row m16392.defers),.sl .ext (List.map Pan.row m16392.panics)]))(BP:Dk mP st.bx st.ow kp vp)(FR:Fr d kp st0.bx st0.ow st.bx st.ow)(h:T268_7 prog K l5 m16392 mP):W prog d c268_11 σ st Q:=
 q_ rfl (s_mvL H5 (s_slL_lo rowS_len rfl rfl (by decide) h.1 (s_mvL rfl (e_ (w268_8 hQ hkp H0 H4 rfl B16392 BP FR h.2)))))
theorem w268_6 {l5:List (List UInt8)}{e6:Int}{m16392:Rou}{mP:Dsk}{o_l5:Own}{v16392:Nat}(H0:σ 0 = .p kp vp 0)(H4:σ 4 = .p (d,16392) v16392 0)(H5:σ 5 = .sl o_l5 (List.map rowS l5))(H6:σ 6 = .i .i64 e6)(B16392:lk st.bx (d,16392) = some (v16392,[.i .u8 m16392.status,.i .i64 m16392.key,.sl .ext (List.map Frm.row m16392.frames),.sl .ext (List.map Dfr.row m16392.defers),.sl .ext (List.map Pan.row m16392.panics)]))(BP:Dk mP st.bx st.ow kp vp)(FR:Fr d kp st0.bx st0.ow st.bx st.ow)(h:T268_6 prog K l5 e6 m16392 mP):W prog d c268_12 σ st Q:=
 sq_ (q_ rfl (m_ (b_ H6 rfl neq_ (e_ (cs_ rfl (fun g'1=>q_ rfl (m_ (m_ (e_ (rt_ (hQ _ _ _ _ H6 BP FR (h.1 g'1))))))) (fun g'1=>sk_ (w268_7 hQ hkp H0 H4 H5 B16392 BP FR (h.2 g'1))))))))
theorem w268_5 {g3:Int}{m16392:Rou}{mP:Dsk}{v16392:Nat}(H0:σ 0 = .p kp vp 0)(H3:σ 3 = .i .i64 g3)(H4:σ 4 = .p (d,16392) v16392 0)(B16392:lk st.bx (d,16392) = some (v16392,[.i .u8 m16392.status,.i .i64 m16392.key,.sl .ext (List.map Frm.row m16392.frames),.sl .ext (List.map Dfr.row m16392.defers),.sl .ext (List.map Pan.row m16392.panics)]))(BP:Dk mP st.bx st.ow kp vp)(FR:Fr d kp st0.bx st0.ow st.bx st.ow)(h:T268_5 prog K g3 m16392 mP):W prog d c268_13 σ st Q:=
 q_ rfl (m_ (s_nilP H0 (f_ rfl (s_loadD rfl BP rfl rfl (m_ (l_ H4 B16392 rfl rfl (h.elim fun r'1 e'4=>e'4.elim fun r'2 e'3=>ca_ (sc rfl rfl (sc H3 rfl (sc rfl rfl sn))) e'3.1 (m_ (x_ rfl rfl (x_ rfl rfl (s_mvL rfl (m_ (e_ (w268_6 hQ hkp H0 H4 rfl rfl B16392 BP FR e'3.2))))))))))))))
theorem w268_4 {g3:Int}{m16392:Rou}{mP:Dsk}{v16392:Nat}(H0:σ 0 = .p kp vp 0)(H3:σ 3 = .i .i64 g3)(H4:σ 4 = .p (d,16392) v16392 0)(B16392:lk st.bx (d,16392) = some (v16392,[.i .u8 m16392.status,.i .i64 m16392.key,.sl .ext (List.map Frm.row m16392.frames),.sl .ext (List.map Dfr.row m16392.defers),.sl .ext (List.map Pan.row m16392.panics)]))(BP:Dk mP st.bx st.ow kp vp)(FR:Fr d kp st0.bx st0.ow st.bx st.ow)(h:T268_4 prog K g3 m16392 mP):W prog d c268_14 σ st Q:=
 sq_ (q_ rfl (s_mv H0 (s_nilP rfl (f_ rfl (f_ rfl (s_loadD rfl BP rfl rfl (b_ rfl rfl eql_ (s_mvB rfl (em_ (g:=42) rfl (fun g'1=>gy_ rfl (s_mv H0 (gy_ rfl (s_nilP rfl (gy_ rfl (f_ rfl (gy_ rfl (f_ rfl (gy_ rfl (s_loadD rfl BP rfl rfl (gy_ rfl (f_ H4 (gy_ rfl (l_ rfl B16392 rfl rfl (gy_ rfl (ll_ rfl (gy_ rfl (b_ rfl rfl geq_ (pt_ rfl rfl (e_ (cs_ rfl (fun g'2=>q_ rfl (m_ (e_ (rt_ (hQ _ _ _ _ rfl BP FR ((h.1 g'1).1 g'2)))))) (fun g'2=>sk_ (w268_5 hQ hkp H0 H3 H4 B16392 BP FR ((h.1 g'1).2 g'2)))))))))))))))))))))))) (fun g'1=>gn_ (b:=false) rfl rfl (gn_ (b:=false) rfl rfl (gn_ (b:=false) rfl rfl (gn_ (b:=false) rfl rfl (gn_ (b:=false) rfl rfl (gn_ (b:=false) rfl rfl (gn_ (b:=false) rfl rfl (gn_ (b:=false) rfl rfl (gn_ (b:=false) rfl rfl (pf_ rfl rfl (e_ (cf_ rfl (sk_ (w268_5 hQ hkp H0 H3 H4 B16392 BP FR (h.2 g'1))))))))))))))))))))))))
theorem w268_3 {g3:Int}{mP:Dsk}(H0:σ 0 = .p kp vp 0)(H3:σ 3 = .i .i64 g3)(BP:Dk mP st.bx st.ow kp vp)(FR:Fr d kp st0.bx st0.ow st.bx st.ow)(h:T268_3 prog K g3 mP):W prog d c268_15 σ st Q:=
 sq_ (W.reg (m_ (s_nilP H0 (f_ rfl (f_ rfl (s_loadD rfl (Dk.other (key_LP hkp) BP) rfl rfl (m_ (h.2.elim fun c'1 e'2=>ia_ rfl H3 h.1 e'2.1 (Rou.row_eq c'1) rfl (lf_ rfl rfl rfl (s_alloc (so_ rfl (show lk _ (d,16392) = some (_,([.i .u8 0,.i .i64 0,.sl .full (List.map Frm.row ([]:List Frm)),.sl .full (List.map Dfr.row ([]:List Dfr)),.sl .full (List.map Pan.row ([]:List Pan))]:List AV)) from lk_here) rfl rfl rfl (e_ (w268_4 hQ hkp H0 H3 rfl lk_here (Dk.other (key_LP hkp) (Dk.other (key_LP hkp) BP)) (Fr.box (Fr.box FR)) e'2.2)))))))))))))
theorem w268_2 {g3:Int}{mP:Dsk}(H0:σ 0 = .p kp vp 0)(H3:σ 3 = .i .i64 g3)(BP:Dk mP st.bx st.ow kp vp)(FR:Fr d kp st0.bx st0.ow st.bx st.ow)(h:T268_2 prog K g3 mP):W prog d c268_16 σ st Q:=
 sq_ (q_ rfl (m_ (m_ (s_nilP H0 (f_ rfl (f_ rfl (s_loadD rfl BP rfl rfl (ll_ rfl (b_ H3 rfl geq_ (e_ (cs_ rfl (fun g'1=>q_ rfl (m_ (e_ (rt_ (hQ _ _ _ _ rfl BP FR (h.1 g'1)))))) (fun g'1=>sk_ (w268_3 hQ hkp H0 H3 BP FR (h.2 g'1))))))))))))))
theorem w268_1 {mP:Dsk}(H0:σ 0 = .p kp vp 0)(BP:Dk mP st.bx st.ow kp vp)(FR:Fr d kp st0.bx st0.ow st.bx st.ow)(h:T268_1 prog K mP):W prog d c268_17 σ st Q:=
 q_ rfl (m_ (s_nilP H0 (f_ rfl (f_ rfl (s_loadD rfl BP rfl rfl (m_ (e_ (w268_2 hQ hkp H0 rfl BP FR h))))))))
theorem w268_0 {mP:Dsk}(H0:σ 0 = .p kp vp 0)(BP:Dk mP st.bx st.ow kp vp)(FR:Fr d kp st0.bx st0.ow st.bx st.ow)(h:T268_0 prog K mP):W prog d (.seq (.reg 0 r268_0) c268_17) σ st Q:=
 q_ rfl (m_ (e_ (w268_1 hQ hkp H0 BP FR h)))
end
theorem p268 {prog:Prog}(hf:prog.fn 268 = some pf268){mP:Dsk}{K:Int→Dsk→Prop}(h:T268_0 prog K mP):PuXK prog 268 (Dk mP) [] (fun r (b_:Dsk)=>∃res0:Int,(r = .i .i64 res0)∧K res0 b_) (fun b_=>(Dk b_)):=
  PuXK.of hf rfl (fun _=>Dk.out) fun d st kp vp hkp hB=>w268_0 (st0:=st) (Q:=fun e σ st'=>(e = .normal∨e = .ret)∧∃r b_,ares σ st' pf268.res = some r∧_∧_∧Fr d kp st.bx st.ow st'.bx st'.ow) (fun σ st'   res0 b_ H2 hb hf hk=>⟨.inr rfl,.i .i64 res0,b_,by simp only [pf268,ares,aresL,H2,ares1,Option.map_some,H2],⟨res0,rfl,hk⟩,hb,hf⟩) hkp (σ:=sl0 [.p kp vp 0]) rfl hB Fr.refl h
end Go.AM

/- Parts of the proof. -/
namespace Go.AM
open Go
set_option linter.unusedVariables false
set_option linter.unusedSimpArgs false
set_option maxRecDepth 4000
attribute [local irreducible] WO fillCells fillRows
def r249_0:List AI:=[oO 2 (.box 5 (.t 0)),
 oC 4 (.b false)]
def r249_1:List AI:=[oO 10 (.load 5 true (.t 2)),
 oO 11 (.call false 243 [(.t 10)]),
 oM 9 11,
 oE 12 0 9,
 oE 13 1 9,
 oM 5 12,
 oM 6 13]
def r249_2:List AI:=[oM 15 1,
 oO 16 (.call false 245 [(.t 15)]),
 oM 14 16,
 oE 17 0 14,
 oE 18 1 14,
 oO 7 (.alloc [.i .u8 0,.i .i64 0,.i .i64 0,.i .i64 0,.s []]),
 oS 5 7 17,
 oM 8 18]
def r249_3:List AI:=[oM 19 6,
 oB 20 .eql (.t 19) (.c (.i .i64 0)),
 oM 21 20,
 oG 22 (.mv (.t 5)) 21 true,
 oG 23 (.mv (.t 1)) 21 true,
 oG 24 (.bin .eql (.t 22) (.t 23)) 21 true,
 oO 25 (.pick (.t 21) (.t 24) (.c (.b false))),
 oM 26 25,
 oG 27 (.mv (.t 8)) 26 true,
 oG 28 (.bin .eql (.t 27) (.c (.i .i64 0))) 26 true,
 oO 29 (.pick (.t 26) (.t 28) (.c (.b false))),
 oM 30 29,
 oG 31 (.load 5 true (.t 7)) 30 true,
 oG 32 (.load 5 true (.t 2)) 30 true,
 oG 33 (.aeq false [0,0,0,0,2] (.t 31) (.t 32)) 30 true,
 oO 34 (.pick (.t 30) (.t 33) (.c (.b false))),
 oM 4 34]
abbrev b249:AC:=(.seq (.reg 0 r249_0) (.seq (.reg 1 r249_1) (.seq (.reg 2 r249_2) (.seq (.reg 3 r249_3) .ret))))
def pf249:AF:={ nt:=35,res:=[.tmp 4],body:=b249 }
abbrev H249 (Q:AE→Sl→St→Prop)(K:Bool→Prop):Prop:=∀(σ:Sl)(st:St)(res0:Bool),σ 4 = .b res0→K res0→Q .ret σ st
def T249_0 (prog:Prog)(K:Bool→Prop)(q0:Qry)(want1:List UInt8):Prop:=
  ∃r'1:List UInt8,∃r'2:Int,Pus prog 243 [q0.av] (.tup [.s r'1,.i .i64 r'2])∧∃r'4:Qry,∃r'5:Int,Pus prog 245 [.s want1] (.tup [r'4.av,.i .i64 r'5])∧(r'2 = 0→(r'1 = want1→(r'5 = 0→K ((r'4.kind) == (q0.kind) && ((r'4.g) == (q0.g) && ((r'4.k) == (q0.k) && ((r'4.key) == (q0.key) && ((r'4.name) == (q0.name) && true))))))∧(¬(r'5 = 0)→K false))∧(¬(r'1 = want1)→K false))∧(¬(r'2 = 0)→K false)
section
variable {prog:Prog}{d:Nat}{Q:AE→Sl→St→Prop}{K:Bool→Prop}(hQ:H249 Q K){σ:Sl}{st:St}
include hQ
theorem w249_0 {q0:Qry}{want1:List UInt8}(H0:σ 0 = q0.av)(H1:σ 1 = .s want1)(h:T249_0 prog K q0 want1):W prog d (.seq (.reg 0 r249_0) (.seq (.reg 1 r249_1) (.seq (.reg 2 r249_2) (.seq (.reg 3 r249_3) .ret)))) σ st Q:=
 q_ rfl (s_box H0 rfl (m_ (e_ (q_ rfl (l_ rfl lk_here rfl rfl (h.elim fun r'1 e'11=>e'11.elim fun r'2 e'3=>ca_ (sc rfl rfl sn) e'3.1 (m_ (x_ rfl rfl (x_ rfl rfl (m_ (m_ (e_ (sq_ (W.reg (m_ (e'3.2.elim fun r'4 e'10=>e'10.elim fun r'5 e'6=>ca_ (sc H1 rfl sn) e'6.1 (m_ (x_ rfl rfl (x_ rfl rfl (s_alloc (so_ rfl (show lk _ (d,8197) = some (_,([.i .u8 0,.i .i64 0,.i .i64 0,.i .i64 0,.s []]:List AV)) from lk_here) rfl rfl rfl (m_ (e_ (q_ rfl (s_mvI rfl (b_ rfl rfl eql_ (s_mvB rfl (em_ (g:=21) rfl (fun g'7=>gy_ rfl (s_mvS rfl (gy_ rfl (s_mvS H1 (gy_ rfl (b_ rfl rfl seq_ (pt_ rfl rfl (s_mvB rfl (em_ (g:=26) rfl (fun g'8=>gy_ rfl (s_mvI rfl (gy_ rfl (b_ rfl rfl eql_ (pt_ rfl rfl (s_mvB rfl (em_ (g:=30) rfl (fun g'9=>gy_ rfl (l_ rfl lk_here rfl rfl (gy_ rfl (l_ rfl (lk_other rfl (lk_other rfl lk_here)) rfl rfl (gy_ rfl (s_aeqE rfl rfl rfl (pt_ rfl rfl (s_mvB rfl (e_ (rt_ (hQ _ _ _ rfl (((e'6.2.1 g'7).1 g'8).1 g'9)))))))))))) (fun g'9=>gn_ (b:=false) rfl rfl (gn_ (b:=false) rfl rfl (gn_ (b:=false) rfl rfl (pf_ rfl rfl (s_mvB rfl (e_ (rt_ (hQ _ _ _ rfl (((e'6.2.1 g'7).1 g'8).2 g'9)))))))))))))))) (fun g'8=>gn_ (b:=false) rfl rfl (gn_ (b:=false) rfl rfl (pf_ rfl rfl (s_mvB rfl (gn_ (b:=false) rfl rfl (gn_ (b:=false) rfl rfl (gn_ (b:=false) rfl rfl (pf_ rfl rfl (s_mvB rfl (e_ (rt_ (hQ _ _ _ rfl ((e'6.2.1 g'7).2 g'8)))))))))))))))))))))) (fun g'7=>gn_ (b:=false) rfl rfl (gn_ (b:=false) rfl rfl (gn_ (b:=false) rfl rfl (pf_ rfl rfl (s_mvB rfl (gn_ (b:=false) rfl rfl (gn_ (b:=false) rfl rfl (pf_ rfl rfl (s_mvB rfl (gn_ (b:=false) rfl rfl (gn_ (b:=false) rfl rfl (gn_ (b:=false) rfl rfl (pf_ rfl rfl (s_mvB rfl (e_ (rt_ (hQ _ _ _ rfl (e'6.2.2 g'7))))))))))))))))))))))))))))))))))))))))))))))
end
theorem p249 {prog:Prog}(hf:prog.fn 249 = some pf249){q0:Qry}{want1:List UInt8}{K:Bool→Prop}(h:T249_0 prog K q0 want1) :∃res0:Bool,K res0∧Pus prog 249 [q0.av,.s want1] (.b res0):=by
  obtain ⟨v,hv,res0,hk,rfl⟩:=Pus.of (K:=fun v=>∃res0:Bool,K res0∧v = .b res0) hf rfl (w249_0 (σ:=sl0 [q0.av,.s want1]) (fun σ st   res0 H4 hk=>⟨.b res0,by simp only [pf249,ares,aresL,H4,ares1,Option.map_some],_,rfl,res0,hk,rfl⟩) rfl rfl h)
  exact ⟨res0,hk,hv⟩
abbrev H250 (Q:AE→Sl→St→Prop)(K:Bool→Prop):Prop:=∀(σ:Sl)(st:St)(res0:Bool),σ 2 = .b res0→K res0→Q .ret σ st
section
variable {prog:Prog}{d:Nat}{Q:AE→Sl→St→Prop}{K:Bool→Prop}(hQ:H250 Q K){σ:Sl}{st:St}
include hQ
end
def r251_0:List AI:=[oC 4 (.b false)]
def r251_1:List AI:=[oO 8 (.call false 255 []),
 oO 9 (.call true 252 []),
 oM 10 0,
 oO 11 (.call false 254 [(.t 8),(.t 9),(.t 10)]),
 oM 7 11,
 oE 12 0 7,
 oE 13 1 7,
 oM 5 12,
 oM 6 13]
def r251_2:List AI:=[oM 14 6,
 oM 15 1,
 oB 16 .eql (.t 14) (.t 15),
 oM 17 16,
 oG 18 (.mv (.t 5)) 17 true,
 oG 19 (.len false (.t 18)) 17 true,
 oG 20 (.bin .eql (.t 19) (.c (.i .i64 0))) 17 true,
 oO 21 (.pick (.t 17) (.t 20) (.c (.b false))),
 oM 4 21]
abbrev b251:AC:=(.seq (.reg 0 r251_0) (.seq (.reg 1 r251_1) (.seq (.reg 2 r251_2) .ret)))
def pf251:AF:={ nt:=22,res:=[.tmp 4],body:=b251 }
abbrev H251 (Q:AE→Sl→St→Prop)(K:Bool→Prop):Prop:=∀(σ:Sl)(st:St)(res0:Bool),σ 4 = .b res0→K res0→Q .ret σ st
def T251_0 (prog:Prog)(K:Bool→Prop)(text0:List UInt8)(want1:Int):Prop:=
  ∃r'1:Img,Pus prog 255 [] (r'1.av)∧∃r'3:Sta,(PuN prog 252 [] (fun r=>r = r'3.avo .full))∧∃r'7:List (List UInt8),∃r'8:Int,Pus prog 254 [r'1.av,r'3.av,.s text0] (.tup [.sl .ext (List.map rowS r'7),.i .i64 r'8])∧(r'8 = want1→K (decide ((r'7.length:Int) = 0)))∧(¬(r'8 = want1)→K false)
section
variable {prog:Prog}{d:Nat}{Q:AE→Sl→St→Prop}{K:Bool→Prop}(hQ:H251 Q K){σ:Sl}{st:St}
include hQ
theorem w251_0 {text0:List UInt8}{want1:Int}(H0:σ 0 = .s text0)(H1:σ 1 = .i .i64 want1)(h:T251_0 prog K text0 want1):W prog d (.seq (.reg 0 r251_0) (.seq (.reg 1 r251_1) (.seq (.reg 2 r251_2) .ret))) σ st Q:=
 q_ rfl (m_ (e_ (q_ rfl (h.elim fun r'1 e'2=>ca_ sn e'2.1 (e'2.2.elim fun r'3 e'4=>s_callN sen (e'4.1) (fun st'5 hf'6=>m_ (e'4.2.elim fun r'7 e'11=>e'11.elim fun r'8 e'9=>ca_ (sc rfl rfl (sc rfl rfl (sc H0 rfl sn))) e'9.1 (m_ (x_ rfl rfl (x_ rfl rfl (s_mvL rfl (m_ (e_ (q_ rfl (s_mvI rfl (s_mvI H1 (b_ rfl rfl eql_ (s_mvB rfl (em_ (g:=17) rfl (fun g'10=>gy_ rfl (s_mvL rfl (gy_ rfl (ll_ rfl (gy_ rfl (b_ rfl rfl eql_ (pt_ rfl rfl (s_mvB rfl (e_ (rt_ (hQ _ _ _ rfl (e'9.2.1 g'10)))))))))))) (fun g'10=>gn_ (b:=false) rfl rfl (gn_ (b:=false) rfl rfl (gn_ (b:=false) rfl rfl (pf_ rfl rfl (s_mvB rfl (e_ (rt_ (hQ _ _ _ rfl (e'9.2.2 g'10))))))))))))))))))))))))))))
end
theorem p251 {prog:Prog}(hf:prog.fn 251 = some pf251){text0:List UInt8}{want1:Int}{K:Bool→Prop}(h:T251_0 prog K text0 want1) :∃res0:Bool,K res0∧Pus prog 251 [.s text0,.i .i64 want1] (.b res0):=by
  obtain ⟨v,hv,res0,hk,rfl⟩:=Pus.of (K:=fun v=>∃res0:Bool,K res0∧v = .b res0) hf rfl (w251_0 (σ:=sl0 [.s text0,.i .i64 want1]) (fun σ st   res0 H4 hk=>⟨.b res0,by simp only [pf251,ares,aresL,H4,ares1,Option.map_some],_,rfl,res0,hk,rfl⟩) rfl rfl h)
  exact ⟨res0,hk,hv⟩
def r252_0:List AI:=[oO 0 (.alloc [.i .u8 0,.i .i64 0,.i .i64 0,.sl .full []])]
def r252_1:List AI:=[oO 2 (.build [.i .u8 0,.i .i64 0,.s [],.sl .full [],.b false] [(0,1,(.c (.i .u8 2))),(1,1,(.c (.i .i64 5)))]),
 oO 1 (.alloc [.i .u8 0,.i .i64 0,.s [],.sl .full [],.b false]),
 oS 5 1 2]
def r252_2:List AI:=[oO 3 (.load 5 true (.t 1)),
 oO 4 (.build [.i .i64 0,.i .u8 0,.i .i64 0,.s [],.sl .full [],.b false] [(0,1,(.c (.i .i64 0))),(1,5,(.t 3))]),
 oO 5 (.bslice [.i .i64 0,.i .u8 0,.i .i64 0,.s [],.sl .full [],.b false] 1 [(0,(.t 4))]),
 oO 6 (.build [.i .i64 0,.i .i64 0,.i .u64 0,.sl .full []] [(0,1,(.c (.i .i64 1))),(1,1,(.c (.i .i64 2))),(3,1,(.t 5))]),
 oO 7 (.build [.i .i64 0,.i .i64 0,.i .u64 0,.sl .full []] [(1,1,(.c (.i .i64 4)))]),
 oO 8 (.bslice [.i .i64 0,.i .i64 0,.i .u64 0,.sl .full []] 2 [(0,(.t 6)),(1,(.t 7))]),
 oO 9 (.build [.i .u8 0,.i .i64 0,.sl .full [],.sl .full [],.sl .full []] [(0,1,(.c (.i .u8 2))),(1,1,(.c (.i .i64 7))),(2,1,(.t 8))]),
 oO 10 (.bslice [.i .u8 0,.i .i64 0,.sl .full [],.sl .full [],.sl .full []] 1 [(0,(.t 9))]),
 oO 11 (.build [.i .u8 0,.i .i64 0,.i .i64 0,.sl .full []] [(0,1,(.c (.i .u8 3))),(1,1,(.c (.i .i64 (-1)))),(3,1,(.t 10))]),
 oS 4 0 11]
abbrev b252:AC:=(.seq (.reg 0 r252_0) (.seq (.reg 1 r252_1) (.seq (.reg 2 r252_2) .ret)))
def pf252:AF:={ nt:=12,res:=[.cell 0 4 true],body:=b252 }
abbrev H252 (d:Nat)(st0:St)(Q:AE→Sl→St→Prop)(K:Sta→Prop):Prop:=∀(σ:Sl)(st:St)(k0:Key)(v0:Nat)(res0:Sta),σ 0 = .p k0 v0 0→lk st.bx k0 = some (v0,[.i .u8 res0.outcome,.i .i64 res0.failing,.i .i64 res0.steps,.sl .full (List.map Rou.row res0.routines)])→Fr d (d,0) st0.bx st0.ow st.bx st.ow→K res0→Q .ret σ st
def T252_0 (prog:Prog)(K:Sta→Prop) :Prop:=
  K (Sta.mk 3 (-1) 0 [(Rou.mk 2 7 [(Frm.mk 1 2 0 [(Loc.mk 0 (Val.mk 2 5 [] ([]:List Val) false))]),(Frm.mk 0 4 0 ([]:List Loc))] ([]:List Dfr) ([]:List Pan))])
section
variable {prog:Prog}{d:Nat}{Q:AE→Sl→St→Prop}{K:Sta→Prop}{st0:St}(hQ:H252 d st0 Q K){σ:Sl}{st:St}
include hQ
theorem w252_0 (FR:Fr d (d,0) st0.bx st0.ow st.bx st.ow)(h:T252_0 prog K ):W prog d (.seq (.reg 0 r252_0) (.seq (.reg 1 r252_1) (.seq (.reg 2 r252_2) .ret))) σ st Q:=
 sq_ (W.reg (s_alloc (e_ (sq_ (W.reg (s_build (f_cons rfl rfl (f_cons rfl rfl f_nil)) (s_alloc (so_ rfl (show lk _ (d,4097) = some (_,([.i .u8 0,.i .i64 0,.s [],.sl .full (List.map Val.row ([]:List Val)),.b false]:List AV)) from lk_here) rfl rfl rfl (e_ (q_ rfl (l_ rfl lk_here rfl rfl (s_build (f_cons rfl rfl (f_cons rfl rfl f_nil)) (s_bslM (f:=Loc.row) (l:=[(Loc.mk 0 (Val.mk 2 5 [] ([]:List Val) false))]) rfl rfl (g_cons rfl rfl rfl g_nil) (by simp only [List.map_cons,List.map_nil,Loc.row_eq]; rfl) (s_build (f_cons rfl rfl (f_cons rfl rfl (f_cons rfl rfl f_nil))) (s_build (f_cons rfl rfl f_nil) (s_bslM (f:=Frm.row) (l:=[(Frm.mk 1 2 0 [(Loc.mk 0 (Val.mk 2 5 [] ([]:List Val) false))]),(Frm.mk 0 4 0 ([]:List Loc))]) rfl rfl (g_cons rfl rfl rfl (g_cons rfl rfl rfl g_nil)) (by simp only [List.map_cons,List.map_nil,Frm.row_eq]; rfl) (s_build (f_cons rfl rfl (f_cons rfl rfl (f_cons rfl rfl f_nil))) (s_bslM (f:=Rou.row) (l:=[(Rou.mk 2 7 [(Frm.mk 1 2 0 [(Loc.mk 0 (Val.mk 2 5 [] ([]:List Val) false))]),(Frm.mk 0 4 0 ([]:List Loc))] ([]:List Dfr) ([]:List Pan))]) rfl rfl (g_cons rfl rfl rfl g_nil) (by simp only [List.map_cons,List.map_nil,Rou.row_eq]; rfl) (s_build (f_cons rfl rfl (f_cons rfl rfl (f_cons rfl rfl f_nil))) (so_ rfl (lk_other rfl (lk_other rfl (show lk _ (d,0) = some (_,([.i .u8 0,.i .i64 0,.i .i64 0,.sl .full (List.map Rou.row ([]:List Rou))]:List AV)) from lk_here))) rfl rfl rfl (e_ (rt_ (hQ _ _ _ _ _ rfl lk_here (Fr.box (Fr.box (Fr.box (Fr.box FR)))) h)))))))))))))))))))))))
end
theorem p252 {prog:Prog}(hf:prog.fn 252 = some pf252)  {K:Sta→Prop}(h:T252_0 prog K ):PuN prog 252 [] (fun r=>∃res0:Sta,(r = res0.avo .full)∧K res0):=
  PuN.of hf rfl fun d st=>w252_0 (st0:=st) (Q:=fun e σ st'=>(e = .normal∨e = .ret)∧∃r,ares σ st' pf252.res = some r∧_∧Fr d (d,0) st.bx st.ow st'.bx st'.ow) (fun σ st' k0 v0  res0 H0 HB0 hf hk=>⟨.inr rfl,res0.avo .full,by simp only [pf252,ares,aresL,ares_cellA (n:=4) H0 HB0 rfl,ares_tmp,Option.map_some,ares_cellA (n:=4) H0 HB0 rfl],⟨res0,rfl,hk⟩,hf⟩) (σ:=sl0 []) Fr.refl h
def r253_0:List AI:=[oO 3 (.box 4 (.t 0)),
 oC 6 (.b false)]
def r253_1:List AI:=[oO 10 (.call false 255 []),
 oO 11 (.load 4 true (.t 3)),
 oM 12 1,
 oO 13 (.call false 254 [(.t 10),(.t 11),(.t 12)]),
 oM 9 13,
 oE 14 0 9,
 oE 15 1 9,
 oM 7 14,
 oM 8 15]
def r253_2:List AI:=[oM 16 8,
 oB 17 .eql (.t 16) (.c (.i .i64 0)),
 oM 18 17,
 oG 19 (.mv (.t 7)) 18 true,
 oG 20 (.mv (.t 2)) 18 true,
 oG 21 (.call false 29 [(.t 19),(.t 20)]) 18 true,
 oO 22 (.pick (.t 18) (.t 21) (.c (.b false))),
 oM 6 22]
abbrev b253:AC:=(.seq (.reg 0 r253_0) (.seq (.reg 1 r253_1) (.seq (.reg 2 r253_2) .ret)))
def pf253:AF:={ nt:=23,res:=[.tmp 6],body:=b253 }
abbrev H253 (Q:AE→Sl→St→Prop)(K:Bool→Prop):Prop:=∀(σ:Sl)(st:St)(res0:Bool),σ 6 = .b res0→K res0→Q .ret σ st
def T253_0 (prog:Prog)(K:Bool→Prop)(s0:Sta)(text1:List UInt8)(want2:List (List UInt8)):Prop:=
  ∃r'1:Img,Pus prog 255 [] (r'1.av)∧∃r'3:List (List UInt8),∃r'4:Int,Pus prog 254 [r'1.av,s0.av,.s text1] (.tup [.sl .ext (List.map rowS r'3),.i .i64 r'4])∧(r'4 = 0→∃r'7:Bool,Pus prog 29 [.sl .ext (List.map rowS r'3),.sl .ext (List.map rowS want2)] (.b r'7)∧K r'7)∧(¬(r'4 = 0)→K false)
section
variable {prog:Prog}{d:Nat}{Q:AE→Sl→St→Prop}{K:Bool→Prop}(hQ:H253 Q K){σ:Sl}{st:St}
include hQ
theorem w253_0 {s0:Sta}{text1:List UInt8}{want2:List (List UInt8)}{o_want2:Own}(H0:σ 0 = s0.av)(H1:σ 1 = .s text1)(H2:σ 2 = .sl o_want2 (List.map rowS want2))(h:T253_0 prog K s0 text1 want2):W prog d (.seq (.reg 0 r253_0) (.seq (.reg 1 r253_1) (.seq (.reg 2 r253_2) .ret))) σ st Q:=
 q_ rfl (s_box H0 rfl (m_ (e_ (q_ rfl (h.elim fun r'1 e'2=>ca_ sn e'2.1 (l_ rfl lk_here rfl rfl (m_ (e'2.2.elim fun r'3 e'9=>e'9.elim fun r'4 e'5=>ca_ (sc rfl rfl (sc rfl rfl (sc H1 rfl sn))) e'5.1 (m_ (x_ rfl rfl (x_ rfl rfl (s_mvL rfl (m_ (e_ (q_ rfl (s_mvI rfl (b_ rfl rfl eql_ (s_mvB rfl (em_ (g:=18) rfl (fun g'6=>gy_ rfl (s_mvL rfl (gy_ rfl (s_mvL H2 (gy_ rfl ((e'5.2.1 g'6).elim fun r'7 e'8=>ca_ (sc rfl rfl (sc rfl rfl sn)) e'8.1 (pt_ rfl rfl (s_mvB rfl (e_ (rt_ (hQ _ _ _ rfl e'8.2))))))))))) (fun g'6=>gn_ (b:=false) rfl rfl (gn_ (b:=false) rfl rfl (gn_ (b:=false) rfl rfl (pf_ rfl rfl (s_mvB rfl (e_ (rt_ (hQ _ _ _ rfl (e'5.2.2 g'6))))))))))))))))))))))))))))
end
theorem p253 {prog:Prog}(hf:prog.fn 253 = some pf253){s0:Sta}{text1:List UInt8}{want2:List (List UInt8)}{K:Bool→Prop}(h:T253_0 prog K s0 text1 want2) :∃res0:Bool,K res0∧Pus prog 253 [s0.av,.s text1,.sl .ext (List.map rowS want2)] (.b res0):=by
  obtain ⟨v,hv,res0,hk,rfl⟩:=Pus.of (K:=fun v=>∃res0:Bool,K res0∧v = .b res0) hf rfl (w253_0 (σ:=sl0 [s0.av,.s text1,.sl .ext (List.map rowS want2)]) (fun σ st   res0 H6 hk=>⟨.b res0,by simp only [pf253,ares,aresL,H6,ares1,Option.map_some],_,rfl,res0,hk,rfl⟩) rfl rfl rfl h)
  exact ⟨res0,hk,hv⟩
def r254_0:List AI:=[oO 3 (.box 3 (.t 0)),
 oO 4 (.box 4 (.t 1)),
 oC 6 (.sl .full []),
 oC 7 (.i .i64 0)]
def r254_1:List AI:=[oM 11 2,
 oO 12 (.call false 245 [(.t 11)]),
 oM 10 12,
 oE 13 0 10,
 oE 14 1 10,
 oO 8 (.alloc [.i .u8 0,.i .i64 0,.i .i64 0,.i .i64 0,.s []]),
 oS 5 8 13,
 oM 9 14]
def r254_2:List AI:=[oM 15 9,
 oB 16 .neq (.t 15) (.c (.i .i64 0))]
def r254_3:List AI:=[oM 17 9,
 oC 6 (.sl .full []),
 oM 7 17]
def r254_4:List AI:=[oO 18 (.load 3 true (.t 3)),
 oO 19 (.load 4 true (.t 4)),
 oO 20 (.load 5 true (.t 8)),
 oO 21 (.call false 264 [(.t 18),(.t 19),(.t 20)]),
 oE 22 0 21,
 oE 23 1 21,
 oM 6 22,
 oM 7 23]
abbrev b254:AC:=(.seq (.reg 0 r254_0) (.seq (.reg 1 r254_1) (.seq (.seq (.reg 2 r254_2) (.cond (.t 16) (.seq (.reg 3 r254_3) .ret) .skip)) (.seq (.reg 4 r254_4) .ret))))
def pf254:AF:={ nt:=24,res:=[.tmp 6,.tmp 7],body:=b254 }
abbrev H254 (Q:AE→Sl→St→Prop)(K:List (List UInt8)→Int→Prop):Prop:=∀(σ:Sl)(st:St)(o0:Own)(res0:List (List UInt8))(res1:Int),σ 6 = .sl o0 (List.map rowS res0)→σ 7 = .i .i64 res1→K res0 res1→Q .ret σ st
def T254_0 (prog:Prog)(K:List (List UInt8)→Int→Prop)(m0:Img)(s1:Sta)(text2:List UInt8):Prop:=
  ∃r'1:Qry,∃r'2:Int,Pus prog 245 [.s text2] (.tup [r'1.av,.i .i64 r'2])∧(r'2≠0→K ([]:List (List UInt8)) r'2)∧(¬(r'2≠0)→∃r'5:List (List UInt8),∃r'6:Int,Pus prog 264 [m0.av,s1.av,r'1.av] (.tup [.sl .ext (List.map rowS r'5),.i .i64 r'6])∧K r'5 r'6)
section
variable {prog:Prog}{d:Nat}{Q:AE→Sl→St→Prop}{K:List (List UInt8)→Int→Prop}(hQ:H254 Q K){σ:Sl}{st:St}
include hQ
theorem w254_0 {m0:Img}{s1:Sta}{text2:List UInt8}(H0:σ 0 = m0.av)(H1:σ 1 = s1.av)(H2:σ 2 = .s text2)(h:T254_0 prog K m0 s1 text2):W prog d (.seq (.reg 0 r254_0) (.seq (.reg 1 r254_1) (.seq (.seq (.reg 2 r254_2) (.cond (.t 16) (.seq (.reg 3 r254_3) .ret) .skip)) (.seq (.reg 4 r254_4) .ret)))) σ st Q:=
 q_ rfl (s_box H0 rfl (s_box H1 rfl (s_mvL (f:=rowS) (l:=[]) rfl (m_ (e_ (sq_ (W.reg (m_ (h.elim fun r'1 e'9=>e'9.elim fun r'2 e'3=>ca_ (sc H2 rfl sn) e'3.1 (m_ (x_ rfl rfl (x_ rfl rfl (s_alloc (so_ rfl (show lk _ (d,4101) = some (_,([.i .u8 0,.i .i64 0,.i .i64 0,.i .i64 0,.s []]:List AV)) from lk_here) rfl rfl rfl (m_ (e_ (sq_ (q_ rfl (m_ (b_ rfl rfl neq_ (e_ (cs_ rfl (fun g'4=>q_ rfl (m_ (s_mvL (f:=rowS) (l:=[]) rfl (m_ (e_ (rt_ (hQ _ _ _ _ _ rfl rfl (e'3.2.1 g'4)))))))) (fun g'4=>sk_ (q_ rfl (l_ rfl (lk_other rfl (lk_other rfl (lk_other rfl lk_here))) rfl rfl (l_ rfl (lk_other rfl (lk_other rfl lk_here)) rfl rfl (l_ rfl lk_here rfl rfl ((e'3.2.2 g'4).elim fun r'5 e'8=>e'8.elim fun r'6 e'7=>ca_ (sc rfl rfl (sc rfl rfl (sc rfl rfl sn))) e'7.1 (x_ rfl rfl (x_ rfl rfl (s_mvL rfl (m_ (e_ (rt_ (hQ _ _ _ _ _ rfl rfl e'7.2)))))))))))))))))))))))))))))))))))
end
theorem p254 {prog:Prog}(hf:prog.fn 254 = some pf254){m0:Img}{s1:Sta}{text2:List UInt8}{K:List (List UInt8)→Int→Prop}(h:T254_0 prog K m0 s1 text2) :∃res0:List (List UInt8),∃res1:Int,K res0 res1∧Pus prog 254 [m0.av,s1.av,.s text2] (.tup [.sl .ext (List.map rowS res0),.i .i64 res1]):=by
  obtain ⟨v,hv,res0,res1,hk,rfl⟩:=Pus.of (K:=fun v=>∃res0:List (List UInt8),∃res1:Int,K res0 res1∧v = .tup [.sl .ext (List.map rowS res0),.i .i64 res1]) hf rfl (w254_0 (σ:=sl0 [m0.av,s1.av,.s text2]) (fun σ st  o0 res0 res1 H6 H7 hk=>⟨.tup [.sl o0 (List.map rowS res0),.i .i64 res1],by simp only [pf254,ares,aresL,H6,H7,ares1,Option.map_some],_,rfl,res0,res1,hk,rfl⟩) rfl rfl rfl h)
  exact ⟨res0,res1,hk,hv⟩
def r255_0:List AI:=[oO 0 (.alloc [.sl .full [],.sl .full [],.sl .full []])]
def r255_1:List AI:=[oO 2 (.mks [.i .u8 0,.i .i64 0,.i .i64 0,.i .i64 0] 32 (.c (.i .i64 6)) (.c (.i .i64 6))),
 oM 1 2]
def r255_2:List AI:=[oM 3 1,
 oO 4 (.build [.s [],.i .i64 0,.i .i64 0,.sl .full [],.sl .full [],.sl .full [],.sl .full []] [(0,1,(.c (.s [109,97,105,110]))),(4,1,(.t 3))]),
 oM 5 1,
 oO 6 (.build [.s [],.i .i64 0] [(0,1,(.c (.s [120])))]),
 oO 7 (.build [.s [],.i .i64 0] [(0,1,(.c (.s [121])))]),
 oO 8 (.bslice [.s [],.i .i64 0] 2 [(0,(.t 6)),(1,(.t 7))]),
 oO 9 (.build [.s [],.i .i64 0,.i .i64 0,.sl .full [],.sl .full [],.sl .full [],.sl .full []] [(0,1,(.c (.s [102]))),(4,1,(.t 5)),(3,1,(.t 8))]),
 oO 10 (.bslice [.s [],.i .i64 0,.i .i64 0,.sl .full [],.sl .full [],.sl .full [],.sl .full []] 2 [(0,(.t 4)),(1,(.t 9))]),
 oO 11 (.build [.sl .full [],.sl .full [],.sl .full []] [(2,1,(.t 10))]),
 oS 3 0 11]
abbrev b255:AC:=(.seq (.reg 0 r255_0) (.seq (.reg 1 r255_1) (.seq (.reg 2 r255_2) .ret)))
def pf255:AF:={ nt:=12,res:=[.cell 0 3 true],body:=b255 }
abbrev H255 (Q:AE→Sl→St→Prop)(K:Img→Prop):Prop:=∀(σ:Sl)(st:St)(k0:Key)(v0:Nat) (o0_0 o0_1 o0_2:Own)(res0:Img),σ 0 = .p k0 v0 0→lk st.bx k0 = some (v0,[.sl o0_0 (List.map Typ.row res0.types),.sl o0_1 (List.map rowS res0.texts),.sl o0_2 (List.map Fun.row res0.funcs)])→K res0→Q .ret σ st
def T255_0 (prog:Prog)(K:Img→Prop) :Prop:=
  K (Img.mk ([]:List Typ) ([]:List (List UInt8)) [(Fun.mk ([109,97,105,110]:List UInt8) 0 0 ([]:List Fld) (rep 6 Ins.zero) ([]:List Rnn) ([]:List Rnn)),(Fun.mk ([102]:List UInt8) 0 0 [(Fld.mk ([120]:List UInt8) 0),(Fld.mk ([121]:List UInt8) 0)] (rep 6 Ins.zero) ([]:List Rnn) ([]:List Rnn))])
section
variable {prog:Prog}{d:Nat}{Q:AE→Sl→St→Prop}{K:Img→Prop}(hQ:H255 Q K){σ:Sl}{st:St}
include hQ
theorem w255_0 (h:T255_0 prog K ):W prog d (.seq (.reg 0 r255_0) (.seq (.reg 1 r255_1) (.seq (.reg 2 r255_2) .ret))) σ st Q:=
 sq_ (W.reg (s_alloc (e_ (q_ rfl (s_mks (n:=6) (m:=6) (f:=Ins.row) (a:=Ins.zero) rfl rfl rfl rfl rfl (by decide) rfl ⟨by decide,by decide⟩ (s_mvL rfl (e_ (q_ rfl (s_mvL rfl (s_build (f_cons rfl rfl (f_cons rfl rfl f_nil)) (s_mvL rfl (s_build (f_cons rfl rfl f_nil) (s_build (f_cons rfl rfl f_nil) (s_bslM (f:=Fld.row) (l:=[(Fld.mk ([120]:List UInt8) 0),(Fld.mk ([121]:List UInt8) 0)]) rfl rfl (g_cons rfl rfl rfl (g_cons rfl rfl rfl g_nil)) (by simp only [List.map_cons,List.map_nil,Fld.row_eq]; rfl) (s_build (f_cons rfl rfl (f_cons rfl rfl (f_cons rfl rfl f_nil))) (s_bslM (f:=Fun.row) (l:=[(Fun.mk ([109,97,105,110]:List UInt8) 0 0 ([]:List Fld) (rep 6 Ins.zero) ([]:List Rnn) ([]:List Rnn)),(Fun.mk ([102]:List UInt8) 0 0 [(Fld.mk ([120]:List UInt8) 0),(Fld.mk ([121]:List UInt8) 0)] (rep 6 Ins.zero) ([]:List Rnn) ([]:List Rnn))]) rfl rfl (g_cons rfl rfl rfl (g_cons rfl rfl rfl g_nil)) (by simp only [List.map_cons,List.map_nil,Fun.row_eq]; rfl) (s_build (f_cons rfl rfl f_nil) (so_ rfl (show lk _ (d,0) = some (_,([.sl .full (List.map Typ.row ([]:List Typ)),.sl .full (List.map rowS ([]:List (List UInt8))),.sl .full (List.map Fun.row ([]:List Fun))]:List AV)) from lk_here) rfl rfl rfl (e_ (rt_ (hQ _ _ _ _ _ _ _ _ rfl lk_here h)))))))))))))))))))))
end
theorem p255 {prog:Prog}(hf:prog.fn 255 = some pf255)  {K:Img→Prop}(h:T255_0 prog K ) :∃res0:Img,K res0∧Pus prog 255 [] (res0.av):=by
  obtain ⟨v,hv,res0,hk,rfl⟩:=Pus.of (K:=fun v=>∃res0:Img,K res0∧v = res0.av) hf rfl (w255_0 (σ:=sl0 []) (fun σ st k0 v0 o0_0 o0_1 o0_2 res0 H0 HB0 hk=>⟨.ag [.sl o0_0 (List.map Typ.row res0.types),.sl o0_1 (List.map rowS res0.texts),.sl o0_2 (List.map Fun.row res0.funcs)],by simp only [pf255,ares,aresL,ares_cellA (n:=3) H0 HB0 rfl,ares_tmp,Option.map_some],_,rfl,res0,hk,rfl⟩)  h)
  exact ⟨res0,hk,hv⟩
def r256_0:List AI:=[oC 0 (.b false)]
def r256_1:List AI:=[oO 2 (.call true 252 []),
 oO 1 (.alloc [.i .u8 0,.i .i64 0,.i .i64 0,.sl .full []]),
 oS 4 1 2]
def r256_2:List AI:=[oO 3 (.load 4 true (.t 1)),
 oO 4 (.bslice [.s []] 1 [(0,(.c (.s [103,111,114,111,117,116,105,110,101,32,48,58,32,98,108,111,99,107,101,100,32,55])))]),
 oO 5 (.call false 253 [(.t 3),(.c (.s [103,111,114,111,117,116,105,110,101,115])),(.t 4)]),
 oM 6 5,
 oG 7 (.load 4 true (.t 1)) 6 true,
 oG 8 (.bslice [.s []] 1 [(0,(.c (.s [103,111,114,111,117,116,105,110,101,32,48])))]) 6 true,
 oG 9 (.call false 253 [(.t 7),(.c (.s [119,97,105,116,115,32,55])),(.t 8)]) 6 true,
 oO 10 (.pick (.t 6) (.t 9) (.c (.b false))),
 oM 11 10,
 oG 12 (.load 4 true (.t 1)) 11 true,
 oG 13 (.bslice [.s []] 1 [(0,(.c (.s [48,32,49,32,97,116,32,52])))]) 11 true,
 oG 14 (.call false 253 [(.t 12),(.c (.s [105,110,32,34,109,97,105,110,34])),(.t 13)]) 11 true,
 oO 15 (.pick (.t 11) (.t 14) (.c (.b false))),
 oM 16 15,
 oG 17 (.load 4 true (.t 1)) 16 true,
 oG 18 (.bslice [.s []] 1 [(0,(.c (.s [48,32,48,32,48,32,61,32,53])))]) 16 true,
 oG 19 (.call false 253 [(.t 17),(.c (.s [115,108,111,116,32,34,120,34])),(.t 18)]) 16 true,
 oO 20 (.pick (.t 16) (.t 19) (.c (.b false))),
 oM 21 20,
 oG 22 (.load 4 true (.t 1)) 21 true,
 oG 23 (.bslice [.s []] 2 [(0,(.c (.s [35,48,32,49,32,34,102,34,32,97,116,32,50,32,99,97,108,108]))),(1,(.c (.s [35,49,32,48,32,34,109,97,105,110,34,32,97,116,32,52,32,99,97,108,108])))]) 21 true,
 oG 24 (.call false 253 [(.t 22),(.c (.s [102,114,97,109,101,115,32,48])),(.t 23)]) 21 true,
 oO 25 (.pick (.t 21) (.t 24) (.c (.b false))),
 oM 26 25,
 oG 27 (.load 4 true (.t 1)) 26 true,
 oG 28 (.call false 253 [(.t 27),(.c (.s [108,111,99,97,108,115,32,48,32,49])),(.c (.sl .full []))]) 26 true,
 oO 29 (.pick (.t 26) (.t 28) (.c (.b false))),
 oM 30 29,
 oG 31 (.call false 251 [(.c (.s [102,114,97,109,101,115,32,49])),(.c (.i .i64 6))]) 30 true,
 oO 32 (.pick (.t 30) (.t 31) (.c (.b false))),
 oM 33 32,
 oG 34 (.call false 251 [(.c (.s [102,114,97,109,101,115,32,48,49])),(.c (.i .i64 12))]) 33 true,
 oO 35 (.pick (.t 33) (.t 34) (.c (.b false))),
 oM 0 35]
abbrev b256:AC:=(.seq (.reg 0 r256_0) (.seq (.reg 1 r256_1) (.seq (.reg 2 r256_2) .ret)))
def pf256:AF:={ nt:=36,res:=[.tmp 0],body:=b256 }
abbrev H256 (Q:AE→Sl→St→Prop)(K:Bool→Prop):Prop:=∀(σ:Sl)(st:St)(res0:Bool),σ 0 = .b res0→K res0→Q .ret σ st
def T256_0 (prog:Prog)(K:Bool→Prop) :Prop:=
  ∃r'1:Sta,(PuN prog 252 [] (fun r=>r = r'1.avo .full))∧∃r'5:Bool,Pus prog 253 [r'1.av,.s ([103,111,114,111,117,116,105,110,101,115]:List UInt8),.sl .ext (List.map rowS [([103,111,114,111,117,116,105,110,101,32,48,58,32,98,108,111,99,107,101,100,32,55]:List UInt8)])] (.b r'5)∧(r'5 = true→∃r'8:Bool,Pus prog 253 [r'1.av,.s ([119,97,105,116,115,32,55]:List UInt8),.sl .ext (List.map rowS [([103,111,114,111,117,116,105,110,101,32,48]:List UInt8)])] (.b r'8)∧(r'8 = true→∃r'11:Bool,Pus prog 253 [r'1.av,.s ([105,110,32,34,109,97,105,110,34]:List UInt8),.sl .ext (List.map rowS [([48,32,49,32,97,116,32,52]:List UInt8)])] (.b r'11)∧(r'11 = true→∃r'14:Bool,Pus prog 253 [r'1.av,.s ([115,108,111,116,32,34,120,34]:List UInt8),.sl .ext (List.map rowS [([48,32,48,32,48,32,61,32,53]:List UInt8)])] (.b r'14)∧(r'14 = true→∃r'17:Bool,Pus prog 253 [r'1.av,.s ([102,114,97,109,101,115,32,48]:List UInt8),.sl .ext (List.map rowS [([35,48,32,49,32,34,102,34,32,97,116,32,50,32,99,97,108,108]:List UInt8),([35,49,32,48,32,34,109,97,105,110,34,32,97,116,32,52,32,99,97,108,108]:List UInt8)])] (.b r'17)∧(r'17 = true→∃r'20:Bool,Pus prog 253 [r'1.av,.s ([108,111,99,97,108,115,32,48,32,49]:List UInt8),.sl .ext (List.map rowS ([]:List (List UInt8)))] (.b r'20)∧(r'20 = true→∃r'23:Bool,Pus prog 251 [.s ([102,114,97,109,101,115,32,49]:List UInt8),.i .i64 6] (.b r'23)∧(r'23 = true→∃r'26:Bool,Pus prog 251 [.s ([102,114,97,109,101,115,32,48,49]:List UInt8),.i .i64 12] (.b r'26)∧K r'26)∧(r'23 = false→K false))∧(r'20 = false→K false))∧(r'17 = false→K false))∧(r'14 = false→K false))∧(r'11 = false→K false))∧(r'8 = false→K false))∧(r'5 = false→K false)
section
variable {prog:Prog}{d:Nat}{Q:AE→Sl→St→Prop}{K:Bool→Prop}(hQ:H256 Q K){σ:Sl}{st:St}
include hQ
theorem w256_0 (h:T256_0 prog K ):W prog d (.seq (.reg 0 r256_0) (.seq (.reg 1 r256_1) (.seq (.reg 2 r256_2) .ret))) σ st Q:=
 q_ rfl (m_ (e_ (sq_ (W.reg (h.elim fun r'1 e'2=>s_callN sen (e'2.1) (fun st'3 hf'4=>s_alloc (so_ rfl ((hf'4.1 (d,4097) (Nat.lt_succ_self d) key_dn).trans (show lk _ (d,4097) = some (_,([.i .u8 0,.i .i64 0,.i .i64 0,.sl .full (List.map Rou.row ([]:List Rou))]:List AV)) from lk_here)) rfl rfl rfl (e_ (q_ rfl (l_ rfl lk_here rfl rfl (s_bslM (f:=rowS) (l:=[([103,111,114,111,117,116,105,110,101,32,48,58,32,98,108,111,99,107,101,100,32,55]:List UInt8)]) rfl rfl (g_cons rfl rfl rfl g_nil) rfl (e'2.2.elim fun r'5 e'6=>ca_ (sc rfl rfl (sc rfl rfl (sc rfl rfl sn))) e'6.1 (s_mvB rfl (eb_ (g:=6) rfl (fun g'7=>gy_ rfl (l_ rfl lk_here rfl rfl (gy_ rfl (s_bslM (f:=rowS) (l:=[([103,111,114,111,117,116,105,110,101,32,48]:List UInt8)]) rfl rfl (g_cons rfl rfl rfl g_nil) rfl (gy_ rfl ((e'6.2.1 g'7).elim fun r'8 e'9=>ca_ (sc rfl rfl (sc rfl rfl (sc rfl rfl sn))) e'9.1 (pt_ rfl rfl (s_mvB rfl (eb_ (g:=11) rfl (fun g'10=>gy_ rfl (l_ rfl lk_here rfl rfl (gy_ rfl (s_bslM (f:=rowS) (l:=[([48,32,49,32,97,116,32,52]:List UInt8)]) rfl rfl (g_cons rfl rfl rfl g_nil) rfl (gy_ rfl ((e'9.2.1 g'10).elim fun r'11 e'12=>ca_ (sc rfl rfl (sc rfl rfl (sc rfl rfl sn))) e'12.1 (pt_ rfl rfl (s_mvB rfl (eb_ (g:=16) rfl (fun g'13=>gy_ rfl (l_ rfl lk_here rfl rfl (gy_ rfl (s_bslM (f:=rowS) (l:=[([48,32,48,32,48,32,61,32,53]:List UInt8)]) rfl rfl (g_cons rfl rfl rfl g_nil) rfl (gy_ rfl ((e'12.2.1 g'13).elim fun r'14 e'15=>ca_ (sc rfl rfl (sc rfl rfl (sc rfl rfl sn))) e'15.1 (pt_ rfl rfl (s_mvB rfl (eb_ (g:=21) rfl (fun g'16=>gy_ rfl (l_ rfl lk_here rfl rfl (gy_ rfl (s_bslM (f:=rowS) (l:=[([35,48,32,49,32,34,102,34,32,97,116,32,50,32,99,97,108,108]:List UInt8),([35,49,32,48,32,34,109,97,105,110,34,32,97,116,32,52,32,99,97,108,108]:List UInt8)]) rfl rfl (g_cons rfl rfl rfl (g_cons rfl rfl rfl g_nil)) rfl (gy_ rfl ((e'15.2.1 g'16).elim fun r'17 e'18=>ca_ (sc rfl rfl (sc rfl rfl (sc rfl rfl sn))) e'18.1 (pt_ rfl rfl (s_mvB rfl (eb_ (g:=26) rfl (fun g'19=>gy_ rfl (l_ rfl lk_here rfl rfl (gy_ rfl ((e'18.2.1 g'19).elim fun r'20 e'21=>ca_ (sc rfl rfl (sc rfl rfl (sc (show _ = AV.sl .full (List.map rowS []) from rfl) rfl sn))) e'21.1 (pt_ rfl rfl (s_mvB rfl (eb_ (g:=30) rfl (fun g'22=>gy_ rfl ((e'21.2.1 g'22).elim fun r'23 e'24=>ca_ (sc rfl rfl (sc rfl rfl sn)) e'24.1 (pt_ rfl rfl (s_mvB rfl (eb_ (g:=33) rfl (fun g'25=>gy_ rfl ((e'24.2.1 g'25).elim fun r'26 e'27=>ca_ (sc rfl rfl (sc rfl rfl sn)) e'27.1 (pt_ rfl rfl (s_mvB rfl (e_ (rt_ (hQ _ _ _ rfl e'27.2))))))) (fun g'25=>gn_ (b:=false) rfl rfl (pf_ rfl rfl (s_mvB rfl (e_ (rt_ (hQ _ _ _ rfl (e'24.2.2 g'25)))))))))))) (fun g'22=>gn_ (b:=false) rfl rfl (pf_ rfl rfl (s_mvB rfl (gn_ (b:=false) rfl rfl (pf_ rfl rfl (s_mvB rfl (e_ (rt_ (hQ _ _ _ rfl (e'21.2.2 g'22))))))))))))))))) (fun g'19=>gn_ (b:=false) rfl rfl (gn_ (b:=false) rfl rfl (pf_ rfl rfl (s_mvB rfl (gn_ (b:=false) rfl rfl (pf_ rfl rfl (s_mvB rfl (gn_ (b:=false) rfl rfl (pf_ rfl rfl (s_mvB rfl (e_ (rt_ (hQ _ _ _ rfl (e'18.2.2 g'19))))))))))))))))))))))) (fun g'16=>gn_ (b:=false) rfl rfl (gn_ (b:=false) rfl rfl (gn_ (b:=false) rfl rfl (pf_ rfl rfl (s_mvB rfl (gn_ (b:=false) rfl rfl (gn_ (b:=false) rfl rfl (pf_ rfl rfl (s_mvB rfl (gn_ (b:=false) rfl rfl (pf_ rfl rfl (s_mvB rfl (gn_ (b:=false) rfl rfl (pf_ rfl rfl (s_mvB rfl (e_ (rt_ (hQ _ _ _ rfl (e'15.2.2 g'16)))))))))))))))))))))))))))) (fun g'13=>gn_ (b:=false) rfl rfl (gn_ (b:=false) rfl rfl (gn_ (b:=false) rfl rfl (pf_ rfl rfl (s_mvB rfl (gn_ (b:=false) rfl rfl (gn_ (b:=false) rfl rfl (gn_ (b:=false) rfl rfl (pf_ rfl rfl (s_mvB rfl (gn_ (b:=false) rfl rfl (gn_ (b:=false) rfl rfl (pf_ rfl rfl (s_mvB rfl (gn_ (b:=false) rfl rfl (pf_ rfl rfl (s_mvB rfl (gn_ (b:=false) rfl rfl (pf_ rfl rfl (s_mvB rfl (e_ (rt_ (hQ _ _ _ rfl (e'12.2.2 g'13))))))))))))))))))))))))))))))))) (fun g'10=>gn_ (b:=false) rfl rfl (gn_ (b:=false) rfl rfl (gn_ (b:=false) rfl rfl (pf_ rfl rfl (s_mvB rfl (gn_ (b:=false) rfl rfl (gn_ (b:=false) rfl rfl (gn_ (b:=false) rfl rfl (pf_ rfl rfl (s_mvB rfl (gn_ (b:=false) rfl rfl (gn_ (b:=false) rfl rfl (gn_ (b:=false) rfl rfl (pf_ rfl rfl (s_mvB rfl (gn_ (b:=false) rfl rfl (gn_ (b:=false) rfl rfl (pf_ rfl rfl (s_mvB rfl (gn_ (b:=false) rfl rfl (pf_ rfl rfl (s_mvB rfl (gn_ (b:=false) rfl rfl (pf_ rfl rfl (s_mvB rfl (e_ (rt_ (hQ _ _ _ rfl (e'9.2.2 g'10)))))))))))))))))))))))))))))))))))))) (fun g'7=>gn_ (b:=false) rfl rfl (gn_ (b:=false) rfl rfl (gn_ (b:=false) rfl rfl (pf_ rfl rfl (s_mvB rfl (gn_ (b:=false) rfl rfl (gn_ (b:=false) rfl rfl (gn_ (b:=false) rfl rfl (pf_ rfl rfl (s_mvB rfl (gn_ (b:=false) rfl rfl (gn_ (b:=false) rfl rfl (gn_ (b:=false) rfl rfl (pf_ rfl rfl (s_mvB rfl (gn_ (b:=false) rfl rfl (gn_ (b:=false) rfl rfl (gn_ (b:=false) rfl rfl (pf_ rfl rfl (s_mvB rfl (gn_ (b:=false) rfl rfl (gn_ (b:=false) rfl rfl (pf_ rfl rfl (s_mvB rfl (gn_ (b:=false) rfl rfl (pf_ rfl rfl (s_mvB rfl (gn_ (b:=false) rfl rfl (pf_ rfl rfl (s_mvB rfl (e_ (rt_ (hQ _ _ _ rfl (e'6.2.2 g'7))))))))))))))))))))))))))))))))))))))))))))))))
end
theorem p256 {prog:Prog}(hf:prog.fn 256 = some pf256)  {K:Bool→Prop}(h:T256_0 prog K ) :∃res0:Bool,K res0∧Pus prog 256 [] (.b res0):=by
  obtain ⟨v,hv,res0,hk,rfl⟩:=Pus.of (K:=fun v=>∃res0:Bool,K res0∧v = .b res0) hf rfl (w256_0 (σ:=sl0 []) (fun σ st   res0 H0 hk=>⟨.b res0,by simp only [pf256,ares,aresL,H0,ares1,Option.map_some],_,rfl,res0,hk,rfl⟩)  h)
  exact ⟨res0,hk,hv⟩
def r242_0:List AI:=[oO 2 (.box 5 (.t 0)),
 oC 4 (.b false)]
def r242_1:List AI:=[oO 12 (.call false 256 []),
 oM 5 12]
def r242_2:List AI:=[oF 13 4 2,
 oL 14 13,
 oO 15 (.len true (.t 14)),
 oB 16 .gtr (.t 15) (.c (.i .i64 100)),
 oM 17 16,
 oG 18 (.mv (.t 1)) 17 false,
 oG 19 (.len true (.t 18)) 17 false,
 oG 20 (.bin .gtr (.t 19) (.c (.i .i64 2000))) 17 false,
 oO 21 (.pick (.t 17) (.c (.b true)) (.t 20)),
 oM 22 21,
 oG 23 (.mv (.t 5)) 22 false,
 oG 24 (.un .not (.t 23)) 22 false,
 oO 25 (.pick (.t 22) (.c (.b true)) (.t 24))]
def r242_3:List AI:=[oM 26 5,
 oM 4 26]
def r242_4:List AI:=[oO 28 (.load 5 true (.t 2)),
 oO 29 (.call false 243 [(.t 28)]),
 oM 27 29,
 oE 30 0 27,
 oE 31 1 27,
 oM 6 30,
 oM 7 31]
def r242_5:List AI:=[oM 32 7,
 oO 33 (.load 5 true (.t 2)),
 oO 34 (.call false 247 [(.t 33)]),
 oB 35 .neq (.t 32) (.t 34),
 oM 36 35,
 oG 37 (.mv (.t 7)) 36 false,
 oG 38 (.bin .eql (.t 37) (.c (.i .i64 0))) 36 false,
 oG 39 (.load 5 true (.t 2)) 36 false,
 oG 40 (.call false 248 [(.t 39)]) 36 false,
 oG 41 (.bin .eql (.t 40) (.c (.i .i64 0))) 36 false,
 oG 42 (.beq true (.t 38) (.t 41)) 36 false,
 oO 43 (.pick (.t 36) (.c (.b true)) (.t 42)),
 oM 44 43,
 oG 45 (.mv (.t 7)) 44 false,
 oG 46 (.bin .eql (.t 45) (.c (.i .i64 0))) 44 false,
 oG 47 (.mv (.t 46)) 44 false,
 oG 48 (.load 5 true (.t 2)) 47 true,
 oG 49 (.mv (.t 6)) 47 true,
 oG 50 (.call false 249 [(.t 48),(.t 49)]) 47 true,
 oG 51 (.un .not (.t 50)) 47 true,
 oG 52 (.pick (.t 47) (.t 51) (.c (.b false))) 44 false,
 oO 53 (.pick (.t 44) (.c (.b true)) (.t 52))]
def r242_6:List AI:=[oC 4 (.b false)]
def r242_7:List AI:=[oM 55 1,
 oO 56 (.call false 245 [(.t 55)]),
 oM 54 56,
 oE 57 0 54,
 oE 58 1 54,
 oO 8 (.alloc [.i .u8 0,.i .i64 0,.i .i64 0,.i .i64 0,.s []]),
 oS 5 8 57,
 oM 9 58]
def r242_8:List AI:=[oM 59 9,
 oB 60 .neq (.t 59) (.c (.i .i64 0))]
def r242_9:List AI:=[oM 61 5,
 oM 62 61,
 oG 63 (.mv (.t 9)) 62 true,
 oG 64 (.bin .eql (.t 63) (.c (.i .i64 12))) 62 true,
 oO 65 (.pick (.t 62) (.t 64) (.c (.b false))),
 oM 4 65]
def r242_10:List AI:=[oO 67 (.load 5 true (.t 8)),
 oO 68 (.call false 243 [(.t 67)]),
 oM 66 68,
 oE 69 0 66,
 oE 70 1 66,
 oM 10 69,
 oM 11 70]
def r242_11:List AI:=[oM 71 5,
 oM 72 71,
 oG 73 (.mv (.t 11)) 72 true,
 oG 74 (.bin .eql (.t 73) (.c (.i .i64 0))) 72 true,
 oO 75 (.pick (.t 72) (.t 74) (.c (.b false))),
 oM 76 75,
 oG 77 (.mv (.t 10)) 76 true,
 oG 78 (.mv (.t 1)) 76 true,
 oG 79 (.bin .eql (.t 77) (.t 78)) 76 true,
 oO 80 (.pick (.t 76) (.t 79) (.c (.b false))),
 oM 4 80]
abbrev c242_0:AC:=(.seq (.reg 10 r242_10) (.seq (.reg 11 r242_11) .ret))
abbrev c242_1:AC:=(.seq (.reg 7 r242_7) (.seq (.seq (.reg 8 r242_8) (.cond (.t 60) (.seq (.reg 9 r242_9) .ret) .skip)) c242_0))
abbrev c242_2:AC:=(.seq (.reg 4 r242_4) (.seq (.seq (.reg 5 r242_5) (.cond (.t 53) (.seq (.reg 6 r242_6) .ret) .skip)) c242_1))
abbrev c242_3:AC:=(.seq (.seq (.reg 2 r242_2) (.cond (.t 25) (.seq (.reg 3 r242_3) .ret) .skip)) c242_2)
abbrev c242_4:AC:=(.seq (.reg 1 r242_1) c242_3)
abbrev b242:AC:=(.seq (.reg 0 r242_0) c242_4)
def pf242:AF:={ nt:=81,res:=[.tmp 4],body:=b242 }
abbrev H242 (Q:AE→Sl→St→Prop)(K:Bool→Prop):Prop:=∀(σ:Sl)(st:St)(res0:Bool),σ 4 = .b res0→K res0→Q .ret σ st
def T242_5 (prog:Prog)(K:Bool→Prop)(s1:List UInt8)(ok5:Bool)(m28677:Qry):Prop:=
  ∃r'1:List UInt8,∃r'2:Int,Pus prog 243 [m28677.av] (.tup [.s r'1,.i .i64 r'2])∧(ok5 = true→(r'2 = 0→K (decide (r'1 = s1)))∧(¬(r'2 = 0)→K false))∧(ok5 = false→K false)
def T242_4 (prog:Prog)(K:Bool→Prop)(s1:List UInt8)(ok5:Bool):Prop:=
  ∃r'1:Qry,∃r'2:Int,Pus prog 245 [.s s1] (.tup [r'1.av,.i .i64 r'2])∧(r'2≠0→(ok5 = true→K (decide (r'2 = 12)))∧(ok5 = false→K false))∧(¬(r'2≠0)→T242_5 prog K s1 ok5 r'1)
def T242_3 (prog:Prog)(K:Bool→Prop)(s1:List UInt8)(ok5:Bool)(m0:Qry):Prop:=
  ∃r'1:List UInt8,∃r'2:Int,Pus prog 243 [m0.av] (.tup [.s r'1,.i .i64 r'2])∧∃r'4:Int,Pus prog 247 [m0.av] (.i .i64 r'4)∧(r'2≠r'4→K false)∧(¬(r'2≠r'4)→∃r'7:Int,Pus prog 248 [m0.av] (.i .i64 r'7)∧((decide (r'2 = 0))≠(decide (r'7 = 0))→K false)∧(¬((decide (r'2 = 0))≠(decide (r'7 = 0)))→(r'2 = 0→∃r'11:Bool,Pus prog 249 [m0.av,.s r'1] (.b r'11)∧((!r'11) = true→K false)∧((!r'11) = false→T242_4 prog K s1 ok5))∧(¬(r'2 = 0)→T242_4 prog K s1 ok5)))
def T242_2 (prog:Prog)(K:Bool→Prop)(s1:List UInt8)(ok5:Bool)(m0:Qry):Prop:=
  ((m0.name.length:Int) > 100→K ok5)∧(¬((m0.name.length:Int) > 100)→((s1.length:Int) > 2000→K ok5)∧(¬((s1.length:Int) > 2000)→((!ok5) = true→K ok5)∧((!ok5) = false→T242_3 prog K s1 ok5 m0)))
def T242_1 (prog:Prog)(K:Bool→Prop)(s1:List UInt8)(m0:Qry):Prop:=
  ∃r'1:Bool,Pus prog 256 [] (.b r'1)∧T242_2 prog K s1 r'1 m0
def T242_0 (prog:Prog)(K:Bool→Prop)(q0:Qry)(s1:List UInt8):Prop:=
  T242_1 prog K s1 q0
section
variable {prog:Prog}{d:Nat}{Q:AE→Sl→St→Prop}{K:Bool→Prop}(hQ:H242 Q K){σ:Sl}{st:St}
include hQ
theorem w242_5 {s1:List UInt8}{ok5:Bool}{m28677:Qry}{v28677:Nat}(H1:σ 1 = .s s1)(H5:σ 5 = .b ok5)(H8:σ 8 = .p (d,28677) v28677 0)(B28677:lk st.bx (d,28677) = some (v28677,[.i .u8 m28677.kind,.i .i64 m28677.g,.i .i64 m28677.k,.i .i64 m28677.key,.s m28677.name]))(h:T242_5 prog K s1 ok5 m28677):W prog d c242_0 σ st Q:=
 q_ rfl (l_ H8 B28677 rfl rfl (h.elim fun r'1 e'6=>e'6.elim fun r'2 e'3=>ca_ (sc rfl rfl sn) e'3.1 (m_ (x_ rfl rfl (x_ rfl rfl (m_ (m_ (e_ (q_ rfl (s_mvB H5 (s_mvB rfl (eb_ (g:=72) rfl (fun g'4=>gy_ rfl (s_mvI rfl (gy_ rfl (b_ rfl rfl eql_ (pt_ rfl rfl (s_mvB rfl (em_ (g:=76) rfl (fun g'5=>gy_ rfl (s_mvS rfl (gy_ rfl (s_mvS H1 (gy_ rfl (b_ rfl rfl seq_ (pt_ rfl rfl (s_mvB rfl (e_ (rt_ (hQ _ _ _ rfl ((e'3.2.1 g'4).1 g'5)))))))))))) (fun g'5=>gn_ (b:=false) rfl rfl (gn_ (b:=false) rfl rfl (gn_ (b:=false) rfl rfl (pf_ rfl rfl (s_mvB rfl (e_ (rt_ (hQ _ _ _ rfl ((e'3.2.1 g'4).2 g'5)))))))))))))))) (fun g'4=>gn_ (b:=false) rfl rfl (gn_ (b:=false) rfl rfl (pf_ rfl rfl (s_mvB rfl (gn_ (b:=false) rfl rfl (gn_ (b:=false) rfl rfl (gn_ (b:=false) rfl rfl (pf_ rfl rfl (s_mvB rfl (e_ (rt_ (hQ _ _ _ rfl (e'3.2.2 g'4)))))))))))))))))))))))))
theorem w242_4 {s1:List UInt8}{ok5:Bool}(H1:σ 1 = .s s1)(H5:σ 5 = .b ok5)(h:T242_4 prog K s1 ok5):W prog d c242_1 σ st Q:=
 sq_ (W.reg (m_ (h.elim fun r'1 e'6=>e'6.elim fun r'2 e'3=>ca_ (sc H1 rfl sn) e'3.1 (m_ (x_ rfl rfl (x_ rfl rfl (s_alloc (so_ rfl (show lk _ (d,28677) = some (_,([.i .u8 0,.i .i64 0,.i .i64 0,.i .i64 0,.s []]:List AV)) from lk_here) rfl rfl rfl (m_ (e_ (sq_ (q_ rfl (m_ (b_ rfl rfl neq_ (e_ (cs_ rfl (fun g'4=>q_ rfl (s_mvB H5 (s_mvB rfl (eb_ (g:=62) rfl (fun g'5=>gy_ rfl (s_mvI rfl (gy_ rfl (b_ rfl rfl eql_ (pt_ rfl rfl (s_mvB rfl (e_ (rt_ (hQ _ _ _ rfl ((e'3.2.1 g'4).1 g'5)))))))))) (fun g'5=>gn_ (b:=false) rfl rfl (gn_ (b:=false) rfl rfl (pf_ rfl rfl (s_mvB rfl (e_ (rt_ (hQ _ _ _ rfl ((e'3.2.1 g'4).2 g'5)))))))))))) (fun g'4=>sk_ (w242_5 hQ H1 H5 rfl lk_here (e'3.2.2 g'4)))))))))))))))))))
theorem w242_3 {s1:List UInt8}{ok5:Bool}{m0:Qry}{v0:Nat}(H1:σ 1 = .s s1)(H2:σ 2 = .p (d,0) v0 0)(H5:σ 5 = .b ok5)(B0:lk st.bx (d,0) = some (v0,[.i .u8 m0.kind,.i .i64 m0.g,.i .i64 m0.k,.i .i64 m0.key,.s m0.name]))(h:T242_3 prog K s1 ok5 m0):W prog d c242_2 σ st Q:=
 q_ rfl (l_ H2 B0 rfl rfl (h.elim fun r'1 e'14=>e'14.elim fun r'2 e'3=>ca_ (sc rfl rfl sn) e'3.1 (m_ (x_ rfl rfl (x_ rfl rfl (m_ (m_ (e_ (sq_ (q_ rfl (s_mvI rfl (l_ H2 B0 rfl rfl (e'3.2.elim fun r'4 e'5=>ca_ (sc rfl rfl sn) e'5.1 (b_ rfl rfl neq_ (s_mvB rfl (em_ (g:=36) rfl (fun g'6=>gn_ (b:=true) rfl rfl (gn_ (b:=true) rfl rfl (gn_ (b:=true) rfl rfl (gn_ (b:=true) rfl rfl (gn_ (b:=true) rfl rfl (gn_ (b:=true) rfl rfl (pt_ rfl rfl (s_mvB rfl (gn_ (b:=true) rfl rfl (gn_ (b:=true) rfl rfl (gn_ (b:=true) rfl rfl (gt_ rfl (gt_ rfl (gt_ rfl (gt_ rfl (gn_ (b:=true) rfl rfl (pt_ rfl rfl (e_ (ct_ rfl (q_ rfl (m_ (e_ (rt_ (hQ _ _ _ rfl (e'5.2.1 g'6))))))))))))))))))))))))) (fun g'6=>gy_ rfl (s_mvI rfl (gy_ rfl (b_ rfl rfl eql_ (gy_ rfl (l_ H2 B0 rfl rfl (gy_ rfl ((e'5.2.2 g'6).elim fun r'7 e'8=>ca_ (sc rfl rfl sn) e'8.1 (gy_ rfl (b_ rfl rfl eql_ (gy_ rfl (s_bne rfl rfl (pf_ rfl rfl (s_mvB rfl (em_ (g:=44) rfl (fun g'9=>gn_ (b:=true) rfl rfl (gn_ (b:=true) rfl rfl (gn_ (b:=true) rfl rfl (gt_ rfl (gt_ rfl (gt_ rfl (gt_ rfl (gn_ (b:=true) rfl rfl (pt_ rfl rfl (e_ (ct_ rfl (q_ rfl (m_ (e_ (rt_ (hQ _ _ _ rfl (e'8.2.1 g'9))))))))))))))))) (fun g'9=>gy_ rfl (s_mvI rfl (gy_ rfl (b_ rfl rfl eql_ (gy_ rfl (s_mvB rfl (em_ (g:=47) rfl (fun g'10=>gy_ rfl (l_ H2 B0 rfl rfl (gy_ rfl (s_mvS rfl (gy_ rfl (((e'8.2.2 g'9).1 g'10).elim fun r'11 e'12=>ca_ (sc rfl rfl (sc rfl rfl sn)) e'12.1 (gy_ rfl (nt_ rfl (gy_ rfl (pt_ rfl rfl (pf_ rfl rfl (e_ (cb_ rfl (fun g'13=>q_ rfl (m_ (e_ (rt_ (hQ _ _ _ rfl (e'12.2.1 g'13)))))) (fun g'13=>sk_ (w242_4 hQ H1 H5 (e'12.2.2 g'13)))))))))))))))) (fun g'10=>gn_ (b:=false) rfl rfl (gn_ (b:=false) rfl rfl (gn_ (b:=false) rfl rfl (gn_ (b:=false) rfl rfl (gy_ rfl (pf_ rfl rfl (pf_ rfl rfl (e_ (cf_ rfl (sk_ (w242_4 hQ H1 H5 ((e'8.2.2 g'9).2 g'10))))))))))))))))))))))))))))))))))))))))))))))))))
theorem w242_2 {s1:List UInt8}{ok5:Bool}{m0:Qry}{v0:Nat}(H1:σ 1 = .s s1)(H2:σ 2 = .p (d,0) v0 0)(H5:σ 5 = .b ok5)(B0:lk st.bx (d,0) = some (v0,[.i .u8 m0.kind,.i .i64 m0.g,.i .i64 m0.k,.i .i64 m0.key,.s m0.name]))(h:T242_2 prog K s1 ok5 m0):W prog d c242_3 σ st Q:=
 sq_ (q_ rfl (f_ H2 (l_ rfl B0 rfl rfl (ln_ rfl (b_ rfl rfl gtr_ (s_mvB rfl (em_ (g:=17) rfl (fun g'1=>gn_ (b:=true) rfl rfl (gn_ (b:=true) rfl rfl (gn_ (b:=true) rfl rfl (pt_ rfl rfl (s_mvB rfl (gn_ (b:=true) rfl rfl (gn_ (b:=true) rfl rfl (pt_ rfl rfl (e_ (ct_ rfl (q_ rfl (m_ (m_ (e_ (rt_ (hQ _ _ _ H5 (h.1 g'1))))))))))))))))) (fun g'1=>gy_ rfl (s_mvS H1 (gy_ rfl (ln_ rfl (gy_ rfl (b_ rfl rfl gtr_ (pf_ rfl rfl (s_mvB rfl (em_ (g:=22) rfl (fun g'2=>gn_ (b:=true) rfl rfl (gn_ (b:=true) rfl rfl (pt_ rfl rfl (e_ (ct_ rfl (q_ rfl (m_ (m_ (e_ (rt_ (hQ _ _ _ H5 ((h.2 g'1).1 g'2)))))))))))) (fun g'2=>gy_ rfl (s_mvB H5 (gy_ rfl (nt_ rfl (pf_ rfl rfl (e_ (cb_ rfl (fun g'3=>q_ rfl (m_ (m_ (e_ (rt_ (hQ _ _ _ H5 (((h.2 g'1).2 g'2).1 g'3))))))) (fun g'3=>sk_ (w242_3 hQ H1 H2 H5 B0 (((h.2 g'1).2 g'2).2 g'3))))))))))))))))))))))))))
theorem w242_1 {s1:List UInt8}{m0:Qry}{v0:Nat}(H1:σ 1 = .s s1)(H2:σ 2 = .p (d,0) v0 0)(B0:lk st.bx (d,0) = some (v0,[.i .u8 m0.kind,.i .i64 m0.g,.i .i64 m0.k,.i .i64 m0.key,.s m0.name]))(h:T242_1 prog K s1 m0):W prog d c242_4 σ st Q:=
 q_ rfl (h.elim fun r'1 e'2=>ca_ sn e'2.1 (m_ (e_ (w242_2 hQ H1 H2 rfl B0 e'2.2))))
theorem w242_0 {q0:Qry}{s1:List UInt8}(H0:σ 0 = q0.av)(H1:σ 1 = .s s1)(h:T242_0 prog K q0 s1):W prog d (.seq (.reg 0 r242_0) c242_4) σ st Q:=
 q_ rfl (s_box H0 rfl (m_ (e_ (w242_1 hQ H1 rfl lk_here h))))
end
theorem p242 {prog:Prog}(hf:prog.fn 242 = some pf242){q0:Qry}{s1:List UInt8}{K:Bool→Prop}(h:T242_0 prog K q0 s1) :∃res0:Bool,K res0∧Pus prog 242 [q0.av,.s s1] (.b res0):=by
  obtain ⟨v,hv,res0,hk,rfl⟩:=Pus.of (K:=fun v=>∃res0:Bool,K res0∧v = .b res0) hf rfl (w242_0 (σ:=sl0 [q0.av,.s s1]) (fun σ st   res0 H4 hk=>⟨.b res0,by simp only [pf242,ares,aresL,H4,ares1,Option.map_some],_,rfl,res0,hk,rfl⟩) rfl rfl h)
  exact ⟨res0,hk,hv⟩
end Go.AM

/- Parts of the proof. -/
namespace Go.AM
open Go
set_option linter.unusedVariables false
set_option linter.unusedSimpArgs false
set_option maxRecDepth 4000
attribute [local irreducible] WO fillCells fillRows
def r264_0:List AI:=[oO 3 (.box 3 (.t 0)),
 oO 4 (.box 4 (.t 1)),
 oO 5 (.box 5 (.t 2)),
 oC 6 (.sl .full []),
 oC 7 (.i .i64 0)]
def r264_1:List AI:=[oO 13 (.load 5 true (.t 5)),
 oO 14 (.call false 247 [(.t 13)]),
 oM 8 14]
def r264_2:List AI:=[oM 15 8,
 oB 16 .neq (.t 15) (.c (.i .i64 0))]
def r264_3:List AI:=[oM 17 8,
 oC 6 (.sl .full []),
 oM 7 17]
def r264_4:List AI:=[oO 18 (.load 3 true (.t 3)),
 oO 19 (.load 4 true (.t 4)),
 oO 20 (.call false 213 [(.t 18),(.t 19)]),
 oM 9 20]
def r264_5:List AI:=[oM 21 9,
 oB 22 .neq (.t 21) (.c (.i .i64 0))]
def r264_6:List AI:=[oM 23 9,
 oC 6 (.sl .full []),
 oM 7 23]
def r264_7:List AI:=[oO 24 (.load 3 true (.t 3)),
 oO 25 (.load 4 true (.t 4)),
 oO 26 (.load 5 true (.t 5)),
 oO 27 (.build [.sl .full [],.sl .full [],.sl .full [],.i .u8 0,.i .i64 0,.i .i64 0,.sl .full [],.i .u8 0,.i .i64 0,.i .i64 0,.i .i64 0,.s [],.sl .full []] [(0,3,(.t 24)),(3,4,(.t 25)),(7,5,(.t 26))]),
 oO 28 (.box 13 (.t 27)),
 oO 10 (.alloc [.np]),
 oS 1 10 28]
def r264_8:List AI:=[oL 29 10,
 oO 30 (.mkbf 268 [(.t 29)]),
 oM 11 30]
def r264_9:List AI:=[oF 31 0 5,
 oL 32 31]
def r264_10:List AI:=[oB 34 .eql (.t 32) (.c (.i .u8 1)),
 oM 33 34]
def r264_11:List AI:=[oL 35 10,
 oO 36 (.mkbf 269 [(.t 35)]),
 oM 11 36]
def r264_12:List AI:=[oB 38 .eql (.t 32) (.c (.i .u8 6)),
 oM 37 38]
def r264_13:List AI:=[oL 39 10,
 oO 40 (.mkbf 270 [(.t 39)]),
 oM 11 40]
def r264_14:List AI:=[oB 42 .eql (.t 32) (.c (.i .u8 7)),
 oM 41 42]
def r264_15:List AI:=[oO 43 (.mkfn 271 [(.t 10)]),
 oM 11 43]
def r264_16:List AI:=[oB 45 .eql (.t 32) (.c (.i .u8 8)),
 oM 44 45]
def r264_17:List AI:=[oO 46 (.mkfn 274 [(.t 10)]),
 oM 11 46]
def r264_18:List AI:=[oM 47 11,
 oO 48 (.callv (.t 47) []),
 oM 12 48]
def r264_19:List AI:=[oM 49 12,
 oB 50 .neq (.t 49) (.c (.i .i64 0))]
def r264_20:List AI:=[oM 51 12,
 oC 6 (.sl .full []),
 oM 7 51]
def r264_21:List AI:=[oL 52 10,
 oN 53 52,
 oF 54 12 53,
 oL 55 54,
 oM 6 55,
 oC 7 (.i .i64 0)]
abbrev c264_0:AC:=(.seq (.seq (.reg 18 r264_18) (.seq (.reg 19 r264_19) (.cond (.t 50) (.seq (.reg 20 r264_20) .ret) .skip))) (.seq (.reg 500021 r264_21) .ret))
abbrev c264_1:AC:=(.seq (.seq (.reg 1 r264_1) (.seq (.reg 2 r264_2) (.cond (.t 16) (.seq (.reg 3 r264_3) .ret) .skip))) (.seq (.seq (.reg 4 r264_4) (.seq (.reg 5 r264_5) (.cond (.t 22) (.seq (.reg 6 r264_6) .ret) .skip))) (.seq (.reg 7 r264_7) (.seq (.reg 8 r264_8) (.seq (.seq (.reg 9 r264_9) (.block 0 (.seq (.reg 10 r264_10) (.cond (.t 33) (.reg 11 r264_11) (.seq (.reg 12 r264_12) (.cond (.t 37) (.reg 13 r264_13) (.seq (.reg 14 r264_14) (.cond (.t 41) (.reg 15 r264_15) (.seq (.reg 16 r264_16) (.cond (.t 44) (.reg 17 r264_17) .skip)))))))))) c264_0)))))
abbrev b264:AC:=(.seq (.reg 0 r264_0) c264_1)
def pf264:AF:={ nt:=56,res:=[.tmp 6,.tmp 7],body:=b264 }
abbrev H264 (Q:AE→Sl→St→Prop)(K:List (List UInt8)→Int→Prop):Prop:=∀(σ:Sl)(st:St)(o0:Own)(res0:List (List UInt8))(res1:Int),σ 6 = .sl o0 (List.map rowS res0)→σ 7 = .i .i64 res1→K res0 res1→Q .ret σ st
def T264_1 (prog:Prog)(K:List (List UInt8)→Int→Prop)(m0:Img)(m1:Sta)(m2:Qry):Prop:=
  ∃r'1:Int,Pus prog 247 [m2.av] (.i .i64 r'1)∧(r'1≠0→K ([]:List (List UInt8)) r'1)∧(¬(r'1≠0)→∃r'4:Int,Pus prog 213 [m0.av,m1.av] (.i .i64 r'4)∧(r'4≠0→K ([]:List (List UInt8)) r'4)∧(¬(r'4≠0)→(m2.kind = 1→∃r'8:Int,∃b'14:Dsk,PuX prog 269 (Dk (Dsk.mk m0 m1 m2 ([]:List (List UInt8)))) [] (fun r=>r = .i .i64 r'8) ((Dk b'14))∧(r'8≠0→K ([]:List (List UInt8)) r'8)∧(¬(r'8≠0)→K b'14.out 0))∧(¬(m2.kind = 1)→(m2.kind = 6→∃r'19:Int,∃b'25:Dsk,PuX prog 270 (Dk (Dsk.mk m0 m1 m2 ([]:List (List UInt8)))) [] (fun r=>r = .i .i64 r'19) ((Dk b'25))∧(r'19≠0→K ([]:List (List UInt8)) r'19)∧(¬(r'19≠0)→K b'25.out 0))∧(¬(m2.kind = 6)→(m2.kind = 7→∃r'30:Int,∃b'36:Dsk,PuV prog 271 (Dk (Dsk.mk m0 m1 m2 ([]:List (List UInt8)))) (fun r=>r = .i .i64 r'30) ((Dk b'36))∧(r'30≠0→K ([]:List (List UInt8)) r'30)∧(¬(r'30≠0)→K b'36.out 0))∧(¬(m2.kind = 7)→(m2.kind = 8→∃r'41:Int,∃b'47:Dsk,PuV prog 274 (Dk (Dsk.mk m0 m1 m2 ([]:List (List UInt8)))) (fun r=>r = .i .i64 r'41) ((Dk b'47))∧(r'41≠0→K ([]:List (List UInt8)) r'41)∧(¬(r'41≠0)→K b'47.out 0))∧(¬(m2.kind = 8)→∃r'51:Int,∃b'57:Dsk,PuX prog 268 (Dk (Dsk.mk m0 m1 m2 ([]:List (List UInt8)))) [] (fun r=>r = .i .i64 r'51) ((Dk b'57))∧(r'51≠0→K ([]:List (List UInt8)) r'51)∧(¬(r'51≠0)→K b'57.out 0)))))))
def T264_0 (prog:Prog)(K:List (List UInt8)→Int→Prop)(m0:Img)(s1:Sta)(q2:Qry):Prop:=
  T264_1 prog K m0 s1 q2
section
variable {prog:Prog}{d:Nat}{Q:AE→Sl→St→Prop}{K:List (List UInt8)→Int→Prop}(hQ:H264 Q K){σ:Sl}{st:St}
include hQ
theorem w264_1 {m0:Img}{m1:Sta}{m2:Qry}{v0:Nat}{v1:Nat}{v2:Nat}(H3:σ 3 = .p (d,0) v0 0)(H4:σ 4 = .p (d,1) v1 0)(H5:σ 5 = .p (d,2) v2 0)(B0:lk st.bx (d,0) = some (v0,[.sl .ext (List.map Typ.row m0.types),.sl .ext (List.map rowS m0.texts),.sl .ext (List.map Fun.row m0.funcs)]))(B1:lk st.bx (d,1) = some (v1,[.i .u8 m1.outcome,.i .i64 m1.failing,.i .i64 m1.steps,.sl .ext (List.map Rou.row m1.routines)]))(B2:lk st.bx (d,2) = some (v2,[.i .u8 m2.kind,.i .i64 m2.g,.i .i64 m2.k,.i .i64 m2.key,.s m2.name]))(h:T264_1 prog K m0 m1 m2):W prog d c264_1 σ st Q:=
 sq_ (q_ rfl (l_ H5 B2 rfl rfl (h.elim fun r'1 e'2=>ca_ (sc rfl rfl sn) e'2.1 (m_ (e_ (q_ rfl (m_ (b_ rfl rfl neq_ (e_ (cs_ rfl (fun g'3=>q_ rfl (m_ (s_mvL (f:=rowS) (l:=[]) rfl (m_ (e_ (rt_ (hQ _ _ _ _ _ rfl rfl (e'2.2.1 g'3)))))))) (fun g'3=>sk_ (sq_ (q_ rfl (l_ H3 B0 rfl rfl (l_ H4 B1 rfl rfl ((e'2.2.2 g'3).elim fun r'4 e'5=>ca_ (sc rfl rfl (sc rfl rfl sn)) e'5.1 (m_ (e_ (q_ rfl (m_ (b_ rfl rfl neq_ (e_ (cs_ rfl (fun g'6=>q_ rfl (m_ (s_mvL (f:=rowS) (l:=[]) rfl (m_ (e_ (rt_ (hQ _ _ _ _ _ rfl rfl (e'5.2.1 g'6)))))))) (fun g'6=>sk_ (sq_ (W.reg (l_ H3 (lk_other rfl B0) rfl rfl (l_ H4 (lk_other rfl B1) rfl rfl (l_ H5 (lk_other rfl B2) rfl rfl (s_build (f_cons rfl rfl (f_cons rfl rfl (f_cons rfl rfl f_nil))) (s_box rfl rfl (s_alloc (so_ rfl (lk_other rfl (show lk _ (d,28677) = some (_,([.np]:List AV)) from lk_here)) rfl rfl rfl (e_ (q_ rfl (l_ rfl lk_here rfl rfl (s_mkbf (sec rfl sen) (m_ (e_ (sq_ (q_ rfl (f_ H5 (l_ rfl (lk_other rfl (lk_other rfl (lk_other rfl B2))) rfl rfl (e_ (bk_ (q_ rfl (b_ rfl rfl eql_ (m_ (e_ (cs_ rfl (fun g'7=>W.reg0 rfl fun _ _=>l_ rfl lk_here rfl rfl (s_mkbf (sec rfl sen) (m_ (e_ (sq_ (q_ rfl (m_ (((e'5.2.2 g'6).1 g'7).elim fun r'8 e'17=>e'17.elim fun b'14 e'10=>s_callB rfl sen e'10.1 (Nat.lt_succ_self d) (Dk.other (key_LL rfl) (Dk.new (m:=(Dsk.mk m0 m1 m2 ([]:List (List UInt8)))) (show lk _ (d,28676) = some (_,([.sl .ext (List.map Typ.row m0.types),.sl .ext (List.map rowS m0.texts),.sl .ext (List.map Fun.row m0.funcs),.i .u8 m1.outcome,.i .i64 m1.failing,.i .i64 m1.steps,.sl .ext (List.map Rou.row m1.routines),.i .u8 m2.kind,.i .i64 m2.g,.i .i64 m2.k,.i .i64 m2.key,.s m2.name,.sl .full (List.map rowS ([]:List (List UInt8)))]:List AV)) from lk_here) rfl)) (fun st'11 hb'12 hf'13=>m_ (e_ (q_ rfl (m_ (b_ rfl rfl neq_ (e_ (cs_ rfl (fun g'15=>q_ rfl (m_ (s_mvL (f:=rowS) (l:=[]) rfl (m_ (e_ (rt_ (hQ _ _ _ _ _ rfl rfl (e'10.2.1 g'15)))))))) (fun g'15=>sk_ (q_ rfl (l_ rfl ((hf'13.1 (d,28677) (Nat.lt_succ_self d) (key_LL rfl)).trans lk_here) rfl rfl (s_nilP rfl (f_ rfl (s_loadO rfl hb'12 (fun o'16_=>s_mvL rfl (m_ (e_ (rt_ (hQ _ _ _ _ _ rfl rfl (e'10.2.2 g'15))))))))))))))))))))))))))) (fun g'7=>q_ rfl (b_ rfl rfl eql_ (m_ (e_ (cs_ rfl (fun g'18=>W.reg0 rfl fun _ _=>l_ rfl lk_here rfl rfl (s_mkbf (sec rfl sen) (m_ (e_ (sq_ (q_ rfl (m_ ((((e'5.2.2 g'6).2 g'7).1 g'18).elim fun r'19 e'28=>e'28.elim fun b'25 e'21=>s_callB rfl sen e'21.1 (Nat.lt_succ_self d) (Dk.other (key_LL rfl) (Dk.new (m:=(Dsk.mk m0 m1 m2 ([]:List (List UInt8)))) (show lk _ (d,28676) = some (_,([.sl .ext (List.map Typ.row m0.types),.sl .ext (List.map rowS m0.texts),.sl .ext (List.map Fun.row m0.funcs),.i .u8 m1.outcome,.i .i64 m1.failing,.i .i64 m1.steps,.sl .ext (List.map Rou.row m1.routines),.i .u8 m2.kind,.i .i64 m2.g,.i .i64 m2.k,.i .i64 m2.key,.s m2.name,.sl .full (List.map rowS ([]:List (List UInt8)))]:List AV)) from lk_here) rfl)) (fun st'22 hb'23 hf'24=>m_ (e_ (q_ rfl (m_ (b_ rfl rfl neq_ (e_ (cs_ rfl (fun g'26=>q_ rfl (m_ (s_mvL (f:=rowS) (l:=[]) rfl (m_ (e_ (rt_ (hQ _ _ _ _ _ rfl rfl (e'21.2.1 g'26)))))))) (fun g'26=>sk_ (q_ rfl (l_ rfl ((hf'24.1 (d,28677) (Nat.lt_succ_self d) (key_LL rfl)).trans lk_here) rfl rfl (s_nilP rfl (f_ rfl (s_loadO rfl hb'23 (fun o'27_=>s_mvL rfl (m_ (e_ (rt_ (hQ _ _ _ _ _ rfl rfl (e'21.2.2 g'26))))))))))))))))))))))))))) (fun g'18=>q_ rfl (b_ rfl rfl eql_ (m_ (e_ (cs_ rfl (fun g'29=>W.reg0 rfl fun _ _=>s_mkfn (sec rfl sen) (m_ (e_ (sq_ (q_ rfl (m_ (((((e'5.2.2 g'6).2 g'7).2 g'18).1 g'29).elim fun r'30 e'39=>e'39.elim fun b'36 e'32=>s_callVV rfl e'32.1 (Nat.lt_succ_self d) (Nat.lt_succ_self d) lk_here (Dk.other (key_LL rfl) (Dk.new (m:=(Dsk.mk m0 m1 m2 ([]:List (List UInt8)))) (show lk _ (d,28676) = some (_,([.sl .ext (List.map Typ.row m0.types),.sl .ext (List.map rowS m0.texts),.sl .ext (List.map Fun.row m0.funcs),.i .u8 m1.outcome,.i .i64 m1.failing,.i .i64 m1.steps,.sl .ext (List.map Rou.row m1.routines),.i .u8 m2.kind,.i .i64 m2.g,.i .i64 m2.k,.i .i64 m2.key,.s m2.name,.sl .full (List.map rowS ([]:List (List UInt8)))]:List AV)) from lk_here) rfl)) (fun st'33 hb'34 hf'35=>m_ (e_ (q_ rfl (m_ (b_ rfl rfl neq_ (e_ (cs_ rfl (fun g'37=>q_ rfl (m_ (s_mvL (f:=rowS) (l:=[]) rfl (m_ (e_ (rt_ (hQ _ _ _ _ _ rfl rfl (e'32.2.1 g'37)))))))) (fun g'37=>sk_ (q_ rfl (l_ rfl ((hf'35.1 (d,28677) (Nat.lt_succ_self d) (key_LL rfl)).trans lk_here) rfl rfl (s_nilP rfl (f_ rfl (s_loadO rfl hb'34 (fun o'38_=>s_mvL rfl (m_ (e_ (rt_ (hQ _ _ _ _ _ rfl rfl (e'32.2.2 g'37)))))))))))))))))))))))))) (fun g'29=>q_ rfl (b_ rfl rfl eql_ (m_ (e_ (cs_ rfl (fun g'40=>W.reg0 rfl fun _ _=>s_mkfn (sec rfl sen) (m_ (e_ (sq_ (q_ rfl (m_ ((((((e'5.2.2 g'6).2 g'7).2 g'18).2 g'29).1 g'40).elim fun r'41 e'50=>e'50.elim fun b'47 e'43=>s_callVV rfl e'43.1 (Nat.lt_succ_self d) (Nat.lt_succ_self d) lk_here (Dk.other (key_LL rfl) (Dk.new (m:=(Dsk.mk m0 m1 m2 ([]:List (List UInt8)))) (show lk _ (d,28676) = some (_,([.sl .ext (List.map Typ.row m0.types),.sl .ext (List.map rowS m0.texts),.sl .ext (List.map Fun.row m0.funcs),.i .u8 m1.outcome,.i .i64 m1.failing,.i .i64 m1.steps,.sl .ext (List.map Rou.row m1.routines),.i .u8 m2.kind,.i .i64 m2.g,.i .i64 m2.k,.i .i64 m2.key,.s m2.name,.sl .full (List.map rowS ([]:List (List UInt8)))]:List AV)) from lk_here) rfl)) (fun st'44 hb'45 hf'46=>m_ (e_ (q_ rfl (m_ (b_ rfl rfl neq_ (e_ (cs_ rfl (fun g'48=>q_ rfl (m_ (s_mvL (f:=rowS) (l:=[]) rfl (m_ (e_ (rt_ (hQ _ _ _ _ _ rfl rfl (e'43.2.1 g'48)))))))) (fun g'48=>sk_ (q_ rfl (l_ rfl ((hf'46.1 (d,28677) (Nat.lt_succ_self d) (key_LL rfl)).trans lk_here) rfl rfl (s_nilP rfl (f_ rfl (s_loadO rfl hb'45 (fun o'49_=>s_mvL rfl (m_ (e_ (rt_ (hQ _ _ _ _ _ rfl rfl (e'43.2.2 g'48)))))))))))))))))))))))))) (fun g'40=>sk_ (sq_ (q_ rfl (m_ ((((((e'5.2.2 g'6).2 g'7).2 g'18).2 g'29).2 g'40).elim fun r'51 e'60=>e'60.elim fun b'57 e'53=>s_callB rfl sen e'53.1 (Nat.lt_succ_self d) (Dk.other (key_LL rfl) (Dk.new (m:=(Dsk.mk m0 m1 m2 ([]:List (List UInt8)))) (show lk _ (d,28676) = some (_,([.sl .ext (List.map Typ.row m0.types),.sl .ext (List.map rowS m0.texts),.sl .ext (List.map Fun.row m0.funcs),.i .u8 m1.outcome,.i .i64 m1.failing,.i .i64 m1.steps,.sl .ext (List.map Rou.row m1.routines),.i .u8 m2.kind,.i .i64 m2.g,.i .i64 m2.k,.i .i64 m2.key,.s m2.name,.sl .full (List.map rowS ([]:List (List UInt8)))]:List AV)) from lk_here) rfl)) (fun st'54 hb'55 hf'56=>m_ (e_ (q_ rfl (m_ (b_ rfl rfl neq_ (e_ (cs_ rfl (fun g'58=>q_ rfl (m_ (s_mvL (f:=rowS) (l:=[]) rfl (m_ (e_ (rt_ (hQ _ _ _ _ _ rfl rfl (e'53.2.1 g'58)))))))) (fun g'58=>sk_ (q_ rfl (l_ rfl ((hf'56.1 (d,28677) (Nat.lt_succ_self d) (key_LL rfl)).trans lk_here) rfl rfl (s_nilP rfl (f_ rfl (s_loadO rfl hb'55 (fun o'59_=>s_mvL rfl (m_ (e_ (rt_ (hQ _ _ _ _ _ rfl rfl (e'53.2.2 g'58)))))))))))))))))))))))))))))))))))))))))))))))))))))))))))))))))))))))))))))))))))))))))
theorem w264_0 {m0:Img}{s1:Sta}{q2:Qry}(H0:σ 0 = m0.av)(H1:σ 1 = s1.av)(H2:σ 2 = q2.av)(h:T264_0 prog K m0 s1 q2):W prog d (.seq (.reg 0 r264_0) c264_1) σ st Q:=
 q_ rfl (s_box H0 rfl (s_box H1 rfl (s_box H2 rfl (s_mvL (f:=rowS) (l:=[]) rfl (m_ (e_ (w264_1 hQ rfl rfl rfl (lk_other rfl (lk_other rfl lk_here)) (lk_other rfl lk_here) lk_here h)))))))
end
theorem p264 {prog:Prog}(hf:prog.fn 264 = some pf264){m0:Img}{s1:Sta}{q2:Qry}{K:List (List UInt8)→Int→Prop}(h:T264_0 prog K m0 s1 q2) :∃res0:List (List UInt8),∃res1:Int,K res0 res1∧Pus prog 264 [m0.av,s1.av,q2.av] (.tup [.sl .ext (List.map rowS res0),.i .i64 res1]):=by
  obtain ⟨v,hv,res0,res1,hk,rfl⟩:=Pus.of (K:=fun v=>∃res0:List (List UInt8),∃res1:Int,K res0 res1∧v = .tup [.sl .ext (List.map rowS res0),.i .i64 res1]) hf rfl (w264_0 (σ:=sl0 [m0.av,s1.av,q2.av]) (fun σ st  o0 res0 res1 H6 H7 hk=>⟨.tup [.sl o0 (List.map rowS res0),.i .i64 res1],by simp only [pf264,ares,aresL,H6,H7,ares1,Option.map_some],_,rfl,res0,res1,hk,rfl⟩) rfl rfl rfl h)
  exact ⟨res0,res1,hk,hv⟩
end Go.AM

/- Parts of the proof. -/
namespace Go.AM
open Go Go.RowKit
def orcQ : Nat → List AV → Option AV := fun c args => if c = 257 then (match args with | [] => some (.mp wordL) | _ => none) else orcB c args
theorem orcQ_257 : orcQ 257 [] = some (.mp wordL) := rfl
theorem orcQ_48 (s : List UInt8) (c : UInt8) : orcQ 48 [.s s, .i .u8 (c.toNat : Int)] = some (.i .i64 (Lib.indexByte s c)) := by
  unfold orcQ
  rw [if_neg (by decide)]
  exact orcB_48 s c
theorem orcQ_146 (k : Key) (v : Nat) : orcQ 146 [.p k v 0] = some (.p k v 0) := rfl
theorem orcQ_105 (args : List AV) : orcQ 105 args = none := by
  unfold orcQ
  rw [if_neg (by decide)]
  exact orcB_105 args
variable {P : Program} {X : Cx}
theorem orcQ_ok {fs : List (Nat × AF)} {orc : Nat → List AV → St → Option (AV × St)} (hB : OracOk P X { fn := fnOf fs, orac := orcB, oracS := orc }) {f0 : Nat} (hf : ∀ f, X.fm f = some 257 → f = f0) (hw : ∀ w, (callFunc f0 #[]).run P w = .ok (.enter f0 #[]) w ∧ Calls P f0 #[] w (WordsR w)) :
    OracOk P X { fn := fnOf fs, orac := orcQ, oracS := orc } := by
  intro f c hfc hn args r hr G w0 st w vals d hG hR hV
  simp only [orcQ] at hr
  split at hr
  case isFalse => exact hB f c hfc hn args r hr G w0 st w vals d hG hR hV
  rename_i hc
  subst hc
  have := hf f hfc
  subst this
  split at hr
  case h_2 => cases hr
  cases hr
  have hv : vals = [] := by
    have := hV.1
    cases vals with
    | nil => rfl
    | cons => simp at this
  subst hv
  refine .inl ⟨(hw w).1, (hw w).2.mono fun e w' he => ?_⟩
  obtain ⟨b, rfl, hb, hge, hbel⟩ := he
  have hnone : ∀ l, G.M b ≠ some l := fun l h => by
    obtain ⟨es, clock, h1, _⟩ := hR.mp b l h
    have := (Array.getElem?_eq_some_iff.1 h1).1
    omega
  have hrel := hR.below hbel
  have hle : ∀ b' l, G.M b' = some l → (if b' = b then some wordL else G.M b') = some l := fun b' l h => by
    rw [if_neg (by rintro rfl; exact hnone l h)]
    exact h
  refine ⟨⟨G.H, G.ρ, G.ω, G.fm, fun b' => if b' = b then some wordL else G.M b'⟩, .mp wordL b (by show (if b = b then _ else _) = _; rw [if_pos rfl]), ⟨⟨fun _ _ _ h => h, fun _ _ _ h => h, fun _ _ _ h => h, rfl, hle⟩, hrel.setM hle fun b' l h => ?_, Nat.le_refl _, fun _ _ _ => ⟨rfl, rfl⟩, fun _ _ _ _ _ _ h => h, fun _ _ _ h => .inl h⟩⟩
  by_cases e : b' = b
  · subst e
    rw [if_pos rfl] at h
    cases h
    exact ⟨wordEs, 8, hb, wordEs_map⟩
  · rw [if_neg e] at h
    exact hrel.mp b' l h
end Go.AM

/- Parts of the proof. -/
namespace Go.AM
open Go Go.RowKit
def sA : Code → Code | .seq a _ => a | c => c
def sB : Code → Code | .seq _ b => b | c => c
def unB : Code → Code | .block _ c => c | .loop c => c | c => c
def unC : Code → Code | .cond _ c _ => c | c => c
def aA : AC → AC | .seq a _ => a | c => c
def aB : AC → AC | .seq _ b => b | c => c
def nog (ops : Array Oper) : Bool := ops.toList.all fun o => o.guard.isNone
theorem of_nog {ops : Array Oper} (h : nog ops = true) : ∀ o ∈ ops.toList, o.guard = none := fun o ho => Option.isNone_iff_eq_none.1 (List.all_eq_true.1 h o ho)
def regOps : Code → Array Oper | .region _ o _ => o | _ => #[]
def bodyOf (f : Func) : Code := f.body.getD .skip
def hndOf (h : Code) : Code :=
  .seq (.region 5 (regOps (sA h)) false) (.block 0 (.loop (.seq (.region 6 (regOps (sA (unB (unB (sB h))))) false) (.seq (.cond (.tmp 18) .skip (.exit 0)) (.block 1 (.seq (.region 7 (regOps (sA (unB (sB (sB (unB (unB (sB h)))))))) false) (.seq (.region 8 (regOps (sA (sB (unB (sB (sB (unB (unB (sB h))))))))) false) (.cond (.tmp 25) (.region 9 (regOps (unC (sB (sB (unB (sB (sB (unB (unB (sB h)))))))))) false) .skip))))))))
theorem good243 {P : Program} {X : Cx} {F : AF} {c : Code} {x1 x2 x4 x5 : AC} (hb : F.body = .seq x1 (.seq x2 (.seq x4 (.seq (.hand hw243) x5)))) (hc : c = .seq (sA c) (.seq (sA (sB c)) (.seq (sA (sB (sB c))) (.seq (hndOf (sA (sB (sB (sB c))))) (sB (sB (sB (sB c))))))))
    (h1 : cCode { X with fz := F.fz } F.nt (sA c) = some x1) (h2 : cCode { X with fz := F.fz } F.nt (sA (sB c)) = some x2) (h4 : cCode { X with fz := F.fz } F.nt (sA (sB (sB c))) = some x4) (h5 : cCode { X with fz := F.fz } F.nt (sB (sB (sB (sB c)))) = some x5)
    (hh : TTok P X.T → ∀ d, CodeOk P { X with fz := F.fz } F.nt d hw243 (hndOf (sA (sB (sB (sB c)))))) : GoodF P X F c := by
  intro hT hm C hC n d
  rw [hb, hc]
  have g1 : CodeOk P { X with fz := F.fz } F.nt d (acode C n d x1) (sA c) := code_ok (X := { X with fz := F.fz }) hT hC hm n d _ _ (Nat.lt_succ_self _) h1
  have g2 : CodeOk P { X with fz := F.fz } F.nt d (acode C n d x2) (sA (sB c)) := code_ok (X := { X with fz := F.fz }) hT hC hm n d _ _ (Nat.lt_succ_self _) h2
  have g4 : CodeOk P { X with fz := F.fz } F.nt d (acode C n d x4) (sA (sB (sB c))) := code_ok (X := { X with fz := F.fz }) hT hC hm n d _ _ (Nat.lt_succ_self _) h4
  have g5 : CodeOk P { X with fz := F.fz } F.nt d (acode C n d x5) (sB (sB (sB (sB c)))) := code_ok (X := { X with fz := F.fz }) hT hC hm n d _ _ (Nat.lt_succ_self _) h5
  have gh : CodeOk P { X with fz := F.fz } F.nt d (acode C n d (.hand hw243)) (hndOf (sA (sB (sB (sB c))))) := by
    intro σ st e σ' st' h
    exact @hh hT d σ st e σ' st' (show hw243 σ st = some (e, σ', st') from h)
  have k1 : CodeOk P { X with fz := F.fz } F.nt d (acode C n d (.seq (.hand hw243) x5)) _ := seq_ok gh g5
  have k2 : CodeOk P { X with fz := F.fz } F.nt d (acode C n d (.seq x4 (.seq (.hand hw243) x5))) _ := seq_ok g4 k1
  have k3 : CodeOk P { X with fz := F.fz } F.nt d (acode C n d (.seq x2 (.seq x4 (.seq (.hand hw243) x5)))) _ := seq_ok g2 k2
  have k4 : CodeOk P { X with fz := F.fz } F.nt d (acode C n d (.seq x1 (.seq x2 (.seq x4 (.seq (.hand hw243) x5))))) _ := seq_ok g1 k3
  intro σ st e σ' st' h
  exact k4 h
end Go.AM

/- MADE BY PROGRAM (seat2.py): the types of the program, and that its code is the machine's. -/
namespace Go.Proofs
open Go.Shelf
def Try.lays169_ren : Go.Shelf.Ren := ⟨fun | 169 => 87 | n => n, fun | 70 => 145 | 9 => 9 | 0 => 0 | 72 => 147 | 37 => 61 | 127 => 170 | 3 => 3 | 5 => 5 | n => n, fun | n => n⟩
theorem Try.lays169 : Go.Proofs.Lays.n169 Try.prog Try.lays169_ren := {
  mixed := by kernel_rfl
  f169 := Try.func87.trans (congrArg some (by kernel_rfl))
  t0 := Try.underlying0
  a0 := Try.isAgg0
  z0 := Try.sizeOf0
  v0 := Try.zeroValue0
  t3 := Try.underlying3
  a3 := Try.isAgg3
  z3 := Try.sizeOf3
  v3 := Try.zeroValue3
  t9 := Try.underlying9
  a9 := Try.isAgg9
  z9 := Try.sizeOf9
  v9 := Try.zeroValue9
  t37 := Try.underlying61
  a37 := Try.isAgg61
  z37 := Try.sizeOf61
  v37 := Try.zeroValue61
  t70 := Try.underlying145
  a70 := Try.isAgg145
  z70 := Try.sizeOf145
  v70 := Try.zeroValue145
  t72 := Try.underlying147
  a72 := Try.isAgg147
  z72 := Try.sizeOf147
  v72 := Try.zeroValue147
  t127 := Try.underlying170
  a127 := Try.isAgg170
  z127 := Try.sizeOf170
  v127 := Try.zeroValue170 }

theorem Try.extraB : Builder.Extra Try.prog Try.lays169_ren := {
  sizeBuilder := by kernel_rfl
  liesBuilder := by kernel_rfl
  t5 := Try.underlying5
  a5 := Try.isAgg5
  z5 := Try.sizeOf5
  v5 := Try.zeroValue5
  infoByte := by kernel_rfl
  cellsByte := by kernel_rfl
  sizeByte := by kernel_rfl
  neB5 := by decide }
end Go.Proofs
namespace Go.Proofs.Ytbcdfamilcmjnaa
open Go Go.AM

def tys : List (Nat × TI) := [
(2, ⟨.int .i64, 1, 8, [.i .i64 0]⟩),
  (3, ⟨.int .i64, 1, 8, [.i .i64 0]⟩),
  (4, ⟨.bool, 1, 1, [.b false]⟩),
  (5, ⟨.int .u8, 1, 1, [.i .u8 0]⟩),
  (9, ⟨.str, 1, 16, [.s []]⟩),
  (23, ⟨.st [(5, 0), (3, 1), (3, 2), (2, 3), (9, 4)], 5, 48, [.i .u8 0, .i .i64 0, .i .i64 0, .i .i64 0, .s []]⟩),
  (24, ⟨.int .i64, 1, 8, [.i .i64 0]⟩),
  (38, ⟨.sl 49, 1, 24, [.sl .full []]⟩),
  (40, ⟨.st [(5, 0), (3, 1), (3, 2), (38, 3)], 4, 48, [.i .u8 0, .i .i64 0, .i .i64 0, .sl .full []]⟩),
  (42, ⟨.sl 44, 1, 24, [.sl .full []]⟩),
  (44, ⟨.st [(5, 0), (2, 1), (9, 2), (42, 3), (4, 4)], 5, 64, [.i .u8 0, .i .i64 0, .s [], .sl .full [], .b false]⟩),
  (45, ⟨.sl 55, 1, 24, [.sl .full []]⟩),
  (46, ⟨.sl 57, 1, 24, [.sl .full []]⟩),
  (47, ⟨.sl 59, 1, 24, [.sl .full []]⟩),
  (49, ⟨.st [(5, 0), (2, 1), (45, 2), (46, 3), (47, 4)], 5, 88, [.i .u8 0, .i .i64 0, .sl .full [], .sl .full [], .sl .full []]⟩),
  (50, ⟨.int .u64, 1, 8, [.i .u64 0]⟩),
  (52, ⟨.st [(3, 0), (44, 1)], 6, 72, [.i .i64 0, .i .u8 0, .i .i64 0, .s [], .sl .full [], .b false]⟩),
  (53, ⟨.sl 52, 1, 24, [.sl .full []]⟩),
  (55, ⟨.st [(3, 0), (3, 1), (50, 2), (53, 3)], 4, 48, [.i .i64 0, .i .i64 0, .i .u64 0, .sl .full []]⟩),
  (57, ⟨.st [(3, 0), (3, 1), (4, 2), (44, 3)], 8, 88, [.i .i64 0, .i .i64 0, .b false, .i .u8 0, .i .i64 0, .s [], .sl .full [], .b false]⟩),
  (59, ⟨.st [(50, 0), (44, 1), (50, 6)], 7, 80, [.i .u64 0, .i .u8 0, .i .i64 0, .s [], .sl .full [], .b false, .i .u64 0]⟩),
  (61, ⟨.sl 5, 1, 24, [.sl .full []]⟩),
  (62, ⟨.sl 9, 1, 24, [.sl .full []]⟩),
  (65, ⟨.sl 189, 1, 24, [.sl .full []]⟩),
  (66, ⟨.sl 93, 1, 24, [.sl .full []]⟩),
  (68, ⟨.st [(65, 0), (62, 1), (66, 2)], 3, 72, [.sl .full [], .sl .full [], .sl .full []]⟩),
  (71, ⟨.mp, 1, 8, [.u]⟩),
  (89, ⟨.sl 191, 1, 24, [.sl .full []]⟩),
  (90, ⟨.sl 95, 1, 24, [.sl .full []]⟩),
  (91, ⟨.sl 193, 1, 24, [.sl .full []]⟩),
  (93, ⟨.st [(9, 0), (3, 1), (3, 2), (90, 3), (89, 4), (91, 5), (91, 6)], 7, 128, [.s [], .i .i64 0, .i .i64 0, .sl .full [], .sl .full [], .sl .full [], .sl .full []]⟩),
  (95, ⟨.st [(9, 0), (3, 1)], 2, 24, [.s [], .i .i64 0]⟩),
  (107, ⟨.ptr 109, 1, 8, [.np]⟩),
  (109, ⟨.st [(68, 0), (40, 3), (23, 7), (62, 12)], 13, 192, [.sl .full [], .sl .full [], .sl .full [], .i .u8 0, .i .i64 0, .i .i64 0, .sl .full [], .i .u8 0, .i .i64 0, .i .i64 0, .i .i64 0, .s [], .sl .full []]⟩),
  (112, ⟨.other, 1, 8, [.nf]⟩),
  (113, ⟨.arr 64 5, 64, 64, [.i .u8 0, .i .u8 0, .i .u8 0, .i .u8 0, .i .u8 0, .i .u8 0, .i .u8 0, .i .u8 0, .i .u8 0, .i .u8 0, .i .u8 0, .i .u8 0, .i .u8 0, .i .u8 0, .i .u8 0, .i .u8 0, .i .u8 0, .i .u8 0, .i .u8 0, .i .u8 0, .i .u8 0, .i .u8 0, .i .u8 0, .i .u8 0, .i .u8 0, .i .u8 0, .i .u8 0, .i .u8 0, .i .u8 0, .i .u8 0, .i .u8 0, .i .u8 0, .i .u8 0, .i .u8 0, .i .u8 0, .i .u8 0, .i .u8 0, .i .u8 0, .i .u8 0, .i .u8 0, .i .u8 0, .i .u8 0, .i .u8 0, .i .u8 0, .i .u8 0, .i .u8 0, .i .u8 0, .i .u8 0, .i .u8 0, .i .u8 0, .i .u8 0, .i .u8 0, .i .u8 0, .i .u8 0, .i .u8 0, .i .u8 0, .i .u8 0, .i .u8 0, .i .u8 0, .i .u8 0, .i .u8 0, .i .u8 0, .i .u8 0, .i .u8 0]⟩),
  (124, ⟨.other, 1, 8, [.nf]⟩),
  (135, ⟨.other, 1, 8, [.nf]⟩),
  (138, ⟨.other, 1, 8, [.nf]⟩),
  (141, ⟨.other, 1, 8, [.nf]⟩),
  (143, ⟨.arr 4 9, 4, 64, [.s [], .s [], .s [], .s []]⟩),
  (145, ⟨.ptr 147, 1, 8, [.np]⟩),
  (147, ⟨.st [(145, 0), (61, 1)], 2, 32, [.np, .sl .full []]⟩),
  (156, ⟨.other, 1, 8, [.nf]⟩),
  (159, ⟨.arr 5 5, 5, 5, [.i .u8 0, .i .u8 0, .i .u8 0, .i .u8 0, .i .u8 0]⟩),
  (165, ⟨.arr 8 9, 8, 128, [.s [], .s [], .s [], .s [], .s [], .s [], .s [], .s []]⟩),
  (167, ⟨.other, 1, 16, [.ni]⟩),
  (173, ⟨.uptr, 1, 8, [.np]⟩),
  (189, ⟨.st [(5, 0), (3, 1), (3, 2), (90, 3)], 4, 48, [.i .u8 0, .i .i64 0, .i .i64 0, .sl .full []]⟩),
  (191, ⟨.st [(5, 0), (3, 1), (3, 2), (3, 3)], 4, 32, [.i .u8 0, .i .i64 0, .i .i64 0, .i .i64 0]⟩),
  (193, ⟨.st [(3, 0), (50, 1)], 2, 16, [.i .i64 0, .i .u64 0]⟩)]
theorem ty2 : TOk Try.prog 2 (((2, ⟨.int .i64, 1, 8, [.i .i64 0]⟩) : Nat × TI).2) := TOk.of (ti := Try.t2) (by kernel_rfl) (by kernel_rfl) (by kernel_rfl) (show Try.prog.underlying 2 = some (.int .i64) from by kernel_rfl)
theorem ty3 : TOk Try.prog 3 (((3, ⟨.int .i64, 1, 8, [.i .i64 0]⟩) : Nat × TI).2) := TOk.of (ti := Try.t3) (by kernel_rfl) (by kernel_rfl) (by kernel_rfl) (show Try.prog.underlying 3 = some (.int .i64) from by kernel_rfl)
theorem ty4 : TOk Try.prog 4 (((4, ⟨.bool, 1, 1, [.b false]⟩) : Nat × TI).2) := TOk.of (ti := Try.t4) (by kernel_rfl) (by kernel_rfl) (by kernel_rfl) (show Try.prog.underlying 4 = some (.bool) from by kernel_rfl)
theorem ty5 : TOk Try.prog 5 (((5, ⟨.int .u8, 1, 1, [.i .u8 0]⟩) : Nat × TI).2) := TOk.of (ti := Try.t5) (by kernel_rfl) (by kernel_rfl) (by kernel_rfl) (show Try.prog.underlying 5 = some (.int .u8) from by kernel_rfl)
theorem ty9 : TOk Try.prog 9 (((9, ⟨.str, 1, 16, [.s []]⟩) : Nat × TI).2) := TOk.of (ti := Try.t9) (by kernel_rfl) (by kernel_rfl) (by kernel_rfl) (show Try.prog.underlying 9 = some (.string) from by kernel_rfl)
theorem ty23 : TOk Try.prog 23 (((23, ⟨.st [(5, 0), (3, 1), (3, 2), (2, 3), (9, 4)], 5, 48, [.i .u8 0, .i .i64 0, .i .i64 0, .i .i64 0, .s []]⟩) : Nat × TI).2) := TOk.of (ti := Try.t23) (by kernel_rfl) (by kernel_rfl) (by kernel_rfl) (TK.ok_st (by kernel_rfl))
theorem ty24 : TOk Try.prog 24 (((24, ⟨.int .i64, 1, 8, [.i .i64 0]⟩) : Nat × TI).2) := TOk.of (ti := Try.t24) (by kernel_rfl) (by kernel_rfl) (by kernel_rfl) (show Try.prog.underlying 24 = some (.int .i64) from by kernel_rfl)
theorem ty38 : TOk Try.prog 38 (((38, ⟨.sl 49, 1, 24, [.sl .full []]⟩) : Nat × TI).2) := TOk.of (ti := Try.t38) (by kernel_rfl) (by kernel_rfl) (by kernel_rfl) (show Try.prog.underlying 38 = some (.slice 49) from by kernel_rfl)
theorem ty40 : TOk Try.prog 40 (((40, ⟨.st [(5, 0), (3, 1), (3, 2), (38, 3)], 4, 48, [.i .u8 0, .i .i64 0, .i .i64 0, .sl .full []]⟩) : Nat × TI).2) := TOk.of (ti := Try.t40) (by kernel_rfl) (by kernel_rfl) (by kernel_rfl) (TK.ok_st (by kernel_rfl))
theorem ty42 : TOk Try.prog 42 (((42, ⟨.sl 44, 1, 24, [.sl .full []]⟩) : Nat × TI).2) := TOk.of (ti := Try.t42) (by kernel_rfl) (by kernel_rfl) (by kernel_rfl) (show Try.prog.underlying 42 = some (.slice 44) from by kernel_rfl)
theorem ty44 : TOk Try.prog 44 (((44, ⟨.st [(5, 0), (2, 1), (9, 2), (42, 3), (4, 4)], 5, 64, [.i .u8 0, .i .i64 0, .s [], .sl .full [], .b false]⟩) : Nat × TI).2) := TOk.of (ti := Try.t44) (by kernel_rfl) (by kernel_rfl) (by kernel_rfl) (TK.ok_st (by kernel_rfl))
theorem ty45 : TOk Try.prog 45 (((45, ⟨.sl 55, 1, 24, [.sl .full []]⟩) : Nat × TI).2) := TOk.of (ti := Try.t45) (by kernel_rfl) (by kernel_rfl) (by kernel_rfl) (show Try.prog.underlying 45 = some (.slice 55) from by kernel_rfl)
theorem ty46 : TOk Try.prog 46 (((46, ⟨.sl 57, 1, 24, [.sl .full []]⟩) : Nat × TI).2) := TOk.of (ti := Try.t46) (by kernel_rfl) (by kernel_rfl) (by kernel_rfl) (show Try.prog.underlying 46 = some (.slice 57) from by kernel_rfl)
theorem ty47 : TOk Try.prog 47 (((47, ⟨.sl 59, 1, 24, [.sl .full []]⟩) : Nat × TI).2) := TOk.of (ti := Try.t47) (by kernel_rfl) (by kernel_rfl) (by kernel_rfl) (show Try.prog.underlying 47 = some (.slice 59) from by kernel_rfl)
theorem ty49 : TOk Try.prog 49 (((49, ⟨.st [(5, 0), (2, 1), (45, 2), (46, 3), (47, 4)], 5, 88, [.i .u8 0, .i .i64 0, .sl .full [], .sl .full [], .sl .full []]⟩) : Nat × TI).2) := TOk.of (ti := Try.t49) (by kernel_rfl) (by kernel_rfl) (by kernel_rfl) (TK.ok_st (by kernel_rfl))
theorem ty50 : TOk Try.prog 50 (((50, ⟨.int .u64, 1, 8, [.i .u64 0]⟩) : Nat × TI).2) := TOk.of (ti := Try.t50) (by kernel_rfl) (by kernel_rfl) (by kernel_rfl) (show Try.prog.underlying 50 = some (.int .u64) from by kernel_rfl)
theorem ty52 : TOk Try.prog 52 (((52, ⟨.st [(3, 0), (44, 1)], 6, 72, [.i .i64 0, .i .u8 0, .i .i64 0, .s [], .sl .full [], .b false]⟩) : Nat × TI).2) := TOk.of (ti := Try.t52) (by kernel_rfl) (by kernel_rfl) (by kernel_rfl) (TK.ok_st (by kernel_rfl))
theorem ty53 : TOk Try.prog 53 (((53, ⟨.sl 52, 1, 24, [.sl .full []]⟩) : Nat × TI).2) := TOk.of (ti := Try.t53) (by kernel_rfl) (by kernel_rfl) (by kernel_rfl) (show Try.prog.underlying 53 = some (.slice 52) from by kernel_rfl)
theorem ty55 : TOk Try.prog 55 (((55, ⟨.st [(3, 0), (3, 1), (50, 2), (53, 3)], 4, 48, [.i .i64 0, .i .i64 0, .i .u64 0, .sl .full []]⟩) : Nat × TI).2) := TOk.of (ti := Try.t55) (by kernel_rfl) (by kernel_rfl) (by kernel_rfl) (TK.ok_st (by kernel_rfl))
theorem ty57 : TOk Try.prog 57 (((57, ⟨.st [(3, 0), (3, 1), (4, 2), (44, 3)], 8, 88, [.i .i64 0, .i .i64 0, .b false, .i .u8 0, .i .i64 0, .s [], .sl .full [], .b false]⟩) : Nat × TI).2) := TOk.of (ti := Try.t57) (by kernel_rfl) (by kernel_rfl) (by kernel_rfl) (TK.ok_st (by kernel_rfl))
theorem ty59 : TOk Try.prog 59 (((59, ⟨.st [(50, 0), (44, 1), (50, 6)], 7, 80, [.i .u64 0, .i .u8 0, .i .i64 0, .s [], .sl .full [], .b false, .i .u64 0]⟩) : Nat × TI).2) := TOk.of (ti := Try.t59) (by kernel_rfl) (by kernel_rfl) (by kernel_rfl) (TK.ok_st (by kernel_rfl))
theorem ty61 : TOk Try.prog 61 (((61, ⟨.sl 5, 1, 24, [.sl .full []]⟩) : Nat × TI).2) := TOk.of (ti := Try.t61) (by kernel_rfl) (by kernel_rfl) (by kernel_rfl) (show Try.prog.underlying 61 = some (.slice 5) from by kernel_rfl)
theorem ty62 : TOk Try.prog 62 (((62, ⟨.sl 9, 1, 24, [.sl .full []]⟩) : Nat × TI).2) := TOk.of (ti := Try.t62) (by kernel_rfl) (by kernel_rfl) (by kernel_rfl) (show Try.prog.underlying 62 = some (.slice 9) from by kernel_rfl)
theorem ty65 : TOk Try.prog 65 (((65, ⟨.sl 189, 1, 24, [.sl .full []]⟩) : Nat × TI).2) := TOk.of (ti := Try.t65) (by kernel_rfl) (by kernel_rfl) (by kernel_rfl) (show Try.prog.underlying 65 = some (.slice 189) from by kernel_rfl)
theorem ty66 : TOk Try.prog 66 (((66, ⟨.sl 93, 1, 24, [.sl .full []]⟩) : Nat × TI).2) := TOk.of (ti := Try.t66) (by kernel_rfl) (by kernel_rfl) (by kernel_rfl) (show Try.prog.underlying 66 = some (.slice 93) from by kernel_rfl)
theorem ty68 : TOk Try.prog 68 (((68, ⟨.st [(65, 0), (62, 1), (66, 2)], 3, 72, [.sl .full [], .sl .full [], .sl .full []]⟩) : Nat × TI).2) := TOk.of (ti := Try.t68) (by kernel_rfl) (by kernel_rfl) (by kernel_rfl) (TK.ok_st (by kernel_rfl))
theorem ty71 : TOk Try.prog 71 (((71, ⟨.mp, 1, 8, [.u]⟩) : Nat × TI).2) := TOk.of (ti := Try.t71) (by kernel_rfl) (by kernel_rfl) (by kernel_rfl) (Exists.intro 9 (Exists.intro 5 (And.intro (by kernel_rfl) (And.intro (by kernel_rfl) fun w => by kernel_rfl))))
theorem ty89 : TOk Try.prog 89 (((89, ⟨.sl 191, 1, 24, [.sl .full []]⟩) : Nat × TI).2) := TOk.of (ti := Try.t89) (by kernel_rfl) (by kernel_rfl) (by kernel_rfl) (show Try.prog.underlying 89 = some (.slice 191) from by kernel_rfl)
theorem ty90 : TOk Try.prog 90 (((90, ⟨.sl 95, 1, 24, [.sl .full []]⟩) : Nat × TI).2) := TOk.of (ti := Try.t90) (by kernel_rfl) (by kernel_rfl) (by kernel_rfl) (show Try.prog.underlying 90 = some (.slice 95) from by kernel_rfl)
theorem ty91 : TOk Try.prog 91 (((91, ⟨.sl 193, 1, 24, [.sl .full []]⟩) : Nat × TI).2) := TOk.of (ti := Try.t91) (by kernel_rfl) (by kernel_rfl) (by kernel_rfl) (show Try.prog.underlying 91 = some (.slice 193) from by kernel_rfl)
theorem ty93 : TOk Try.prog 93 (((93, ⟨.st [(9, 0), (3, 1), (3, 2), (90, 3), (89, 4), (91, 5), (91, 6)], 7, 128, [.s [], .i .i64 0, .i .i64 0, .sl .full [], .sl .full [], .sl .full [], .sl .full []]⟩) : Nat × TI).2) := TOk.of (ti := Try.t93) (by kernel_rfl) (by kernel_rfl) (by kernel_rfl) (TK.ok_st (by kernel_rfl))
theorem ty95 : TOk Try.prog 95 (((95, ⟨.st [(9, 0), (3, 1)], 2, 24, [.s [], .i .i64 0]⟩) : Nat × TI).2) := TOk.of (ti := Try.t95) (by kernel_rfl) (by kernel_rfl) (by kernel_rfl) (TK.ok_st (by kernel_rfl))
theorem ty107 : TOk Try.prog 107 (((107, ⟨.ptr 109, 1, 8, [.np]⟩) : Nat × TI).2) := TOk.of (ti := Try.t107) (by kernel_rfl) (by kernel_rfl) (by kernel_rfl) (And.intro (by kernel_rfl) (by kernel_rfl))
theorem ty109 : TOk Try.prog 109 (((109, ⟨.st [(68, 0), (40, 3), (23, 7), (62, 12)], 13, 192, [.sl .full [], .sl .full [], .sl .full [], .i .u8 0, .i .i64 0, .i .i64 0, .sl .full [], .i .u8 0, .i .i64 0, .i .i64 0, .i .i64 0, .s [], .sl .full []]⟩) : Nat × TI).2) := TOk.of (ti := Try.t109) (by kernel_rfl) (by kernel_rfl) (by kernel_rfl) (TK.ok_st (by kernel_rfl))
theorem ty112 : TOk Try.prog 112 (((112, ⟨.other, 1, 8, [.nf]⟩) : Nat × TI).2) := TOk.of (ti := Try.t112) (by kernel_rfl) (by kernel_rfl) (by kernel_rfl) (TK.ok_other (by kernel_rfl))
theorem ty113 : TOk Try.prog 113 (((113, ⟨.arr 64 5, 64, 64, [.i .u8 0, .i .u8 0, .i .u8 0, .i .u8 0, .i .u8 0, .i .u8 0, .i .u8 0, .i .u8 0, .i .u8 0, .i .u8 0, .i .u8 0, .i .u8 0, .i .u8 0, .i .u8 0, .i .u8 0, .i .u8 0, .i .u8 0, .i .u8 0, .i .u8 0, .i .u8 0, .i .u8 0, .i .u8 0, .i .u8 0, .i .u8 0, .i .u8 0, .i .u8 0, .i .u8 0, .i .u8 0, .i .u8 0, .i .u8 0, .i .u8 0, .i .u8 0, .i .u8 0, .i .u8 0, .i .u8 0, .i .u8 0, .i .u8 0, .i .u8 0, .i .u8 0, .i .u8 0, .i .u8 0, .i .u8 0, .i .u8 0, .i .u8 0, .i .u8 0, .i .u8 0, .i .u8 0, .i .u8 0, .i .u8 0, .i .u8 0, .i .u8 0, .i .u8 0, .i .u8 0, .i .u8 0, .i .u8 0, .i .u8 0, .i .u8 0, .i .u8 0, .i .u8 0, .i .u8 0, .i .u8 0, .i .u8 0, .i .u8 0, .i .u8 0]⟩) : Nat × TI).2) := TOk.of (ti := Try.t113) (by kernel_rfl) (by kernel_rfl) (by kernel_rfl) (show Try.prog.underlying 113 = some (.array 64 5) from by kernel_rfl)
theorem ty124 : TOk Try.prog 124 (((124, ⟨.other, 1, 8, [.nf]⟩) : Nat × TI).2) := TOk.of (ti := Try.t124) (by kernel_rfl) (by kernel_rfl) (by kernel_rfl) (TK.ok_other (by kernel_rfl))
theorem ty135 : TOk Try.prog 135 (((135, ⟨.other, 1, 8, [.nf]⟩) : Nat × TI).2) := TOk.of (ti := Try.t135) (by kernel_rfl) (by kernel_rfl) (by kernel_rfl) (TK.ok_other (by kernel_rfl))
theorem ty138 : TOk Try.prog 138 (((138, ⟨.other, 1, 8, [.nf]⟩) : Nat × TI).2) := TOk.of (ti := Try.t138) (by kernel_rfl) (by kernel_rfl) (by kernel_rfl) (TK.ok_other (by kernel_rfl))
theorem ty141 : TOk Try.prog 141 (((141, ⟨.other, 1, 8, [.nf]⟩) : Nat × TI).2) := TOk.of (ti := Try.t141) (by kernel_rfl) (by kernel_rfl) (by kernel_rfl) (TK.ok_other (by kernel_rfl))
theorem ty143 : TOk Try.prog 143 (((143, ⟨.arr 4 9, 4, 64, [.s [], .s [], .s [], .s []]⟩) : Nat × TI).2) := TOk.of (ti := Try.t143) (by kernel_rfl) (by kernel_rfl) (by kernel_rfl) (show Try.prog.underlying 143 = some (.array 4 9) from by kernel_rfl)
theorem ty145 : TOk Try.prog 145 (((145, ⟨.ptr 147, 1, 8, [.np]⟩) : Nat × TI).2) := TOk.of (ti := Try.t145) (by kernel_rfl) (by kernel_rfl) (by kernel_rfl) (And.intro (by kernel_rfl) (by kernel_rfl))
theorem ty147 : TOk Try.prog 147 (((147, ⟨.st [(145, 0), (61, 1)], 2, 32, [.np, .sl .full []]⟩) : Nat × TI).2) := TOk.of (ti := Try.t147) (by kernel_rfl) (by kernel_rfl) (by kernel_rfl) (TK.ok_st (by kernel_rfl))
theorem ty156 : TOk Try.prog 156 (((156, ⟨.other, 1, 8, [.nf]⟩) : Nat × TI).2) := TOk.of (ti := Try.t156) (by kernel_rfl) (by kernel_rfl) (by kernel_rfl) (TK.ok_other (by kernel_rfl))
theorem ty159 : TOk Try.prog 159 (((159, ⟨.arr 5 5, 5, 5, [.i .u8 0, .i .u8 0, .i .u8 0, .i .u8 0, .i .u8 0]⟩) : Nat × TI).2) := TOk.of (ti := Try.t159) (by kernel_rfl) (by kernel_rfl) (by kernel_rfl) (show Try.prog.underlying 159 = some (.array 5 5) from by kernel_rfl)
theorem ty165 : TOk Try.prog 165 (((165, ⟨.arr 8 9, 8, 128, [.s [], .s [], .s [], .s [], .s [], .s [], .s [], .s []]⟩) : Nat × TI).2) := TOk.of (ti := Try.t165) (by kernel_rfl) (by kernel_rfl) (by kernel_rfl) (show Try.prog.underlying 165 = some (.array 8 9) from by kernel_rfl)
theorem ty167 : TOk Try.prog 167 (((167, ⟨.other, 1, 16, [.ni]⟩) : Nat × TI).2) := TOk.of (ti := Try.t167) (by kernel_rfl) (by kernel_rfl) (by kernel_rfl) (TK.ok_other (by kernel_rfl))
theorem ty173 : TOk Try.prog 173 (((173, ⟨.uptr, 1, 8, [.np]⟩) : Nat × TI).2) := TOk.of (ti := Try.t173) (by kernel_rfl) (by kernel_rfl) (by kernel_rfl) (show Try.prog.underlying 173 = some (.unsafePointer) from by kernel_rfl)
theorem ty189 : TOk Try.prog 189 (((189, ⟨.st [(5, 0), (3, 1), (3, 2), (90, 3)], 4, 48, [.i .u8 0, .i .i64 0, .i .i64 0, .sl .full []]⟩) : Nat × TI).2) := TOk.of (ti := Try.t189) (by kernel_rfl) (by kernel_rfl) (by kernel_rfl) (TK.ok_st (by kernel_rfl))
theorem ty191 : TOk Try.prog 191 (((191, ⟨.st [(5, 0), (3, 1), (3, 2), (3, 3)], 4, 32, [.i .u8 0, .i .i64 0, .i .i64 0, .i .i64 0]⟩) : Nat × TI).2) := TOk.of (ti := Try.t191) (by kernel_rfl) (by kernel_rfl) (by kernel_rfl) (TK.ok_st (by kernel_rfl))
theorem ty193 : TOk Try.prog 193 (((193, ⟨.st [(3, 0), (50, 1)], 2, 16, [.i .i64 0, .i .u64 0]⟩) : Nat × TI).2) := TOk.of (ti := Try.t193) (by kernel_rfl) (by kernel_rfl) (by kernel_rfl) (TK.ok_st (by kernel_rfl))
theorem tys_ok : ∀ x ∈ tys, TOk Try.prog x.1 x.2 := by
  unfold tys
  simp only [List.mem_cons, List.not_mem_nil, or_false, forall_eq_or_imp, forall_eq]
  exact ⟨ty2, ty3, ty4, ty5, ty9, ty23, ty24, ty38, ty40, ty42, ty44, ty45, ty46, ty47, ty49, ty50, ty52, ty53, ty55, ty57, ty59, ty61, ty62, ty65, ty66, ty68, ty71, ty89, ty90, ty91, ty93, ty95, ty107, ty109, ty112, ty113, ty124, ty135, ty138, ty141, ty143, ty145, ty147, ty156, ty159, ty165, ty167, ty173, ty189, ty191, ty193⟩
def fms : List (Nat × Nat) := [(2, 2), (3, 240), (4, 241), (5, 242), (6, 243), (7, 244), (8, 245), (9, 246), (10, 247), (11, 248), (12, 249), (13, 250), (14, 251), (15, 252), (16, 253), (17, 254), (18, 255), (19, 256), (20, 257), (21, 258), (22, 15), (23, 11), (24, 259), (25, 260), (26, 261), (27, 262), (28, 263), (29, 22), (30, 26), (31, 264), (32, 29), (33, 34), (34, 30), (35, 265), (36, 16), (37, 31), (38, 266), (39, 267), (40, 21), (41, 25), (42, 38), (43, 40), (44, 213), (45, 268), (46, 269), (47, 270), (48, 271), (49, 272), (50, 273), (51, 274), (52, 275), (53, 35), (54, 41), (55, 197), (56, 36), (57, 37), (58, 39), (59, 44), (60, 224), (61, 225), (62, 219), (63, 207), (64, 276), (65, 72), (66, 47), (68, 199), (69, 200), (70, 42), (71, 43), (72, 45), (73, 236), (74, 227), (75, 228), (76, 86), (77, 229), (78, 230), (79, 231), (80, 232), (81, 233), (82, 158), (83, 220), (84, 216), (85, 76), (86, 104), (87, 105), (88, 48), (89, 201), (90, 46), (91, 237), (92, 122), (93, 123), (94, 238), (95, 239), (96, 183), (97, 82), (98, 234), (99, 154), (100, 109), (101, 126), (102, 144), (103, 111), (104, 112), (105, 113), (106, 178), (107, 145), (108, 146), (1000000000000, 1000000147), (1000000000001, 1000000005), (1000000000003, 1000000109)]
def X : Cx := ⟨tabOf tys, fmOf fms, fun c => [30, 89, 104, 105, 107, 115, 116, 117, 120, 122, 123, 126, 128, 129, 130, 131, 139, 140, 144, 145, 146, 184, 217, 224, 225, 227, 228, 229, 230, 232, 233, 236, 237, 238, 239, 252, 268, 269, 270, 271, 272, 273, 274, 275, 276].contains c, []⟩
theorem ok42 : FnOk Try.prog X 70 pf42 := FnOk.of Try.func70 (by kernel_rfl) (by kernel_rfl) (by kernel_rfl) (by kernel_rfl) (by kernel_rfl)
theorem ok46 : FnOk Try.prog X 90 pf46 := FnOk.of Try.func90 (by kernel_rfl) (by kernel_rfl) (by kernel_rfl) (by kernel_rfl) (by kernel_rfl)
theorem ok36 : FnOk Try.prog X 56 pf36 := FnOk.of Try.func56 (by kernel_rfl) (by kernel_rfl) (by kernel_rfl) (by kernel_rfl) (by kernel_rfl)
theorem ok43 : FnOk Try.prog X 71 pf43 := FnOk.of Try.func71 (by kernel_rfl) (by kernel_rfl) (by kernel_rfl) (by kernel_rfl) (by kernel_rfl)
theorem ok47 : FnOk Try.prog X 66 pf47 := FnOk.of Try.func66 (by kernel_rfl) (by kernel_rfl) (by kernel_rfl) (by kernel_rfl) (by kernel_rfl)
theorem ok11 : FnOk Try.prog X 23 pf11 := FnOk.of Try.func23 (by kernel_rfl) (by kernel_rfl) (by kernel_rfl) (by kernel_rfl) (by kernel_rfl)
theorem ok15 : FnOk Try.prog X 22 pf15 := FnOk.of Try.func22 (by kernel_rfl) (by kernel_rfl) (by kernel_rfl) (by kernel_rfl) (by kernel_rfl)
theorem ok21 : FnOk Try.prog X 40 pf21 := FnOk.of Try.func40 (by kernel_rfl) (by kernel_rfl) (by kernel_rfl) (by kernel_rfl) (by kernel_rfl)
theorem ok25 : FnOk Try.prog X 41 pf25 := FnOk.of Try.func41 (by kernel_rfl) (by kernel_rfl) (by kernel_rfl) (by kernel_rfl) (by kernel_rfl)
theorem ok30 : FnOk Try.prog X 34 pf30 := FnOk.of Try.func34 (by kernel_rfl) (by kernel_rfl) (by kernel_rfl) (by kernel_rfl) (by kernel_rfl)
theorem ok34 : FnOk Try.prog X 33 pf34 := FnOk.of Try.func33 (by kernel_rfl) (by kernel_rfl) (by kernel_rfl) (by kernel_rfl) (by kernel_rfl)
theorem ok37 : FnOk Try.prog X 57 pf37 := FnOk.of Try.func57 (by kernel_rfl) (by kernel_rfl) (by kernel_rfl) (by kernel_rfl) (by kernel_rfl)
theorem ok39 : FnOk Try.prog X 58 pf39 := FnOk.of Try.func58 (by kernel_rfl) (by kernel_rfl) (by kernel_rfl) (by kernel_rfl) (by kernel_rfl)
theorem ok45 : FnOk Try.prog X 72 pf45 := FnOk.of Try.func72 (by kernel_rfl) (by kernel_rfl) (by kernel_rfl) (by kernel_rfl) (by kernel_rfl)
theorem ok29 : FnOk Try.prog X 32 pf29 := FnOk.of Try.func32 (by kernel_rfl) (by kernel_rfl) (by kernel_rfl) (by kernel_rfl) (by kernel_rfl)
theorem ok197 : FnOk Try.prog X 55 pf197 := FnOk.of Try.func55 (by kernel_rfl) (by kernel_rfl) (by kernel_rfl) (by kernel_rfl) (by kernel_rfl)

theorem words_enter (w : World) : (callFunc 20 #[]).run Try.prog w = .ok (.enter 20 #[]) w ∧ Calls Try.prog 20 #[] w (WordsR w) := ⟨callFunc_enter Try.func20 (by kernel_rfl) (code := .seq (.region 0 (regOps (sA (bodyOf Try.f20))) false) (.seq (.region 1 (regOps (sA (sB (bodyOf Try.f20)))) false) .ret)) (by kernel_rfl) #[], words_calls Try.func20 (ops0 := regOps (sA (bodyOf Try.f20))) (ops1 := regOps (sA (sB (bodyOf Try.f20)))) (by kernel_rfl) (by kernel_rfl) (by kernel_rfl) (show Try.prog.underlying 71 = some (.map 9 5) from by kernel_rfl) (show Try.prog.underlying 9 = some .string from by kernel_rfl) ⟨by kernel_rfl, of_nog (by kernel_rfl)⟩ ⟨by kernel_rfl, of_nog (by kernel_rfl)⟩ w⟩
theorem good243 : GoodF Try.prog X pf243 (bodyOf Try.f6) := Go.AM.good243 (x1 := aA b243) (x2 := aA (aB b243)) (x4 := aA (aB (aB b243))) (x5 := aB (aB (aB (aB b243)))) rfl (by kernel_rfl) (by kernel_rfl) (by kernel_rfl) (by kernel_rfl) (by kernel_rfl) fun hT d =>
  range_hand (fw := 20) (tm := 71) (ts := 23) (t5 := 5) (k := 9) (e := 5) (Nat.le_of_ble_eq_true rfl) (show Try.prog.underlying 71 = some (.map 9 5) from by kernel_rfl) hT (ty23 : TOk Try.prog 23 _).kind rfl rfl rfl rfl words_enter ⟨by kernel_rfl, of_nog (by kernel_rfl)⟩ ⟨by kernel_rfl, of_nog (by kernel_rfl)⟩ ⟨by kernel_rfl, of_nog (by kernel_rfl)⟩ ⟨by kernel_rfl, of_nog (by kernel_rfl)⟩ ⟨by kernel_rfl, of_nog (by kernel_rfl)⟩
theorem ok243 : FnOk Try.prog X 6 pf243 := FnOk.ofG Try.func6 (by kernel_rfl) (by kernel_rfl) good243 (by kernel_rfl) (by kernel_rfl) (by kernel_rfl)
theorem ok245 : FnOk Try.prog X 8 pf245 := FnOk.of Try.func8 (by kernel_rfl) (by kernel_rfl) (by kernel_rfl) (by kernel_rfl) (by kernel_rfl)
theorem ok247 : FnOk Try.prog X 10 pf247 := FnOk.of Try.func10 (by kernel_rfl) (by kernel_rfl) (by kernel_rfl) (by kernel_rfl) (by kernel_rfl)
theorem ok248 : FnOk Try.prog X 11 pf248 := FnOk.of Try.func11 (by kernel_rfl) (by kernel_rfl) (by kernel_rfl) (by kernel_rfl) (by kernel_rfl)
theorem ok258 : FnOk Try.prog X 21 pf258 := FnOk.of Try.func21 (by kernel_rfl) (by kernel_rfl) (by kernel_rfl) (by kernel_rfl) (by kernel_rfl)
theorem ok260 : FnOk Try.prog X 25 pf260 := FnOk.of Try.func25 (by kernel_rfl) (by kernel_rfl) (by kernel_rfl) (by kernel_rfl) (by kernel_rfl)
theorem ok261 : FnOk Try.prog X 26 pf261 := FnOk.of Try.func26 (by kernel_rfl) (by kernel_rfl) (by kernel_rfl) (by kernel_rfl) (by kernel_rfl)
theorem ok266 : FnOk Try.prog X 38 pf266 := FnOk.of Try.func38 (by kernel_rfl) (by kernel_rfl) (by kernel_rfl) (by kernel_rfl) (by kernel_rfl)
theorem ok267 : FnOk Try.prog X 39 pf267 := FnOk.of Try.func39 (by kernel_rfl) (by kernel_rfl) (by kernel_rfl) (by kernel_rfl) (by kernel_rfl)
theorem ok145 : FnOk Try.prog X 107 pf145 := FnOk.of Try.func107 (by kernel_rfl) (by kernel_rfl) (by kernel_rfl) (by kernel_rfl) (by kernel_rfl)
theorem ok126 : FnOk Try.prog X 101 pf126 := FnOk.of Try.func101 (by kernel_rfl) (by kernel_rfl) (by kernel_rfl) (by kernel_rfl) (by kernel_rfl)
theorem ok72 : FnOk Try.prog X 65 pf72 := FnOk.of Try.func65 (by kernel_rfl) (by kernel_rfl) (by kernel_rfl) (by kernel_rfl) (by kernel_rfl)
theorem ok76 : FnOk Try.prog X 85 pf76 := FnOk.of Try.func85 (by kernel_rfl) (by kernel_rfl) (by kernel_rfl) (by kernel_rfl) (by kernel_rfl)
theorem ok104 : FnOk Try.prog X 86 pf104 := FnOk.of Try.func86 (by kernel_rfl) (by kernel_rfl) (by kernel_rfl) (by kernel_rfl) (by kernel_rfl)
theorem ok109 : FnOk Try.prog X 100 pf109 := FnOk.of Try.func100 (by kernel_rfl) (by kernel_rfl) (by kernel_rfl) (by kernel_rfl) (by kernel_rfl)
theorem ok154 : FnOk Try.prog X 99 pf154 := FnOk.of Try.func99 (by kernel_rfl) (by kernel_rfl) (by kernel_rfl) (by kernel_rfl) (by kernel_rfl)
theorem ok158 : FnOk Try.prog X 82 pf158 := FnOk.of Try.func82 (by kernel_rfl) (by kernel_rfl) (by kernel_rfl) (by kernel_rfl) (by kernel_rfl)
theorem ok178 : FnOk Try.prog X 106 pf178 := FnOk.of Try.func106 (by kernel_rfl) (by kernel_rfl) (by kernel_rfl) (by kernel_rfl) (by kernel_rfl)
theorem ok183 : FnOk Try.prog X 96 pf183 := FnOk.of Try.func96 (by kernel_rfl) (by kernel_rfl) (by kernel_rfl) (by kernel_rfl) (by kernel_rfl)
theorem ok82 : FnOk Try.prog X 97 pf82 := FnOk.of Try.func97 (by kernel_rfl) (by kernel_rfl) (by kernel_rfl) (by kernel_rfl) (by kernel_rfl)
theorem ok86 : FnOk Try.prog X 76 pf86 := FnOk.of Try.func76 (by kernel_rfl) (by kernel_rfl) (by kernel_rfl) (by kernel_rfl) (by kernel_rfl)
theorem ok111 : FnOk Try.prog X 103 pf111 := FnOk.of Try.func103 (by kernel_rfl) (by kernel_rfl) (by kernel_rfl) (by kernel_rfl) (by kernel_rfl)
theorem ok112 : FnOk Try.prog X 104 pf112 := FnOk.of Try.func104 (by kernel_rfl) (by kernel_rfl) (by kernel_rfl) (by kernel_rfl) (by kernel_rfl)
theorem ok113 : FnOk Try.prog X 105 pf113 := FnOk.of Try.func105 (by kernel_rfl) (by kernel_rfl) (by kernel_rfl) (by kernel_rfl) (by kernel_rfl)
theorem ok122 : FnOk Try.prog X 92 pf122 := FnOk.of Try.func92 (by kernel_rfl) (by kernel_rfl) (by kernel_rfl) (by kernel_rfl) (by kernel_rfl)
theorem ok123 : FnOk Try.prog X 93 pf123 := FnOk.of Try.func93 (by kernel_rfl) (by kernel_rfl) (by kernel_rfl) (by kernel_rfl) (by kernel_rfl)
theorem ok144 : FnOk Try.prog X 102 pf144 := FnOk.of Try.func102 (by kernel_rfl) (by kernel_rfl) (by kernel_rfl) (by kernel_rfl) (by kernel_rfl)
theorem ok207 : FnOk Try.prog X 63 pf207 := FnOk.of Try.func63 (by kernel_rfl) (by kernel_rfl) (by kernel_rfl) (by kernel_rfl) (by kernel_rfl)
theorem ok213 : FnOk Try.prog X 44 pf213 := FnOk.of Try.func44 (by kernel_rfl) (by kernel_rfl) (by kernel_rfl) (by kernel_rfl) (by kernel_rfl)
theorem ok216 : FnOk Try.prog X 84 pf216 := FnOk.of Try.func84 (by kernel_rfl) (by kernel_rfl) (by kernel_rfl) (by kernel_rfl) (by kernel_rfl)
theorem ok219 : FnOk Try.prog X 62 pf219 := FnOk.of Try.func62 (by kernel_rfl) (by kernel_rfl) (by kernel_rfl) (by kernel_rfl) (by kernel_rfl)
theorem ok220 : FnOk Try.prog X 83 pf220 := FnOk.of Try.func83 (by kernel_rfl) (by kernel_rfl) (by kernel_rfl) (by kernel_rfl) (by kernel_rfl)
theorem ok224 : FnOk Try.prog X 60 pf224 := FnOk.of Try.func60 (by kernel_rfl) (by kernel_rfl) (by kernel_rfl) (by kernel_rfl) (by kernel_rfl)
theorem ok225 : FnOk Try.prog X 61 pf225 := FnOk.of Try.func61 (by kernel_rfl) (by kernel_rfl) (by kernel_rfl) (by kernel_rfl) (by kernel_rfl)
theorem ok227 : FnOk Try.prog X 74 pf227 := FnOk.of Try.func74 (by kernel_rfl) (by kernel_rfl) (by kernel_rfl) (by kernel_rfl) (by kernel_rfl)
theorem ok228 : FnOk Try.prog X 75 pf228 := FnOk.of Try.func75 (by kernel_rfl) (by kernel_rfl) (by kernel_rfl) (by kernel_rfl) (by kernel_rfl)
theorem ok229 : FnOk Try.prog X 77 pf229 := FnOk.of Try.func77 (by kernel_rfl) (by kernel_rfl) (by kernel_rfl) (by kernel_rfl) (by kernel_rfl)
theorem ok230 : FnOk Try.prog X 78 pf230 := FnOk.of Try.func78 (by kernel_rfl) (by kernel_rfl) (by kernel_rfl) (by kernel_rfl) (by kernel_rfl)
theorem ok231 : FnOk Try.prog X 79 pf231 := FnOk.of Try.func79 (by kernel_rfl) (by kernel_rfl) (by kernel_rfl) (by kernel_rfl) (by kernel_rfl)
theorem ok232 : FnOk Try.prog X 80 pf232 := FnOk.of Try.func80 (by kernel_rfl) (by kernel_rfl) (by kernel_rfl) (by kernel_rfl) (by kernel_rfl)
theorem ok233 : FnOk Try.prog X 81 pf233 := FnOk.of Try.func81 (by kernel_rfl) (by kernel_rfl) (by kernel_rfl) (by kernel_rfl) (by kernel_rfl)
theorem ok234 : FnOk Try.prog X 98 pf234 := FnOk.of Try.func98 (by kernel_rfl) (by kernel_rfl) (by kernel_rfl) (by kernel_rfl) (by kernel_rfl)
theorem ok236 : FnOk Try.prog X 73 pf236 := FnOk.of Try.func73 (by kernel_rfl) (by kernel_rfl) (by kernel_rfl) (by kernel_rfl) (by kernel_rfl)
theorem ok237 : FnOk Try.prog X 91 pf237 := FnOk.of Try.func91 (by kernel_rfl) (by kernel_rfl) (by kernel_rfl) (by kernel_rfl) (by kernel_rfl)
theorem ok238 : FnOk Try.prog X 94 pf238 := FnOk.of Try.func94 (by kernel_rfl) (by kernel_rfl) (by kernel_rfl) (by kernel_rfl) (by kernel_rfl)
theorem ok239 : FnOk Try.prog X 95 pf239 := FnOk.of Try.func95 (by kernel_rfl) (by kernel_rfl) (by kernel_rfl) (by kernel_rfl) (by kernel_rfl)
theorem ok264 : FnOk Try.prog X 31 pf264 := FnOk.of Try.func31 (by kernel_rfl) (by kernel_rfl) (by kernel_rfl) (by kernel_rfl) (by kernel_rfl)
theorem ok268 : FnOk Try.prog X 45 pf268 := FnOk.of Try.func45 (by kernel_rfl) (by kernel_rfl) (by kernel_rfl) (by kernel_rfl) (by kernel_rfl)
theorem ok269 : FnOk Try.prog X 46 pf269 := FnOk.of Try.func46 (by kernel_rfl) (by kernel_rfl) (by kernel_rfl) (by kernel_rfl) (by kernel_rfl)
theorem ok270 : FnOk Try.prog X 47 pf270 := FnOk.of Try.func47 (by kernel_rfl) (by kernel_rfl) (by kernel_rfl) (by kernel_rfl) (by kernel_rfl)
theorem ok271 : FnOk Try.prog X 48 pf271 := FnOk.of Try.func48 (by kernel_rfl) (by kernel_rfl) (by kernel_rfl) (by kernel_rfl) (by kernel_rfl)
theorem ok272 : FnOk Try.prog X 49 pf272 := FnOk.of Try.func49 (by kernel_rfl) (by kernel_rfl) (by kernel_rfl) (by kernel_rfl) (by kernel_rfl)
theorem ok273 : FnOk Try.prog X 50 pf273 := FnOk.of Try.func50 (by kernel_rfl) (by kernel_rfl) (by kernel_rfl) (by kernel_rfl) (by kernel_rfl)
theorem ok274 : FnOk Try.prog X 51 pf274 := FnOk.of Try.func51 (by kernel_rfl) (by kernel_rfl) (by kernel_rfl) (by kernel_rfl) (by kernel_rfl)
theorem ok275 : FnOk Try.prog X 52 pf275 := FnOk.of Try.func52 (by kernel_rfl) (by kernel_rfl) (by kernel_rfl) (by kernel_rfl) (by kernel_rfl)
theorem ok276 : FnOk Try.prog X 64 pf276 := FnOk.of Try.func64 (by kernel_rfl) (by kernel_rfl) (by kernel_rfl) (by kernel_rfl) (by kernel_rfl)
theorem ok249 : FnOk Try.prog X 12 pf249 := FnOk.of Try.func12 (by kernel_rfl) (by kernel_rfl) (by kernel_rfl) (by kernel_rfl) (by kernel_rfl)
theorem ok251 : FnOk Try.prog X 14 pf251 := FnOk.of Try.func14 (by kernel_rfl) (by kernel_rfl) (by kernel_rfl) (by kernel_rfl) (by kernel_rfl)
theorem ok252 : FnOk Try.prog X 15 pf252 := FnOk.of Try.func15 (by kernel_rfl) (by kernel_rfl) (by kernel_rfl) (by kernel_rfl) (by kernel_rfl)
theorem ok253 : FnOk Try.prog X 16 pf253 := FnOk.of Try.func16 (by kernel_rfl) (by kernel_rfl) (by kernel_rfl) (by kernel_rfl) (by kernel_rfl)
theorem ok254 : FnOk Try.prog X 17 pf254 := FnOk.of Try.func17 (by kernel_rfl) (by kernel_rfl) (by kernel_rfl) (by kernel_rfl) (by kernel_rfl)
theorem ok255 : FnOk Try.prog X 18 pf255 := FnOk.of Try.func18 (by kernel_rfl) (by kernel_rfl) (by kernel_rfl) (by kernel_rfl) (by kernel_rfl)
theorem ok256 : FnOk Try.prog X 19 pf256 := FnOk.of Try.func19 (by kernel_rfl) (by kernel_rfl) (by kernel_rfl) (by kernel_rfl) (by kernel_rfl)
theorem tyVal : TyVal X.T 44 := ⟨5, 2, 9, 42, 4, ⟨_, rfl, rfl, rfl⟩, ⟨_, rfl, rfl, rfl⟩, ⟨_, rfl, rfl, rfl⟩, ⟨_, rfl, rfl, rfl⟩, ⟨_, rfl, rfl, rfl⟩, ⟨_, rfl, rfl, rfl⟩⟩
theorem tyFld : TyFld X.T 95 := ⟨9, 3, ⟨_, rfl, rfl, rfl⟩, ⟨_, rfl, rfl, rfl⟩, ⟨_, rfl, rfl, rfl⟩⟩
theorem tyIns : TyIns X.T 191 := ⟨5, 3, 3, 3, ⟨_, rfl, rfl, rfl⟩, ⟨_, rfl, rfl, rfl⟩, ⟨_, rfl, rfl, rfl⟩, ⟨_, rfl, rfl, rfl⟩, ⟨_, rfl, rfl, rfl⟩⟩
theorem tyRnn : TyRnn X.T 193 := ⟨3, 50, ⟨_, rfl, rfl, rfl⟩, ⟨_, rfl, rfl, rfl⟩, ⟨_, rfl, rfl, rfl⟩⟩
theorem tyTyp : TyTyp X.T 189 := ⟨5, 3, 3, 90, 95, ⟨_, rfl, rfl, rfl⟩, ⟨_, rfl, rfl, rfl⟩, ⟨_, rfl, rfl, rfl⟩, ⟨_, rfl, rfl, rfl⟩, ⟨_, rfl, rfl, rfl⟩, tyFld⟩
theorem tyFun : TyFun X.T 93 := ⟨9, 3, 3, 90, 89, 91, 91, 95, 191, 193, 193, ⟨_, rfl, rfl, rfl⟩, ⟨_, rfl, rfl, rfl⟩, ⟨_, rfl, rfl, rfl⟩, ⟨_, rfl, rfl, rfl⟩, ⟨_, rfl, rfl, rfl⟩, tyFld, ⟨_, rfl, rfl, rfl⟩, tyIns, ⟨_, rfl, rfl, rfl⟩, tyRnn, ⟨_, rfl, rfl, rfl⟩, tyRnn⟩
theorem tyImg : TyImg X.T 68 := ⟨65, 62, 66, 189, 9, 93, ⟨_, rfl, rfl, rfl⟩, ⟨_, rfl, rfl, rfl⟩, tyTyp, ⟨_, rfl, rfl, rfl⟩, ⟨_, rfl, rfl, rfl⟩, ⟨_, rfl, rfl, rfl⟩, tyFun⟩
theorem tyLoc : TyLoc X.T 52 := ⟨3, 44, ⟨_, rfl, rfl, rfl⟩, ⟨_, rfl, rfl, rfl⟩, tyVal⟩
theorem tyFrm : TyFrm X.T 55 := ⟨3, 3, 50, 53, 52, ⟨_, rfl, rfl, rfl⟩, ⟨_, rfl, rfl, rfl⟩, ⟨_, rfl, rfl, rfl⟩, ⟨_, rfl, rfl, rfl⟩, ⟨_, rfl, rfl, rfl⟩, tyLoc⟩
theorem tyPan : TyPan X.T 59 := ⟨50, 44, 50, ⟨_, rfl, rfl, rfl⟩, ⟨_, rfl, rfl, rfl⟩, tyVal, ⟨_, rfl, rfl, rfl⟩⟩
theorem tyDfr : TyDfr X.T 57 := ⟨3, 3, 4, 44, ⟨_, rfl, rfl, rfl⟩, ⟨_, rfl, rfl, rfl⟩, ⟨_, rfl, rfl, rfl⟩, ⟨_, rfl, rfl, rfl⟩, tyVal⟩
theorem tyRou : TyRou X.T 49 := ⟨5, 2, 45, 46, 47, 55, 57, 59, ⟨_, rfl, rfl, rfl⟩, ⟨_, rfl, rfl, rfl⟩, ⟨_, rfl, rfl, rfl⟩, ⟨_, rfl, rfl, rfl⟩, tyFrm, ⟨_, rfl, rfl, rfl⟩, tyDfr, ⟨_, rfl, rfl, rfl⟩, tyPan⟩
theorem tySta : TySta X.T 40 := ⟨5, 3, 3, 38, 49, ⟨_, rfl, rfl, rfl⟩, ⟨_, rfl, rfl, rfl⟩, ⟨_, rfl, rfl, rfl⟩, ⟨_, rfl, rfl, rfl⟩, ⟨_, rfl, rfl, rfl⟩, tyRou⟩
theorem tyQry : TyQry X.T 23 := ⟨5, 3, 3, 2, 9, ⟨_, rfl, rfl, rfl⟩, ⟨_, rfl, rfl, rfl⟩, ⟨_, rfl, rfl, rfl⟩, ⟨_, rfl, rfl, rfl⟩, ⟨_, rfl, rfl, rfl⟩, ⟨_, rfl, rfl, rfl⟩⟩
end Go.Proofs.Ytbcdfamilcmjnaa

/- Parts of the proof. -/
namespace Go.AM
open Go
structure Has03 (prog : Prog) : Prop where
  f42 : prog.fn 42 = some pf42
  f46 : prog.fn 46 = some pf46
  f36 : prog.fn 36 = some pf36
  f43 : prog.fn 43 = some pf43
  f47 : prog.fn 47 = some pf47
  f11 : prog.fn 11 = some pf11
  f15 : prog.fn 15 = some pf15
  f21 : prog.fn 21 = some pf21
  f25 : prog.fn 25 = some pf25
  f30 : prog.fn 30 = some pf30
  f34 : prog.fn 34 = some pf34
  f37 : prog.fn 37 = some pf37
  f39 : prog.fn 39 = some pf39
  f45 : prog.fn 45 = some pf45
  f29 : prog.fn 29 = some pf29
  f48 : prog.fn 48 = none
  o48 : ∀ (s : Bytes) (c : UInt8), prog.orac 48 [.s s, .i .u8 (c.toNat : Int)] = some (.i .i64 (Lib.indexByte s c))
section
variable {prog : Prog} (H : Has03 prog)
include H
theorem c30 {s b : Bytes} (hs : s.length ≤ 10000000) (hb : b.length ≤ 1000000000) : PuA prog 30 (b.map row8) [.s s] ((b ++ quo s).map row8) := by
  refine PuAK.to ?_
  have hp := p30 H.f30 (b0 := b) (s1 := s) (K := fun x => x = b ++ quo s) (by
    unfold T30_0 T30_1
    refine ⟨⟨by simp only [List.length_cons, List.length_nil, maxBytes_eq]; omega, by simp only [List.length_cons, List.length_nil, maxBytes_eq]; omega⟩, fun P hP => ?_⟩
    refine loop_up (fun i => b ++ 34 :: chrs (s.take i)) s.length ?_ ?_
    · apply hP
      unfold T30_2 T30_4
      have h1 := chrs_len (s.take s.length)
      simp only [List.take_length] at h1 ⊢
      refine ⟨fun h => absurd h (by omega), fun _ => ⟨⟨?_, ?_⟩, ?_⟩⟩
      · simp only [List.length_append, List.length_cons, List.length_nil, maxBytes_eq]; omega
      · simp only [List.length_append, List.length_cons, List.length_nil, maxBytes_eq]; omega
      · simp only [quo, List.append_assoc, List.cons_append]
    · intro i hi ih
      apply hP
      have h1 := chrs_len (s.take i)
      have hc := s[i].toNat_lt
      rw [chrs_take hi] at ih
      rw [← List.cons_append, ← List.append_assoc] at ih
      generalize hx : s[i] = c at ih hc
      have w1 : bShr .u8 (c.toNat : Int) 4 = ((c.toNat / 16 : Nat) : Int) := by
        show (c.toNat : Int).fdiv 16 = _
        rw [Int.fdiv_eq_ediv_of_nonneg _ (by omega)]; omega
      have w2 : bAnd .u8 (c.toNat : Int) 15 = ((c.toNat % 16 : Nat) : Int) := by
        unfold bAnd
        have hx : (BitVec.ofInt IntKind.u8.bits (c.toNat : Int) &&& BitVec.ofInt IntKind.u8.bits 15).toNat = c.toNat % 16 := by
          show (BitVec.ofInt 8 (c.toNat : Int) &&& BitVec.ofInt 8 15).toNat = c.toNat % 16
          rw [BitVec.toNat_and]
          have h1 : (BitVec.ofInt 8 (c.toNat : Int)).toNat = c.toNat := by
            simp
          rw [h1]
          exact Nat.and_two_pow_sub_one_eq_mod c.toNat 4
        rw [hx]
        exact wr_u8 (by omega) (by omega)
      have fit : ∀ x : Bytes, x.length ≤ 4 → Fit ((b ++ 34 :: chrs (s.take i)).length + x.length) 1 := by
        intro x hx
        simp only [List.length_take] at h1
        refine ⟨?_, ?_⟩ <;> (simp only [List.length_append, List.length_cons, maxBytes_eq]; omega)
      unfold T30_2 T30_3
      rw [wr_succ (by omega)]
      refine ⟨fun _ => ⟨by omega, c, by rw [toNat_cast, List.getElem?_eq_getElem hi, hx], ?_⟩, fun h => absurd (show (i : Int) < s.length by omega) h⟩
      simp only [w1, w2, toNat_cast, hexd_get (show c.toNat / 16 < 16 by omega), hexd_get (show c.toNat % 16 < 16 by omega), Option.some.injEq, exists_eq_left']
      unfold chr at ih
      refine ⟨fun h2 => ⟨fit _ (by simp), ?_⟩, fun h2 => ⟨fun h3 => ⟨fit _ (by simp), ?_⟩, fun h3 => ⟨fun h4 => ⟨fit _ (by simp), ?_⟩, fun h4 => ⟨fun h5 => ⟨by omega, by omega, fit _ (by simp), ?_⟩, fun h5 => ⟨fun h6 => ⟨by omega, by omega, fit _ (by simp), ?_⟩, fun h6 => ⟨fit _ (by simp), ?_⟩⟩⟩⟩⟩⟩
      · rwa [if_pos (by omega)] at ih
      · rwa [if_pos (by omega)] at ih
      · rwa [if_neg (by omega), if_pos (by omega)] at ih
      · rwa [if_neg (by omega), if_neg (by omega), if_pos (by omega)] at ih
      · rwa [if_neg (by omega), if_neg (by omega), if_pos (by omega)] at ih
      · rwa [if_neg (by omega), if_neg (by omega), if_neg (by omega)] at ih)
  intro d st o ha
  obtain ⟨o', st', rows', ⟨x, rfl, rfl⟩, h1, h2⟩ := hp d st o ha
  exact ⟨o', st', _, rfl, h1, h2⟩
theorem c11 (s : Bytes) : Pus prog 11 [.s s] (.tup [.s (quoR s).1, .i .i64 (quoR s).2]) := by
  obtain ⟨x, y, ⟨rfl, rfl⟩, h⟩ := p11 H.f11 (s0 := s) (K := fun x y => x = (quoR s).1 ∧ y = (quoR s).2) (by
    unfold T11_0 quoR
    refine ⟨fun h => ?_, fun h => ⟨_, c30 H (b := []) (s := s) (by omega) (by simp), ?_⟩⟩
    · rw [if_pos (by omega)]; exact ⟨rfl, rfl⟩
    · rw [if_neg (by omega)]; exact ⟨rfl, rfl⟩)
  exact h
theorem c34 {n b : Nat} (hb : 2 ≤ b) (hb' : b ≤ 16) (hn : n < 18446744073709551616) : Pus prog 34 [.i .u64 (n : Int), .i .u64 (b : Int)] (.s (digs b n)) := by
  obtain ⟨x, rfl, h⟩ := p34 H.f34 (n0 := (n : Int)) (base1 := (b : Int)) (K := fun x => x = digs b n) (by
    unfold T34_0
    intro P hP
    have key : ∀ f n', n' < b ^ f → 0 < f → n' < 18446744073709551616 → ∀ a : Nat, f ≤ a → a ≤ 64 → ∀ m : Bytes, m.length = 64 → (ds b f n' ++ m.drop a = digs b n) → P (n' : Int) (a : Int) m := by
      intro f
      induction f with
      | zero => intro _ _ h; exact absurd h (Nat.lt_irrefl _)
      | succ f ih =>
        intro n' hf _ hn' a ha ha' m hm hd
        apply hP
        have e1 : (n' : Int).tmod (b : Int) = ((n' % b : Nat) : Int) := by rw [Int.tmod_eq_emod_of_nonneg (by omega)]; omega
        have e2 : (n' : Int).tdiv (b : Int) = ((n' / b : Nat) : Int) := by rw [Int.tdiv_eq_ediv_of_nonneg (by omega)]; omega
        have e3 : IntKind.i64.wrap ((a : Int) - 1) = ((a - 1 : Nat) : Int) := by rw [wr_i64 (by omega) (by omega)]; omega
        have hq : n' / b ≤ n' := Nat.div_le_self _ _
        have hr : n' % b < b := Nat.mod_lt _ (by omega)
        have e4 : IntKind.u64.wrap ((n' / b : Nat) : Int) = ((n' / b : Nat) : Int) := wr_u64_nat (by omega)
        have hset : ∀ c : UInt8, (m.set (a - 1) c).drop (a - 1) = c :: m.drop a := by
          intro c
          rw [List.drop_eq_getElem_cons (by simp; omega), List.getElem_set_self, List.drop_set_of_lt (by omega), show a - 1 + 1 = a by omega]
        unfold T34_1
        simp only [e1, e2, e3, e4, toNat_cast, hset]
        refine ⟨by omega, by omega, hexd (n' % b), hexd_get (by omega), by omega, by omega, by omega, by omega, fun h => ⟨by simp [hm], by omega, by omega, ?_⟩, fun h => ?_⟩
        · rw [← hd]
          unfold ds
          have hz : n' / b = 0 := by omega
          have hlt : n' < b := by
            rcases Nat.lt_or_ge n' b with h | h
            · exact h
            · have := Nat.div_pos h (by omega); omega
          rw [if_pos hlt, Nat.mod_eq_of_lt hlt]
          rfl
        · have hz : n' / b ≠ 0 := by omega
          have hlt : ¬ n' < b := fun h => hz (Nat.div_eq_of_lt h)
          have h1 : n' / b < b ^ f := by
            rw [Nat.div_lt_iff_lt_mul (by omega)]
            rw [Nat.pow_succ] at hf
            exact hf
          have h2 : 0 < f := by
            rcases Nat.eq_zero_or_pos f with rfl | h
            · simp at h1; omega
            · exact h
          refine ih (n' / b) h1 h2 (by omega) (a - 1) (by omega) (by omega) _ (by simp [hm]) ?_
          rw [hset, ← hd]
          conv => rhs; unfold ds
          rw [if_neg hlt, List.append_assoc]
          rfl
    refine key 64 n ?_ (by omega) hn 64 (by omega) (by omega) _ (by simp) ?_
    · calc n < 2 ^ 64 := hn
        _ ≤ b ^ 64 := Nat.pow_le_pow_left hb 64
    · simp [digs])
  exact h
theorem c15 {n : Int} (h1 : -9223372036854775808 ≤ n) (h2 : n < 9223372036854775808) : Pus prog 15 [.i .i64 n] (.s (num n)) := by
  obtain ⟨x, rfl, h⟩ := p15 H.f15 (n0 := n) (K := fun x => x = num n) (by
    unfold T15_0
    refine ⟨fun h => ?_, fun h => ?_⟩
    · have e : IntKind.u64.wrap (0 - (IntKind.u64.wrap n)) = (((-n).toNat : Nat) : Int) := by rw [IntKind.wrap_u64, IntKind.wrap_u64]; omega
      rw [e]
      refine ⟨_, c34 H (b := 10) (by omega) (by omega) (by omega), ?_, ?_⟩
      · have := ds_len 10 64 (-n).toNat
        simp only [digs, List.length_cons, List.length_nil, maxStr_eq]; omega
      · unfold num; rw [if_pos h]; rfl
    · have e : IntKind.u64.wrap n = ((n.toNat : Nat) : Int) := by rw [IntKind.wrap_u64]; omega
      rw [e]
      refine ⟨_, c34 H (b := 10) (by omega) (by omega) (by omega), ?_⟩
      unfold num; rw [if_neg h])
  exact h
end
end Go.AM

/- Parts of the proof. -/
namespace Go.AM
open Go
def cutp (p s : Bytes) : Bytes × Bool := if s.take p.length = p then (s.drop p.length, true) else (s, false)
def EscK (s : Bytes) (c : Int) (r : Bytes) (ok : Bool) : Prop := match esc s with | some (x, y) => c = (x.toNat : Int) ∧ r = y ∧ ok = true | none => ok = false
theorem EscK.yes {s : Bytes} {x : UInt8} {y : Bytes} {c : Int} (h : esc s = some (x, y)) (hc : c = (x.toNat : Int)) : EscK s c y true := by
  unfold EscK; rw [h]; exact ⟨hc, rfl, rfl⟩
theorem EscK.no {s : Bytes} {c : Int} {y : Bytes} (h : esc s = none) : EscK s c y false := by
  unfold EscK; rw [h]
section
variable {prog : Prog} (H : Has03 prog)
include H
theorem c46 (s p : Bytes) : Pus prog 46 [.s s, .s p] (.b (decide (s.take p.length = p))) := by
  obtain ⟨x, rfl, h⟩ := p46 H.f46 (s0 := s) (prefix1 := p) (K := fun x => x = decide (s.take p.length = p)) (by
    unfold T46_0
    refine ⟨fun h => ⟨by omega, by omega, rfl⟩, fun h => ?_⟩
    refine (decide_eq_false fun h1 => ?_).symm
    have := congrArg List.length h1
    simp only [List.length_take] at this
    omega)
  exact h
theorem c42 (s p : Bytes) : Pus prog 42 [.s s, .s p] (.tup [.s (cutp p s).1, .b (cutp p s).2]) := by
  obtain ⟨x, y, ⟨rfl, rfl⟩, h⟩ := p42 H.f42 (s0 := s) (prefix1 := p) (K := fun x y => x = (cutp p s).1 ∧ y = (cutp p s).2) (by
    unfold T42_0 cutp
    refine ⟨_, c46 H s p, fun h => ?_, fun h => ?_⟩
    · have h1 : ¬ s.take p.length = p := by simpa using h
      rw [if_neg h1]; exact ⟨rfl, rfl⟩
    · have h1 : s.take p.length = p := by simpa using h
      have h2 := congrArg List.length h1
      simp only [List.length_take] at h2
      rw [if_pos h1]; exact ⟨by omega, by omega, rfl, rfl⟩)
  exact h
theorem c36 (s p : Bytes) : Pus prog 36 [.s s, .s p] (.tup [.s (cutp p s).1, .b (cutp p s).2]) := by
  obtain ⟨x, y, ⟨rfl, rfl⟩, h⟩ := p36 H.f36 (s0 := s) (prefix1 := p) (K := fun x y => x = (cutp p s).1 ∧ y = (cutp p s).2) (by
    unfold T36_0
    exact ⟨_, _, c42 H s p, rfl, rfl⟩)
  exact h
theorem c47 (s : Bytes) (c : UInt8) : Pus prog 47 [.s s, .i .u8 (c.toNat : Int)] (.i .i64 (Lib.indexByte s c)) := by
  obtain ⟨x, rfl, h⟩ := p47 H.f47 (s0 := s) (c1 := (c.toNat : Int)) (K := fun x => x = Lib.indexByte s c) (by
    unfold T47_0
    exact ⟨_, Pus.orac H.f48 (H.o48 s c) rfl, rfl⟩)
  exact h
theorem c43 (s : Bytes) (c : UInt8) : Pus prog 43 [.s s, .i .u8 (c.toNat : Int)] (.i .i64 (Lib.indexByte s c)) := by
  obtain ⟨x, rfl, h⟩ := p43 H.f43 (s0 := s) (c1 := (c.toNat : Int)) (K := fun x => x = Lib.indexByte s c) (by
    unfold T43_0
    exact ⟨_, c47 H s c, rfl⟩)
  exact h
theorem c37 {b most : Nat} (hb : 2 ≤ b) (hb' : b ≤ 16) (hm : 16 ≤ most) (hm' : most < 18446744073709551616) {s : Bytes} (hs : s.length ≤ 10000000) : Pus prog 37 [.s s, .i .u64 (b : Int), .i .u64 (most : Int)] (.tup [.i .u64 ((rd b most s).1 : Int), .i .i64 (rd b most s).2]) := by
  obtain ⟨x, y, ⟨rfl, rfl⟩, h⟩ := p37 H.f37 (s0 := s) (base1 := (b : Int)) (most2 := (most : Int)) (K := fun x y => x = ((rd b most s).1 : Int) ∧ y = (rd b most s).2) (by
    unfold T37_0 T37_1 T37_2
    intro P hP
    have key : ∀ m i : Nat, i + m = s.length → okd b (s.take i) = true → (2 ≤ i → s.head? ≠ some 48) → ∀ (n : Nat) (far : Bool), (far = false → n = vals b (s.take i) ∧ n ≤ most) → (far = true → most < vals b (s.take i)) → P (n : Int) far (i : Int) := by
      intro m
      induction m with
      | zero =>
        intro i hi ho h48 n far h0 h1
        simp only [Nat.add_zero] at hi
        subst hi
        rw [List.take_length] at ho h0 h1
        apply hP
        unfold T37_3 T37_5
        refine ⟨fun h => absurd h (by omega), fun _ => ⟨fun h => ?_, fun h => ?_⟩⟩
        · subst h; exact ⟨rfl, rfl⟩
        · have hbad : badn b s = false := by
            unfold badn
            rw [decide_eq_false h, ho]
            simp only [Bool.false_or, Bool.not_true]
            by_cases h2 : 1 < s.length
            · rw [decide_eq_false (h48 h2), Bool.and_false]
            · rw [decide_eq_false h2, Bool.false_and]
          refine ⟨fun hf => ?_, fun hf => ?_⟩
          · unfold rd
            rw [if_neg (by rw [hbad]; decide), if_pos (h1 hf)]
            exact ⟨rfl, rfl⟩
          · obtain ⟨h2, h3⟩ := h0 hf
            unfold rd
            rw [if_neg (by rw [hbad]; decide), if_neg (by omega), h2]
            exact ⟨rfl, rfl⟩
      | succ m ih =>
        intro i hi ho h48 n far h0 h1
        have hil : i < s.length := by omega
        have hd := dv_lt hb' s[i]
        have hv := vals_take (b := b) hil
        have hk := okd_take (b := b) hil
        have bad12 : badn b s = true → (0 : Int) = ((rd b most s).1 : Int) ∧ (12 : Int) = (rd b most s).2 := by
          intro h
          unfold rd
          rw [if_pos h]
          exact ⟨rfl, rfl⟩
        apply hP
        unfold T37_3 T37_4
        refine ⟨fun _ => ⟨by omega, by rw [toNat_cast]; exact hb', by omega, s[i], by rw [toNat_cast, List.getElem?_eq_getElem hil], dv b s[i], c43 H _ _, fun h => ?_, fun h => ?_⟩, fun h => absurd h (by omega)⟩
        · refine bad12 ?_
          unfold badn
          rw [okd_of hil h]
          simp
        · have hd0 : 0 ≤ dv b s[i] := by omega
          rw [ho, decide_eq_true hd0, Bool.and_true] at hk
          generalize hdd : (dv b s[i]).toNat = d at hv
          have hdi : dv b s[i] = (d : Int) := by omega
          have e1 : IntKind.u64.wrap (dv b s[i]) = (d : Int) := by rw [hdi]; exact wr_u64_nat (by omega)
          have e2 : IntKind.u64.wrap ((most : Int) - (d : Int)) = ((most - d : Nat) : Int) := by rw [wr_u64 (by omega) (by omega)]; omega
          have e3 : (((most - d : Nat) : Int)).tdiv (b : Int) = (((most - d) / b : Nat) : Int) := by rw [Int.tdiv_eq_ediv_of_nonneg (by omega)]; omega
          have hq : (most - d) / b ≤ most - d := Nat.div_le_self _ _
          have e4 : IntKind.u64.wrap (((most - d) / b : Nat) : Int) = (((most - d) / b : Nat) : Int) := wr_u64_nat (by omega)
          have hfi := far_iff (n := n) (show 0 < b by omega) (show d ≤ most by omega)
          rw [wr_succ (by omega)]
          simp only [e1, e2, e3, e4]
          have go : (2 ≤ i + 1 → s.head? ≠ some 48) → (far = true → P (n : Int) true ((i + 1 : Nat) : Int)) ∧ (far = false → (b : Int) ≠ 0 ∧ (¬((n : Int) > (((most - d) / b : Nat) : Int)) → P (IntKind.u64.wrap ((IntKind.u64.wrap ((n : Int) * (b : Int))) + (d : Int))) (decide ((n : Int) > (((most - d) / b : Nat) : Int))) ((i + 1 : Nat) : Int)) ∧ (¬(¬((n : Int) > (((most - d) / b : Nat) : Int))) → P (n : Int) (decide ((n : Int) > (((most - d) / b : Nat) : Int))) ((i + 1 : Nat) : Int))) := by
            intro h2
            refine ⟨fun hf => ?_, fun hf => ⟨by omega, fun h3 => ?_, fun h3 => ?_⟩⟩
            · refine ih (i + 1) (by omega) hk h2 n true (fun h => by cases h) fun _ => ?_
              rw [hv]
              have h4 := h1 hf
              have : vals b (s.take i) ≤ vals b (s.take i) * b := Nat.le_mul_of_pos_right _ (by omega)
              omega
            · obtain ⟨h4, h5⟩ := h0 hf
              have h6 : n * b + d ≤ most := by
                have : ¬ (most - d) / b < n := by omega
                rw [hfi] at this
                omega
              have hnb : (n : Int) * (b : Int) = ((n * b : Nat) : Int) := by rw [Int.natCast_mul]
              have e5 : IntKind.u64.wrap ((n : Int) * (b : Int)) = ((n * b : Nat) : Int) := by rw [hnb]; exact wr_u64_nat (by omega)
              have e6 : IntKind.u64.wrap (((n * b : Nat) : Int) + (d : Int)) = ((n * b + d : Nat) : Int) := by rw [wr_u64 (by omega) (by omega)]; omega
              rw [e5, e6, decide_eq_false h3]
              refine ih (i + 1) (by omega) hk h2 _ false (fun _ => ⟨?_, h6⟩) fun h => by cases h
              rw [hv, h4]
            · have h3' : (n : Int) > (((most - d) / b : Nat) : Int) := by omega
              obtain ⟨h4, h5⟩ := h0 hf
              rw [decide_eq_true h3']
              refine ih (i + 1) (by omega) hk h2 n true (fun h => by cases h) fun _ => ?_
              rw [hv, ← h4]
              exact hfi.1 (Int.ofNat_lt.1 h3')
          have hd0 : s.head? = s[0]? := List.head?_eq_getElem?
          refine ⟨fun hi1 => ?_, fun hi1 => ?_⟩
          · have h0s : s[0]? = some s[0] := List.getElem?_eq_getElem (by omega)
            refine ⟨s[0], h0s, fun h2 => ?_, fun h2 => ?_⟩
            · refine bad12 ?_
              have h3 : s[0] = 48 := u8_eq (by have e : (48 : UInt8).toNat = 48 := rfl; omega)
              unfold badn
              rw [decide_eq_true (show 1 < s.length by omega), decide_eq_true (show s.head? = some 48 by rw [hd0, h0s, h3])]
              simp
            · refine go fun _ => ?_
              rw [hd0, h0s]
              intro h3
              injection h3 with h3
              exact h2 (by rw [h3]; rfl)
          · refine go fun h2 => ?_
            have h3 : i ≠ 1 := by omega
            have h4 : i ≠ 0 := by omega
            exact h48 (by omega)
    exact key s.length 0 (by omega) rfl (by omega) 0 false (fun _ => ⟨rfl, by omega⟩) fun h => by cases h)
  exact h
theorem c21 (s : Bytes) : Pus prog 21 [.s s] (.tup [.i .i64 (unnum s).1, .i .i64 (unnum s).2]) := by
  obtain ⟨x, y, ⟨rfl, rfl⟩, h⟩ := p21 H.f21 (s0 := s) (K := fun x y => x = (unnum s).1 ∧ y = (unnum s).2) (by
    unfold T21_0 T21_1
    refine ⟨fun h => by unfold unnum; rw [if_pos (by omega)]; exact ⟨rfl, rfl⟩, fun hs => ⟨_, _, c36 H s [45], ?_⟩⟩
    unfold unnum
    rw [if_neg (by omega)]
    by_cases hm : s.take 1 = [45]
    · have ec : cutp [45] s = (s.drop 1, true) := by unfold cutp; rw [if_pos (by exact hm)]; rfl
      rw [ec, if_pos hm]
      refine ⟨fun h => by simp at h, fun _ => ?_⟩
      have hl := rd_le 10 9223372036854775808 (s.drop 1)
      refine ⟨_, _, c37 H (b := 10) (most := 9223372036854775808) (by omega) (by omega) (by omega) (by omega) (s := s.drop 1) (by simp; omega), fun h => ⟨fun h0 => ?_, fun h0 => ?_⟩, fun h => ?_⟩
      · have e : (rd 10 9223372036854775808 (s.drop 1)).1 = 0 := by omega
        rw [if_pos ⟨h, e⟩, e]
        exact ⟨rfl, rfl⟩
      · rw [if_neg (fun hh => h0 (by rw [hh.2]; rfl))]
        refine ⟨?_, rfl⟩
        rw [IntKind.wrap_u64, IntKind.wrap_i64]
        simp only
        omega
      · have e := rd_err h
        rw [if_neg (fun hh => h hh.1), e]
        exact ⟨rfl, rfl⟩
    · have ec : cutp [45] s = (s, false) := by unfold cutp; rw [if_neg (by exact hm)]
      rw [ec, if_neg hm]
      refine ⟨fun _ => ?_, fun h => by simp at h⟩
      have hl := rd_le 10 9223372036854775807 s
      exact ⟨_, _, c37 H (b := 10) (most := 9223372036854775807) (by omega) (by omega) (by omega) (by omega) (s := s) (by omega), wr_i64 (by omega) (by omega), rfl⟩)
  exact h
theorem c45 (s : Bytes) : ∃ c r ok, EscK s c r ok ∧ Pus prog 45 [.s s] (.tup [.i .u8 c, .s r, .b ok]) := by
  refine p45 H.f45 (s0 := s) (K := EscK s) ?_
  unfold T45_0 T45_1
  refine ⟨fun h => by subst h; exact EscK.no rfl, fun h => ?_⟩
  cases s with
  | nil => exact absurd rfl h
  | cons c r =>
    have lit : ∀ {n : Nat} (_ : n < 256), (UInt8.ofNat n).toNat = n := by intro n hn; simp; omega
    unfold T45_2
    refine ⟨c, rfl, ?_⟩
    have t4 : T45_4 prog (EscK (c :: r)) (c :: r) (c.toNat : Int) (decide (c.toNat = 34 ∨ c.toNat = 92)) := by
      unfold T45_4
      refine ⟨fun h1 => ⟨c, rfl, by simp, ?_⟩, fun h1 => ?_⟩
      · have h1 := of_decide_eq_true h1
        exact EscK.yes (show (if c.toNat = 34 ∨ c.toNat = 92 then some (c, r) else _) = some (c, r) from if_pos h1) rfl
      · have h1 := of_decide_eq_false h1
        have e0 : esc (c :: r) = if c.toNat = 110 then some (10, r) else if c.toNat = 120 then esx r else none := by
          show (if c.toNat = 34 ∨ c.toNat = 92 then some (c, r) else if c.toNat = 110 then some (10, r) else if c.toNat = 120 then esx r else none) = _
          rw [if_neg h1]
        refine ⟨fun h2 => ⟨by simp, ?_⟩, fun h2 => ⟨fun h3 => ?_, fun h3 => ?_⟩⟩
        · exact EscK.yes (by rw [e0, if_pos (by omega)]; rfl) rfl
        · have e : esc (c :: r) = esx r := by rw [e0, if_neg (by omega), if_pos (by omega)]
          refine ⟨fun h4 => ?_, fun h4 => ?_⟩
          · refine EscK.no ?_
            rw [e]
            match r, h4 with
            | [], _ => rfl
            | [a], _ => rfl
            | a :: b :: r', h4 => simp at h4; omega
          · match r, h4, e with
            | [], h4, _ => exact absurd (by simp) h4
            | [a], h4, _ => exact absurd (by simp) h4
            | a :: b :: r', _, e =>
              have la := dv_lt (b := 16) (by omega) a
              have lb := dv_lt (b := 16) (by omega) b
              have ca : Pus prog 43 [.s DIG, .i .u8 (a.toNat : Int)] (.i .i64 (dv 16 a)) := c43 H DIG a
              have cb : Pus prog 43 [.s DIG, .i .u8 (b.toNat : Int)] (.i .i64 (dv 16 b)) := c43 H DIG b
              refine ⟨a, rfl, _, ca, b, rfl, _, cb, by simp, ?_⟩
              simp only [esx] at e
              by_cases hv : 0 ≤ dv 16 a ∧ 0 ≤ dv 16 b
              · have hw : IntKind.u8.wrap (IntKind.i64.wrap ((IntKind.i64.wrap (16 * dv 16 a)) + dv 16 b)) = 16 * dv 16 a + dv 16 b := by
                  rw [wr_i64 (z := 16 * dv 16 a) (by omega) (by omega), wr_i64 (by omega) (by omega), wr_u8 (by omega) (by omega)]
                have en := lit (n := (16 * dv 16 a + dv 16 b).toNat) (by omega)
                rw [hw]
                refine ⟨fun _ => ⟨fun _ => ⟨fun h5 => ⟨fun h6 => ?_, fun h6 => ?_⟩, fun h5 => ?_⟩, fun h5 => absurd hv.2 h5⟩, fun h5 => absurd hv.1 h5⟩
                · rw [if_pos ⟨hv.1, hv.2, by omega, by omega⟩] at e
                  exact EscK.yes e (by rw [en]; omega)
                · by_cases h7 : 126 < 16 * dv 16 a + dv 16 b
                  · rw [if_pos ⟨hv.1, hv.2, by omega, by omega⟩] at e
                    rw [decide_eq_true h7]
                    exact EscK.yes e (by rw [en]; omega)
                  · rw [if_neg (by omega)] at e
                    rw [decide_eq_false h7]
                    exact EscK.no e
                · rw [if_neg (by omega)] at e
                  exact EscK.no e
              · rw [if_neg (by omega)] at e
                exact ⟨fun h5 => ⟨fun h6 => absurd ⟨h5, h6⟩ hv, fun _ => EscK.no e⟩, fun _ => EscK.no e⟩
        · exact EscK.no (by rw [e0, if_neg (by omega), if_neg (by omega)])
    unfold T45_3
    refine ⟨fun h1 => ?_, fun h1 => ?_⟩
    · rw [show decide ((c.toNat : Int) = 34) = decide (c.toNat = 34 ∨ c.toNat = 92) from decide_eq_decide.2 (by omega)]
      exact t4
    · rw [show decide ((c.toNat : Int) = 92) = decide (c.toNat = 34 ∨ c.toNat = 92) from decide_eq_decide.2 (by omega)]
      exact t4
theorem c39 {s : Bytes} (hs : s.length ≤ 10000000) : Pus prog 39 [.s s] (.tup [.s (nxtR s).1, .s (nxtR s).2.1, .b (nxtR s).2.2]) := by
  obtain ⟨x, y, z, ⟨rfl, rfl, rfl⟩, h⟩ := p39 H.f39 (s0 := s) (K := fun x y z => x = (nxtR s).1 ∧ y = (nxtR s).2.1 ∧ z = (nxtR s).2.2) (by
    have no : nxt s = none → ([] : Bytes) = (nxtR s).1 ∧ ([] : Bytes) = (nxtR s).2.1 ∧ false = (nxtR s).2.2 := by
      intro h
      unfold nxtR
      rw [h]
      exact ⟨rfl, rfl, rfl⟩
    unfold T39_0 T39_1
    refine ⟨_, _, c36 H s [34], ?_⟩
    cases s with
    | nil =>
      rw [show cutp [34] [] = ([], false) from rfl]
      exact ⟨fun _ => no rfl, fun h => by simp at h⟩
    | cons q s =>
      by_cases hq : q.toNat = 34
      · have hq' : q = 34 := u8_eq hq
        subst hq'
        have ec : cutp [34] (34 :: s) = (s, true) := by unfold cutp; rw [if_pos (show List.take ([34] : Bytes).length (34 :: s) = [34] from rfl)]; rfl
        rw [ec]
        refine ⟨fun h => by simp at h, fun _ P hP => ?_⟩
        have hn : nxt (34 :: s) = nxtB (s.length + 1) [] s := by
          simp only [nxt]
          rw [if_pos hq]
        have key : ∀ n b r, r.length < n → b.length + r.length ≤ 10000000 → nxtB n b r = nxt (34 :: s) → P r b := by
          intro n
          induction n with
          | zero => intro b r h; exact absurd h (Nat.not_lt_zero _)
          | succ n ih =>
            intro b r hr hb hx
            apply hP
            unfold T39_2
            cases r with
            | nil => exact ⟨fun h => absurd rfl h, fun _ => no (by rw [← hx]; rfl)⟩
            | cons c r =>
              simp only [nxtB] at hx
              refine ⟨fun _ => ⟨c, rfl, by simp, fun h1 => ?_, fun h1 => ⟨fun h2 => ?_, fun h2 => ⟨fun h3 => ?_, fun h3 => ⟨fun h4 => ?_, fun h4 => ?_⟩⟩⟩⟩, fun h => absurd (by simp) h⟩
              · rw [if_pos (by omega)] at hx
                unfold nxtR
                rw [← hx]
                exact ⟨rfl, rfl, rfl⟩
              · refine no ?_
                rw [← hx, if_neg (by omega), show one (c :: r) = none by simp only [one]; rw [if_pos (by omega)]]
              · refine no ?_
                rw [← hx, if_neg (by omega), show one (c :: r) = none by simp only [one]; rw [if_pos (by omega)]]
              · rw [if_neg (by omega), show one (c :: r) = esc r by simp only [one]; rw [if_neg (by omega), if_pos (by omega)]] at hx
                obtain ⟨a, r', ok, hk, hp⟩ := c45 H r
                refine ⟨a, r', ok, hp, fun h5 => ?_, fun h5 => ?_⟩
                · unfold EscK at hk
                  cases he : esc r with
                  | none => rw [he] at hx; exact no hx.symm
                  | some p =>
                    rw [he] at hk
                    obtain ⟨_, _, hk⟩ := hk
                    rw [hk] at h5
                    exact absurd h5 (by decide)
                · unfold EscK at hk
                  cases he : esc r with
                  | none =>
                    rw [he] at hk
                    simp only at hk
                    rw [hk] at h5
                    exact absurd h5 (by decide)
                  | some p =>
                    obtain ⟨u, v⟩ := p
                    rw [he] at hk hx
                    obtain ⟨h6, h7, h8⟩ := hk
                    simp only at hx h6 h7
                    subst h6; subst h7
                    have hl : r'.length < (c :: r).length := one_len (c := u) (by simp only [one]; rw [if_neg (by omega), if_pos (by omega)]; exact he)
                    simp only [List.length_cons] at hl hb hr
                    unfold T39_3
                    refine ⟨u, rfl, ⟨?_, ?_⟩, ih _ _ (by omega) ?_ hx⟩
                    · simp only [List.length_cons, List.length_nil, maxBytes_eq]; omega
                    · simp only [List.length_cons, List.length_nil, maxBytes_eq]; omega
                    · simp only [List.length_append, List.length_cons, List.length_nil]; omega
              · rw [if_neg (by omega), show one (c :: r) = some (c, r) by simp only [one]; rw [if_neg (by omega), if_neg (by omega)]] at hx
                simp only [List.length_cons] at hb hr
                unfold T39_3
                refine ⟨c, rfl, ⟨?_, ?_⟩, ih _ _ (show r.length < n by omega) ?_ hx⟩
                · simp only [List.length_cons, List.length_nil, maxBytes_eq]; omega
                · simp only [List.length_cons, List.length_nil, maxBytes_eq]; omega
                · simp only [List.drop_succ_cons, List.drop_zero, List.length_append, List.length_cons, List.length_nil]; omega
        exact key (s.length + 1) [] s (by omega) (by simp at hs ⊢; omega) hn.symm
      · have ec : cutp [34] (q :: s) = (q :: s, false) := by
          unfold cutp
          rw [if_neg ?_]
          intro h
          injection h with h
          exact hq (by rw [h]; rfl)
        rw [ec]
        refine ⟨fun _ => no ?_, fun h => by simp at h⟩
        simp only [nxt]
        rw [if_neg hq])
  exact h
theorem c25 (s : Bytes) : Pus prog 25 [.s s] (.tup [.s (unquo s).1, .i .i64 (unquo s).2]) := by
  obtain ⟨x, y, ⟨rfl, rfl⟩, h⟩ := p25 H.f25 (s0 := s) (K := fun x y => x = (unquo s).1 ∧ y = (unquo s).2) (by
    unfold T25_0 unquo
    refine ⟨fun h => by rw [if_pos (by omega)]; exact ⟨rfl, rfl⟩, fun hs => ⟨_, _, _, c39 H (by omega), ?_⟩⟩
    rw [if_neg (by omega)]
    unfold nxtR
    cases nxt s with
    | none => exact ⟨fun _ => ⟨rfl, rfl⟩, fun h => by simp at h⟩
    | some p =>
      obtain ⟨x, r⟩ := p
      refine ⟨fun h => by simp at h, fun _ => ⟨fun h => ?_, fun h => ?_⟩⟩
      · cases r with
        | nil => exact absurd rfl h
        | cons c r => exact ⟨rfl, rfl⟩
      · have h : r = [] := Classical.not_not.1 h
        subst h
        refine ⟨fun h => ?_, fun h => ?_⟩
        · simp only at h ⊢
          rw [if_pos (by omega)]; exact ⟨rfl, rfl⟩
        · simp only at h ⊢
          rw [if_neg (by omega)]; exact ⟨rfl, rfl⟩)
  exact h
theorem c29 {a b : List Bytes} (ha : a.length ≤ 1000000000) : Pus prog 29 [.sl .ext (a.map rowS), .sl .ext (b.map rowS)] (.b (decide (a = b))) := by
  obtain ⟨x, rfl, h⟩ := p29 H.f29 (a0 := a) (b1 := b) (K := fun x => x = decide (a = b)) (by
    unfold T29_0
    refine ⟨fun h => (decide_eq_false fun e => h (by rw [e])).symm, fun hl P hP => ?_⟩
    have hlen : a.length = b.length := by omega
    have key : ∀ m i : Nat, i + m = a.length → (∀ j, j < i → a[j]? = b[j]?) → P (i : Int) := by
      intro m
      induction m with
      | zero =>
        intro i hi hj
        apply hP
        unfold T29_1 T29_2
        refine ⟨fun h => absurd h (by omega), fun _ => (decide_eq_true ?_).symm⟩
        apply List.ext_getElem?
        intro j
        rcases Nat.lt_or_ge j i with h | h
        · exact hj j h
        · rw [List.getElem?_eq_none (by omega), List.getElem?_eq_none (by omega)]
      | succ m ih =>
        intro i hi hj
        have h1 : i < a.length := by omega
        have h2 : i < b.length := by omega
        apply hP
        unfold T29_1
        refine ⟨fun _ => ⟨by omega, a[i], by rw [toNat_cast, List.getElem?_eq_getElem h1], by omega, b[i], by rw [toNat_cast, List.getElem?_eq_getElem h2], fun h => ?_, fun h => ?_⟩, fun h => absurd h (by omega)⟩
        · refine (decide_eq_false fun e => h ?_).symm
          subst e
          rfl
        · rw [wr_succ (by omega)]
          refine ih (i + 1) (by omega) fun j hj' => ?_
          rcases Nat.lt_or_ge j i with h3 | h3
          · exact hj j h3
          · have : j = i := by omega
            subst this
            rw [List.getElem?_eq_getElem h1, List.getElem?_eq_getElem h2, Classical.not_not.1 h]
    exact key a.length 0 (by omega) (by simp))
  exact h
end
end Go.AM

/- Parts of the proof. -/
namespace Go.AM
open Go
def isD (c : UInt8) : Bool := decide (48 ≤ c.toNat) && decide (c.toNat ≤ 57)
theorem unnum_rng (s : Bytes) : -9223372036854775808 ≤ (unnum s).1 ∧ (unnum s).1 < 9223372036854775808 := by
  have h1 := rd_le 10 9223372036854775808 (s.drop 1)
  have h2 := rd_le 10 9223372036854775807 s
  unfold unnum
  split
  · exact ⟨by decide, by decide⟩
  split
  · split
    · exact ⟨by decide, by decide⟩
    · dsimp only
      omega
  · dsimp only
    omega
theorem hexd_isD : ∀ n : Fin 10, isD (hexd n.val) = true := by decide
theorem ds_isD : ∀ (f n : Nat), ∀ c ∈ ds 10 f n, isD c = true
  | 0, n, c, h => by simp [ds] at h
  | f + 1, n, c, h => by
    rw [ds] at h
    split at h
    · rename_i hn
      rw [List.mem_singleton.1 h]
      exact hexd_isD ⟨n, hn⟩
    · rcases List.mem_append.1 h with h | h
      · exact ds_isD f _ c h
      · rw [List.mem_singleton.1 h]
        exact hexd_isD ⟨n % 10, Nat.mod_lt _ (by decide)⟩
end Go.AM

/- Parts of the proof. -/
namespace Go.AM
open Go
def eqQ (a b : Qry) : Bool := (a.kind == b.kind && (a.g == b.g && (a.k == b.k && (a.key == b.key && (a.name == b.name && true)))))
theorem eqQ_iff {a b : Qry} : eqQ a b = true ↔ a = b := by
  unfold eqQ
  simp only [Bool.and_eq_true, beq_iff_eq, Bool.and_true]
  constructor
  · rintro ⟨h1, h2, h3, h4, h5⟩
    cases a; cases b
    simp only [Qry.mk.injEq]
    exact ⟨h1, h2, h3, h4, h5⟩
  · rintro rfl; exact ⟨rfl, rfl, rfl, rfl, rfl⟩
def bareQ (q : Qry) : Qry := if q.kind = 1 then ⟨q.kind, 0, 0, 0, []⟩ else if q.kind = 3 then ⟨q.kind, q.g, q.k, 0, []⟩ else if q.kind = 2 ∨ q.kind = 4 ∨ q.kind = 5 then ⟨q.kind, q.g, 0, 0, []⟩ else if q.kind = 6 then ⟨q.kind, 0, 0, q.key, []⟩ else ⟨q.kind, 0, 0, 0, q.name⟩
def rngQ (q : Qry) : Bool := decide (0 ≤ q.g ∧ q.g < 16) && decide (0 ≤ q.k ∧ q.k < 170) && decide (q.name.length ≤ 16)
def okQ (q : Qry) : Bool := decide (1 ≤ q.kind ∧ q.kind ≤ 8) && eqQ q (bareQ q) && rngQ q
def chkQ (q : Qry) : Int := if okQ q = true then 0 else 8
theorem chkQ_iff {q : Qry} : chkQ q = 0 ↔ okQ q = true := by unfold chkQ; cases okQ q <;> decide
def shownQ (q : Qry) : Bytes := if q.kind = 1 then wordM q.kind else if q.kind = 3 then wordM q.kind ++ (([32] ++ num q.g ++ [32]) ++ num q.k) else if q.kind = 6 then wordM q.kind ++ ([32] ++ num q.key) else if q.kind = 7 ∨ q.kind = 8 then wordM q.kind ++ ([32] ++ quo q.name) else wordM q.kind ++ ([32] ++ num q.g)
def txtQ (q : Qry) : Bytes × Int := if okQ q = true then (shownQ q, 0) else ([], 8)
structure OkQ (q : Qry) : Prop where
  k1 : 1 ≤ q.kind
  k8 : q.kind ≤ 8
  b : q = bareQ q
  g : 0 ≤ q.g ∧ q.g < 16
  k : 0 ≤ q.k ∧ q.k < 170
  n : q.name.length ≤ 16
theorem okQ_iff {q : Qry} : okQ q = true ↔ OkQ q := by
  unfold okQ rngQ
  simp only [Bool.and_eq_true, decide_eq_true_eq, eqQ_iff]
  exact ⟨fun ⟨⟨⟨h1, h2⟩, h3⟩, ⟨h4, h5⟩, h6⟩ => ⟨h1, h2, h3, h4, h5, h6⟩, fun h => ⟨⟨⟨h.k1, h.k8⟩, h.b⟩, ⟨h.g, h.k⟩, h.n⟩⟩
def cutS (s : Bytes) : Bytes × Bytes × Bool := if 0 ≤ Lib.indexByte s 32 then (s.take (Lib.indexByte s 32).toNat, s.drop (Lib.indexByte s 32 + 1).toNat, true) else (s, [], false)
theorem ib_no {s : Bytes} (h : ∀ c ∈ s, c ≠ (32 : UInt8)) : Lib.indexByte s 32 = -1 := by
  induction s with
  | nil => rfl
  | cons c s ih =>
    rw [Lib.indexByte, if_neg (by simpa using h c List.mem_cons_self), ih fun d hd => h d (List.mem_cons_of_mem _ hd)]
    rfl
theorem ib_at {a r : Bytes} (h : ∀ c ∈ a, c ≠ (32 : UInt8)) : Lib.indexByte (a ++ 32 :: r) 32 = (a.length : Int) := by
  induction a with
  | nil => rfl
  | cons c a ih =>
    rw [List.cons_append, Lib.indexByte, if_neg (by simpa using h c List.mem_cons_self), ih fun d hd => h d (List.mem_cons_of_mem _ hd), if_neg (by simp <;> omega), List.length_cons]
    omega
theorem cutS_no {s : Bytes} (h : ∀ c ∈ s, c ≠ (32 : UInt8)) : cutS s = (s, [], false) := by unfold cutS; rw [ib_no h, if_neg (by decide)]
theorem cutS_at {a r : Bytes} (h : ∀ c ∈ a, c ≠ (32 : UInt8)) : cutS (a ++ 32 :: r) = (a, r, true) := by
  unfold cutS
  rw [ib_at h, if_pos (by omega)]
  have e : ((a.length : Int) + 1).toNat = a.length + 1 := by omega
  rw [e, show (a.length : Int).toNat = a.length from rfl]
  simp
theorem num_nosp (n : Int) : ∀ c ∈ num n, c ≠ (32 : UInt8) := by
  have hd : ∀ k, ∀ c ∈ digs 10 k, c ≠ (32 : UInt8) := fun k c hc => by
    have := ds_isD _ _ c hc
    rintro rfl
    revert this
    decide
  intro c hc
  unfold num at hc
  split at hc
  · rcases List.mem_cons.1 hc with rfl | hc
    · decide
    · exact hd _ c hc
  · exact hd _ c hc
theorem word_nosp {k : Int} (h1 : 1 ≤ k) (h8 : k ≤ 8) : ∀ c ∈ wordM k, c ≠ (32 : UInt8) := by
  obtain ⟨j, rfl⟩ := Int.eq_ofNat_of_zero_le (by omega : 0 ≤ k)
  have h1 : 1 ≤ j := by omega
  have h8 : j ≤ 8 := by omega
  match j, h1, h8 with
  | 1, _, _ | 2, _, _ | 3, _, _ | 4, _, _ | 5, _, _ | 6, _, _ | 7, _, _ | 8, _, _ => decide
theorem mpAt_word {k : Int} (h1 : 1 ≤ k) (h8 : k ≤ 8) : mpAt wordL (wordM k) = k := by
  obtain ⟨j, rfl⟩ := Int.eq_ofNat_of_zero_le (by omega : 0 ≤ k)
  have h1 : 1 ≤ j := by omega
  have h8 : j ≤ 8 := by omega
  match j, h1, h8 with
  | 1, _, _ | 2, _, _ | 3, _, _ | 4, _, _ | 5, _, _ | 6, _, _ | 7, _, _ | 8, _, _ => rfl
theorem word_len {k : Int} : (wordM k).length ≤ 10 := by
  by_cases h : 1 ≤ k ∧ k ≤ 8
  · obtain ⟨h1, h8⟩ := h
    obtain ⟨j, rfl⟩ := Int.eq_ofNat_of_zero_le (by omega : 0 ≤ k)
    have h1 : 1 ≤ j := by omega
    have h8 : j ≤ 8 := by omega
    match j, h1, h8 with
    | 1, _, _ | 2, _, _ | 3, _, _ | 4, _, _ | 5, _, _ | 6, _, _ | 7, _, _ | 8, _, _ => decide
  · rw [wordM_no h]; decide
def numQ (s : Bytes) : Int × Bool := ((unnum s).1, decide ((unnum s).2 = 0) && (decide (0 ≤ (unnum s).1) && decide ((unnum s).1 < 1000)))
def rdQ (kind : Int) (rest : Bytes) : Qry × Bool :=
  if kind = 1 then (⟨1, 0, 0, 0, []⟩, decide (rest = [])) else
  if kind = 3 then (⟨3, (numQ (cutS rest).1).1, (numQ (cutS rest).2.1).1, 0, []⟩, (numQ (cutS rest).1).2 && ((numQ (cutS rest).2.1).2 && (cutS rest).2.2)) else
  if kind = 6 then (⟨6, 0, 0, (unnum rest).1, []⟩, decide ((unnum rest).2 = 0)) else
  if kind = 7 ∨ kind = 8 then (⟨kind, 0, 0, 0, (unquo rest).1⟩, decide ((unquo rest).2 = 0)) else (⟨kind, (numQ rest).1, 0, 0, []⟩, (numQ rest).2)
def refQ (kind : Int) (rest : Bytes) : Qry :=
  if kind = 2 ∨ kind = 4 ∨ kind = 5 then ⟨kind, (unnum (cutS rest).1).1, 0, 0, []⟩ else
  if kind = 3 then ⟨kind, (unnum (cutS rest).1).1, (unnum (cutS rest).2.1).1, 0, []⟩ else
  if kind = 6 then ⟨kind, 0, 0, (unnum rest).1, []⟩ else
  if kind = 7 ∨ kind = 8 then ⟨kind, 0, 0, 0, (unquo rest).1⟩ else ⟨kind, 0, 0, 0, []⟩
abbrev qz : Qry := ⟨0, 0, 0, 0, []⟩
def gotQ (s : Bytes) : Qry × Bool := rdQ (mpAt wordL (cutS s).1) (cutS s).2.1
def rdTQ (s : Bytes) : Qry × Int := if 2000 < s.length then (qz, 4) else if (gotQ s).2 = true ∧ okQ (gotQ s).1 = true ∧ shownQ (gotQ s).1 = s then ((gotQ s).1, 0) else (qz, 12)
theorem numQ_num {n : Int} (h : 0 ≤ n ∧ n < 1000) : numQ (num n) = (n, true) := by
  unfold numQ
  rw [unnum_num (by omega) (by omega)]
  simp only [decide_eq_true h.1, decide_eq_true h.2]
  rfl
theorem back_Q {q : Qry} (h : OkQ q) (hk : -9223372036854775808 ≤ q.key ∧ q.key < 9223372036854775808) : gotQ (shownQ q) = (q, true) ∧ (cutS (shownQ q)).1 = wordM q.kind ∧ refQ q.kind (cutS (shownQ q)).2.1 = q := by
  obtain ⟨k1, k8, b, g, k, n⟩ := h
  have hw := word_nosp k1 k8
  unfold bareQ at b
  by_cases e1 : q.kind = 1
  · rw [if_pos e1] at b
    have es : cutS (shownQ q) = (wordM q.kind, [], false) := by unfold shownQ; rw [if_pos e1]; exact cutS_no hw
    unfold gotQ
    rw [es]
    simp only
    rw [mpAt_word k1 k8]
    unfold rdQ refQ
    rw [if_pos e1, if_neg (by omega), if_neg (by omega), if_neg (by omega), if_neg (by omega)]
    rw [e1] at b
    rw [e1]
    exact ⟨by rw [← b]; rfl, trivial, b.symm⟩
  rw [if_neg e1] at b
  by_cases e3 : q.kind = 3
  · rw [if_pos e3] at b
    have es : cutS (shownQ q) = (wordM q.kind, num q.g ++ 32 :: num q.k, true) := by
      unfold shownQ
      rw [if_neg e1, if_pos e3, ← cutS_at (r := num q.g ++ 32 :: num q.k) hw]
      simp
    have er : cutS (num q.g ++ 32 :: num q.k) = (num q.g, num q.k, true) := cutS_at (num_nosp _)
    unfold gotQ
    rw [es]
    simp only
    rw [mpAt_word k1 k8]
    unfold rdQ refQ
    rw [if_neg e1, if_pos e3, if_neg (by omega), if_pos e3, er]
    simp only
    rw [numQ_num (by omega), numQ_num (by omega), unnum_num (by omega) (by omega), unnum_num (by omega) (by omega)]
    rw [e3] at b
    rw [e3]
    exact ⟨by rw [← b]; rfl, trivial, b.symm⟩
  rw [if_neg e3] at b
  by_cases e2 : q.kind = 2 ∨ q.kind = 4 ∨ q.kind = 5
  · rw [if_pos e2] at b
    have es : cutS (shownQ q) = (wordM q.kind, num q.g, true) := by
      unfold shownQ
      rw [if_neg e1, if_neg e3, if_neg (by omega), if_neg (by omega), ← cutS_at (r := num q.g) hw]
      simp
    have er : cutS (num q.g) = (num q.g, [], false) := cutS_no (num_nosp _)
    unfold gotQ
    rw [es]
    simp only
    rw [mpAt_word k1 k8]
    unfold rdQ refQ
    rw [if_neg e1, if_neg e3, if_neg (by omega), if_neg (by omega), if_pos e2, er]
    simp only
    rw [numQ_num (by omega), unnum_num (by omega) (by omega)]
    exact ⟨by rw [← b], trivial, b.symm⟩
  rw [if_neg e2] at b
  by_cases e6 : q.kind = 6
  · rw [if_pos e6] at b
    have es : cutS (shownQ q) = (wordM q.kind, num q.key, true) := by
      unfold shownQ
      rw [if_neg e1, if_neg e3, if_pos e6, ← cutS_at (r := num q.key) hw]
      simp
    unfold gotQ
    rw [es]
    simp only
    rw [mpAt_word k1 k8]
    unfold rdQ refQ
    rw [if_neg e1, if_neg e3, if_pos e6, if_neg e2, if_neg e3, if_pos e6, unnum_num hk.1 hk.2]
    rw [e6] at b
    rw [e6]
    exact ⟨by rw [← b]; rfl, trivial, b.symm⟩
  · rw [if_neg e6] at b
    have e7 : q.kind = 7 ∨ q.kind = 8 := by omega
    have es : cutS (shownQ q) = (wordM q.kind, quo q.name, true) := by
      unfold shownQ
      rw [if_neg e1, if_neg e3, if_neg e6, if_pos e7, ← cutS_at (r := quo q.name) hw]
      simp
    unfold gotQ
    rw [es]
    simp only
    rw [mpAt_word k1 k8]
    unfold rdQ refQ
    rw [if_neg e1, if_neg e3, if_neg e6, if_pos e7, if_neg e2, if_neg e3, if_neg e6, if_pos e7, unquo_quo (by omega)]
    exact ⟨by rw [← b]; rfl, trivial, b.symm⟩
theorem gotQ_key (s : Bytes) : -9223372036854775808 ≤ (gotQ s).1.key ∧ (gotQ s).1.key < 9223372036854775808 := by
  have := unnum_rng (cutS s).2.1
  unfold gotQ rdQ
  repeat' split
  all_goals (simp only; omega)
theorem ref_found {s : Bytes} (hs : ¬2000 < s.length) {q : Qry} (h : okQ q = true) (hk : -9223372036854775808 ≤ q.key ∧ q.key < 9223372036854775808) (e : shownQ q = s) : rdTQ s = (q, 0) := by
  obtain ⟨h1, _, _⟩ := back_Q (okQ_iff.1 h) hk
  unfold rdTQ
  rw [if_neg hs, ← e, h1, if_pos ⟨rfl, h, rfl⟩]
theorem shownQ_len {q : Qry} (h : q.name.length ≤ 100) : (shownQ q).length ≤ 700 := by
  have h1 := word_len (k := q.kind)
  have h2 := num_len q.g
  have h3 := num_len q.k
  have h4 := num_len q.key
  have h5 := quo_len q.name
  unfold shownQ
  repeat' split
  all_goals first | omega | (simp only [List.length_append, List.length_cons, List.length_nil]; omega)
end Go.AM

/- Parts of the proof. -/
namespace Go.AM
open Go
structure HasU (prog : Prog) : Prop extends Has03 prog where
  f197 : prog.fn 197 = some pf197
  f243 : prog.fn 243 = some pf243
  f245 : prog.fn 245 = some pf245
  f247 : prog.fn 247 = some pf247
  f248 : prog.fn 248 = some pf248
  f257 : prog.fn 257 = none
  f258 : prog.fn 258 = some pf258
  f260 : prog.fn 260 = some pf260
  f261 : prog.fn 261 = some pf261
  f266 : prog.fn 266 = some pf266
  f267 : prog.fn 267 = some pf267
  o257 : prog.orac 257 [] = some (.mp wordL)
theorem ib_le (s : Bytes) (c : UInt8) : Lib.indexByte s c < (s.length : Int) ∨ s = [] := by
  induction s with
  | nil => exact .inr rfl
  | cons b s ih =>
    left
    rw [Lib.indexByte]
    have : (((b :: s).length : Nat) : Int) = (s.length : Int) + 1 := by rw [List.length_cons]; omega
    split
    · omega
    · split
      · omega
      · rename_i h1 h2
        rcases ih with h | h
        · omega
        · subst h; exact absurd rfl h2
section
variable {prog : Prog} (H : HasU prog)
include H
theorem c257 : Pus prog 257 [] (.mp wordL) := ⟨.mp wordL, ⟨st0, 1, by simp only [acall, H.f257, H.o257]⟩, by simp [AV.strip]⟩
theorem c258 {n : Int} (h1 : -9223372036854775808 ≤ n) (h2 : n < 9223372036854775808) : Pus prog 258 [.i .i64 n] (.s (num n)) := by
  obtain ⟨x, rfl, h⟩ := p258 H.f258 (n0 := n) (K := fun x => x = num n) (by
    unfold T258_0
    exact ⟨_, c15 H.toHas03 h1 h2, rfl⟩)
  exact h
theorem c197 (s : Bytes) (c : UInt8) : Pus prog 197 [.s s, .s [c]] (.i .i64 (Lib.indexByte s c)) := by
  obtain ⟨x, rfl, h⟩ := p197 H.f197 (s0 := s) (substr1 := [c]) (K := fun x => x = Lib.indexByte s c) (by
    have t3 : ∀ b, (b = true → s = [c]) → T197_3 prog (fun x => x = Lib.indexByte s c) s [c] (([c] : Bytes).length : Int) b := fun b hb => by
      unfold T197_3
      refine ⟨fun h => ?_, fun _ => ⟨fun _ => ⟨c, rfl, _, c47 H.toHas03 s c, rfl⟩, fun h => absurd rfl h⟩⟩
      rw [hb h, Lib.indexByte, if_pos (by simp)]
    unfold T197_0 T197_1 T197_2
    exact ⟨fun h => absurd h (by simp), fun _ => t3 _ fun h => (of_decide_eq_true h).symm⟩)
  exact h
theorem c266 {s : Bytes} (hs : s.length ≤ 1000000000) : Pus prog 266 [.s s, .s [32]] (.tup [.s (cutS s).1, .s (cutS s).2.1, .b (cutS s).2.2]) := by
  obtain ⟨x, y, z, ⟨rfl, rfl, rfl⟩, h⟩ := p266 H.f266 (s0 := s) (sep1 := [32]) (K := fun x y z => x = (cutS s).1 ∧ y = (cutS s).2.1 ∧ z = (cutS s).2.2) (by
    have hl := ib_le s 32
    have hg := Lib.indexByte_ge s 32
    unfold T266_0
    refine ⟨_, c197 H s 32, fun h => ?_, fun h => ?_⟩
    · have hlt : Lib.indexByte s 32 < (s.length : Int) := by
        rcases hl with h' | rfl
        · exact h'
        · exact absurd h (by decide)
      have e1 : (([32] : Bytes).length : Int) = 1 := rfl
      rw [e1, wr_i64 (by omega) (by omega)]
      unfold cutS
      rw [if_pos (by omega)]
      exact ⟨by omega, by omega, by omega, by omega, rfl, rfl, rfl⟩
    · unfold cutS
      rw [if_neg (by omega)]
      exact ⟨rfl, rfl, rfl⟩)
  exact h
theorem c260 {s : Bytes} (hs : s.length ≤ 1000000000) : Pus prog 260 [.s s, .s [32]] (.tup [.s (cutS s).1, .s (cutS s).2.1, .b (cutS s).2.2]) := by
  obtain ⟨x, y, z, ⟨rfl, rfl, rfl⟩, h⟩ := p260 H.f260 (s0 := s) (sep1 := [32]) (K := fun x y z => x = (cutS s).1 ∧ y = (cutS s).2.1 ∧ z = (cutS s).2.2) (by
    unfold T260_0
    exact ⟨_, _, _, c266 H hs, rfl, rfl, rfl⟩)
  exact h
theorem c267 (s : Bytes) : Pus prog 267 [.s s] (.tup [.i .i64 (numQ s).1, .b (numQ s).2]) := by
  obtain ⟨x, y, ⟨rfl, rfl⟩, h⟩ := p267 H.f267 (s0 := s) (K := fun x y => x = (numQ s).1 ∧ y = (numQ s).2) (by
    unfold T267_0 numQ
    refine ⟨_, _, c21 H.toHas03 s, fun h => ⟨fun h1 => ⟨rfl, ?_⟩, fun h1 => ⟨rfl, ?_⟩⟩, fun h => ⟨rfl, ?_⟩⟩
    · rw [decide_eq_true h, decide_eq_true (p := 0 ≤ (unnum s).1) (by omega)]; rfl
    · rw [decide_eq_true h, decide_eq_false (p := 0 ≤ (unnum s).1) (by omega)]; rfl
    · rw [decide_eq_false h]; rfl)
  exact h
theorem c261 {kind : Int} {rest : Bytes} (hr : rest.length ≤ 1000000000) : Pus prog 261 [.i .u8 kind, .s rest] (.tup [(rdQ kind rest).1.av, .b (rdQ kind rest).2]) := by
  obtain ⟨x, y, ⟨rfl, rfl⟩, h⟩ := p261 H.f261 (kind0 := kind) (rest1 := rest) (K := fun x y => x = (rdQ kind rest).1 ∧ y = (rdQ kind rest).2) (by
    have t7 : ∀ (K : Qry → Bool → Prop) (ok is : Bool) (e : Int) (m q : Qry), K q (ok && (is && decide (e = 0))) → T261_7 prog K ok is e m q := fun K ok is e m q hk => by
      unfold T261_7
      refine ⟨fun h => ⟨fun h' => ?_, fun h' => ?_⟩, fun h => ?_⟩
      · rw [h, h'] at hk; exact hk
      · rw [h, h'] at hk; exact hk
      · rw [h] at hk; exact hk
    unfold T261_0 T261_1 T261_2 T261_3 T261_4 T261_5 T261_6
    refine ⟨fun h => ?_, fun h1 => ⟨fun h => ?_, fun h3 => ⟨fun h => ?_, fun h6 => ⟨fun h => ?_, fun h7 => ?_⟩⟩⟩⟩
    · have h := of_decide_eq_true h
      refine t7 _ _ _ _ _ _ ?_
      unfold rdQ
      rw [if_pos h, h]
      exact ⟨rfl, by simp⟩
    · have h1 := of_decide_eq_false h1
      have hc1 : (cutS rest).1.length ≤ 1000000000 := by unfold cutS; split <;> simp <;> omega
      refine ⟨_, _, _, c260 H hr, _, _, c267 H _, _, _, c267 H _, fun hi => t7 _ _ _ _ _ _ ?_, fun hi => t7 _ _ _ _ _ _ ?_⟩
      · unfold rdQ
        rw [if_neg h1, if_pos h, h, hi]
        exact ⟨rfl, by simp⟩
      · unfold rdQ
        rw [if_neg h1, if_pos h, h, hi]
        exact ⟨rfl, by simp⟩
    · have h1 := of_decide_eq_false h1
      refine ⟨_, _, c21 H.toHas03 rest, t7 _ _ _ _ _ _ ?_⟩
      unfold rdQ
      rw [if_neg h1, if_neg h3, if_pos h, h]
      exact ⟨rfl, by simp⟩
    · have h1 := of_decide_eq_false h1
      unfold T261_8
      refine ⟨fun _ => ⟨_, _, c25 H.toHas03 rest, t7 _ _ _ _ _ _ ?_⟩, fun h' => absurd h (of_decide_eq_false h')⟩
      unfold rdQ
      rw [if_neg h1, if_neg h3, if_neg h6, if_pos (.inl h)]
      exact ⟨rfl, by simp⟩
    · have h1 := of_decide_eq_false h1
      unfold T261_8
      refine ⟨fun h => ⟨_, _, c25 H.toHas03 rest, t7 _ _ _ _ _ _ ?_⟩, fun h => ⟨_, _, c267 H rest, t7 _ _ _ _ _ _ ?_⟩⟩
      · have h := of_decide_eq_true h
        unfold rdQ
        rw [if_neg h1, if_neg h3, if_neg h6, if_pos (.inr h)]
        exact ⟨rfl, by simp⟩
      · have h := of_decide_eq_false h
        unfold rdQ
        rw [if_neg h1, if_neg h3, if_neg h6, if_neg (by omega)]
        exact ⟨rfl, by simp⟩)
  exact h
theorem fin_chk {q b : Qry} {K : Int → Prop} (hb : bareQ q = b) (hk : 1 ≤ q.kind ∧ q.kind ≤ 8) (h : K (chkQ q)) :
    ((!(eqQ q b)) = true → K 8) ∧ ((!(eqQ q b)) = false → (q.g < 0 → K 8) ∧ (¬(q.g < 0) → (q.g ≥ 16 → K 8) ∧ (¬(q.g ≥ 16) → (q.k < 0 → K 8) ∧ (¬(q.k < 0) → (q.k ≥ 170 → K 8) ∧ (¬(q.k ≥ 170) → ((q.name.length : Int) > 16 → K 8) ∧ (¬((q.name.length : Int) > 16) → K 0)))))) := by
  have e : okQ q = (eqQ q b && rngQ q) := by unfold okQ; rw [decide_eq_true hk, hb]; rfl
  have no : okQ q = false → K 8 := fun h' => by unfold chkQ at h; rw [h'] at h; exact h
  refine ⟨fun h1 => no ?_, fun h1 => ?_⟩
  · rw [e, show eqQ q b = false by simpa using h1]; rfl
  have h1 : eqQ q b = true := by simpa using h1
  rw [h1, Bool.true_and] at e
  unfold rngQ at e
  refine ⟨fun h2 => no ?_, fun h2 => ⟨fun h3 => no ?_, fun h3 => ⟨fun h4 => no ?_, fun h4 => ⟨fun h5 => no ?_, fun h5 => ⟨fun h6 => no ?_, fun h6 => ?_⟩⟩⟩⟩⟩
  · rw [e, decide_eq_false (by omega)]; rfl
  · rw [e, decide_eq_false (by omega)]; rfl
  · rw [e, decide_eq_false (p := 0 ≤ q.k ∧ _) (by omega)]; simp
  · rw [e, decide_eq_false (p := 0 ≤ q.k ∧ _) (by omega)]; simp
  · rw [e, decide_eq_false (p := q.name.length ≤ 16) (by omega)]; simp
  · rw [decide_eq_true (by omega), decide_eq_true (by omega), decide_eq_true (by omega)] at e
    unfold chkQ at h
    rw [e] at h
    exact h
end
end Go.AM

/- Parts of the proof. -/
namespace Go.AM
open Go
theorem bare_1 {q : Qry} (h : q.kind = 1) : bareQ q = ⟨q.kind, 0, 0, 0, []⟩ := by unfold bareQ; rw [if_pos h]
theorem bare_3 {q : Qry} (h : q.kind = 3) : bareQ q = ⟨q.kind, q.g, q.k, 0, []⟩ := by unfold bareQ; rw [if_neg (by omega), if_pos h]
theorem bare_g {q : Qry} (h : q.kind = 2 ∨ q.kind = 4 ∨ q.kind = 5) : bareQ q = ⟨q.kind, q.g, 0, 0, []⟩ := by unfold bareQ; rw [if_neg (by omega), if_neg (by omega), if_pos h]
theorem bare_6 {q : Qry} (h : q.kind = 6) : bareQ q = ⟨q.kind, 0, 0, q.key, []⟩ := by unfold bareQ; rw [if_neg (by omega), if_neg (by omega), if_neg (by omega), if_pos h]
theorem bare_n {q : Qry} (h : q.kind = 7 ∨ q.kind = 8) : bareQ q = ⟨q.kind, 0, 0, 0, q.name⟩ := by unfold bareQ; rw [if_neg (by omega), if_neg (by omega), if_neg (by omega), if_neg (by omega)]
theorem chk_no {q : Qry} (h : ¬(1 ≤ q.kind ∧ q.kind ≤ 8)) : chkQ q = 8 := by unfold chkQ okQ; rw [decide_eq_false h]; rfl
section
variable {prog : Prog} (H : HasU prog)
include H
theorem c247 (q : Qry) : Pus prog 247 [q.av] (.i .i64 (chkQ q)) := by
  obtain ⟨x, rfl, h⟩ := p247 H.f247 (q0 := q) (K := fun x => x = chkQ q) (by
    have fin : ∀ b, bareQ q = b → 1 ≤ q.kind ∧ q.kind ≤ 8 → T247_3 prog (fun x => x = chkQ q) q b := fun b hb hk => by
      unfold T247_3
      exact fin_chk H (K := fun x => x = chkQ q) hb hk rfl
    have t4 : ∀ t, (t = true ↔ q.kind = 2 ∨ q.kind = 4 ∨ q.kind = 5) → q.kind ≠ 1 → q.kind ≠ 3 → T247_4 prog (fun x => x = chkQ q) q.kind t q ⟨q.kind, 0, 0, 0, []⟩ := fun t ht h1 h3 => by
      unfold T247_4 T247_5
      refine ⟨fun h => fin _ (bare_g (ht.1 h)) (by have := ht.1 h; omega), fun h => ?_⟩
      have hg : ¬(q.kind = 2 ∨ q.kind = 4 ∨ q.kind = 5) := fun h' => by rw [ht.2 h'] at h; cases h
      refine ⟨fun h6 => fin _ (bare_6 h6) (by omega), fun h6 => ⟨fun h7 => ⟨fun _ => fin _ (bare_n (.inl h7)) (by omega), fun h' => absurd h7 (of_decide_eq_false h')⟩, fun h7 => ⟨fun h' => fin _ (bare_n (.inr (of_decide_eq_true h'))) (by have := of_decide_eq_true h'; omega), fun h' => ?_⟩⟩⟩
      have h8 := of_decide_eq_false h'
      exact (chk_no (by omega)).symm
    unfold T247_0 T247_1 T247_2
    refine ⟨fun h => fin _ (bare_1 h) (by omega), fun h1 => ⟨fun h => fin _ (bare_3 h) (by omega), fun h3 => ⟨fun h => t4 _ (by rw [decide_eq_true_eq]; omega) h1 h3, fun h2 => ⟨fun h => t4 _ (by rw [decide_eq_true_eq]; omega) h1 h3, fun h4 => t4 _ (by rw [decide_eq_true_eq]; omega) h1 h3⟩⟩⟩⟩)
  exact h
theorem c248 (q : Qry) : Pus prog 248 [q.av] (.i .i64 (chkQ q)) := by
  obtain ⟨x, rfl, h⟩ := p248 H.f248 (q0 := q) (K := fun x => x = chkQ q) (by
    have fin : ∀ b, bareQ q = b → 1 ≤ q.kind ∧ q.kind ≤ 8 → T248_3 prog (fun x => x = chkQ q) q.kind q.g q.k q.key q.name b := fun b hb hk => by
      unfold T248_3
      exact fin_chk H (K := fun x => x = chkQ q) hb hk rfl
    have t4 : ∀ t, (t = true ↔ q.kind = 2 ∨ q.kind = 4 ∨ q.kind = 5) → q.kind ≠ 1 → T248_4 prog (fun x => x = chkQ q) q.kind q.g q.k q.key q.name q.kind t ⟨q.kind, 0, 0, 0, []⟩ := fun t ht h1 => by
      unfold T248_4 T248_5
      refine ⟨fun h => fin _ (bare_g (ht.1 h)) (by have := ht.1 h; omega), fun h => ?_⟩
      have hg : ¬(q.kind = 2 ∨ q.kind = 4 ∨ q.kind = 5) := fun h' => by rw [ht.2 h'] at h; cases h
      refine ⟨fun h3 => fin _ (bare_3 h3) (by omega), fun h3 => ⟨fun h6 => fin _ (bare_6 h6) (by omega), fun h6 => ⟨fun h7 => ⟨fun _ => fin _ (bare_n (.inl h7)) (by omega), fun h' => absurd h7 (of_decide_eq_false h')⟩, fun h7 => ⟨fun h' => fin _ (bare_n (.inr (of_decide_eq_true h'))) (by have := of_decide_eq_true h'; omega), fun h' => ?_⟩⟩⟩⟩
      have h8 := of_decide_eq_false h'
      exact (chk_no (by omega)).symm
    unfold T248_0 T248_1 T248_2
    refine ⟨fun h => fin _ (bare_1 h) (by omega), fun h1 => ⟨fun h => t4 _ (by rw [decide_eq_true_eq]; omega) h1, fun h2 => ⟨fun h => t4 _ (by rw [decide_eq_true_eq]; omega) h1, fun h4 => t4 _ (by rw [decide_eq_true_eq]; omega) h1⟩⟩⟩)
  exact h
theorem c243 {q : Qry} (hk : -9223372036854775808 ≤ q.key ∧ q.key < 9223372036854775808) : Pus prog 243 [q.av] (.tup [.s (txtQ q).1, .i .i64 (txtQ q).2]) := by
  obtain ⟨x, y, ⟨rfl, rfl⟩, h⟩ := p243 H.f243 (q0 := q) (K := fun x y => x = (txtQ q).1 ∧ y = (txtQ q).2) (by
    unfold T243_0 T243_1
    refine ⟨_, c247 H q, fun h => ?_, fun h => ?_⟩
    · have h' : ¬okQ q = true := fun e => h (chkQ_iff.2 e)
      unfold txtQ chkQ
      rw [if_neg h', if_neg h']
      exact ⟨rfl, rfl⟩
    have ho : okQ q = true := chkQ_iff.1 (Decidable.not_not.1 h)
    have et : txtQ q = (shownQ q, 0) := by unfold txtQ; rw [if_pos ho]
    rw [et]
    obtain ⟨k1, k8, _, hg, hk', hn⟩ := okQ_iff.1 ho
    have l1 := word_len (k := q.kind)
    have l2 := num_len q.g
    have l3 := num_len q.k
    have l4 := num_len q.key
    have l5 := quo_len q.name
    have t4 : ∀ t, q.kind ≠ 1 → q.kind ≠ 3 → q.kind ≠ 6 → (t = true ↔ q.kind = 7 ∨ q.kind = 8) → T243_4 prog (fun x y => x = shownQ q ∧ y = 0) (wordM q.kind) t q := fun t h1 h3 h6 ht => by
      unfold T243_4 T243_3
      have eq : quoR q.name = (quo q.name, 0) := by unfold quoR; rw [if_neg (by omega)]
      refine ⟨fun h => ⟨_, _, c11 H.toHas03 q.name, fun h' => ?_, fun _ => ⟨?_, ?_, ?_, rfl⟩⟩, fun h => ⟨_, c258 H (by omega) (by omega), ?_, ?_, ?_, rfl⟩⟩
      case refine_1 => rw [eq] at h'; exact absurd rfl h'
      case refine_4 =>
        have := ht.1 h
        unfold shownQ
        rw [if_neg h1, if_neg h3, if_neg h6, if_pos this, eq]
      case refine_7 =>
        have : ¬(q.kind = 7 ∨ q.kind = 8) := fun h' => by rw [ht.2 h'] at h; cases h
        unfold shownQ
        rw [if_neg h1, if_neg h3, if_neg h6, if_neg this]
      all_goals (rw [maxStr_eq]; (try rw [eq]); simp only [List.length_append, List.length_cons, List.length_nil]; omega)
    unfold T243_2
    refine ⟨fun h1 => ?_, fun h1 => ⟨fun h3 => ⟨_, c258 H (by omega) (by omega), ?_, ?_, _, c258 H (by omega) (by omega), ?_, ?_, ?_⟩, fun h3 => ⟨fun h6 => ⟨_, c15 H.toHas03 hk.1 hk.2, ?_, ?_, ?_⟩, fun h6 => ⟨fun h7 => t4 _ h1 h3 h6 (by rw [decide_eq_true_eq]; omega), fun h7 => t4 _ h1 h3 h6 (by rw [decide_eq_true_eq]; omega)⟩⟩⟩⟩
    case refine_1 =>
      unfold T243_3 shownQ
      rw [if_pos h1]
      exact ⟨rfl, rfl⟩
    case refine_6 =>
      unfold T243_3 shownQ
      rw [if_neg h1, if_pos h3]
      exact ⟨rfl, rfl⟩
    case refine_9 =>
      unfold T243_3 shownQ
      rw [if_neg h1, if_neg h3, if_pos h6]
      exact ⟨rfl, rfl⟩
    all_goals (rw [maxStr_eq]; simp only [List.length_append, List.length_cons, List.length_nil]; omega))
  exact h
theorem c245 (s : Bytes) : Pus prog 245 [.s s] (.tup [(rdTQ s).1.av, .i .i64 (rdTQ s).2]) := by
  obtain ⟨x, y, ⟨rfl, rfl⟩, h⟩ := p245 H.f245 (s0 := s) (K := fun x y => x = (rdTQ s).1 ∧ y = (rdTQ s).2) (by
    unfold T245_0
    refine ⟨fun h => ?_, fun h => ?_⟩
    · unfold rdTQ
      rw [if_pos (by omega)]
      exact ⟨rfl, rfl⟩
    have hl : ¬2000 < s.length := by omega
    have hr : (cutS s).2.1.length ≤ 1000000000 := by unfold cutS; split <;> simp <;> omega
    have no : ¬((gotQ s).2 = true ∧ okQ (gotQ s).1 = true ∧ shownQ (gotQ s).1 = s) → rdTQ s = (qz, 12) := fun h => by
      unfold rdTQ
      rw [if_neg hl, if_neg h]
    refine ⟨_, _, _, c260 H (by omega), _, c257 H, _, _, c261 H hr, fun h => ?_, fun h => ⟨_, _, c243 H (gotQ_key s), fun h' => ?_, fun h' => ⟨fun h2 => ?_, fun h2 => ?_⟩⟩⟩
    · have h : (!(gotQ s).2) = true := h
      rw [no fun h' => by rw [h'.1] at h; cases h]
      exact ⟨rfl, rfl⟩
    · have h' : (txtQ (gotQ s).1).2 ≠ 0 := h'
      rw [no fun h2 => by unfold txtQ at h'; rw [if_pos h2.2.1] at h'; exact h' rfl]
      exact ⟨rfl, rfl⟩
    · have h' : ¬(txtQ (gotQ s).1).2 ≠ 0 := h'
      have h2 : (txtQ (gotQ s).1).1 ≠ s := h2
      rw [no fun h3 => by unfold txtQ at h2; rw [if_pos h3.2.1] at h2; exact h2 h3.2.2]
      exact ⟨rfl, rfl⟩
    · have h : (!(gotQ s).2) = false := h
      have h' : ¬(txtQ (gotQ s).1).2 ≠ 0 := h'
      have h2 : ¬(txtQ (gotQ s).1).1 ≠ s := h2
      have ho : okQ (gotQ s).1 = true := by
        rcases Bool.eq_false_or_eq_true (okQ (gotQ s).1) with e | e
        · exact e
        · unfold txtQ at h'
          rw [e] at h'
          exact absurd (show (8 : Int) ≠ 0 by decide) h'
      unfold txtQ at h2
      rw [if_pos ho] at h2
      unfold rdTQ
      rw [if_neg hl, if_pos ⟨by simpa using h, ho, Decidable.not_not.1 h2⟩]
      exact ⟨rfl, rfl⟩)
  exact h
end
end Go.AM

/- Parts of the proof. -/
namespace Go.AM
open Go
section
variable {f : Bytes → Val × Bool × Bytes} {kind : Int} {e : UInt8}
end
theorem fine_ok {v : Val} (h : fine v = true) : okv 130 v = true ∧ v.nodes ≤ 5000 := by
  simpa [fine] using h
end Go.AM

/- Parts of the proof. -/
namespace Go.AM
open Go
theorem bv_split {x m c : BitVec 64} (h : x &&& ~~~m = c) : x = c ||| (x &&& m) := by
  subst h
  apply BitVec.eq_of_getLsbD_eq
  intro i hi
  simp only [BitVec.getLsbD_or, BitVec.getLsbD_and, BitVec.getLsbD_not, hi, decide_true, Bool.true_and]
  cases x.getLsbD i <;> cases m.getLsbD i <;> rfl
theorem bv_two (x : BitVec 64) (i : Nat) : x &&& BitVec.twoPow 64 i = BitVec.twoPow 64 i ∨ x &&& BitVec.twoPow 64 i = 0#64 := by
  rw [BitVec.and_twoPow]
  split
  · exact .inl rfl
  · exact .inr rfl
theorem wrap_toNat (x : BitVec 64) : IntKind.u64.wrap (x.toNat : Int) = (x.toNat : Int) := wr_u64_nat x.isLt
theorem ofInt_toNat {f : Int} (h : 0 ≤ f ∧ f < 18446744073709551616) : f = ((BitVec.ofInt 64 f).toNat : Int) := by
  rw [BitVec.toNat_ofInt]; omega
theorem flag2 {f : Int} (h : 0 ≤ f ∧ f < 18446744073709551616) : bAndNot .u64 f 4 = 2 ↔ f = 2 ∨ f = 6 := by
  constructor
  · intro h1
    have h1 : IntKind.u64.wrap ((BitVec.ofInt 64 f &&& ~~~(BitVec.ofInt 64 4)).toNat : Int) = 2 := h1
    rw [wrap_toNat] at h1
    have h2 : BitVec.ofInt 64 f &&& ~~~(BitVec.ofInt 64 4) = 2#64 := BitVec.eq_of_toNat_eq (by rw [show (2#64).toNat = 2 from rfl]; omega)
    have h3 := bv_split h2
    rw [show BitVec.ofInt 64 4 = BitVec.twoPow 64 2 from by decide] at h3
    rcases bv_two (BitVec.ofInt 64 f) 2 with h4 | h4 <;> rw [h4] at h3 <;> have h5 := ofInt_toNat h <;> rw [h3] at h5
    · exact .inr h5
    · exact .inl h5
  · rintro (rfl | rfl) <;> decide
theorem flag0 {f : Int} (h : 0 ≤ f ∧ f < 18446744073709551616) : bAndNot .u64 f 5 = 0 ↔ f = 0 ∨ f = 1 ∨ f = 4 ∨ f = 5 := by
  constructor
  · intro h1
    have h1 : IntKind.u64.wrap ((BitVec.ofInt 64 f &&& ~~~(BitVec.ofInt 64 5)).toNat : Int) = 0 := h1
    rw [wrap_toNat] at h1
    have h2 : BitVec.ofInt 64 f &&& ~~~(BitVec.ofInt 64 5) = 0#64 := BitVec.eq_of_toNat_eq (by rw [show (0#64).toNat = 0 from rfl]; omega)
    have h3 := bv_split h2
    have e : BitVec.ofInt 64 f &&& BitVec.ofInt 64 5 = (BitVec.ofInt 64 f &&& BitVec.twoPow 64 2) ||| (BitVec.ofInt 64 f &&& BitVec.twoPow 64 0) := by
      rw [show BitVec.ofInt 64 5 = BitVec.twoPow 64 2 ||| BitVec.twoPow 64 0 from by decide]
      apply BitVec.eq_of_getLsbD_eq
      intro i hi
      simp only [BitVec.getLsbD_or, BitVec.getLsbD_and]
      cases (BitVec.ofInt 64 f).getLsbD i <;> rfl
    rw [e] at h3
    have h5 := ofInt_toNat h
    rcases bv_two (BitVec.ofInt 64 f) 2 with h4 | h4 <;> rcases bv_two (BitVec.ofInt 64 f) 0 with h6 | h6 <;> rw [h4, h6] at h3 <;> rw [h3] at h5
    · exact .inr (.inr (.inr h5))
    · exact .inr (.inr (.inl h5))
    · exact .inr (.inl h5)
    · exact .inl h5
  · rintro (rfl | rfl | rfl | rfl) <;> decide
def tExit : Bytes := [101, 120, 105, 116]
def tPan : Bytes := [112, 97, 110, 105, 99, 32]
def tRec : Bytes := [32, 114, 101, 99, 111, 118, 101, 114, 101, 100]
def tAb : Bytes := [32, 97, 98, 111, 114, 116, 101, 100]
def tF1 : Bytes := [102, 97, 117, 108, 116, 32, 49, 58, 32, 100, 105, 118, 105, 115, 105, 111, 110, 32, 98, 121, 32, 122, 101, 114, 111]
def tF2 : Bytes := [102, 97, 117, 108, 116, 32, 50, 58, 32, 110, 105, 108, 32, 112, 111, 105, 110, 116, 101, 114]
def tF3 : Bytes := [102, 97, 117, 108, 116, 32, 51, 58, 32, 111, 117, 116, 32, 111, 102, 32, 114, 97, 110, 103, 101]
def faultT (n : Int) : Bytes := if n = 1 then tF1 else if n = 2 then tF2 else if n = 3 then tF3 else []
def kindT (t : Int) : Int := if t = 1 then 2 else if t = 2 then 1 else if t = 3 then 3 else if t = 4 then 2 else 0
structure WfP (p : Pan) : Prop where
  t : 0 ≤ p.tag ∧ p.tag < 18446744073709551616
  v : Wf p.value
  f : 0 ≤ p.flags ∧ p.flags < 18446744073709551616
def isZ (v : Val) : Bool := decide (v.kind = 0) && decide (v.int = 0) && decide (v.text = []) && decide (v.list.length = 0) && !v.cut
theorem isZ_true {v : Val} : isZ v = true ↔ v = vz := by
  unfold isZ
  simp only [Bool.and_eq_true, decide_eq_true_eq, Bool.not_eq_true', and_assoc, List.length_eq_zero_iff]
  cases v with
  | mk k n s l c => simp
def okP (p : Pan) : Bool := decide (p.tag ≤ 4) && decide (p.value.kind = kindT p.tag) && (if p.tag = 0 then isZ p.value && decide (p.flags = 2 ∨ p.flags = 6)
  else decide (p.flags = 0 ∨ p.flags = 1 ∨ p.flags = 4 ∨ p.flags = 5) && decide (p.tag = 4 → 1 ≤ p.value.int ∧ p.value.int ≤ 3) && fine p.value)
def chkP (p : Pan) : Int := if okP p = true then 0 else 8
def baseP (p : Pan) : Bytes := if p.tag = 0 then tExit else if p.tag = 4 then faultT p.value.int else tPan ++ txt p.value
def sufP (f : Int) : Bytes := (if f % 2 = 1 then tRec else []) ++ (if 4 ≤ f then tAb else [])
def shown (p : Pan) : Bytes := baseP p ++ sufP p.flags
def lnP (p : Pan) : Bytes × Int := if okP p = true then (shown p, 0) else ([], 8)
end Go.AM

/- Parts of the proof. -/
namespace Go.AM
open Go
theorem okP_flags {p : Pan} (h : okP p = true) : (p.tag = 0 ∧ p.value = vz ∧ (p.flags = 2 ∨ p.flags = 6)) ∨ (p.tag ≠ 0 ∧ fine p.value = true ∧ (p.flags = 0 ∨ p.flags = 1 ∨ p.flags = 4 ∨ p.flags = 5)) := by
  unfold okP at h
  simp only [Bool.and_eq_true, decide_eq_true_eq] at h
  obtain ⟨⟨h1, h2⟩, h3⟩ := h
  by_cases t0 : p.tag = 0
  · rw [if_pos t0] at h3
    simp only [Bool.and_eq_true, decide_eq_true_eq] at h3
    exact .inl ⟨t0, isZ_true.1 h3.1, h3.2⟩
  · rw [if_neg t0] at h3
    simp only [Bool.and_eq_true, decide_eq_true_eq] at h3
    exact .inr ⟨t0, h3.2, h3.1.1⟩
theorem txt_small {v : Val} (h : fine v = true) (hk : v.kind = 1 ∨ v.kind = 2 ∨ v.kind = 3) : (txt v).length ≤ 300 := by
  have h7 := okv_head (fine_ok h).1
  unfold Val.okh Okh at h7
  have h8 := num_len v.int
  have h9 := quo_len v.text
  rw [txt_eq]
  rcases hk with h | h | h <;> rw [h]
  · rw [if_pos rfl]; split <;> decide
  · show (num v.int).length ≤ 300; omega
  · show (quo v.text).length ≤ 300; omega
theorem okP_kind {p : Pan} (h : okP p = true) (h0 : p.tag ≠ 0) : p.value.kind = 1 ∨ p.value.kind = 2 ∨ p.value.kind = 3 := by
  have hf : fine p.value = true := by rcases okP_flags h with h | h; exact absurd h.1 h0; exact h.2.1
  unfold okP at h
  simp only [Bool.and_eq_true, decide_eq_true_eq] at h
  have h2 := h.1.2
  have h7 := okv_head (fine_ok hf).1
  unfold Val.okh Okh at h7
  unfold kindT at h2
  repeat' split at h2
  all_goals omega
theorem shown_len {p : Pan} (h : okP p = true) : (shown p).length ≤ 400 := by
  have hs : (sufP p.flags).length ≤ 18 := by unfold sufP; split <;> split <;> decide
  have hb : (baseP p).length ≤ 310 := by
    unfold baseP
    by_cases t0 : p.tag = 0
    · rw [if_pos t0]; decide
    rw [if_neg t0]
    split
    · unfold faultT; repeat' split
      all_goals decide
    · have hf : fine p.value = true := by rcases okP_flags h with h | h; exact absurd h.1 t0; exact h.2.1
      have := txt_small hf (okP_kind h t0)
      rw [List.length_append, show tPan.length = 6 from rfl]; omega
  unfold shown
  rw [List.length_append]; omega
end Go.AM

/- Parts of the proof. -/
namespace Go.AM
open Go
structure Has38 (prog : Prog) : Prop extends Has03 prog, HasB prog where
  f72 : prog.fn 72 = some pf72
  f76 : prog.fn 76 = some pf76
  f104 : prog.fn 104 = some pf104
  f109 : prog.fn 109 = some pf109
section
variable {prog : Prog} (H : Has38 prog)
include H
end
end Go.AM
