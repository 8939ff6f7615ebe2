/- Parts of the proof: U38g, U38h, K67, C30, C30b, V38b, V38c, C38, C38b, C38c. -/
import Derived.Test.YtcojcdpoeaaigaaG2
import Derived.Test.YtcojcdpoeaaigaaRows
import Derived.Test.YtcojcdpoeaaigaaG3
import Derived.Test.YtcojcdpoeaaigaaG4
import Derived.Test.YtcojcdpoeaaigaaG5
import Derived.Test.YtcojcdpoeaaigaaG6
import Derived.Shelf.Strings.Builder1
set_option linter.all false
/- Parts of the proof. -/
namespace Go.AM
open Go
set_option linter.unusedVariables false
set_option linter.unusedSimpArgs false
set_option maxRecDepth 4000
attribute [local irreducible] WO fillCells fillRows
def r85_0:List AI:=[oO 2 (.box 3 (.t 0)),
 oC 4 (.i .i64 0),
 oO 5 (.alloc [.i .i64 0,.i .i64 0,.i .u64 0,.sl .full []]),
 oC 6 (.i .i64 0)]
def r85_1:List AI:=[oM 14 1,
 oO 15 (.len false (.t 14)),
 oB 16 .gtr (.t 15) (.c (.i .i64 17))]
def r85_2:List AI:=[oO 17 (.build [.i .i64 0,.i .i64 0,.i .u64 0,.sl .full []] []),
 oC 4 (.i .i64 0),
 oS 4 5 17,
 oC 6 (.i .i64 4)]
def r85_3:List AI:=[oC 7 (.i .i64 0)]
def r85_4:List AI:=[oM 18 7,
 oM 19 1,
 oO 20 (.len false (.t 19)),
 oB 21 .lss (.t 18) (.t 20)]
def r85_5:List AI:=[oM 24 1,
 oM 25 7,
 oO 26 (.iaL 1 (.t 24) (.t 25)),
 oL 27 26,
 oO 28 (.len true (.t 27)),
 oB 29 .gtr (.t 28) (.c (.i .i64 1400060))]
def r85_6:List AI:=[oO 30 (.build [.i .i64 0,.i .i64 0,.i .u64 0,.sl .full []] []),
 oC 4 (.i .i64 0),
 oS 4 5 30,
 oC 6 (.i .i64 4)]
def r85_7:List AI:=[oM 22 7,
 oB 23 .add (.t 22) (.c (.i .i64 1)),
 oM 7 23]
def r85_8:List AI:=[oM 31 1,
 oO 32 (.len false (.t 31)),
 oB 33 .eql (.t 32) (.c (.i .i64 0))]
def r85_9:List AI:=[oO 34 (.build [.i .i64 0,.i .i64 0,.i .u64 0,.sl .full []] []),
 oC 4 (.i .i64 0),
 oS 4 5 34,
 oC 6 (.i .i64 12)]
def r85_10:List AI:=[oO 36 (.load 3 true (.t 2)),
 oM 37 1,
 oO 38 (.iaL 1 (.t 37) (.c (.i .i64 0))),
 oL 39 38,
 oO 40 (.call true 120 [(.t 36),(.t 39)]),
 oM 35 40,
 oE 41 0 35,
 oE 42 1 35,
 oE 43 2 35,
 oO 9 (.alloc [.i .i64 0,.i .i64 0,.i .u64 0,.sl .full []]),
 oM 8 41,
 oS 4 9 42,
 oM 10 43]
def r85_11:List AI:=[oM 44 10,
 oO 45 (.un .not (.t 44))]
def r85_12:List AI:=[oO 46 (.build [.i .i64 0,.i .i64 0,.i .u64 0,.sl .full []] []),
 oC 4 (.i .i64 0),
 oS 4 5 46,
 oC 6 (.i .i64 12)]
def r85_13:List AI:=[oC 11 (.i .i64 1)]
def r85_14:List AI:=[oM 47 11,
 oM 48 1,
 oO 49 (.len false (.t 48)),
 oB 50 .lss (.t 47) (.t 49)]
def r85_15:List AI:=[oF 54 2 2,
 oL 55 54,
 oF 56 0 9,
 oL 57 56,
 oO 58 (.iaL 7 (.t 55) (.t 57)),
 oO 59 (.load 7 true (.t 58)),
 oM 60 1,
 oM 61 11,
 oO 62 (.iaL 1 (.t 60) (.t 61)),
 oL 63 62,
 oO 64 (.call false 121 [(.t 59),(.t 63)]),
 oM 53 64,
 oE 65 0 53,
 oE 66 1 53,
 oO 12 (.alloc [.i .i64 0,.i .u8 0,.i .i64 0,.s [],.sl .full [],.b false]),
 oS 6 12 65,
 oM 13 66]
def r85_16:List AI:=[oM 67 13,
 oO 68 (.un .not (.t 67))]
def r85_17:List AI:=[oO 69 (.build [.i .i64 0,.i .i64 0,.i .u64 0,.sl .full []] []),
 oC 4 (.i .i64 0),
 oS 4 5 69,
 oC 6 (.i .i64 12)]
def r85_18:List AI:=[oF 70 3 9,
 oL 71 70,
 oO 72 (.load 6 true (.t 12)),
 oO 73 (.bslice [.i .i64 0,.i .u8 0,.i .i64 0,.s [],.sl .full [],.b false] 1 [(0,(.t 72))]),
 oO 74 (.app 6 72 (.t 71) (.t 73)),
 oF 75 3 9,
 oS 1 75 74]
def r85_19:List AI:=[oM 51 11,
 oB 52 .add (.t 51) (.c (.i .i64 1)),
 oM 11 52]
def r85_20:List AI:=[oO 76 (.load 3 true (.t 2)),
 oO 77 (.load 4 true (.t 9)),
 oO 78 (.call false 87 [(.t 76),(.t 77)]),
 oB 79 .neq (.t 78) (.c (.i .i64 0)),
 oM 80 79,
 oG 81 (.load 3 true (.t 2)) 80 false,
 oG 82 (.mv (.t 8)) 80 false,
 oG 83 (.load 4 true (.t 9)) 80 false,
 oG 84 (.call false 114 [(.t 81),(.t 82),(.t 83)]) 80 false,
 oG 85 (.mv (.t 1)) 80 false,
 oG 86 (.call false 29 [(.t 84),(.t 85)]) 80 false,
 oG 87 (.un .not (.t 86)) 80 false,
 oO 88 (.pick (.t 80) (.c (.b true)) (.t 87))]
def r85_21:List AI:=[oO 89 (.build [.i .i64 0,.i .i64 0,.i .u64 0,.sl .full []] []),
 oC 4 (.i .i64 0),
 oS 4 5 89,
 oC 6 (.i .i64 12)]
def r85_22:List AI:=[oM 90 8,
 oO 91 (.load 4 true (.t 9)),
 oM 4 90,
 oS 4 5 91,
 oC 6 (.i .i64 0)]
abbrev l85_0:AC:=(.seq (.seq (.reg 4 r85_4) (.cond (.t 21) .skip (.exit 0))) (.seq (.block 1 (.seq (.reg 6 r85_5) (.cond (.t 29) (.seq (.reg 7 r85_6) .ret) .skip))) (.reg 5 r85_7)))
abbrev l85_1:AC:=(.seq (.seq (.reg 14 r85_14) (.cond (.t 50) .skip (.exit 2))) (.seq (.block 3 (.seq (.reg 16 r85_15) (.seq (.seq (.reg 17 r85_16) (.cond (.t 68) (.seq (.reg 18 r85_17) .ret) .skip)) (.reg 19 r85_18)))) (.reg 15 r85_19)))
abbrev c85_2:AC:=(.cond (.t 88) (.seq (.reg 21 r85_21) .ret) .skip)
abbrev c85_3:AC:=(.seq (.reg 22 r85_22) .ret)
abbrev c85_4:AC:=(.seq (.seq (.reg 20 r85_20) c85_2) c85_3)
abbrev c85_5:AC:=(.seq (.seq (.reg 11 r85_11) (.cond (.t 45) (.seq (.reg 12 r85_12) .ret) .skip)) (.seq (.seq (.reg 13 r85_13) (.block 2 (.loop l85_1))) c85_4))
abbrev c85_6:AC:=(.seq (.reg 10 r85_10) c85_5)
abbrev c85_7:AC:=(.seq (.seq (.reg 8 r85_8) (.cond (.t 33) (.seq (.reg 9 r85_9) .ret) .skip)) c85_6)
abbrev c85_8:AC:=(.seq (.seq (.reg 3 r85_3) (.block 0 (.loop l85_0))) c85_7)
abbrev c85_9:AC:=(.seq (.seq (.reg 1 r85_1) (.cond (.t 16) (.seq (.reg 2 r85_2) .ret) .skip)) c85_8)
abbrev b85:AC:=(.seq (.reg 0 r85_0) c85_9)
def pf85:AF:={ nt:=92,res:=[.tmp 4,.cell 5 4 true,.tmp 6],body:=b85 }
abbrev H85 (Q:AE→Sl→St→Prop)(K:Int→Frm→Int→Prop):Prop:=∀(σ:Sl)(st:St)(k1:Key)(v1:Nat)(o1_0:Own)(res0:Int)(res1:Frm)(res2:Int),σ 4 = .i .i64 res0→σ 5 = .p k1 v1 0→lk st.bx k1 = some (v1,[.i .i64 res1.func,.i .i64 res1.pos,.i .u64 res1.mode,.sl o1_0 (List.map Loc.row res1.locals)])→σ 6 = .i .i64 res2→K res0 res1 res2→Q .ret σ st
abbrev I85_0 (prog:Prog)(d:Nat)(Q:AE→Sl→St→Prop)(l1:List (List UInt8))(i7:Int)(m0:Img)(m2:Frm):Prop:=
  ∀(σ:Sl)(st:St) (o_l1 o_m2_3:Own) (v0 v2:Nat),σ 1 = .sl o_l1 (List.map rowS l1)→σ 2 = .p (d,0) v0 0→σ 5 = .p (d,2) v2 0→σ 7 = .i .i64 i7→lk st.bx (d,0) = some (v0,[.sl .ext (List.map Typ.row m0.types),.sl .ext (List.map rowS m0.texts),.sl .ext (List.map Fun.row m0.funcs)])→lk st.bx (d,2) = some (v2,[.i .i64 m2.func,.i .i64 m2.pos,.i .u64 m2.mode,.sl o_m2_3 (List.map Loc.row m2.locals)])→W prog d (.loop l85_0) σ st (blockW 0 (thenW prog d c85_7 Q))
abbrev I85_1 (prog:Prog)(d:Nat)(Q:AE→Sl→St→Prop)(l1:List (List UInt8))(k8:Int)(i11:Int)(m0:Img)(m2:Frm)(m40969:Frm):Prop:=
  ∀(σ:Sl)(st:St) (o_l1 o_m2_3 o_m40969_3:Own) (v0 v2 v40969:Nat),σ 1 = .sl o_l1 (List.map rowS l1)→σ 2 = .p (d,0) v0 0→σ 5 = .p (d,2) v2 0→σ 8 = .i .i64 k8→σ 9 = .p (d,40969) v40969 0→σ 11 = .i .i64 i11→ApM d st.ow o_m40969_3 m40969.locals.length→lk st.bx (d,0) = some (v0,[.sl .ext (List.map Typ.row m0.types),.sl .ext (List.map rowS m0.texts),.sl .ext (List.map Fun.row m0.funcs)])→lk st.bx (d,2) = some (v2,[.i .i64 m2.func,.i .i64 m2.pos,.i .u64 m2.mode,.sl o_m2_3 (List.map Loc.row m2.locals)])→lk st.bx (d,40969) = some (v40969,[.i .i64 m40969.func,.i .i64 m40969.pos,.i .u64 m40969.mode,.sl o_m40969_3 (List.map Loc.row m40969.locals)])→W prog d (.loop l85_1) σ st (blockW 2 (thenW prog d c85_4 Q))
def T85_10 (prog:Prog)(K:Int→Frm→Int→Prop)(k8:Int)(m2:Frm)(m40969:Frm):Prop:=
  K k8 m40969 0
def T85_9 (prog:Prog)(K:Int→Frm→Int→Prop)(k8:Int)(t88:Bool)(m2:Frm)(m40969:Frm):Prop:=
  (t88 = true→K 0 (Frm.mk 0 0 0 ([]:List Loc)) 12)∧(t88 = false→T85_10 prog K k8 m2 m40969)
def T85_8 (prog:Prog)(K:Int→Frm→Int→Prop)(l1:List (List UInt8))(k8:Int)(m0:Img)(m2:Frm)(m40969:Frm):Prop:=
  ∃r'1:Int,Pus prog 87 [m0.av,m40969.av] (.i .i64 r'1)∧(r'1≠0→T85_9 prog K k8 true m2 m40969)∧(¬(r'1≠0)→∃r'4:List (List UInt8),Pus prog 114 [m0.av,.i .i64 k8,m40969.av] (.sl .ext (List.map rowS r'4))∧∃r'6:Bool,Pus prog 29 [.sl .ext (List.map rowS r'4),.sl .ext (List.map rowS l1)] (.b r'6)∧T85_9 prog K k8 (!r'6) m2 m40969)
def T85_7 (prog:Prog)(K:Int→Frm→Int→Prop)(P1:Int→Img→Frm→Frm→Prop)(l1:List (List UInt8))(k8:Int)(i11:Int)(m0:Img)(m2:Frm)(m40969:Frm):Prop:=
  (i11 < (l1.length:Int)→0≤m40969.func∧∃c'2:Fun,m0.funcs[(m40969.func).toNat]? = some c'2∧0≤i11∧∃c'4:List UInt8,l1[(i11).toNat]? = some c'4∧∃r'6:Loc,∃r'7:Bool,Pus prog 121 [c'2.av,.s c'4] (.tup [r'6.av,.b r'7])∧((!r'7) = true→K 0 (Frm.mk 0 0 0 ([]:List Loc)) 12)∧((!r'7) = false→Fit (m40969.locals.length + [r'6].length) 72∧P1 (IntKind.i64.wrap (i11 + 1)) m0 m2 (Frm.mk m40969.func m40969.pos m40969.mode (m40969.locals ++ [r'6]))))∧(¬(i11 < (l1.length:Int))→T85_8 prog K l1 k8 m0 m2 m40969)
def T85_6 (prog:Prog)(K:Int→Frm→Int→Prop)(l1:List (List UInt8))(k8:Int)(ok10:Bool)(m0:Img)(m2:Frm)(m40969:Frm):Prop:=
  ((!ok10) = true→K 0 (Frm.mk 0 0 0 ([]:List Loc)) 12)∧((!ok10) = false→∀P1:Int→Img→Frm→Frm→Prop,(∀(i11:Int)(m0:Img)(m2:Frm)(m40969:Frm),T85_7 prog K P1 l1 k8 i11 m0 m2 m40969→P1 i11 m0 m2 m40969)→P1 1 m0 m2 m40969)
def T85_5 (prog:Prog)(K:Int→Frm→Int→Prop)(l1:List (List UInt8))(m0:Img)(m2:Frm):Prop:=
  ∃c'1:List UInt8,l1[0]? = some c'1∧∃r'3:Int,∃r'4:Frm,∃r'5:Bool,(PuN prog 120 [m0.av,.s c'1] (fun r=>r = .tup [.i .i64 r'3,r'4.avo .full,.b r'5]))∧T85_6 prog K l1 r'3 r'5 m0 m2 r'4
def T85_4 (prog:Prog)(K:Int→Frm→Int→Prop)(l1:List (List UInt8))(m0:Img)(m2:Frm):Prop:=
  ((l1.length:Int) = 0→K 0 (Frm.mk 0 0 0 ([]:List Loc)) 12)∧(¬((l1.length:Int) = 0)→T85_5 prog K l1 m0 m2)
def T85_3 (prog:Prog)(K:Int→Frm→Int→Prop)(P0:Int→Img→Frm→Prop)(l1:List (List UInt8))(i7:Int)(m0:Img)(m2:Frm):Prop:=
  (i7 < (l1.length:Int)→0≤i7∧∃c'2:List UInt8,l1[(i7).toNat]? = some c'2∧((c'2.length:Int) > 1400060→K 0 (Frm.mk 0 0 0 ([]:List Loc)) 4)∧(¬((c'2.length:Int) > 1400060)→P0 (IntKind.i64.wrap (i7 + 1)) m0 m2))∧(¬(i7 < (l1.length:Int))→T85_4 prog K l1 m0 m2)
def T85_2 (prog:Prog)(K:Int→Frm→Int→Prop)(l1:List (List UInt8))(m0:Img)(m2:Frm):Prop:=
  ∀P0:Int→Img→Frm→Prop,(∀(i7:Int)(m0:Img)(m2:Frm),T85_3 prog K P0 l1 i7 m0 m2→P0 i7 m0 m2)→P0 0 m0 m2
def T85_1 (prog:Prog)(K:Int→Frm→Int→Prop)(l1:List (List UInt8))(m0:Img)(m2:Frm):Prop:=
  ((l1.length:Int) > 17→K 0 (Frm.mk 0 0 0 ([]:List Loc)) 4)∧(¬((l1.length:Int) > 17)→T85_2 prog K l1 m0 m2)
def T85_0 (prog:Prog)(K:Int→Frm→Int→Prop)(m0:Img)(l1:List (List UInt8)):Prop:=
  T85_1 prog K l1 m0 (Frm.mk 0 0 0 ([]:List Loc))
section
variable {prog:Prog}{d:Nat}{Q:AE→Sl→St→Prop}{K:Int→Frm→Int→Prop}(hQ:H85 Q K){σ:Sl}{st:St}
include hQ
theorem w85_10 {k8:Int}{m2 m40969:Frm}{o_m2_3 o_m40969_3:Own}{v2:Nat}{v40969:Nat}(H5:σ 5 = .p (d,2) v2 0)(H8:σ 8 = .i .i64 k8)(H9:σ 9 = .p (d,40969) v40969 0)(Ab40969:ApM d st.ow o_m40969_3 m40969.locals.length)(B2:lk st.bx (d,2) = some (v2,[.i .i64 m2.func,.i .i64 m2.pos,.i .u64 m2.mode,.sl o_m2_3 (List.map Loc.row m2.locals)]))(B40969:lk st.bx (d,40969) = some (v40969,[.i .i64 m40969.func,.i .i64 m40969.pos,.i .u64 m40969.mode,.sl o_m40969_3 (List.map Loc.row m40969.locals)]))(h:T85_10 prog K k8 m2 m40969):W prog d c85_3 σ st Q:=
 q_ rfl (m_ (l_ H9 B40969 rfl rfl (m_ (so_ H5 B2 rfl rfl rfl (m_ (e_ (rt_ (hQ _ _ _ _ _ _ _ _ H8 H5 lk_here rfl h))))))))
theorem w85_9 {k8:Int}{t88:Bool}{m2 m40969:Frm}{o_m2_3 o_m40969_3:Own}{v2:Nat}{v40969:Nat}(H5:σ 5 = .p (d,2) v2 0)(H8:σ 8 = .i .i64 k8)(H9:σ 9 = .p (d,40969) v40969 0)(H88:σ 88 = .b t88)(Ab40969:ApM d st.ow o_m40969_3 m40969.locals.length)(B2:lk st.bx (d,2) = some (v2,[.i .i64 m2.func,.i .i64 m2.pos,.i .u64 m2.mode,.sl o_m2_3 (List.map Loc.row m2.locals)]))(B40969:lk st.bx (d,40969) = some (v40969,[.i .i64 m40969.func,.i .i64 m40969.pos,.i .u64 m40969.mode,.sl o_m40969_3 (List.map Loc.row m40969.locals)]))(h:T85_9 prog K k8 t88 m2 m40969):W prog d c85_2 σ st (thenW prog d c85_3 Q):=
 cb_ H88 (fun g'1=>q_ rfl (s_build f_nil (m_ (so_ H5 B2 rfl rfl rfl (m_ (e_ (rt_ (hQ _ _ _ _ _ _ _ _ rfl H5 lk_here rfl (h.1 g'1))))))))) (fun g'1=>sk_ (w85_10 hQ H5 H8 H9 Ab40969 B2 B40969 (h.2 g'1)))
theorem w85_8 {l1:List (List UInt8)}{k8:Int}{m0:Img}{m2 m40969:Frm}{o_l1 o_m2_3 o_m40969_3:Own}{v0:Nat}{v2:Nat}{v40969:Nat}(H1:σ 1 = .sl o_l1 (List.map rowS l1))(H2:σ 2 = .p (d,0) v0 0)(H5:σ 5 = .p (d,2) v2 0)(H8:σ 8 = .i .i64 k8)(H9:σ 9 = .p (d,40969) v40969 0)(Ab40969:ApM d st.ow o_m40969_3 m40969.locals.length)(B0:lk st.bx (d,0) = some (v0,[.sl .ext (List.map Typ.row m0.types),.sl .ext (List.map rowS m0.texts),.sl .ext (List.map Fun.row m0.funcs)]))(B2:lk st.bx (d,2) = some (v2,[.i .i64 m2.func,.i .i64 m2.pos,.i .u64 m2.mode,.sl o_m2_3 (List.map Loc.row m2.locals)]))(B40969:lk st.bx (d,40969) = some (v40969,[.i .i64 m40969.func,.i .i64 m40969.pos,.i .u64 m40969.mode,.sl o_m40969_3 (List.map Loc.row m40969.locals)]))(h:T85_8 prog K l1 k8 m0 m2 m40969):W prog d c85_4 σ st Q:=
 sq_ (q_ rfl (l_ H2 B0 rfl rfl (l_ H9 B40969 rfl rfl (h.elim fun r'1 e'2=>ca_ (sc rfl rfl (sc rfl rfl sn)) e'2.1 (b_ rfl rfl neq_ (s_mvB rfl (em_ (g:=80) rfl (fun g'3=>gn_ (b:=true) rfl rfl (gn_ (b:=true) rfl rfl (gn_ (b:=true) rfl rfl (gn_ (b:=true) rfl rfl (gn_ (b:=true) rfl rfl (gn_ (b:=true) rfl rfl (gn_ (b:=true) rfl rfl (pt_ rfl rfl (e_ (w85_9 hQ H5 H8 H9 rfl Ab40969 B2 B40969 (e'2.2.1 g'3))))))))))) (fun g'3=>gy_ rfl (l_ H2 B0 rfl rfl (gy_ rfl (s_mvI H8 (gy_ rfl (l_ H9 B40969 rfl rfl (gy_ rfl ((e'2.2.2 g'3).elim fun r'4 e'5=>ca_ (sc rfl rfl (sc rfl rfl (sc rfl rfl sn))) e'5.1 (gy_ rfl (s_mvL H1 (gy_ rfl (e'5.2.elim fun r'6 e'7=>ca_ (sc rfl rfl (sc rfl rfl sn)) e'7.1 (gy_ rfl (nt_ rfl (pf_ rfl rfl (e_ (w85_9 hQ H5 H8 H9 rfl Ab40969 B2 B40969 e'7.2))))))))))))))))))))))))
theorem w85_7 {l1:List (List UInt8)}{k8 i11:Int}{m0:Img}{m2 m40969:Frm}{P1:Int→Img→Frm→Frm→Prop} (kP1 :∀(i11:Int)(m0:Img)(m2:Frm)(m40969:Frm),P1 i11 m0 m2 m40969→I85_1 prog d Q l1 k8 i11 m0 m2 m40969){o_l1 o_m2_3 o_m40969_3:Own}{v0:Nat}{v2:Nat}{v40969:Nat}(H1:σ 1 = .sl o_l1 (List.map rowS l1))(H2:σ 2 = .p (d,0) v0 0)(H5:σ 5 = .p (d,2) v2 0)(H8:σ 8 = .i .i64 k8)(H9:σ 9 = .p (d,40969) v40969 0)(H11:σ 11 = .i .i64 i11)(Ab40969:ApM d st.ow o_m40969_3 m40969.locals.length)(B0:lk st.bx (d,0) = some (v0,[.sl .ext (List.map Typ.row m0.types),.sl .ext (List.map rowS m0.texts),.sl .ext (List.map Fun.row m0.funcs)]))(B2:lk st.bx (d,2) = some (v2,[.i .i64 m2.func,.i .i64 m2.pos,.i .u64 m2.mode,.sl o_m2_3 (List.map Loc.row m2.locals)]))(B40969:lk st.bx (d,40969) = some (v40969,[.i .i64 m40969.func,.i .i64 m40969.pos,.i .u64 m40969.mode,.sl o_m40969_3 (List.map Loc.row m40969.locals)]))(h:T85_7 prog K P1 l1 k8 i11 m0 m2 m40969):W prog d l85_1 σ st (thenW prog d (.loop l85_1) (blockW 2 (thenW prog d c85_4 Q))):=
 sq_ (q_ rfl (m_ (s_mvL H1 (ll_ rfl (b_ H11 rfl lss_ (e_ (cs_ rfl (fun g'1=>sk_ (sq_ (bk_ (sq_ (W.reg (f_ H2 (l_ rfl (lk_other rfl B0) rfl rfl (f_ H9 (l_ rfl (lk_other rfl B40969) rfl rfl ((h.1 g'1).2.elim fun c'2 e'3=>ia_ rfl rfl (h.1 g'1).1 e'3.1 (Fun.row_eq c'2) rfl (lf_ rfl rfl rfl (s_mvL H1 (m_ (e'3.2.2.elim fun c'4 e'5=>ia_ rfl H11 e'3.2.1 e'5.1 rfl rfl (lf_ rfl rfl rfl (e'5.2.elim fun r'6 e'15=>e'15.elim fun r'7 e'8=>ca_ (sc rfl rfl (sc rfl rfl sn)) e'8.1 (m_ (x_ rfl rfl (x_ rfl rfl (s_alloc (so_ rfl (show lk _ (d,65550) = some (_,([.i .i64 0,.i .u8 0,.i .i64 0,.s [],.sl .full (List.map Val.row ([]:List Val)),.b false]:List AV)) from lk_here) rfl rfl rfl (m_ (e_ (sq_ (q_ rfl (m_ (nt_ rfl (e_ (cb_ rfl (fun g'9=>q_ rfl (s_build f_nil (m_ (so_ H5 (lk_other rfl (lk_other rfl B2)) rfl rfl rfl (m_ (e_ (rt_ (hQ _ _ _ _ _ _ _ _ rfl H5 lk_here rfl (e'8.2.1 g'9))))))))) (fun g'9=>sk_ (W.reg0 rfl fun _ _=>f_ H9 (l_ rfl (lk_other rfl (lk_other rfl B40969)) rfl rfl (l_ rfl lk_here rfl rfl (s_bslM (f:=Loc.row) (l:=[r'6]) rfl rfl (g_cons rfl rfl rfl g_nil) (by simp only [List.map_cons,List.map_nil,Loc.row_eq]; rfl) (s_app Loc.row_len rfl rfl rfl Ab40969.1 (e'8.2.2 g'9).1 rfl (fun o'10 ow'13 a'11 fr'12 on'14=>f_ H9 (so_ rfl (lk_other rfl (lk_other rfl B40969)) rfl rfl rfl (e_ (W.reg0 rfl fun _ _=>m_ (b_ H11 rfl add_ (m_ (e_ (kP1 _ _ _ _ (e'8.2.2 g'9).2 _ _ _ _ _ _ _ _ H1 H2 H5 H8 H9 rfl (ApM.mk a'11 (Mine.app Ab40969.2 rfl on'14)) (lk_other rfl (lk_other rfl (lk_other rfl B0))) (lk_other rfl (lk_other rfl (lk_other rfl B2))) lk_here))))))))))))))))))))))))))))))))))))))))))) (fun g'1=>ex_ (w85_8 hQ H1 H2 H5 H8 H9 Ab40969 B0 B2 B40969 (h.2 g'1))))))))))
theorem w85_6 {l1:List (List UInt8)}{k8:Int}{ok10:Bool}{m0:Img}{m2 m40969:Frm}{o_l1 o_m2_3 o_m40969_3:Own}{v0:Nat}{v2:Nat}{v40969:Nat}(H1:σ 1 = .sl o_l1 (List.map rowS l1))(H2:σ 2 = .p (d,0) v0 0)(H5:σ 5 = .p (d,2) v2 0)(H8:σ 8 = .i .i64 k8)(H9:σ 9 = .p (d,40969) v40969 0)(H10:σ 10 = .b ok10)(Ab40969:ApM d st.ow o_m40969_3 m40969.locals.length)(B0:lk st.bx (d,0) = some (v0,[.sl .ext (List.map Typ.row m0.types),.sl .ext (List.map rowS m0.texts),.sl .ext (List.map Fun.row m0.funcs)]))(B2:lk st.bx (d,2) = some (v2,[.i .i64 m2.func,.i .i64 m2.pos,.i .u64 m2.mode,.sl o_m2_3 (List.map Loc.row m2.locals)]))(B40969:lk st.bx (d,40969) = some (v40969,[.i .i64 m40969.func,.i .i64 m40969.pos,.i .u64 m40969.mode,.sl o_m40969_3 (List.map Loc.row m40969.locals)]))(h:T85_6 prog K l1 k8 ok10 m0 m2 m40969):W prog d c85_5 σ st Q:=
 sq_ (q_ rfl (m_ (nt_ H10 (e_ (cb_ rfl (fun g'1=>q_ rfl (s_build f_nil (m_ (so_ H5 B2 rfl rfl rfl (m_ (e_ (rt_ (hQ _ _ _ _ _ _ _ _ rfl H5 lk_here rfl (h.1 g'1))))))))) (fun g'1=>sk_ (sq_ (q_ rfl (m_ (e_ (bk_ ((h.2 g'1) (I85_1 prog d Q l1 k8) (fun _ _ _ _ hb _ _ _ _ _ _ _ _ H1 H2 H5 H8 H9 H11 Ab40969 B0 B2 B40969=>W.loop (w85_7 hQ (fun _ _ _ _ x=>x) H1 H2 H5 H8 H9 H11 Ab40969 B0 B2 B40969 hb)) _ _ _ _ _ _ _ _ H1 H2 H5 H8 H9 rfl Ab40969 B0 B2 B40969))))))))))))
theorem w85_5 {l1:List (List UInt8)}{m0:Img}{m2:Frm}{o_l1 o_m2_3:Own}{v0:Nat}{v2:Nat}(H1:σ 1 = .sl o_l1 (List.map rowS l1))(H2:σ 2 = .p (d,0) v0 0)(H5:σ 5 = .p (d,2) v2 0)(B0:lk st.bx (d,0) = some (v0,[.sl .ext (List.map Typ.row m0.types),.sl .ext (List.map rowS m0.texts),.sl .ext (List.map Fun.row m0.funcs)]))(B2:lk st.bx (d,2) = some (v2,[.i .i64 m2.func,.i .i64 m2.pos,.i .u64 m2.mode,.sl o_m2_3 (List.map Loc.row m2.locals)]))(h:T85_5 prog K l1 m0 m2):W prog d c85_6 σ st Q:=
 sq_ (W.reg (l_ H2 (lk_other rfl B0) rfl rfl (s_mvL H1 (h.elim fun c'1 e'2=>ia_ rfl rfl (by decide) e'2.1 rfl rfl (lf_ rfl rfl rfl (e'2.2.elim fun r'3 e'9=>e'9.elim fun r'4 e'10=>e'10.elim fun r'5 e'6=>s_callN (sec rfl (sec rfl sen)) (e'6.1) (fun st'7 hf'8=>m_ (x_ rfl rfl (x_ rfl rfl (x_ rfl rfl (s_alloc (m_ (so_ rfl ((hf'8.1 (d,40969) (Nat.lt_succ_self d) key_dn).trans (show lk _ (d,40969) = some (_,([.i .i64 0,.i .i64 0,.i .u64 0,.sl .full (List.map Loc.row ([]:List Loc))]:List AV)) from lk_here)) rfl rfl rfl (m_ (e_ (w85_6 hQ H1 H2 H5 rfl rfl rfl ApM.full (lk_other rfl ((hf'8.1 (d,0) (Nat.lt_succ_self d) key_dn).trans (lk_other rfl B0))) (lk_other rfl ((hf'8.1 (d,2) (Nat.lt_succ_self d) key_dn).trans (lk_other rfl B2))) lk_here e'6.2))))))))))))))))
theorem w85_4 {l1:List (List UInt8)}{m0:Img}{m2:Frm}{o_l1 o_m2_3:Own}{v0:Nat}{v2:Nat}(H1:σ 1 = .sl o_l1 (List.map rowS l1))(H2:σ 2 = .p (d,0) v0 0)(H5:σ 5 = .p (d,2) v2 0)(B0:lk st.bx (d,0) = some (v0,[.sl .ext (List.map Typ.row m0.types),.sl .ext (List.map rowS m0.texts),.sl .ext (List.map Fun.row m0.funcs)]))(B2:lk st.bx (d,2) = some (v2,[.i .i64 m2.func,.i .i64 m2.pos,.i .u64 m2.mode,.sl o_m2_3 (List.map Loc.row m2.locals)]))(h:T85_4 prog K l1 m0 m2):W prog d c85_7 σ st Q:=
 sq_ (q_ rfl (s_mvL H1 (ll_ rfl (b_ rfl rfl eql_ (e_ (cs_ rfl (fun g'1=>q_ rfl (s_build f_nil (m_ (so_ H5 B2 rfl rfl rfl (m_ (e_ (rt_ (hQ _ _ _ _ _ _ _ _ rfl H5 lk_here rfl (h.1 g'1))))))))) (fun g'1=>sk_ (w85_5 hQ H1 H2 H5 B0 B2 (h.2 g'1)))))))))
theorem w85_3 {l1:List (List UInt8)}{i7:Int}{m0:Img}{m2:Frm}{P0:Int→Img→Frm→Prop} (kP0 :∀(i7:Int)(m0:Img)(m2:Frm),P0 i7 m0 m2→I85_0 prog d Q l1 i7 m0 m2){o_l1 o_m2_3:Own}{v0:Nat}{v2:Nat}(H1:σ 1 = .sl o_l1 (List.map rowS l1))(H2:σ 2 = .p (d,0) v0 0)(H5:σ 5 = .p (d,2) v2 0)(H7:σ 7 = .i .i64 i7)(B0:lk st.bx (d,0) = some (v0,[.sl .ext (List.map Typ.row m0.types),.sl .ext (List.map rowS m0.texts),.sl .ext (List.map Fun.row m0.funcs)]))(B2:lk st.bx (d,2) = some (v2,[.i .i64 m2.func,.i .i64 m2.pos,.i .u64 m2.mode,.sl o_m2_3 (List.map Loc.row m2.locals)]))(h:T85_3 prog K P0 l1 i7 m0 m2):W prog d l85_0 σ st (thenW prog d (.loop l85_0) (blockW 0 (thenW prog d c85_7 Q))):=
 sq_ (q_ rfl (m_ (s_mvL H1 (ll_ rfl (b_ H7 rfl lss_ (e_ (cs_ rfl (fun g'1=>sk_ (sq_ (bk_ (q_ rfl (s_mvL H1 (m_ ((h.1 g'1).2.elim fun c'2 e'3=>ia_ rfl H7 (h.1 g'1).1 e'3.1 rfl rfl (lf_ rfl rfl rfl (ln_ rfl (b_ rfl rfl gtr_ (e_ (cs_ rfl (fun g'4=>q_ rfl (s_build f_nil (m_ (so_ H5 B2 rfl rfl rfl (m_ (e_ (rt_ (hQ _ _ _ _ _ _ _ _ rfl H5 lk_here rfl (e'3.2.1 g'4))))))))) (fun g'4=>sk_ (W.reg0 rfl fun _ _=>m_ (b_ H7 rfl add_ (m_ (e_ (kP0 _ _ _ (e'3.2.2 g'4) _ _ _ _ _ _ H1 H2 H5 rfl B0 B2)))))))))))))))))) (fun g'1=>ex_ (w85_4 hQ H1 H2 H5 B0 B2 (h.2 g'1))))))))))
theorem w85_2 {l1:List (List UInt8)}{m0:Img}{m2:Frm}{o_l1 o_m2_3:Own}{v0:Nat}{v2:Nat}(H1:σ 1 = .sl o_l1 (List.map rowS l1))(H2:σ 2 = .p (d,0) v0 0)(H5:σ 5 = .p (d,2) v2 0)(B0:lk st.bx (d,0) = some (v0,[.sl .ext (List.map Typ.row m0.types),.sl .ext (List.map rowS m0.texts),.sl .ext (List.map Fun.row m0.funcs)]))(B2:lk st.bx (d,2) = some (v2,[.i .i64 m2.func,.i .i64 m2.pos,.i .u64 m2.mode,.sl o_m2_3 (List.map Loc.row m2.locals)]))(h:T85_2 prog K l1 m0 m2):W prog d c85_8 σ st Q:=
 sq_ (q_ rfl (m_ (e_ (bk_ (h (I85_0 prog d Q l1) (fun _ _ _ hb _ _ _ _ _ _ H1 H2 H5 H7 B0 B2=>W.loop (w85_3 hQ (fun _ _ _ x=>x) H1 H2 H5 H7 B0 B2 hb)) _ _ _ _ _ _ H1 H2 H5 rfl B0 B2)))))
theorem w85_1 {l1:List (List UInt8)}{m0:Img}{m2:Frm}{o_l1 o_m2_3:Own}{v0:Nat}{v2:Nat}(H1:σ 1 = .sl o_l1 (List.map rowS l1))(H2:σ 2 = .p (d,0) v0 0)(H5:σ 5 = .p (d,2) v2 0)(B0:lk st.bx (d,0) = some (v0,[.sl .ext (List.map Typ.row m0.types),.sl .ext (List.map rowS m0.texts),.sl .ext (List.map Fun.row m0.funcs)]))(B2:lk st.bx (d,2) = some (v2,[.i .i64 m2.func,.i .i64 m2.pos,.i .u64 m2.mode,.sl o_m2_3 (List.map Loc.row m2.locals)]))(h:T85_1 prog K l1 m0 m2):W prog d c85_9 σ st Q:=
 sq_ (q_ rfl (s_mvL H1 (ll_ rfl (b_ rfl rfl gtr_ (e_ (cs_ rfl (fun g'1=>q_ rfl (s_build f_nil (m_ (so_ H5 B2 rfl rfl rfl (m_ (e_ (rt_ (hQ _ _ _ _ _ _ _ _ rfl H5 lk_here rfl (h.1 g'1))))))))) (fun g'1=>sk_ (w85_2 hQ H1 H2 H5 B0 B2 (h.2 g'1)))))))))
theorem w85_0 {m0:Img}{l1:List (List UInt8)}{o_l1:Own}(H0:σ 0 = m0.av)(H1:σ 1 = .sl o_l1 (List.map rowS l1))(h:T85_0 prog K m0 l1):W prog d (.seq (.reg 0 r85_0) c85_9) σ st Q:=
 sq_ (W.reg (s_box H0 rfl (m_ (s_alloc (m_ (e_ (w85_1 (m2:=(Frm.mk 0 0 0 ([]:List Loc))) hQ H1 rfl rfl lk_here (lk_other rfl (show lk _ (d,2) = some (_,([.i .i64 0,.i .i64 0,.i .u64 0,.sl .full (List.map Loc.row ([]:List Loc))]:List AV)) from lk_here)) h)))))))
end
theorem p85 {prog:Prog}(hf:prog.fn 85 = some pf85){m0:Img}{l1:List (List UInt8)}{K:Int→Frm→Int→Prop}(h:T85_0 prog K m0 l1) :∃res0:Int,∃res1:Frm,∃res2:Int,K res0 res1 res2∧Pus prog 85 [m0.av,.sl .ext (List.map rowS l1)] (.tup [.i .i64 res0,res1.av,.i .i64 res2]):=by
  obtain ⟨v,hv,res0,res1,res2,hk,rfl⟩:=Pus.of (K:=fun v=>∃res0:Int,∃res1:Frm,∃res2:Int,K res0 res1 res2∧v = .tup [.i .i64 res0,res1.av,.i .i64 res2]) hf rfl (w85_0 (σ:=sl0 [m0.av,.sl .ext (List.map rowS l1)]) (fun σ st k1 v1 o1_0 res0 res1 res2 H4 H5 HB5 H6 hk=>⟨.tup [.i .i64 res0,res1.avo o1_0,.i .i64 res2],by simp only [pf85,ares,aresL,H4,ares_cellA (n:=4) H5 HB5 rfl,H6,ares_tmp,Option.map_some],_,rfl,res0,res1,res2,hk,rfl⟩) rfl rfl h)
  exact ⟨res0,res1,res2,hk,hv⟩
def r120_0:List AI:=[oO 2 (.box 3 (.t 0)),
 oC 4 (.i .i64 0),
 oO 5 (.alloc [.i .i64 0,.i .i64 0,.i .u64 0,.sl .full []]),
 oC 6 (.b false)]
def r120_1:List AI:=[oO 7 (.alloc [.i .i64 0,.i .i64 0,.i .u64 0,.sl .full []])]
def r120_2:List AI:=[oM 16 1,
 oO 17 (.call false 142 [(.t 16),(.c (.s [35]))]),
 oM 15 17,
 oE 18 0 15,
 oE 19 1 15,
 oM 1 18,
 oM 8 19]
def r120_3:List AI:=[oM 20 8,
 oO 21 (.un .not (.t 20))]
def r120_4:List AI:=[oO 22 (.load 4 true (.t 7)),
 oC 4 (.i .i64 0),
 oS 4 5 22,
 oC 6 (.b false)]
def r120_5:List AI:=[oM 24 1,
 oO 25 (.call false 143 [(.t 24),(.c (.i .i64 169))]),
 oM 23 25,
 oE 26 0 23,
 oE 27 1 23,
 oE 28 2 23,
 oM 9 26,
 oM 1 27,
 oM 8 28]
def r120_6:List AI:=[oM 30 1,
 oO 31 (.call false 142 [(.t 30),(.c (.s [32]))]),
 oM 29 31,
 oE 32 0 29,
 oE 33 1 29,
 oM 1 32,
 oM 10 33]
def r120_7:List AI:=[oM 35 1,
 oF 36 2 2,
 oL 37 36,
 oO 38 (.len false (.t 37)),
 oB 39 .sub (.t 38) (.c (.i .i64 1)),
 oO 40 (.call false 143 [(.t 35),(.t 39)]),
 oM 34 40,
 oE 41 0 34,
 oE 42 1 34,
 oE 43 2 34,
 oM 11 41,
 oM 1 42,
 oM 12 43]
def r120_8:List AI:=[oM 44 8,
 oO 45 (.un .not (.t 44)),
 oM 46 45,
 oG 47 (.mv (.t 10)) 46 false,
 oG 48 (.un .not (.t 47)) 46 false,
 oO 49 (.pick (.t 46) (.c (.b true)) (.t 48)),
 oM 50 49,
 oG 51 (.mv (.t 12)) 50 false,
 oG 52 (.un .not (.t 51)) 50 false,
 oO 53 (.pick (.t 50) (.c (.b true)) (.t 52))]
def r120_9:List AI:=[oO 54 (.load 4 true (.t 7)),
 oC 4 (.i .i64 0),
 oS 4 5 54,
 oC 6 (.b false)]
def r120_10:List AI:=[oM 56 1,
 oF 57 2 2,
 oL 58 57,
 oM 59 11,
 oO 60 (.iaL 7 (.t 58) (.t 59)),
 oF 61 0 60,
 oL 62 61,
 oO 63 (.call false 31 [(.t 62)]),
 oB 64 .add (.c (.s [32])) (.t 63),
 oB 65 .add (.t 64) (.c (.s [32,97,116,32])),
 oO 66 (.call false 142 [(.t 56),(.t 65)]),
 oM 55 66,
 oE 67 0 55,
 oE 68 1 55,
 oM 1 67,
 oM 8 68]
def r120_11:List AI:=[oM 70 1,
 oF 71 2 2,
 oL 72 71,
 oM 73 11,
 oO 74 (.iaL 7 (.t 72) (.t 73)),
 oF 75 4 74,
 oL 76 75,
 oO 77 (.len false (.t 76)),
 oB 78 .sub (.t 77) (.c (.i .i64 1)),
 oO 79 (.call false 143 [(.t 70),(.t 78)]),
 oM 69 79,
 oE 80 0 69,
 oE 81 1 69,
 oE 82 2 69,
 oM 13 80,
 oM 1 81,
 oM 10 82]
def r120_12:List AI:=[oM 83 8,
 oO 84 (.un .not (.t 83)),
 oM 85 84,
 oG 86 (.mv (.t 10)) 85 false,
 oG 87 (.un .not (.t 86)) 85 false,
 oO 88 (.pick (.t 85) (.c (.b true)) (.t 87))]
def r120_13:List AI:=[oO 89 (.load 4 true (.t 7)),
 oC 4 (.i .i64 0),
 oS 4 5 89,
 oC 6 (.b false)]
def r120_14:List AI:=[oC 14 (.i .u64 0)]
def r120_15:List AI:=[oM 90 14,
 oB 91 .lss (.t 90) (.c (.i .u64 4))]
def r120_16:List AI:=[oM 94 1,
 oM 95 14,
 oO 96 (.call false 138 [(.t 95)]),
 oB 97 .add (.c (.s [32])) (.t 96),
 oB 98 .eql (.t 94) (.t 97)]
def r120_17:List AI:=[oM 99 9,
 oM 100 11,
 oM 101 13,
 oM 102 14,
 oO 103 (.build [.i .i64 0,.i .i64 0,.i .u64 0,.sl .full []] [(0,1,(.t 100)),(1,1,(.t 101)),(2,1,(.t 102))]),
 oM 4 99,
 oS 4 5 103,
 oC 6 (.b true)]
def r120_18:List AI:=[oM 92 14,
 oB 93 .add (.t 92) (.c (.i .u64 1)),
 oM 14 93]
def r120_19:List AI:=[oO 104 (.load 4 true (.t 7)),
 oC 4 (.i .i64 0),
 oS 4 5 104,
 oC 6 (.b false)]
abbrev c120_0:AC:=(.cond (.t 53) (.seq (.reg 9 r120_9) .ret) .skip)
abbrev c120_1:AC:=(.cond (.t 88) (.seq (.reg 13 r120_13) .ret) .skip)
abbrev l120_0:AC:=(.seq (.seq (.reg 15 r120_15) (.cond (.t 91) .skip (.exit 0))) (.seq (.block 1 (.seq (.reg 17 r120_16) (.cond (.t 98) (.seq (.reg 18 r120_17) .ret) .skip))) (.reg 16 r120_18)))
abbrev c120_3:AC:=(.seq (.reg 19 r120_19) .ret)
abbrev c120_4:AC:=(.seq (.seq (.reg 14 r120_14) (.block 0 (.loop l120_0))) c120_3)
abbrev c120_5:AC:=(.seq (.reg 10 r120_10) (.seq (.reg 11 r120_11) (.seq (.seq (.reg 12 r120_12) c120_1) c120_4)))
abbrev c120_6:AC:=(.seq (.seq (.reg 8 r120_8) c120_0) c120_5)
abbrev c120_7:AC:=(.seq (.reg 7 r120_7) c120_6)
abbrev c120_8:AC:=(.seq (.reg 6 r120_6) c120_7)
abbrev c120_9:AC:=(.seq (.reg 5 r120_5) c120_8)
abbrev c120_10:AC:=(.seq (.seq (.reg 3 r120_3) (.cond (.t 21) (.seq (.reg 4 r120_4) .ret) .skip)) c120_9)
abbrev c120_11:AC:=(.seq (.reg 2 r120_2) c120_10)
abbrev c120_12:AC:=(.seq (.reg 1 r120_1) c120_11)
abbrev b120:AC:=(.seq (.reg 0 r120_0) c120_12)
def pf120:AF:={ nt:=105,res:=[.tmp 4,.cell 5 4 true,.tmp 6],body:=b120 }
abbrev H120 (d:Nat)(st0:St)(Q:AE→Sl→St→Prop)(K:Int→Frm→Bool→Prop):Prop:=∀(σ:Sl)(st:St)(k1:Key)(v1:Nat)(res0:Int)(res1:Frm)(res2:Bool),σ 4 = .i .i64 res0→σ 5 = .p k1 v1 0→lk st.bx k1 = some (v1,[.i .i64 res1.func,.i .i64 res1.pos,.i .u64 res1.mode,.sl .full (List.map Loc.row res1.locals)])→σ 6 = .b res2→Fr d (d,0) st0.bx st0.ow st.bx st.ow→K res0 res1 res2→Q .ret σ st
abbrev I120_0 (prog:Prog)(d:Nat)(Q:AE→Sl→St→Prop)(st0:St)(s1:List UInt8)(k9:Int)(f11:Int)(at13:Int)(i14:Int)(m2:Frm)(m4096:Frm):Prop:=
  ∀(σ:Sl)(st:St) (v2 v4096:Nat),σ 1 = .s s1→σ 5 = .p (d,2) v2 0→σ 7 = .p (d,4096) v4096 0→σ 9 = .i .i64 k9→σ 11 = .i .i64 f11→σ 13 = .i .i64 at13→σ 14 = .i .u64 i14→lk st.bx (d,2) = some (v2,[.i .i64 m2.func,.i .i64 m2.pos,.i .u64 m2.mode,.sl .full (List.map Loc.row m2.locals)])→lk st.bx (d,4096) = some (v4096,[.i .i64 m4096.func,.i .i64 m4096.pos,.i .u64 m4096.mode,.sl .full (List.map Loc.row m4096.locals)])→Fr d (d,0) st0.bx st0.ow st.bx st.ow→W prog d (.loop l120_0) σ st (blockW 0 (thenW prog d c120_3 Q))
def T120_13 (prog:Prog)(K:Int→Frm→Bool→Prop)(m2:Frm)(m4096:Frm):Prop:=
  K 0 m4096 false
def T120_12 (prog:Prog)(K:Int→Frm→Bool→Prop)(P0:Int→Frm→Frm→Prop)(s1:List UInt8)(k9:Int)(f11:Int)(at13:Int)(i14:Int)(m2:Frm)(m4096:Frm):Prop:=
  (i14 < 4→∃r'2:List UInt8,Pus prog 138 [.i .u64 i14] (.s r'2)∧([32]:List UInt8).length + r'2.length≤maxStr∧(s1 = (([32]:List UInt8) ++ r'2)→K k9 (Frm.mk f11 at13 i14 ([]:List Loc)) true)∧(¬(s1 = (([32]:List UInt8) ++ r'2))→P0 (IntKind.u64.wrap (i14 + 1)) m2 m4096))∧(¬(i14 < 4)→T120_13 prog K m2 m4096)
def T120_11 (prog:Prog)(K:Int→Frm→Bool→Prop)(s1:List UInt8)(k9:Int)(f11:Int)(at13:Int)(m2:Frm)(m4096:Frm):Prop:=
  ∀P0:Int→Frm→Frm→Prop,(∀(i14:Int)(m2:Frm)(m4096:Frm),T120_12 prog K P0 s1 k9 f11 at13 i14 m2 m4096→P0 i14 m2 m4096)→P0 0 m2 m4096
def T120_10 (prog:Prog)(K:Int→Frm→Bool→Prop)(s1:List UInt8)(k9:Int)(f11:Int)(at13:Int)(t88:Bool)(m2:Frm)(m4096:Frm):Prop:=
  (t88 = true→K 0 m4096 false)∧(t88 = false→T120_11 prog K s1 k9 f11 at13 m2 m4096)
def T120_9 (prog:Prog)(K:Int→Frm→Bool→Prop)(s1:List UInt8)(k9:Int)(f11:Int)(m0:Img)(m2:Frm)(m4096:Frm):Prop:=
  0≤f11∧∃c'1:Fun,m0.funcs[(f11).toNat]? = some c'1∧∃r'3:List UInt8,Pus prog 31 [.s c'1.name] (.s r'3)∧([32]:List UInt8).length + r'3.length≤maxStr∧(([32]:List UInt8) ++ r'3).length + ([32,97,116,32]:List UInt8).length≤maxStr∧∃r'5:List UInt8,∃r'6:Bool,Pus prog 142 [.s s1,.s ((([32]:List UInt8) ++ r'3) ++ ([32,97,116,32]:List UInt8))] (.tup [.s r'5,.b r'6])∧0≤f11∧∃c'8:Fun,m0.funcs[(f11).toNat]? = some c'8∧∃r'10:Int,∃r'11:List UInt8,∃r'12:Bool,Pus prog 143 [.s r'5,.i .i64 (IntKind.i64.wrap ((c'8.code.length:Int) - 1))] (.tup [.i .i64 r'10,.s r'11,.b r'12])∧((!r'6) = true→T120_10 prog K r'11 k9 f11 r'10 true m2 m4096)∧((!r'6) = false→T120_10 prog K r'11 k9 f11 r'10 (!r'12) m2 m4096)
def T120_8 (prog:Prog)(K:Int→Frm→Bool→Prop)(s1:List UInt8)(k9:Int)(f11:Int)(t53:Bool)(m0:Img)(m2:Frm)(m4096:Frm):Prop:=
  (t53 = true→K 0 m4096 false)∧(t53 = false→T120_9 prog K s1 k9 f11 m0 m2 m4096)
def T120_7 (prog:Prog)(K:Int→Frm→Bool→Prop)(s1:List UInt8)(ok8:Bool)(k9:Int)(is10:Bool)(f11:Int)(has12:Bool)(m0:Img)(m2:Frm)(m4096:Frm):Prop:=
  ((!ok8) = true→T120_8 prog K s1 k9 f11 true m0 m2 m4096)∧((!ok8) = false→((!is10) = true→T120_8 prog K s1 k9 f11 true m0 m2 m4096)∧((!is10) = false→T120_8 prog K s1 k9 f11 (!has12) m0 m2 m4096))
def T120_6 (prog:Prog)(K:Int→Frm→Bool→Prop)(s1:List UInt8)(ok8:Bool)(k9:Int)(is10:Bool)(m0:Img)(m2:Frm)(m4096:Frm):Prop:=
  ∃r'1:Int,∃r'2:List UInt8,∃r'3:Bool,Pus prog 143 [.s s1,.i .i64 (IntKind.i64.wrap ((m0.funcs.length:Int) - 1))] (.tup [.i .i64 r'1,.s r'2,.b r'3])∧T120_7 prog K r'2 ok8 k9 is10 r'1 r'3 m0 m2 m4096
def T120_5 (prog:Prog)(K:Int→Frm→Bool→Prop)(s1:List UInt8)(ok8:Bool)(k9:Int)(m0:Img)(m2:Frm)(m4096:Frm):Prop:=
  ∃r'1:List UInt8,∃r'2:Bool,Pus prog 142 [.s s1,.s ([32]:List UInt8)] (.tup [.s r'1,.b r'2])∧T120_6 prog K r'1 ok8 k9 r'2 m0 m2 m4096
def T120_4 (prog:Prog)(K:Int→Frm→Bool→Prop)(s1:List UInt8)(m0:Img)(m2:Frm)(m4096:Frm):Prop:=
  ∃r'1:Int,∃r'2:List UInt8,∃r'3:Bool,Pus prog 143 [.s s1,.i .i64 169] (.tup [.i .i64 r'1,.s r'2,.b r'3])∧T120_5 prog K r'2 r'3 r'1 m0 m2 m4096
def T120_3 (prog:Prog)(K:Int→Frm→Bool→Prop)(s1:List UInt8)(ok8:Bool)(m0:Img)(m2:Frm)(m4096:Frm):Prop:=
  ((!ok8) = true→K 0 m4096 false)∧((!ok8) = false→T120_4 prog K s1 m0 m2 m4096)
def T120_2 (prog:Prog)(K:Int→Frm→Bool→Prop)(s1:List UInt8)(m0:Img)(m2:Frm)(m4096:Frm):Prop:=
  ∃r'1:List UInt8,∃r'2:Bool,Pus prog 142 [.s s1,.s ([35]:List UInt8)] (.tup [.s r'1,.b r'2])∧T120_3 prog K r'1 r'2 m0 m2 m4096
def T120_1 (prog:Prog)(K:Int→Frm→Bool→Prop)(s1:List UInt8)(m0:Img)(m2:Frm):Prop:=
  T120_2 prog K s1 m0 m2 (Frm.mk 0 0 0 ([]:List Loc))
def T120_0 (prog:Prog)(K:Int→Frm→Bool→Prop)(m0:Img)(s1:List UInt8):Prop:=
  T120_1 prog K s1 m0 (Frm.mk 0 0 0 ([]:List Loc))
section
variable {prog:Prog}{d:Nat}{Q:AE→Sl→St→Prop}{K:Int→Frm→Bool→Prop}{st0:St}(hQ:H120 d st0 Q K){σ:Sl}{st:St}
include hQ
theorem w120_13 {m2 m4096:Frm}{v2:Nat}{v4096:Nat}(H5:σ 5 = .p (d,2) v2 0)(H7:σ 7 = .p (d,4096) v4096 0)(B2:lk st.bx (d,2) = some (v2,[.i .i64 m2.func,.i .i64 m2.pos,.i .u64 m2.mode,.sl .full (List.map Loc.row m2.locals)]))(B4096:lk st.bx (d,4096) = some (v4096,[.i .i64 m4096.func,.i .i64 m4096.pos,.i .u64 m4096.mode,.sl .full (List.map Loc.row m4096.locals)]))(FR:Fr d (d,0) st0.bx st0.ow st.bx st.ow)(h:T120_13 prog K m2 m4096):W prog d c120_3 σ st Q:=
 q_ rfl (l_ H7 B4096 rfl rfl (m_ (so_ H5 B2 rfl rfl rfl (m_ (e_ (rt_ (hQ _ _ _ _ _ _ _ rfl H5 lk_here rfl (Fr.box FR) h)))))))
theorem w120_12 {s1:List UInt8}{k9 f11 at13 i14:Int}{m2 m4096:Frm}{P0:Int→Frm→Frm→Prop} (kP0 :∀(i14:Int)(m2:Frm)(m4096:Frm),P0 i14 m2 m4096→I120_0 prog d Q st0 s1 k9 f11 at13 i14 m2 m4096){v2:Nat}{v4096:Nat}(H1:σ 1 = .s s1)(H5:σ 5 = .p (d,2) v2 0)(H7:σ 7 = .p (d,4096) v4096 0)(H9:σ 9 = .i .i64 k9)(H11:σ 11 = .i .i64 f11)(H13:σ 13 = .i .i64 at13)(H14:σ 14 = .i .u64 i14)(B2:lk st.bx (d,2) = some (v2,[.i .i64 m2.func,.i .i64 m2.pos,.i .u64 m2.mode,.sl .full (List.map Loc.row m2.locals)]))(B4096:lk st.bx (d,4096) = some (v4096,[.i .i64 m4096.func,.i .i64 m4096.pos,.i .u64 m4096.mode,.sl .full (List.map Loc.row m4096.locals)]))(FR:Fr d (d,0) st0.bx st0.ow st.bx st.ow)(h:T120_12 prog K P0 s1 k9 f11 at13 i14 m2 m4096):W prog d l120_0 σ st (thenW prog d (.loop l120_0) (blockW 0 (thenW prog d c120_3 Q))):=
 sq_ (q_ rfl (m_ (b_ H14 rfl lss_ (e_ (cs_ rfl (fun g'1=>sk_ (sq_ (bk_ (q_ rfl (m_ (m_ ((h.1 g'1).elim fun r'2 e'3=>ca_ (sc H14 rfl sn) e'3.1 (b_ rfl rfl (abin_cat' e'3.2.1) (b_ H1 rfl seq_ (e_ (cs_ rfl (fun g'4=>q_ rfl (m_ (m_ (m_ (m_ (s_build (f_cons H11 rfl (f_cons H13 rfl (f_cons H14 rfl f_nil))) (m_ (so_ H5 B2 rfl rfl rfl (m_ (e_ (rt_ (hQ _ _ _ _ _ _ _ H9 H5 lk_here rfl (Fr.box FR) (e'3.2.2.1 g'4))))))))))))) (fun g'4=>sk_ (W.reg0 rfl fun _ _=>m_ (b_ H14 rfl add_ (m_ (e_ (kP0 _ _ _ (e'3.2.2.2 g'4) _ _ _ _ H1 H5 H7 H9 H11 H13 rfl B2 B4096 FR))))))))))))))))) (fun g'1=>ex_ (w120_13 hQ H5 H7 B2 B4096 FR (h.2 g'1))))))))
theorem w120_11 {s1:List UInt8}{k9 f11 at13:Int}{m2 m4096:Frm}{v2:Nat}{v4096:Nat}(H1:σ 1 = .s s1)(H5:σ 5 = .p (d,2) v2 0)(H7:σ 7 = .p (d,4096) v4096 0)(H9:σ 9 = .i .i64 k9)(H11:σ 11 = .i .i64 f11)(H13:σ 13 = .i .i64 at13)(B2:lk st.bx (d,2) = some (v2,[.i .i64 m2.func,.i .i64 m2.pos,.i .u64 m2.mode,.sl .full (List.map Loc.row m2.locals)]))(B4096:lk st.bx (d,4096) = some (v4096,[.i .i64 m4096.func,.i .i64 m4096.pos,.i .u64 m4096.mode,.sl .full (List.map Loc.row m4096.locals)]))(FR:Fr d (d,0) st0.bx st0.ow st.bx st.ow)(h:T120_11 prog K s1 k9 f11 at13 m2 m4096):W prog d c120_4 σ st Q:=
 sq_ (q_ rfl (m_ (e_ (bk_ (h (I120_0 prog d Q st0 s1 k9 f11 at13) (fun _ _ _ hb _ _ _ _ H1 H5 H7 H9 H11 H13 H14 B2 B4096 FR=>W.loop (w120_12 hQ (fun _ _ _ x=>x) H1 H5 H7 H9 H11 H13 H14 B2 B4096 FR hb)) _ _ _ _ H1 H5 H7 H9 H11 H13 rfl B2 B4096 FR)))))
theorem w120_10 {s1:List UInt8}{k9 f11 at13:Int}{t88:Bool}{m2 m4096:Frm}{v2:Nat}{v4096:Nat}(H1:σ 1 = .s s1)(H5:σ 5 = .p (d,2) v2 0)(H7:σ 7 = .p (d,4096) v4096 0)(H9:σ 9 = .i .i64 k9)(H11:σ 11 = .i .i64 f11)(H13:σ 13 = .i .i64 at13)(H88:σ 88 = .b t88)(B2:lk st.bx (d,2) = some (v2,[.i .i64 m2.func,.i .i64 m2.pos,.i .u64 m2.mode,.sl .full (List.map Loc.row m2.locals)]))(B4096:lk st.bx (d,4096) = some (v4096,[.i .i64 m4096.func,.i .i64 m4096.pos,.i .u64 m4096.mode,.sl .full (List.map Loc.row m4096.locals)]))(FR:Fr d (d,0) st0.bx st0.ow st.bx st.ow)(h:T120_10 prog K s1 k9 f11 at13 t88 m2 m4096):W prog d c120_1 σ st (thenW prog d c120_4 Q):=
 cb_ H88 (fun g'1=>q_ rfl (l_ H7 B4096 rfl rfl (m_ (so_ H5 B2 rfl rfl rfl (m_ (e_ (rt_ (hQ _ _ _ _ _ _ _ rfl H5 lk_here rfl (Fr.box FR) (h.1 g'1))))))))) (fun g'1=>sk_ (w120_11 hQ H1 H5 H7 H9 H11 H13 B2 B4096 FR (h.2 g'1)))
theorem w120_9 {s1:List UInt8}{k9 f11:Int}{m0:Img}{m2 m4096:Frm}{v0:Nat}{v2:Nat}{v4096:Nat}(H1:σ 1 = .s s1)(H2:σ 2 = .p (d,0) v0 0)(H5:σ 5 = .p (d,2) v2 0)(H7:σ 7 = .p (d,4096) v4096 0)(H9:σ 9 = .i .i64 k9)(H11:σ 11 = .i .i64 f11)(B0:lk st.bx (d,0) = some (v0,[.sl .ext (List.map Typ.row m0.types),.sl .ext (List.map rowS m0.texts),.sl .ext (List.map Fun.row m0.funcs)]))(B2:lk st.bx (d,2) = some (v2,[.i .i64 m2.func,.i .i64 m2.pos,.i .u64 m2.mode,.sl .full (List.map Loc.row m2.locals)]))(B4096:lk st.bx (d,4096) = some (v4096,[.i .i64 m4096.func,.i .i64 m4096.pos,.i .u64 m4096.mode,.sl .full (List.map Loc.row m4096.locals)]))(FR:Fr d (d,0) st0.bx st0.ow st.bx st.ow)(h:T120_9 prog K s1 k9 f11 m0 m2 m4096):W prog d c120_5 σ st Q:=
 q_ rfl (m_ (f_ H2 (l_ rfl B0 rfl rfl (m_ (h.2.elim fun c'1 e'2=>ia_ rfl H11 h.1 e'2.1 (Fun.row_eq c'1) rfl (ff_ rfl (lf_ rfl rfl rfl (e'2.2.elim fun r'3 e'4=>ca_ (sc rfl rfl sn) e'4.1 (b_ rfl rfl (abin_cat' e'4.2.1) (b_ rfl rfl (abin_cat' e'4.2.2.1) (e'4.2.2.2.elim fun r'5 e'17=>e'17.elim fun r'6 e'7=>ca_ (sc H1 rfl (sc rfl rfl sn)) e'7.1 (m_ (x_ rfl rfl (x_ rfl rfl (m_ (m_ (e_ (q_ rfl (m_ (f_ H2 (l_ rfl B0 rfl rfl (m_ (e'7.2.2.elim fun c'8 e'9=>ia_ rfl H11 e'7.2.1 e'9.1 (Fun.row_eq c'8) rfl (ff_ rfl (lf_ rfl rfl rfl (ll_ rfl (b_ rfl rfl sub_ (e'9.2.elim fun r'10 e'15=>e'15.elim fun r'11 e'16=>e'16.elim fun r'12 e'13=>ca_ (sc rfl rfl (sc rfl rfl sn)) e'13.1 (m_ (x_ rfl rfl (x_ rfl rfl (x_ rfl rfl (m_ (m_ (m_ (e_ (sq_ (q_ rfl (s_mvB rfl (nt_ rfl (s_mvB rfl (eb_ (g:=85) rfl (fun g'14=>gn_ (b:=true) rfl rfl (gn_ (b:=true) rfl rfl (pt_ rfl rfl (e_ (w120_10 hQ rfl H5 H7 H9 H11 rfl rfl B2 B4096 FR (e'13.2.1 g'14)))))) (fun g'14=>gy_ rfl (s_mvB rfl (gy_ rfl (nt_ rfl (pf_ rfl rfl (e_ (w120_10 hQ rfl H5 H7 H9 H11 rfl rfl B2 B4096 FR (e'13.2.2 g'14))))))))))))))))))))))))))))))))))))))))))))))))))
theorem w120_8 {s1:List UInt8}{k9 f11:Int}{t53:Bool}{m0:Img}{m2 m4096:Frm}{v0:Nat}{v2:Nat}{v4096:Nat}(H1:σ 1 = .s s1)(H2:σ 2 = .p (d,0) v0 0)(H5:σ 5 = .p (d,2) v2 0)(H7:σ 7 = .p (d,4096) v4096 0)(H9:σ 9 = .i .i64 k9)(H11:σ 11 = .i .i64 f11)(H53:σ 53 = .b t53)(B0:lk st.bx (d,0) = some (v0,[.sl .ext (List.map Typ.row m0.types),.sl .ext (List.map rowS m0.texts),.sl .ext (List.map Fun.row m0.funcs)]))(B2:lk st.bx (d,2) = some (v2,[.i .i64 m2.func,.i .i64 m2.pos,.i .u64 m2.mode,.sl .full (List.map Loc.row m2.locals)]))(B4096:lk st.bx (d,4096) = some (v4096,[.i .i64 m4096.func,.i .i64 m4096.pos,.i .u64 m4096.mode,.sl .full (List.map Loc.row m4096.locals)]))(FR:Fr d (d,0) st0.bx st0.ow st.bx st.ow)(h:T120_8 prog K s1 k9 f11 t53 m0 m2 m4096):W prog d c120_0 σ st (thenW prog d c120_5 Q):=
 cb_ H53 (fun g'1=>q_ rfl (l_ H7 B4096 rfl rfl (m_ (so_ H5 B2 rfl rfl rfl (m_ (e_ (rt_ (hQ _ _ _ _ _ _ _ rfl H5 lk_here rfl (Fr.box FR) (h.1 g'1))))))))) (fun g'1=>sk_ (w120_9 hQ H1 H2 H5 H7 H9 H11 B0 B2 B4096 FR (h.2 g'1)))
theorem w120_7 {s1:List UInt8}{ok8:Bool}{k9:Int}{is10:Bool}{f11:Int}{has12:Bool}{m0:Img}{m2 m4096:Frm}{v0:Nat}{v2:Nat}{v4096:Nat}(H1:σ 1 = .s s1)(H2:σ 2 = .p (d,0) v0 0)(H5:σ 5 = .p (d,2) v2 0)(H7:σ 7 = .p (d,4096) v4096 0)(H8:σ 8 = .b ok8)(H9:σ 9 = .i .i64 k9)(H10:σ 10 = .b is10)(H11:σ 11 = .i .i64 f11)(H12:σ 12 = .b has12)(B0:lk st.bx (d,0) = some (v0,[.sl .ext (List.map Typ.row m0.types),.sl .ext (List.map rowS m0.texts),.sl .ext (List.map Fun.row m0.funcs)]))(B2:lk st.bx (d,2) = some (v2,[.i .i64 m2.func,.i .i64 m2.pos,.i .u64 m2.mode,.sl .full (List.map Loc.row m2.locals)]))(B4096:lk st.bx (d,4096) = some (v4096,[.i .i64 m4096.func,.i .i64 m4096.pos,.i .u64 m4096.mode,.sl .full (List.map Loc.row m4096.locals)]))(FR:Fr d (d,0) st0.bx st0.ow st.bx st.ow)(h:T120_7 prog K s1 ok8 k9 is10 f11 has12 m0 m2 m4096):W prog d c120_6 σ st Q:=
 sq_ (q_ rfl (s_mvB H8 (nt_ rfl (s_mvB rfl (eb_ (g:=46) rfl (fun g'1=>gn_ (b:=true) rfl rfl (gn_ (b:=true) rfl rfl (pt_ rfl rfl (s_mvB rfl (gn_ (b:=true) rfl rfl (gn_ (b:=true) rfl rfl (pt_ rfl rfl (e_ (w120_8 hQ H1 H2 H5 H7 H9 H11 rfl B0 B2 B4096 FR (h.1 g'1)))))))))) (fun g'1=>gy_ rfl (s_mvB H10 (gy_ rfl (nt_ rfl (pf_ rfl rfl (s_mvB rfl (eb_ (g:=50) rfl (fun g'2=>gn_ (b:=true) rfl rfl (gn_ (b:=true) rfl rfl (pt_ rfl rfl (e_ (w120_8 hQ H1 H2 H5 H7 H9 H11 rfl B0 B2 B4096 FR ((h.2 g'1).1 g'2)))))) (fun g'2=>gy_ rfl (s_mvB H12 (gy_ rfl (nt_ rfl (pf_ rfl rfl (e_ (w120_8 hQ H1 H2 H5 H7 H9 H11 rfl B0 B2 B4096 FR ((h.2 g'1).2 g'2))))))))))))))))))))
theorem w120_6 {s1:List UInt8}{ok8:Bool}{k9:Int}{is10:Bool}{m0:Img}{m2 m4096:Frm}{v0:Nat}{v2:Nat}{v4096:Nat}(H1:σ 1 = .s s1)(H2:σ 2 = .p (d,0) v0 0)(H5:σ 5 = .p (d,2) v2 0)(H7:σ 7 = .p (d,4096) v4096 0)(H8:σ 8 = .b ok8)(H9:σ 9 = .i .i64 k9)(H10:σ 10 = .b is10)(B0:lk st.bx (d,0) = some (v0,[.sl .ext (List.map Typ.row m0.types),.sl .ext (List.map rowS m0.texts),.sl .ext (List.map Fun.row m0.funcs)]))(B2:lk st.bx (d,2) = some (v2,[.i .i64 m2.func,.i .i64 m2.pos,.i .u64 m2.mode,.sl .full (List.map Loc.row m2.locals)]))(B4096:lk st.bx (d,4096) = some (v4096,[.i .i64 m4096.func,.i .i64 m4096.pos,.i .u64 m4096.mode,.sl .full (List.map Loc.row m4096.locals)]))(FR:Fr d (d,0) st0.bx st0.ow st.bx st.ow)(h:T120_6 prog K s1 ok8 k9 is10 m0 m2 m4096):W prog d c120_7 σ st Q:=
 q_ rfl (m_ (f_ H2 (l_ rfl B0 rfl rfl (ll_ rfl (b_ rfl rfl sub_ (h.elim fun r'1 e'5=>e'5.elim fun r'2 e'6=>e'6.elim fun r'3 e'4=>ca_ (sc H1 rfl (sc rfl rfl sn)) e'4.1 (m_ (x_ rfl rfl (x_ rfl rfl (x_ rfl rfl (m_ (m_ (m_ (e_ (w120_7 hQ rfl H2 H5 H7 H8 H9 H10 rfl rfl B0 B2 B4096 FR e'4.2)))))))))))))))
theorem w120_5 {s1:List UInt8}{ok8:Bool}{k9:Int}{m0:Img}{m2 m4096:Frm}{v0:Nat}{v2:Nat}{v4096:Nat}(H1:σ 1 = .s s1)(H2:σ 2 = .p (d,0) v0 0)(H5:σ 5 = .p (d,2) v2 0)(H7:σ 7 = .p (d,4096) v4096 0)(H8:σ 8 = .b ok8)(H9:σ 9 = .i .i64 k9)(B0:lk st.bx (d,0) = some (v0,[.sl .ext (List.map Typ.row m0.types),.sl .ext (List.map rowS m0.texts),.sl .ext (List.map Fun.row m0.funcs)]))(B2:lk st.bx (d,2) = some (v2,[.i .i64 m2.func,.i .i64 m2.pos,.i .u64 m2.mode,.sl .full (List.map Loc.row m2.locals)]))(B4096:lk st.bx (d,4096) = some (v4096,[.i .i64 m4096.func,.i .i64 m4096.pos,.i .u64 m4096.mode,.sl .full (List.map Loc.row m4096.locals)]))(FR:Fr d (d,0) st0.bx st0.ow st.bx st.ow)(h:T120_5 prog K s1 ok8 k9 m0 m2 m4096):W prog d c120_8 σ st Q:=
 q_ rfl (m_ (h.elim fun r'1 e'4=>e'4.elim fun r'2 e'3=>ca_ (sc H1 rfl (sc rfl rfl sn)) e'3.1 (m_ (x_ rfl rfl (x_ rfl rfl (m_ (m_ (e_ (w120_6 hQ rfl H2 H5 H7 H8 H9 rfl B0 B2 B4096 FR e'3.2)))))))))
theorem w120_4 {s1:List UInt8}{m0:Img}{m2 m4096:Frm}{v0:Nat}{v2:Nat}{v4096:Nat}(H1:σ 1 = .s s1)(H2:σ 2 = .p (d,0) v0 0)(H5:σ 5 = .p (d,2) v2 0)(H7:σ 7 = .p (d,4096) v4096 0)(B0:lk st.bx (d,0) = some (v0,[.sl .ext (List.map Typ.row m0.types),.sl .ext (List.map rowS m0.texts),.sl .ext (List.map Fun.row m0.funcs)]))(B2:lk st.bx (d,2) = some (v2,[.i .i64 m2.func,.i .i64 m2.pos,.i .u64 m2.mode,.sl .full (List.map Loc.row m2.locals)]))(B4096:lk st.bx (d,4096) = some (v4096,[.i .i64 m4096.func,.i .i64 m4096.pos,.i .u64 m4096.mode,.sl .full (List.map Loc.row m4096.locals)]))(FR:Fr d (d,0) st0.bx st0.ow st.bx st.ow)(h:T120_4 prog K s1 m0 m2 m4096):W prog d c120_9 σ st Q:=
 q_ rfl (m_ (h.elim fun r'1 e'5=>e'5.elim fun r'2 e'6=>e'6.elim fun r'3 e'4=>ca_ (sc H1 rfl (sc rfl rfl sn)) e'4.1 (m_ (x_ rfl rfl (x_ rfl rfl (x_ rfl rfl (m_ (m_ (m_ (e_ (w120_5 hQ rfl H2 H5 H7 rfl rfl B0 B2 B4096 FR e'4.2)))))))))))
theorem w120_3 {s1:List UInt8}{ok8:Bool}{m0:Img}{m2 m4096:Frm}{v0:Nat}{v2:Nat}{v4096:Nat}(H1:σ 1 = .s s1)(H2:σ 2 = .p (d,0) v0 0)(H5:σ 5 = .p (d,2) v2 0)(H7:σ 7 = .p (d,4096) v4096 0)(H8:σ 8 = .b ok8)(B0:lk st.bx (d,0) = some (v0,[.sl .ext (List.map Typ.row m0.types),.sl .ext (List.map rowS m0.texts),.sl .ext (List.map Fun.row m0.funcs)]))(B2:lk st.bx (d,2) = some (v2,[.i .i64 m2.func,.i .i64 m2.pos,.i .u64 m2.mode,.sl .full (List.map Loc.row m2.locals)]))(B4096:lk st.bx (d,4096) = some (v4096,[.i .i64 m4096.func,.i .i64 m4096.pos,.i .u64 m4096.mode,.sl .full (List.map Loc.row m4096.locals)]))(FR:Fr d (d,0) st0.bx st0.ow st.bx st.ow)(h:T120_3 prog K s1 ok8 m0 m2 m4096):W prog d c120_10 σ st Q:=
 sq_ (q_ rfl (m_ (nt_ H8 (e_ (cb_ rfl (fun g'1=>q_ rfl (l_ H7 B4096 rfl rfl (m_ (so_ H5 B2 rfl rfl rfl (m_ (e_ (rt_ (hQ _ _ _ _ _ _ _ rfl H5 lk_here rfl (Fr.box FR) (h.1 g'1))))))))) (fun g'1=>sk_ (w120_4 hQ H1 H2 H5 H7 B0 B2 B4096 FR (h.2 g'1))))))))
theorem w120_2 {s1:List UInt8}{m0:Img}{m2 m4096:Frm}{v0:Nat}{v2:Nat}{v4096:Nat}(H1:σ 1 = .s s1)(H2:σ 2 = .p (d,0) v0 0)(H5:σ 5 = .p (d,2) v2 0)(H7:σ 7 = .p (d,4096) v4096 0)(B0:lk st.bx (d,0) = some (v0,[.sl .ext (List.map Typ.row m0.types),.sl .ext (List.map rowS m0.texts),.sl .ext (List.map Fun.row m0.funcs)]))(B2:lk st.bx (d,2) = some (v2,[.i .i64 m2.func,.i .i64 m2.pos,.i .u64 m2.mode,.sl .full (List.map Loc.row m2.locals)]))(B4096:lk st.bx (d,4096) = some (v4096,[.i .i64 m4096.func,.i .i64 m4096.pos,.i .u64 m4096.mode,.sl .full (List.map Loc.row m4096.locals)]))(FR:Fr d (d,0) st0.bx st0.ow st.bx st.ow)(h:T120_2 prog K s1 m0 m2 m4096):W prog d c120_11 σ st Q:=
 q_ rfl (m_ (h.elim fun r'1 e'4=>e'4.elim fun r'2 e'3=>ca_ (sc H1 rfl (sc rfl rfl sn)) e'3.1 (m_ (x_ rfl rfl (x_ rfl rfl (m_ (m_ (e_ (w120_3 hQ rfl H2 H5 H7 rfl B0 B2 B4096 FR e'3.2)))))))))
theorem w120_1 {s1:List UInt8}{m0:Img}{m2:Frm}{v0:Nat}{v2:Nat}(H1:σ 1 = .s s1)(H2:σ 2 = .p (d,0) v0 0)(H5:σ 5 = .p (d,2) v2 0)(B0:lk st.bx (d,0) = some (v0,[.sl .ext (List.map Typ.row m0.types),.sl .ext (List.map rowS m0.texts),.sl .ext (List.map Fun.row m0.funcs)]))(B2:lk st.bx (d,2) = some (v2,[.i .i64 m2.func,.i .i64 m2.pos,.i .u64 m2.mode,.sl .full (List.map Loc.row m2.locals)]))(FR:Fr d (d,0) st0.bx st0.ow st.bx st.ow)(h:T120_1 prog K s1 m0 m2):W prog d c120_12 σ st Q:=
 sq_ (W.reg (s_alloc (e_ (w120_2 (m4096:=(Frm.mk 0 0 0 ([]:List Loc))) hQ H1 H2 H5 rfl (lk_other rfl B0) (lk_other rfl B2) (show lk _ (d,4096) = some (_,([.i .i64 0,.i .i64 0,.i .u64 0,.sl .full (List.map Loc.row ([]:List Loc))]:List AV)) from lk_here) (Fr.box FR) h))))
theorem w120_0 {m0:Img}{s1:List UInt8}(H0:σ 0 = m0.av)(H1:σ 1 = .s s1)(FR:Fr d (d,0) st0.bx st0.ow st.bx st.ow)(h:T120_0 prog K m0 s1):W prog d (.seq (.reg 0 r120_0) c120_12) σ st Q:=
 sq_ (W.reg (s_box H0 rfl (m_ (s_alloc (m_ (e_ (w120_1 (m2:=(Frm.mk 0 0 0 ([]:List Loc))) hQ H1 rfl rfl lk_here (lk_other rfl (show lk _ (d,2) = some (_,([.i .i64 0,.i .i64 0,.i .u64 0,.sl .full (List.map Loc.row ([]:List Loc))]:List AV)) from lk_here)) (Fr.box (Fr.box FR)) h)))))))
end
theorem p120 {prog:Prog}(hf:prog.fn 120 = some pf120){m0:Img}{s1:List UInt8}{K:Int→Frm→Bool→Prop}(h:T120_0 prog K m0 s1):PuN prog 120 [m0.av,.s s1] (fun r=>∃res0:Int,∃res1:Frm,∃res2:Bool,(r = .tup [.i .i64 res0,res1.avo .full,.b res2])∧K res0 res1 res2):=
  PuN.of hf rfl fun d st=>w120_0 (st0:=st) (Q:=fun e σ st'=>(e = .normal∨e = .ret)∧∃r,ares σ st' pf120.res = some r∧_∧Fr d (d,0) st.bx st.ow st'.bx st'.ow) (fun σ st' k1 v1  res0 res1 res2 H4 H5 HB5 H6 hf hk=>⟨.inr rfl,.tup [.i .i64 res0,res1.avo .full,.b res2],by simp only [pf120,ares,aresL,H4,ares_cellA (n:=4) H5 HB5 rfl,H6,ares_tmp,Option.map_some,H4,ares_cellA (n:=4) H5 HB5 rfl,H6],⟨res0,res1,res2,rfl,hk⟩,hf⟩) (σ:=sl0 [m0.av,.s s1]) rfl rfl Fr.refl h
def r121_0:List AI:=[oO 2 (.box 7 (.t 0)),
 oO 4 (.alloc [.i .i64 0,.i .u8 0,.i .i64 0,.s [],.sl .full [],.b false]),
 oC 5 (.b false)]
def r121_1:List AI:=[oM 12 1,
 oO 13 (.call false 142 [(.t 12),(.c (.s [32,32]))]),
 oM 11 13,
 oE 14 0 11,
 oE 15 1 11,
 oM 1 14,
 oM 6 15]
def r121_2:List AI:=[oM 17 1,
 oF 18 3 2,
 oL 19 18,
 oO 20 (.len false (.t 19)),
 oB 21 .sub (.t 20) (.c (.i .i64 1)),
 oO 22 (.call false 143 [(.t 17),(.t 21)]),
 oM 16 22,
 oE 23 0 16,
 oE 24 1 16,
 oE 25 2 16,
 oM 7 23,
 oM 1 24,
 oM 8 25]
def r121_3:List AI:=[oM 26 6,
 oO 27 (.un .not (.t 26)),
 oM 28 27,
 oG 29 (.mv (.t 8)) 28 false,
 oG 30 (.un .not (.t 29)) 28 false,
 oO 31 (.pick (.t 28) (.c (.b true)) (.t 30))]
def r121_4:List AI:=[oO 32 (.build [.i .i64 0,.i .u8 0,.i .i64 0,.s [],.sl .full [],.b false] []),
 oS 6 4 32,
 oC 5 (.b false)]
def r121_5:List AI:=[oM 34 1,
 oF 35 3 2,
 oL 36 35,
 oM 37 7,
 oO 38 (.iaL 2 (.t 36) (.t 37)),
 oF 39 0 38,
 oL 40 39,
 oO 41 (.call false 31 [(.t 40)]),
 oB 42 .add (.c (.s [32])) (.t 41),
 oB 43 .add (.t 42) (.c (.s [32,61,32])),
 oO 44 (.call false 142 [(.t 34),(.t 43)]),
 oM 33 44,
 oE 45 0 33,
 oE 46 1 33,
 oM 1 45,
 oM 6 46]
def r121_6:List AI:=[oM 48 1,
 oO 49 (.call false 75 [(.t 48)]),
 oM 47 49,
 oE 50 0 47,
 oE 51 1 47,
 oO 9 (.alloc [.i .u8 0,.i .i64 0,.s [],.sl .full [],.b false]),
 oS 5 9 50,
 oM 10 51]
def r121_7:List AI:=[oM 52 7,
 oO 53 (.load 5 true (.t 9)),
 oO 54 (.build [.i .i64 0,.i .u8 0,.i .i64 0,.s [],.sl .full [],.b false] [(0,1,(.t 52)),(1,5,(.t 53))]),
 oM 55 6,
 oM 56 55,
 oG 57 (.mv (.t 10)) 56 true,
 oG 58 (.bin .eql (.t 57) (.c (.i .i64 0))) 56 true,
 oO 59 (.pick (.t 56) (.t 58) (.c (.b false))),
 oS 6 4 54,
 oM 5 59]
abbrev c121_0:AC:=(.seq (.reg 5 r121_5) (.seq (.reg 6 r121_6) (.seq (.reg 7 r121_7) .ret)))
abbrev c121_1:AC:=(.seq (.reg 1 r121_1) (.seq (.reg 2 r121_2) (.seq (.seq (.reg 3 r121_3) (.cond (.t 31) (.seq (.reg 4 r121_4) .ret) .skip)) c121_0)))
abbrev b121:AC:=(.seq (.reg 0 r121_0) c121_1)
def pf121:AF:={ nt:=60,res:=[.cell 4 6 true,.tmp 5],body:=b121 }
abbrev H121 (Q:AE→Sl→St→Prop)(K:Loc→Bool→Prop):Prop:=∀(σ:Sl)(st:St)(k0:Key)(v0:Nat)(o0_0:Own)(res0:Loc)(res1:Bool),σ 4 = .p k0 v0 0→lk st.bx k0 = some (v0,[.i .i64 res0.slot,.i .u8 res0.value.kind,.i .i64 res0.value.int,.s res0.value.text,.sl o0_0 (List.map Val.row res0.value.list),.b res0.value.cut])→σ 5 = .b res1→K res0 res1→Q .ret σ st
def T121_2 (prog:Prog)(K:Loc→Bool→Prop)(s1:List UInt8)(i7:Int)(m0:Fun)(m1:Loc):Prop:=
  0≤i7∧∃c'1:Fld,m0.slots[(i7).toNat]? = some c'1∧∃r'3:List UInt8,Pus prog 31 [.s c'1.name] (.s r'3)∧([32]:List UInt8).length + r'3.length≤maxStr∧(([32]:List UInt8) ++ r'3).length + ([32,61,32]:List UInt8).length≤maxStr∧∃r'5:List UInt8,∃r'6:Bool,Pus prog 142 [.s s1,.s ((([32]:List UInt8) ++ r'3) ++ ([32,61,32]:List UInt8))] (.tup [.s r'5,.b r'6])∧∃r'8:Val,∃r'9:Int,Pus prog 75 [.s r'5] (.tup [r'8.av,.i .i64 r'9])∧(r'6 = true→K (Loc.mk i7 r'8) (decide (r'9 = 0)))∧(r'6 = false→K (Loc.mk i7 r'8) false)
def T121_1 (prog:Prog)(K:Loc→Bool→Prop)(s1:List UInt8)(m0:Fun)(m1:Loc):Prop:=
  ∃r'1:List UInt8,∃r'2:Bool,Pus prog 142 [.s s1,.s ([32,32]:List UInt8)] (.tup [.s r'1,.b r'2])∧∃r'4:Int,∃r'5:List UInt8,∃r'6:Bool,Pus prog 143 [.s r'1,.i .i64 (IntKind.i64.wrap ((m0.slots.length:Int) - 1))] (.tup [.i .i64 r'4,.s r'5,.b r'6])∧((!r'2) = true→K (Loc.mk 0 (Val.mk 0 0 [] ([]:List Val) false)) false)∧((!r'2) = false→((!r'6) = true→K (Loc.mk 0 (Val.mk 0 0 [] ([]:List Val) false)) false)∧((!r'6) = false→T121_2 prog K r'5 r'4 m0 m1))
def T121_0 (prog:Prog)(K:Loc→Bool→Prop)(f0:Fun)(s1:List UInt8):Prop:=
  T121_1 prog K s1 f0 (Loc.mk 0 (Val.mk 0 0 [] ([]:List Val) false))
section
variable {prog:Prog}{d:Nat}{Q:AE→Sl→St→Prop}{K:Loc→Bool→Prop}(hQ:H121 Q K){σ:Sl}{st:St}
include hQ
theorem w121_2 {s1:List UInt8}{i7:Int}{m0:Fun}{m1:Loc}{o_m1_4:Own}{v0:Nat}{v1:Nat}(H1:σ 1 = .s s1)(H2:σ 2 = .p (d,0) v0 0)(H4:σ 4 = .p (d,1) v1 0)(H7:σ 7 = .i .i64 i7)(B0:lk st.bx (d,0) = some (v0,[.s m0.name,.i .i64 m0.params,.i .i64 m0.result,.sl .ext (List.map Fld.row m0.slots),.sl .ext (List.map Ins.row m0.code),.sl .ext (List.map Rnn.row m0.sizes),.sl .ext (List.map Rnn.row m0.lives)]))(B1:lk st.bx (d,1) = some (v1,[.i .i64 m1.slot,.i .u8 m1.value.kind,.i .i64 m1.value.int,.s m1.value.text,.sl o_m1_4 (List.map Val.row m1.value.list),.b m1.value.cut]))(h:T121_2 prog K s1 i7 m0 m1):W prog d c121_0 σ st Q:=
 q_ rfl (m_ (f_ H2 (l_ rfl B0 rfl rfl (m_ (h.2.elim fun c'1 e'2=>ia_ rfl H7 h.1 e'2.1 (Fld.row_eq c'1) rfl (ff_ rfl (lf_ rfl rfl rfl (e'2.2.elim fun r'3 e'4=>ca_ (sc rfl rfl sn) e'4.1 (b_ rfl rfl (abin_cat' e'4.2.1) (b_ rfl rfl (abin_cat' e'4.2.2.1) (e'4.2.2.2.elim fun r'5 e'13=>e'13.elim fun r'6 e'7=>ca_ (sc H1 rfl (sc rfl rfl sn)) e'7.1 (m_ (x_ rfl rfl (x_ rfl rfl (m_ (m_ (e_ (sq_ (W.reg (m_ (e'7.2.elim fun r'8 e'12=>e'12.elim fun r'9 e'10=>ca_ (sc rfl rfl sn) e'10.1 (m_ (x_ rfl rfl (x_ rfl rfl (s_alloc (so_ rfl (show lk _ (d,24581) = some (_,([.i .u8 0,.i .i64 0,.s [],.sl .full (List.map Val.row ([]:List Val)),.b false]:List AV)) from lk_here) rfl rfl rfl (m_ (e_ (q_ rfl (s_mvI H7 (l_ rfl lk_here rfl rfl (s_build (f_cons rfl rfl (f_cons rfl rfl f_nil)) (s_mvB rfl (s_mvB rfl (eb_ (g:=56) rfl (fun g'11=>gy_ rfl (s_mvI rfl (gy_ rfl (b_ rfl rfl eql_ (pt_ rfl rfl (so_ H4 (lk_other rfl (lk_other rfl B1)) rfl rfl rfl (s_mvB rfl (e_ (rt_ (hQ _ _ _ _ _ _ _ H4 lk_here rfl (e'10.2.1 g'11))))))))))) (fun g'11=>gn_ (b:=false) rfl rfl (gn_ (b:=false) rfl rfl (pf_ rfl rfl (so_ H4 (lk_other rfl (lk_other rfl B1)) rfl rfl rfl (s_mvB rfl (e_ (rt_ (hQ _ _ _ _ _ _ _ H4 lk_here rfl (e'10.2.2 g'11))))))))))))))))))))))))))))))))))))))))))))
theorem w121_1 {s1:List UInt8}{m0:Fun}{m1:Loc}{o_m1_4:Own}{v0:Nat}{v1:Nat}(H1:σ 1 = .s s1)(H2:σ 2 = .p (d,0) v0 0)(H4:σ 4 = .p (d,1) v1 0)(B0:lk st.bx (d,0) = some (v0,[.s m0.name,.i .i64 m0.params,.i .i64 m0.result,.sl .ext (List.map Fld.row m0.slots),.sl .ext (List.map Ins.row m0.code),.sl .ext (List.map Rnn.row m0.sizes),.sl .ext (List.map Rnn.row m0.lives)]))(B1:lk st.bx (d,1) = some (v1,[.i .i64 m1.slot,.i .u8 m1.value.kind,.i .i64 m1.value.int,.s m1.value.text,.sl o_m1_4 (List.map Val.row m1.value.list),.b m1.value.cut]))(h:T121_1 prog K s1 m0 m1):W prog d c121_1 σ st Q:=
 q_ rfl (m_ (h.elim fun r'1 e'12=>e'12.elim fun r'2 e'3=>ca_ (sc H1 rfl (sc rfl rfl sn)) e'3.1 (m_ (x_ rfl rfl (x_ rfl rfl (m_ (m_ (e_ (q_ rfl (m_ (f_ H2 (l_ rfl B0 rfl rfl (ll_ rfl (b_ rfl rfl sub_ (e'3.2.elim fun r'4 e'10=>e'10.elim fun r'5 e'11=>e'11.elim fun r'6 e'7=>ca_ (sc rfl rfl (sc rfl rfl sn)) e'7.1 (m_ (x_ rfl rfl (x_ rfl rfl (x_ rfl rfl (m_ (m_ (m_ (e_ (sq_ (q_ rfl (s_mvB rfl (nt_ rfl (s_mvB rfl (eb_ (g:=28) rfl (fun g'8=>gn_ (b:=true) rfl rfl (gn_ (b:=true) rfl rfl (pt_ rfl rfl (e_ (ct_ rfl (q_ rfl (s_build f_nil (so_ H4 B1 rfl rfl rfl (m_ (e_ (rt_ (hQ _ _ _ _ _ _ _ H4 lk_here rfl (e'7.2.1 g'8))))))))))))) (fun g'8=>gy_ rfl (s_mvB rfl (gy_ rfl (nt_ rfl (pf_ rfl rfl (e_ (cb_ rfl (fun g'9=>q_ rfl (s_build f_nil (so_ H4 B1 rfl rfl rfl (m_ (e_ (rt_ (hQ _ _ _ _ _ _ _ H4 lk_here rfl ((e'7.2.2 g'8).1 g'9)))))))) (fun g'9=>sk_ (w121_2 hQ rfl H2 H4 rfl B0 B1 ((e'7.2.2 g'8).2 g'9)))))))))))))))))))))))))))))))))))))))
theorem w121_0 {f0:Fun}{s1:List UInt8}(H0:σ 0 = f0.av)(H1:σ 1 = .s s1)(h:T121_0 prog K f0 s1):W prog d (.seq (.reg 0 r121_0) c121_1) σ st Q:=
 sq_ (W.reg (s_box H0 rfl (s_alloc (m_ (e_ (w121_1 (m1:=(Loc.mk 0 (Val.mk 0 0 [] ([]:List Val) false))) hQ H1 rfl rfl lk_here (lk_other rfl (show lk _ (d,1) = some (_,([.i .i64 0,.i .u8 0,.i .i64 0,.s [],.sl .full (List.map Val.row ([]:List Val)),.b false]:List AV)) from lk_here)) h))))))
end
theorem p121 {prog:Prog}(hf:prog.fn 121 = some pf121){f0:Fun}{s1:List UInt8}{K:Loc→Bool→Prop}(h:T121_0 prog K f0 s1) :∃res0:Loc,∃res1:Bool,K res0 res1∧Pus prog 121 [f0.av,.s s1] (.tup [res0.av,.b res1]):=by
  obtain ⟨v,hv,res0,res1,hk,rfl⟩:=Pus.of (K:=fun v=>∃res0:Loc,∃res1:Bool,K res0 res1∧v = .tup [res0.av,.b res1]) hf rfl (w121_0 (σ:=sl0 [f0.av,.s s1]) (fun σ st k0 v0 o0_0 res0 res1 H4 HB4 H5 hk=>⟨.tup [res0.avo o0_0,.b res1],by simp only [pf121,ares,aresL,ares_cellA (n:=6) H4 HB4 rfl,H5,ares_tmp,Option.map_some],_,rfl,res0,res1,hk,rfl⟩) rfl rfl h)
  exact ⟨res0,res1,hk,hv⟩
def r142_0:List AI:=[oC 4 (.s []),
 oC 5 (.b false)]
def r142_1:List AI:=[oM 6 0,
 oM 7 1,
 oO 8 (.call false 132 [(.t 6),(.t 7)]),
 oO 9 (.un .not (.t 8))]
def r142_2:List AI:=[oC 4 (.s []),
 oC 5 (.b false)]
def r142_3:List AI:=[oM 10 0,
 oM 11 1,
 oO 12 (.len true (.t 11)),
 oO 13 (.slS (.t 10) (some (.t 12)) none),
 oM 4 13,
 oC 5 (.b true)]
abbrev b142:AC:=(.seq (.reg 0 r142_0) (.seq (.seq (.reg 1 r142_1) (.cond (.t 9) (.seq (.reg 2 r142_2) .ret) .skip)) (.seq (.reg 3 r142_3) .ret)))
def pf142:AF:={ nt:=14,res:=[.tmp 4,.tmp 5],body:=b142 }
abbrev H142 (Q:AE→Sl→St→Prop)(K:List UInt8→Bool→Prop):Prop:=∀(σ:Sl)(st:St)(res0:List UInt8)(res1:Bool),σ 4 = .s res0→σ 5 = .b res1→K res0 res1→Q .ret σ st
def T142_0 (prog:Prog)(K:List UInt8→Bool→Prop)(s0:List UInt8)(with1:List UInt8):Prop:=
  ∃r'1:Bool,Pus prog 132 [.s s0,.s with1] (.b r'1)∧((!r'1) = true→K ([]:List UInt8) false)∧((!r'1) = false→0≤(with1.length:Int)∧(with1.length:Int).toNat≤s0.length∧K (s0.drop (with1.length:Int).toNat) true)
section
variable {prog:Prog}{d:Nat}{Q:AE→Sl→St→Prop}{K:List UInt8→Bool→Prop}(hQ:H142 Q K){σ:Sl}{st:St}
include hQ
theorem w142_0 {s0 with1:List UInt8}(H0:σ 0 = .s s0)(H1:σ 1 = .s with1)(h:T142_0 prog K s0 with1):W prog d (.seq (.reg 0 r142_0) (.seq (.seq (.reg 1 r142_1) (.cond (.t 9) (.seq (.reg 2 r142_2) .ret) .skip)) (.seq (.reg 3 r142_3) .ret))) σ st Q:=
 q_ rfl (m_ (m_ (e_ (sq_ (q_ rfl (m_ (m_ (h.elim fun r'1 e'2=>ca_ (sc H0 rfl (sc H1 rfl sn)) e'2.1 (nt_ rfl (e_ (cb_ rfl (fun g'3=>q_ rfl (m_ (m_ (e_ (rt_ (hQ _ _ _ _ rfl rfl (e'2.2.1 g'3))))))) (fun g'3=>sk_ (q_ rfl (m_ (m_ (ln_ H1 (s_slS_lo H0 rfl (e'2.2.2 g'3).1 (e'2.2.2 g'3).2.1 (m_ (m_ (e_ (rt_ (hQ _ _ _ _ rfl rfl (e'2.2.2 g'3).2.2))))))))))))))))))))))
end
theorem p142 {prog:Prog}(hf:prog.fn 142 = some pf142){s0:List UInt8}{with1:List UInt8}{K:List UInt8→Bool→Prop}(h:T142_0 prog K s0 with1) :∃res0:List UInt8,∃res1:Bool,K res0 res1∧Pus prog 142 [.s s0,.s with1] (.tup [.s res0,.b res1]):=by
  obtain ⟨v,hv,res0,res1,hk,rfl⟩:=Pus.of (K:=fun v=>∃res0:List UInt8,∃res1:Bool,K res0 res1∧v = .tup [.s res0,.b res1]) hf rfl (w142_0 (σ:=sl0 [.s s0,.s with1]) (fun σ st   res0 res1 H4 H5 hk=>⟨.tup [.s res0,.b res1],by simp only [pf142,ares,aresL,H4,H5,ares1,Option.map_some],_,rfl,res0,res1,hk,rfl⟩) rfl rfl h)
  exact ⟨res0,res1,hk,hv⟩
def r143_0:List AI:=[oC 4 (.i .i64 0),
 oC 5 (.s []),
 oC 6 (.b false)]
def r143_1:List AI:=[oM 10 0,
 oO 11 (.call false 135 [(.t 10)]),
 oM 7 11]
def r143_2:List AI:=[oM 13 0,
 oM 14 7,
 oO 15 (.slS (.t 13) none (some (.t 14))),
 oO 16 (.call false 22 [(.t 15)]),
 oM 12 16,
 oE 17 0 12,
 oE 18 1 12,
 oM 8 17,
 oM 9 18]
def r143_3:List AI:=[oM 19 8,
 oM 20 0,
 oM 21 7,
 oO 22 (.slS (.t 20) (some (.t 21)) none),
 oM 23 9,
 oB 24 .eql (.t 23) (.c (.i .i64 0)),
 oM 25 24,
 oG 26 (.mv (.t 8)) 25 true,
 oG 27 (.bin .geq (.t 26) (.c (.i .i64 0))) 25 true,
 oO 28 (.pick (.t 25) (.t 27) (.c (.b false))),
 oM 29 28,
 oG 30 (.mv (.t 8)) 29 true,
 oG 31 (.mv (.t 1)) 29 true,
 oG 32 (.bin .leq (.t 30) (.t 31)) 29 true,
 oO 33 (.pick (.t 29) (.t 32) (.c (.b false))),
 oM 4 19,
 oM 5 22,
 oM 6 33]
abbrev b143:AC:=(.seq (.reg 0 r143_0) (.seq (.reg 1 r143_1) (.seq (.reg 2 r143_2) (.seq (.reg 3 r143_3) .ret))))
def pf143:AF:={ nt:=34,res:=[.tmp 4,.tmp 5,.tmp 6],body:=b143 }
abbrev H143 (Q:AE→Sl→St→Prop)(K:Int→List UInt8→Bool→Prop):Prop:=∀(σ:Sl)(st:St)(res0:Int)(res1:List UInt8)(res2:Bool),σ 4 = .i .i64 res0→σ 5 = .s res1→σ 6 = .b res2→K res0 res1 res2→Q .ret σ st
def T143_0 (prog:Prog)(K:Int→List UInt8→Bool→Prop)(s0:List UInt8)(most1:Int):Prop:=
  ∃r'1:Int,Pus prog 135 [.s s0] (.i .i64 r'1)∧0≤r'1∧(r'1).toNat≤s0.length∧∃r'3:Int,∃r'4:Int,Pus prog 22 [.s (s0.take (r'1).toNat)] (.tup [.i .i64 r'3,.i .i64 r'4])∧0≤r'1∧(r'1).toNat≤s0.length∧(r'4 = 0→(r'3 ≥ 0→K r'3 (s0.drop (r'1).toNat) (decide (r'3≤most1)))∧(¬(r'3 ≥ 0)→K r'3 (s0.drop (r'1).toNat) false))∧(¬(r'4 = 0)→K r'3 (s0.drop (r'1).toNat) false)
section
variable {prog:Prog}{d:Nat}{Q:AE→Sl→St→Prop}{K:Int→List UInt8→Bool→Prop}(hQ:H143 Q K){σ:Sl}{st:St}
include hQ
theorem w143_0 {s0:List UInt8}{most1:Int}(H0:σ 0 = .s s0)(H1:σ 1 = .i .i64 most1)(h:T143_0 prog K s0 most1):W prog d (.seq (.reg 0 r143_0) (.seq (.reg 1 r143_1) (.seq (.reg 2 r143_2) (.seq (.reg 3 r143_3) .ret)))) σ st Q:=
 q_ rfl (m_ (m_ (m_ (e_ (q_ rfl (m_ (h.elim fun r'1 e'2=>ca_ (sc H0 rfl sn) e'2.1 (m_ (e_ (q_ rfl (m_ (m_ (s_slS_hi H0 rfl e'2.2.1 e'2.2.2.1 (e'2.2.2.2.elim fun r'3 e'8=>e'8.elim fun r'4 e'5=>ca_ (sc rfl rfl sn) e'5.1 (m_ (x_ rfl rfl (x_ rfl rfl (m_ (m_ (e_ (q_ rfl (s_mvI rfl (s_mvS H0 (s_mvI rfl (s_slS_lo rfl rfl e'5.2.1 e'5.2.2.1 (s_mvI rfl (b_ rfl rfl eql_ (s_mvB rfl (em_ (g:=25) rfl (fun g'6=>gy_ rfl (s_mvI rfl (gy_ rfl (b_ rfl rfl geq_ (pt_ rfl rfl (s_mvB rfl (em_ (g:=29) rfl (fun g'7=>gy_ rfl (s_mvI rfl (gy_ rfl (s_mvI H1 (gy_ rfl (b_ rfl rfl leq_ (pt_ rfl rfl (s_mvI rfl (s_mvS rfl (s_mvB rfl (e_ (rt_ (hQ _ _ _ _ _ rfl rfl rfl ((e'5.2.2.2.1 g'6).1 g'7)))))))))))))) (fun g'7=>gn_ (b:=false) rfl rfl (gn_ (b:=false) rfl rfl (gn_ (b:=false) rfl rfl (pf_ rfl rfl (s_mvI rfl (s_mvS rfl (s_mvB rfl (e_ (rt_ (hQ _ _ _ _ _ rfl rfl rfl ((e'5.2.2.2.1 g'6).2 g'7)))))))))))))))))) (fun g'6=>gn_ (b:=false) rfl rfl (gn_ (b:=false) rfl rfl (pf_ rfl rfl (s_mvB rfl (gn_ (b:=false) rfl rfl (gn_ (b:=false) rfl rfl (gn_ (b:=false) rfl rfl (pf_ rfl rfl (s_mvI rfl (s_mvS rfl (s_mvB rfl (e_ (rt_ (hQ _ _ _ _ _ rfl rfl rfl (e'5.2.2.2.2 g'6))))))))))))))))))))))))))))))))))))))))))))
end
theorem p143 {prog:Prog}(hf:prog.fn 143 = some pf143){s0:List UInt8}{most1:Int}{K:Int→List UInt8→Bool→Prop}(h:T143_0 prog K s0 most1) :∃res0:Int,∃res1:List UInt8,∃res2:Bool,K res0 res1 res2∧Pus prog 143 [.s s0,.i .i64 most1] (.tup [.i .i64 res0,.s res1,.b res2]):=by
  obtain ⟨v,hv,res0,res1,res2,hk,rfl⟩:=Pus.of (K:=fun v=>∃res0:Int,∃res1:List UInt8,∃res2:Bool,K res0 res1 res2∧v = .tup [.i .i64 res0,.s res1,.b res2]) hf rfl (w143_0 (σ:=sl0 [.s s0,.i .i64 most1]) (fun σ st   res0 res1 res2 H4 H5 H6 hk=>⟨.tup [.i .i64 res0,.s res1,.b res2],by simp only [pf143,ares,aresL,H4,H5,H6,ares1,Option.map_some],_,rfl,res0,res1,res2,hk,rfl⟩) rfl rfl h)
  exact ⟨res0,res1,res2,hk,hv⟩
end Go.AM

/- Parts of the proof. -/
namespace Go.AM
open Go
set_option linter.unusedVariables false
set_option linter.unusedSimpArgs false
set_option maxRecDepth 4000
attribute [local irreducible] WO fillCells fillRows
def r67_0:List AI:=[oO 4 (.box 3 (.t 0)),
 oO 6 (.box 4 (.t 2)),
 oC 8 (.b false)]
def r67_1:List AI:=[oO 20 (.load 3 true (.t 4)),
 oO 21 (.call false 79 [(.t 20)]),
 oM 22 21,
 oG 23 (.load 4 true (.t 6)) 22 false,
 oG 24 (.call false 80 [(.t 23)]) 22 false,
 oO 25 (.pick (.t 22) (.c (.b true)) (.t 24)),
 oM 26 25,
 oG 27 (.mv (.t 3)) 26 false,
 oG 28 (.call false 81 [(.t 27)]) 26 false,
 oO 29 (.pick (.t 26) (.c (.b true)) (.t 28))]
def r67_2:List AI:=[oC 8 (.b true)]
def r67_3:List AI:=[oO 30 (.bslice [.s []] 0 []),
 oM 31 3,
 oO 32 (.app 1 16 (.t 30) (.t 31)),
 oM 9 32]
def r67_4:List AI:=[oO 34 (.load 3 true (.t 4)),
 oM 35 1,
 oO 36 (.load 4 true (.t 6)),
 oO 37 (.call false 82 [(.t 34),(.t 35),(.t 36)]),
 oM 33 37,
 oE 38 0 33,
 oE 39 1 33,
 oM 10 38,
 oM 11 39]
def r67_5:List AI:=[oO 41 (.load 3 true (.t 4)),
 oM 42 1,
 oO 43 (.load 4 true (.t 6)),
 oO 44 (.call false 83 [(.t 41),(.t 42),(.t 43)]),
 oM 40 44,
 oE 45 0 40,
 oE 46 1 40,
 oM 12 45,
 oM 13 46]
def r67_6:List AI:=[oO 48 (.load 3 true (.t 4)),
 oM 49 3,
 oO 50 (.call false 84 [(.t 48),(.t 49)]),
 oM 47 50,
 oE 51 0 47,
 oE 52 1 47,
 oE 53 2 47,
 oO 15 (.alloc [.i .i64 0,.i .i64 0,.i .u64 0,.sl .full []]),
 oM 14 51,
 oS 4 15 52,
 oM 16 53]
def r67_7:List AI:=[oO 55 (.load 3 true (.t 4)),
 oM 56 3,
 oO 57 (.call false 85 [(.t 55),(.t 56)]),
 oM 54 57,
 oE 58 0 54,
 oE 59 1 54,
 oE 60 2 54,
 oO 18 (.alloc [.i .i64 0,.i .i64 0,.i .u64 0,.sl .full []]),
 oM 17 58,
 oS 4 18 59,
 oM 19 60]
def r67_8:List AI:=[oO 61 (.load 3 true (.t 4)),
 oO 62 (.load 4 true (.t 6)),
 oO 63 (.call false 86 [(.t 61),(.t 62)]),
 oO 64 (.load 3 true (.t 4)),
 oO 65 (.load 4 true (.t 6)),
 oO 66 (.call false 87 [(.t 64),(.t 65)]),
 oB 67 .eql (.t 63) (.t 66),
 oM 68 67,
 oG 69 (.mv (.t 10)) 68 true,
 oG 70 (.mv (.t 12)) 68 true,
 oG 71 (.call false 29 [(.t 69),(.t 70)]) 68 true,
 oO 72 (.pick (.t 68) (.t 71) (.c (.b false))),
 oM 73 72,
 oG 74 (.mv (.t 11)) 73 true,
 oG 75 (.mv (.t 13)) 73 true,
 oG 76 (.bin .eql (.t 74) (.t 75)) 73 true,
 oO 77 (.pick (.t 73) (.t 76) (.c (.b false))),
 oM 78 77,
 oG 79 (.mv (.t 14)) 78 true,
 oG 80 (.mv (.t 17)) 78 true,
 oG 81 (.bin .eql (.t 79) (.t 80)) 78 true,
 oO 82 (.pick (.t 78) (.t 81) (.c (.b false))),
 oM 83 82,
 oG 84 (.load 4 true (.t 15)) 83 true,
 oG 85 (.load 4 true (.t 18)) 83 true,
 oG 86 (.call false 88 [(.t 84),(.t 85)]) 83 true,
 oO 87 (.pick (.t 83) (.t 86) (.c (.b false))),
 oM 88 87,
 oG 89 (.mv (.t 16)) 88 true,
 oG 90 (.mv (.t 19)) 88 true,
 oG 91 (.bin .eql (.t 89) (.t 90)) 88 true,
 oO 92 (.pick (.t 88) (.t 91) (.c (.b false))),
 oM 93 92,
 oG 94 (.mv (.t 3)) 93 true,
 oG 95 (.mv (.t 9)) 93 true,
 oG 96 (.call false 29 [(.t 94),(.t 95)]) 93 true,
 oO 97 (.pick (.t 93) (.t 96) (.c (.b false))),
 oM 8 97]
abbrev c67_0:AC:=(.seq (.reg 5 r67_5) (.seq (.reg 6 r67_6) (.seq (.reg 7 r67_7) (.seq (.reg 8 r67_8) .ret))))
abbrev c67_1:AC:=(.seq (.reg 4 r67_4) c67_0)
abbrev c67_2:AC:=(.seq (.reg 3 r67_3) c67_1)
abbrev c67_3:AC:=(.seq (.seq (.reg 1 r67_1) (.cond (.t 29) (.seq (.reg 2 r67_2) .ret) .skip)) c67_2)
abbrev b67:AC:=(.seq (.reg 0 r67_0) c67_3)
def pf67:AF:={ nt:=98,res:=[.tmp 8],body:=b67 }
abbrev H67 (Q:AE→Sl→St→Prop)(K:Bool→Prop):Prop:=∀(σ:Sl)(st:St)(res0:Bool),σ 8 = .b res0→K res0→Q .ret σ st
def T67_4 (prog:Prog)(K:Bool→Prop)(k1:Int)(l3:List (List UInt8))(was9:List (List UInt8))(a10:List (List UInt8))(e11:Int)(m0:Img)(m1:Frm):Prop:=
  ∃r'1:List (List UInt8),∃r'2:Int,Pus prog 83 [m0.av,.i .i64 k1,m1.av] (.tup [.sl .ext (List.map rowS r'1),.i .i64 r'2])∧∃r'4:Int,∃r'5:Frm,∃r'6:Int,Pus prog 84 [m0.av,.sl .ext (List.map rowS l3)] (.tup [.i .i64 r'4,r'5.av,.i .i64 r'6])∧∃r'8:Int,∃r'9:Frm,∃r'10:Int,Pus prog 85 [m0.av,.sl .ext (List.map rowS l3)] (.tup [.i .i64 r'8,r'9.av,.i .i64 r'10])∧∃r'12:Int,Pus prog 86 [m0.av,m1.av] (.i .i64 r'12)∧∃r'14:Int,Pus prog 87 [m0.av,m1.av] (.i .i64 r'14)∧(r'12 = r'14→∃r'17:Bool,Pus prog 29 [.sl .ext (List.map rowS a10),.sl .ext (List.map rowS r'1)] (.b r'17)∧(r'17 = true→(e11 = r'2→(r'4 = r'8→∃r'22:Bool,Pus prog 88 [r'5.av,r'9.av] (.b r'22)∧(r'22 = true→(r'6 = r'10→∃r'26:Bool,Pus prog 29 [.sl .ext (List.map rowS l3),.sl .ext (List.map rowS was9)] (.b r'26)∧K r'26)∧(¬(r'6 = r'10)→K false))∧(r'22 = false→K false))∧(¬(r'4 = r'8)→K false))∧(¬(e11 = r'2)→K false))∧(r'17 = false→K false))∧(¬(r'12 = r'14)→K false)
def T67_3 (prog:Prog)(K:Bool→Prop)(k1:Int)(l3:List (List UInt8))(was9:List (List UInt8))(m0:Img)(m1:Frm):Prop:=
  ∃r'1:List (List UInt8),∃r'2:Int,Pus prog 82 [m0.av,.i .i64 k1,m1.av] (.tup [.sl .ext (List.map rowS r'1),.i .i64 r'2])∧T67_4 prog K k1 l3 was9 r'1 r'2 m0 m1
def T67_2 (prog:Prog)(K:Bool→Prop)(k1:Int)(l3:List (List UInt8))(m0:Img)(m1:Frm):Prop:=
  Fit (([]:List (List UInt8)).length + l3.length) 16∧T67_3 prog K k1 l3 (([]:List (List UInt8)) ++ l3) m0 m1
def T67_1 (prog:Prog)(K:Bool→Prop)(k1:Int)(l3:List (List UInt8))(m0:Img)(m1:Frm):Prop:=
  ∃r'1:Bool,Pus prog 79 [m0.av] (.b r'1)∧(r'1 = true→K true)∧(r'1 = false→∃r'4:Bool,Pus prog 80 [m1.av] (.b r'4)∧(r'4 = true→K true)∧(r'4 = false→∃r'7:Bool,Pus prog 81 [.sl .ext (List.map rowS l3)] (.b r'7)∧(r'7 = true→K true)∧(r'7 = false→T67_2 prog K k1 l3 m0 m1)))
def T67_0 (prog:Prog)(K:Bool→Prop)(m0:Img)(k1:Int)(x2:Frm)(l3:List (List UInt8)):Prop:=
  T67_1 prog K k1 l3 m0 x2
section
variable {prog:Prog}{d:Nat}{Q:AE→Sl→St→Prop}{K:Bool→Prop}(hQ:H67 Q K){σ:Sl}{st:St}
include hQ
theorem w67_4 {k1:Int}{l3 was9 a10:List (List UInt8)}{e11:Int}{m0:Img}{m1:Frm}{o_l3 o_was9 o_a10:Own}{v0:Nat}{v1:Nat}(H1:σ 1 = .i .i64 k1)(H3:σ 3 = .sl o_l3 (List.map rowS l3))(H4:σ 4 = .p (d,0) v0 0)(H6:σ 6 = .p (d,1) v1 0)(H9:σ 9 = .sl o_was9 (List.map rowS was9))(H10:σ 10 = .sl o_a10 (List.map rowS a10))(H11:σ 11 = .i .i64 e11)(A9:ApM d st.ow o_was9 was9.length)(B0:lk st.bx (d,0) = some (v0,[.sl .ext (List.map Typ.row m0.types),.sl .ext (List.map rowS m0.texts),.sl .ext (List.map Fun.row m0.funcs)]))(B1:lk st.bx (d,1) = some (v1,[.i .i64 m1.func,.i .i64 m1.pos,.i .u64 m1.mode,.sl .ext (List.map Loc.row m1.locals)]))(h:T67_4 prog K k1 l3 was9 a10 e11 m0 m1):W prog d c67_0 σ st Q:=
 q_ rfl (l_ H4 B0 rfl rfl (m_ (l_ H6 B1 rfl rfl (h.elim fun r'1 e'32=>e'32.elim fun r'2 e'3=>ca_ (sc rfl rfl (sc H1 rfl (sc rfl rfl sn))) e'3.1 (m_ (x_ rfl rfl (x_ rfl rfl (s_mvL rfl (m_ (e_ (sq_ (W.reg (l_ H4 (lk_other rfl B0) rfl rfl (s_mvL H3 (e'3.2.elim fun r'4 e'30=>e'30.elim fun r'5 e'31=>e'31.elim fun r'6 e'7=>ca_ (sc rfl rfl (sc rfl rfl sn)) e'7.1 (m_ (x_ rfl rfl (x_ rfl rfl (x_ rfl rfl (s_alloc (m_ (so_ rfl (show lk _ (d,24583) = some (_,([.i .i64 0,.i .i64 0,.i .u64 0,.sl .full (List.map Loc.row ([]:List Loc))]:List AV)) from lk_here) rfl rfl rfl (m_ (e_ (sq_ (W.reg (l_ H4 (lk_other rfl (lk_other rfl (lk_other rfl B0))) rfl rfl (s_mvL H3 (e'7.2.elim fun r'8 e'28=>e'28.elim fun r'9 e'29=>e'29.elim fun r'10 e'11=>ca_ (sc rfl rfl (sc rfl rfl sn)) e'11.1 (m_ (x_ rfl rfl (x_ rfl rfl (x_ rfl rfl (s_alloc (m_ (so_ rfl (show lk _ (d,28679) = some (_,([.i .i64 0,.i .i64 0,.i .u64 0,.sl .full (List.map Loc.row ([]:List Loc))]:List AV)) from lk_here) rfl rfl rfl (m_ (e_ (q_ rfl (l_ H4 (lk_other rfl (lk_other rfl (lk_other rfl (lk_other rfl B0)))) rfl rfl (l_ H6 (lk_other rfl (lk_other rfl (lk_other rfl (lk_other rfl B1)))) rfl rfl (e'11.2.elim fun r'12 e'13=>ca_ (sc rfl rfl (sc rfl rfl sn)) e'13.1 (l_ H4 (lk_other rfl (lk_other rfl (lk_other rfl (lk_other rfl B0)))) rfl rfl (l_ H6 (lk_other rfl (lk_other rfl (lk_other rfl (lk_other rfl B1)))) rfl rfl (e'13.2.elim fun r'14 e'15=>ca_ (sc rfl rfl (sc rfl rfl sn)) e'15.1 (b_ rfl rfl eql_ (s_mvB rfl (em_ (g:=68) rfl (fun g'16=>gy_ rfl (s_mvL H10 (gy_ rfl (s_mvL rfl (gy_ rfl ((e'15.2.1 g'16).elim fun r'17 e'18=>ca_ (sc rfl rfl (sc rfl rfl sn)) e'18.1 (pt_ rfl rfl (s_mvB rfl (eb_ (g:=73) rfl (fun g'19=>gy_ rfl (s_mvI H11 (gy_ rfl (s_mvI rfl (gy_ rfl (b_ rfl rfl eql_ (pt_ rfl rfl (s_mvB rfl (em_ (g:=78) rfl (fun g'20=>gy_ rfl (s_mvI rfl (gy_ rfl (s_mvI rfl (gy_ rfl (b_ rfl rfl eql_ (pt_ rfl rfl (s_mvB rfl (em_ (g:=83) rfl (fun g'21=>gy_ rfl (l_ rfl (lk_other rfl (lk_other rfl lk_here)) rfl rfl (gy_ rfl (l_ rfl lk_here rfl rfl (gy_ rfl ((((e'18.2.1 g'19).1 g'20).1 g'21).elim fun r'22 e'23=>ca_ (sc rfl rfl (sc rfl rfl sn)) e'23.1 (pt_ rfl rfl (s_mvB rfl (eb_ (g:=88) rfl (fun g'24=>gy_ rfl (s_mvI rfl (gy_ rfl (s_mvI rfl (gy_ rfl (b_ rfl rfl eql_ (pt_ rfl rfl (s_mvB rfl (em_ (g:=93) rfl (fun g'25=>gy_ rfl (s_mvL H3 (gy_ rfl (s_mvL H9 (gy_ rfl (((e'23.2.1 g'24).1 g'25).elim fun r'26 e'27=>ca_ (sc rfl rfl (sc rfl rfl sn)) e'27.1 (pt_ rfl rfl (s_mvB rfl (e_ (rt_ (hQ _ _ _ rfl e'27.2))))))))))) (fun g'25=>gn_ (b:=false) rfl rfl (gn_ (b:=false) rfl rfl (gn_ (b:=false) rfl rfl (pf_ rfl rfl (s_mvB rfl (e_ (rt_ (hQ _ _ _ rfl ((e'23.2.1 g'24).2 g'25)))))))))))))))))) (fun g'24=>gn_ (b:=false) rfl rfl (gn_ (b:=false) rfl rfl (gn_ (b:=false) rfl rfl (pf_ rfl rfl (s_mvB rfl (gn_ (b:=false) rfl rfl (gn_ (b:=false) rfl rfl (gn_ (b:=false) rfl rfl (pf_ rfl rfl (s_mvB rfl (e_ (rt_ (hQ _ _ _ rfl (e'23.2.2 g'24))))))))))))))))))))))) (fun g'21=>gn_ (b:=false) rfl rfl (gn_ (b:=false) rfl rfl (gn_ (b:=false) rfl rfl (pf_ rfl rfl (s_mvB rfl (gn_ (b:=false) rfl rfl (gn_ (b:=false) rfl rfl (gn_ (b:=false) rfl rfl (pf_ rfl rfl (s_mvB rfl (gn_ (b:=false) rfl rfl (gn_ (b:=false) rfl rfl (gn_ (b:=false) rfl rfl (pf_ rfl rfl (s_mvB rfl (e_ (rt_ (hQ _ _ _ rfl (((e'18.2.1 g'19).1 g'20).2 g'21)))))))))))))))))))))))))))) (fun g'20=>gn_ (b:=false) rfl rfl (gn_ (b:=false) rfl rfl (gn_ (b:=false) rfl rfl (pf_ rfl rfl (s_mvB rfl (gn_ (b:=false) rfl rfl (gn_ (b:=false) rfl rfl (gn_ (b:=false) rfl rfl (pf_ rfl rfl (s_mvB rfl (gn_ (b:=false) rfl rfl (gn_ (b:=false) rfl rfl (gn_ (b:=false) rfl rfl (pf_ rfl rfl (s_mvB rfl (gn_ (b:=false) rfl rfl (gn_ (b:=false) rfl rfl (gn_ (b:=false) rfl rfl (pf_ rfl rfl (s_mvB rfl (e_ (rt_ (hQ _ _ _ rfl ((e'18.2.1 g'19).2 g'20))))))))))))))))))))))))))))))))) (fun g'19=>gn_ (b:=false) rfl rfl (gn_ (b:=false) rfl rfl (gn_ (b:=false) rfl rfl (pf_ rfl rfl (s_mvB rfl (gn_ (b:=false) rfl rfl (gn_ (b:=false) rfl rfl (gn_ (b:=false) rfl rfl (pf_ rfl rfl (s_mvB rfl (gn_ (b:=false) rfl rfl (gn_ (b:=false) rfl rfl (gn_ (b:=false) rfl rfl (pf_ rfl rfl (s_mvB rfl (gn_ (b:=false) rfl rfl (gn_ (b:=false) rfl rfl (gn_ (b:=false) rfl rfl (pf_ rfl rfl (s_mvB rfl (gn_ (b:=false) rfl rfl (gn_ (b:=false) rfl rfl (gn_ (b:=false) rfl rfl (pf_ rfl rfl (s_mvB rfl (e_ (rt_ (hQ _ _ _ rfl (e'18.2.2 g'19)))))))))))))))))))))))))))))))))))))) (fun g'16=>gn_ (b:=false) rfl rfl (gn_ (b:=false) rfl rfl (gn_ (b:=false) rfl rfl (pf_ rfl rfl (s_mvB rfl (gn_ (b:=false) rfl rfl (gn_ (b:=false) rfl rfl (gn_ (b:=false) rfl rfl (pf_ rfl rfl (s_mvB rfl (gn_ (b:=false) rfl rfl (gn_ (b:=false) rfl rfl (gn_ (b:=false) rfl rfl (pf_ rfl rfl (s_mvB rfl (gn_ (b:=false) rfl rfl (gn_ (b:=false) rfl rfl (gn_ (b:=false) rfl rfl (pf_ rfl rfl (s_mvB rfl (gn_ (b:=false) rfl rfl (gn_ (b:=false) rfl rfl (gn_ (b:=false) rfl rfl (pf_ rfl rfl (s_mvB rfl (gn_ (b:=false) rfl rfl (gn_ (b:=false) rfl rfl (gn_ (b:=false) rfl rfl (pf_ rfl rfl (s_mvB rfl (e_ (rt_ (hQ _ _ _ rfl (e'15.2.2 g'16))))))))))))))))))))))))))))))))))))))))))))))))))))))))))))))))))))))))))))))))))
theorem w67_3 {k1:Int}{l3 was9:List (List UInt8)}{m0:Img}{m1:Frm}{o_l3 o_was9:Own}{v0:Nat}{v1:Nat}(H1:σ 1 = .i .i64 k1)(H3:σ 3 = .sl o_l3 (List.map rowS l3))(H4:σ 4 = .p (d,0) v0 0)(H6:σ 6 = .p (d,1) v1 0)(H9:σ 9 = .sl o_was9 (List.map rowS was9))(A9:ApM d st.ow o_was9 was9.length)(B0:lk st.bx (d,0) = some (v0,[.sl .ext (List.map Typ.row m0.types),.sl .ext (List.map rowS m0.texts),.sl .ext (List.map Fun.row m0.funcs)]))(B1:lk st.bx (d,1) = some (v1,[.i .i64 m1.func,.i .i64 m1.pos,.i .u64 m1.mode,.sl .ext (List.map Loc.row m1.locals)]))(h:T67_3 prog K k1 l3 was9 m0 m1):W prog d c67_1 σ st Q:=
 q_ rfl (l_ H4 B0 rfl rfl (m_ (l_ H6 B1 rfl rfl (h.elim fun r'1 e'4=>e'4.elim fun r'2 e'3=>ca_ (sc rfl rfl (sc H1 rfl (sc rfl rfl sn))) e'3.1 (m_ (x_ rfl rfl (x_ rfl rfl (s_mvL rfl (m_ (e_ (w67_4 hQ H1 H3 H4 H6 H9 rfl rfl A9 B0 B1 e'3.2)))))))))))
theorem w67_2 {k1:Int}{l3:List (List UInt8)}{m0:Img}{m1:Frm}{o_l3:Own}{v0:Nat}{v1:Nat}(H1:σ 1 = .i .i64 k1)(H3:σ 3 = .sl o_l3 (List.map rowS l3))(H4:σ 4 = .p (d,0) v0 0)(H6:σ 6 = .p (d,1) v1 0)(B0:lk st.bx (d,0) = some (v0,[.sl .ext (List.map Typ.row m0.types),.sl .ext (List.map rowS m0.texts),.sl .ext (List.map Fun.row m0.funcs)]))(B1:lk st.bx (d,1) = some (v1,[.i .i64 m1.func,.i .i64 m1.pos,.i .u64 m1.mode,.sl .ext (List.map Loc.row m1.locals)]))(h:T67_2 prog K k1 l3 m0 m1):W prog d c67_2 σ st Q:=
 q_ rfl (s_bslM (f:=rowS) (l:=([]:List (List UInt8))) rfl rfl g_nil rfl (s_mvL H3 (s_app rowS_len rfl (show _ = AV.sl .full (List.map rowS []) from rfl) rfl App.full h.1 rfl (fun o'1 ow'4 a'2 fr'3 on'5=>s_mvL rfl (e_ (w67_3 hQ H1 H3 H4 H6 rfl (ApM.mk a'2 (Mine.app (show Mine d Own.full from trivial) rfl on'5)) B0 B1 h.2))))))
theorem w67_1 {k1:Int}{l3:List (List UInt8)}{m0:Img}{m1:Frm}{o_l3:Own}{v0:Nat}{v1:Nat}(H1:σ 1 = .i .i64 k1)(H3:σ 3 = .sl o_l3 (List.map rowS l3))(H4:σ 4 = .p (d,0) v0 0)(H6:σ 6 = .p (d,1) v1 0)(B0:lk st.bx (d,0) = some (v0,[.sl .ext (List.map Typ.row m0.types),.sl .ext (List.map rowS m0.texts),.sl .ext (List.map Fun.row m0.funcs)]))(B1:lk st.bx (d,1) = some (v1,[.i .i64 m1.func,.i .i64 m1.pos,.i .u64 m1.mode,.sl .ext (List.map Loc.row m1.locals)]))(h:T67_1 prog K k1 l3 m0 m1):W prog d c67_3 σ st Q:=
 sq_ (q_ rfl (l_ H4 B0 rfl rfl (h.elim fun r'1 e'2=>ca_ (sc rfl rfl sn) e'2.1 (s_mvB rfl (eb_ (g:=22) rfl (fun g'3=>gn_ (b:=true) rfl rfl (gn_ (b:=true) rfl rfl (pt_ rfl rfl (s_mvB rfl (gn_ (b:=true) rfl rfl (gn_ (b:=true) rfl rfl (pt_ rfl rfl (e_ (ct_ rfl (q_ rfl (m_ (e_ (rt_ (hQ _ _ _ rfl (e'2.2.1 g'3))))))))))))))) (fun g'3=>gy_ rfl (l_ H6 B1 rfl rfl (gy_ rfl ((e'2.2.2 g'3).elim fun r'4 e'5=>ca_ (sc rfl rfl sn) e'5.1 (pf_ rfl rfl (s_mvB rfl (eb_ (g:=26) rfl (fun g'6=>gn_ (b:=true) rfl rfl (gn_ (b:=true) rfl rfl (pt_ rfl rfl (e_ (ct_ rfl (q_ rfl (m_ (e_ (rt_ (hQ _ _ _ rfl (e'5.2.1 g'6))))))))))) (fun g'6=>gy_ rfl (s_mvL H3 (gy_ rfl ((e'5.2.2 g'6).elim fun r'7 e'8=>ca_ (sc rfl rfl sn) e'8.1 (pf_ rfl rfl (e_ (cb_ rfl (fun g'9=>q_ rfl (m_ (e_ (rt_ (hQ _ _ _ rfl (e'8.2.1 g'9)))))) (fun g'9=>sk_ (w67_2 hQ H1 H3 H4 H6 B0 B1 (e'8.2.2 g'9))))))))))))))))))))))
theorem w67_0 {m0:Img}{k1:Int}{x2:Frm}{l3:List (List UInt8)}{o_l3:Own}(H0:σ 0 = m0.av)(H1:σ 1 = .i .i64 k1)(H2:σ 2 = x2.av)(H3:σ 3 = .sl o_l3 (List.map rowS l3))(h:T67_0 prog K m0 k1 x2 l3):W prog d (.seq (.reg 0 r67_0) c67_3) σ st Q:=
 q_ rfl (s_box H0 rfl (s_box H2 rfl (m_ (e_ (w67_1 hQ H1 H3 rfl rfl (lk_other rfl lk_here) lk_here h)))))
end
theorem p67 {prog:Prog}(hf:prog.fn 67 = some pf67){m0:Img}{k1:Int}{x2:Frm}{l3:List (List UInt8)}{K:Bool→Prop}(h:T67_0 prog K m0 k1 x2 l3) :∃res0:Bool,K res0∧Pus prog 67 [m0.av,.i .i64 k1,x2.av,.sl .ext (List.map rowS l3)] (.b res0):=by
  obtain ⟨v,hv,res0,hk,rfl⟩:=Pus.of (K:=fun v=>∃res0:Bool,K res0∧v = .b res0) hf rfl (w67_0 (σ:=sl0 [m0.av,.i .i64 k1,x2.av,.sl .ext (List.map rowS l3)]) (fun σ st   res0 H8 hk=>⟨.b res0,by simp only [pf67,ares,aresL,H8,ares1,Option.map_some],_,rfl,res0,hk,rfl⟩) rfl rfl rfl rfl h)
  exact ⟨res0,hk,hv⟩
abbrev H69 (Q:AE→Sl→St→Prop)(K:Bool→Prop):Prop:=∀(σ:Sl)(st:St)(res0:Bool),σ 4 = .b res0→K res0→Q .ret σ st
section
variable {prog:Prog}{d:Nat}{Q:AE→Sl→St→Prop}{K:Bool→Prop}(hQ:H69 Q K){σ:Sl}{st:St}
include hQ
end
abbrev H70 (Q:AE→Sl→St→Prop)(K:Bool→Prop):Prop:=∀(σ:Sl)(st:St)(res0:Bool),σ 4 = .b res0→K res0→Q .ret σ st
section
variable {prog:Prog}{d:Nat}{Q:AE→Sl→St→Prop}{K:Bool→Prop}(hQ:H70 Q K){σ:Sl}{st:St}
include hQ
end
abbrev H89 (d:Nat)(st0:St)(Q:AE→Sl→St→Prop)(K:Val→Prop):Prop:=∀(σ:Sl)(st:St)(k0:Key)(v0:Nat)(res0:Val),σ 4 = .p k0 v0 0→lk st.bx k0 = some (v0,[.i .u8 res0.kind,.i .i64 res0.int,.s res0.text,.sl .full (List.map Val.row res0.list),.b res0.cut])→Fr d (d,0) st0.bx st0.ow st.bx st.ow→K res0→Q .ret σ st
section
variable {prog:Prog}{d:Nat}{Q:AE→Sl→St→Prop}{K:Val→Prop}{st0:St}(hQ:H89 d st0 Q K){σ:Sl}{st:St}
include hQ
end
abbrev H90 (Q:AE→Sl→St→Prop)(K:Val→Prop):Prop:=∀(σ:Sl)(st:St)(k0:Key)(v0:Nat)(o0_0:Own)(res0:Val),σ 0 = .p k0 v0 0→lk st.bx k0 = some (v0,[.i .u8 res0.kind,.i .i64 res0.int,.s res0.text,.sl o0_0 (List.map Val.row res0.list),.b res0.cut])→K res0→Q .ret σ st
section
variable {prog:Prog}{d:Nat}{Q:AE→Sl→St→Prop}{K:Val→Prop}(hQ:H90 Q K){σ:Sl}{st:St}
include hQ
end
abbrev H91 (Q:AE→Sl→St→Prop)(K:Bool→Prop):Prop:=∀(σ:Sl)(st:St)(res0:Bool),σ 4 = .b res0→K res0→Q .ret σ st
section
variable {prog:Prog}{d:Nat}{Q:AE→Sl→St→Prop}{K:Bool→Prop}(hQ:H91 Q K){σ:Sl}{st:St}
include hQ
end
abbrev H92 (Q:AE→Sl→St→Prop)(K:Val→Prop):Prop:=∀(σ:Sl)(st:St)(k0:Key)(v0:Nat)(o0_0:Own)(res0:Val),σ 2 = .p k0 v0 0→lk st.bx k0 = some (v0,[.i .u8 res0.kind,.i .i64 res0.int,.s res0.text,.sl o0_0 (List.map Val.row res0.list),.b res0.cut])→K res0→Q .ret σ st
section
variable {prog:Prog}{d:Nat}{Q:AE→Sl→St→Prop}{K:Val→Prop}(hQ:H92 Q K){σ:Sl}{st:St}
include hQ
end
abbrev H93 (Q:AE→Sl→St→Prop)(K:Val→Prop):Prop:=∀(σ:Sl)(st:St)(k0:Key)(v0:Nat)(o0_0:Own)(res0:Val),σ 2 = .p k0 v0 0→lk st.bx k0 = some (v0,[.i .u8 res0.kind,.i .i64 res0.int,.s res0.text,.sl o0_0 (List.map Val.row res0.list),.b res0.cut])→K res0→Q .ret σ st
section
variable {prog:Prog}{d:Nat}{Q:AE→Sl→St→Prop}{K:Val→Prop}(hQ:H93 Q K){σ:Sl}{st:St}
include hQ
end
abbrev H98 (Q:AE→Sl→St→Prop)(K:Bool→Prop):Prop:=∀(σ:Sl)(st:St)(res0:Bool),σ 2 = .b res0→K res0→Q .ret σ st
section
variable {prog:Prog}{d:Nat}{Q:AE→Sl→St→Prop}{K:Bool→Prop}(hQ:H98 Q K){σ:Sl}{st:St}
include hQ
end
abbrev H99 (Q:AE→Sl→St→Prop)(K:Img→Prop):Prop:=∀(σ:Sl)(st:St)(k0:Key)(v0:Nat) (o0_0 o0_1 o0_2:Own)(res0:Img),σ 0 = .p k0 v0 0→lk st.bx k0 = some (v0,[.sl o0_0 (List.map Typ.row res0.types),.sl o0_1 (List.map rowS res0.texts),.sl o0_2 (List.map Fun.row res0.funcs)])→K res0→Q .ret σ st
section
variable {prog:Prog}{d:Nat}{Q:AE→Sl→St→Prop}{K:Img→Prop}(hQ:H99 Q K){σ:Sl}{st:St}
include hQ
end
abbrev H101 (Q:AE→Sl→St→Prop)(K:Bool→Prop):Prop:=∀(σ:Sl)(st:St)(res0:Bool),σ 0 = .b res0→K res0→Q .ret σ st
section
variable {prog:Prog}{d:Nat}{Q:AE→Sl→St→Prop}{K:Bool→Prop}(hQ:H101 Q K){σ:Sl}{st:St}
include hQ
end
abbrev H125 (Q:AE→Sl→St→Prop)(K:Val→Prop):Prop:=∀(σ:Sl)(st:St)(k0:Key)(v0:Nat)(o0_0:Own)(res0:Val),σ 0 = .p k0 v0 0→lk st.bx k0 = some (v0,[.i .u8 res0.kind,.i .i64 res0.int,.s res0.text,.sl o0_0 (List.map Val.row res0.list),.b res0.cut])→K res0→Q .ret σ st
section
variable {prog:Prog}{d:Nat}{Q:AE→Sl→St→Prop}{K:Val→Prop}(hQ:H125 Q K){σ:Sl}{st:St}
include hQ
end
end Go.AM

/- MADE BY PROGRAM (seat2.py): the types of the program, and that its code is the machine's. -/
namespace Go.Proofs
open Go.Shelf
def Try.lays169_ren : Go.Shelf.Ren := ⟨fun | 169 => 43 | n => n, fun | 70 => 85 | 9 => 9 | 0 => 0 | 72 => 87 | 37 => 66 | 127 => 120 | 3 => 3 | 5 => 5 | n => n, fun | n => n⟩
theorem Try.lays169 : Go.Proofs.Lays.n169 Try.prog Try.lays169_ren := {
  mixed := by kernel_rfl
  f169 := Try.func43.trans (congrArg some (by kernel_rfl))
  t0 := Try.underlying0
  a0 := Try.isAgg0
  z0 := Try.sizeOf0
  v0 := Try.zeroValue0
  t3 := Try.underlying3
  a3 := Try.isAgg3
  z3 := Try.sizeOf3
  v3 := Try.zeroValue3
  t9 := Try.underlying9
  a9 := Try.isAgg9
  z9 := Try.sizeOf9
  v9 := Try.zeroValue9
  t37 := Try.underlying66
  a37 := Try.isAgg66
  z37 := Try.sizeOf66
  v37 := Try.zeroValue66
  t70 := Try.underlying85
  a70 := Try.isAgg85
  z70 := Try.sizeOf85
  v70 := Try.zeroValue85
  t72 := Try.underlying87
  a72 := Try.isAgg87
  z72 := Try.sizeOf87
  v72 := Try.zeroValue87
  t127 := Try.underlying120
  a127 := Try.isAgg120
  z127 := Try.sizeOf120
  v127 := Try.zeroValue120 }

theorem Try.extraB : Builder.Extra Try.prog Try.lays169_ren := {
  sizeBuilder := by kernel_rfl
  liesBuilder := by kernel_rfl
  t5 := Try.underlying5
  a5 := Try.isAgg5
  z5 := Try.sizeOf5
  v5 := Try.zeroValue5
  infoByte := by kernel_rfl
  cellsByte := by kernel_rfl
  sizeByte := by kernel_rfl
  neB5 := by decide }
end Go.Proofs
namespace Go.Proofs.Ytcojcdpoeaaigaa
open Go Go.AM

def tys : List (Nat × TI) := [
(2, ⟨.int .i64, 1, 8, [.i .i64 0]⟩),
  (3, ⟨.int .i64, 1, 8, [.i .i64 0]⟩),
  (4, ⟨.bool, 1, 1, [.b false]⟩),
  (5, ⟨.int .u8, 1, 1, [.i .u8 0]⟩),
  (9, ⟨.str, 1, 16, [.s []]⟩),
  (22, ⟨.sl 24, 1, 24, [.sl .full []]⟩),
  (24, ⟨.st [(5, 0), (2, 1), (9, 2), (22, 3), (4, 4)], 5, 64, [.i .u8 0, .i .i64 0, .s [], .sl .full [], .b false]⟩),
  (26, ⟨.int .i64, 1, 8, [.i .i64 0]⟩),
  (39, ⟨.sl 175, 1, 24, [.sl .full []]⟩),
  (40, ⟨.sl 9, 1, 24, [.sl .full []]⟩),
  (41, ⟨.sl 81, 1, 24, [.sl .full []]⟩),
  (43, ⟨.st [(39, 0), (40, 1), (41, 2)], 3, 72, [.sl .full [], .sl .full [], .sl .full []]⟩),
  (44, ⟨.int .u64, 1, 8, [.i .u64 0]⟩),
  (45, ⟨.sl 74, 1, 24, [.sl .full []]⟩),
  (47, ⟨.st [(3, 0), (3, 1), (44, 2), (45, 3)], 4, 48, [.i .i64 0, .i .i64 0, .i .u64 0, .sl .full []]⟩),
  (66, ⟨.sl 5, 1, 24, [.sl .full []]⟩),
  (71, ⟨.other, 1, 8, [.nf]⟩),
  (74, ⟨.st [(3, 0), (24, 1)], 6, 72, [.i .i64 0, .i .u8 0, .i .i64 0, .s [], .sl .full [], .b false]⟩),
  (76, ⟨.st [(9, 0), (3, 1)], 2, 24, [.s [], .i .i64 0]⟩),
  (77, ⟨.sl 76, 1, 24, [.sl .full []]⟩),
  (78, ⟨.sl 177, 1, 24, [.sl .full []]⟩),
  (79, ⟨.sl 179, 1, 24, [.sl .full []]⟩),
  (81, ⟨.st [(9, 0), (3, 1), (3, 2), (77, 3), (78, 4), (79, 5), (79, 6)], 7, 128, [.s [], .i .i64 0, .i .i64 0, .sl .full [], .sl .full [], .sl .full [], .sl .full []]⟩),
  (85, ⟨.ptr 87, 1, 8, [.np]⟩),
  (87, ⟨.st [(85, 0), (66, 1)], 2, 32, [.np, .sl .full []]⟩),
  (91, ⟨.ptr 93, 1, 8, [.np]⟩),
  (93, ⟨.st [(9, 0)], 1, 16, [.s []]⟩),
  (102, ⟨.arr 4 9, 4, 64, [.s [], .s [], .s [], .s []]⟩),
  (111, ⟨.other, 1, 8, [.nf]⟩),
  (113, ⟨.arr 8 9, 8, 128, [.s [], .s [], .s [], .s [], .s [], .s [], .s [], .s []]⟩),
  (115, ⟨.other, 1, 16, [.ni]⟩),
  (150, ⟨.uptr, 1, 8, [.np]⟩),
  (152, ⟨.arr 64 5, 64, 64, [.i .u8 0, .i .u8 0, .i .u8 0, .i .u8 0, .i .u8 0, .i .u8 0, .i .u8 0, .i .u8 0, .i .u8 0, .i .u8 0, .i .u8 0, .i .u8 0, .i .u8 0, .i .u8 0, .i .u8 0, .i .u8 0, .i .u8 0, .i .u8 0, .i .u8 0, .i .u8 0, .i .u8 0, .i .u8 0, .i .u8 0, .i .u8 0, .i .u8 0, .i .u8 0, .i .u8 0, .i .u8 0, .i .u8 0, .i .u8 0, .i .u8 0, .i .u8 0, .i .u8 0, .i .u8 0, .i .u8 0, .i .u8 0, .i .u8 0, .i .u8 0, .i .u8 0, .i .u8 0, .i .u8 0, .i .u8 0, .i .u8 0, .i .u8 0, .i .u8 0, .i .u8 0, .i .u8 0, .i .u8 0, .i .u8 0, .i .u8 0, .i .u8 0, .i .u8 0, .i .u8 0, .i .u8 0, .i .u8 0, .i .u8 0, .i .u8 0, .i .u8 0, .i .u8 0, .i .u8 0, .i .u8 0, .i .u8 0, .i .u8 0, .i .u8 0]⟩),
  (175, ⟨.st [(5, 0), (3, 1), (3, 2), (77, 3)], 4, 48, [.i .u8 0, .i .i64 0, .i .i64 0, .sl .full []]⟩),
  (177, ⟨.st [(5, 0), (3, 1), (3, 2), (3, 3)], 4, 32, [.i .u8 0, .i .i64 0, .i .i64 0, .i .i64 0]⟩),
  (179, ⟨.st [(3, 0), (44, 1)], 2, 16, [.i .i64 0, .i .u64 0]⟩)]
theorem ty2 : TOk Try.prog 2 (((2, ⟨.int .i64, 1, 8, [.i .i64 0]⟩) : Nat × TI).2) := TOk.of (ti := Try.t2) (by kernel_rfl) (by kernel_rfl) (by kernel_rfl) (show Try.prog.underlying 2 = some (.int .i64) from by kernel_rfl)
theorem ty3 : TOk Try.prog 3 (((3, ⟨.int .i64, 1, 8, [.i .i64 0]⟩) : Nat × TI).2) := TOk.of (ti := Try.t3) (by kernel_rfl) (by kernel_rfl) (by kernel_rfl) (show Try.prog.underlying 3 = some (.int .i64) from by kernel_rfl)
theorem ty4 : TOk Try.prog 4 (((4, ⟨.bool, 1, 1, [.b false]⟩) : Nat × TI).2) := TOk.of (ti := Try.t4) (by kernel_rfl) (by kernel_rfl) (by kernel_rfl) (show Try.prog.underlying 4 = some (.bool) from by kernel_rfl)
theorem ty5 : TOk Try.prog 5 (((5, ⟨.int .u8, 1, 1, [.i .u8 0]⟩) : Nat × TI).2) := TOk.of (ti := Try.t5) (by kernel_rfl) (by kernel_rfl) (by kernel_rfl) (show Try.prog.underlying 5 = some (.int .u8) from by kernel_rfl)
theorem ty9 : TOk Try.prog 9 (((9, ⟨.str, 1, 16, [.s []]⟩) : Nat × TI).2) := TOk.of (ti := Try.t9) (by kernel_rfl) (by kernel_rfl) (by kernel_rfl) (show Try.prog.underlying 9 = some (.string) from by kernel_rfl)
theorem ty22 : TOk Try.prog 22 (((22, ⟨.sl 24, 1, 24, [.sl .full []]⟩) : Nat × TI).2) := TOk.of (ti := Try.t22) (by kernel_rfl) (by kernel_rfl) (by kernel_rfl) (show Try.prog.underlying 22 = some (.slice 24) from by kernel_rfl)
theorem ty24 : TOk Try.prog 24 (((24, ⟨.st [(5, 0), (2, 1), (9, 2), (22, 3), (4, 4)], 5, 64, [.i .u8 0, .i .i64 0, .s [], .sl .full [], .b false]⟩) : Nat × TI).2) := TOk.of (ti := Try.t24) (by kernel_rfl) (by kernel_rfl) (by kernel_rfl) (TK.ok_st (by kernel_rfl))
theorem ty26 : TOk Try.prog 26 (((26, ⟨.int .i64, 1, 8, [.i .i64 0]⟩) : Nat × TI).2) := TOk.of (ti := Try.t26) (by kernel_rfl) (by kernel_rfl) (by kernel_rfl) (show Try.prog.underlying 26 = some (.int .i64) from by kernel_rfl)
theorem ty39 : TOk Try.prog 39 (((39, ⟨.sl 175, 1, 24, [.sl .full []]⟩) : Nat × TI).2) := TOk.of (ti := Try.t39) (by kernel_rfl) (by kernel_rfl) (by kernel_rfl) (show Try.prog.underlying 39 = some (.slice 175) from by kernel_rfl)
theorem ty40 : TOk Try.prog 40 (((40, ⟨.sl 9, 1, 24, [.sl .full []]⟩) : Nat × TI).2) := TOk.of (ti := Try.t40) (by kernel_rfl) (by kernel_rfl) (by kernel_rfl) (show Try.prog.underlying 40 = some (.slice 9) from by kernel_rfl)
theorem ty41 : TOk Try.prog 41 (((41, ⟨.sl 81, 1, 24, [.sl .full []]⟩) : Nat × TI).2) := TOk.of (ti := Try.t41) (by kernel_rfl) (by kernel_rfl) (by kernel_rfl) (show Try.prog.underlying 41 = some (.slice 81) from by kernel_rfl)
theorem ty43 : TOk Try.prog 43 (((43, ⟨.st [(39, 0), (40, 1), (41, 2)], 3, 72, [.sl .full [], .sl .full [], .sl .full []]⟩) : Nat × TI).2) := TOk.of (ti := Try.t43) (by kernel_rfl) (by kernel_rfl) (by kernel_rfl) (TK.ok_st (by kernel_rfl))
theorem ty44 : TOk Try.prog 44 (((44, ⟨.int .u64, 1, 8, [.i .u64 0]⟩) : Nat × TI).2) := TOk.of (ti := Try.t44) (by kernel_rfl) (by kernel_rfl) (by kernel_rfl) (show Try.prog.underlying 44 = some (.int .u64) from by kernel_rfl)
theorem ty45 : TOk Try.prog 45 (((45, ⟨.sl 74, 1, 24, [.sl .full []]⟩) : Nat × TI).2) := TOk.of (ti := Try.t45) (by kernel_rfl) (by kernel_rfl) (by kernel_rfl) (show Try.prog.underlying 45 = some (.slice 74) from by kernel_rfl)
theorem ty47 : TOk Try.prog 47 (((47, ⟨.st [(3, 0), (3, 1), (44, 2), (45, 3)], 4, 48, [.i .i64 0, .i .i64 0, .i .u64 0, .sl .full []]⟩) : Nat × TI).2) := TOk.of (ti := Try.t47) (by kernel_rfl) (by kernel_rfl) (by kernel_rfl) (TK.ok_st (by kernel_rfl))
theorem ty66 : TOk Try.prog 66 (((66, ⟨.sl 5, 1, 24, [.sl .full []]⟩) : Nat × TI).2) := TOk.of (ti := Try.t66) (by kernel_rfl) (by kernel_rfl) (by kernel_rfl) (show Try.prog.underlying 66 = some (.slice 5) from by kernel_rfl)
theorem ty71 : TOk Try.prog 71 (((71, ⟨.other, 1, 8, [.nf]⟩) : Nat × TI).2) := TOk.of (ti := Try.t71) (by kernel_rfl) (by kernel_rfl) (by kernel_rfl) (TK.ok_other (by kernel_rfl))
theorem ty74 : TOk Try.prog 74 (((74, ⟨.st [(3, 0), (24, 1)], 6, 72, [.i .i64 0, .i .u8 0, .i .i64 0, .s [], .sl .full [], .b false]⟩) : Nat × TI).2) := TOk.of (ti := Try.t74) (by kernel_rfl) (by kernel_rfl) (by kernel_rfl) (TK.ok_st (by kernel_rfl))
theorem ty76 : TOk Try.prog 76 (((76, ⟨.st [(9, 0), (3, 1)], 2, 24, [.s [], .i .i64 0]⟩) : Nat × TI).2) := TOk.of (ti := Try.t76) (by kernel_rfl) (by kernel_rfl) (by kernel_rfl) (TK.ok_st (by kernel_rfl))
theorem ty77 : TOk Try.prog 77 (((77, ⟨.sl 76, 1, 24, [.sl .full []]⟩) : Nat × TI).2) := TOk.of (ti := Try.t77) (by kernel_rfl) (by kernel_rfl) (by kernel_rfl) (show Try.prog.underlying 77 = some (.slice 76) from by kernel_rfl)
theorem ty78 : TOk Try.prog 78 (((78, ⟨.sl 177, 1, 24, [.sl .full []]⟩) : Nat × TI).2) := TOk.of (ti := Try.t78) (by kernel_rfl) (by kernel_rfl) (by kernel_rfl) (show Try.prog.underlying 78 = some (.slice 177) from by kernel_rfl)
theorem ty79 : TOk Try.prog 79 (((79, ⟨.sl 179, 1, 24, [.sl .full []]⟩) : Nat × TI).2) := TOk.of (ti := Try.t79) (by kernel_rfl) (by kernel_rfl) (by kernel_rfl) (show Try.prog.underlying 79 = some (.slice 179) from by kernel_rfl)
theorem ty81 : TOk Try.prog 81 (((81, ⟨.st [(9, 0), (3, 1), (3, 2), (77, 3), (78, 4), (79, 5), (79, 6)], 7, 128, [.s [], .i .i64 0, .i .i64 0, .sl .full [], .sl .full [], .sl .full [], .sl .full []]⟩) : Nat × TI).2) := TOk.of (ti := Try.t81) (by kernel_rfl) (by kernel_rfl) (by kernel_rfl) (TK.ok_st (by kernel_rfl))
theorem ty85 : TOk Try.prog 85 (((85, ⟨.ptr 87, 1, 8, [.np]⟩) : Nat × TI).2) := TOk.of (ti := Try.t85) (by kernel_rfl) (by kernel_rfl) (by kernel_rfl) (And.intro (by kernel_rfl) (by kernel_rfl))
theorem ty87 : TOk Try.prog 87 (((87, ⟨.st [(85, 0), (66, 1)], 2, 32, [.np, .sl .full []]⟩) : Nat × TI).2) := TOk.of (ti := Try.t87) (by kernel_rfl) (by kernel_rfl) (by kernel_rfl) (TK.ok_st (by kernel_rfl))
theorem ty91 : TOk Try.prog 91 (((91, ⟨.ptr 93, 1, 8, [.np]⟩) : Nat × TI).2) := TOk.of (ti := Try.t91) (by kernel_rfl) (by kernel_rfl) (by kernel_rfl) (And.intro (by kernel_rfl) (by kernel_rfl))
theorem ty93 : TOk Try.prog 93 (((93, ⟨.st [(9, 0)], 1, 16, [.s []]⟩) : Nat × TI).2) := TOk.of (ti := Try.t93) (by kernel_rfl) (by kernel_rfl) (by kernel_rfl) (TK.ok_st (by kernel_rfl))
theorem ty102 : TOk Try.prog 102 (((102, ⟨.arr 4 9, 4, 64, [.s [], .s [], .s [], .s []]⟩) : Nat × TI).2) := TOk.of (ti := Try.t102) (by kernel_rfl) (by kernel_rfl) (by kernel_rfl) (show Try.prog.underlying 102 = some (.array 4 9) from by kernel_rfl)
theorem ty111 : TOk Try.prog 111 (((111, ⟨.other, 1, 8, [.nf]⟩) : Nat × TI).2) := TOk.of (ti := Try.t111) (by kernel_rfl) (by kernel_rfl) (by kernel_rfl) (TK.ok_other (by kernel_rfl))
theorem ty113 : TOk Try.prog 113 (((113, ⟨.arr 8 9, 8, 128, [.s [], .s [], .s [], .s [], .s [], .s [], .s [], .s []]⟩) : Nat × TI).2) := TOk.of (ti := Try.t113) (by kernel_rfl) (by kernel_rfl) (by kernel_rfl) (show Try.prog.underlying 113 = some (.array 8 9) from by kernel_rfl)
theorem ty115 : TOk Try.prog 115 (((115, ⟨.other, 1, 16, [.ni]⟩) : Nat × TI).2) := TOk.of (ti := Try.t115) (by kernel_rfl) (by kernel_rfl) (by kernel_rfl) (TK.ok_other (by kernel_rfl))
theorem ty150 : TOk Try.prog 150 (((150, ⟨.uptr, 1, 8, [.np]⟩) : Nat × TI).2) := TOk.of (ti := Try.t150) (by kernel_rfl) (by kernel_rfl) (by kernel_rfl) (show Try.prog.underlying 150 = some (.unsafePointer) from by kernel_rfl)
theorem ty152 : TOk Try.prog 152 (((152, ⟨.arr 64 5, 64, 64, [.i .u8 0, .i .u8 0, .i .u8 0, .i .u8 0, .i .u8 0, .i .u8 0, .i .u8 0, .i .u8 0, .i .u8 0, .i .u8 0, .i .u8 0, .i .u8 0, .i .u8 0, .i .u8 0, .i .u8 0, .i .u8 0, .i .u8 0, .i .u8 0, .i .u8 0, .i .u8 0, .i .u8 0, .i .u8 0, .i .u8 0, .i .u8 0, .i .u8 0, .i .u8 0, .i .u8 0, .i .u8 0, .i .u8 0, .i .u8 0, .i .u8 0, .i .u8 0, .i .u8 0, .i .u8 0, .i .u8 0, .i .u8 0, .i .u8 0, .i .u8 0, .i .u8 0, .i .u8 0, .i .u8 0, .i .u8 0, .i .u8 0, .i .u8 0, .i .u8 0, .i .u8 0, .i .u8 0, .i .u8 0, .i .u8 0, .i .u8 0, .i .u8 0, .i .u8 0, .i .u8 0, .i .u8 0, .i .u8 0, .i .u8 0, .i .u8 0, .i .u8 0, .i .u8 0, .i .u8 0, .i .u8 0, .i .u8 0, .i .u8 0, .i .u8 0]⟩) : Nat × TI).2) := TOk.of (ti := Try.t152) (by kernel_rfl) (by kernel_rfl) (by kernel_rfl) (show Try.prog.underlying 152 = some (.array 64 5) from by kernel_rfl)
theorem ty175 : TOk Try.prog 175 (((175, ⟨.st [(5, 0), (3, 1), (3, 2), (77, 3)], 4, 48, [.i .u8 0, .i .i64 0, .i .i64 0, .sl .full []]⟩) : Nat × TI).2) := TOk.of (ti := Try.t175) (by kernel_rfl) (by kernel_rfl) (by kernel_rfl) (TK.ok_st (by kernel_rfl))
theorem ty177 : TOk Try.prog 177 (((177, ⟨.st [(5, 0), (3, 1), (3, 2), (3, 3)], 4, 32, [.i .u8 0, .i .i64 0, .i .i64 0, .i .i64 0]⟩) : Nat × TI).2) := TOk.of (ti := Try.t177) (by kernel_rfl) (by kernel_rfl) (by kernel_rfl) (TK.ok_st (by kernel_rfl))
theorem ty179 : TOk Try.prog 179 (((179, ⟨.st [(3, 0), (44, 1)], 2, 16, [.i .i64 0, .i .u64 0]⟩) : Nat × TI).2) := TOk.of (ti := Try.t179) (by kernel_rfl) (by kernel_rfl) (by kernel_rfl) (TK.ok_st (by kernel_rfl))
theorem tys_ok : ∀ x ∈ tys, TOk Try.prog x.1 x.2 := by
  unfold tys
  simp only [List.mem_cons, List.not_mem_nil, or_false, forall_eq_or_imp, forall_eq]
  exact ⟨ty2, ty3, ty4, ty5, ty9, ty22, ty24, ty26, ty39, ty40, ty41, ty43, ty44, ty45, ty47, ty66, ty71, ty74, ty76, ty77, ty78, ty79, ty81, ty85, ty87, ty91, ty93, ty102, ty111, ty113, ty115, ty150, ty152, ty175, ty177, ty179⟩
def fms : List (Nat × Nat) := [(2, 2), (3, 66), (4, 67), (5, 68), (6, 69), (7, 70), (8, 71), (9, 72), (10, 73), (11, 74), (12, 75), (13, 76), (14, 77), (15, 78), (16, 79), (17, 80), (18, 81), (19, 82), (20, 83), (21, 84), (22, 85), (23, 86), (24, 87), (25, 29), (26, 88), (27, 89), (28, 90), (29, 91), (30, 92), (31, 93), (32, 94), (33, 95), (34, 96), (35, 97), (36, 98), (37, 99), (38, 100), (39, 101), (40, 102), (41, 103), (42, 104), (43, 105), (44, 106), (45, 107), (46, 108), (47, 109), (48, 110), (49, 111), (50, 112), (51, 113), (52, 114), (53, 115), (54, 116), (55, 117), (56, 118), (57, 119), (58, 120), (59, 121), (60, 122), (61, 123), (62, 124), (63, 125), (64, 126), (65, 15), (66, 11), (67, 16), (68, 31), (69, 127), (70, 128), (71, 129), (72, 130), (73, 131), (74, 132), (75, 133), (76, 134), (77, 26), (78, 135), (79, 22), (80, 136), (81, 137), (82, 138), (83, 139), (84, 140), (85, 141), (86, 142), (87, 143), (88, 144), (89, 145), (90, 34), (91, 30), (92, 35), (93, 41), (94, 36), (95, 25), (96, 21), (97, 40), (98, 38), (99, 146), (100, 42), (101, 39), (102, 37), (103, 44), (104, 46), (105, 45), (106, 43), (107, 47), (108, 48), (1000000000000, 1000000087), (1000000000001, 1000000005)]
def X : Cx := ⟨tabOf tys, fmOf fms, fun c => [30, 89, 104, 105, 107, 115, 116, 117, 120, 122, 123, 126, 128, 129, 130, 131, 139, 140, 144, 145, 146].contains c⟩
theorem ok42 : FnOk Try.prog X 100 pf42 := FnOk.of Try.func100 (by kernel_rfl) (by kernel_rfl) (by kernel_rfl) (by kernel_rfl) (by kernel_rfl)
theorem ok46 : FnOk Try.prog X 104 pf46 := FnOk.of Try.func104 (by kernel_rfl) (by kernel_rfl) (by kernel_rfl) (by kernel_rfl) (by kernel_rfl)
theorem ok36 : FnOk Try.prog X 94 pf36 := FnOk.of Try.func94 (by kernel_rfl) (by kernel_rfl) (by kernel_rfl) (by kernel_rfl) (by kernel_rfl)
theorem ok43 : FnOk Try.prog X 106 pf43 := FnOk.of Try.func106 (by kernel_rfl) (by kernel_rfl) (by kernel_rfl) (by kernel_rfl) (by kernel_rfl)
theorem ok47 : FnOk Try.prog X 107 pf47 := FnOk.of Try.func107 (by kernel_rfl) (by kernel_rfl) (by kernel_rfl) (by kernel_rfl) (by kernel_rfl)
theorem ok11 : FnOk Try.prog X 66 pf11 := FnOk.of Try.func66 (by kernel_rfl) (by kernel_rfl) (by kernel_rfl) (by kernel_rfl) (by kernel_rfl)
theorem ok15 : FnOk Try.prog X 65 pf15 := FnOk.of Try.func65 (by kernel_rfl) (by kernel_rfl) (by kernel_rfl) (by kernel_rfl) (by kernel_rfl)
theorem ok21 : FnOk Try.prog X 96 pf21 := FnOk.of Try.func96 (by kernel_rfl) (by kernel_rfl) (by kernel_rfl) (by kernel_rfl) (by kernel_rfl)
theorem ok25 : FnOk Try.prog X 95 pf25 := FnOk.of Try.func95 (by kernel_rfl) (by kernel_rfl) (by kernel_rfl) (by kernel_rfl) (by kernel_rfl)
theorem ok30 : FnOk Try.prog X 91 pf30 := FnOk.of Try.func91 (by kernel_rfl) (by kernel_rfl) (by kernel_rfl) (by kernel_rfl) (by kernel_rfl)
theorem ok34 : FnOk Try.prog X 90 pf34 := FnOk.of Try.func90 (by kernel_rfl) (by kernel_rfl) (by kernel_rfl) (by kernel_rfl) (by kernel_rfl)
theorem ok37 : FnOk Try.prog X 102 pf37 := FnOk.of Try.func102 (by kernel_rfl) (by kernel_rfl) (by kernel_rfl) (by kernel_rfl) (by kernel_rfl)
theorem ok39 : FnOk Try.prog X 101 pf39 := FnOk.of Try.func101 (by kernel_rfl) (by kernel_rfl) (by kernel_rfl) (by kernel_rfl) (by kernel_rfl)
theorem ok45 : FnOk Try.prog X 105 pf45 := FnOk.of Try.func105 (by kernel_rfl) (by kernel_rfl) (by kernel_rfl) (by kernel_rfl) (by kernel_rfl)
theorem ok16 : FnOk Try.prog X 67 pf16 := FnOk.of Try.func67 (by kernel_rfl) (by kernel_rfl) (by kernel_rfl) (by kernel_rfl) (by kernel_rfl)
theorem ok22 : FnOk Try.prog X 79 pf22 := FnOk.of Try.func79 (by kernel_rfl) (by kernel_rfl) (by kernel_rfl) (by kernel_rfl) (by kernel_rfl)
theorem ok26 : FnOk Try.prog X 77 pf26 := FnOk.of Try.func77 (by kernel_rfl) (by kernel_rfl) (by kernel_rfl) (by kernel_rfl) (by kernel_rfl)
theorem ok29 : FnOk Try.prog X 25 pf29 := FnOk.of Try.func25 (by kernel_rfl) (by kernel_rfl) (by kernel_rfl) (by kernel_rfl) (by kernel_rfl)
theorem ok31 : FnOk Try.prog X 68 pf31 := FnOk.of Try.func68 (by kernel_rfl) (by kernel_rfl) (by kernel_rfl) (by kernel_rfl) (by kernel_rfl)
theorem ok35 : FnOk Try.prog X 92 pf35 := FnOk.of Try.func92 (by kernel_rfl) (by kernel_rfl) (by kernel_rfl) (by kernel_rfl) (by kernel_rfl)
theorem ok38 : FnOk Try.prog X 98 pf38 := FnOk.of Try.func98 (by kernel_rfl) (by kernel_rfl) (by kernel_rfl) (by kernel_rfl) (by kernel_rfl)
theorem ok40 : FnOk Try.prog X 97 pf40 := FnOk.of Try.func97 (by kernel_rfl) (by kernel_rfl) (by kernel_rfl) (by kernel_rfl) (by kernel_rfl)
theorem ok41 : FnOk Try.prog X 93 pf41 := FnOk.of Try.func93 (by kernel_rfl) (by kernel_rfl) (by kernel_rfl) (by kernel_rfl) (by kernel_rfl)
theorem ok44 : FnOk Try.prog X 103 pf44 := FnOk.of Try.func103 (by kernel_rfl) (by kernel_rfl) (by kernel_rfl) (by kernel_rfl) (by kernel_rfl)
theorem ok145 : FnOk Try.prog X 89 pf145 := FnOk.of Try.func89 (by kernel_rfl) (by kernel_rfl) (by kernel_rfl) (by kernel_rfl) (by kernel_rfl)
theorem ok126 : FnOk Try.prog X 64 pf126 := FnOk.of Try.func64 (by kernel_rfl) (by kernel_rfl) (by kernel_rfl) (by kernel_rfl) (by kernel_rfl)
theorem ok71 : FnOk Try.prog X 8 pf71 := FnOk.of Try.func8 (by kernel_rfl) (by kernel_rfl) (by kernel_rfl) (by kernel_rfl) (by kernel_rfl)
theorem ok72 : FnOk Try.prog X 9 pf72 := FnOk.of Try.func9 (by kernel_rfl) (by kernel_rfl) (by kernel_rfl) (by kernel_rfl) (by kernel_rfl)
theorem ok74 : FnOk Try.prog X 11 pf74 := FnOk.of Try.func11 (by kernel_rfl) (by kernel_rfl) (by kernel_rfl) (by kernel_rfl) (by kernel_rfl)
theorem ok75 : FnOk Try.prog X 12 pf75 := FnOk.of Try.func12 (by kernel_rfl) (by kernel_rfl) (by kernel_rfl) (by kernel_rfl) (by kernel_rfl)
theorem ok76 : FnOk Try.prog X 13 pf76 := FnOk.of Try.func13 (by kernel_rfl) (by kernel_rfl) (by kernel_rfl) (by kernel_rfl) (by kernel_rfl)
theorem ok77 : FnOk Try.prog X 14 pf77 := FnOk.of Try.func14 (by kernel_rfl) (by kernel_rfl) (by kernel_rfl) (by kernel_rfl) (by kernel_rfl)
theorem ok78 : FnOk Try.prog X 15 pf78 := FnOk.of Try.func15 (by kernel_rfl) (by kernel_rfl) (by kernel_rfl) (by kernel_rfl) (by kernel_rfl)
theorem ok102 : FnOk Try.prog X 40 pf102 := FnOk.of Try.func40 (by kernel_rfl) (by kernel_rfl) (by kernel_rfl) (by kernel_rfl) (by kernel_rfl)
theorem ok103 : FnOk Try.prog X 41 pf103 := FnOk.of Try.func41 (by kernel_rfl) (by kernel_rfl) (by kernel_rfl) (by kernel_rfl) (by kernel_rfl)
theorem ok104 : FnOk Try.prog X 42 pf104 := FnOk.of Try.func42 (by kernel_rfl) (by kernel_rfl) (by kernel_rfl) (by kernel_rfl) (by kernel_rfl)
theorem ok106 : FnOk Try.prog X 44 pf106 := FnOk.of Try.func44 (by kernel_rfl) (by kernel_rfl) (by kernel_rfl) (by kernel_rfl) (by kernel_rfl)
theorem ok107 : FnOk Try.prog X 45 pf107 := FnOk.of Try.func45 (by kernel_rfl) (by kernel_rfl) (by kernel_rfl) (by kernel_rfl) (by kernel_rfl)
theorem ok108 : FnOk Try.prog X 46 pf108 := FnOk.of Try.func46 (by kernel_rfl) (by kernel_rfl) (by kernel_rfl) (by kernel_rfl) (by kernel_rfl)
theorem ok109 : FnOk Try.prog X 47 pf109 := FnOk.of Try.func47 (by kernel_rfl) (by kernel_rfl) (by kernel_rfl) (by kernel_rfl) (by kernel_rfl)
theorem ok110 : FnOk Try.prog X 48 pf110 := FnOk.of Try.func48 (by kernel_rfl) (by kernel_rfl) (by kernel_rfl) (by kernel_rfl) (by kernel_rfl)
theorem ok127 : FnOk Try.prog X 69 pf127 := FnOk.of Try.func69 (by kernel_rfl) (by kernel_rfl) (by kernel_rfl) (by kernel_rfl) (by kernel_rfl)
theorem ok128 : FnOk Try.prog X 70 pf128 := FnOk.of Try.func70 (by kernel_rfl) (by kernel_rfl) (by kernel_rfl) (by kernel_rfl) (by kernel_rfl)
theorem ok129 : FnOk Try.prog X 71 pf129 := FnOk.of Try.func71 (by kernel_rfl) (by kernel_rfl) (by kernel_rfl) (by kernel_rfl) (by kernel_rfl)
theorem ok130 : FnOk Try.prog X 72 pf130 := FnOk.of Try.func72 (by kernel_rfl) (by kernel_rfl) (by kernel_rfl) (by kernel_rfl) (by kernel_rfl)
theorem ok131 : FnOk Try.prog X 73 pf131 := FnOk.of Try.func73 (by kernel_rfl) (by kernel_rfl) (by kernel_rfl) (by kernel_rfl) (by kernel_rfl)
theorem ok132 : FnOk Try.prog X 74 pf132 := FnOk.of Try.func74 (by kernel_rfl) (by kernel_rfl) (by kernel_rfl) (by kernel_rfl) (by kernel_rfl)
theorem ok133 : FnOk Try.prog X 75 pf133 := FnOk.of Try.func75 (by kernel_rfl) (by kernel_rfl) (by kernel_rfl) (by kernel_rfl) (by kernel_rfl)
theorem ok134 : FnOk Try.prog X 76 pf134 := FnOk.of Try.func76 (by kernel_rfl) (by kernel_rfl) (by kernel_rfl) (by kernel_rfl) (by kernel_rfl)
theorem ok135 : FnOk Try.prog X 78 pf135 := FnOk.of Try.func78 (by kernel_rfl) (by kernel_rfl) (by kernel_rfl) (by kernel_rfl) (by kernel_rfl)
theorem ok136 : FnOk Try.prog X 80 pf136 := FnOk.of Try.func80 (by kernel_rfl) (by kernel_rfl) (by kernel_rfl) (by kernel_rfl) (by kernel_rfl)
theorem ok79 : FnOk Try.prog X 16 pf79 := FnOk.of Try.func16 (by kernel_rfl) (by kernel_rfl) (by kernel_rfl) (by kernel_rfl) (by kernel_rfl)
theorem ok80 : FnOk Try.prog X 17 pf80 := FnOk.of Try.func17 (by kernel_rfl) (by kernel_rfl) (by kernel_rfl) (by kernel_rfl) (by kernel_rfl)
theorem ok81 : FnOk Try.prog X 18 pf81 := FnOk.of Try.func18 (by kernel_rfl) (by kernel_rfl) (by kernel_rfl) (by kernel_rfl) (by kernel_rfl)
theorem ok82 : FnOk Try.prog X 19 pf82 := FnOk.of Try.func19 (by kernel_rfl) (by kernel_rfl) (by kernel_rfl) (by kernel_rfl) (by kernel_rfl)
theorem ok83 : FnOk Try.prog X 20 pf83 := FnOk.of Try.func20 (by kernel_rfl) (by kernel_rfl) (by kernel_rfl) (by kernel_rfl) (by kernel_rfl)
theorem ok86 : FnOk Try.prog X 23 pf86 := FnOk.of Try.func23 (by kernel_rfl) (by kernel_rfl) (by kernel_rfl) (by kernel_rfl) (by kernel_rfl)
theorem ok87 : FnOk Try.prog X 24 pf87 := FnOk.of Try.func24 (by kernel_rfl) (by kernel_rfl) (by kernel_rfl) (by kernel_rfl) (by kernel_rfl)
theorem ok88 : FnOk Try.prog X 26 pf88 := FnOk.of Try.func26 (by kernel_rfl) (by kernel_rfl) (by kernel_rfl) (by kernel_rfl) (by kernel_rfl)
theorem ok111 : FnOk Try.prog X 49 pf111 := FnOk.of Try.func49 (by kernel_rfl) (by kernel_rfl) (by kernel_rfl) (by kernel_rfl) (by kernel_rfl)
theorem ok112 : FnOk Try.prog X 50 pf112 := FnOk.of Try.func50 (by kernel_rfl) (by kernel_rfl) (by kernel_rfl) (by kernel_rfl) (by kernel_rfl)
theorem ok113 : FnOk Try.prog X 51 pf113 := FnOk.of Try.func51 (by kernel_rfl) (by kernel_rfl) (by kernel_rfl) (by kernel_rfl) (by kernel_rfl)
theorem ok114 : FnOk Try.prog X 52 pf114 := FnOk.of Try.func52 (by kernel_rfl) (by kernel_rfl) (by kernel_rfl) (by kernel_rfl) (by kernel_rfl)
theorem ok115 : FnOk Try.prog X 53 pf115 := FnOk.of Try.func53 (by kernel_rfl) (by kernel_rfl) (by kernel_rfl) (by kernel_rfl) (by kernel_rfl)
theorem ok116 : FnOk Try.prog X 54 pf116 := FnOk.of Try.func54 (by kernel_rfl) (by kernel_rfl) (by kernel_rfl) (by kernel_rfl) (by kernel_rfl)
theorem ok119 : FnOk Try.prog X 57 pf119 := FnOk.of Try.func57 (by kernel_rfl) (by kernel_rfl) (by kernel_rfl) (by kernel_rfl) (by kernel_rfl)
theorem ok122 : FnOk Try.prog X 60 pf122 := FnOk.of Try.func60 (by kernel_rfl) (by kernel_rfl) (by kernel_rfl) (by kernel_rfl) (by kernel_rfl)
theorem ok123 : FnOk Try.prog X 61 pf123 := FnOk.of Try.func61 (by kernel_rfl) (by kernel_rfl) (by kernel_rfl) (by kernel_rfl) (by kernel_rfl)
theorem ok124 : FnOk Try.prog X 62 pf124 := FnOk.of Try.func62 (by kernel_rfl) (by kernel_rfl) (by kernel_rfl) (by kernel_rfl) (by kernel_rfl)
theorem ok137 : FnOk Try.prog X 81 pf137 := FnOk.of Try.func81 (by kernel_rfl) (by kernel_rfl) (by kernel_rfl) (by kernel_rfl) (by kernel_rfl)
theorem ok138 : FnOk Try.prog X 82 pf138 := FnOk.of Try.func82 (by kernel_rfl) (by kernel_rfl) (by kernel_rfl) (by kernel_rfl) (by kernel_rfl)
theorem ok139 : FnOk Try.prog X 83 pf139 := FnOk.of Try.func83 (by kernel_rfl) (by kernel_rfl) (by kernel_rfl) (by kernel_rfl) (by kernel_rfl)
theorem ok141 : FnOk Try.prog X 85 pf141 := FnOk.of Try.func85 (by kernel_rfl) (by kernel_rfl) (by kernel_rfl) (by kernel_rfl) (by kernel_rfl)
theorem ok144 : FnOk Try.prog X 88 pf144 := FnOk.of Try.func88 (by kernel_rfl) (by kernel_rfl) (by kernel_rfl) (by kernel_rfl) (by kernel_rfl)
theorem ok84 : FnOk Try.prog X 21 pf84 := FnOk.of Try.func21 (by kernel_rfl) (by kernel_rfl) (by kernel_rfl) (by kernel_rfl) (by kernel_rfl)
theorem ok85 : FnOk Try.prog X 22 pf85 := FnOk.of Try.func22 (by kernel_rfl) (by kernel_rfl) (by kernel_rfl) (by kernel_rfl) (by kernel_rfl)
theorem ok117 : FnOk Try.prog X 55 pf117 := FnOk.of Try.func55 (by kernel_rfl) (by kernel_rfl) (by kernel_rfl) (by kernel_rfl) (by kernel_rfl)
theorem ok118 : FnOk Try.prog X 56 pf118 := FnOk.of Try.func56 (by kernel_rfl) (by kernel_rfl) (by kernel_rfl) (by kernel_rfl) (by kernel_rfl)
theorem ok120 : FnOk Try.prog X 58 pf120 := FnOk.of Try.func58 (by kernel_rfl) (by kernel_rfl) (by kernel_rfl) (by kernel_rfl) (by kernel_rfl)
theorem ok121 : FnOk Try.prog X 59 pf121 := FnOk.of Try.func59 (by kernel_rfl) (by kernel_rfl) (by kernel_rfl) (by kernel_rfl) (by kernel_rfl)
theorem ok140 : FnOk Try.prog X 84 pf140 := FnOk.of Try.func84 (by kernel_rfl) (by kernel_rfl) (by kernel_rfl) (by kernel_rfl) (by kernel_rfl)
theorem ok142 : FnOk Try.prog X 86 pf142 := FnOk.of Try.func86 (by kernel_rfl) (by kernel_rfl) (by kernel_rfl) (by kernel_rfl) (by kernel_rfl)
theorem ok143 : FnOk Try.prog X 87 pf143 := FnOk.of Try.func87 (by kernel_rfl) (by kernel_rfl) (by kernel_rfl) (by kernel_rfl) (by kernel_rfl)
theorem tyVal : TyVal X.T 24 := ⟨5, 2, 9, 22, 4, ⟨_, rfl, rfl, rfl⟩, ⟨_, rfl, rfl, rfl⟩, ⟨_, rfl, rfl, rfl⟩, ⟨_, rfl, rfl, rfl⟩, ⟨_, rfl, rfl, rfl⟩, ⟨_, rfl, rfl, rfl⟩⟩
theorem tyFld : TyFld X.T 76 := ⟨9, 3, ⟨_, rfl, rfl, rfl⟩, ⟨_, rfl, rfl, rfl⟩, ⟨_, rfl, rfl, rfl⟩⟩
theorem tyIns : TyIns X.T 177 := ⟨5, 3, 3, 3, ⟨_, rfl, rfl, rfl⟩, ⟨_, rfl, rfl, rfl⟩, ⟨_, rfl, rfl, rfl⟩, ⟨_, rfl, rfl, rfl⟩, ⟨_, rfl, rfl, rfl⟩⟩
theorem tyRnn : TyRnn X.T 179 := ⟨3, 44, ⟨_, rfl, rfl, rfl⟩, ⟨_, rfl, rfl, rfl⟩, ⟨_, rfl, rfl, rfl⟩⟩
theorem tyTyp : TyTyp X.T 175 := ⟨5, 3, 3, 77, 76, ⟨_, rfl, rfl, rfl⟩, ⟨_, rfl, rfl, rfl⟩, ⟨_, rfl, rfl, rfl⟩, ⟨_, rfl, rfl, rfl⟩, ⟨_, rfl, rfl, rfl⟩, tyFld⟩
theorem tyFun : TyFun X.T 81 := ⟨9, 3, 3, 77, 78, 79, 79, 76, 177, 179, 179, ⟨_, rfl, rfl, rfl⟩, ⟨_, rfl, rfl, rfl⟩, ⟨_, rfl, rfl, rfl⟩, ⟨_, rfl, rfl, rfl⟩, ⟨_, rfl, rfl, rfl⟩, tyFld, ⟨_, rfl, rfl, rfl⟩, tyIns, ⟨_, rfl, rfl, rfl⟩, tyRnn, ⟨_, rfl, rfl, rfl⟩, tyRnn⟩
theorem tyImg : TyImg X.T 43 := ⟨39, 40, 41, 175, 9, 81, ⟨_, rfl, rfl, rfl⟩, ⟨_, rfl, rfl, rfl⟩, tyTyp, ⟨_, rfl, rfl, rfl⟩, ⟨_, rfl, rfl, rfl⟩, ⟨_, rfl, rfl, rfl⟩, tyFun⟩
theorem tyLoc : TyLoc X.T 74 := ⟨3, 24, ⟨_, rfl, rfl, rfl⟩, ⟨_, rfl, rfl, rfl⟩, tyVal⟩
theorem tyFrm : TyFrm X.T 47 := ⟨3, 3, 44, 45, 74, ⟨_, rfl, rfl, rfl⟩, ⟨_, rfl, rfl, rfl⟩, ⟨_, rfl, rfl, rfl⟩, ⟨_, rfl, rfl, rfl⟩, ⟨_, rfl, rfl, rfl⟩, tyLoc⟩
end Go.Proofs.Ytcojcdpoeaaigaa

/- Parts of the proof. -/
namespace Go.AM
open Go
structure Has03 (prog : Prog) : Prop where
  f42 : prog.fn 42 = some pf42
  f46 : prog.fn 46 = some pf46
  f36 : prog.fn 36 = some pf36
  f43 : prog.fn 43 = some pf43
  f47 : prog.fn 47 = some pf47
  f11 : prog.fn 11 = some pf11
  f15 : prog.fn 15 = some pf15
  f21 : prog.fn 21 = some pf21
  f25 : prog.fn 25 = some pf25
  f30 : prog.fn 30 = some pf30
  f34 : prog.fn 34 = some pf34
  f37 : prog.fn 37 = some pf37
  f39 : prog.fn 39 = some pf39
  f45 : prog.fn 45 = some pf45
  f16 : prog.fn 16 = some pf16
  f22 : prog.fn 22 = some pf22
  f26 : prog.fn 26 = some pf26
  f29 : prog.fn 29 = some pf29
  f31 : prog.fn 31 = some pf31
  f35 : prog.fn 35 = some pf35
  f38 : prog.fn 38 = some pf38
  f40 : prog.fn 40 = some pf40
  f41 : prog.fn 41 = some pf41
  f44 : prog.fn 44 = some pf44
  f48 : prog.fn 48 = none
  o48 : ∀ (s : Bytes) (c : UInt8), prog.orac 48 [.s s, .i .u8 (c.toNat : Int)] = some (.i .i64 (Lib.indexByte s c))
section
variable {prog : Prog} (H : Has03 prog)
include H
theorem c41 (c : UInt8) : Pus prog 41 [.i .u8 (c.toNat : Int)] (.s (chr c)) := by
  have hc := c.toNat_lt
  have hq : (c.toNat : Int).tdiv 16 = ((c.toNat / 16 : Nat) : Int) := by rw [Int.tdiv_eq_ediv_of_nonneg (by omega)]; omega
  have hr : (c.toNat : Int).tmod 16 = ((c.toNat % 16 : Nat) : Int) := by rw [Int.tmod_eq_emod_of_nonneg (by omega)]; omega
  have w1 : IntKind.u8.wrap ((c.toNat / 16 : Nat) : Int) = ((c.toNat / 16 : Nat) : Int) := wr_u8 (by omega) (by omega)
  have w2 : IntKind.u8.wrap (((c.toNat / 16 : Nat) : Int) + 1) = ((c.toNat / 16 + 1 : Nat) : Int) := by rw [wr_u8 (by omega) (by omega)]; omega
  have w3 : IntKind.u8.wrap (((c.toNat % 16 : Nat) : Int) + 1) = ((c.toNat % 16 + 1 : Nat) : Int) := by rw [wr_u8 (by omega) (by omega)]; omega
  have t1 := hexd_take (n := c.toNat / 16) (by omega) rfl
  have t2 := hexd_take (n := c.toNat % 16) (by omega) rfl
  obtain ⟨x, rfl, h⟩ := p41 H.f41 (c0 := (c.toNat : Int)) (K := fun x => x = chr c) (by
    unfold T41_0
    simp only [hq, hr, w1, w2, w3, toNat_cast, t1, t2, List.length_cons, List.length_nil, maxStr_eq, List.length_append]
    refine ⟨fun h => ⟨c, rfl, ?_⟩, fun h => ⟨fun h2 => ⟨c, rfl, ?_⟩, fun h2 => ⟨fun h3 => ?_, fun h3 => ⟨fun h4 => ⟨fun h5 => ⟨c, rfl, ?_⟩, fun h5 => ?_⟩, fun h4 => ?_⟩⟩⟩⟩
    · unfold chr; rw [if_pos (by omega)]
    · unfold chr; rw [if_pos (by omega)]
    · unfold chr; rw [if_neg (by omega), if_pos (by omega)]
    · unfold chr; rw [if_neg (by omega), if_neg (by omega), if_neg (by omega)]
    · refine ⟨by omega, by omega, by omega, by omega, by omega, by omega, by omega, by omega, ?_⟩
      unfold chr; rw [if_neg (by omega), if_neg (by omega), if_pos (by omega)]
      rfl
    · refine ⟨by omega, by omega, by omega, by omega, by omega, by omega, by omega, by omega, ?_⟩
      unfold chr; rw [if_neg (by omega), if_neg (by omega), if_pos (by omega)]
      rfl)
  exact h
theorem c31 {s : Bytes} (hs : s.length ≤ 10000000) : Pus prog 31 [.s s] (.s (quo s)) := by
  obtain ⟨x, rfl, h⟩ := p31 H.f31 (s0 := s) (K := fun x => x = quo s) (by
    unfold T31_0
    intro P hP
    refine loop_up (fun i => 34 :: chrs (s.take i)) s.length ?_ ?_
    · apply hP
      unfold T31_1 T31_2
      refine ⟨fun h => absurd h (by omega), fun _ => ⟨?_, ?_⟩⟩
      · have := chrs_len (s.take s.length)
        simp only [List.take_length] at this ⊢
        simp only [List.length_cons, List.length_nil, maxStr_eq]
        omega
      · simp only [List.take_length, quo]
        rfl
    · intro i hi ih
      apply hP
      unfold T31_1
      refine ⟨fun _ => ⟨by omega, s[i], by rw [toNat_cast, List.getElem?_eq_getElem hi], chr s[i], c41 H _, ?_, ?_⟩, fun h => absurd (show (i : Int) < s.length by omega) h⟩
      · have h1 := chrs_len (s.take i)
        have h2 := chr_len s[i]
        simp only [List.length_cons, List.length_take, maxStr_eq] at h1 ⊢
        omega
      · rw [wr_succ (by omega)]
        rw [chrs_take hi] at ih
        exact ih)
  exact h
theorem c30 {s b : Bytes} (hs : s.length ≤ 10000000) (hb : b.length ≤ 1000000000) : PuA prog 30 (b.map row8) [.s s] ((b ++ quo s).map row8) := by
  refine PuAK.to ?_
  have hp := p30 H.f30 (b0 := b) (s1 := s) (K := fun x => x = b ++ quo s) (by
    unfold T30_0 T30_1
    refine ⟨⟨by simp only [List.length_cons, List.length_nil, maxBytes_eq]; omega, by simp only [List.length_cons, List.length_nil, maxBytes_eq]; omega⟩, fun P hP => ?_⟩
    refine loop_up (fun i => b ++ 34 :: chrs (s.take i)) s.length ?_ ?_
    · apply hP
      unfold T30_2 T30_4
      have h1 := chrs_len (s.take s.length)
      simp only [List.take_length] at h1 ⊢
      refine ⟨fun h => absurd h (by omega), fun _ => ⟨⟨?_, ?_⟩, ?_⟩⟩
      · simp only [List.length_append, List.length_cons, List.length_nil, maxBytes_eq]; omega
      · simp only [List.length_append, List.length_cons, List.length_nil, maxBytes_eq]; omega
      · simp only [quo, List.append_assoc, List.cons_append]
    · intro i hi ih
      apply hP
      have h1 := chrs_len (s.take i)
      have hc := s[i].toNat_lt
      rw [chrs_take hi] at ih
      rw [← List.cons_append, ← List.append_assoc] at ih
      generalize hx : s[i] = c at ih hc
      have w1 : bShr .u8 (c.toNat : Int) 4 = ((c.toNat / 16 : Nat) : Int) := by
        show (c.toNat : Int).fdiv 16 = _
        rw [Int.fdiv_eq_ediv_of_nonneg _ (by omega)]; omega
      have w2 : bAnd .u8 (c.toNat : Int) 15 = ((c.toNat % 16 : Nat) : Int) := by
        unfold bAnd
        have hx : (BitVec.ofInt IntKind.u8.bits (c.toNat : Int) &&& BitVec.ofInt IntKind.u8.bits 15).toNat = c.toNat % 16 := by
          show (BitVec.ofInt 8 (c.toNat : Int) &&& BitVec.ofInt 8 15).toNat = c.toNat % 16
          rw [BitVec.toNat_and]
          have h1 : (BitVec.ofInt 8 (c.toNat : Int)).toNat = c.toNat := by
            simp
          rw [h1]
          exact Nat.and_two_pow_sub_one_eq_mod c.toNat 4
        rw [hx]
        exact wr_u8 (by omega) (by omega)
      have fit : ∀ x : Bytes, x.length ≤ 4 → Fit ((b ++ 34 :: chrs (s.take i)).length + x.length) 1 := by
        intro x hx
        simp only [List.length_take] at h1
        refine ⟨?_, ?_⟩ <;> (simp only [List.length_append, List.length_cons, maxBytes_eq]; omega)
      unfold T30_2 T30_3
      rw [wr_succ (by omega)]
      refine ⟨fun _ => ⟨by omega, c, by rw [toNat_cast, List.getElem?_eq_getElem hi, hx], ?_⟩, fun h => absurd (show (i : Int) < s.length by omega) h⟩
      simp only [w1, w2, toNat_cast, hexd_get (show c.toNat / 16 < 16 by omega), hexd_get (show c.toNat % 16 < 16 by omega), Option.some.injEq, exists_eq_left']
      unfold chr at ih
      refine ⟨fun h2 => ⟨fit _ (by simp), ?_⟩, fun h2 => ⟨fun h3 => ⟨fit _ (by simp), ?_⟩, fun h3 => ⟨fun h4 => ⟨fit _ (by simp), ?_⟩, fun h4 => ⟨fun h5 => ⟨by omega, by omega, fit _ (by simp), ?_⟩, fun h5 => ⟨fun h6 => ⟨by omega, by omega, fit _ (by simp), ?_⟩, fun h6 => ⟨fit _ (by simp), ?_⟩⟩⟩⟩⟩⟩
      · rwa [if_pos (by omega)] at ih
      · rwa [if_pos (by omega)] at ih
      · rwa [if_neg (by omega), if_pos (by omega)] at ih
      · rwa [if_neg (by omega), if_neg (by omega), if_pos (by omega)] at ih
      · rwa [if_neg (by omega), if_neg (by omega), if_pos (by omega)] at ih
      · rwa [if_neg (by omega), if_neg (by omega), if_neg (by omega)] at ih)
  intro d st o ha
  obtain ⟨o', st', rows', ⟨x, rfl, rfl⟩, h1, h2⟩ := hp d st o ha
  exact ⟨o', st', _, rfl, h1, h2⟩
theorem c11 (s : Bytes) : Pus prog 11 [.s s] (.tup [.s (quoR s).1, .i .i64 (quoR s).2]) := by
  obtain ⟨x, y, ⟨rfl, rfl⟩, h⟩ := p11 H.f11 (s0 := s) (K := fun x y => x = (quoR s).1 ∧ y = (quoR s).2) (by
    unfold T11_0 quoR
    refine ⟨fun h => ?_, fun h => ⟨_, c30 H (b := []) (s := s) (by omega) (by simp), ?_⟩⟩
    · rw [if_pos (by omega)]; exact ⟨rfl, rfl⟩
    · rw [if_neg (by omega)]; exact ⟨rfl, rfl⟩)
  exact h
theorem c34 {n b : Nat} (hb : 2 ≤ b) (hb' : b ≤ 16) (hn : n < 18446744073709551616) : Pus prog 34 [.i .u64 (n : Int), .i .u64 (b : Int)] (.s (digs b n)) := by
  obtain ⟨x, rfl, h⟩ := p34 H.f34 (n0 := (n : Int)) (base1 := (b : Int)) (K := fun x => x = digs b n) (by
    unfold T34_0
    intro P hP
    have key : ∀ f n', n' < b ^ f → 0 < f → n' < 18446744073709551616 → ∀ a : Nat, f ≤ a → a ≤ 64 → ∀ m : Bytes, m.length = 64 → (ds b f n' ++ m.drop a = digs b n) → P (n' : Int) (a : Int) m := by
      intro f
      induction f with
      | zero => intro _ _ h; exact absurd h (Nat.lt_irrefl _)
      | succ f ih =>
        intro n' hf _ hn' a ha ha' m hm hd
        apply hP
        have e1 : (n' : Int).tmod (b : Int) = ((n' % b : Nat) : Int) := by rw [Int.tmod_eq_emod_of_nonneg (by omega)]; omega
        have e2 : (n' : Int).tdiv (b : Int) = ((n' / b : Nat) : Int) := by rw [Int.tdiv_eq_ediv_of_nonneg (by omega)]; omega
        have e3 : IntKind.i64.wrap ((a : Int) - 1) = ((a - 1 : Nat) : Int) := by rw [wr_i64 (by omega) (by omega)]; omega
        have hq : n' / b ≤ n' := Nat.div_le_self _ _
        have hr : n' % b < b := Nat.mod_lt _ (by omega)
        have e4 : IntKind.u64.wrap ((n' / b : Nat) : Int) = ((n' / b : Nat) : Int) := wr_u64_nat (by omega)
        have hset : ∀ c : UInt8, (m.set (a - 1) c).drop (a - 1) = c :: m.drop a := by
          intro c
          rw [List.drop_eq_getElem_cons (by simp; omega), List.getElem_set_self, List.drop_set_of_lt (by omega), show a - 1 + 1 = a by omega]
        unfold T34_1
        simp only [e1, e2, e3, e4, toNat_cast, hset]
        refine ⟨by omega, by omega, hexd (n' % b), hexd_get (by omega), by omega, by omega, by omega, by omega, fun h => ⟨by simp [hm], by omega, by omega, ?_⟩, fun h => ?_⟩
        · rw [← hd]
          unfold ds
          have hz : n' / b = 0 := by omega
          have hlt : n' < b := by
            rcases Nat.lt_or_ge n' b with h | h
            · exact h
            · have := Nat.div_pos h (by omega); omega
          rw [if_pos hlt, Nat.mod_eq_of_lt hlt]
          rfl
        · have hz : n' / b ≠ 0 := by omega
          have hlt : ¬ n' < b := fun h => hz (Nat.div_eq_of_lt h)
          have h1 : n' / b < b ^ f := by
            rw [Nat.div_lt_iff_lt_mul (by omega)]
            rw [Nat.pow_succ] at hf
            exact hf
          have h2 : 0 < f := by
            rcases Nat.eq_zero_or_pos f with rfl | h
            · simp at h1; omega
            · exact h
          refine ih (n' / b) h1 h2 (by omega) (a - 1) (by omega) (by omega) _ (by simp [hm]) ?_
          rw [hset, ← hd]
          conv => rhs; unfold ds
          rw [if_neg hlt, List.append_assoc]
          rfl
    refine key 64 n ?_ (by omega) hn 64 (by omega) (by omega) _ (by simp) ?_
    · calc n < 2 ^ 64 := hn
        _ ≤ b ^ 64 := Nat.pow_le_pow_left hb 64
    · simp [digs])
  exact h
theorem c35 {n b : Nat} (hb : 2 ≤ b) (hb' : b ≤ 16) (hn : n < 18446744073709551616) : Pus prog 35 [.i .u64 (n : Int), .i .u64 (b : Int)] (.s (digs b n)) := by
  obtain ⟨x, rfl, h⟩ := p35 H.f35 (n0 := (n : Int)) (base1 := (b : Int)) (K := fun x => x = digs b n) (by
    unfold T35_0
    intro P hP
    have key : ∀ f n', n' < b ^ f → 0 < f → n' < 18446744073709551616 → f ≤ 64 → ∀ s : Bytes, s.length + f ≤ 64 → (ds b f n' ++ s = digs b n) → P (n' : Int) s := by
      intro f
      induction f with
      | zero => intro _ _ h; exact absurd h (Nat.lt_irrefl _)
      | succ f ih =>
        intro n' hf _ hn' hf64 s hs hd
        apply hP
        have e1 : (n' : Int).tmod (b : Int) = ((n' % b : Nat) : Int) := by rw [Int.tmod_eq_emod_of_nonneg (by omega)]; omega
        have e2 : (n' : Int).tdiv (b : Int) = ((n' / b : Nat) : Int) := by rw [Int.tdiv_eq_ediv_of_nonneg (by omega)]; omega
        have hq : n' / b ≤ n' := Nat.div_le_self _ _
        have hr : n' % b < b := Nat.mod_lt _ (by omega)
        have e4 : IntKind.u64.wrap ((n' / b : Nat) : Int) = ((n' / b : Nat) : Int) := wr_u64_nat (by omega)
        have e5 : IntKind.u64.wrap (((n' % b : Nat) : Int) + 1) = ((n' % b + 1 : Nat) : Int) := by rw [wr_u64 (by omega) (by omega)]; omega
        unfold T35_1
        refine ⟨fun h => ?_, fun h => ?_⟩
        · simp only [e1, e2, e4, e5, toNat_cast, hexd_take (show n' % b < 16 by omega) rfl, DIG_len]
          have hlt : ¬ n' < b := by omega
          refine ⟨by omega, by omega, by omega, by omega, by omega, ?_, by omega, ?_⟩
          · simp only [List.length_cons, List.length_nil, maxStr_eq]; omega
          have hz : n' / b ≠ 0 := by
            have := Nat.div_pos (show b ≤ n' by omega) (by omega); omega
          have h1 : n' / b < b ^ f := by
            rw [Nat.div_lt_iff_lt_mul (by omega)]
            rw [Nat.pow_succ] at hf
            exact hf
          have h2 : 0 < f := by
            rcases Nat.eq_zero_or_pos f with rfl | h
            · simp at h1; omega
            · exact h
          refine ih (n' / b) h1 h2 (by omega) (by omega) _ ?_ ?_
          · simp only [List.length_append, List.length_cons, List.length_nil]; omega
          · rw [← hd]
            conv => rhs; unfold ds
            rw [if_neg hlt, List.append_assoc]
        · have hlt : n' < b := by omega
          have e6 : IntKind.u64.wrap ((n' : Int) + 1) = ((n' + 1 : Nat) : Int) := by rw [wr_u64 (by omega) (by omega)]; omega
          unfold T35_2
          simp only [e6, toNat_cast, hexd_take (show n' < 16 by omega) rfl, DIG_len]
          refine ⟨by omega, by omega, by omega, ?_, ?_⟩
          · simp only [List.length_cons, List.length_nil, maxStr_eq]; omega
          · rw [← hd]
            unfold ds
            rw [if_pos hlt]
    refine key 64 n ?_ (by omega) hn (by omega) _ (by simp) ?_
    · calc n < 2 ^ 64 := hn
        _ ≤ b ^ 64 := Nat.pow_le_pow_left hb 64
    · simp [digs])
  exact h
theorem c15 {n : Int} (h1 : -9223372036854775808 ≤ n) (h2 : n < 9223372036854775808) : Pus prog 15 [.i .i64 n] (.s (num n)) := by
  obtain ⟨x, rfl, h⟩ := p15 H.f15 (n0 := n) (K := fun x => x = num n) (by
    unfold T15_0
    refine ⟨fun h => ?_, fun h => ?_⟩
    · have e : IntKind.u64.wrap (0 - (IntKind.u64.wrap n)) = (((-n).toNat : Nat) : Int) := by rw [IntKind.wrap_u64, IntKind.wrap_u64]; omega
      rw [e]
      refine ⟨_, c34 H (b := 10) (by omega) (by omega) (by omega), ?_, ?_⟩
      · have := ds_len 10 64 (-n).toNat
        simp only [digs, List.length_cons, List.length_nil, maxStr_eq]; omega
      · unfold num; rw [if_pos h]; rfl
    · have e : IntKind.u64.wrap n = ((n.toNat : Nat) : Int) := by rw [IntKind.wrap_u64]; omega
      rw [e]
      refine ⟨_, c34 H (b := 10) (by omega) (by omega) (by omega), ?_⟩
      unfold num; rw [if_neg h])
  exact h
theorem c16 {n : Int} (h1 : -9223372036854775808 ≤ n) (h2 : n < 9223372036854775808) : Pus prog 16 [.i .i64 n] (.s (num n)) := by
  obtain ⟨x, rfl, h⟩ := p16 H.f16 (n0 := n) (K := fun x => x = num n) (by
    unfold T16_0
    refine ⟨fun h => ?_, fun h => ?_⟩
    · have e : IntKind.u64.wrap n = ((n.toNat : Nat) : Int) := by rw [IntKind.wrap_u64]; omega
      rw [e]
      refine ⟨_, c35 H (b := 10) (by omega) (by omega) (by omega), ?_⟩
      unfold num; rw [if_neg (by omega)]
    · have e : IntKind.u64.wrap ((IntKind.u64.wrap (IntKind.i64.wrap (0 - (IntKind.i64.wrap (n + 1))))) + 1) = (((-n).toNat : Nat) : Int) := by
        rw [wr_i64 (z := n + 1) (by omega) (by omega), wr_i64 (by omega) (by omega), wr_u64 (z := 0 - (n + 1)) (by omega) (by omega), wr_u64 (by omega) (by omega)]; omega
      rw [e]
      refine ⟨_, c35 H (b := 10) (by omega) (by omega) (by omega), ?_, ?_⟩
      · have := ds_len 10 64 (-n).toNat
        simp only [digs, List.length_cons, List.length_nil, maxStr_eq]; omega
      · unfold num; rw [if_pos (by omega)]; rfl)
  exact h
end
end Go.AM

/- Parts of the proof. -/
namespace Go.AM
open Go
def cutp (p s : Bytes) : Bytes × Bool := if s.take p.length = p then (s.drop p.length, true) else (s, false)
theorem idx_first (c : UInt8) : ∀ (l : Bytes) (i : Nat), (∀ j, j < i → l[j]? ≠ some c) → (l[i]? = some c → Lib.indexByte l c = i) ∧ (l.length ≤ i → Lib.indexByte l c = -1)
  | [], i, _ => ⟨fun h => (by simp at h), fun _ => rfl⟩
  | x :: l, i, h => by
    unfold Lib.indexByte
    cases i with
    | zero =>
      refine ⟨fun h1 => ?_, fun h1 => absurd h1 (by simp)⟩
      simp at h1
      rw [if_pos (by simp [h1])]
      rfl
    | succ i =>
      have hx : x ≠ c := by have := h 0 (by omega); simpa using this
      have ih := idx_first c l i fun j hj => by have := h (j + 1) (by omega); simpa using this
      rw [if_neg (by simpa using hx)]
      refine ⟨fun h1 => ?_, fun h1 => ?_⟩
      · have h2 := ih.1 (by simpa using h1)
        rw [h2]
        rw [if_neg (by simp)]
        rfl
      · have h2 := ih.2 (by simpa using h1)
        rw [h2]
        rfl
def EscK (s : Bytes) (c : Int) (r : Bytes) (ok : Bool) : Prop := match esc s with | some (x, y) => c = (x.toNat : Int) ∧ r = y ∧ ok = true | none => ok = false
theorem EscK.yes {s : Bytes} {x : UInt8} {y : Bytes} {c : Int} (h : esc s = some (x, y)) (hc : c = (x.toNat : Int)) : EscK s c y true := by
  unfold EscK; rw [h]; exact ⟨hc, rfl, rfl⟩
theorem EscK.no {s : Bytes} {c : Int} {y : Bytes} (h : esc s = none) : EscK s c y false := by
  unfold EscK; rw [h]
section
variable {prog : Prog} (H : Has03 prog)
include H
theorem c46 (s p : Bytes) : Pus prog 46 [.s s, .s p] (.b (decide (s.take p.length = p))) := by
  obtain ⟨x, rfl, h⟩ := p46 H.f46 (s0 := s) (prefix1 := p) (K := fun x => x = decide (s.take p.length = p)) (by
    unfold T46_0
    refine ⟨fun h => ⟨by omega, by omega, rfl⟩, fun h => ?_⟩
    refine (decide_eq_false fun h1 => ?_).symm
    have := congrArg List.length h1
    simp only [List.length_take] at this
    omega)
  exact h
theorem c42 (s p : Bytes) : Pus prog 42 [.s s, .s p] (.tup [.s (cutp p s).1, .b (cutp p s).2]) := by
  obtain ⟨x, y, ⟨rfl, rfl⟩, h⟩ := p42 H.f42 (s0 := s) (prefix1 := p) (K := fun x y => x = (cutp p s).1 ∧ y = (cutp p s).2) (by
    unfold T42_0 cutp
    refine ⟨_, c46 H s p, fun h => ?_, fun h => ?_⟩
    · have h1 : ¬ s.take p.length = p := by simpa using h
      rw [if_neg h1]; exact ⟨rfl, rfl⟩
    · have h1 : s.take p.length = p := by simpa using h
      have h2 := congrArg List.length h1
      simp only [List.length_take] at h2
      rw [if_pos h1]; exact ⟨by omega, by omega, rfl, rfl⟩)
  exact h
theorem c36 (s p : Bytes) : Pus prog 36 [.s s, .s p] (.tup [.s (cutp p s).1, .b (cutp p s).2]) := by
  obtain ⟨x, y, ⟨rfl, rfl⟩, h⟩ := p36 H.f36 (s0 := s) (prefix1 := p) (K := fun x y => x = (cutp p s).1 ∧ y = (cutp p s).2) (by
    unfold T36_0
    exact ⟨_, _, c42 H s p, rfl, rfl⟩)
  exact h
theorem c47 (s : Bytes) (c : UInt8) : Pus prog 47 [.s s, .i .u8 (c.toNat : Int)] (.i .i64 (Lib.indexByte s c)) := by
  obtain ⟨x, rfl, h⟩ := p47 H.f47 (s0 := s) (c1 := (c.toNat : Int)) (K := fun x => x = Lib.indexByte s c) (by
    unfold T47_0
    exact ⟨_, Pus.orac H.f48 (H.o48 s c) rfl, rfl⟩)
  exact h
theorem c43 (s : Bytes) (c : UInt8) : Pus prog 43 [.s s, .i .u8 (c.toNat : Int)] (.i .i64 (Lib.indexByte s c)) := by
  obtain ⟨x, rfl, h⟩ := p43 H.f43 (s0 := s) (c1 := (c.toNat : Int)) (K := fun x => x = Lib.indexByte s c) (by
    unfold T43_0
    exact ⟨_, c47 H s c, rfl⟩)
  exact h
theorem c44 {b : Nat} (hb : b ≤ 16) (c : UInt8) : Pus prog 44 [.i .u8 (c.toNat : Int), .i .i64 (b : Int)] (.i .i64 (dv b c)) := by
  obtain ⟨x, rfl, h⟩ := p44 H.f44 (c0 := (c.toNat : Int)) (base1 := (b : Int)) (K := fun x => x = dv b c) (by
    unfold T44_0
    intro P hP
    have key : ∀ m i : Nat, i + m = b → (∀ j, j < i → (DIG.take b)[j]? ≠ some c) → P (i : Int) := by
      intro m
      induction m with
      | zero =>
        intro i hi hj
        apply hP
        unfold T44_1 T44_2
        refine ⟨fun h => absurd h (by omega), fun _ => ?_⟩
        exact ((idx_first c _ i hj).2 (by simp; omega)).symm
      | succ m ih =>
        intro i hi hj
        apply hP
        unfold T44_1
        refine ⟨fun _ => ⟨by omega, hexd i, by rw [toNat_cast, hexd_get (by omega)], fun h => ?_, fun h => ?_⟩, fun h => absurd h (by omega)⟩
        · have hc : hexd i = c := u8_eq (by omega)
          refine ((idx_first c _ i hj).1 ?_).symm
          rw [List.getElem?_take_of_lt (by omega), hexd_get (by omega), hc]
        · rw [wr_succ (by omega)]
          refine ih (i + 1) (by omega) fun j hj' => ?_
          rcases Nat.lt_or_ge j i with h1 | h1
          · exact hj j h1
          · have : j = i := by omega
            subst this
            rw [List.getElem?_take_of_lt (by omega), hexd_get (by omega)]
            intro h2
            injection h2 with h2
            exact h (by rw [h2])
    exact key b 0 (by omega) (by simp))
  exact h
theorem c37 {b most : Nat} (hb : 2 ≤ b) (hb' : b ≤ 16) (hm : 16 ≤ most) (hm' : most < 18446744073709551616) {s : Bytes} (hs : s.length ≤ 10000000) : Pus prog 37 [.s s, .i .u64 (b : Int), .i .u64 (most : Int)] (.tup [.i .u64 ((rd b most s).1 : Int), .i .i64 (rd b most s).2]) := by
  obtain ⟨x, y, ⟨rfl, rfl⟩, h⟩ := p37 H.f37 (s0 := s) (base1 := (b : Int)) (most2 := (most : Int)) (K := fun x y => x = ((rd b most s).1 : Int) ∧ y = (rd b most s).2) (by
    unfold T37_0 T37_1 T37_2
    intro P hP
    have key : ∀ m i : Nat, i + m = s.length → okd b (s.take i) = true → (2 ≤ i → s.head? ≠ some 48) → ∀ (n : Nat) (far : Bool), (far = false → n = vals b (s.take i) ∧ n ≤ most) → (far = true → most < vals b (s.take i)) → P (n : Int) far (i : Int) := by
      intro m
      induction m with
      | zero =>
        intro i hi ho h48 n far h0 h1
        simp only [Nat.add_zero] at hi
        subst hi
        rw [List.take_length] at ho h0 h1
        apply hP
        unfold T37_3 T37_5
        refine ⟨fun h => absurd h (by omega), fun _ => ⟨fun h => ?_, fun h => ?_⟩⟩
        · subst h; exact ⟨rfl, rfl⟩
        · have hbad : badn b s = false := by
            unfold badn
            rw [decide_eq_false h, ho]
            simp only [Bool.false_or, Bool.not_true]
            by_cases h2 : 1 < s.length
            · rw [decide_eq_false (h48 h2), Bool.and_false]
            · rw [decide_eq_false h2, Bool.false_and]
          refine ⟨fun hf => ?_, fun hf => ?_⟩
          · unfold rd
            rw [if_neg (by rw [hbad]; decide), if_pos (h1 hf)]
            exact ⟨rfl, rfl⟩
          · obtain ⟨h2, h3⟩ := h0 hf
            unfold rd
            rw [if_neg (by rw [hbad]; decide), if_neg (by omega), h2]
            exact ⟨rfl, rfl⟩
      | succ m ih =>
        intro i hi ho h48 n far h0 h1
        have hil : i < s.length := by omega
        have hd := dv_lt hb' s[i]
        have hv := vals_take (b := b) hil
        have hk := okd_take (b := b) hil
        have bad12 : badn b s = true → (0 : Int) = ((rd b most s).1 : Int) ∧ (12 : Int) = (rd b most s).2 := by
          intro h
          unfold rd
          rw [if_pos h]
          exact ⟨rfl, rfl⟩
        apply hP
        unfold T37_3 T37_4
        refine ⟨fun _ => ⟨by omega, by rw [toNat_cast]; exact hb', by omega, s[i], by rw [toNat_cast, List.getElem?_eq_getElem hil], dv b s[i], c43 H _ _, fun h => ?_, fun h => ?_⟩, fun h => absurd h (by omega)⟩
        · refine bad12 ?_
          unfold badn
          rw [okd_of hil h]
          simp
        · have hd0 : 0 ≤ dv b s[i] := by omega
          rw [ho, decide_eq_true hd0, Bool.and_true] at hk
          generalize hdd : (dv b s[i]).toNat = d at hv
          have hdi : dv b s[i] = (d : Int) := by omega
          have e1 : IntKind.u64.wrap (dv b s[i]) = (d : Int) := by rw [hdi]; exact wr_u64_nat (by omega)
          have e2 : IntKind.u64.wrap ((most : Int) - (d : Int)) = ((most - d : Nat) : Int) := by rw [wr_u64 (by omega) (by omega)]; omega
          have e3 : (((most - d : Nat) : Int)).tdiv (b : Int) = (((most - d) / b : Nat) : Int) := by rw [Int.tdiv_eq_ediv_of_nonneg (by omega)]; omega
          have hq : (most - d) / b ≤ most - d := Nat.div_le_self _ _
          have e4 : IntKind.u64.wrap (((most - d) / b : Nat) : Int) = (((most - d) / b : Nat) : Int) := wr_u64_nat (by omega)
          have hfi := far_iff (n := n) (show 0 < b by omega) (show d ≤ most by omega)
          rw [wr_succ (by omega)]
          simp only [e1, e2, e3, e4]
          have go : (2 ≤ i + 1 → s.head? ≠ some 48) → (far = true → P (n : Int) true ((i + 1 : Nat) : Int)) ∧ (far = false → (b : Int) ≠ 0 ∧ (¬((n : Int) > (((most - d) / b : Nat) : Int)) → P (IntKind.u64.wrap ((IntKind.u64.wrap ((n : Int) * (b : Int))) + (d : Int))) (decide ((n : Int) > (((most - d) / b : Nat) : Int))) ((i + 1 : Nat) : Int)) ∧ (¬(¬((n : Int) > (((most - d) / b : Nat) : Int))) → P (n : Int) (decide ((n : Int) > (((most - d) / b : Nat) : Int))) ((i + 1 : Nat) : Int))) := by
            intro h2
            refine ⟨fun hf => ?_, fun hf => ⟨by omega, fun h3 => ?_, fun h3 => ?_⟩⟩
            · refine ih (i + 1) (by omega) hk h2 n true (fun h => by cases h) fun _ => ?_
              rw [hv]
              have h4 := h1 hf
              have : vals b (s.take i) ≤ vals b (s.take i) * b := Nat.le_mul_of_pos_right _ (by omega)
              omega
            · obtain ⟨h4, h5⟩ := h0 hf
              have h6 : n * b + d ≤ most := by
                have : ¬ (most - d) / b < n := by omega
                rw [hfi] at this
                omega
              have hnb : (n : Int) * (b : Int) = ((n * b : Nat) : Int) := by rw [Int.natCast_mul]
              have e5 : IntKind.u64.wrap ((n : Int) * (b : Int)) = ((n * b : Nat) : Int) := by rw [hnb]; exact wr_u64_nat (by omega)
              have e6 : IntKind.u64.wrap (((n * b : Nat) : Int) + (d : Int)) = ((n * b + d : Nat) : Int) := by rw [wr_u64 (by omega) (by omega)]; omega
              rw [e5, e6, decide_eq_false h3]
              refine ih (i + 1) (by omega) hk h2 _ false (fun _ => ⟨?_, h6⟩) fun h => by cases h
              rw [hv, h4]
            · have h3' : (n : Int) > (((most - d) / b : Nat) : Int) := by omega
              obtain ⟨h4, h5⟩ := h0 hf
              rw [decide_eq_true h3']
              refine ih (i + 1) (by omega) hk h2 n true (fun h => by cases h) fun _ => ?_
              rw [hv, ← h4]
              exact hfi.1 (Int.ofNat_lt.1 h3')
          have hd0 : s.head? = s[0]? := List.head?_eq_getElem?
          refine ⟨fun hi1 => ?_, fun hi1 => ?_⟩
          · have h0s : s[0]? = some s[0] := List.getElem?_eq_getElem (by omega)
            refine ⟨s[0], h0s, fun h2 => ?_, fun h2 => ?_⟩
            · refine bad12 ?_
              have h3 : s[0] = 48 := u8_eq (by have e : (48 : UInt8).toNat = 48 := rfl; omega)
              unfold badn
              rw [decide_eq_true (show 1 < s.length by omega), decide_eq_true (show s.head? = some 48 by rw [hd0, h0s, h3])]
              simp
            · refine go fun _ => ?_
              rw [hd0, h0s]
              intro h3
              injection h3 with h3
              exact h2 (by rw [h3]; rfl)
          · refine go fun h2 => ?_
            have h3 : i ≠ 1 := by omega
            have h4 : i ≠ 0 := by omega
            exact h48 (by omega)
    exact key s.length 0 (by omega) rfl (by omega) 0 false (fun _ => ⟨rfl, by omega⟩) fun h => by cases h)
  exact h
theorem c38 {b most : Nat} (hb : 2 ≤ b) (hb' : b ≤ 16) (hm : 16 ≤ most) (hm' : most < 18446744073709551616) {s : Bytes} (hs : s.length ≤ 10000000) : Pus prog 38 [.s s, .i .u64 (b : Int), .i .u64 (most : Int)] (.tup [.i .u64 ((rd b most s).1 : Int), .i .i64 (rd b most s).2]) := by
  obtain ⟨x, y, ⟨rfl, rfl⟩, h⟩ := p38 H.f38 (s0 := s) (base1 := (b : Int)) (most2 := (most : Int)) (K := fun x y => x = ((rd b most s).1 : Int) ∧ y = (rd b most s).2) (by
    have wb : IntKind.i64.wrap (b : Int) = (b : Int) := wr_i64 (by omega) (by omega)
    have bad12 : badn b s = true → (0 : Int) = ((rd b most s).1 : Int) ∧ (12 : Int) = (rd b most s).2 := by
      intro h
      unfold rd
      rw [if_pos h]
      exact ⟨rfl, rfl⟩
    have hd0 : s.head? = s[0]? := List.head?_eq_getElem?
    have loop : s ≠ [] → (1 < s.length → s.head? ≠ some 48) → ∀ P0 : Int → Prop, (∀ (i8 : Int), T38_2 prog (fun x y => x = ((rd b most s).1 : Int) ∧ y = (rd b most s).2) P0 s (b : Int) (most : Int) i8 → P0 i8) → P0 0 := by
      intro hne h48 P hP
      have key : ∀ m i : Nat, i + m = s.length → okd b (s.take i) = true → P (i : Int) := by
        intro m
        induction m with
        | zero =>
          intro i hi ho
          simp only [Nat.add_zero] at hi
          subst hi
          rw [List.take_length] at ho
          have hbad : badn b s = false := by
            unfold badn
            rw [decide_eq_false hne, ho]
            simp only [Bool.false_or, Bool.not_true]
            by_cases h2 : 1 < s.length
            · rw [decide_eq_false (h48 h2), Bool.and_false]
            · rw [decide_eq_false h2, Bool.false_and]
          apply hP
          unfold T38_2 T38_3
          refine ⟨fun h => absurd h (by omega), fun _ P1 hP1 => ?_⟩
          have hall : ∀ (j : Nat) (hj : j < s.length), 0 ≤ dv b s[j] := by
            intro j hj
            unfold okd at ho
            rw [List.all_eq_true] at ho
            simpa using ho s[j] (List.getElem_mem hj)
          have key2 : ∀ m i : Nat, i + m = s.length → vals b (s.take i) ≤ most → P1 (vals b (s.take i) : Int) (i : Int) := by
            intro m
            induction m with
            | zero =>
              intro i hi hv
              simp only [Nat.add_zero] at hi
              subst hi
              apply hP1
              unfold T38_4 T38_5
              refine ⟨fun h => absurd h (by omega), fun _ => ?_⟩
              rw [List.take_length] at hv ⊢
              unfold rd
              rw [if_neg (by rw [hbad]; decide), if_neg (by omega)]
              exact ⟨rfl, rfl⟩
            | succ m ih =>
              intro i hi hv
              have hil : i < s.length := by omega
              have hd := dv_lt hb' s[i]
              have hn0 := hall i hil
              have hvt := vals_take (b := b) hil
              generalize hdd : (dv b s[i]).toNat = d at hvt
              have hdi : dv b s[i] = (d : Int) := by omega
              have e1 : IntKind.u64.wrap (dv b s[i]) = (d : Int) := by rw [hdi]; exact wr_u64_nat (by omega)
              have e2 : IntKind.u64.wrap ((most : Int) - (d : Int)) = ((most - d : Nat) : Int) := by rw [wr_u64 (by omega) (by omega)]; omega
              have e3 : (((most - d : Nat) : Int)).tdiv (b : Int) = (((most - d) / b : Nat) : Int) := by rw [Int.tdiv_eq_ediv_of_nonneg (by omega)]; omega
              have hq : (most - d) / b ≤ most - d := Nat.div_le_self _ _
              have e4 : IntKind.u64.wrap (((most - d) / b : Nat) : Int) = (((most - d) / b : Nat) : Int) := wr_u64_nat (by omega)
              have hfi := far_iff (n := vals b (s.take i)) (show 0 < b by omega) (show d ≤ most by omega)
              apply hP1
              unfold T38_4
              rw [wb, wr_succ (by omega)]
              refine ⟨fun _ => ⟨by omega, s[i], by rw [toNat_cast, List.getElem?_eq_getElem hil], dv b s[i], c44 H hb' _, by omega, fun h => ?_, fun h => ?_⟩, fun h => absurd h (by omega)⟩
              · simp only [e1, e2, e3, e4] at h
                have h1 := hfi.1 (Int.ofNat_lt.1 h)
                have h2 : most < vals b s := by
                  have mono : ∀ k, i + 1 + k ≤ s.length → most < vals b (s.take (i + 1 + k)) := by
                    intro k
                    induction k with
                    | zero => intro _; rw [Nat.add_zero, hvt]; exact h1
                    | succ k ihk =>
                      intro hk
                      have := ihk (by omega)
                      rw [show i + 1 + (k + 1) = (i + 1 + k) + 1 by omega, vals_take (by omega)]
                      have h3 : vals b (s.take (i + 1 + k)) ≤ vals b (s.take (i + 1 + k)) * b := Nat.le_mul_of_pos_right _ (by omega)
                      omega
                  have := mono (s.length - (i + 1)) (by omega)
                  rwa [show i + 1 + (s.length - (i + 1)) = s.length by omega, List.take_length] at this
                unfold rd
                rw [if_neg (by rw [hbad]; decide), if_pos h2]
                exact ⟨rfl, rfl⟩
              · simp only [e1, e2, e3, e4] at h
                have h1 : ¬ (most - d) / b < vals b (s.take i) := fun h2 => h (Int.ofNat_lt.2 h2)
                rw [hfi] at h1
                generalize hnn : vals b (s.take i) = n at *
                have hnb : (n : Int) * (b : Int) = ((n * b : Nat) : Int) := by rw [Int.natCast_mul]
                have e5 : IntKind.u64.wrap ((n : Int) * (b : Int)) = ((n * b : Nat) : Int) := by rw [hnb]; exact wr_u64_nat (by omega)
                have e6 : IntKind.u64.wrap (((n * b : Nat) : Int) + (d : Int)) = ((n * b + d : Nat) : Int) := by rw [wr_u64 (by omega) (by omega)]; omega
                rw [e1, e5, e6]
                have := ih (i + 1) (by omega) (by rw [hvt]; omega)
                rwa [hvt] at this
          exact key2 s.length 0 (by omega) (Nat.zero_le _)
        | succ m ih =>
          intro i hi ho
          have hil : i < s.length := by omega
          have hd := dv_lt hb' s[i]
          have hk := okd_take (b := b) hil
          apply hP
          unfold T38_2
          rw [wb, wr_succ (by omega)]
          refine ⟨fun _ => ⟨by omega, s[i], by rw [toNat_cast, List.getElem?_eq_getElem hil], dv b s[i], c44 H hb' _, fun h => ?_, fun h => ?_⟩, fun h => absurd h (by omega)⟩
          · refine bad12 ?_
            unfold badn
            rw [okd_of hil h]
            simp
          · refine ih (i + 1) (by omega) ?_
            rw [hk, ho, decide_eq_true (by omega), Bool.and_true]
      exact key s.length 0 (by omega) rfl
    unfold T38_0 T38_1
    refine ⟨fun h => bad12 ?_, fun h => ?_⟩
    · have : s = [] := List.length_eq_zero_iff.1 (by omega)
      subst this
      rfl
    · have hpos : 0 < s.length := by omega
      have hne : s ≠ [] := fun h => by subst h; simp at hpos
      have h0s : s[0]? = some s[0] := List.getElem?_eq_getElem hpos
      refine ⟨s[0], h0s, fun h2 => ⟨fun h3 => bad12 ?_, fun h3 => loop hne fun h4 => absurd h4 (by omega)⟩, fun h2 => loop hne fun h4 => ?_⟩
      · have h4 : s[0] = 48 := u8_eq (by have e : (48 : UInt8).toNat = 48 := rfl; omega)
        unfold badn
        rw [decide_eq_true (show 1 < s.length by omega), decide_eq_true (show s.head? = some 48 by rw [hd0, h0s, h4])]
        simp
      · rw [hd0, h0s]
        intro h5
        injection h5 with h5
        exact h2 (by rw [h5]; rfl))
  exact h
theorem c21 (s : Bytes) : Pus prog 21 [.s s] (.tup [.i .i64 (unnum s).1, .i .i64 (unnum s).2]) := by
  obtain ⟨x, y, ⟨rfl, rfl⟩, h⟩ := p21 H.f21 (s0 := s) (K := fun x y => x = (unnum s).1 ∧ y = (unnum s).2) (by
    unfold T21_0 T21_1
    refine ⟨fun h => by unfold unnum; rw [if_pos (by omega)]; exact ⟨rfl, rfl⟩, fun hs => ⟨_, _, c36 H s [45], ?_⟩⟩
    unfold unnum
    rw [if_neg (by omega)]
    by_cases hm : s.take 1 = [45]
    · have ec : cutp [45] s = (s.drop 1, true) := by unfold cutp; rw [if_pos (by exact hm)]; rfl
      rw [ec, if_pos hm]
      refine ⟨fun h => by simp at h, fun _ => ?_⟩
      have hl := rd_le 10 9223372036854775808 (s.drop 1)
      refine ⟨_, _, c37 H (b := 10) (most := 9223372036854775808) (by omega) (by omega) (by omega) (by omega) (s := s.drop 1) (by simp; omega), fun h => ⟨fun h0 => ?_, fun h0 => ?_⟩, fun h => ?_⟩
      · have e : (rd 10 9223372036854775808 (s.drop 1)).1 = 0 := by omega
        rw [if_pos ⟨h, e⟩, e]
        exact ⟨rfl, rfl⟩
      · rw [if_neg (fun hh => h0 (by rw [hh.2]; rfl))]
        refine ⟨?_, rfl⟩
        rw [IntKind.wrap_u64, IntKind.wrap_i64]
        simp only
        omega
      · have e := rd_err h
        rw [if_neg (fun hh => h hh.1), e]
        exact ⟨rfl, rfl⟩
    · have ec : cutp [45] s = (s, false) := by unfold cutp; rw [if_neg (by exact hm)]
      rw [ec, if_neg hm]
      refine ⟨fun _ => ?_, fun h => by simp at h⟩
      have hl := rd_le 10 9223372036854775807 s
      exact ⟨_, _, c37 H (b := 10) (most := 9223372036854775807) (by omega) (by omega) (by omega) (by omega) (s := s) (by omega), wr_i64 (by omega) (by omega), rfl⟩)
  exact h
theorem c22 (s : Bytes) : Pus prog 22 [.s s] (.tup [.i .i64 (unnum s).1, .i .i64 (unnum s).2]) := by
  obtain ⟨x, y, ⟨rfl, rfl⟩, h⟩ := p22 H.f22 (s0 := s) (K := fun x y => x = (unnum s).1 ∧ y = (unnum s).2) (by
    have plain : ¬ 2000 < s.length → ¬ s.take 1 = [45] → ∃ r'12 : Int, ∃ r'13 : Int, Pus prog 38 [.s s, .i .u64 10, .i .u64 9223372036854775807] (.tup [.i .u64 r'12, .i .i64 r'13]) ∧ (r'13 ≠ 0 → 0 = (unnum s).1 ∧ r'13 = (unnum s).2) ∧ (¬(r'13 ≠ 0) → IntKind.i64.wrap r'12 = (unnum s).1 ∧ 0 = (unnum s).2) := by
      intro hs hm
      have hl := rd_le 10 9223372036854775807 s
      refine ⟨_, _, c38 H (b := 10) (most := 9223372036854775807) (by omega) (by omega) (by omega) (by omega) (s := s) (by omega), fun h => ?_, fun h => ?_⟩
      · have e := rd_err h
        unfold unnum
        rw [if_neg hs, if_neg hm, e]
        exact ⟨rfl, rfl⟩
      · have e : (rd 10 9223372036854775807 s).2 = 0 := by omega
        unfold unnum
        rw [if_neg hs, if_neg hm, e]
        exact ⟨wr_i64 (by omega) (by omega), rfl⟩
    unfold T22_0
    refine ⟨fun h => by unfold unnum; rw [if_pos (by omega)]; exact ⟨rfl, rfl⟩, fun hs => ⟨fun hpos => ?_, fun hpos => plain (by omega) fun h => ?_⟩⟩
    · have h0 : 0 < s.length := by omega
      have ht : s.take 1 = [s[0]] := by
        match s, h0 with
        | c :: r, _ => rfl
      refine ⟨s[0], List.getElem?_eq_getElem h0, fun hm => ?_, fun hm => plain (by omega) fun h => ?_⟩
      · have hm' : s.take 1 = [45] := by rw [ht, u8_eq (show s[0].toNat = (45 : UInt8).toNat by have e : (45 : UInt8).toNat = 45 := rfl; omega)]
        have hl := rd_le 10 9223372036854775808 (s.drop 1)
        refine ⟨fun h => ?_, fun h => ⟨by omega, _, _, c38 H (b := 10) (most := 9223372036854775808) (by omega) (by omega) (by omega) (by omega) (s := s.drop 1) (by simp; omega), fun h1 => ?_, fun h1 => ?_⟩⟩
        · rw [h]
          decide
        · have e := rd_err h1
          unfold unnum
          rw [if_neg (by omega), if_pos hm', if_neg (fun hh => h1 hh.1), e]
          exact ⟨rfl, rfl⟩
        · have e : (rd 10 9223372036854775808 (s.drop 1)).2 = 0 := by omega
          have hn : (rd 10 9223372036854775808 (s.drop 1)).1 ≠ 0 := by
            intro h2
            have h3 := rd_zero (by omega) e h2
            have h4 := List.take_append_drop 1 s
            rw [hm', h3] at h4
            exact h h4.symm
          unfold unnum
          rw [if_neg (by omega), if_pos hm', if_neg (fun hh => hn hh.2), e]
          refine ⟨?_, rfl⟩
          simp only
          rw [IntKind.wrap_i64, IntKind.wrap_i64, IntKind.wrap_i64, IntKind.wrap_u64]
          omega
      · rw [ht] at h
        injection h with h
        exact hm (by rw [h]; rfl)
    · have := congrArg List.length h
      simp only [List.length_take, List.length_cons, List.length_nil] at this
      omega)
  exact h
theorem c45 (s : Bytes) : ∃ c r ok, EscK s c r ok ∧ Pus prog 45 [.s s] (.tup [.i .u8 c, .s r, .b ok]) := by
  refine p45 H.f45 (s0 := s) (K := EscK s) ?_
  unfold T45_0 T45_1
  refine ⟨fun h => by subst h; exact EscK.no rfl, fun h => ?_⟩
  cases s with
  | nil => exact absurd rfl h
  | cons c r =>
    have lit : ∀ {n : Nat} (_ : n < 256), (UInt8.ofNat n).toNat = n := by intro n hn; simp; omega
    unfold T45_2
    refine ⟨c, rfl, ?_⟩
    have t4 : T45_4 prog (EscK (c :: r)) (c :: r) (c.toNat : Int) (decide (c.toNat = 34 ∨ c.toNat = 92)) := by
      unfold T45_4
      refine ⟨fun h1 => ⟨c, rfl, by simp, ?_⟩, fun h1 => ?_⟩
      · have h1 := of_decide_eq_true h1
        exact EscK.yes (show (if c.toNat = 34 ∨ c.toNat = 92 then some (c, r) else _) = some (c, r) from if_pos h1) rfl
      · have h1 := of_decide_eq_false h1
        have e0 : esc (c :: r) = if c.toNat = 110 then some (10, r) else if c.toNat = 120 then esx r else none := by
          show (if c.toNat = 34 ∨ c.toNat = 92 then some (c, r) else if c.toNat = 110 then some (10, r) else if c.toNat = 120 then esx r else none) = _
          rw [if_neg h1]
        refine ⟨fun h2 => ⟨by simp, ?_⟩, fun h2 => ⟨fun h3 => ?_, fun h3 => ?_⟩⟩
        · exact EscK.yes (by rw [e0, if_pos (by omega)]; rfl) rfl
        · have e : esc (c :: r) = esx r := by rw [e0, if_neg (by omega), if_pos (by omega)]
          refine ⟨fun h4 => ?_, fun h4 => ?_⟩
          · refine EscK.no ?_
            rw [e]
            match r, h4 with
            | [], _ => rfl
            | [a], _ => rfl
            | a :: b :: r', h4 => simp at h4; omega
          · match r, h4, e with
            | [], h4, _ => exact absurd (by simp) h4
            | [a], h4, _ => exact absurd (by simp) h4
            | a :: b :: r', _, e =>
              have la := dv_lt (b := 16) (by omega) a
              have lb := dv_lt (b := 16) (by omega) b
              have ca : Pus prog 43 [.s DIG, .i .u8 (a.toNat : Int)] (.i .i64 (dv 16 a)) := c43 H DIG a
              have cb : Pus prog 43 [.s DIG, .i .u8 (b.toNat : Int)] (.i .i64 (dv 16 b)) := c43 H DIG b
              refine ⟨a, rfl, _, ca, b, rfl, _, cb, by simp, ?_⟩
              simp only [esx] at e
              by_cases hv : 0 ≤ dv 16 a ∧ 0 ≤ dv 16 b
              · have hw : IntKind.u8.wrap (IntKind.i64.wrap ((IntKind.i64.wrap (16 * dv 16 a)) + dv 16 b)) = 16 * dv 16 a + dv 16 b := by
                  rw [wr_i64 (z := 16 * dv 16 a) (by omega) (by omega), wr_i64 (by omega) (by omega), wr_u8 (by omega) (by omega)]
                have en := lit (n := (16 * dv 16 a + dv 16 b).toNat) (by omega)
                rw [hw]
                refine ⟨fun _ => ⟨fun _ => ⟨fun h5 => ⟨fun h6 => ?_, fun h6 => ?_⟩, fun h5 => ?_⟩, fun h5 => absurd hv.2 h5⟩, fun h5 => absurd hv.1 h5⟩
                · rw [if_pos ⟨hv.1, hv.2, by omega, by omega⟩] at e
                  exact EscK.yes e (by rw [en]; omega)
                · by_cases h7 : 126 < 16 * dv 16 a + dv 16 b
                  · rw [if_pos ⟨hv.1, hv.2, by omega, by omega⟩] at e
                    rw [decide_eq_true h7]
                    exact EscK.yes e (by rw [en]; omega)
                  · rw [if_neg (by omega)] at e
                    rw [decide_eq_false h7]
                    exact EscK.no e
                · rw [if_neg (by omega)] at e
                  exact EscK.no e
              · rw [if_neg (by omega)] at e
                exact ⟨fun h5 => ⟨fun h6 => absurd ⟨h5, h6⟩ hv, fun _ => EscK.no e⟩, fun _ => EscK.no e⟩
        · exact EscK.no (by rw [e0, if_neg (by omega), if_neg (by omega)])
    unfold T45_3
    refine ⟨fun h1 => ?_, fun h1 => ?_⟩
    · rw [show decide ((c.toNat : Int) = 34) = decide (c.toNat = 34 ∨ c.toNat = 92) from decide_eq_decide.2 (by omega)]
      exact t4
    · rw [show decide ((c.toNat : Int) = 92) = decide (c.toNat = 34 ∨ c.toNat = 92) from decide_eq_decide.2 (by omega)]
      exact t4
theorem c39 {s : Bytes} (hs : s.length ≤ 10000000) : Pus prog 39 [.s s] (.tup [.s (nxtR s).1, .s (nxtR s).2.1, .b (nxtR s).2.2]) := by
  obtain ⟨x, y, z, ⟨rfl, rfl, rfl⟩, h⟩ := p39 H.f39 (s0 := s) (K := fun x y z => x = (nxtR s).1 ∧ y = (nxtR s).2.1 ∧ z = (nxtR s).2.2) (by
    have no : nxt s = none → ([] : Bytes) = (nxtR s).1 ∧ ([] : Bytes) = (nxtR s).2.1 ∧ false = (nxtR s).2.2 := by
      intro h
      unfold nxtR
      rw [h]
      exact ⟨rfl, rfl, rfl⟩
    unfold T39_0 T39_1
    refine ⟨_, _, c36 H s [34], ?_⟩
    cases s with
    | nil =>
      rw [show cutp [34] [] = ([], false) from rfl]
      exact ⟨fun _ => no rfl, fun h => by simp at h⟩
    | cons q s =>
      by_cases hq : q.toNat = 34
      · have hq' : q = 34 := u8_eq hq
        subst hq'
        have ec : cutp [34] (34 :: s) = (s, true) := by unfold cutp; rw [if_pos (show List.take ([34] : Bytes).length (34 :: s) = [34] from rfl)]; rfl
        rw [ec]
        refine ⟨fun h => by simp at h, fun _ P hP => ?_⟩
        have hn : nxt (34 :: s) = nxtB (s.length + 1) [] s := by
          simp only [nxt]
          rw [if_pos hq]
        have key : ∀ n b r, r.length < n → b.length + r.length ≤ 10000000 → nxtB n b r = nxt (34 :: s) → P r b := by
          intro n
          induction n with
          | zero => intro b r h; exact absurd h (Nat.not_lt_zero _)
          | succ n ih =>
            intro b r hr hb hx
            apply hP
            unfold T39_2
            cases r with
            | nil => exact ⟨fun h => absurd rfl h, fun _ => no (by rw [← hx]; rfl)⟩
            | cons c r =>
              simp only [nxtB] at hx
              refine ⟨fun _ => ⟨c, rfl, by simp, fun h1 => ?_, fun h1 => ⟨fun h2 => ?_, fun h2 => ⟨fun h3 => ?_, fun h3 => ⟨fun h4 => ?_, fun h4 => ?_⟩⟩⟩⟩, fun h => absurd (by simp) h⟩
              · rw [if_pos (by omega)] at hx
                unfold nxtR
                rw [← hx]
                exact ⟨rfl, rfl, rfl⟩
              · refine no ?_
                rw [← hx, if_neg (by omega), show one (c :: r) = none by simp only [one]; rw [if_pos (by omega)]]
              · refine no ?_
                rw [← hx, if_neg (by omega), show one (c :: r) = none by simp only [one]; rw [if_pos (by omega)]]
              · rw [if_neg (by omega), show one (c :: r) = esc r by simp only [one]; rw [if_neg (by omega), if_pos (by omega)]] at hx
                obtain ⟨a, r', ok, hk, hp⟩ := c45 H r
                refine ⟨a, r', ok, hp, fun h5 => ?_, fun h5 => ?_⟩
                · unfold EscK at hk
                  cases he : esc r with
                  | none => rw [he] at hx; exact no hx.symm
                  | some p =>
                    rw [he] at hk
                    obtain ⟨_, _, hk⟩ := hk
                    rw [hk] at h5
                    exact absurd h5 (by decide)
                · unfold EscK at hk
                  cases he : esc r with
                  | none =>
                    rw [he] at hk
                    simp only at hk
                    rw [hk] at h5
                    exact absurd h5 (by decide)
                  | some p =>
                    obtain ⟨u, v⟩ := p
                    rw [he] at hk hx
                    obtain ⟨h6, h7, h8⟩ := hk
                    simp only at hx h6 h7
                    subst h6; subst h7
                    have hl : r'.length < (c :: r).length := one_len (c := u) (by simp only [one]; rw [if_neg (by omega), if_pos (by omega)]; exact he)
                    simp only [List.length_cons] at hl hb hr
                    unfold T39_3
                    refine ⟨u, rfl, ⟨?_, ?_⟩, ih _ _ (by omega) ?_ hx⟩
                    · simp only [List.length_cons, List.length_nil, maxBytes_eq]; omega
                    · simp only [List.length_cons, List.length_nil, maxBytes_eq]; omega
                    · simp only [List.length_append, List.length_cons, List.length_nil]; omega
              · rw [if_neg (by omega), show one (c :: r) = some (c, r) by simp only [one]; rw [if_neg (by omega), if_neg (by omega)]] at hx
                simp only [List.length_cons] at hb hr
                unfold T39_3
                refine ⟨c, rfl, ⟨?_, ?_⟩, ih _ _ (show r.length < n by omega) ?_ hx⟩
                · simp only [List.length_cons, List.length_nil, maxBytes_eq]; omega
                · simp only [List.length_cons, List.length_nil, maxBytes_eq]; omega
                · simp only [List.drop_succ_cons, List.drop_zero, List.length_append, List.length_cons, List.length_nil]; omega
        exact key (s.length + 1) [] s (by omega) (by simp at hs ⊢; omega) hn.symm
      · have ec : cutp [34] (q :: s) = (q :: s, false) := by
          unfold cutp
          rw [if_neg ?_]
          intro h
          injection h with h
          exact hq (by rw [h]; rfl)
        rw [ec]
        refine ⟨fun _ => no ?_, fun h => by simp at h⟩
        simp only [nxt]
        rw [if_neg hq])
  exact h
theorem c40 {s : Bytes} (hs : s.length ≤ 10000000) : Pus prog 40 [.s s] (.tup [.s (nxtR s).1, .s (nxtR s).2.1, .b (nxtR s).2.2]) := by
  obtain ⟨x, y, z, ⟨rfl, rfl, rfl⟩, h⟩ := p40 H.f40 (s0 := s) (K := fun x y z => x = (nxtR s).1 ∧ y = (nxtR s).2.1 ∧ z = (nxtR s).2.2) (by
    have no : nxt s = none → ([] : Bytes) = (nxtR s).1 ∧ ([] : Bytes) = (nxtR s).2.1 ∧ false = (nxtR s).2.2 := by
      intro h
      unfold nxtR
      rw [h]
      exact ⟨rfl, rfl, rfl⟩
    unfold T40_0 T40_1
    cases s with
    | nil => exact ⟨fun _ => no rfl, fun h => absurd rfl h⟩
    | cons q s =>
      refine ⟨fun h => absurd h (by simp; omega), fun _ => ⟨q, rfl, fun hq => no ?_, fun hq => ?_⟩⟩
      · simp only [nxt]
        rw [if_neg (by omega)]
      · have hn : nxt (q :: s) = nxtB (s.length + 1) [] s := by
          simp only [nxt]
          rw [if_pos (by omega)]
        unfold T40_2 T40_3 T40_4
        refine ⟨by simp, fun P hP => ?_⟩
        have key : ∀ n b r, r.length < n → b.length + r.length ≤ 10000000 → nxtB n b r = nxt (q :: s) → P r b := by
          intro n
          induction n with
          | zero => intro b r h; exact absurd h (Nat.not_lt_zero _)
          | succ n ih =>
            intro b r hr hb hx
            apply hP
            unfold T40_5
            cases r with
            | nil =>
              refine ⟨fun h => absurd h (by simp), fun _ => ?_⟩
              unfold T40_9
              exact ⟨fun _ => no (by rw [← hx]; rfl), fun h => absurd rfl h⟩
            | cons c r =>
              simp only [nxtB] at hx
              refine ⟨fun _ => ⟨c, rfl, fun h1 => ?_, fun h1 => ?_⟩, fun h => absurd (show ((c :: r).length : Int) > 0 by simp) h⟩
              · rw [if_neg (by omega)] at hx
                intro P1 hP1
                have pref : ∀ a : UInt8, (c :: r).take (chr a).length = chr a ↔ one (c :: r) = some (a, (c :: r).drop (chr a).length) := fun a => take_chr
                have lit : ∀ {i : Nat} (_ : i < 256), IntKind.u8.wrap (i : Int) = ((UInt8.ofNat i).toNat : Int) := by
                  intro i hi
                  rw [wr_u8 (by omega) (by omega)]
                  simp; omega
                -- a step that finds nothing
                have skip : ∀ i : Nat, i < 256 → one (c :: r) ≠ some (UInt8.ofNat i, (c :: r).drop (chr (UInt8.ofNat i)).length) → P1 (c :: r) b false ((i + 1 : Nat) : Int) → P1 (c :: r) b false (i : Int) := by
                  intro i hi hne hnext
                  apply hP1
                  unfold T40_6 T40_7
                  rw [lit hi, wr_succ (by omega)]
                  refine ⟨fun _ => ⟨fun _ => ⟨_, c41 H _, fun h2 => ⟨by omega, by omega, fun h3 => ?_, fun h3 => hnext⟩, fun h2 => hnext⟩, fun h => by simp at h⟩, fun h => absurd (show (i : Int) < 256 by omega) h⟩
                  exact absurd ((pref _).1 h3) hne
                cases ho : one (c :: r) with
                | none =>
                  rw [ho] at hx
                  refine loop_up0 (P := fun i => P1 (c :: r) b false i) 256 ?_ fun i hi hnext => skip i hi (by rw [ho]; intro h; cases h) hnext
                  apply hP1
                  unfold T40_6 T40_8
                  exact ⟨fun h => absurd h (by decide), fun _ => ⟨fun _ => no hx.symm, fun h => by simp at h⟩⟩
                | some p =>
                  obtain ⟨a, r'⟩ := p
                  rw [ho] at hx
                  simp only at hx
                  have hl := one_len ho
                  simp only [List.length_cons] at hl hb hr
                  have ha := a.toNat_lt
                  have hthen : P r' (b ++ [a]) := ih _ _ (by omega) (by simp only [List.length_append, List.length_cons, List.length_nil]; omega) hx
                  have hinv := one_inv ho
                  have hdr : (c :: r).drop (chr a).length = r' := by rw [hinv]; simp
                  have hfound : ∀ i : Int, P1 r' (b ++ [a]) true i := by
                    intro i
                    apply hP1
                    unfold T40_6 T40_8
                    exact ⟨fun _ => ⟨fun h => by simp at h, fun _ => ⟨fun h => by simp at h, fun _ => hthen⟩⟩, fun _ => ⟨fun h => by simp at h, fun _ => hthen⟩⟩
                  have hat : P1 (c :: r) b false (a.toNat : Int) := by
                    apply hP1
                    unfold T40_6 T40_7
                    have e1 : IntKind.u8.wrap (a.toNat : Int) = (a.toNat : Int) := wr_u8 (by omega) (by omega)
                    have hlen := congrArg List.length hinv
                    simp only [List.length_append, List.length_cons] at hlen
                    rw [e1]
                    refine ⟨fun _ => ⟨fun _ => ⟨_, c41 H a, fun h2 => ⟨by omega, by rw [toNat_cast, List.length_cons]; omega, fun h3 => ⟨a, rfl, ?_, by omega, by rw [toNat_cast, List.length_cons]; omega, ?_⟩, fun h3 => ?_⟩, fun h2 => ?_⟩, fun h => by simp at h⟩, fun h => absurd (show (a.toNat : Int) < 256 by omega) h⟩
                    · simp only [List.length_cons, List.length_nil, maxStr_eq]; omega
                    · rw [toNat_cast, hdr]
                      exact hfound _
                    · exact absurd ((pref a).2 (by rw [ho, hdr])) h3
                    · simp only [List.length_cons] at h2
                      omega
                  have below : ∀ m i : Nat, i + m = a.toNat → P1 (c :: r) b false (i : Int) := by
                    intro m
                    induction m with
                    | zero => intro i hi; simp only [Nat.add_zero] at hi; rw [hi]; exact hat
                    | succ m ihm =>
                      intro i hi
                      refine skip i (by omega) ?_ (ihm (i + 1) (by omega))
                      rw [ho]
                      intro h
                      injection h with h
                      injection h with h
                      have := congrArg UInt8.toNat h
                      simp at this
                      omega
                  exact below a.toNat 0 (by omega)
              · unfold T40_9
                rw [if_pos (by omega)] at hx
                refine ⟨fun h => absurd h (by simp; omega), fun _ => ⟨by simp, ?_⟩⟩
                unfold nxtR
                rw [← hx]
                exact ⟨rfl, rfl, rfl⟩
        exact key (s.length + 1) [] s (by omega) (by simp at hs ⊢; omega) hn.symm)
  exact h
theorem c25 (s : Bytes) : Pus prog 25 [.s s] (.tup [.s (unquo s).1, .i .i64 (unquo s).2]) := by
  obtain ⟨x, y, ⟨rfl, rfl⟩, h⟩ := p25 H.f25 (s0 := s) (K := fun x y => x = (unquo s).1 ∧ y = (unquo s).2) (by
    unfold T25_0 unquo
    refine ⟨fun h => by rw [if_pos (by omega)]; exact ⟨rfl, rfl⟩, fun hs => ⟨_, _, _, c39 H (by omega), ?_⟩⟩
    rw [if_neg (by omega)]
    unfold nxtR
    cases nxt s with
    | none => exact ⟨fun _ => ⟨rfl, rfl⟩, fun h => by simp at h⟩
    | some p =>
      obtain ⟨x, r⟩ := p
      refine ⟨fun h => by simp at h, fun _ => ⟨fun h => ?_, fun h => ?_⟩⟩
      · cases r with
        | nil => exact absurd rfl h
        | cons c r => exact ⟨rfl, rfl⟩
      · have h : r = [] := Classical.not_not.1 h
        subst h
        refine ⟨fun h => ?_, fun h => ?_⟩
        · simp only at h ⊢
          rw [if_pos (by omega)]; exact ⟨rfl, rfl⟩
        · simp only at h ⊢
          rw [if_neg (by omega)]; exact ⟨rfl, rfl⟩)
  exact h
theorem c26 (s : Bytes) : Pus prog 26 [.s s] (.tup [.s (unquo s).1, .i .i64 (unquo s).2]) := by
  obtain ⟨x, y, ⟨rfl, rfl⟩, h⟩ := p26 H.f26 (s0 := s) (K := fun x y => x = (unquo s).1 ∧ y = (unquo s).2) (by
    unfold T26_0 unquo
    refine ⟨fun h => by rw [if_pos (by omega)]; exact ⟨rfl, rfl⟩, fun hs => ⟨_, _, _, c40 H (by omega), ?_⟩⟩
    rw [if_neg (by omega)]
    unfold nxtR
    cases nxt s with
    | none => exact ⟨fun _ => ⟨rfl, rfl⟩, fun h => by simp at h⟩
    | some p =>
      obtain ⟨x, r⟩ := p
      refine ⟨fun h => by simp at h, fun _ => ⟨fun h => ?_, fun h => ?_⟩⟩
      · cases r with
        | nil => exact absurd rfl h
        | cons c r => exact ⟨rfl, rfl⟩
      · have h : r = [] := Classical.not_not.1 h
        subst h
        refine ⟨fun h => ?_, fun h => ?_⟩
        · simp only at h ⊢
          rw [if_pos (by omega)]; exact ⟨rfl, rfl⟩
        · simp only at h ⊢
          rw [if_neg (by omega)]; exact ⟨rfl, rfl⟩)
  exact h
theorem c29 {a b : List Bytes} (ha : a.length ≤ 1000000000) : Pus prog 29 [.sl .ext (a.map rowS), .sl .ext (b.map rowS)] (.b (decide (a = b))) := by
  obtain ⟨x, rfl, h⟩ := p29 H.f29 (a0 := a) (b1 := b) (K := fun x => x = decide (a = b)) (by
    unfold T29_0
    refine ⟨fun h => (decide_eq_false fun e => h (by rw [e])).symm, fun hl P hP => ?_⟩
    have hlen : a.length = b.length := by omega
    have key : ∀ m i : Nat, i + m = a.length → (∀ j, j < i → a[j]? = b[j]?) → P (i : Int) := by
      intro m
      induction m with
      | zero =>
        intro i hi hj
        apply hP
        unfold T29_1 T29_2
        refine ⟨fun h => absurd h (by omega), fun _ => (decide_eq_true ?_).symm⟩
        apply List.ext_getElem?
        intro j
        rcases Nat.lt_or_ge j i with h | h
        · exact hj j h
        · rw [List.getElem?_eq_none (by omega), List.getElem?_eq_none (by omega)]
      | succ m ih =>
        intro i hi hj
        have h1 : i < a.length := by omega
        have h2 : i < b.length := by omega
        apply hP
        unfold T29_1
        refine ⟨fun _ => ⟨by omega, a[i], by rw [toNat_cast, List.getElem?_eq_getElem h1], by omega, b[i], by rw [toNat_cast, List.getElem?_eq_getElem h2], fun h => ?_, fun h => ?_⟩, fun h => absurd h (by omega)⟩
        · refine (decide_eq_false fun e => h ?_).symm
          subst e
          rfl
        · rw [wr_succ (by omega)]
          refine ih (i + 1) (by omega) fun j hj' => ?_
          rcases Nat.lt_or_ge j i with h3 | h3
          · exact hj j h3
          · have : j = i := by omega
            subst this
            rw [List.getElem?_eq_getElem h1, List.getElem?_eq_getElem h2, Classical.not_not.1 h]
    exact key a.length 0 (by omega) (by simp))
  exact h
end
end Go.AM

/- Parts of the proof. -/
namespace Go.AM
open Go
def isD (c : UInt8) : Bool := decide (48 ≤ c.toNat) && decide (c.toNat ≤ 57)
def digN : Bytes → Nat
  | [] => 0
  | c :: s => if isD c = true then 1 + digN s else 0
def numN (s : Bytes) : Nat := if s.head? = some 45 then 1 + digN (s.drop 1) else digN s
theorem digN_le : ∀ s : Bytes, digN s ≤ s.length
  | [] => Nat.le_refl _
  | c :: s => by
    have := digN_le s
    rw [digN, List.length_cons]
    split <;> omega
theorem numN_le (s : Bytes) : numN s ≤ s.length := by
  unfold numN
  cases s with
  | nil => simp [digN]
  | cons c s =>
    have h1 := digN_le s
    have h2 := digN_le (c :: s)
    split
    · simp only [List.drop_succ_cons, List.drop_zero, List.length_cons]; omega
    · exact h2
def qs : Bytes → Option Nat
  | [] => none
  | c :: r => if c = 92 then (match r with | [] => none | _ :: r' => (qs r').map (· + 2)) else if c = 34 then some 1 else (qs r).map (· + 1)
theorem qs_le : ∀ (n : Nat) (s : Bytes) (k : Nat), s.length ≤ n → qs s = some k → 1 ≤ k ∧ k ≤ s.length
  | n, [], k, _, h => by rw [qs] at h; cases h
  | n + 1, c :: r, k, hn, h => by
    rw [qs.eq_def] at h
    simp only at h
    simp only [List.length_cons] at hn ⊢
    split at h
    · cases r with
      | nil => cases h
      | cons c' r' =>
        simp only [Option.map_eq_some_iff] at h
        obtain ⟨m, h1, rfl⟩ := h
        simp only [List.length_cons] at hn ⊢
        have := qs_le n r' m (by omega) h1
        omega
    · split at h
      · cases h; omega
      · simp only [Option.map_eq_some_iff] at h
        obtain ⟨m, h1, rfl⟩ := h
        have := qs_le n r m (by omega) h1
        omega
def scNum (s : Bytes) : Int × Bool × Bytes := ((unnum (s.take (numN s))).1, decide ((unnum (s.take (numN s))).2 = 0), s.drop (numN s))
def scQ (s : Bytes) : Bytes × Bool × Bytes := match qs (s.drop 1) with
  | none => ([], false, s)
  | some k => ((unquo (s.take (k + 1))).1, decide ((unquo (s.take (k + 1))).2 = 0), s.drop (k + 1))
def scG (f : Bytes → Val × Bool × Bytes) (kind : Int) (stop : Bytes) : Nat → List Val → Bytes → Val × Bool × Bytes
  | 0, acc, s => (Val.mk kind 0 [] acc false, false, s)
  | k + 1, acc, s => if (f s).2.1 = false then (Val.mk kind 0 [] acc false, false, (f s).2.2) else
      if (cutp stop (f s).2.2).2 = true then (Val.mk kind 0 [] (acc ++ [(f s).1]) false, true, (cutp stop (f s).2.2).1) else
      if (cutp [44, 32] (cutp stop (f s).2.2).1).2 = false then (Val.mk kind 0 [] (acc ++ [(f s).1]) false, false, (cutp [44, 32] (cutp stop (f s).2.2).1).1) else
      scG f kind stop k (acc ++ [(f s).1]) (cutp [44, 32] (cutp stop (f s).2.2).1).1
def scL (f : Bytes → Val × Bool × Bytes) (kind : Int) (stop s : Bytes) : Val × Bool × Bytes :=
  if (cutp stop s).2 = true then (Val.mk kind 0 [] [] false, true, (cutp stop s).1) else scG f kind stop 17 [] (cutp stop s).1
def scV : Nat → Bytes → Val × Bool × Bytes
  | 0, s => (vz, false, s)
  | d + 1, s => if s = [] then (vz, false, s) else
      if (cutp tTrue s).2 = true then (Val.mk 1 1 [] [] false, true, (cutp tTrue s).1) else
      if (cutp tFalse s).2 = true then (Val.mk 1 0 [] [] false, true, (cutp tFalse s).1) else
      if (cutp tNil s).2 = true then (Val.mk 4 0 [] [] false, true, (cutp tNil s).1) else
      if (cutp tCutP s).2 = true then (Val.mk 4 0 [] [] true, true, (cutp tCutP s).1) else
      if (cutp tCutS s).2 = true then (Val.mk 7 0 [] [] true, true, (cutp tCutS s).1) else
      if (cutp [38] s).2 = true then (Val.mk 4 0 [] [(scV d (cutp [38] s).1).1] false, (scV d (cutp [38] s).1).2) else
      if (cutp [123] s).2 = true then scL (scV d) 5 [125] (cutp [123] s).1 else
      if (cutp [91] s).2 = true then scL (scV d) 6 [93] (cutp [91] s).1 else
      if (cutp [60] s).2 = true then scL (scV d) 7 [62] (cutp [60] s).1 else
      if s.head? = some 34 then (Val.mk 3 0 (scQ s).1 [] false, (scQ s).2) else
      (Val.mk 2 (scNum s).1 [] [] false, (scNum s).2)
theorem cutp_no {p s : Bytes} (h : (cutp p s).2 = false) : (cutp p s).1 = s := by
  unfold cutp at h ⊢
  split
  · rename_i h1; rw [if_pos h1] at h; cases h
  · rfl
theorem cutp_app (p s : Bytes) : cutp p (p ++ s) = (s, true) := by
  unfold cutp
  rw [if_pos (by simp), List.drop_left]
theorem cutp_head {c d : UInt8} {p s : Bytes} (h : c ≠ d) : cutp (c :: p) (d :: s) = (d :: s, false) := by
  unfold cutp
  rw [if_neg]
  simp only [List.length_cons, List.take_succ_cons, List.cons.injEq]
  rintro ⟨rfl, _⟩
  exact h rfl
theorem cutp_nil {c : UInt8} {p : Bytes} : cutp (c :: p) [] = ([], false) := by
  unfold cutp
  rw [if_neg (by simp)]
theorem unnum_rng (s : Bytes) : -9223372036854775808 ≤ (unnum s).1 ∧ (unnum s).1 < 9223372036854775808 := by
  have h1 := rd_le 10 9223372036854775808 (s.drop 1)
  have h2 := rd_le 10 9223372036854775807 s
  unfold unnum
  split
  · exact ⟨by decide, by decide⟩
  split
  · split
    · exact ⟨by decide, by decide⟩
    · dsimp only
      omega
  · dsimp only
    omega
theorem Wf.ite {c : Prop} [Decidable c] {a b : Val × Bool × Bytes} (ha : Wf a.1) (hb : Wf b.1) : Wf (if c then a else b).1 := by
  split
  · exact ha
  · exact hb
theorem scG_wf {f : Bytes → Val × Bool × Bytes} {kind : Int} {stop : Bytes} (hk : 0 ≤ kind ∧ kind < 256) (hf : ∀ s, Wf (f s).1) : ∀ (n : Nat) (acc : List Val) (s : Bytes), n ≤ 17 → acc.length + n = 17 → (∀ x ∈ acc, Wf x) → Wf (scG f kind stop n acc s).1
  | 0, acc, s, _, hl, h => by
    rw [scG]
    exact .mk hk (by decide) (by omega) h
  | n + 1, acc, s, hn, hl, h => by
    have h1 : ∀ x ∈ acc ++ [(f s).1], Wf x := by
      intro x hx
      rcases List.mem_append.1 hx with hx | hx
      · exact h x hx
      · rw [List.mem_singleton.1 hx]; exact hf s
    rw [scG]
    split
    · exact .mk hk (by decide) (by omega) h
    · split
      · exact .mk hk (by decide) (by simp; omega) h1
      · split
        · exact .mk hk (by decide) (by simp; omega) h1
        · exact scG_wf hk hf n _ _ (by omega) (by simp; omega) h1
theorem scL_wf {f : Bytes → Val × Bool × Bytes} {kind : Int} {stop s : Bytes} (hk : 0 ≤ kind ∧ kind < 256) (hf : ∀ s, Wf (f s).1) : Wf (scL f kind stop s).1 := by
  unfold scL
  split
  · exact .mk hk (by decide) (by decide) (by simp)
  · exact scG_wf hk hf 17 [] _ (by omega) rfl (by simp)
theorem scV_wf : ∀ (d : Nat) (s : Bytes), Wf (scV d s).1
  | 0, s => Wf.zero
  | d + 1, s => by
    have w0 : ∀ (k n : Int) (c : Bool), 0 ≤ k ∧ k < 256 → -9223372036854775808 ≤ n ∧ n < 9223372036854775808 → Wf (Val.mk k n [] [] c) := fun k n c h1 h2 => .mk h1 h2 (by decide) (by simp)
    rw [scV]
    exact .ite Wf.zero (.ite (w0 _ _ _ (by decide) (by decide)) (.ite (w0 _ _ _ (by decide) (by decide)) (.ite (w0 _ _ _ (by decide) (by decide)) (.ite (w0 _ _ _ (by decide) (by decide)) (.ite (w0 _ _ _ (by decide) (by decide))
      (.ite (.mk (by decide) (by decide) (by simp) (fun x hx => by rw [List.mem_singleton.1 hx]; exact scV_wf d _)) (.ite (scL_wf (by decide) (scV_wf d)) (.ite (scL_wf (by decide) (scV_wf d)) (.ite (scL_wf (by decide) (scV_wf d))
      (.ite (.mk (by decide) (by decide) (by simp) (by simp)) (.mk (by decide) (unnum_rng _) (by simp) (by simp))))))))))))
end Go.AM

/- Parts of the proof. -/
namespace Go.AM
open Go
section
variable {f : Bytes → Val × Bool × Bytes} {kind : Int} {e : UInt8}
end
theorem len0 {α : Type} {l : List α} (h : l.length = 0) : l = [] := List.length_eq_zero_iff.1 h
def rvs (s : Bytes) : Val × Int := if 1400000 < s.length then (vz, 4) else
  if (scV 130 s).2.1 = true ∧ (scV 130 s).2.2 = [] ∧ fine (scV 130 s).1 = true ∧ txt (scV 130 s).1 = s then ((scV 130 s).1, 0) else (vz, 12)
theorem fine_ok {v : Val} (h : fine v = true) : okv 130 v = true ∧ v.nodes ≤ 5000 := by
  simpa [fine] using h
theorem rvs_wf (s : Bytes) : Wf (rvs s).1 := by
  unfold rvs
  split
  · exact Wf.zero
  · split
    · exact scV_wf _ _
    · exact Wf.zero
noncomputable def sameV (v w : Val) : Bool := @decide (v = w) (Classical.propDecidable _)
theorem sameV_true {v w : Val} : sameV v w = true ↔ v = w := by unfold sameV; simp
theorem sameV_false {v w : Val} : sameV v w = false ↔ v ≠ w := by
  rw [← Bool.not_eq_true, sameV_true]
end Go.AM

/- Parts of the proof. -/
namespace Go.AM
open Go
structure Has38 (prog : Prog) : Prop extends Has03 prog, HasB prog where
  f71 : prog.fn 71 = some pf71
  f72 : prog.fn 72 = some pf72
  f74 : prog.fn 74 = some pf74
  f75 : prog.fn 75 = some pf75
  f76 : prog.fn 76 = some pf76
  f77 : prog.fn 77 = some pf77
  f78 : prog.fn 78 = some pf78
  f102 : prog.fn 102 = some pf102
  f103 : prog.fn 103 = some pf103
  f104 : prog.fn 104 = some pf104
  f106 : prog.fn 106 = some pf106
  f107 : prog.fn 107 = some pf107
  f108 : prog.fn 108 = some pf108
  f109 : prog.fn 109 = some pf109
  f110 : prog.fn 110 = some pf110
  f127 : prog.fn 127 = some pf127
  f128 : prog.fn 128 = some pf128
  f129 : prog.fn 129 = some pf129
  f130 : prog.fn 130 = some pf130
  f131 : prog.fn 131 = some pf131
  f132 : prog.fn 132 = some pf132
  f133 : prog.fn 133 = some pf133
  f134 : prog.fn 134 = some pf134
  f135 : prog.fn 135 = some pf135
  f136 : prog.fn 136 = some pf136
section
variable {prog : Prog} (H : Has38 prog)
include H
theorem c136 (v : Val) : Pus prog 136 [v.av] (.b (decide (v.list.length = 0 ∧ v.cut = false))) := by
  obtain ⟨x, rfl, h⟩ := p136 H.f136 (v0 := v) (K := fun x => x = decide (v.list.length = 0 ∧ v.cut = false)) (by
    unfold T136_0
    refine ⟨fun h => ?_, fun h => ?_⟩
    · cases v.cut
      · exact (decide_eq_true ⟨by omega, rfl⟩).symm
      · exact (decide_eq_false (by rintro ⟨_, h⟩; cases h)).symm
    · exact (decide_eq_false (by rintro ⟨h1, _⟩; omega)).symm)
  exact h
theorem c102 : ∀ (d : Nat) {v : Val}, Wf v → d ≤ 1000 → Pus prog 102 [v.av, .i .i64 (d : Int)] (.b (deepv d v))
  | 0, v, hw, hd => by
    obtain ⟨x, rfl, h⟩ := p102 H.f102 (v0 := v) (most1 := ((0 : Nat) : Int)) (K := fun x => x = deepv 0 v) (by
      unfold T102_0
      exact ⟨fun _ => rfl, fun h => absurd rfl h⟩)
    exact h
  | d + 1, v, hw, hd => by
    have ih := @c102 d
    obtain ⟨x, rfl, h⟩ := p102 H.f102 (v0 := v) (most1 := ((d + 1 : Nat) : Int)) (K := fun x => x = deepv (d + 1) v) (by
      have hm : IntKind.i64.wrap (((d + 1 : Nat) : Int) - 1) = (d : Int) := by rw [wr_i64 (by omega) (by omega)]; omega
      unfold T102_0
      refine ⟨fun h => absurd h (by omega), fun _ => ⟨fun h => ?_, fun h1 => ⟨fun h => ?_, fun h2 P hP => ?_⟩⟩⟩
      · rw [deepv, decide_eq_true (show 100 < v.text.length by omega)]; rfl
      · rw [deepv, decide_eq_true (show 400 < v.list.length by omega), Bool.or_true]; rfl
      · have e : deepv (d + 1) v = v.list.any (deepv d) := by
          rw [deepv, decide_eq_false (by omega), decide_eq_false (by omega)]; rfl
        refine loop_inv (P := fun _ i => P i v) (fun _ => ()) v.list.length (fun i => (v.list.take i).any (deepv d) = false) (by simp) (fun hI => ?_) (fun i hi hI ihP => ?_)
        · apply hP
          unfold T102_1 T102_2
          refine ⟨fun h => absurd h (by omega), fun _ => ?_⟩
          rw [List.take_length] at hI
          rw [e, hI]
        · apply hP
          unfold T102_1
          refine ⟨fun _ => ⟨by omega, _, get_at hi, _, by rw [hm]; exact ih (hw.e _ (List.getElem_mem hi)) (by omega), fun h3 => ?_, fun h3 => ?_⟩, fun h => absurd (show (i : Int) < v.list.length by omega) h⟩
          · rw [e]
            exact (List.any_eq_true.2 ⟨_, List.getElem_mem hi, h3⟩).symm
          · rw [wr_succ (by omega)]
            refine ihP ?_
            rw [List.take_succ_eq_append_getElem hi, List.any_append, hI]
            simpa using h3)
    exact h
omit H in
theorem rNs_snoc {l : List Val} {i n : Nat} (hi : i < l.length) (hn : rNs (l.take i) n ≤ 5000) : rNs (l.take (i + 1)) n = rNs (l.take i) n + rN l[i] := by
  have key : ∀ (l : List Val) (v : Val) (n : Nat), rNs l n ≤ 5000 → rNs (l ++ [v]) n = rNs l n + rN v := by
    intro l
    induction l with
    | nil => intro v n h; rw [rNs] at h; simp [rNs, h]
    | cons w l ih =>
      intro v n h
      rw [rNs] at h
      by_cases hn : n ≤ 5000
      · rw [if_pos hn] at h
        simp only [List.cons_append, rNs, if_pos hn]
        exact ih v _ h
      · rw [if_neg hn] at h
        exact absurd h hn
  rw [List.take_succ_eq_append_getElem hi, key _ _ _ hn]
omit H in
theorem rNs_stop {l : List Val} {i n : Nat} (h : 5000 < rNs (l.take i) n) : rNs l n = rNs (l.take i) n := by
  have key : ∀ (l m : List Val) (n : Nat), 5000 < rNs l n → rNs (l ++ m) n = rNs l n := by
    intro l
    induction l with
    | nil =>
      intro m n h
      rw [rNs] at h
      cases m with
      | nil => rfl
      | cons w m => simp only [List.nil_append, rNs]; rw [if_neg (by omega)]
    | cons w l ih =>
      intro m n h
      rw [rNs] at h
      simp only [List.cons_append, rNs]
      split
      · rename_i hn; rw [if_pos hn] at h; exact ih m _ h
      · rfl
  have := key (l.take i) (l.drop i) n h
  rwa [List.take_append_drop] at this
theorem c103 : ∀ (d : Nat) {v : Val}, Sm d v → d ≤ 1000 → Pus prog 103 [v.av] (.i .i64 (rN v : Int))
  | 0, v, hs, hd => hs.elim
  | d + 1, v, hs, hd => by
    have ih := @c103 d
    obtain ⟨x, rfl, h⟩ := p103 H.f103 (v0 := v) (K := fun x => x = (rN v : Int)) (by
      unfold T103_0
      intro P hP
      have e := rN_eq v
      refine loop_inv (P := fun n i => P n i v) (fun i => (rNs (v.list.take i) 1 : Int)) v.list.length (fun _ => True) trivial (fun _ => ?_) (fun i hi _ ihP => ?_)
      · apply hP
        unfold T103_1 T103_2
        refine ⟨fun h => absurd h (by omega), fun _ => ?_⟩
        rw [List.take_length, e]
      · apply hP
        unfold T103_1 T103_2
        refine ⟨fun _ => ⟨fun h => ⟨by omega, _, get_at hi, _, ih (hs.2 _ (List.getElem_mem hi)) (by omega), ?_⟩, fun h => ?_⟩, fun h => absurd (show (i : Int) < v.list.length by omega) h⟩
        · have h1 := rN_le (hs.2 _ (List.getElem_mem hi))
          have h2 := hs.1
          have h3 := rNs_snoc (l := v.list) (n := 1) hi (by omega)
          have := ihP trivial
          rw [h3] at this
          rw [wr_i64 (by omega) (by omega), wr_succ (by omega)]
          simpa using this
        · rw [e, rNs_stop (i := i) (by omega)])
    exact h
theorem c71 {v : Val} (hw : Wf v) : Pus prog 71 [v.av] (.b (greatv v)) := by
  obtain ⟨x, rfl, h⟩ := p71 H.f71 (v0 := v) (K := fun x => x = greatv v) (by
    unfold T71_0 greatv
    refine ⟨_, c102 H 14 hw (by decide), fun h => by rw [h]; rfl, fun h => ⟨_, c103 H 14 (deepv_sm h) (by decide), ?_⟩⟩
    rw [h, Bool.false_or]
    exact decide_eq_decide.2 (by omega))
  exact h
end
end Go.AM

/- Parts of the proof. -/
namespace Go.AM
open Go
theorem bAnd1 (n : Int) : bAnd .i64 n 1 = n % 2 := by
  unfold bAnd
  have h1 : (BitVec.ofInt IntKind.i64.bits n &&& BitVec.ofInt IntKind.i64.bits 1).toNat = (n % 2).toNat := by
    show (BitVec.ofInt 64 n &&& BitVec.ofInt 64 1).toNat = _
    rw [BitVec.toNat_and]
    have h2 : (BitVec.ofInt 64 1).toNat = 2 ^ 1 - 1 := by decide
    rw [h2, Nat.and_two_pow_sub_one_eq_mod, BitVec.toNat_ofInt]
    omega
  rw [h1, wr_i64 (by omega) (by omega)]
  omega
theorem cut_cases (v : Val) : (v.cut = true ∧ v.cut.toNat = 1) ∨ (v.cut = false ∧ v.cut.toNat = 0) := by cases v.cut <;> simp
theorem okv_succ (d : Nat) (v : Val) : okv (d + 1) v = (decide v.okh && v.list.all (okv d)) := rfl
theorem okv_no {d : Nat} {v : Val} (h : ¬v.okh) : okv (d + 1) v = false := by rw [okv_succ, decide_eq_false h]; rfl
theorem okv_yes {d : Nat} {v : Val} (h : v.okh) : okv (d + 1) v = v.list.all (okv d) := by rw [okv_succ, decide_eq_true h]; rfl
theorem okv_leaf {d : Nat} {v : Val} (h : v.list.length = 0) (p : Prop) [Decidable p] (hp : p ↔ v.okh) : decide p = okv (d + 1) v := by
  rw [okv_succ, decide_eq_decide.2 hp, show v.list.all (okv d) = true by rw [len0 h]; rfl, Bool.and_true]
section
variable {prog : Prog} (H : Has38 prog)
include H
set_option maxHeartbeats 1000000 in
theorem c110 : ∀ (d : Nat) {v : Val}, Wf v → d ≤ 1000 → Pus prog 110 [v.av, .i .i64 (d : Int)] (.b (okv d v))
  | 0, v, hw, hd => by
    obtain ⟨x, rfl, h⟩ := p110 H.f110 (v0 := v) (deep1 := ((0 : Nat) : Int)) (K := fun x => x = okv 0 v) (by
      unfold T110_0 T110_1
      exact ⟨fun _ => rfl, fun h => absurd rfl h⟩)
    exact h
  | d + 1, v, hw, hd => by
    have ih := @c110 d
    obtain ⟨x, rfl, h⟩ := p110 H.f110 (v0 := v) (deep1 := ((d + 1 : Nat) : Int)) (K := fun x => x = okv (d + 1) v) (by
      have hm : IntKind.i64.wrap (((d + 1 : Nat) : Int) - 1) = (d : Int) := by rw [wr_i64 (by omega) (by omega)]; omega
      have ht : v.text = [] ↔ v.text.length = 0 := List.length_eq_zero_iff.symm
      have no : ¬v.okh → false = okv (d + 1) v := fun h => (okv_no h).symm
      have hl := hw.l
      have lp : v.okh → ∀ P : Int → Val → Prop, (∀ (i6 : Int) (m0 : Val), T110_8 prog (fun x => x = okv (d + 1) v) P ((d + 1 : Nat) : Int) i6 m0 → P i6 m0) → P 0 v := by
        intro ho P hP
        have e := okv_yes (d := d) ho
        refine loop_inv (P := fun _ i => P i v) (fun _ => ()) v.list.length (fun i => (v.list.take i).all (okv d) = true) (by simp) (fun hI => ?_) (fun i hi hI ihP => ?_)
        · apply hP
          unfold T110_8 T110_9
          refine ⟨fun h => absurd h (by omega), fun _ => ?_⟩
          rw [List.take_length] at hI
          rw [e, hI]
        · apply hP
          unfold T110_8
          refine ⟨fun _ => ⟨by omega, _, get_at hi, _, by rw [hm]; exact ih (hw.e _ (List.getElem_mem hi)) (by omega), fun h3 => ?_, fun h3 => ?_⟩, fun h => absurd (show (i : Int) < v.list.length by omega) h⟩
          · rw [e]
            refine (List.all_eq_false.2 ⟨_, List.getElem_mem hi, ?_⟩).symm
            simpa using h3
          · rw [wr_i64 (by omega) (by omega)]
            refine ihP ?_
            rw [List.take_succ_eq_append_getElem hi, List.all_append, hI]
            simpa using h3
      have leaf : v.list.length = 0 → ∀ (p : Prop) [Decidable p], (p ↔ v.okh) → decide p = okv (d + 1) v := fun h p _ hp => okv_leaf h p hp
      have leafT : v.list.length = 0 → v.okh → true = okv (d + 1) v := fun h hp => by rw [← leaf h True (by simpa using hp)]; simp
      unfold T110_0 T110_1 T110_2 T110_3 T110_4 T110_5 T110_6 T110_7
      simp only [ht, ne_eq]
      refine ⟨fun h => absurd h (by omega), fun _ => ?_⟩
      rcases cut_cases v with ⟨hc, hcn⟩ | ⟨hc, hcn⟩
      all_goals
        refine ⟨fun _ => ⟨_, c136 H v, ?_, ?_⟩, fun _ => ⟨fun _ => ⟨_, c136 H v, ?_, ?_⟩, fun _ => ⟨fun _ => ⟨_, c136 H v, ?_, ?_⟩, ?_⟩⟩⟩
      all_goals simp only [hc, decide_eq_true_eq, decide_eq_false_iff_not, reduceCtorEq, false_imp_iff, true_imp_iff, and_true, true_and, and_false]
      all_goals repeat' first | refine ⟨fun _ => ?_, fun _ => ?_⟩ | (intro h)
      all_goals first
        | exact no (by unfold Val.okh Okh; omega)
        | exact leafT (by omega) (by unfold Val.okh Okh; omega)
        | exact leaf (by omega) _ (by unfold Val.okh Okh; omega)
        | exact lp (by unfold Val.okh Okh; omega) _ ‹_›
        | (exfalso; omega))
    exact h
end
end Go.AM

/- Parts of the proof. -/
namespace Go.AM
open Go
section
variable {prog : Prog} (H : Has38 prog)
include H
set_option maxHeartbeats 1000000 in
theorem c109 : ∀ (d : Nat) {v : Val}, Wf v → d ≤ 1000 → Pus prog 109 [v.av, .i .i64 (d : Int)] (.tup [.i .i64 (cntR d v).1, .b (cntR d v).2])
  | 0, v, hw, hd => by
    obtain ⟨x, y, ⟨rfl, rfl⟩, h⟩ := p109 H.f109 (v0 := v) (nest1 := ((0 : Nat) : Int)) (K := fun x y => x = (cntR 0 v).1 ∧ y = (cntR 0 v).2) (by
      unfold T109_0 T109_1 T109_2 T109_3 T109_4
      have : cntR 0 v = (0, false) := by unfold cntR; rw [if_neg (by rintro ⟨h, _⟩; cases h)]
      rw [this]
      repeat' first | exact ⟨rfl, rfl⟩ | refine ⟨fun _ => ?_, fun _ => ?_⟩ | (intro h)
      all_goals exact absurd rfl ‹¬((0 : Nat) : Int) = 0›)
    exact h
  | d + 1, v, hw, hd => by
    have ih := @c109 d
    obtain ⟨x, y, ⟨rfl, rfl⟩, h⟩ := p109 H.f109 (v0 := v) (nest1 := ((d + 1 : Nat) : Int)) (K := fun x y => x = (cntR (d + 1) v).1 ∧ y = (cntR (d + 1) v).2) (by
      have hm : IntKind.i64.wrap (((d + 1 : Nat) : Int) - 1) = (d : Int) := by rw [wr_i64 (by omega) (by omega)]; omega
      have ht : v.text = [] ↔ v.text.length = 0 := List.length_eq_zero_iff.symm
      have ht' : [] = v.text ↔ v.text.length = 0 := by rw [← ht]; exact eq_comm
      have cno : ¬(okv (d + 1) v = true ∧ v.nodes ≤ 5000) → cntR (d + 1) v = (0, false) := fun h => by unfold cntR; rw [if_neg h]
      have no : ¬v.okh → (0 : Int) = (cntR (d + 1) v).1 ∧ false = (cntR (d + 1) v).2 := fun h => by
        rw [cno (by rw [okv_no h]; rintro ⟨h, _⟩; cases h)]; exact ⟨rfl, rfl⟩
      have hl := hw.l
      have hn := nodes_eq v
      have lp : v.okh → ∀ P : Int → Int → Prop, (∀ (sum10 : Int) (t103 : Int), T109_5 prog (fun x y => x = (cntR (d + 1) v).1 ∧ y = (cntR (d + 1) v).2) P ((d + 1 : Nat) : Int) sum10 v.list (v.list.length : Int) t103 → P sum10 t103) → P 1 0 := by
        intro ho P hP
        have e := okv_yes (d := d) ho
        refine loop_inv (P := fun s i => P s i) (fun i => ((1 + Val.nodesL (v.list.take i) : Nat) : Int)) v.list.length (fun i => (v.list.take i).all (okv d) = true ∧ 1 + Val.nodesL (v.list.take i) ≤ 5000) (by simp [Val.nodesL]) (fun hI => ?_) (fun i hi hI ihP => ?_)
        · apply hP
          unfold T109_5 T109_6
          refine ⟨fun h => absurd h (by omega), fun _ => ?_⟩
          rw [List.take_length] at hI ⊢
          unfold cntR
          rw [if_pos ⟨by rw [e]; exact hI.1, by omega⟩, hn]
          exact ⟨rfl, rfl⟩
        · apply hP
          unfold T109_5
          have hnt := nodesL_take hi
          have hle := nodesL_le (l := v.list) (i + 1)
          refine ⟨fun _ => ⟨by omega, _, get_at hi, _, _, by rw [hm]; exact ih (hw.e _ (List.getElem_mem hi)) (by omega), ?_⟩, fun h => absurd (show (i : Int) < v.list.length by omega) h⟩
          by_cases hc : okv d v.list[i] = true ∧ v.list[i].nodes ≤ 5000
          · rw [show cntR d v.list[i] = ((v.list[i].nodes : Int), true) by unfold cntR; rw [if_pos hc]]
            refine ⟨fun h => (by cases h), fun _ => ⟨fun h => ?_, fun h => ?_⟩⟩
            · rw [wr_i64 (by omega) (by omega)] at h
              rw [cno (by omega)]
              exact ⟨rfl, rfl⟩
            · rw [wr_i64 (by omega) (by omega)] at h ⊢
              rw [wr_i64 (by omega) (by omega)]
              have := ihP ⟨by rw [List.take_succ_eq_append_getElem hi, List.all_append, hI.1]; simpa using hc.1, by omega⟩
              rw [hnt] at this
              rw [show ((1 + Val.nodesL (v.list.take i) : Nat) : Int) + (v.list[i].nodes : Int) = ((1 + (Val.nodesL (v.list.take i) + v.list[i].nodes) : Nat) : Int) by omega]
              exact this
          · rw [show cntR d v.list[i] = (0, false) by unfold cntR; rw [if_neg hc]]
            refine ⟨fun _ => ?_, fun h => (by cases h)⟩
            rw [cno (fun h => hc ⟨okv_sub h.1 _ (List.getElem_mem hi), by have := nodes_mem (List.getElem_mem hi); omega⟩)]
            exact ⟨rfl, rfl⟩
      unfold T109_0 T109_1 T109_2 T109_3 T109_4
      simp only [Val.int_mk, Val.text_mk, Val.cut_mk, Val.kind_mk, Val.list_mk, bAnd1, ht', ne_eq, not_true_eq_false, false_imp_iff, true_imp_iff, true_and, not_false_eq_true]
      rcases cut_cases v with ⟨hc, hcn⟩ | ⟨hc, hcn⟩
      all_goals simp only [hc, reduceCtorEq, false_imp_iff, true_imp_iff, not_true_eq_false, not_false_eq_true, true_and, and_true]
      all_goals repeat' first | refine ⟨fun _ => ?_, fun _ => ?_⟩ | (intro h)
      all_goals first
        | exact no (by unfold Val.okh Okh; omega)
        | exact lp (by unfold Val.okh Okh; omega) _ ‹_›
        | (exfalso; omega))
    exact h
theorem c76 {v : Val} (hw : Wf v) : Pus prog 76 [v.av] (.i .i64 (chkR v)) := by
  obtain ⟨x, rfl, h⟩ := p76 H.f76 (v0 := v) (K := fun x => x = chkR v) (by
    unfold T76_0 chkR
    refine ⟨_, _, c109 H 130 hw (by decide), ?_⟩
    unfold cntR fine
    by_cases h : okv 130 v = true ∧ v.nodes ≤ 5000
    · rw [if_pos h, if_pos (by simpa using h)]
      exact ⟨fun h => (by cases h), fun _ => rfl⟩
    · rw [if_neg h, if_neg (by simpa using h)]
      exact ⟨fun _ => rfl, fun h => (by cases h)⟩)
  exact h
theorem c77 {v : Val} (hw : Wf v) : Pus prog 77 [v.av] (.i .i64 (chkR v)) := by
  obtain ⟨x, rfl, h⟩ := p77 H.f77 (v0 := v) (K := fun x => x = chkR v) (by
    unfold T77_0 chkR fine
    refine ⟨_, c110 H 130 hw (by decide), fun h => ?_, fun h => ⟨_, c103 H 130 (okv_sm (by simpa using h)) (by decide), fun h1 => ?_, fun h1 => ?_⟩⟩
    · rw [show okv 130 v = false by simpa using h]; rfl
    · have h2 := rN_spec v
      rw [show okv 130 v = true by simpa using h, decide_eq_false (by omega)]; rfl
    · have h2 := rN_spec v
      rw [show okv 130 v = true by simpa using h, decide_eq_true (by omega)]; rfl)
  exact h
end
end Go.AM
