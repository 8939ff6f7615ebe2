/- Parts of the proof: U39b, U39c, U39d, U39e, Rf, Rg, C30, C30b. -/
import Derived.Test.YtffbkdcgkhbpoaaG2
import Derived.Test.YtffbkdcgkhbpoaaG1
import Derived.RangeFuncNested
import Derived.RangeFuncCalls
import Derived.Test.YtffbkdcgkhbpoaaG3
set_option linter.all false
namespace Go.AM
open Go
set_option linter.unusedVariables false
set_option linter.unusedSimpArgs false
set_option maxRecDepth 4000
attribute [local irreducible] WO fillCells fillRows
def r181_0:List AI:=[oO 2 (.alloc [.i .u64 0,.i .u8 0,.i .i64 0,.s [],.sl .full [],.b false,.i .u64 0]),
 oC 3 (.b false)]
def r181_1:List AI:=[oM 12 0,
 oB 13 .eql (.t 12) (.c (.s [101,120,105,116]))]
def r181_2:List AI:=[oO 14 (.build [.i .u64 0,.i .u8 0,.i .i64 0,.s [],.sl .full [],.b false,.i .u64 0] [(6,1,(.c (.i .u64 2)))]),
 oS 7 2 14,
 oC 3 (.b true)]
def r181_3:List AI:=[oO 15 (.call false 178 []),
 oC 16 (.i .i64 0)]
def r181_4:List AI:=[oB 17 .lss (.t 16) (.c (.i .i64 4))]
def r181_5:List AI:=[oM 18 16,
 oO 19 (.ixA 4 1 false (.t 15) (.t 16)),
 oM 4 18,
 oM 5 19]
def r181_6:List AI:=[oM 20 4,
 oB 21 .gtr (.t 20) (.c (.i .i64 0)),
 oM 22 21,
 oG 23 (.mv (.t 5)) 22 true,
 oG 24 (.mv (.t 0)) 22 true,
 oG 25 (.bin .eql (.t 23) (.t 24)) 22 true,
 oO 26 (.pick (.t 22) (.t 25) (.c (.b false)))]
def r181_7:List AI:=[oM 27 4,
 oO 28 (.build [.i .u8 0,.i .i64 0,.s [],.sl .full [],.b false] [(0,1,(.c (.i .u8 2))),(1,1,(.t 27))]),
 oO 29 (.build [.i .u64 0,.i .u8 0,.i .i64 0,.s [],.sl .full [],.b false,.i .u64 0] [(0,1,(.c (.i .u64 4))),(1,5,(.t 28))]),
 oS 7 2 29,
 oC 3 (.b true)]
def r181_8:List AI:=[oB 30 .add (.t 16) (.c (.i .i64 1)),
 oM 16 30]
def r181_9:List AI:=[oM 32 0,
 oO 33 (.call false 36 [(.t 32),(.c (.s [112,97,110,105,99,32]))]),
 oM 31 33,
 oE 34 0 31,
 oE 35 1 31,
 oM 6 34,
 oM 7 35]
def r181_10:List AI:=[oM 36 7,
 oO 37 (.un .not (.t 36))]
def r181_11:List AI:=[oO 38 (.build [.i .u64 0,.i .u8 0,.i .i64 0,.s [],.sl .full [],.b false,.i .u64 0] []),
 oS 7 2 38,
 oC 3 (.b false)]
def r181_12:List AI:=[oM 40 6,
 oO 41 (.call false 74 [(.t 40)]),
 oM 39 41,
 oE 42 0 39,
 oE 43 1 39,
 oO 8 (.alloc [.i .u8 0,.i .i64 0,.s [],.sl .full [],.b false]),
 oS 5 8 42,
 oM 9 43]
def r181_13:List AI:=[oO 44 (.call false 183 []),
 oC 45 (.i .i64 0)]
def r181_14:List AI:=[oB 46 .lss (.t 45) (.c (.i .i64 5))]
def r181_15:List AI:=[oM 47 45,
 oO 48 (.ixA 5 1 false (.t 44) (.t 45)),
 oM 10 47,
 oM 11 48]
def r181_16:List AI:=[oM 49 9,
 oB 50 .eql (.t 49) (.c (.i .i64 0)),
 oM 51 50,
 oG 52 (.mv (.t 11)) 51 true,
 oG 53 (.fad 0 (.t 8)) 51 true,
 oG 54 (.load 1 false (.t 53)) 51 true,
 oG 55 (.bin .eql (.t 52) (.t 54)) 51 true,
 oO 56 (.pick (.t 51) (.t 55) (.c (.b false)))]
def r181_17:List AI:=[oM 57 10,
 oO 58 (.cvi .u64 (.t 57)),
 oO 59 (.load 5 true (.t 8)),
 oO 60 (.build [.i .u64 0,.i .u8 0,.i .i64 0,.s [],.sl .full [],.b false,.i .u64 0] [(0,1,(.t 58)),(1,5,(.t 59))]),
 oS 7 2 60,
 oC 3 (.b true)]
def r181_18:List AI:=[oB 61 .add (.t 45) (.c (.i .i64 1)),
 oM 45 61]
def r181_19:List AI:=[oO 62 (.build [.i .u64 0,.i .u8 0,.i .i64 0,.s [],.sl .full [],.b false,.i .u64 0] []),
 oS 7 2 62,
 oC 3 (.b false)]
abbrev c181_0:AC:=(.cond (.t 26) (.seq (.reg 7 r181_7) .ret) .skip)
abbrev l181_0:AC:=(.seq (.reg 4 r181_4) (.seq (.cond (.t 17) .skip (.exit 0)) (.seq (.block 1 (.seq (.reg 5 r181_5) (.seq (.reg 6 r181_6) c181_0))) (.reg 8 r181_8))))
abbrev c181_2:AC:=(.cond (.t 56) (.seq (.reg 17 r181_17) .ret) .skip)
abbrev l181_1:AC:=(.seq (.reg 14 r181_14) (.seq (.cond (.t 46) .skip (.exit 2)) (.seq (.block 3 (.seq (.reg 15 r181_15) (.seq (.reg 16 r181_16) c181_2))) (.reg 18 r181_18))))
abbrev c181_4:AC:=(.seq (.reg 19 r181_19) .ret)
abbrev c181_5:AC:=(.seq (.reg 9 r181_9) (.seq (.seq (.reg 10 r181_10) (.cond (.t 37) (.seq (.reg 11 r181_11) .ret) .skip)) (.seq (.reg 12 r181_12) (.seq (.seq (.reg 13 r181_13) (.block 2 (.loop l181_1))) c181_4))))
abbrev c181_6:AC:=(.seq (.seq (.reg 3 r181_3) (.block 0 (.loop l181_0))) c181_5)
abbrev c181_7:AC:=(.seq (.seq (.reg 1 r181_1) (.cond (.t 13) (.seq (.reg 2 r181_2) .ret) .skip)) c181_6)
abbrev b181:AC:=(.seq (.reg 0 r181_0) c181_7)
def pf181:AF:={ nt:=63,res:=[.cell 2 7 true,.tmp 3],body:=b181 }
abbrev H181 (Q:AE→Sl→St→Prop)(K:Pan→Bool→Prop):Prop:=∀(σ:Sl)(st:St)(k0:Key)(v0:Nat)(o0_0:Own)(res0:Pan)(res1:Bool),σ 2 = .p k0 v0 0→lk st.bx k0 = some (v0,[.i .u64 res0.tag,.i .u8 res0.value.kind,.i .i64 res0.value.int,.s res0.value.text,.sl o0_0 (List.map Val.row res0.value.list),.b res0.value.cut,.i .u64 res0.flags])→σ 3 = .b res1→K res0 res1→Q .ret σ st
abbrev I181_0 (prog:Prog)(d:Nat)(Q:AE→Sl→St→Prop)(s0:List UInt8)(t15:List (List UInt8))(t16:Int)(m0:Pan):Prop:=
  ∀(σ:Sl)(st:St)(o_m0_4:Own)(v0:Nat),σ 0 = .s s0→σ 2 = .p (d,0) v0 0→σ 15 = .ag (List.map AV.s t15)→σ 16 = .i .i64 t16→lk st.bx (d,0) = some (v0,[.i .u64 m0.tag,.i .u8 m0.value.kind,.i .i64 m0.value.int,.s m0.value.text,.sl o_m0_4 (List.map Val.row m0.value.list),.b m0.value.cut,.i .u64 m0.flags])→W prog d (.loop l181_0) σ st (blockW 0 (thenW prog d c181_5 Q))
def T181_4 (prog:Prog)(K:Pan→Bool→Prop)(P0:Int→Pan→Prop)(s0:List UInt8)(n4:Int)(t15:List (List UInt8))(t16:Int)(t26:Bool)(m0:Pan):Prop:=
  (t26 = true→K (Pan.mk 4 (Val.mk 2 n4 [] ([]:List Val) false) 0) true)∧(t26 = false→P0 (IntKind.i64.wrap (t16 + 1)) m0)
abbrev I181_1 (prog:Prog)(d:Nat)(Q:AE→Sl→St→Prop)(e9:Int)(t44:List (UInt8))(t45:Int)(m0:Pan)(m49157:Val):Prop:=
  ∀(σ:Sl)(st:St)(o_m0_4:Own) (v0 v49157:Nat),σ 2 = .p (d,0) v0 0→σ 8 = .p (d,49157) v49157 0→σ 9 = .i .i64 e9→σ 44 = .ag (List.map c8 t44)→σ 45 = .i .i64 t45→lk st.bx (d,0) = some (v0,[.i .u64 m0.tag,.i .u8 m0.value.kind,.i .i64 m0.value.int,.s m0.value.text,.sl o_m0_4 (List.map Val.row m0.value.list),.b m0.value.cut,.i .u64 m0.flags])→lk st.bx (d,49157) = some (v49157,[.i .u8 m49157.kind,.i .i64 m49157.int,.s m49157.text,.sl .ext (List.map Val.row m49157.list),.b m49157.cut])→W prog d (.loop l181_1) σ st (blockW 2 (thenW prog d c181_4 Q))
def T181_7 (prog:Prog)(K:Pan→Bool→Prop)(P1:Int→Pan→Val→Prop)(e9:Int)(tag10:Int)(t44:List (UInt8))(t45:Int)(t56:Bool)(m0:Pan)(m49157:Val):Prop:=
  (t56 = true→K (Pan.mk (IntKind.u64.wrap tag10) m49157 0) true)∧(t56 = false→P1 (IntKind.i64.wrap (t45 + 1)) m0 m49157)
def T181_8 (prog:Prog)(K:Pan→Bool→Prop)(m0:Pan):Prop:=
  K (Pan.mk 0 (Val.mk 0 0 [] ([]:List Val) false) 0) false
def T181_6 (prog:Prog)(K:Pan→Bool→Prop)(P1:Int→Pan→Val→Prop)(e9:Int)(t44:List (UInt8))(t45:Int)(m0:Pan)(m49157:Val):Prop:=
  (t45 < 5→t44.length = 5∧0≤t45∧∃c'2:UInt8,(t44:List (UInt8))[(t45).toNat]? = some c'2∧(e9 = 0→T181_7 prog K P1 e9 t45 t44 t45 (decide ((c'2.toNat:Int) = m49157.kind)) m0 m49157)∧(¬(e9 = 0)→T181_7 prog K P1 e9 t45 t44 t45 false m0 m49157))∧(¬(t45 < 5)→T181_8 prog K m0)
def T181_5 (prog:Prog)(K:Pan→Bool→Prop)(s0:List UInt8)(m0:Pan):Prop:=
  ∃r'1:List UInt8,∃r'2:Bool,Pus prog 36 [.s s0,.s ([112,97,110,105,99,32]:List UInt8)] (.tup [.s r'1,.b r'2])∧((!r'2) = true→K (Pan.mk 0 (Val.mk 0 0 [] ([]:List Val) false) 0) false)∧((!r'2) = false→∃r'5:Val,∃r'6:Int,Pus prog 74 [.s r'1] (.tup [r'5.av,.i .i64 r'6])∧∃r'8:List UInt8,Pus prog 183 [] (.ag (List.map c8 r'8))∧∀P1:Int→Pan→Val→Prop,(∀(t45:Int)(m0:Pan)(m49157:Val),T181_6 prog K P1 r'6 r'8 t45 m0 m49157→P1 t45 m0 m49157)→P1 0 m0 r'5)
def T181_3 (prog:Prog)(K:Pan→Bool→Prop)(P0:Int→Pan→Prop)(s0:List UInt8)(t15:List (List UInt8))(t16:Int)(m0:Pan):Prop:=
  (t16 < 4→t15.length = 4∧0≤t16∧∃c'2:List UInt8,(t15:List (List UInt8))[(t16).toNat]? = some c'2∧(t16 > 0→T181_4 prog K P0 s0 t16 t15 t16 (decide (c'2 = s0)) m0)∧(¬(t16 > 0)→T181_4 prog K P0 s0 t16 t15 t16 false m0))∧(¬(t16 < 4)→T181_5 prog K s0 m0)
def T181_2 (prog:Prog)(K:Pan→Bool→Prop)(s0:List UInt8)(m0:Pan):Prop:=
  ∃r'1:List (List UInt8),Pus prog 178 [] (.ag (List.map AV.s r'1))∧∀P0:Int→Pan→Prop,(∀(t16:Int)(m0:Pan),T181_3 prog K P0 s0 r'1 t16 m0→P0 t16 m0)→P0 0 m0
def T181_1 (prog:Prog)(K:Pan→Bool→Prop)(s0:List UInt8)(m0:Pan):Prop:=
  (s0 = ([101,120,105,116]:List UInt8)→K (Pan.mk 0 (Val.mk 0 0 [] ([]:List Val) false) 2) true)∧(¬(s0 = ([101,120,105,116]:List UInt8))→T181_2 prog K s0 m0)
def T181_0 (prog:Prog)(K:Pan→Bool→Prop)(s0:List UInt8):Prop:=
  T181_1 prog K s0 (Pan.mk 0 (Val.mk 0 0 [] ([]:List Val) false) 0)
section
variable {prog:Prog}{d:Nat}{Q:AE→Sl→St→Prop}{K:Pan→Bool→Prop}(hQ:H181 Q K){σ:Sl}{st:St}
include hQ
theorem w181_4 {s0:List UInt8}{n4:Int}{t15:List (List UInt8)}{t16:Int}{t26:Bool}{m0:Pan}{P0:Int→Pan→Prop} (kP0 :∀(t16:Int)(m0:Pan),P0 t16 m0→I181_0 prog d Q s0 t15 t16 m0){o_m0_4:Own}{v0:Nat}(H0:σ 0 = .s s0)(H2:σ 2 = .p (d,0) v0 0)(H4:σ 4 = .i .i64 n4)(H15:σ 15 = .ag (List.map AV.s t15))(H16:σ 16 = .i .i64 t16)(H26:σ 26 = .b t26)(B0:lk st.bx (d,0) = some (v0,[.i .u64 m0.tag,.i .u8 m0.value.kind,.i .i64 m0.value.int,.s m0.value.text,.sl o_m0_4 (List.map Val.row m0.value.list),.b m0.value.cut,.i .u64 m0.flags]))(h:T181_4 prog K P0 s0 n4 t15 t16 t26 m0):W prog d c181_0 σ st (blockW 1 (thenW prog d (.reg 8 r181_8) (thenW prog d (.loop l181_0) (blockW 0 (thenW prog d c181_5 Q))))):=
 cb_ H26 (fun g'1=>q_ rfl (m_ (s_build (f_cons rfl rfl (f_cons H4 rfl f_nil)) (s_build (f_cons rfl rfl (f_cons rfl rfl f_nil)) (so_ H2 B0 rfl rfl rfl (m_ (e_ (rt_ (hQ _ _ _ _ _ _ _ H2 lk_here rfl (h.1 g'1)))))))))) (fun g'1=>sk_ (W.reg0 rfl fun _ _=>b_ H16 rfl add_ (m_ (e_ (kP0 _ _ (h.2 g'1) _ _ _ _ H0 H2 H15 rfl B0)))))
theorem w181_7 {e9 tag10:Int}{t44:List (UInt8)}{t45:Int}{t56:Bool}{m0:Pan}{m49157:Val}{P1:Int→Pan→Val→Prop} (kP1 :∀(t45:Int)(m0:Pan)(m49157:Val),P1 t45 m0 m49157→I181_1 prog d Q e9 t44 t45 m0 m49157){o_m0_4:Own}{v0:Nat}{v49157:Nat}(H2:σ 2 = .p (d,0) v0 0)(H8:σ 8 = .p (d,49157) v49157 0)(H9:σ 9 = .i .i64 e9)(H10:σ 10 = .i .i64 tag10)(H44:σ 44 = .ag (List.map c8 t44))(H45:σ 45 = .i .i64 t45)(H56:σ 56 = .b t56)(B0:lk st.bx (d,0) = some (v0,[.i .u64 m0.tag,.i .u8 m0.value.kind,.i .i64 m0.value.int,.s m0.value.text,.sl o_m0_4 (List.map Val.row m0.value.list),.b m0.value.cut,.i .u64 m0.flags]))(B49157:lk st.bx (d,49157) = some (v49157,[.i .u8 m49157.kind,.i .i64 m49157.int,.s m49157.text,.sl .ext (List.map Val.row m49157.list),.b m49157.cut]))(h:T181_7 prog K P1 e9 tag10 t44 t45 t56 m0 m49157):W prog d c181_2 σ st (blockW 3 (thenW prog d (.reg 18 r181_18) (thenW prog d (.loop l181_1) (blockW 2 (thenW prog d c181_4 Q))))):=
 cb_ H56 (fun g'1=>q_ rfl (m_ (s_cvi H10 (l_ H8 B49157 rfl rfl (s_build (f_cons rfl rfl (f_cons rfl rfl f_nil)) (so_ H2 B0 rfl rfl rfl (m_ (e_ (rt_ (hQ _ _ _ _ _ _ _ H2 lk_here rfl (h.1 g'1))))))))))) (fun g'1=>sk_ (W.reg0 rfl fun _ _=>b_ H45 rfl add_ (m_ (e_ (kP1 _ _ _ (h.2 g'1) _ _ _ _ _ H2 H8 H9 H44 rfl B0 B49157)))))
theorem w181_8 {m0:Pan}{o_m0_4:Own}{v0:Nat}(H2:σ 2 = .p (d,0) v0 0)(B0:lk st.bx (d,0) = some (v0,[.i .u64 m0.tag,.i .u8 m0.value.kind,.i .i64 m0.value.int,.s m0.value.text,.sl o_m0_4 (List.map Val.row m0.value.list),.b m0.value.cut,.i .u64 m0.flags]))(h:T181_8 prog K m0):W prog d c181_4 σ st Q:=
 q_ rfl (s_build f_nil (so_ H2 B0 rfl rfl rfl (m_ (e_ (rt_ (hQ _ _ _ _ _ _ _ H2 lk_here rfl h))))))
theorem w181_6 {e9:Int}{t44:List (UInt8)}{t45:Int}{m0:Pan}{m49157:Val}{P1:Int→Pan→Val→Prop} (kP1 :∀(t45:Int)(m0:Pan)(m49157:Val),P1 t45 m0 m49157→I181_1 prog d Q e9 t44 t45 m0 m49157){o_m0_4:Own}{v0:Nat}{v49157:Nat}(H2:σ 2 = .p (d,0) v0 0)(H8:σ 8 = .p (d,49157) v49157 0)(H9:σ 9 = .i .i64 e9)(H44:σ 44 = .ag (List.map c8 t44))(H45:σ 45 = .i .i64 t45)(B0:lk st.bx (d,0) = some (v0,[.i .u64 m0.tag,.i .u8 m0.value.kind,.i .i64 m0.value.int,.s m0.value.text,.sl o_m0_4 (List.map Val.row m0.value.list),.b m0.value.cut,.i .u64 m0.flags]))(B49157:lk st.bx (d,49157) = some (v49157,[.i .u8 m49157.kind,.i .i64 m49157.int,.s m49157.text,.sl .ext (List.map Val.row m49157.list),.b m49157.cut]))(h:T181_6 prog K P1 e9 t44 t45 m0 m49157):W prog d l181_1 σ st (thenW prog d (.loop l181_1) (blockW 2 (thenW prog d c181_4 Q))):=
 q_ rfl (b_ H45 rfl lss_ (e_ (sq_ (cs_ rfl (fun g'1=>sk_ (sq_ (bk_ (q_ rfl (m_ ((h.1 g'1).2.2.elim fun c'2 e'3=>s_ixA (f:=c8) (h.1 g'1).1 H44 H45 (h.1 g'1).2.1 e'3.1 (m_ (m_ (e_ (q_ rfl (s_mvI H9 (b_ rfl rfl eql_ (s_mvB rfl (em_ (g:=51) rfl (fun g'5=>gy_ rfl (s_mvI rfl (gy_ rfl (f_ H8 (gy_ rfl (l_ rfl B49157 rfl rfl (gy_ rfl (b_ rfl rfl eql_ (pt_ rfl rfl (e_ (w181_7 hQ kP1 H2 H8 H9 H45 H44 H45 rfl B0 B49157 (e'3.2.1 g'5)))))))))))) (fun g'5=>gn_ (b:=false) rfl rfl (gn_ (b:=false) rfl rfl (gn_ (b:=false) rfl rfl (gn_ (b:=false) rfl rfl (pf_ rfl rfl (e_ (w181_7 hQ kP1 H2 H8 H9 H45 H44 H45 rfl B0 B49157 (e'3.2.2 g'5)))))))))))))))))))))) (fun g'1=>ex_ (w181_8 hQ H2 B0 (h.2 g'1)))))))
theorem w181_5 {s0:List UInt8}{m0:Pan}{o_m0_4:Own}{v0:Nat}(H0:σ 0 = .s s0)(H2:σ 2 = .p (d,0) v0 0)(B0:lk st.bx (d,0) = some (v0,[.i .u64 m0.tag,.i .u8 m0.value.kind,.i .i64 m0.value.int,.s m0.value.text,.sl o_m0_4 (List.map Val.row m0.value.list),.b m0.value.cut,.i .u64 m0.flags]))(h:T181_5 prog K s0 m0):W prog d c181_5 σ st Q:=
 q_ rfl (m_ (h.elim fun r'1 e'11=>e'11.elim fun r'2 e'3=>ca_ (sc H0 rfl (sc rfl rfl sn)) e'3.1 (m_ (x_ rfl rfl (x_ rfl rfl (m_ (m_ (e_ (sq_ (q_ rfl (m_ (nt_ rfl (e_ (cb_ rfl (fun g'4=>q_ rfl (s_build f_nil (so_ H2 B0 rfl rfl rfl (m_ (e_ (rt_ (hQ _ _ _ _ _ _ _ H2 lk_here rfl (e'3.2.1 g'4)))))))) (fun g'4=>sk_ (sq_ (W.reg (m_ ((e'3.2.2 g'4).elim fun r'5 e'10=>e'10.elim fun r'6 e'7=>ca_ (sc rfl rfl sn) e'7.1 (m_ (x_ rfl rfl (x_ rfl rfl (s_alloc (so_ rfl (show lk _ (d,49157) = some (_,([.i .u8 0,.i .i64 0,.s [],.sl .full (List.map Val.row ([]:List Val)),.b false]:List AV)) from lk_here) rfl rfl rfl (m_ (e_ (sq_ (q_ rfl (e'7.2.elim fun r'8 e'9=>ca_ sn e'9.1 (m_ (e_ (bk_ (e'9.2 (I181_1 prog d Q r'6 r'8) (fun _ _ _ hb _ _ _ _ _ H2 H8 H9 H44 H45 B0 B49157=>W.loop (w181_6 hQ (fun _ _ _ x=>x) H2 H8 H9 H44 H45 B0 B49157 hb)) _ _ _ _ _ H2 rfl rfl rfl rfl (lk_other rfl (lk_other rfl B0)) lk_here)))))))))))))))))))))))))))))))))
theorem w181_3 {s0:List UInt8}{t15:List (List UInt8)}{t16:Int}{m0:Pan}{P0:Int→Pan→Prop} (kP0 :∀(t16:Int)(m0:Pan),P0 t16 m0→I181_0 prog d Q s0 t15 t16 m0){o_m0_4:Own}{v0:Nat}(H0:σ 0 = .s s0)(H2:σ 2 = .p (d,0) v0 0)(H15:σ 15 = .ag (List.map AV.s t15))(H16:σ 16 = .i .i64 t16)(B0:lk st.bx (d,0) = some (v0,[.i .u64 m0.tag,.i .u8 m0.value.kind,.i .i64 m0.value.int,.s m0.value.text,.sl o_m0_4 (List.map Val.row m0.value.list),.b m0.value.cut,.i .u64 m0.flags]))(h:T181_3 prog K P0 s0 t15 t16 m0):W prog d l181_0 σ st (thenW prog d (.loop l181_0) (blockW 0 (thenW prog d c181_5 Q))):=
 q_ rfl (b_ H16 rfl lss_ (e_ (sq_ (cs_ rfl (fun g'1=>sk_ (sq_ (bk_ (q_ rfl (m_ ((h.1 g'1).2.2.elim fun c'2 e'3=>s_ixA (f:=AV.s) (h.1 g'1).1 H15 H16 (h.1 g'1).2.1 e'3.1 (m_ (m_ (e_ (q_ rfl (s_mvI H16 (b_ rfl rfl gtr_ (s_mvB rfl (em_ (g:=22) rfl (fun g'5=>gy_ rfl (s_mvS rfl (gy_ rfl (s_mvS H0 (gy_ rfl (b_ rfl rfl seq_ (pt_ rfl rfl (e_ (w181_4 hQ kP0 H0 H2 H16 H15 H16 rfl B0 (e'3.2.1 g'5)))))))))) (fun g'5=>gn_ (b:=false) rfl rfl (gn_ (b:=false) rfl rfl (gn_ (b:=false) rfl rfl (pf_ rfl rfl (e_ (w181_4 hQ kP0 H0 H2 H16 H15 H16 rfl B0 (e'3.2.2 g'5))))))))))))))))))))) (fun g'1=>ex_ (w181_5 hQ H0 H2 B0 (h.2 g'1)))))))
theorem w181_2 {s0:List UInt8}{m0:Pan}{o_m0_4:Own}{v0:Nat}(H0:σ 0 = .s s0)(H2:σ 2 = .p (d,0) v0 0)(B0:lk st.bx (d,0) = some (v0,[.i .u64 m0.tag,.i .u8 m0.value.kind,.i .i64 m0.value.int,.s m0.value.text,.sl o_m0_4 (List.map Val.row m0.value.list),.b m0.value.cut,.i .u64 m0.flags]))(h:T181_2 prog K s0 m0):W prog d c181_6 σ st Q:=
 sq_ (q_ rfl (h.elim fun r'1 e'2=>ca_ sn e'2.1 (m_ (e_ (bk_ (e'2.2 (I181_0 prog d Q s0 r'1) (fun _ _ hb _ _ _ _ H0 H2 H15 H16 B0=>W.loop (w181_3 hQ (fun _ _ x=>x) H0 H2 H15 H16 B0 hb)) _ _ _ _ H0 H2 rfl rfl B0))))))
theorem w181_1 {s0:List UInt8}{m0:Pan}{o_m0_4:Own}{v0:Nat}(H0:σ 0 = .s s0)(H2:σ 2 = .p (d,0) v0 0)(B0:lk st.bx (d,0) = some (v0,[.i .u64 m0.tag,.i .u8 m0.value.kind,.i .i64 m0.value.int,.s m0.value.text,.sl o_m0_4 (List.map Val.row m0.value.list),.b m0.value.cut,.i .u64 m0.flags]))(h:T181_1 prog K s0 m0):W prog d c181_7 σ st Q:=
 sq_ (q_ rfl (m_ (b_ H0 rfl seq_ (e_ (cs_ rfl (fun g'1=>q_ rfl (s_build (f_cons rfl rfl f_nil) (so_ H2 B0 rfl rfl rfl (m_ (e_ (rt_ (hQ _ _ _ _ _ _ _ H2 lk_here rfl (h.1 g'1)))))))) (fun g'1=>sk_ (w181_2 hQ H0 H2 B0 (h.2 g'1))))))))
theorem w181_0 {s0:List UInt8}(H0:σ 0 = .s s0)(h:T181_0 prog K s0):W prog d (.seq (.reg 0 r181_0) c181_7) σ st Q:=
 sq_ (W.reg (s_alloc (m_ (e_ (w181_1 (m0:=(Pan.mk 0 (Val.mk 0 0 [] ([]:List Val) false) 0)) hQ H0 rfl (show lk _ (d,0) = some (_,([.i .u64 0,.i .u8 0,.i .i64 0,.s [],.sl .full (List.map Val.row ([]:List Val)),.b false,.i .u64 0]:List AV)) from lk_here) h)))))
end
theorem p181 {prog:Prog}(hf:prog.fn 181 = some pf181){s0:List UInt8}{K:Pan→Bool→Prop}(h:T181_0 prog K s0) :∃res0:Pan,∃res1:Bool,K res0 res1∧Pus prog 181 [.s s0] (.tup [res0.av,.b res1]):=by
  obtain ⟨v,hv,res0,res1,hk,rfl⟩:=Pus.of (K:=fun v=>∃res0:Pan,∃res1:Bool,K res0 res1∧v = .tup [res0.av,.b res1]) hf rfl (w181_0 (σ:=sl0 [.s s0]) (fun σ st k0 v0 o0_0 res0 res1 H2 HB2 H3 hk=>⟨.tup [res0.avo o0_0,.b res1],by simp only [pf181,ares,aresL,ares_cellA (n:=7) H2 HB2 rfl,H3,ares_tmp,Option.map_some],_,rfl,res0,res1,hk,rfl⟩) rfl h)
  exact ⟨res0,res1,hk,hv⟩
def r156_0:List AI:=[oO 2 (.alloc [.i .u64 0,.i .u8 0,.i .i64 0,.s [],.sl .full [],.b false,.i .u64 0]),
 oC 3 (.i .i64 0)]
def r156_1:List AI:=[oM 9 0,
 oO 10 (.len true (.t 9)),
 oB 11 .gtr (.t 10) (.c (.i .i64 2000))]
def r156_2:List AI:=[oO 12 (.build [.i .u64 0,.i .u8 0,.i .i64 0,.s [],.sl .full [],.b false,.i .u64 0] []),
 oS 7 2 12,
 oC 3 (.i .i64 4)]
def r156_3:List AI:=[oM 14 0,
 oO 15 (.call false 180 [(.t 14),(.c (.s [32,97,98,111,114,116,101,100]))]),
 oM 13 15,
 oE 16 0 13,
 oE 17 1 13,
 oM 4 16,
 oM 5 17]
def r156_4:List AI:=[oM 19 4,
 oO 20 (.call false 180 [(.t 19),(.c (.s [32,114,101,99,111,118,101,114,101,100]))]),
 oM 18 20,
 oE 21 0 18,
 oE 22 1 18,
 oM 4 21,
 oM 6 22]
def r156_5:List AI:=[oM 24 4,
 oO 25 (.call false 181 [(.t 24)]),
 oM 23 25,
 oE 26 0 23,
 oE 27 1 23,
 oO 7 (.alloc [.i .u64 0,.i .u8 0,.i .i64 0,.s [],.sl .full [],.b false,.i .u64 0]),
 oS 7 7 26,
 oM 8 27]
def r156_6:List AI:=[oM 28 6]
def r156_7:List AI:=[oF 29 6 7,
 oL 30 29,
 oB 31 .or (.t 30) (.c (.i .u64 1)),
 oF 32 6 7,
 oS 1 32 31]
def r156_8:List AI:=[oM 33 5]
def r156_9:List AI:=[oF 34 6 7,
 oL 35 34,
 oB 36 .or (.t 35) (.c (.i .u64 4)),
 oF 37 6 7,
 oS 1 37 36]
def r156_10:List AI:=[oM 38 8,
 oO 39 (.un .not (.t 38)),
 oM 40 39,
 oG 41 (.load 7 true (.t 7)) 40 false,
 oG 42 (.call false 158 [(.t 41)]) 40 false,
 oG 43 (.bin .neq (.t 42) (.c (.i .i64 0))) 40 false,
 oO 44 (.pick (.t 40) (.c (.b true)) (.t 43))]
def r156_11:List AI:=[oO 45 (.build [.i .u64 0,.i .u8 0,.i .i64 0,.s [],.sl .full [],.b false,.i .u64 0] []),
 oS 7 2 45,
 oC 3 (.i .i64 12)]
def r156_12:List AI:=[oO 46 (.load 7 true (.t 7)),
 oS 7 2 46,
 oC 3 (.i .i64 0)]
abbrev c156_0:AC:=(.seq (.seq (.reg 10 r156_10) (.cond (.t 44) (.seq (.reg 11 r156_11) .ret) .skip)) (.seq (.reg 12 r156_12) .ret))
abbrev c156_1:AC:=(.seq (.seq (.reg 8 r156_8) (.cond (.t 33) (.reg 9 r156_9) .skip)) c156_0)
abbrev b156:AC:=(.seq (.reg 0 r156_0) (.seq (.seq (.reg 1 r156_1) (.cond (.t 11) (.seq (.reg 2 r156_2) .ret) .skip)) (.seq (.reg 3 r156_3) (.seq (.reg 4 r156_4) (.seq (.reg 5 r156_5) (.seq (.seq (.reg 6 r156_6) (.cond (.t 28) (.reg 7 r156_7) .skip)) c156_1))))))
def pf156:AF:={ nt:=47,res:=[.cell 2 7 true,.tmp 3],body:=b156 }
abbrev H156 (Q:AE→Sl→St→Prop)(K:Pan→Int→Prop):Prop:=∀(σ:Sl)(st:St)(k0:Key)(v0:Nat)(o0_0:Own)(res0:Pan)(res1:Int),σ 2 = .p k0 v0 0→lk st.bx k0 = some (v0,[.i .u64 res0.tag,.i .u8 res0.value.kind,.i .i64 res0.value.int,.s res0.value.text,.sl o0_0 (List.map Val.row res0.value.list),.b res0.value.cut,.i .u64 res0.flags])→σ 3 = .i .i64 res1→K res0 res1→Q .ret σ st
def T156_2 (prog:Prog)(K:Pan→Int→Prop)(ok8:Bool)(m0:Pan)(m20485:Pan):Prop:=
  ((!ok8) = true→K (Pan.mk 0 (Val.mk 0 0 [] ([]:List Val) false) 0) 12)∧((!ok8) = false→∃r'2:Int,Pus prog 158 [m20485.av] (.i .i64 r'2)∧(r'2≠0→K (Pan.mk 0 (Val.mk 0 0 [] ([]:List Val) false) 0) 12)∧(¬(r'2≠0)→K m20485 0))
def T156_1 (prog:Prog)(K:Pan→Int→Prop)(aborted5:Bool)(ok8:Bool)(m0:Pan)(m20485:Pan):Prop:=
  (aborted5 = true→T156_2 prog K ok8 m0 (Pan.mk m20485.tag m20485.value (bOr .u64 m20485.flags 4)))∧(aborted5 = false→T156_2 prog K ok8 m0 m20485)
def T156_0 (prog:Prog)(K:Pan→Int→Prop)(s0:List UInt8):Prop:=
  ((s0.length:Int) > 2000→K (Pan.mk 0 (Val.mk 0 0 [] ([]:List Val) false) 0) 4)∧(¬((s0.length:Int) > 2000)→∃r'2:List UInt8,∃r'3:Bool,Pus prog 180 [.s s0,.s ([32,97,98,111,114,116,101,100]:List UInt8)] (.tup [.s r'2,.b r'3])∧∃r'5:List UInt8,∃r'6:Bool,Pus prog 180 [.s r'2,.s ([32,114,101,99,111,118,101,114,101,100]:List UInt8)] (.tup [.s r'5,.b r'6])∧∃r'8:Pan,∃r'9:Bool,Pus prog 181 [.s r'5] (.tup [r'8.av,.b r'9])∧(r'6 = true→T156_1 prog K r'3 r'9 (Pan.mk 0 (Val.mk 0 0 [] ([]:List Val) false) 0) (Pan.mk r'8.tag r'8.value (bOr .u64 r'8.flags 1)))∧(r'6 = false→T156_1 prog K r'3 r'9 (Pan.mk 0 (Val.mk 0 0 [] ([]:List Val) false) 0) r'8))
section
variable {prog:Prog}{d:Nat}{Q:AE→Sl→St→Prop}{K:Pan→Int→Prop}(hQ:H156 Q K){σ:Sl}{st:St}
include hQ
theorem w156_2 {ok8:Bool}{m0 m20485:Pan}{o_m0_4:Own}{v0:Nat}{v20485:Nat}(H2:σ 2 = .p (d,0) v0 0)(H7:σ 7 = .p (d,20485) v20485 0)(H8:σ 8 = .b ok8)(B0:lk st.bx (d,0) = some (v0,[.i .u64 m0.tag,.i .u8 m0.value.kind,.i .i64 m0.value.int,.s m0.value.text,.sl o_m0_4 (List.map Val.row m0.value.list),.b m0.value.cut,.i .u64 m0.flags]))(B20485:lk st.bx (d,20485) = some (v20485,[.i .u64 m20485.tag,.i .u8 m20485.value.kind,.i .i64 m20485.value.int,.s m20485.value.text,.sl .ext (List.map Val.row m20485.value.list),.b m20485.value.cut,.i .u64 m20485.flags]))(h:T156_2 prog K ok8 m0 m20485):W prog d c156_0 σ st Q:=
 sq_ (q_ rfl (s_mvB H8 (nt_ rfl (s_mvB rfl (eb_ (g:=40) rfl (fun g'1=>gn_ (b:=true) rfl rfl (gn_ (b:=true) rfl rfl (gn_ (b:=true) rfl rfl (pt_ rfl rfl (e_ (ct_ rfl (q_ rfl (s_build f_nil (so_ H2 B0 rfl rfl rfl (m_ (e_ (rt_ (hQ _ _ _ _ _ _ _ H2 lk_here rfl (h.1 g'1)))))))))))))) (fun g'1=>gy_ rfl (l_ H7 B20485 rfl rfl (gy_ rfl ((h.2 g'1).elim fun r'2 e'3=>ca_ (sc rfl rfl sn) e'3.1 (gy_ rfl (b_ rfl rfl neq_ (pf_ rfl rfl (e_ (cs_ rfl (fun g'4=>q_ rfl (s_build f_nil (so_ H2 B0 rfl rfl rfl (m_ (e_ (rt_ (hQ _ _ _ _ _ _ _ H2 lk_here rfl (e'3.2.1 g'4)))))))) (fun g'4=>sk_ (q_ rfl (l_ H7 B20485 rfl rfl (so_ H2 B0 rfl rfl rfl (m_ (e_ (rt_ (hQ _ _ _ _ _ _ _ H2 lk_here rfl (e'3.2.2 g'4)))))))))))))))))))))))
theorem w156_1 {aborted5 ok8:Bool}{m0 m20485:Pan}{o_m0_4:Own}{v0:Nat}{v20485:Nat}(H2:σ 2 = .p (d,0) v0 0)(H5:σ 5 = .b aborted5)(H7:σ 7 = .p (d,20485) v20485 0)(H8:σ 8 = .b ok8)(B0:lk st.bx (d,0) = some (v0,[.i .u64 m0.tag,.i .u8 m0.value.kind,.i .i64 m0.value.int,.s m0.value.text,.sl o_m0_4 (List.map Val.row m0.value.list),.b m0.value.cut,.i .u64 m0.flags]))(B20485:lk st.bx (d,20485) = some (v20485,[.i .u64 m20485.tag,.i .u8 m20485.value.kind,.i .i64 m20485.value.int,.s m20485.value.text,.sl .ext (List.map Val.row m20485.value.list),.b m20485.value.cut,.i .u64 m20485.flags]))(h:T156_1 prog K aborted5 ok8 m0 m20485):W prog d c156_1 σ st Q:=
 sq_ (q_ rfl (m_ (e_ (cb_ H5 (fun g'1=>W.reg0 rfl fun _ _=>f_ H7 (l_ rfl B20485 rfl rfl (b_ rfl rfl (abin_or _ _ _) (f_ H7 (so_ rfl B20485 rfl rfl rfl (e_ (w156_2 (m20485:=(Pan.mk m20485.tag m20485.value (bOr .u64 m20485.flags 4))) hQ H2 H7 H8 (lk_other rfl B0) lk_here (h.1 g'1)))))))) (fun g'1=>sk_ (w156_2 hQ H2 H7 H8 B0 B20485 (h.2 g'1)))))))
theorem w156_0 {s0:List UInt8}(H0:σ 0 = .s s0)(h:T156_0 prog K s0):W prog d (.seq (.reg 0 r156_0) (.seq (.seq (.reg 1 r156_1) (.cond (.t 11) (.seq (.reg 2 r156_2) .ret) .skip)) (.seq (.reg 3 r156_3) (.seq (.reg 4 r156_4) (.seq (.reg 5 r156_5) (.seq (.seq (.reg 6 r156_6) (.cond (.t 28) (.reg 7 r156_7) .skip)) c156_1)))))) σ st Q:=
 sq_ (W.reg (s_alloc (m_ (e_ (sq_ (q_ rfl (m_ (ln_ H0 (b_ rfl rfl gtr_ (e_ (cs_ rfl (fun g'1=>q_ rfl (s_build f_nil (so_ rfl (show lk _ (d,0) = some (_,([.i .u64 0,.i .u8 0,.i .i64 0,.s [],.sl .full (List.map Val.row ([]:List Val)),.b false,.i .u64 0]:List AV)) from lk_here) rfl rfl rfl (m_ (e_ (rt_ (hQ _ _ _ _ _ _ _ rfl lk_here rfl (h.1 g'1)))))))) (fun g'1=>sk_ (q_ rfl (m_ ((h.2 g'1).elim fun r'2 e'14=>e'14.elim fun r'3 e'4=>ca_ (sc H0 rfl (sc rfl rfl sn)) e'4.1 (m_ (x_ rfl rfl (x_ rfl rfl (m_ (m_ (e_ (q_ rfl (m_ (e'4.2.elim fun r'5 e'13=>e'13.elim fun r'6 e'7=>ca_ (sc rfl rfl (sc rfl rfl sn)) e'7.1 (m_ (x_ rfl rfl (x_ rfl rfl (m_ (m_ (e_ (sq_ (W.reg (m_ (e'7.2.elim fun r'8 e'12=>e'12.elim fun r'9 e'10=>ca_ (sc rfl rfl sn) e'10.1 (m_ (x_ rfl rfl (x_ rfl rfl (s_alloc (so_ rfl (show lk _ (d,20485) = some (_,([.i .u64 0,.i .u8 0,.i .i64 0,.s [],.sl .full (List.map Val.row ([]:List Val)),.b false,.i .u64 0]:List AV)) from lk_here) rfl rfl rfl (m_ (e_ (sq_ (q_ rfl (m_ (e_ (cb_ rfl (fun g'11=>W.reg0 rfl fun _ _=>f_ rfl (l_ rfl lk_here rfl rfl (b_ rfl rfl (abin_or _ _ _) (f_ rfl (so_ rfl lk_here rfl rfl rfl (e_ (w156_1 (m0:=(Pan.mk 0 (Val.mk 0 0 [] ([]:List Val) false) 0)) (m20485:=(Pan.mk r'8.tag r'8.value (bOr .u64 r'8.flags 1))) hQ rfl rfl rfl rfl (lk_other rfl (lk_other rfl (lk_other rfl (show lk _ (d,0) = some (_,([.i .u64 0,.i .u8 0,.i .i64 0,.s [],.sl .full (List.map Val.row ([]:List Val)),.b false,.i .u64 0]:List AV)) from lk_here)))) lk_here (e'10.2.1 g'11)))))))) (fun g'11=>sk_ (w156_1 (m0:=(Pan.mk 0 (Val.mk 0 0 [] ([]:List Val) false) 0)) hQ rfl rfl rfl rfl (lk_other rfl (lk_other rfl (show lk _ (d,0) = some (_,([.i .u64 0,.i .u8 0,.i .i64 0,.s [],.sl .full (List.map Val.row ([]:List Val)),.b false,.i .u64 0]:List AV)) from lk_here))) lk_here (e'10.2.2 g'11)))))))))))))))))))))))))))))))))))))))))))))))))
end
theorem p156 {prog:Prog}(hf:prog.fn 156 = some pf156){s0:List UInt8}{K:Pan→Int→Prop}(h:T156_0 prog K s0) :∃res0:Pan,∃res1:Int,K res0 res1∧Pus prog 156 [.s s0] (.tup [res0.av,.i .i64 res1]):=by
  obtain ⟨v,hv,res0,res1,hk,rfl⟩:=Pus.of (K:=fun v=>∃res0:Pan,∃res1:Int,K res0 res1∧v = .tup [res0.av,.i .i64 res1]) hf rfl (w156_0 (σ:=sl0 [.s s0]) (fun σ st k0 v0 o0_0 res0 res1 H2 HB2 H3 hk=>⟨.tup [res0.avo o0_0,.i .i64 res1],by simp only [pf156,ares,aresL,ares_cellA (n:=7) H2 HB2 rfl,H3,ares_tmp,Option.map_some],_,rfl,res0,res1,hk,rfl⟩) rfl h)
  exact ⟨res0,res1,hk,hv⟩
def r157_0:List AI:=[oO 2 (.alloc [.i .u64 0,.i .u8 0,.i .i64 0,.s [],.sl .full [],.b false,.i .u64 0]),
 oC 3 (.i .i64 0)]
def r157_1:List AI:=[oM 10 0,
 oO 11 (.len true (.t 10)),
 oB 12 .gtr (.t 11) (.c (.i .i64 2000))]
def r157_2:List AI:=[oO 13 (.build [.i .u64 0,.i .u8 0,.i .i64 0,.s [],.sl .full [],.b false,.i .u64 0] []),
 oS 7 2 13,
 oC 3 (.i .i64 4)]
def r157_3:List AI:=[oM 15 0,
 oO 16 (.call false 182 [(.t 15),(.c (.s [32,97,98,111,114,116,101,100]))]),
 oM 14 16,
 oE 17 0 14,
 oE 18 1 14,
 oM 4 17,
 oM 5 18]
def r157_4:List AI:=[oM 20 4,
 oO 21 (.call false 182 [(.t 20),(.c (.s [32,114,101,99,111,118,101,114,101,100]))]),
 oM 19 21,
 oE 22 0 19,
 oE 23 1 19,
 oM 4 22,
 oM 6 23]
def r157_5:List AI:=[oO 7 (.alloc [.i .u64 0,.i .u8 0,.i .i64 0,.s [],.sl .full [],.b false,.i .u64 0])]
def r157_6:List AI:=[oM 26 4,
 oB 27 .eql (.t 26) (.c (.s [101,120,105,116])),
 oM 25 27]
def r157_7:List AI:=[oF 28 6 7,
 ⟨none,.store 1 (.t 28) (.c (.i .u64 2)),none⟩]
def r157_8:List AI:=[oM 30 4,
 oO 31 (.len true (.t 30)),
 oB 32 .gtr (.t 31) (.c (.i .i64 6)),
 oM 33 32,
 oG 34 (.mv (.t 4)) 33 true,
 oG 35 (.slS (.t 34) none (some (.c (.i .i64 6)))) 33 true,
 oG 36 (.bin .eql (.t 35) (.c (.s [102,97,117,108,116,32]))) 33 true,
 oO 37 (.pick (.t 33) (.t 36) (.c (.b false))),
 oM 29 37]
def r157_9:List AI:=[oF 38 0 7,
 ⟨none,.store 1 (.t 38) (.c (.i .u64 4)),none⟩]
def r157_10:List AI:=[oM 39 4,
 oO 40 (.ixS (.t 39) (.c (.i .i64 6))),
 oO 41 (.cvi .i64 (.t 40)),
 oB 42 .sub (.t 41) (.c (.i .i64 48)),
 oO 43 (.build [.i .u8 0,.i .i64 0,.s [],.sl .full [],.b false] [(0,1,(.c (.i .u8 2))),(1,1,(.t 42))]),
 oF 44 1 7,
 oS 5 44 43]
def r157_11:List AI:=[oM 46 4,
 oO 47 (.len true (.t 46)),
 oB 48 .gtr (.t 47) (.c (.i .i64 6)),
 oM 49 48,
 oG 50 (.mv (.t 4)) 49 true,
 oG 51 (.slS (.t 50) none (some (.c (.i .i64 6)))) 49 true,
 oG 52 (.bin .eql (.t 51) (.c (.s [112,97,110,105,99,32]))) 49 true,
 oO 53 (.pick (.t 49) (.t 52) (.c (.b false))),
 oM 45 53]
def r157_12:List AI:=[oM 55 4,
 oO 56 (.slS (.t 55) (some (.c (.i .i64 6))) none),
 oO 57 (.call false 75 [(.t 56)]),
 oM 54 57,
 oE 58 0 54,
 oE 59 1 54,
 oO 8 (.alloc [.i .u8 0,.i .i64 0,.s [],.sl .full [],.b false]),
 oS 5 8 58,
 oM 9 59]
def r157_13:List AI:=[oM 60 9,
 oB 61 .neq (.t 60) (.c (.i .i64 0))]
def r157_14:List AI:=[oO 62 (.build [.i .u64 0,.i .u8 0,.i .i64 0,.s [],.sl .full [],.b false,.i .u64 0] []),
 oS 7 2 62,
 oC 3 (.i .i64 12)]
def r157_15:List AI:=[oO 63 (.load 5 true (.t 8)),
 oF 64 1 7,
 oS 5 64 63]
def r157_16:List AI:=[oO 65 (.bslice [.i .u64 0] 8 [(0,(.c (.i .u64 9))),(1,(.c (.i .u64 2))),(2,(.c (.i .u64 1))),(3,(.c (.i .u64 3))),(4,(.c (.i .u64 9))),(5,(.c (.i .u64 9))),(6,(.c (.i .u64 9))),(7,(.c (.i .u64 9)))]),
 oF 66 0 8,
 oL 67 66,
 oO 68 (.iaL 1 (.t 65) (.t 67)),
 oL 69 68,
 oF 70 0 7,
 oS 1 70 69]
def r157_17:List AI:=[oO 24 (.build [.i .u64 0,.i .u8 0,.i .i64 0,.s [],.sl .full [],.b false,.i .u64 0] []),
 oS 7 2 24,
 oC 3 (.i .i64 12)]
def r157_18:List AI:=[oM 71 6]
def r157_19:List AI:=[oF 72 6 7,
 oL 73 72,
 oB 74 .add (.t 73) (.c (.i .u64 1)),
 oF 75 6 7,
 oS 1 75 74]
def r157_20:List AI:=[oM 76 5]
def r157_21:List AI:=[oF 77 6 7,
 oL 78 77,
 oB 79 .add (.t 78) (.c (.i .u64 4)),
 oF 80 6 7,
 oS 1 80 79]
def r157_22:List AI:=[oO 81 (.load 7 true (.t 7)),
 oO 82 (.call false 159 [(.t 81)]),
 oB 83 .neq (.t 82) (.c (.i .i64 0)),
 oM 84 83,
 oG 85 (.load 7 true (.t 7)) 84 false,
 oG 86 (.call false 179 [(.t 85)]) 84 false,
 oG 87 (.mv (.t 0)) 84 false,
 oG 88 (.bin .neq (.t 86) (.t 87)) 84 false,
 oO 89 (.pick (.t 84) (.c (.b true)) (.t 88))]
def r157_23:List AI:=[oO 90 (.build [.i .u64 0,.i .u8 0,.i .i64 0,.s [],.sl .full [],.b false,.i .u64 0] []),
 oS 7 2 90,
 oC 3 (.i .i64 12)]
def r157_24:List AI:=[oO 91 (.load 7 true (.t 7)),
 oS 7 2 91,
 oC 3 (.i .i64 0)]
abbrev c157_0:AC:=(.cond (.t 45) (.seq (.reg 13 r157_12) (.seq (.seq (.reg 14 r157_13) (.cond (.t 61) (.seq (.reg 15 r157_14) .ret) .skip)) (.seq (.reg 16 r157_15) (.reg 17 r157_16)))) (.seq (.reg 6 r157_17) .ret))
abbrev c157_1:AC:=(.cond (.t 29) (.seq (.reg 10 r157_9) (.reg 11 r157_10)) (.seq (.reg 12 r157_11) c157_0))
abbrev c157_2:AC:=(.seq (.seq (.reg 22 r157_22) (.cond (.t 89) (.seq (.reg 23 r157_23) .ret) .skip)) (.seq (.reg 24 r157_24) .ret))
abbrev c157_3:AC:=(.seq (.seq (.reg 20 r157_20) (.cond (.t 76) (.reg 21 r157_21) .skip)) c157_2)
abbrev c157_4:AC:=(.seq (.seq (.reg 18 r157_18) (.cond (.t 71) (.reg 19 r157_19) .skip)) c157_3)
abbrev c157_5:AC:=(.seq (.block 0 (.seq (.reg 7 r157_6) (.cond (.t 25) (.reg 8 r157_7) (.seq (.reg 9 r157_8) c157_1)))) c157_4)
abbrev c157_6:AC:=(.seq (.reg 5 r157_5) c157_5)
abbrev c157_7:AC:=(.seq (.reg 4 r157_4) c157_6)
abbrev c157_8:AC:=(.seq (.reg 3 r157_3) c157_7)
abbrev c157_9:AC:=(.seq (.seq (.reg 1 r157_1) (.cond (.t 12) (.seq (.reg 2 r157_2) .ret) .skip)) c157_8)
abbrev b157:AC:=(.seq (.reg 0 r157_0) c157_9)
def pf157:AF:={ nt:=92,res:=[.cell 2 7 true,.tmp 3],body:=b157 }
abbrev H157 (Q:AE→Sl→St→Prop)(K:Pan→Int→Prop):Prop:=∀(σ:Sl)(st:St)(k0:Key)(v0:Nat)(o0_0:Own)(res0:Pan)(res1:Int),σ 2 = .p k0 v0 0→lk st.bx k0 = some (v0,[.i .u64 res0.tag,.i .u8 res0.value.kind,.i .i64 res0.value.int,.s res0.value.text,.sl o0_0 (List.map Val.row res0.value.list),.b res0.value.cut,.i .u64 res0.flags])→σ 3 = .i .i64 res1→K res0 res1→Q .ret σ st
def T157_8 (prog:Prog)(K:Pan→Int→Prop)(s0:List UInt8)(m0:Pan)(m20480:Pan):Prop:=
  ∃r'1:Int,Pus prog 159 [m20480.av] (.i .i64 r'1)∧(r'1≠0→K (Pan.mk 0 (Val.mk 0 0 [] ([]:List Val) false) 0) 12)∧(¬(r'1≠0)→∃r'4:List UInt8,Pus prog 179 [m20480.av] (.s r'4)∧(r'4≠s0→K (Pan.mk 0 (Val.mk 0 0 [] ([]:List Val) false) 0) 12)∧(¬(r'4≠s0)→K m20480 0))
def T157_7 (prog:Prog)(K:Pan→Int→Prop)(s0:List UInt8)(aborted5:Bool)(m0:Pan)(m20480:Pan):Prop:=
  (aborted5 = true→T157_8 prog K s0 m0 (Pan.mk m20480.tag m20480.value (IntKind.u64.wrap (m20480.flags + 4))))∧(aborted5 = false→T157_8 prog K s0 m0 m20480)
def T157_6 (prog:Prog)(K:Pan→Int→Prop)(s0:List UInt8)(aborted5:Bool)(recovered6:Bool)(m0:Pan)(m20480:Pan):Prop:=
  (recovered6 = true→T157_7 prog K s0 aborted5 m0 (Pan.mk m20480.tag m20480.value (IntKind.u64.wrap (m20480.flags + 1))))∧(recovered6 = false→T157_7 prog K s0 aborted5 m0 m20480)
def T157_10 (prog:Prog)(K:Pan→Int→Prop)(s0:List UInt8)(rest4:List UInt8)(aborted5:Bool)(recovered6:Bool)(t45:Bool)(m0:Pan)(m20480:Pan):Prop:=
  (t45 = true→6≤rest4.length∧∃r'2:Val,∃r'3:Int,Pus prog 75 [.s (rest4.drop 6)] (.tup [r'2.av,.i .i64 r'3])∧(r'3≠0→K (Pan.mk 0 (Val.mk 0 0 [] ([]:List Val) false) 0) 12)∧(¬(r'3≠0)→0≤r'2.kind∧∃c'6:Int,[9,2,1,3,9,9,9,9][(r'2.kind).toNat]? = some c'6∧T157_6 prog K s0 aborted5 recovered6 m0 (Pan.mk c'6 r'2 m20480.flags)))∧(t45 = false→K (Pan.mk 0 (Val.mk 0 0 [] ([]:List Val) false) 0) 12)
def T157_9 (prog:Prog)(K:Pan→Int→Prop)(s0:List UInt8)(rest4:List UInt8)(aborted5:Bool)(recovered6:Bool)(t29:Bool)(m0:Pan)(m20480:Pan):Prop:=
  (t29 = true→∃c'2:UInt8,rest4[6]? = some c'2∧T157_6 prog K s0 aborted5 recovered6 m0 (Pan.mk 4 (Val.mk 2 (IntKind.i64.wrap ((c'2.toNat:Int) - 48)) [] ([]:List Val) false) m20480.flags))∧(t29 = false→((rest4.length:Int) > 6→6≤rest4.length∧T157_10 prog K s0 rest4 aborted5 recovered6 (decide ((rest4.take 6) = ([112,97,110,105,99,32]:List UInt8))) m0 m20480)∧(¬((rest4.length:Int) > 6)→T157_10 prog K s0 rest4 aborted5 recovered6 false m0 m20480))
def T157_5 (prog:Prog)(K:Pan→Int→Prop)(s0:List UInt8)(rest4:List UInt8)(aborted5:Bool)(recovered6:Bool)(m0:Pan)(m20480:Pan):Prop:=
  (rest4 = ([101,120,105,116]:List UInt8)→T157_6 prog K s0 aborted5 recovered6 m0 (Pan.mk m20480.tag m20480.value 2))∧(¬(rest4 = ([101,120,105,116]:List UInt8))→((rest4.length:Int) > 6→6≤rest4.length∧T157_9 prog K s0 rest4 aborted5 recovered6 (decide ((rest4.take 6) = ([102,97,117,108,116,32]:List UInt8))) m0 m20480)∧(¬((rest4.length:Int) > 6)→T157_9 prog K s0 rest4 aborted5 recovered6 false m0 m20480))
def T157_4 (prog:Prog)(K:Pan→Int→Prop)(s0:List UInt8)(rest4:List UInt8)(aborted5:Bool)(recovered6:Bool)(m0:Pan):Prop:=
  T157_5 prog K s0 rest4 aborted5 recovered6 m0 (Pan.mk 0 (Val.mk 0 0 [] ([]:List Val) false) 0)
def T157_3 (prog:Prog)(K:Pan→Int→Prop)(s0:List UInt8)(rest4:List UInt8)(aborted5:Bool)(m0:Pan):Prop:=
  ∃r'1:List UInt8,∃r'2:Bool,Pus prog 182 [.s rest4,.s ([32,114,101,99,111,118,101,114,101,100]:List UInt8)] (.tup [.s r'1,.b r'2])∧T157_4 prog K s0 r'1 aborted5 r'2 m0
def T157_2 (prog:Prog)(K:Pan→Int→Prop)(s0:List UInt8)(m0:Pan):Prop:=
  ∃r'1:List UInt8,∃r'2:Bool,Pus prog 182 [.s s0,.s ([32,97,98,111,114,116,101,100]:List UInt8)] (.tup [.s r'1,.b r'2])∧T157_3 prog K s0 r'1 r'2 m0
def T157_1 (prog:Prog)(K:Pan→Int→Prop)(s0:List UInt8)(m0:Pan):Prop:=
  ((s0.length:Int) > 2000→K (Pan.mk 0 (Val.mk 0 0 [] ([]:List Val) false) 0) 4)∧(¬((s0.length:Int) > 2000)→T157_2 prog K s0 m0)
def T157_0 (prog:Prog)(K:Pan→Int→Prop)(s0:List UInt8):Prop:=
  T157_1 prog K s0 (Pan.mk 0 (Val.mk 0 0 [] ([]:List Val) false) 0)
section
variable {prog:Prog}{d:Nat}{Q:AE→Sl→St→Prop}{K:Pan→Int→Prop}(hQ:H157 Q K){σ:Sl}{st:St}
include hQ
theorem w157_8 {s0:List UInt8}{m0 m20480:Pan}{o_m0_4 o_m20480_4:Own}{v0:Nat}{v20480:Nat}(H0:σ 0 = .s s0)(H2:σ 2 = .p (d,0) v0 0)(H7:σ 7 = .p (d,20480) v20480 0)(B0:lk st.bx (d,0) = some (v0,[.i .u64 m0.tag,.i .u8 m0.value.kind,.i .i64 m0.value.int,.s m0.value.text,.sl o_m0_4 (List.map Val.row m0.value.list),.b m0.value.cut,.i .u64 m0.flags]))(B20480:lk st.bx (d,20480) = some (v20480,[.i .u64 m20480.tag,.i .u8 m20480.value.kind,.i .i64 m20480.value.int,.s m20480.value.text,.sl o_m20480_4 (List.map Val.row m20480.value.list),.b m20480.value.cut,.i .u64 m20480.flags]))(h:T157_8 prog K s0 m0 m20480):W prog d c157_2 σ st Q:=
 sq_ (q_ rfl (l_ H7 B20480 rfl rfl (h.elim fun r'1 e'2=>ca_ (sc rfl rfl sn) e'2.1 (b_ rfl rfl neq_ (s_mvB rfl (em_ (g:=84) rfl (fun g'3=>gn_ (b:=true) rfl rfl (gn_ (b:=true) rfl rfl (gn_ (b:=true) rfl rfl (gn_ (b:=true) rfl rfl (pt_ rfl rfl (e_ (ct_ rfl (q_ rfl (s_build f_nil (so_ H2 B0 rfl rfl rfl (m_ (e_ (rt_ (hQ _ _ _ _ _ _ _ H2 lk_here rfl (e'2.2.1 g'3))))))))))))))) (fun g'3=>gy_ rfl (l_ H7 B20480 rfl rfl (gy_ rfl ((e'2.2.2 g'3).elim fun r'4 e'5=>ca_ (sc rfl rfl sn) e'5.1 (gy_ rfl (s_mvS H0 (gy_ rfl (b_ rfl rfl sne_ (pf_ rfl rfl (e_ (cs_ rfl (fun g'6=>q_ rfl (s_build f_nil (so_ H2 B0 rfl rfl rfl (m_ (e_ (rt_ (hQ _ _ _ _ _ _ _ H2 lk_here rfl (e'5.2.1 g'6)))))))) (fun g'6=>sk_ (q_ rfl (l_ H7 B20480 rfl rfl (so_ H2 B0 rfl rfl rfl (m_ (e_ (rt_ (hQ _ _ _ _ _ _ _ H2 lk_here rfl (e'5.2.2 g'6))))))))))))))))))))))))))
theorem w157_7 {s0:List UInt8}{aborted5:Bool}{m0 m20480:Pan}{o_m0_4 o_m20480_4:Own}{v0:Nat}{v20480:Nat}(H0:σ 0 = .s s0)(H2:σ 2 = .p (d,0) v0 0)(H5:σ 5 = .b aborted5)(H7:σ 7 = .p (d,20480) v20480 0)(B0:lk st.bx (d,0) = some (v0,[.i .u64 m0.tag,.i .u8 m0.value.kind,.i .i64 m0.value.int,.s m0.value.text,.sl o_m0_4 (List.map Val.row m0.value.list),.b m0.value.cut,.i .u64 m0.flags]))(B20480:lk st.bx (d,20480) = some (v20480,[.i .u64 m20480.tag,.i .u8 m20480.value.kind,.i .i64 m20480.value.int,.s m20480.value.text,.sl o_m20480_4 (List.map Val.row m20480.value.list),.b m20480.value.cut,.i .u64 m20480.flags]))(h:T157_7 prog K s0 aborted5 m0 m20480):W prog d c157_3 σ st Q:=
 sq_ (q_ rfl (m_ (e_ (cb_ H5 (fun g'1=>W.reg0 rfl fun _ _=>f_ H7 (l_ rfl B20480 rfl rfl (b_ rfl rfl add_ (f_ H7 (so_ rfl B20480 rfl rfl rfl (e_ (w157_8 (m20480:=(Pan.mk m20480.tag m20480.value (IntKind.u64.wrap (m20480.flags + 4)))) hQ H0 H2 H7 (lk_other rfl B0) lk_here (h.1 g'1)))))))) (fun g'1=>sk_ (w157_8 hQ H0 H2 H7 B0 B20480 (h.2 g'1)))))))
theorem w157_6 {s0:List UInt8}{aborted5 recovered6:Bool}{m0 m20480:Pan}{o_m0_4 o_m20480_4:Own}{v0:Nat}{v20480:Nat}(H0:σ 0 = .s s0)(H2:σ 2 = .p (d,0) v0 0)(H5:σ 5 = .b aborted5)(H6:σ 6 = .b recovered6)(H7:σ 7 = .p (d,20480) v20480 0)(B0:lk st.bx (d,0) = some (v0,[.i .u64 m0.tag,.i .u8 m0.value.kind,.i .i64 m0.value.int,.s m0.value.text,.sl o_m0_4 (List.map Val.row m0.value.list),.b m0.value.cut,.i .u64 m0.flags]))(B20480:lk st.bx (d,20480) = some (v20480,[.i .u64 m20480.tag,.i .u8 m20480.value.kind,.i .i64 m20480.value.int,.s m20480.value.text,.sl o_m20480_4 (List.map Val.row m20480.value.list),.b m20480.value.cut,.i .u64 m20480.flags]))(h:T157_6 prog K s0 aborted5 recovered6 m0 m20480):W prog d c157_4 σ st Q:=
 sq_ (q_ rfl (m_ (e_ (cb_ H6 (fun g'1=>W.reg0 rfl fun _ _=>f_ H7 (l_ rfl B20480 rfl rfl (b_ rfl rfl add_ (f_ H7 (so_ rfl B20480 rfl rfl rfl (e_ (w157_7 (m20480:=(Pan.mk m20480.tag m20480.value (IntKind.u64.wrap (m20480.flags + 1)))) hQ H0 H2 H5 H7 (lk_other rfl B0) lk_here (h.1 g'1)))))))) (fun g'1=>sk_ (w157_7 hQ H0 H2 H5 H7 B0 B20480 (h.2 g'1)))))))
theorem w157_10 {s0 rest4:List UInt8}{aborted5 recovered6 t45:Bool}{m0 m20480:Pan}{o_m0_4 o_m20480_4:Own}{v0:Nat}{v20480:Nat}(H0:σ 0 = .s s0)(H2:σ 2 = .p (d,0) v0 0)(H4:σ 4 = .s rest4)(H5:σ 5 = .b aborted5)(H6:σ 6 = .b recovered6)(H7:σ 7 = .p (d,20480) v20480 0)(H45:σ 45 = .b t45)(Ab20480:ApM d st.ow o_m20480_4 m20480.value.list.length)(B0:lk st.bx (d,0) = some (v0,[.i .u64 m0.tag,.i .u8 m0.value.kind,.i .i64 m0.value.int,.s m0.value.text,.sl o_m0_4 (List.map Val.row m0.value.list),.b m0.value.cut,.i .u64 m0.flags]))(B20480:lk st.bx (d,20480) = some (v20480,[.i .u64 m20480.tag,.i .u8 m20480.value.kind,.i .i64 m20480.value.int,.s m20480.value.text,.sl o_m20480_4 (List.map Val.row m20480.value.list),.b m20480.value.cut,.i .u64 m20480.flags]))(h:T157_10 prog K s0 rest4 aborted5 recovered6 t45 m0 m20480):W prog d c157_0 σ st (blockW 0 (thenW prog d c157_4 Q)):=
 cb_ H45 (fun g'1=>sq_ (W.reg (m_ (s_slS_lo H4 rfl (by decide) (h.1 g'1).1 ((h.1 g'1).2.elim fun r'2 e'8=>e'8.elim fun r'3 e'4=>ca_ (sc rfl rfl sn) e'4.1 (m_ (x_ rfl rfl (x_ rfl rfl (s_alloc (so_ rfl (show lk _ (d,53254) = some (_,([.i .u8 0,.i .i64 0,.s [],.sl .full (List.map Val.row ([]:List Val)),.b false]:List AV)) from lk_here) rfl rfl rfl (m_ (e_ (sq_ (q_ rfl (m_ (b_ rfl rfl neq_ (e_ (cs_ rfl (fun g'5=>q_ rfl (s_build f_nil (so_ H2 (lk_other rfl (lk_other rfl B0)) rfl rfl rfl (m_ (e_ (rt_ (hQ _ _ _ _ _ _ _ H2 lk_here rfl (e'4.2.1 g'5)))))))) (fun g'5=>sk_ (q_ rfl (l_ rfl lk_here rfl rfl (f_ H7 (so_ rfl (lk_other rfl (lk_other rfl B20480)) rfl rfl rfl (e_ (W.reg0 rfl fun _ _=>s_bslM (f:=(rowI .u64)) (l:=[9,2,1,3,9,9,9,9]) rfl rfl (g_cons rfl rfl rfl (g_cons rfl rfl rfl (g_cons rfl rfl rfl (g_cons rfl rfl rfl (g_cons rfl rfl rfl (g_cons rfl rfl rfl (g_cons rfl rfl rfl (g_cons rfl rfl rfl g_nil)))))))) rfl (f_ rfl (l_ rfl (lk_other rfl lk_here) rfl rfl ((e'4.2.2 g'5).2.elim fun c'6 e'7=>ia_ rfl rfl (e'4.2.2 g'5).1 e'7.1 rfl rfl (lf_ rfl rfl rfl (f_ H7 (so_ rfl lk_here rfl rfl rfl (e_ (w157_6 (m20480:=(Pan.mk c'6 r'2 m20480.flags)) hQ H0 H2 H5 H6 H7 (lk_other rfl (lk_other rfl (lk_other rfl (lk_other rfl B0)))) lk_here e'7.2))))))))))))))))))))))))))))))))) (fun g'1=>q_ rfl (s_build f_nil (so_ H2 B0 rfl rfl rfl (m_ (e_ (rt_ (hQ _ _ _ _ _ _ _ H2 lk_here rfl (h.2 g'1))))))))
theorem w157_9 {s0 rest4:List UInt8}{aborted5 recovered6 t29:Bool}{m0 m20480:Pan}{o_m0_4 o_m20480_4:Own}{v0:Nat}{v20480:Nat}(H0:σ 0 = .s s0)(H2:σ 2 = .p (d,0) v0 0)(H4:σ 4 = .s rest4)(H5:σ 5 = .b aborted5)(H6:σ 6 = .b recovered6)(H7:σ 7 = .p (d,20480) v20480 0)(H29:σ 29 = .b t29)(Ab20480:ApM d st.ow o_m20480_4 m20480.value.list.length)(B0:lk st.bx (d,0) = some (v0,[.i .u64 m0.tag,.i .u8 m0.value.kind,.i .i64 m0.value.int,.s m0.value.text,.sl o_m0_4 (List.map Val.row m0.value.list),.b m0.value.cut,.i .u64 m0.flags]))(B20480:lk st.bx (d,20480) = some (v20480,[.i .u64 m20480.tag,.i .u8 m20480.value.kind,.i .i64 m20480.value.int,.s m20480.value.text,.sl o_m20480_4 (List.map Val.row m20480.value.list),.b m20480.value.cut,.i .u64 m20480.flags]))(h:T157_9 prog K s0 rest4 aborted5 recovered6 t29 m0 m20480):W prog d c157_1 σ st (blockW 0 (thenW prog d c157_4 Q)):=
 cb_ H29 (fun g'1=>q_ rfl (f_ H7 (so_ rfl B20480 rfl rfl rfl (e_ (W.reg0 rfl fun _ _=>m_ ((h.1 g'1).elim fun c'2 e'3=>s_ixS H4 rfl (by decide) e'3.1 (s_cvB rfl rfl (b_ rfl rfl sub_ (s_build (f_cons rfl rfl (f_cons rfl rfl f_nil)) (f_ H7 (so_ rfl lk_here rfl rfl rfl (e_ (w157_6 (m20480:=(Pan.mk 4 (Val.mk 2 (IntKind.i64.wrap ((c'2.toNat:Int) - 48)) [] ([]:List Val) false) m20480.flags)) hQ H0 H2 H5 H6 H7 (lk_other rfl (lk_other rfl B0)) lk_here e'3.2))))))))))))) (fun g'1=>q_ rfl (s_mvS H4 (ln_ rfl (b_ rfl rfl gtr_ (s_mvB rfl (em_ (g:=49) rfl (fun g'4=>gy_ rfl (s_mvS H4 (gy_ rfl (s_slS_hi rfl rfl (by decide) ((h.2 g'1).1 g'4).1 (gy_ rfl (b_ rfl rfl seq_ (pt_ rfl rfl (s_mvB rfl (e_ (w157_10 hQ H0 H2 H4 H5 H6 H7 rfl Ab20480 B0 B20480 ((h.2 g'1).1 g'4).2)))))))))) (fun g'4=>gn_ (b:=false) rfl rfl (gn_ (b:=false) rfl rfl (gn_ (b:=false) rfl rfl (pf_ rfl rfl (s_mvB rfl (e_ (w157_10 hQ H0 H2 H4 H5 H6 H7 rfl Ab20480 B0 B20480 ((h.2 g'1).2 g'4))))))))))))))
theorem w157_5 {s0 rest4:List UInt8}{aborted5 recovered6:Bool}{m0 m20480:Pan}{o_m0_4 o_m20480_4:Own}{v0:Nat}{v20480:Nat}(H0:σ 0 = .s s0)(H2:σ 2 = .p (d,0) v0 0)(H4:σ 4 = .s rest4)(H5:σ 5 = .b aborted5)(H6:σ 6 = .b recovered6)(H7:σ 7 = .p (d,20480) v20480 0)(Ab20480:ApM d st.ow o_m20480_4 m20480.value.list.length)(B0:lk st.bx (d,0) = some (v0,[.i .u64 m0.tag,.i .u8 m0.value.kind,.i .i64 m0.value.int,.s m0.value.text,.sl o_m0_4 (List.map Val.row m0.value.list),.b m0.value.cut,.i .u64 m0.flags]))(B20480:lk st.bx (d,20480) = some (v20480,[.i .u64 m20480.tag,.i .u8 m20480.value.kind,.i .i64 m20480.value.int,.s m20480.value.text,.sl o_m20480_4 (List.map Val.row m20480.value.list),.b m20480.value.cut,.i .u64 m20480.flags]))(h:T157_5 prog K s0 rest4 aborted5 recovered6 m0 m20480):W prog d c157_5 σ st Q:=
 sq_ (bk_ (q_ rfl (m_ (b_ H4 rfl seq_ (m_ (e_ (cs_ rfl (fun g'1=>W.reg0 rfl fun _ _=>f_ H7 (so_ rfl B20480 rfl rfl rfl (e_ (w157_6 (m20480:=(Pan.mk m20480.tag m20480.value 2)) hQ H0 H2 H5 H6 H7 (lk_other rfl B0) lk_here (h.1 g'1))))) (fun g'1=>q_ rfl (s_mvS H4 (ln_ rfl (b_ rfl rfl gtr_ (s_mvB rfl (em_ (g:=33) rfl (fun g'2=>gy_ rfl (s_mvS H4 (gy_ rfl (s_slS_hi rfl rfl (by decide) ((h.2 g'1).1 g'2).1 (gy_ rfl (b_ rfl rfl seq_ (pt_ rfl rfl (s_mvB rfl (e_ (w157_9 hQ H0 H2 H4 H5 H6 H7 rfl Ab20480 B0 B20480 ((h.2 g'1).1 g'2).2)))))))))) (fun g'2=>gn_ (b:=false) rfl rfl (gn_ (b:=false) rfl rfl (gn_ (b:=false) rfl rfl (pf_ rfl rfl (s_mvB rfl (e_ (w157_9 hQ H0 H2 H4 H5 H6 H7 rfl Ab20480 B0 B20480 ((h.2 g'1).2 g'2)))))))))))))))))))))
theorem w157_4 {s0 rest4:List UInt8}{aborted5 recovered6:Bool}{m0:Pan}{o_m0_4:Own}{v0:Nat}(H0:σ 0 = .s s0)(H2:σ 2 = .p (d,0) v0 0)(H4:σ 4 = .s rest4)(H5:σ 5 = .b aborted5)(H6:σ 6 = .b recovered6)(B0:lk st.bx (d,0) = some (v0,[.i .u64 m0.tag,.i .u8 m0.value.kind,.i .i64 m0.value.int,.s m0.value.text,.sl o_m0_4 (List.map Val.row m0.value.list),.b m0.value.cut,.i .u64 m0.flags]))(h:T157_4 prog K s0 rest4 aborted5 recovered6 m0):W prog d c157_6 σ st Q:=
 sq_ (W.reg (s_alloc (e_ (w157_5 (m20480:=(Pan.mk 0 (Val.mk 0 0 [] ([]:List Val) false) 0)) hQ H0 H2 H4 H5 H6 rfl ApM.full (lk_other rfl B0) (show lk _ (d,20480) = some (_,([.i .u64 0,.i .u8 0,.i .i64 0,.s [],.sl .full (List.map Val.row ([]:List Val)),.b false,.i .u64 0]:List AV)) from lk_here) h))))
theorem w157_3 {s0 rest4:List UInt8}{aborted5:Bool}{m0:Pan}{o_m0_4:Own}{v0:Nat}(H0:σ 0 = .s s0)(H2:σ 2 = .p (d,0) v0 0)(H4:σ 4 = .s rest4)(H5:σ 5 = .b aborted5)(B0:lk st.bx (d,0) = some (v0,[.i .u64 m0.tag,.i .u8 m0.value.kind,.i .i64 m0.value.int,.s m0.value.text,.sl o_m0_4 (List.map Val.row m0.value.list),.b m0.value.cut,.i .u64 m0.flags]))(h:T157_3 prog K s0 rest4 aborted5 m0):W prog d c157_7 σ st Q:=
 q_ rfl (m_ (h.elim fun r'1 e'4=>e'4.elim fun r'2 e'3=>ca_ (sc H4 rfl (sc rfl rfl sn)) e'3.1 (m_ (x_ rfl rfl (x_ rfl rfl (m_ (m_ (e_ (w157_4 hQ H0 H2 rfl H5 rfl B0 e'3.2)))))))))
theorem w157_2 {s0:List UInt8}{m0:Pan}{o_m0_4:Own}{v0:Nat}(H0:σ 0 = .s s0)(H2:σ 2 = .p (d,0) v0 0)(B0:lk st.bx (d,0) = some (v0,[.i .u64 m0.tag,.i .u8 m0.value.kind,.i .i64 m0.value.int,.s m0.value.text,.sl o_m0_4 (List.map Val.row m0.value.list),.b m0.value.cut,.i .u64 m0.flags]))(h:T157_2 prog K s0 m0):W prog d c157_8 σ st Q:=
 q_ rfl (m_ (h.elim fun r'1 e'4=>e'4.elim fun r'2 e'3=>ca_ (sc H0 rfl (sc rfl rfl sn)) e'3.1 (m_ (x_ rfl rfl (x_ rfl rfl (m_ (m_ (e_ (w157_3 hQ H0 H2 rfl rfl B0 e'3.2)))))))))
theorem w157_1 {s0:List UInt8}{m0:Pan}{o_m0_4:Own}{v0:Nat}(H0:σ 0 = .s s0)(H2:σ 2 = .p (d,0) v0 0)(B0:lk st.bx (d,0) = some (v0,[.i .u64 m0.tag,.i .u8 m0.value.kind,.i .i64 m0.value.int,.s m0.value.text,.sl o_m0_4 (List.map Val.row m0.value.list),.b m0.value.cut,.i .u64 m0.flags]))(h:T157_1 prog K s0 m0):W prog d c157_9 σ st Q:=
 sq_ (q_ rfl (m_ (ln_ H0 (b_ rfl rfl gtr_ (e_ (cs_ rfl (fun g'1=>q_ rfl (s_build f_nil (so_ H2 B0 rfl rfl rfl (m_ (e_ (rt_ (hQ _ _ _ _ _ _ _ H2 lk_here rfl (h.1 g'1)))))))) (fun g'1=>sk_ (w157_2 hQ H0 H2 B0 (h.2 g'1)))))))))
theorem w157_0 {s0:List UInt8}(H0:σ 0 = .s s0)(h:T157_0 prog K s0):W prog d (.seq (.reg 0 r157_0) c157_9) σ st Q:=
 sq_ (W.reg (s_alloc (m_ (e_ (w157_1 (m0:=(Pan.mk 0 (Val.mk 0 0 [] ([]:List Val) false) 0)) hQ H0 rfl (show lk _ (d,0) = some (_,([.i .u64 0,.i .u8 0,.i .i64 0,.s [],.sl .full (List.map Val.row ([]:List Val)),.b false,.i .u64 0]:List AV)) from lk_here) h)))))
end
theorem p157 {prog:Prog}(hf:prog.fn 157 = some pf157){s0:List UInt8}{K:Pan→Int→Prop}(h:T157_0 prog K s0) :∃res0:Pan,∃res1:Int,K res0 res1∧Pus prog 157 [.s s0] (.tup [res0.av,.i .i64 res1]):=by
  obtain ⟨v,hv,res0,res1,hk,rfl⟩:=Pus.of (K:=fun v=>∃res0:Pan,∃res1:Int,K res0 res1∧v = .tup [res0.av,.i .i64 res1]) hf rfl (w157_0 (σ:=sl0 [.s s0]) (fun σ st k0 v0 o0_0 res0 res1 H2 HB2 H3 hk=>⟨.tup [res0.avo o0_0,.i .i64 res1],by simp only [pf157,ares,aresL,ares_cellA (n:=7) H2 HB2 rfl,H3,ares_tmp,Option.map_some],_,rfl,res0,res1,hk,rfl⟩) rfl h)
  exact ⟨res0,res1,hk,hv⟩
def r160_0:List AI:=[oO 2 (.box 7 (.t 0)),
 oO 3 (.box 7 (.t 1)),
 oC 4 (.b false)]
def r160_1:List AI:=[oF 5 0 2,
 oL 6 5,
 oF 7 0 3,
 oL 8 7,
 oB 9 .eql (.t 6) (.t 8),
 oM 10 9,
 oG 11 (.fad 6 (.t 2)) 10 true,
 oG 12 (.load 1 false (.t 11)) 10 true,
 oG 13 (.fad 6 (.t 3)) 10 true,
 oG 14 (.load 1 false (.t 13)) 10 true,
 oG 15 (.bin .eql (.t 12) (.t 14)) 10 true,
 oO 16 (.pick (.t 10) (.t 15) (.c (.b false))),
 oM 17 16,
 oG 18 (.fad 1 (.t 2)) 17 true,
 oG 19 (.load 5 true (.t 18)) 17 true,
 oG 20 (.fad 1 (.t 3)) 17 true,
 oG 21 (.load 5 true (.t 20)) 17 true,
 oG 22 (.call false 78 [(.t 19),(.t 21)]) 17 true,
 oO 23 (.pick (.t 17) (.t 22) (.c (.b false))),
 oM 4 23]
abbrev b160:AC:=(.seq (.reg 0 r160_0) (.seq (.reg 1 r160_1) .ret))
def pf160:AF:={ nt:=24,res:=[.tmp 4],body:=b160 }
abbrev H160 (Q:AE→Sl→St→Prop)(K:Bool→Prop):Prop:=∀(σ:Sl)(st:St)(res0:Bool),σ 4 = .b res0→K res0→Q .ret σ st
def T160_0 (prog:Prog)(K:Bool→Prop)(a0:Pan)(b1:Pan):Prop:=
  (a0.tag = b1.tag→(a0.flags = b1.flags→∃r'3:Bool,Pus prog 78 [a0.value.av,b1.value.av] (.b r'3)∧K r'3)∧(¬(a0.flags = b1.flags)→K false))∧(¬(a0.tag = b1.tag)→K false)
section
variable {prog:Prog}{d:Nat}{Q:AE→Sl→St→Prop}{K:Bool→Prop}(hQ:H160 Q K){σ:Sl}{st:St}
include hQ
theorem w160_0 {a0 b1:Pan}(H0:σ 0 = a0.av)(H1:σ 1 = b1.av)(h:T160_0 prog K a0 b1):W prog d (.seq (.reg 0 r160_0) (.seq (.reg 1 r160_1) .ret)) σ st Q:=
 q_ rfl (s_box H0 rfl (s_box H1 rfl (m_ (e_ (q_ rfl (f_ rfl (l_ rfl (lk_other rfl lk_here) rfl rfl (f_ rfl (l_ rfl lk_here rfl rfl (b_ rfl rfl eql_ (s_mvB rfl (em_ (g:=10) rfl (fun g'1=>gy_ rfl (f_ rfl (gy_ rfl (l_ rfl (lk_other rfl lk_here) rfl rfl (gy_ rfl (f_ rfl (gy_ rfl (l_ rfl lk_here rfl rfl (gy_ rfl (b_ rfl rfl eql_ (pt_ rfl rfl (s_mvB rfl (em_ (g:=17) rfl (fun g'2=>gy_ rfl (f_ rfl (gy_ rfl (l_ rfl (lk_other rfl lk_here) rfl rfl (gy_ rfl (f_ rfl (gy_ rfl (l_ rfl lk_here rfl rfl (gy_ rfl (((h.1 g'1).1 g'2).elim fun r'3 e'4=>ca_ (sc rfl rfl (sc rfl rfl sn)) e'4.1 (pt_ rfl rfl (s_mvB rfl (e_ (rt_ (hQ _ _ _ rfl e'4.2))))))))))))))) (fun g'2=>gn_ (b:=false) rfl rfl (gn_ (b:=false) rfl rfl (gn_ (b:=false) rfl rfl (gn_ (b:=false) rfl rfl (gn_ (b:=false) rfl rfl (pf_ rfl rfl (s_mvB rfl (e_ (rt_ (hQ _ _ _ rfl ((h.1 g'1).2 g'2)))))))))))))))))))))))) (fun g'1=>gn_ (b:=false) rfl rfl (gn_ (b:=false) rfl rfl (gn_ (b:=false) rfl rfl (gn_ (b:=false) rfl rfl (gn_ (b:=false) rfl rfl (pf_ rfl rfl (s_mvB rfl (gn_ (b:=false) rfl rfl (gn_ (b:=false) rfl rfl (gn_ (b:=false) rfl rfl (gn_ (b:=false) rfl rfl (gn_ (b:=false) rfl rfl (pf_ rfl rfl (s_mvB rfl (e_ (rt_ (hQ _ _ _ rfl (h.2 g'1))))))))))))))))))))))))))))))
end
theorem p160 {prog:Prog}(hf:prog.fn 160 = some pf160){a0:Pan}{b1:Pan}{K:Bool→Prop}(h:T160_0 prog K a0 b1) :∃res0:Bool,K res0∧Pus prog 160 [a0.av,b1.av] (.b res0):=by
  obtain ⟨v,hv,res0,hk,rfl⟩:=Pus.of (K:=fun v=>∃res0:Bool,K res0∧v = .b res0) hf rfl (w160_0 (σ:=sl0 [a0.av,b1.av]) (fun σ st   res0 H4 hk=>⟨.b res0,by simp only [pf160,ares,aresL,H4,ares1,Option.map_some],_,rfl,res0,hk,rfl⟩) rfl rfl h)
  exact ⟨res0,hk,hv⟩
abbrev H148 (Q:AE→Sl→St→Prop)(K:Bool→Prop):Prop:=∀(σ:Sl)(st:St)(res0:Bool),σ 4 = .b res0→K res0→Q .ret σ st
section
variable {prog:Prog}{d:Nat}{Q:AE→Sl→St→Prop}{K:Bool→Prop}(hQ:H148 Q K){σ:Sl}{st:St}
include hQ
end
end Go.AM

namespace Go.AM
open Go
set_option linter.unusedVariables false
set_option linter.unusedSimpArgs false
set_option maxRecDepth 4000
attribute [local irreducible] WO fillCells fillRows
def r185_0:List AI:=[oC 2 (.i .i64 0)]
def r185_1:List AI:=[oM 6 0,
 oO 7 (.len false (.t 6)),
 oB 8 .gtr (.t 7) (.c (.i .i64 410))]
def r185_2:List AI:=[oC 2 (.i .i64 4)]
def r185_3:List AI:=[oM 9 0,
 oO 10 (.len false (.t 9)),
 oC 11 (.i .i64 0)]
def r185_4:List AI:=[oB 12 .lss (.t 11) (.t 10)]
def r185_5:List AI:=[oO 13 (.iaL 7 (.t 9) (.t 11)),
 oO 14 (.load 7 true (.t 13)),
 oO 4 (.alloc [.i .u64 0,.i .u8 0,.i .i64 0,.s [],.sl .full [],.b false,.i .u64 0]),
 oS 7 4 14]
def r185_6:List AI:=[oO 15 (.load 7 true (.t 4)),
 oO 16 (.call false 158 [(.t 15)]),
 oM 5 16]
def r185_7:List AI:=[oM 17 5,
 oB 18 .neq (.t 17) (.c (.i .i64 0))]
def r185_8:List AI:=[oM 19 5,
 oM 2 19]
def r185_9:List AI:=[oB 20 .add (.t 11) (.c (.i .i64 1)),
 oM 11 20]
def r185_10:List AI:=[oC 2 (.i .i64 0)]
abbrev l185_0:AC:=(.seq (.reg 4 r185_4) (.seq (.cond (.t 12) .skip (.exit 0)) (.seq (.block 1 (.seq (.reg 5 r185_5) (.seq (.reg 6 r185_6) (.seq (.reg 7 r185_7) (.cond (.t 18) (.seq (.reg 8 r185_8) .ret) .skip))))) (.reg 9 r185_9))))
abbrev c185_1:AC:=(.seq (.reg 10 r185_10) .ret)
abbrev b185:AC:=(.seq (.reg 0 r185_0) (.seq (.seq (.reg 1 r185_1) (.cond (.t 8) (.seq (.reg 2 r185_2) .ret) .skip)) (.seq (.seq (.reg 3 r185_3) (.block 0 (.loop l185_0))) c185_1)))
def pf185:AF:={ nt:=21,res:=[.tmp 2],body:=b185 }
abbrev H185 (Q:AE→Sl→St→Prop)(K:Int→Prop):Prop:=∀(σ:Sl)(st:St)(res0:Int),σ 2 = .i .i64 res0→K res0→Q .ret σ st
abbrev I185_0 (prog:Prog)(d:Nat)(Q:AE→Sl→St→Prop)(t9:List Pan)(t10:Int)(t11:Int):Prop:=
  ∀(σ:Sl)(st:St)(o_t9:Own),σ 9 = .sl o_t9 (List.map Pan.row t9)→σ 10 = .i .i64 t10→σ 11 = .i .i64 t11→W prog d (.loop l185_0) σ st (blockW 0 (thenW prog d c185_1 Q))
def T185_2 (prog:Prog)(K:Int→Prop) :Prop:=
  K 0
def T185_1 (prog:Prog)(K:Int→Prop)(P0:Int→Prop)(t9:List Pan)(t10:Int)(t11:Int):Prop:=
  (t11 < t10→0≤t11∧∃c'2:Pan,t9[(t11).toNat]? = some c'2∧∃r'4:Int,Pus prog 158 [c'2.av] (.i .i64 r'4)∧(r'4≠0→K r'4)∧(¬(r'4≠0)→P0 (IntKind.i64.wrap (t11 + 1))))∧(¬(t11 < t10)→T185_2 prog K )
def T185_0 (prog:Prog)(K:Int→Prop)(l0:List Pan):Prop:=
  ((l0.length:Int) > 410→K 4)∧(¬((l0.length:Int) > 410)→∀P0:Int→Prop,(∀(t11:Int),T185_1 prog K P0 l0 (l0.length:Int) t11→P0 t11)→P0 0)
section
variable {prog:Prog}{d:Nat}{Q:AE→Sl→St→Prop}{K:Int→Prop}(hQ:H185 Q K){σ:Sl}{st:St}
include hQ
theorem w185_2 (h:T185_2 prog K ):W prog d c185_1 σ st Q:=
 q_ rfl (m_ (e_ (rt_ (hQ _ _ _ rfl h))))
theorem w185_1 {t9:List Pan}{t10 t11:Int}{P0:Int→Prop} (kP0 :∀(t11:Int),P0 t11→I185_0 prog d Q t9 t10 t11){o_t9:Own}(H9:σ 9 = .sl o_t9 (List.map Pan.row t9))(H10:σ 10 = .i .i64 t10)(H11:σ 11 = .i .i64 t11)(h:T185_1 prog K P0 t9 t10 t11):W prog d l185_0 σ st (thenW prog d (.loop l185_0) (blockW 0 (thenW prog d c185_1 Q))):=
 q_ rfl (b_ H11 H10 lss_ (e_ (sq_ (cs_ rfl (fun g'1=>sk_ (sq_ (bk_ (sq_ (W.reg ((h.1 g'1).2.elim fun c'2 e'3=>ia_ H9 H11 (h.1 g'1).1 e'3.1 (Pan.row_eq c'2) rfl (lf_ rfl rfl rfl (s_alloc (so_ rfl (show lk _ (d,20482) = some (_,([.i .u64 0,.i .u8 0,.i .i64 0,.s [],.sl .full (List.map Val.row ([]:List Val)),.b false,.i .u64 0]:List AV)) from lk_here) rfl rfl rfl (e_ (q_ rfl (l_ rfl lk_here rfl rfl (e'3.2.elim fun r'4 e'5=>ca_ (sc rfl rfl sn) e'5.1 (m_ (e_ (q_ rfl (m_ (b_ rfl rfl neq_ (e_ (cs_ rfl (fun g'6=>q_ rfl (m_ (m_ (e_ (rt_ (hQ _ _ _ rfl (e'5.2.1 g'6))))))) (fun g'6=>sk_ (W.reg0 rfl fun _ _=>b_ H11 rfl add_ (m_ (e_ (kP0 _ (e'5.2.2 g'6) _ _ _ H9 H10 rfl))))))))))))))))))))))))) (fun g'1=>ex_ (w185_2 hQ (h.2 g'1)))))))
theorem w185_0 {l0:List Pan}{o_l0:Own}(H0:σ 0 = .sl o_l0 (List.map Pan.row l0))(h:T185_0 prog K l0):W prog d (.seq (.reg 0 r185_0) (.seq (.seq (.reg 1 r185_1) (.cond (.t 8) (.seq (.reg 2 r185_2) .ret) .skip)) (.seq (.seq (.reg 3 r185_3) (.block 0 (.loop l185_0))) c185_1))) σ st Q:=
 q_ rfl (m_ (e_ (sq_ (q_ rfl (s_mvL H0 (ll_ rfl (b_ rfl rfl gtr_ (e_ (cs_ rfl (fun g'1=>q_ rfl (m_ (e_ (rt_ (hQ _ _ _ rfl (h.1 g'1)))))) (fun g'1=>sk_ (sq_ (q_ rfl (s_mvL H0 (ll_ rfl (m_ (e_ (bk_ ((h.2 g'1) (I185_0 prog d Q l0 (l0.length:Int)) (fun _ hb _ _ _ H9 H10 H11=>W.loop (w185_1 hQ (fun _ x=>x) H9 H10 H11 hb)) _ _ _ rfl rfl rfl))))))))))))))))))
end
theorem p185 {prog:Prog}(hf:prog.fn 185 = some pf185){l0:List Pan}{K:Int→Prop}(h:T185_0 prog K l0) :∃res0:Int,K res0∧Pus prog 185 [.sl .ext (List.map Pan.row l0)] (.i .i64 res0):=by
  obtain ⟨v,hv,res0,hk,rfl⟩:=Pus.of (K:=fun v=>∃res0:Int,K res0∧v = .i .i64 res0) hf rfl (w185_0 (σ:=sl0 [.sl .ext (List.map Pan.row l0)]) (fun σ st   res0 H2 hk=>⟨.i .i64 res0,by simp only [pf185,ares,aresL,H2,ares1,Option.map_some],_,rfl,res0,hk,rfl⟩) rfl h)
  exact ⟨res0,hk,hv⟩
def r163_0:List AI:=[oC 2 (.i .i64 0)]
def r163_1:List AI:=[oM 5 0,
 oO 6 (.len false (.t 5)),
 oB 7 .gtr (.t 6) (.c (.i .i64 410))]
def r163_2:List AI:=[oC 2 (.i .i64 4)]
def r163_3:List AI:=[oC 3 (.i .i64 0)]
def r163_4:List AI:=[oM 8 3,
 oM 9 0,
 oO 10 (.len false (.t 9)),
 oB 11 .lss (.t 8) (.t 10)]
def r163_5:List AI:=[oM 14 0,
 oM 15 3,
 oO 16 (.iaL 7 (.t 14) (.t 15)),
 oO 17 (.load 7 true (.t 16)),
 oO 18 (.call false 159 [(.t 17)]),
 oM 4 18]
def r163_6:List AI:=[oM 19 4,
 oB 20 .neq (.t 19) (.c (.i .i64 0))]
def r163_7:List AI:=[oM 21 4,
 oM 2 21]
def r163_8:List AI:=[oM 12 3,
 oB 13 .add (.t 12) (.c (.i .i64 1)),
 oM 3 13]
def r163_9:List AI:=[oC 2 (.i .i64 0)]
abbrev l163_0:AC:=(.seq (.seq (.reg 4 r163_4) (.cond (.t 11) .skip (.exit 0))) (.seq (.block 1 (.seq (.reg 6 r163_5) (.seq (.reg 7 r163_6) (.cond (.t 20) (.seq (.reg 8 r163_7) .ret) .skip)))) (.reg 5 r163_8)))
abbrev c163_1:AC:=(.seq (.reg 9 r163_9) .ret)
abbrev b163:AC:=(.seq (.reg 0 r163_0) (.seq (.seq (.reg 1 r163_1) (.cond (.t 7) (.seq (.reg 2 r163_2) .ret) .skip)) (.seq (.seq (.reg 3 r163_3) (.block 0 (.loop l163_0))) c163_1)))
def pf163:AF:={ nt:=22,res:=[.tmp 2],body:=b163 }
abbrev H163 (Q:AE→Sl→St→Prop)(K:Int→Prop):Prop:=∀(σ:Sl)(st:St)(res0:Int),σ 2 = .i .i64 res0→K res0→Q .ret σ st
abbrev I163_0 (prog:Prog)(d:Nat)(Q:AE→Sl→St→Prop)(l0:List Pan)(i3:Int):Prop:=
  ∀(σ:Sl)(st:St)(o_l0:Own),σ 0 = .sl o_l0 (List.map Pan.row l0)→σ 3 = .i .i64 i3→W prog d (.loop l163_0) σ st (blockW 0 (thenW prog d c163_1 Q))
def T163_2 (prog:Prog)(K:Int→Prop) :Prop:=
  K 0
def T163_1 (prog:Prog)(K:Int→Prop)(P0:Int→Prop)(l0:List Pan)(i3:Int):Prop:=
  (i3 < (l0.length:Int)→0≤i3∧∃c'2:Pan,l0[(i3).toNat]? = some c'2∧∃r'4:Int,Pus prog 159 [c'2.av] (.i .i64 r'4)∧(r'4≠0→K r'4)∧(¬(r'4≠0)→P0 (IntKind.i64.wrap (i3 + 1))))∧(¬(i3 < (l0.length:Int))→T163_2 prog K )
def T163_0 (prog:Prog)(K:Int→Prop)(l0:List Pan):Prop:=
  ((l0.length:Int) > 410→K 4)∧(¬((l0.length:Int) > 410)→∀P0:Int→Prop,(∀(i3:Int),T163_1 prog K P0 l0 i3→P0 i3)→P0 0)
section
variable {prog:Prog}{d:Nat}{Q:AE→Sl→St→Prop}{K:Int→Prop}(hQ:H163 Q K){σ:Sl}{st:St}
include hQ
theorem w163_2 (h:T163_2 prog K ):W prog d c163_1 σ st Q:=
 q_ rfl (m_ (e_ (rt_ (hQ _ _ _ rfl h))))
theorem w163_1 {l0:List Pan}{i3:Int}{P0:Int→Prop} (kP0 :∀(i3:Int),P0 i3→I163_0 prog d Q l0 i3){o_l0:Own}(H0:σ 0 = .sl o_l0 (List.map Pan.row l0))(H3:σ 3 = .i .i64 i3)(h:T163_1 prog K P0 l0 i3):W prog d l163_0 σ st (thenW prog d (.loop l163_0) (blockW 0 (thenW prog d c163_1 Q))):=
 sq_ (q_ rfl (m_ (s_mvL H0 (ll_ rfl (b_ H3 rfl lss_ (e_ (cs_ rfl (fun g'1=>sk_ (sq_ (bk_ (q_ rfl (s_mvL H0 (m_ ((h.1 g'1).2.elim fun c'2 e'3=>ia_ rfl H3 (h.1 g'1).1 e'3.1 (Pan.row_eq c'2) rfl (lf_ rfl rfl rfl (e'3.2.elim fun r'4 e'5=>ca_ (sc rfl rfl sn) e'5.1 (m_ (e_ (q_ rfl (m_ (b_ rfl rfl neq_ (e_ (cs_ rfl (fun g'6=>q_ rfl (m_ (m_ (e_ (rt_ (hQ _ _ _ rfl (e'5.2.1 g'6))))))) (fun g'6=>sk_ (W.reg0 rfl fun _ _=>m_ (b_ H3 rfl add_ (m_ (e_ (kP0 _ (e'5.2.2 g'6) _ _ _ H0 rfl)))))))))))))))))))))) (fun g'1=>ex_ (w163_2 hQ (h.2 g'1))))))))))
theorem w163_0 {l0:List Pan}{o_l0:Own}(H0:σ 0 = .sl o_l0 (List.map Pan.row l0))(h:T163_0 prog K l0):W prog d (.seq (.reg 0 r163_0) (.seq (.seq (.reg 1 r163_1) (.cond (.t 7) (.seq (.reg 2 r163_2) .ret) .skip)) (.seq (.seq (.reg 3 r163_3) (.block 0 (.loop l163_0))) c163_1))) σ st Q:=
 q_ rfl (m_ (e_ (sq_ (q_ rfl (s_mvL H0 (ll_ rfl (b_ rfl rfl gtr_ (e_ (cs_ rfl (fun g'1=>q_ rfl (m_ (e_ (rt_ (hQ _ _ _ rfl (h.1 g'1)))))) (fun g'1=>sk_ (sq_ (q_ rfl (m_ (e_ (bk_ ((h.2 g'1) (I163_0 prog d Q l0) (fun _ hb _ _ _ H0 H3=>W.loop (w163_1 hQ (fun _ x=>x) H0 H3 hb)) _ _ _ H0 rfl))))))))))))))))
end
theorem p163 {prog:Prog}(hf:prog.fn 163 = some pf163){l0:List Pan}{K:Int→Prop}(h:T163_0 prog K l0) :∃res0:Int,K res0∧Pus prog 163 [.sl .ext (List.map Pan.row l0)] (.i .i64 res0):=by
  obtain ⟨v,hv,res0,hk,rfl⟩:=Pus.of (K:=fun v=>∃res0:Int,K res0∧v = .i .i64 res0) hf rfl (w163_0 (σ:=sl0 [.sl .ext (List.map Pan.row l0)]) (fun σ st   res0 H2 hk=>⟨.i .i64 res0,by simp only [pf163,ares,aresL,H2,ares1,Option.map_some],_,rfl,res0,hk,rfl⟩) rfl h)
  exact ⟨res0,hk,hv⟩
def r165_0:List AI:=[oC 2 (.i .i64 0),
 oC 3 (.i .i64 0)]
def r165_1:List AI:=[oM 7 0,
 oO 8 (.call false 185 [(.t 7)]),
 oM 4 8]
def r165_2:List AI:=[oM 9 4,
 oB 10 .neq (.t 9) (.c (.i .i64 0))]
def r165_3:List AI:=[oM 11 4,
 oC 2 (.i .i64 0),
 oM 3 11]
def r165_4:List AI:=[oM 12 0,
 oO 13 (.len false (.t 12)),
 oC 14 (.i .i64 0)]
def r165_5:List AI:=[oB 15 .lss (.t 14) (.t 13)]
def r165_6:List AI:=[oM 16 14,
 oO 17 (.iaL 7 (.t 12) (.t 14)),
 oO 18 (.load 7 true (.t 17)),
 oO 6 (.alloc [.i .u64 0,.i .u8 0,.i .i64 0,.s [],.sl .full [],.b false,.i .u64 0]),
 oM 5 16,
 oS 7 6 18]
def r165_7:List AI:=[oF 19 6 6,
 oL 20 19,
 oB 21 .eql (.t 20) (.c (.i .u64 0))]
def r165_8:List AI:=[oM 22 5,
 oM 2 22,
 oC 3 (.i .i64 0)]
def r165_9:List AI:=[oB 23 .add (.t 14) (.c (.i .i64 1)),
 oM 14 23]
def r165_10:List AI:=[oC 2 (.i .i64 0),
 oC 3 (.i .i64 6)]
abbrev l165_0:AC:=(.seq (.reg 5 r165_5) (.seq (.cond (.t 15) .skip (.exit 0)) (.seq (.block 1 (.seq (.reg 6 r165_6) (.seq (.reg 7 r165_7) (.cond (.t 21) (.seq (.reg 8 r165_8) .ret) .skip)))) (.reg 9 r165_9))))
abbrev c165_1:AC:=(.seq (.reg 10 r165_10) .ret)
abbrev b165:AC:=(.seq (.reg 0 r165_0) (.seq (.seq (.reg 1 r165_1) (.seq (.reg 2 r165_2) (.cond (.t 10) (.seq (.reg 3 r165_3) .ret) .skip))) (.seq (.seq (.reg 4 r165_4) (.block 0 (.loop l165_0))) c165_1)))
def pf165:AF:={ nt:=24,res:=[.tmp 2,.tmp 3],body:=b165 }
abbrev H165 (Q:AE→Sl→St→Prop)(K:Int→Int→Prop):Prop:=∀(σ:Sl)(st:St)(res0:Int)(res1:Int),σ 2 = .i .i64 res0→σ 3 = .i .i64 res1→K res0 res1→Q .ret σ st
abbrev I165_0 (prog:Prog)(d:Nat)(Q:AE→Sl→St→Prop)(t12:List Pan)(t13:Int)(t14:Int):Prop:=
  ∀(σ:Sl)(st:St)(o_t12:Own),σ 12 = .sl o_t12 (List.map Pan.row t12)→σ 13 = .i .i64 t13→σ 14 = .i .i64 t14→W prog d (.loop l165_0) σ st (blockW 0 (thenW prog d c165_1 Q))
def T165_2 (prog:Prog)(K:Int→Int→Prop) :Prop:=
  K 0 6
def T165_1 (prog:Prog)(K:Int→Int→Prop)(P0:Int→Prop)(t12:List Pan)(t13:Int)(t14:Int):Prop:=
  (t14 < t13→0≤t14∧∃c'2:Pan,t12[(t14).toNat]? = some c'2∧(c'2.flags = 0→K t14 0)∧(¬(c'2.flags = 0)→P0 (IntKind.i64.wrap (t14 + 1))))∧(¬(t14 < t13)→T165_2 prog K )
def T165_0 (prog:Prog)(K:Int→Int→Prop)(l0:List Pan):Prop:=
  ∃r'1:Int,Pus prog 185 [.sl .ext (List.map Pan.row l0)] (.i .i64 r'1)∧(r'1≠0→K 0 r'1)∧(¬(r'1≠0)→∀P0:Int→Prop,(∀(t14:Int),T165_1 prog K P0 l0 (l0.length:Int) t14→P0 t14)→P0 0)
section
variable {prog:Prog}{d:Nat}{Q:AE→Sl→St→Prop}{K:Int→Int→Prop}(hQ:H165 Q K){σ:Sl}{st:St}
include hQ
theorem w165_2 (h:T165_2 prog K ):W prog d c165_1 σ st Q:=
 q_ rfl (m_ (m_ (e_ (rt_ (hQ _ _ _ _ rfl rfl h)))))
theorem w165_1 {t12:List Pan}{t13 t14:Int}{P0:Int→Prop} (kP0 :∀(t14:Int),P0 t14→I165_0 prog d Q t12 t13 t14){o_t12:Own}(H12:σ 12 = .sl o_t12 (List.map Pan.row t12))(H13:σ 13 = .i .i64 t13)(H14:σ 14 = .i .i64 t14)(h:T165_1 prog K P0 t12 t13 t14):W prog d l165_0 σ st (thenW prog d (.loop l165_0) (blockW 0 (thenW prog d c165_1 Q))):=
 q_ rfl (b_ H14 H13 lss_ (e_ (sq_ (cs_ rfl (fun g'1=>sk_ (sq_ (bk_ (sq_ (W.reg (m_ ((h.1 g'1).2.elim fun c'2 e'3=>ia_ H12 H14 (h.1 g'1).1 e'3.1 (Pan.row_eq c'2) rfl (lf_ rfl rfl rfl (s_alloc (m_ (so_ rfl (show lk _ (d,24579) = some (_,([.i .u64 0,.i .u8 0,.i .i64 0,.s [],.sl .full (List.map Val.row ([]:List Val)),.b false,.i .u64 0]:List AV)) from lk_here) rfl rfl rfl (e_ (q_ rfl (f_ rfl (l_ rfl lk_here rfl rfl (b_ rfl rfl eql_ (e_ (cs_ rfl (fun g'4=>q_ rfl (m_ (m_ (m_ (e_ (rt_ (hQ _ _ _ _ H14 rfl (e'3.2.1 g'4)))))))) (fun g'4=>sk_ (W.reg0 rfl fun _ _=>b_ H14 rfl add_ (m_ (e_ (kP0 _ (e'3.2.2 g'4) _ _ _ H12 H13 rfl))))))))))))))))))))))) (fun g'1=>ex_ (w165_2 hQ (h.2 g'1)))))))
theorem w165_0 {l0:List Pan}{o_l0:Own}(H0:σ 0 = .sl o_l0 (List.map Pan.row l0))(h:T165_0 prog K l0):W prog d (.seq (.reg 0 r165_0) (.seq (.seq (.reg 1 r165_1) (.seq (.reg 2 r165_2) (.cond (.t 10) (.seq (.reg 3 r165_3) .ret) .skip))) (.seq (.seq (.reg 4 r165_4) (.block 0 (.loop l165_0))) c165_1))) σ st Q:=
 q_ rfl (m_ (m_ (e_ (sq_ (q_ rfl (s_mvL H0 (h.elim fun r'1 e'2=>ca_ (sc rfl rfl sn) e'2.1 (m_ (e_ (q_ rfl (m_ (b_ rfl rfl neq_ (e_ (cs_ rfl (fun g'3=>q_ rfl (m_ (m_ (m_ (e_ (rt_ (hQ _ _ _ _ rfl rfl (e'2.2.1 g'3)))))))) (fun g'3=>sk_ (sq_ (q_ rfl (s_mvL H0 (ll_ rfl (m_ (e_ (bk_ ((e'2.2.2 g'3) (I165_0 prog d Q l0 (l0.length:Int)) (fun _ hb _ _ _ H12 H13 H14=>W.loop (w165_1 hQ (fun _ x=>x) H12 H13 H14 hb)) _ _ _ rfl rfl rfl)))))))))))))))))))))))
end
theorem p165 {prog:Prog}(hf:prog.fn 165 = some pf165){l0:List Pan}{K:Int→Int→Prop}(h:T165_0 prog K l0) :∃res0:Int,∃res1:Int,K res0 res1∧Pus prog 165 [.sl .ext (List.map Pan.row l0)] (.tup [.i .i64 res0,.i .i64 res1]):=by
  obtain ⟨v,hv,res0,res1,hk,rfl⟩:=Pus.of (K:=fun v=>∃res0:Int,∃res1:Int,K res0 res1∧v = .tup [.i .i64 res0,.i .i64 res1]) hf rfl (w165_0 (σ:=sl0 [.sl .ext (List.map Pan.row l0)]) (fun σ st   res0 res1 H2 H3 hk=>⟨.tup [.i .i64 res0,.i .i64 res1],by simp only [pf165,ares,aresL,H2,H3,ares1,Option.map_some],_,rfl,res0,res1,hk,rfl⟩) rfl h)
  exact ⟨res0,res1,hk,hv⟩
def r169_0:List AI:=[oC 2 (.i .i64 0),
 oC 3 (.i .i64 0)]
def r169_1:List AI:=[oM 6 0,
 oO 7 (.call false 163 [(.t 6)]),
 oM 4 7]
def r169_2:List AI:=[oM 8 4,
 oB 9 .neq (.t 8) (.c (.i .i64 0))]
def r169_3:List AI:=[oM 10 4,
 oC 2 (.i .i64 0),
 oM 3 10]
def r169_4:List AI:=[oC 5 (.i .i64 0)]
def r169_5:List AI:=[oM 11 5,
 oM 12 0,
 oO 13 (.len false (.t 12)),
 oB 14 .lss (.t 11) (.t 13)]
def r169_6:List AI:=[oM 17 0,
 oM 18 5,
 oO 19 (.iaL 7 (.t 17) (.t 18)),
 oF 20 6 19,
 oL 21 20,
 oB 22 .eql (.t 21) (.c (.i .u64 0))]
def r169_7:List AI:=[oM 23 5,
 oM 2 23,
 oC 3 (.i .i64 0)]
def r169_8:List AI:=[oM 15 5,
 oB 16 .add (.t 15) (.c (.i .i64 1)),
 oM 5 16]
def r169_9:List AI:=[oC 2 (.i .i64 0),
 oC 3 (.i .i64 6)]
abbrev l169_0:AC:=(.seq (.seq (.reg 5 r169_5) (.cond (.t 14) .skip (.exit 0))) (.seq (.block 1 (.seq (.reg 7 r169_6) (.cond (.t 22) (.seq (.reg 8 r169_7) .ret) .skip))) (.reg 6 r169_8)))
abbrev c169_1:AC:=(.seq (.reg 9 r169_9) .ret)
abbrev b169:AC:=(.seq (.reg 0 r169_0) (.seq (.seq (.reg 1 r169_1) (.seq (.reg 2 r169_2) (.cond (.t 9) (.seq (.reg 3 r169_3) .ret) .skip))) (.seq (.seq (.reg 4 r169_4) (.block 0 (.loop l169_0))) c169_1)))
def pf169:AF:={ nt:=24,res:=[.tmp 2,.tmp 3],body:=b169 }
abbrev H169 (Q:AE→Sl→St→Prop)(K:Int→Int→Prop):Prop:=∀(σ:Sl)(st:St)(res0:Int)(res1:Int),σ 2 = .i .i64 res0→σ 3 = .i .i64 res1→K res0 res1→Q .ret σ st
abbrev I169_0 (prog:Prog)(d:Nat)(Q:AE→Sl→St→Prop)(l0:List Pan)(i5:Int):Prop:=
  ∀(σ:Sl)(st:St)(o_l0:Own),σ 0 = .sl o_l0 (List.map Pan.row l0)→σ 5 = .i .i64 i5→W prog d (.loop l169_0) σ st (blockW 0 (thenW prog d c169_1 Q))
def T169_2 (prog:Prog)(K:Int→Int→Prop) :Prop:=
  K 0 6
def T169_1 (prog:Prog)(K:Int→Int→Prop)(P0:Int→Prop)(l0:List Pan)(i5:Int):Prop:=
  (i5 < (l0.length:Int)→0≤i5∧∃c'2:Pan,l0[(i5).toNat]? = some c'2∧(c'2.flags = 0→K i5 0)∧(¬(c'2.flags = 0)→P0 (IntKind.i64.wrap (i5 + 1))))∧(¬(i5 < (l0.length:Int))→T169_2 prog K )
def T169_0 (prog:Prog)(K:Int→Int→Prop)(l0:List Pan):Prop:=
  ∃r'1:Int,Pus prog 163 [.sl .ext (List.map Pan.row l0)] (.i .i64 r'1)∧(r'1≠0→K 0 r'1)∧(¬(r'1≠0)→∀P0:Int→Prop,(∀(i5:Int),T169_1 prog K P0 l0 i5→P0 i5)→P0 0)
section
variable {prog:Prog}{d:Nat}{Q:AE→Sl→St→Prop}{K:Int→Int→Prop}(hQ:H169 Q K){σ:Sl}{st:St}
include hQ
theorem w169_2 (h:T169_2 prog K ):W prog d c169_1 σ st Q:=
 q_ rfl (m_ (m_ (e_ (rt_ (hQ _ _ _ _ rfl rfl h)))))
theorem w169_1 {l0:List Pan}{i5:Int}{P0:Int→Prop} (kP0 :∀(i5:Int),P0 i5→I169_0 prog d Q l0 i5){o_l0:Own}(H0:σ 0 = .sl o_l0 (List.map Pan.row l0))(H5:σ 5 = .i .i64 i5)(h:T169_1 prog K P0 l0 i5):W prog d l169_0 σ st (thenW prog d (.loop l169_0) (blockW 0 (thenW prog d c169_1 Q))):=
 sq_ (q_ rfl (m_ (s_mvL H0 (ll_ rfl (b_ H5 rfl lss_ (e_ (cs_ rfl (fun g'1=>sk_ (sq_ (bk_ (q_ rfl (s_mvL H0 (m_ ((h.1 g'1).2.elim fun c'2 e'3=>ia_ rfl H5 (h.1 g'1).1 e'3.1 (Pan.row_eq c'2) rfl (ff_ rfl (lf_ rfl rfl rfl (b_ rfl rfl eql_ (e_ (cs_ rfl (fun g'4=>q_ rfl (m_ (m_ (m_ (e_ (rt_ (hQ _ _ _ _ H5 rfl (e'3.2.1 g'4)))))))) (fun g'4=>sk_ (W.reg0 rfl fun _ _=>m_ (b_ H5 rfl add_ (m_ (e_ (kP0 _ (e'3.2.2 g'4) _ _ _ H0 rfl)))))))))))))))))) (fun g'1=>ex_ (w169_2 hQ (h.2 g'1))))))))))
theorem w169_0 {l0:List Pan}{o_l0:Own}(H0:σ 0 = .sl o_l0 (List.map Pan.row l0))(h:T169_0 prog K l0):W prog d (.seq (.reg 0 r169_0) (.seq (.seq (.reg 1 r169_1) (.seq (.reg 2 r169_2) (.cond (.t 9) (.seq (.reg 3 r169_3) .ret) .skip))) (.seq (.seq (.reg 4 r169_4) (.block 0 (.loop l169_0))) c169_1))) σ st Q:=
 q_ rfl (m_ (m_ (e_ (sq_ (q_ rfl (s_mvL H0 (h.elim fun r'1 e'2=>ca_ (sc rfl rfl sn) e'2.1 (m_ (e_ (q_ rfl (m_ (b_ rfl rfl neq_ (e_ (cs_ rfl (fun g'3=>q_ rfl (m_ (m_ (m_ (e_ (rt_ (hQ _ _ _ _ rfl rfl (e'2.2.1 g'3)))))))) (fun g'3=>sk_ (sq_ (q_ rfl (m_ (e_ (bk_ ((e'2.2.2 g'3) (I169_0 prog d Q l0) (fun _ hb _ _ _ H0 H5=>W.loop (w169_1 hQ (fun _ x=>x) H0 H5 hb)) _ _ _ H0 rfl)))))))))))))))))))))
end
theorem p169 {prog:Prog}(hf:prog.fn 169 = some pf169){l0:List Pan}{K:Int→Int→Prop}(h:T169_0 prog K l0) :∃res0:Int,∃res1:Int,K res0 res1∧Pus prog 169 [.sl .ext (List.map Pan.row l0)] (.tup [.i .i64 res0,.i .i64 res1]):=by
  obtain ⟨v,hv,res0,res1,hk,rfl⟩:=Pus.of (K:=fun v=>∃res0:Int,∃res1:Int,K res0 res1∧v = .tup [.i .i64 res0,.i .i64 res1]) hf rfl (w169_0 (σ:=sl0 [.sl .ext (List.map Pan.row l0)]) (fun σ st   res0 res1 H2 H3 hk=>⟨.tup [.i .i64 res0,.i .i64 res1],by simp only [pf169,ares,aresL,H2,H3,ares1,Option.map_some],_,rfl,res0,res1,hk,rfl⟩) rfl h)
  exact ⟨res0,res1,hk,hv⟩
def r170_0:List AI:=[oC 4 (.b false)]
def r170_1:List AI:=[oM 6 0,
 oO 7 (.len false (.t 6)),
 oM 8 1,
 oO 9 (.len false (.t 8)),
 oB 10 .neq (.t 7) (.t 9)]
def r170_2:List AI:=[oC 4 (.b false)]
def r170_3:List AI:=[oC 5 (.i .i64 0)]
def r170_4:List AI:=[oM 11 5,
 oM 12 0,
 oO 13 (.len false (.t 12)),
 oB 14 .lss (.t 11) (.t 13)]
def r170_5:List AI:=[oM 17 0,
 oM 18 5,
 oO 19 (.iaL 7 (.t 17) (.t 18)),
 oO 20 (.load 7 true (.t 19)),
 oM 21 1,
 oM 22 5,
 oO 23 (.iaL 7 (.t 21) (.t 22)),
 oO 24 (.load 7 true (.t 23)),
 oO 25 (.call false 160 [(.t 20),(.t 24)]),
 oO 26 (.un .not (.t 25))]
def r170_6:List AI:=[oC 4 (.b false)]
def r170_7:List AI:=[oM 15 5,
 oB 16 .add (.t 15) (.c (.i .i64 1)),
 oM 5 16]
def r170_8:List AI:=[oC 4 (.b true)]
abbrev l170_0:AC:=(.seq (.seq (.reg 4 r170_4) (.cond (.t 14) .skip (.exit 0))) (.seq (.block 1 (.seq (.reg 6 r170_5) (.cond (.t 26) (.seq (.reg 7 r170_6) .ret) .skip))) (.reg 5 r170_7)))
abbrev c170_1:AC:=(.seq (.reg 8 r170_8) .ret)
abbrev b170:AC:=(.seq (.reg 0 r170_0) (.seq (.seq (.reg 1 r170_1) (.cond (.t 10) (.seq (.reg 2 r170_2) .ret) .skip)) (.seq (.seq (.reg 3 r170_3) (.block 0 (.loop l170_0))) c170_1)))
def pf170:AF:={ nt:=27,res:=[.tmp 4],body:=b170 }
abbrev H170 (Q:AE→Sl→St→Prop)(K:Bool→Prop):Prop:=∀(σ:Sl)(st:St)(res0:Bool),σ 4 = .b res0→K res0→Q .ret σ st
abbrev I170_0 (prog:Prog)(d:Nat)(Q:AE→Sl→St→Prop)(a0:List Pan)(b1:List Pan)(i5:Int):Prop:=
  ∀(σ:Sl)(st:St) (o_a0 o_b1:Own),σ 0 = .sl o_a0 (List.map Pan.row a0)→σ 1 = .sl o_b1 (List.map Pan.row b1)→σ 5 = .i .i64 i5→W prog d (.loop l170_0) σ st (blockW 0 (thenW prog d c170_1 Q))
def T170_2 (prog:Prog)(K:Bool→Prop) :Prop:=
  K true
def T170_1 (prog:Prog)(K:Bool→Prop)(P0:Int→Prop)(a0:List Pan)(b1:List Pan)(i5:Int):Prop:=
  (i5 < (a0.length:Int)→0≤i5∧∃c'2:Pan,a0[(i5).toNat]? = some c'2∧0≤i5∧∃c'4:Pan,b1[(i5).toNat]? = some c'4∧∃r'6:Bool,Pus prog 160 [c'2.av,c'4.av] (.b r'6)∧((!r'6) = true→K false)∧((!r'6) = false→P0 (IntKind.i64.wrap (i5 + 1))))∧(¬(i5 < (a0.length:Int))→T170_2 prog K )
def T170_0 (prog:Prog)(K:Bool→Prop)(a0:List Pan)(b1:List Pan):Prop:=
  ((a0.length:Int)≠(b1.length:Int)→K false)∧(¬((a0.length:Int)≠(b1.length:Int))→∀P0:Int→Prop,(∀(i5:Int),T170_1 prog K P0 a0 b1 i5→P0 i5)→P0 0)
section
variable {prog:Prog}{d:Nat}{Q:AE→Sl→St→Prop}{K:Bool→Prop}(hQ:H170 Q K){σ:Sl}{st:St}
include hQ
theorem w170_2 (h:T170_2 prog K ):W prog d c170_1 σ st Q:=
 q_ rfl (m_ (e_ (rt_ (hQ _ _ _ rfl h))))
theorem w170_1 {a0 b1:List Pan}{i5:Int}{P0:Int→Prop} (kP0 :∀(i5:Int),P0 i5→I170_0 prog d Q a0 b1 i5){o_a0 o_b1:Own}(H0:σ 0 = .sl o_a0 (List.map Pan.row a0))(H1:σ 1 = .sl o_b1 (List.map Pan.row b1))(H5:σ 5 = .i .i64 i5)(h:T170_1 prog K P0 a0 b1 i5):W prog d l170_0 σ st (thenW prog d (.loop l170_0) (blockW 0 (thenW prog d c170_1 Q))):=
 sq_ (q_ rfl (m_ (s_mvL H0 (ll_ rfl (b_ H5 rfl lss_ (e_ (cs_ rfl (fun g'1=>sk_ (sq_ (bk_ (q_ rfl (s_mvL H0 (m_ ((h.1 g'1).2.elim fun c'2 e'3=>ia_ rfl H5 (h.1 g'1).1 e'3.1 (Pan.row_eq c'2) rfl (lf_ rfl rfl rfl (s_mvL H1 (m_ (e'3.2.2.elim fun c'4 e'5=>ia_ rfl H5 e'3.2.1 e'5.1 (Pan.row_eq c'4) rfl (lf_ rfl rfl rfl (e'5.2.elim fun r'6 e'7=>ca_ (sc rfl rfl (sc rfl rfl sn)) e'7.1 (nt_ rfl (e_ (cb_ rfl (fun g'8=>q_ rfl (m_ (e_ (rt_ (hQ _ _ _ rfl (e'7.2.1 g'8)))))) (fun g'8=>sk_ (W.reg0 rfl fun _ _=>m_ (b_ H5 rfl add_ (m_ (e_ (kP0 _ (e'7.2.2 g'8) _ _ _ _ H0 H1 rfl)))))))))))))))))))))) (fun g'1=>ex_ (w170_2 hQ (h.2 g'1))))))))))
theorem w170_0 {a0 b1:List Pan}{o_a0 o_b1:Own}(H0:σ 0 = .sl o_a0 (List.map Pan.row a0))(H1:σ 1 = .sl o_b1 (List.map Pan.row b1))(h:T170_0 prog K a0 b1):W prog d (.seq (.reg 0 r170_0) (.seq (.seq (.reg 1 r170_1) (.cond (.t 10) (.seq (.reg 2 r170_2) .ret) .skip)) (.seq (.seq (.reg 3 r170_3) (.block 0 (.loop l170_0))) c170_1))) σ st Q:=
 q_ rfl (m_ (e_ (sq_ (q_ rfl (s_mvL H0 (ll_ rfl (s_mvL H1 (ll_ rfl (b_ rfl rfl neq_ (e_ (cs_ rfl (fun g'1=>q_ rfl (m_ (e_ (rt_ (hQ _ _ _ rfl (h.1 g'1)))))) (fun g'1=>sk_ (sq_ (q_ rfl (m_ (e_ (bk_ ((h.2 g'1) (I170_0 prog d Q a0 b1) (fun _ hb _ _ _ _ H0 H1 H5=>W.loop (w170_1 hQ (fun _ x=>x) H0 H1 H5 hb)) _ _ _ _ H0 H1 rfl))))))))))))))))))
end
theorem p170 {prog:Prog}(hf:prog.fn 170 = some pf170){a0:List Pan}{b1:List Pan}{K:Bool→Prop}(h:T170_0 prog K a0 b1) :∃res0:Bool,K res0∧Pus prog 170 [.sl .ext (List.map Pan.row a0),.sl .ext (List.map Pan.row b1)] (.b res0):=by
  obtain ⟨v,hv,res0,hk,rfl⟩:=Pus.of (K:=fun v=>∃res0:Bool,K res0∧v = .b res0) hf rfl (w170_0 (σ:=sl0 [.sl .ext (List.map Pan.row a0),.sl .ext (List.map Pan.row b1)]) (fun σ st   res0 H4 hk=>⟨.b res0,by simp only [pf170,ares,aresL,H4,ares1,Option.map_some],_,rfl,res0,hk,rfl⟩) rfl rfl h)
  exact ⟨res0,hk,hv⟩
def r162_0:List AI:=[oC 2 (.b false)]
def r162_1:List AI:=[oM 4 0,
 oO 5 (.len false (.t 4)),
 oB 6 .gtr (.t 5) (.c (.i .i64 20)),
 oM 7 6,
 oG 8 (.mv (.t 0)) 7 true,
 oG 9 (.len false (.t 8)) 7 true,
 oG 10 (.bin .leq (.t 9) (.c (.i .i64 410))) 7 true,
 oO 11 (.pick (.t 7) (.t 10) (.c (.b false))),
 oM 12 11,
 oG 13 (.mv (.t 0)) 12 false,
 oG 14 (.len false (.t 13)) 12 false,
 oG 15 (.bin .gtr (.t 14) (.c (.i .i64 420))) 12 false,
 oO 16 (.pick (.t 12) (.c (.b true)) (.t 15))]
def r162_2:List AI:=[oC 2 (.b true)]
def r162_3:List AI:=[oC 3 (.i .i64 0)]
def r162_4:List AI:=[oM 17 3,
 oM 18 0,
 oO 19 (.len false (.t 18)),
 oB 20 .lss (.t 17) (.t 19)]
def r162_5:List AI:=[oM 23 0,
 oM 24 3,
 oO 25 (.iaL 7 (.t 23) (.t 24)),
 oF 26 1 25,
 oO 27 (.load 5 true (.t 26)),
 oO 28 (.call false 71 [(.t 27)])]
def r162_6:List AI:=[oC 2 (.b true)]
def r162_7:List AI:=[oM 21 3,
 oB 22 .add (.t 21) (.c (.i .i64 1)),
 oM 3 22]
def r162_8:List AI:=[oC 2 (.b false)]
abbrev l162_0:AC:=(.seq (.seq (.reg 4 r162_4) (.cond (.t 20) .skip (.exit 0))) (.seq (.block 1 (.seq (.reg 6 r162_5) (.cond (.t 28) (.seq (.reg 7 r162_6) .ret) .skip))) (.reg 5 r162_7)))
abbrev c162_1:AC:=(.seq (.reg 8 r162_8) .ret)
abbrev c162_2:AC:=(.seq (.seq (.reg 3 r162_3) (.block 0 (.loop l162_0))) c162_1)
abbrev b162:AC:=(.seq (.reg 0 r162_0) (.seq (.seq (.reg 1 r162_1) (.cond (.t 16) (.seq (.reg 2 r162_2) .ret) .skip)) c162_2))
def pf162:AF:={ nt:=29,res:=[.tmp 2],body:=b162 }
abbrev H162 (Q:AE→Sl→St→Prop)(K:Bool→Prop):Prop:=∀(σ:Sl)(st:St)(res0:Bool),σ 2 = .b res0→K res0→Q .ret σ st
abbrev I162_0 (prog:Prog)(d:Nat)(Q:AE→Sl→St→Prop)(l0:List Pan)(i3:Int):Prop:=
  ∀(σ:Sl)(st:St)(o_l0:Own),σ 0 = .sl o_l0 (List.map Pan.row l0)→σ 3 = .i .i64 i3→W prog d (.loop l162_0) σ st (blockW 0 (thenW prog d c162_1 Q))
def T162_3 (prog:Prog)(K:Bool→Prop) :Prop:=
  K false
def T162_2 (prog:Prog)(K:Bool→Prop)(P0:Int→Prop)(l0:List Pan)(i3:Int):Prop:=
  (i3 < (l0.length:Int)→0≤i3∧∃c'2:Pan,l0[(i3).toNat]? = some c'2∧∃r'4:Bool,Pus prog 71 [c'2.value.av] (.b r'4)∧(r'4 = true→K true)∧(r'4 = false→P0 (IntKind.i64.wrap (i3 + 1))))∧(¬(i3 < (l0.length:Int))→T162_3 prog K )
def T162_1 (prog:Prog)(K:Bool→Prop)(l0:List Pan):Prop:=
  ∀P0:Int→Prop,(∀(i3:Int),T162_2 prog K P0 l0 i3→P0 i3)→P0 0
def T162_0 (prog:Prog)(K:Bool→Prop)(l0:List Pan):Prop:=
  ((l0.length:Int) > 20→((l0.length:Int)≤410→K true)∧(¬((l0.length:Int)≤410)→((l0.length:Int) > 420→K true)∧(¬((l0.length:Int) > 420)→T162_1 prog K l0)))∧(¬((l0.length:Int) > 20)→((l0.length:Int) > 420→K true)∧(¬((l0.length:Int) > 420)→T162_1 prog K l0))
section
variable {prog:Prog}{d:Nat}{Q:AE→Sl→St→Prop}{K:Bool→Prop}(hQ:H162 Q K){σ:Sl}{st:St}
include hQ
theorem w162_3 (h:T162_3 prog K ):W prog d c162_1 σ st Q:=
 q_ rfl (m_ (e_ (rt_ (hQ _ _ _ rfl h))))
theorem w162_2 {l0:List Pan}{i3:Int}{P0:Int→Prop} (kP0 :∀(i3:Int),P0 i3→I162_0 prog d Q l0 i3){o_l0:Own}(H0:σ 0 = .sl o_l0 (List.map Pan.row l0))(H3:σ 3 = .i .i64 i3)(h:T162_2 prog K P0 l0 i3):W prog d l162_0 σ st (thenW prog d (.loop l162_0) (blockW 0 (thenW prog d c162_1 Q))):=
 sq_ (q_ rfl (m_ (s_mvL H0 (ll_ rfl (b_ H3 rfl lss_ (e_ (cs_ rfl (fun g'1=>sk_ (sq_ (bk_ (q_ rfl (s_mvL H0 (m_ ((h.1 g'1).2.elim fun c'2 e'3=>ia_ rfl H3 (h.1 g'1).1 e'3.1 (Pan.row_eq c'2) rfl (ff_ rfl (lf_ rfl rfl rfl (e'3.2.elim fun r'4 e'5=>ca_ (sc rfl rfl sn) e'5.1 (e_ (cb_ rfl (fun g'6=>q_ rfl (m_ (e_ (rt_ (hQ _ _ _ rfl (e'5.2.1 g'6)))))) (fun g'6=>sk_ (W.reg0 rfl fun _ _=>m_ (b_ H3 rfl add_ (m_ (e_ (kP0 _ (e'5.2.2 g'6) _ _ _ H0 rfl)))))))))))))))))) (fun g'1=>ex_ (w162_3 hQ (h.2 g'1))))))))))
theorem w162_1 {l0:List Pan}{o_l0:Own}(H0:σ 0 = .sl o_l0 (List.map Pan.row l0))(h:T162_1 prog K l0):W prog d c162_2 σ st Q:=
 sq_ (q_ rfl (m_ (e_ (bk_ (h (I162_0 prog d Q l0) (fun _ hb _ _ _ H0 H3=>W.loop (w162_2 hQ (fun _ x=>x) H0 H3 hb)) _ _ _ H0 rfl)))))
theorem w162_0 {l0:List Pan}{o_l0:Own}(H0:σ 0 = .sl o_l0 (List.map Pan.row l0))(h:T162_0 prog K l0):W prog d (.seq (.reg 0 r162_0) (.seq (.seq (.reg 1 r162_1) (.cond (.t 16) (.seq (.reg 2 r162_2) .ret) .skip)) c162_2)) σ st Q:=
 q_ rfl (m_ (e_ (sq_ (q_ rfl (s_mvL H0 (ll_ rfl (b_ rfl rfl gtr_ (s_mvB rfl (em_ (g:=7) rfl (fun g'1=>gy_ rfl (s_mvL H0 (gy_ rfl (ll_ rfl (gy_ rfl (b_ rfl rfl leq_ (pt_ rfl rfl (s_mvB rfl (em_ (g:=12) rfl (fun g'2=>gn_ (b:=true) rfl rfl (gn_ (b:=true) rfl rfl (gn_ (b:=true) rfl rfl (pt_ rfl rfl (e_ (ct_ rfl (q_ rfl (m_ (e_ (rt_ (hQ _ _ _ rfl ((h.1 g'1).1 g'2)))))))))))) (fun g'2=>gy_ rfl (s_mvL H0 (gy_ rfl (ll_ rfl (gy_ rfl (b_ rfl rfl gtr_ (pf_ rfl rfl (e_ (cs_ rfl (fun g'3=>q_ rfl (m_ (e_ (rt_ (hQ _ _ _ rfl (((h.1 g'1).2 g'2).1 g'3)))))) (fun g'3=>sk_ (w162_1 hQ H0 (((h.1 g'1).2 g'2).2 g'3))))))))))))))))))))) (fun g'1=>gn_ (b:=false) rfl rfl (gn_ (b:=false) rfl rfl (gn_ (b:=false) rfl rfl (pf_ rfl rfl (s_mvB rfl (gy_ rfl (s_mvL H0 (gy_ rfl (ll_ rfl (gy_ rfl (b_ rfl rfl gtr_ (pf_ rfl rfl (e_ (cs_ rfl (fun g'4=>q_ rfl (m_ (e_ (rt_ (hQ _ _ _ rfl ((h.2 g'1).1 g'4)))))) (fun g'4=>sk_ (w162_1 hQ H0 ((h.2 g'1).2 g'4))))))))))))))))))))))))))
end
theorem p162 {prog:Prog}(hf:prog.fn 162 = some pf162){l0:List Pan}{K:Bool→Prop}(h:T162_0 prog K l0) :∃res0:Bool,K res0∧Pus prog 162 [.sl .ext (List.map Pan.row l0)] (.b res0):=by
  obtain ⟨v,hv,res0,hk,rfl⟩:=Pus.of (K:=fun v=>∃res0:Bool,K res0∧v = .b res0) hf rfl (w162_0 (σ:=sl0 [.sl .ext (List.map Pan.row l0)]) (fun σ st   res0 H2 hk=>⟨.b res0,by simp only [pf162,ares,aresL,H2,ares1,Option.map_some],_,rfl,res0,hk,rfl⟩) rfl h)
  exact ⟨res0,hk,hv⟩
def r164_0:List AI:=[oC 2 (.s []),
 oC 3 (.i .i64 0)]
def r164_1:List AI:=[oM 10 0,
 oO 11 (.call false 185 [(.t 10)]),
 oM 4 11]
def r164_2:List AI:=[oM 12 4,
 oB 13 .neq (.t 12) (.c (.i .i64 0))]
def r164_3:List AI:=[oM 14 4,
 oC 2 (.s []),
 oM 3 14]
def r164_4:List AI:=[oO 5 (.alloc [.np,.sl .full []])]
def r164_5:List AI:=[oM 15 0,
 oO 16 (.len false (.t 15)),
 oC 17 (.i .i64 0)]
def r164_6:List AI:=[oB 18 .lss (.t 17) (.t 16)]
def r164_7:List AI:=[oO 19 (.iaL 7 (.t 15) (.t 17)),
 oO 20 (.load 7 true (.t 19)),
 oO 7 (.alloc [.i .u64 0,.i .u8 0,.i .i64 0,.s [],.sl .full [],.b false,.i .u64 0]),
 oS 7 7 20]
def r164_8:List AI:=[oO 22 (.load 7 true (.t 7)),
 oO 23 (.call false 154 [(.t 22)]),
 oM 21 23,
 oE 24 0 21,
 oE 25 1 21,
 oM 8 24,
 oM 9 25]
def r164_9:List AI:=[oM 26 9,
 oB 27 .neq (.t 26) (.c (.i .i64 0))]
def r164_10:List AI:=[oM 28 9,
 oC 2 (.s []),
 oM 3 28]
def r164_11:List AI:=[oM 29 8,
 oB 30 .add (.t 29) (.c (.s [10])),
 oO 31 (.call true 126 [(.t 5),(.t 30)])]
def r164_12:List AI:=[oB 32 .add (.t 17) (.c (.i .i64 1)),
 oM 17 32]
def r164_13:List AI:=[oO 33 (.call true 105 [(.t 5)]),
 oM 2 33,
 oC 3 (.i .i64 0)]
abbrev l164_0:AC:=(.seq (.reg 6 r164_6) (.seq (.cond (.t 18) .skip (.exit 0)) (.seq (.block 1 (.seq (.reg 7 r164_7) (.seq (.reg 8 r164_8) (.seq (.seq (.reg 9 r164_9) (.cond (.t 27) (.seq (.reg 10 r164_10) .ret) .skip)) (.reg 11 r164_11))))) (.reg 12 r164_12))))
abbrev c164_1:AC:=(.seq (.reg 13 r164_13) .ret)
abbrev b164:AC:=(.seq (.reg 0 r164_0) (.seq (.seq (.reg 1 r164_1) (.seq (.reg 2 r164_2) (.cond (.t 13) (.seq (.reg 3 r164_3) .ret) .skip))) (.seq (.reg 1000004 r164_4) (.seq (.seq (.reg 5 r164_5) (.block 0 (.loop l164_0))) c164_1))))
def pf164:AF:={ nt:=34,res:=[.tmp 2,.tmp 3],body:=b164 }
abbrev H164 (Q:AE→Sl→St→Prop)(K:List UInt8→Int→Prop):Prop:=∀(σ:Sl)(st:St)(res0:List UInt8)(res1:Int),σ 2 = .s res0→σ 3 = .i .i64 res1→K res0 res1→Q .ret σ st
abbrev I164_0 (prog:Prog)(d:Nat)(Q:AE→Sl→St→Prop)(t15:List Pan)(t16:Int)(t17:Int)(m4096016384:List UInt8):Prop:=
  ∀(σ:Sl)(st:St)(o_t15:Own)(v4096016384:Nat),σ 5 = .p (d,1000004 * 4096 + 0) v4096016384 0→σ 15 = .sl o_t15 (List.map Pan.row t15)→σ 16 = .i .i64 t16→σ 17 = .i .i64 t17→Bl m4096016384 st.bx st.ow (d,1000004 * 4096 + 0) v4096016384→W prog d (.loop l164_0) σ st (blockW 0 (thenW prog d c164_1 Q))
def T164_2 (prog:Prog)(K:List UInt8→Int→Prop)(m4096016384:List UInt8):Prop:=
  ∃r'1:List UInt8,PuX prog 105 (Bl m4096016384) [] (fun r=>r = .s r'1) (fun _ _ _ _=>True)∧K r'1 0
def T164_1 (prog:Prog)(K:List UInt8→Int→Prop)(P0:Int→List UInt8→Prop)(t15:List Pan)(t16:Int)(t17:Int)(m4096016384:List UInt8):Prop:=
  (t17 < t16→0≤t17∧∃c'2:Pan,t15[(t17).toNat]? = some c'2∧∃r'4:List UInt8,∃r'5:Int,Pus prog 154 [c'2.av] (.tup [.s r'4,.i .i64 r'5])∧(r'5≠0→K ([]:List UInt8) r'5)∧(¬(r'5≠0)→r'4.length + ([10]:List UInt8).length≤maxStr∧∃r'8:Int,∃b'14:List UInt8,PuX prog 126 (Bl m4096016384) [.s (r'4 ++ ([10]:List UInt8))] (fun r=>r = .tup [.i .i64 r'8,.ni]) ((Bl b'14))∧P0 (IntKind.i64.wrap (t17 + 1)) b'14))∧(¬(t17 < t16)→T164_2 prog K m4096016384)
def T164_0 (prog:Prog)(K:List UInt8→Int→Prop)(l0:List Pan):Prop:=
  ∃r'1:Int,Pus prog 185 [.sl .ext (List.map Pan.row l0)] (.i .i64 r'1)∧(r'1≠0→K ([]:List UInt8) r'1)∧(¬(r'1≠0)→∀P0:Int→List UInt8→Prop,(∀(t17:Int)(m4096016384:List UInt8),T164_1 prog K P0 l0 (l0.length:Int) t17 m4096016384→P0 t17 m4096016384)→P0 0 ([]:List UInt8))
section
variable {prog:Prog}{d:Nat}{Q:AE→Sl→St→Prop}{K:List UInt8→Int→Prop}(hQ:H164 Q K){σ:Sl}{st:St}
include hQ
theorem w164_2 {m4096016384:List UInt8}{v4096016384:Nat}(H5:σ 5 = .p (d,1000004 * 4096 + 0) v4096016384 0)(B4096016384:Bl m4096016384 st.bx st.ow (d,1000004 * 4096 + 0) v4096016384)(h:T164_2 prog K m4096016384):W prog d c164_1 σ st Q:=
 q_ rfl (h.elim fun r'1 e'3=>cX_ (sec H5 sen) e'3.1 (Nat.lt_succ_self d) B4096016384 (fun st'4 hb'5 hf'6=>m_ (m_ (e_ (rt_ (hQ _ _ _ _ rfl rfl e'3.2))))))
theorem w164_1 {t15:List Pan}{t16 t17:Int}{m4096016384:List UInt8}{P0:Int→List UInt8→Prop} (kP0 :∀(t17:Int)(m4096016384:List UInt8),P0 t17 m4096016384→I164_0 prog d Q t15 t16 t17 m4096016384){o_t15:Own}{v4096016384:Nat}(H5:σ 5 = .p (d,1000004 * 4096 + 0) v4096016384 0)(H15:σ 15 = .sl o_t15 (List.map Pan.row t15))(H16:σ 16 = .i .i64 t16)(H17:σ 17 = .i .i64 t17)(B4096016384:Bl m4096016384 st.bx st.ow (d,1000004 * 4096 + 0) v4096016384)(h:T164_1 prog K P0 t15 t16 t17 m4096016384):W prog d l164_0 σ st (thenW prog d (.loop l164_0) (blockW 0 (thenW prog d c164_1 Q))):=
 q_ rfl (b_ H17 H16 lss_ (e_ (sq_ (cs_ rfl (fun g'1=>sk_ (sq_ (bk_ (sq_ (W.reg ((h.1 g'1).2.elim fun c'2 e'3=>ia_ H15 H17 (h.1 g'1).1 e'3.1 (Pan.row_eq c'2) rfl (lf_ rfl rfl rfl (s_alloc (so_ rfl (show lk _ (d,28674) = some (_,([.i .u64 0,.i .u8 0,.i .i64 0,.s [],.sl .full (List.map Val.row ([]:List Val)),.b false,.i .u64 0]:List AV)) from lk_here) rfl rfl rfl (e_ (q_ rfl (l_ rfl lk_here rfl rfl (e'3.2.elim fun r'4 e'16=>e'16.elim fun r'5 e'6=>ca_ (sc rfl rfl sn) e'6.1 (m_ (x_ rfl rfl (x_ rfl rfl (m_ (m_ (e_ (sq_ (q_ rfl (m_ (b_ rfl rfl neq_ (e_ (cs_ rfl (fun g'7=>q_ rfl (m_ (m_ (m_ (e_ (rt_ (hQ _ _ _ _ rfl rfl (e'6.2.1 g'7)))))))) (fun g'7=>sk_ (W.reg0 rfl fun _ _=>m_ (b_ rfl rfl (abin_cat' (e'6.2.2 g'7).1) ((e'6.2.2 g'7).2.elim fun r'8 e'15=>e'15.elim fun b'14 e'10=>cX_ (sec H5 (sec rfl sen)) e'10.1 (Nat.lt_succ_self d) (Bl.other (key_LL rfl) (Bl.other (key_LL rfl) B4096016384)) (fun st'11 hb'12 hf'13=>e_ (W.reg0 rfl fun _ _=>b_ H17 rfl add_ (m_ (e_ (kP0 _ _ e'10.2 _ _ _ _ H5 H15 H16 rfl hb'12)))))))))))))))))))))))))))))))))) (fun g'1=>ex_ (w164_2 hQ H5 B4096016384 (h.2 g'1)))))))
theorem w164_0 {l0:List Pan}{o_l0:Own}(H0:σ 0 = .sl o_l0 (List.map Pan.row l0))(h:T164_0 prog K l0):W prog d (.seq (.reg 0 r164_0) (.seq (.seq (.reg 1 r164_1) (.seq (.reg 2 r164_2) (.cond (.t 13) (.seq (.reg 3 r164_3) .ret) .skip))) (.seq (.reg 1000004 r164_4) (.seq (.seq (.reg 5 r164_5) (.block 0 (.loop l164_0))) c164_1)))) σ st Q:=
 q_ rfl (m_ (m_ (e_ (sq_ (q_ rfl (s_mvL H0 (h.elim fun r'1 e'2=>ca_ (sc rfl rfl sn) e'2.1 (m_ (e_ (q_ rfl (m_ (b_ rfl rfl neq_ (e_ (cs_ rfl (fun g'3=>q_ rfl (m_ (m_ (m_ (e_ (rt_ (hQ _ _ _ _ rfl rfl (e'2.2.1 g'3)))))))) (fun g'3=>sk_ (sq_ (W.regB rfl (fun nx'6 v'7 bx'8 hb'4 hx'5=>sq_ (q_ rfl (s_mvL H0 (ll_ rfl (m_ (e_ (bk_ ((e'2.2.2 g'3) (I164_0 prog d Q l0 (l0.length:Int)) (fun _ _ hb _ _ _ _ H5 H15 H16 H17 B4096016384=>W.loop (w164_1 hQ (fun _ _ x=>x) H5 H15 H16 H17 B4096016384 hb)) _ _ _ _ rfl rfl rfl rfl hb'4)))))))))))))))))))))))))
end
theorem p164 {prog:Prog}(hf:prog.fn 164 = some pf164){l0:List Pan}{K:List UInt8→Int→Prop}(h:T164_0 prog K l0) :∃res0:List UInt8,∃res1:Int,K res0 res1∧Pus prog 164 [.sl .ext (List.map Pan.row l0)] (.tup [.s res0,.i .i64 res1]):=by
  obtain ⟨v,hv,res0,res1,hk,rfl⟩:=Pus.of (K:=fun v=>∃res0:List UInt8,∃res1:Int,K res0 res1∧v = .tup [.s res0,.i .i64 res1]) hf rfl (w164_0 (σ:=sl0 [.sl .ext (List.map Pan.row l0)]) (fun σ st   res0 res1 H2 H3 hk=>⟨.tup [.s res0,.i .i64 res1],by simp only [pf164,ares,aresL,H2,H3,ares1,Option.map_some],_,rfl,res0,res1,hk,rfl⟩) rfl h)
  exact ⟨res0,res1,hk,hv⟩
def r166_0:List AI:=[oC 2 (.s []),
 oC 3 (.i .i64 0)]
def r166_1:List AI:=[oM 7 0,
 oO 8 (.call false 163 [(.t 7)]),
 oM 4 8]
def r166_2:List AI:=[oM 9 4,
 oB 10 .neq (.t 9) (.c (.i .i64 0))]
def r166_3:List AI:=[oM 11 4,
 oC 2 (.s []),
 oM 3 11]
def r166_4:List AI:=[oC 5 (.s [])]
def r166_5:List AI:=[oC 6 (.i .i64 0)]
def r166_6:List AI:=[oM 12 6,
 oM 13 0,
 oO 14 (.len false (.t 13)),
 oB 15 .lss (.t 12) (.t 14)]
def r166_7:List AI:=[oM 18 5,
 oM 19 0,
 oM 20 6,
 oO 21 (.iaL 7 (.t 19) (.t 20)),
 oO 22 (.load 7 true (.t 21)),
 oO 23 (.call false 179 [(.t 22)]),
 oB 24 .add (.t 23) (.c (.s [10])),
 oB 25 .add (.t 18) (.t 24),
 oM 5 25]
def r166_8:List AI:=[oM 16 6,
 oB 17 .add (.t 16) (.c (.i .i64 1)),
 oM 6 17]
def r166_9:List AI:=[oM 26 5,
 oM 2 26,
 oC 3 (.i .i64 0)]
abbrev l166_0:AC:=(.seq (.seq (.reg 6 r166_6) (.cond (.t 15) .skip (.exit 0))) (.seq (.block 1 (.reg 8 r166_7)) (.reg 7 r166_8)))
abbrev c166_1:AC:=(.seq (.reg 9 r166_9) .ret)
abbrev b166:AC:=(.seq (.reg 0 r166_0) (.seq (.seq (.reg 1 r166_1) (.seq (.reg 2 r166_2) (.cond (.t 10) (.seq (.reg 3 r166_3) .ret) .skip))) (.seq (.reg 4 r166_4) (.seq (.seq (.reg 5 r166_5) (.block 0 (.loop l166_0))) c166_1))))
def pf166:AF:={ nt:=27,res:=[.tmp 2,.tmp 3],body:=b166 }
abbrev H166 (Q:AE→Sl→St→Prop)(K:List UInt8→Int→Prop):Prop:=∀(σ:Sl)(st:St)(res0:List UInt8)(res1:Int),σ 2 = .s res0→σ 3 = .i .i64 res1→K res0 res1→Q .ret σ st
abbrev I166_0 (prog:Prog)(d:Nat)(Q:AE→Sl→St→Prop)(l0:List Pan)(s5:List UInt8)(i6:Int):Prop:=
  ∀(σ:Sl)(st:St)(o_l0:Own),σ 0 = .sl o_l0 (List.map Pan.row l0)→σ 5 = .s s5→σ 6 = .i .i64 i6→W prog d (.loop l166_0) σ st (blockW 0 (thenW prog d c166_1 Q))
def T166_2 (prog:Prog)(K:List UInt8→Int→Prop)(s5:List UInt8):Prop:=
  K s5 0
def T166_1 (prog:Prog)(K:List UInt8→Int→Prop)(P0:List UInt8→Int→Prop)(l0:List Pan)(s5:List UInt8)(i6:Int):Prop:=
  (i6 < (l0.length:Int)→0≤i6∧∃c'2:Pan,l0[(i6).toNat]? = some c'2∧∃r'4:List UInt8,Pus prog 179 [c'2.av] (.s r'4)∧r'4.length + ([10]:List UInt8).length≤maxStr∧s5.length + (r'4 ++ ([10]:List UInt8)).length≤maxStr∧P0 (s5 ++ (r'4 ++ ([10]:List UInt8))) (IntKind.i64.wrap (i6 + 1)))∧(¬(i6 < (l0.length:Int))→T166_2 prog K s5)
def T166_0 (prog:Prog)(K:List UInt8→Int→Prop)(l0:List Pan):Prop:=
  ∃r'1:Int,Pus prog 163 [.sl .ext (List.map Pan.row l0)] (.i .i64 r'1)∧(r'1≠0→K ([]:List UInt8) r'1)∧(¬(r'1≠0)→∀P0:List UInt8→Int→Prop,(∀(s5:List UInt8)(i6:Int),T166_1 prog K P0 l0 s5 i6→P0 s5 i6)→P0 ([]:List UInt8) 0)
section
variable {prog:Prog}{d:Nat}{Q:AE→Sl→St→Prop}{K:List UInt8→Int→Prop}(hQ:H166 Q K){σ:Sl}{st:St}
include hQ
theorem w166_2 {s5:List UInt8}(H5:σ 5 = .s s5)(h:T166_2 prog K s5):W prog d c166_1 σ st Q:=
 q_ rfl (m_ (m_ (m_ (e_ (rt_ (hQ _ _ _ _ H5 rfl h))))))
theorem w166_1 {l0:List Pan}{s5:List UInt8}{i6:Int}{P0:List UInt8→Int→Prop} (kP0 :∀(s5:List UInt8)(i6:Int),P0 s5 i6→I166_0 prog d Q l0 s5 i6){o_l0:Own}(H0:σ 0 = .sl o_l0 (List.map Pan.row l0))(H5:σ 5 = .s s5)(H6:σ 6 = .i .i64 i6)(h:T166_1 prog K P0 l0 s5 i6):W prog d l166_0 σ st (thenW prog d (.loop l166_0) (blockW 0 (thenW prog d c166_1 Q))):=
 sq_ (q_ rfl (m_ (s_mvL H0 (ll_ rfl (b_ H6 rfl lss_ (e_ (cs_ rfl (fun g'1=>sk_ (sq_ (bk_ (W.reg0 rfl fun _ _=>m_ (s_mvL H0 (m_ ((h.1 g'1).2.elim fun c'2 e'3=>ia_ rfl H6 (h.1 g'1).1 e'3.1 (Pan.row_eq c'2) rfl (lf_ rfl rfl rfl (e'3.2.elim fun r'4 e'5=>ca_ (sc rfl rfl sn) e'5.1 (b_ rfl rfl (abin_cat' e'5.2.1) (b_ H5 rfl (abin_cat' e'5.2.2.1) (m_ (e_ (W.reg0 rfl fun _ _=>m_ (b_ H6 rfl add_ (m_ (e_ (kP0 _ _ e'5.2.2.2 _ _ _ H0 rfl rfl)))))))))))))))))) (fun g'1=>ex_ (w166_2 hQ H5 (h.2 g'1))))))))))
theorem w166_0 {l0:List Pan}{o_l0:Own}(H0:σ 0 = .sl o_l0 (List.map Pan.row l0))(h:T166_0 prog K l0):W prog d (.seq (.reg 0 r166_0) (.seq (.seq (.reg 1 r166_1) (.seq (.reg 2 r166_2) (.cond (.t 10) (.seq (.reg 3 r166_3) .ret) .skip))) (.seq (.reg 4 r166_4) (.seq (.seq (.reg 5 r166_5) (.block 0 (.loop l166_0))) c166_1)))) σ st Q:=
 q_ rfl (m_ (m_ (e_ (sq_ (q_ rfl (s_mvL H0 (h.elim fun r'1 e'2=>ca_ (sc rfl rfl sn) e'2.1 (m_ (e_ (q_ rfl (m_ (b_ rfl rfl neq_ (e_ (cs_ rfl (fun g'3=>q_ rfl (m_ (m_ (m_ (e_ (rt_ (hQ _ _ _ _ rfl rfl (e'2.2.1 g'3)))))))) (fun g'3=>sk_ (q_ rfl (m_ (e_ (sq_ (q_ rfl (m_ (e_ (bk_ ((e'2.2.2 g'3) (I166_0 prog d Q l0) (fun _ _ hb _ _ _ H0 H5 H6=>W.loop (w166_1 hQ (fun _ _ x=>x) H0 H5 H6 hb)) _ _ _ H0 rfl rfl))))))))))))))))))))))))
end
theorem p166 {prog:Prog}(hf:prog.fn 166 = some pf166){l0:List Pan}{K:List UInt8→Int→Prop}(h:T166_0 prog K l0) :∃res0:List UInt8,∃res1:Int,K res0 res1∧Pus prog 166 [.sl .ext (List.map Pan.row l0)] (.tup [.s res0,.i .i64 res1]):=by
  obtain ⟨v,hv,res0,res1,hk,rfl⟩:=Pus.of (K:=fun v=>∃res0:List UInt8,∃res1:Int,K res0 res1∧v = .tup [.s res0,.i .i64 res1]) hf rfl (w166_0 (σ:=sl0 [.sl .ext (List.map Pan.row l0)]) (fun σ st   res0 res1 H2 H3 hk=>⟨.tup [.s res0,.i .i64 res1],by simp only [pf166,ares,aresL,H2,H3,ares1,Option.map_some],_,rfl,res0,res1,hk,rfl⟩) rfl h)
  exact ⟨res0,res1,hk,hv⟩
abbrev H171 (Q:AE→Sl→St→Prop)(K:Bool→Prop):Prop:=∀(σ:Sl)(st:St)(res0:Bool),σ 4 = .b res0→K res0→Q .ret σ st
section
variable {prog:Prog}{d:Nat}{Q:AE→Sl→St→Prop}{K:Bool→Prop}(hQ:H171 Q K){σ:Sl}{st:St}
include hQ
end
abbrev H172 (Q:AE→Sl→St→Prop)(K:Val→Prop):Prop:=∀(σ:Sl)(st:St)(k0:Key)(v0:Nat)(o0_0:Own)(res0:Val),σ 2 = .p k0 v0 0→lk st.bx k0 = some (v0,[.i .u8 res0.kind,.i .i64 res0.int,.s res0.text,.sl o0_0 (List.map Val.row res0.list),.b res0.cut])→K res0→Q .ret σ st
section
variable {prog:Prog}{d:Nat}{Q:AE→Sl→St→Prop}{K:Val→Prop}(hQ:H172 Q K){σ:Sl}{st:St}
include hQ
end
abbrev H173 (Q:AE→Sl→St→Prop)(K:Val→Prop):Prop:=∀(σ:Sl)(st:St)(k0:Key)(v0:Nat)(o0_0:Own)(res0:Val),σ 0 = .p k0 v0 0→lk st.bx k0 = some (v0,[.i .u8 res0.kind,.i .i64 res0.int,.s res0.text,.sl o0_0 (List.map Val.row res0.list),.b res0.cut])→K res0→Q .ret σ st
section
variable {prog:Prog}{d:Nat}{Q:AE→Sl→St→Prop}{K:Val→Prop}(hQ:H173 Q K){σ:Sl}{st:St}
include hQ
end
abbrev H174 (Q:AE→Sl→St→Prop)(K:Val→Prop):Prop:=∀(σ:Sl)(st:St)(k0:Key)(v0:Nat)(o0_0:Own)(res0:Val),σ 2 = .p k0 v0 0→lk st.bx k0 = some (v0,[.i .u8 res0.kind,.i .i64 res0.int,.s res0.text,.sl o0_0 (List.map Val.row res0.list),.b res0.cut])→K res0→Q .ret σ st
section
variable {prog:Prog}{d:Nat}{Q:AE→Sl→St→Prop}{K:Val→Prop}(hQ:H174 Q K){σ:Sl}{st:St}
include hQ
end
abbrev H176 (Q:AE→Sl→St→Prop)(K:Bool→Prop):Prop:=∀(σ:Sl)(st:St)(res0:Bool),σ 2 = .b res0→K res0→Q .ret σ st
section
variable {prog:Prog}{d:Nat}{Q:AE→Sl→St→Prop}{K:Bool→Prop}(hQ:H176 Q K){σ:Sl}{st:St}
include hQ
end
abbrev H184 (d:Nat)(st0:St)(Q:AE→Sl→St→Prop)(K:List Pan→Prop):Prop:=∀(σ:Sl)(st:St)(res0:List Pan),σ 0 = .sl .full (List.map Pan.row res0)→Fr d (d,0) st0.bx st0.ow st.bx st.ow→K res0→Q .ret σ st
section
variable {prog:Prog}{d:Nat}{Q:AE→Sl→St→Prop}{K:List Pan→Prop}{st0:St}(hQ:H184 d st0 Q K){σ:Sl}{st:St}
include hQ
end
abbrev H161 (Q:AE→Sl→St→Prop)(K:Bool→Prop):Prop:=∀(σ:Sl)(st:St)(res0:Bool),σ 0 = .b res0→K res0→Q .ret σ st
section
variable {prog:Prog}{d:Nat}{Q:AE→Sl→St→Prop}{K:Bool→Prop}(hQ:H161 Q K){σ:Sl}{st:St}
include hQ
end
end Go.AM

namespace Go.AM
open Go
set_option linter.unusedVariables false
set_option linter.unusedSimpArgs false
set_option maxRecDepth 4000
attribute [local irreducible] WO fillCells fillRows
abbrev H149 (Q:AE→Sl→St→Prop)(K:Bool→Prop):Prop:=∀(σ:Sl)(st:St)(res0:Bool),σ 4 = .b res0→K res0→Q .ret σ st
section
variable {prog:Prog}{d:Nat}{Q:AE→Sl→St→Prop}{K:Bool→Prop}(hQ:H149 Q K){σ:Sl}{st:St}
include hQ
end
abbrev H150 (Q:AE→Sl→St→Prop)(K:Bool→Prop):Prop:=∀(σ:Sl)(st:St)(res0:Bool),σ 2 = .b res0→K res0→Q .ret σ st
section
variable {prog:Prog}{d:Nat}{Q:AE→Sl→St→Prop}{K:Bool→Prop}(hQ:H150 Q K){σ:Sl}{st:St}
include hQ
end
end Go.AM

namespace Go.AM
open Go
set_option linter.unusedVariables false
set_option linter.unusedSimpArgs false
set_option maxRecDepth 4000
attribute [local irreducible] WO fillCells fillRows
def r177_0:List AI:=[oC 2 (.sl .full []),
 oC 3 (.b false)]
def r177_1:List AI:=[oC 4 (.sl .full [])]
def r177_2:List AI:=[oC 5 (.i .i64 0)]
def r177_3:List AI:=[oC 6 (.i .i64 0)]
def r177_4:List AI:=[oM 7 6,
 oM 8 0,
 oO 9 (.len true (.t 8)),
 oB 10 .lss (.t 7) (.t 9)]
def r177_5:List AI:=[oM 13 0,
 oM 14 6,
 oO 15 (.ixS (.t 13) (.t 14)),
 oB 16 .eql (.t 15) (.c (.i .u8 10))]
def r177_6:List AI:=[oM 17 4,
 oM 18 0,
 oM 19 5,
 oM 20 6,
 oO 21 (.slS (.t 18) (some (.t 19)) (some (.t 20))),
 oO 22 (.bslice [.s []] 1 [(0,(.t 21))]),
 oO 23 (.app 1 16 (.t 17) (.t 22)),
 oM 4 23]
def r177_7:List AI:=[oM 24 6,
 oB 25 .add (.t 24) (.c (.i .i64 1)),
 oM 5 25]
def r177_8:List AI:=[oM 11 6,
 oB 12 .add (.t 11) (.c (.i .i64 1)),
 oM 6 12]
def r177_9:List AI:=[oM 26 4,
 oM 27 5,
 oM 28 0,
 oO 29 (.len true (.t 28)),
 oB 30 .eql (.t 27) (.t 29),
 oM 2 26,
 oM 3 30]
abbrev c177_0:AC:=(.reg 5 r177_8)
abbrev l177_0:AC:=(.seq (.seq (.reg 4 r177_4) (.cond (.t 10) .skip (.exit 0))) (.seq (.block 1 (.seq (.reg 6 r177_5) (.cond (.t 16) (.seq (.reg 7 r177_6) (.reg 8 r177_7)) .skip))) c177_0))
abbrev c177_2:AC:=(.seq (.reg 9 r177_9) .ret)
abbrev b177:AC:=(.seq (.reg 0 r177_0) (.seq (.reg 1 r177_1) (.seq (.reg 2 r177_2) (.seq (.seq (.reg 3 r177_3) (.block 0 (.loop l177_0))) c177_2))))
def pf177:AF:={ nt:=31,res:=[.tmp 2,.tmp 3],body:=b177 }
abbrev H177 (Q:AE→Sl→St→Prop)(K:List (List UInt8)→Bool→Prop):Prop:=∀(σ:Sl)(st:St)(o0:Own)(res0:List (List UInt8))(res1:Bool),σ 2 = .sl o0 (List.map rowS res0)→σ 3 = .b res1→K res0 res1→Q .ret σ st
abbrev I177_0 (prog:Prog)(d:Nat)(Q:AE→Sl→St→Prop)(s0:List UInt8)(out4:List (List UInt8))(from5:Int)(i6:Int):Prop:=
  ∀(σ:Sl)(st:St)(o_out4:Own),σ 0 = .s s0→σ 4 = .sl o_out4 (List.map rowS out4)→σ 5 = .i .i64 from5→σ 6 = .i .i64 i6→ApM d st.ow o_out4 out4.length→W prog d (.loop l177_0) σ st (blockW 0 (thenW prog d c177_2 Q))
def T177_2 (prog:Prog)(K:List (List UInt8)→Bool→Prop)(P0:List (List UInt8)→Int→Int→Prop)(s0:List UInt8)(out4:List (List UInt8))(from5:Int)(i6:Int):Prop:=
  P0 out4 from5 (IntKind.i64.wrap (i6 + 1))
def T177_3 (prog:Prog)(K:List (List UInt8)→Bool→Prop)(s0:List UInt8)(out4:List (List UInt8))(from5:Int):Prop:=
  K out4 (decide (from5 = (s0.length:Int)))
def T177_1 (prog:Prog)(K:List (List UInt8)→Bool→Prop)(P0:List (List UInt8)→Int→Int→Prop)(s0:List UInt8)(out4:List (List UInt8))(from5:Int)(i6:Int):Prop:=
  (i6 < (s0.length:Int)→0≤i6∧∃c'2:UInt8,s0[(i6).toNat]? = some c'2∧((c'2.toNat:Int) = 10→0≤from5∧from5≤i6∧(i6).toNat≤s0.length∧Fit (out4.length + [((s0.drop (from5).toNat).take ((i6).toNat - (from5).toNat))].length) 16∧T177_2 prog K P0 s0 (out4 ++ [((s0.drop (from5).toNat).take ((i6).toNat - (from5).toNat))]) (IntKind.i64.wrap (i6 + 1)) i6)∧(¬((c'2.toNat:Int) = 10)→T177_2 prog K P0 s0 out4 from5 i6))∧(¬(i6 < (s0.length:Int))→T177_3 prog K s0 out4 from5)
def T177_0 (prog:Prog)(K:List (List UInt8)→Bool→Prop)(s0:List UInt8):Prop:=
  ∀P0:List (List UInt8)→Int→Int→Prop,(∀(out4:List (List UInt8))(from5:Int)(i6:Int),T177_1 prog K P0 s0 out4 from5 i6→P0 out4 from5 i6)→P0 ([]:List (List UInt8)) 0 0
section
variable {prog:Prog}{d:Nat}{Q:AE→Sl→St→Prop}{K:List (List UInt8)→Bool→Prop}(hQ:H177 Q K){σ:Sl}{st:St}
include hQ
theorem w177_2 {s0:List UInt8}{out4:List (List UInt8)}{from5 i6:Int}{P0:List (List UInt8)→Int→Int→Prop} (kP0 :∀(out4:List (List UInt8))(from5:Int)(i6:Int),P0 out4 from5 i6→I177_0 prog d Q s0 out4 from5 i6){o_out4:Own}(H0:σ 0 = .s s0)(H4:σ 4 = .sl o_out4 (List.map rowS out4))(H5:σ 5 = .i .i64 from5)(H6:σ 6 = .i .i64 i6)(A4:ApM d st.ow o_out4 out4.length)(h:T177_2 prog K P0 s0 out4 from5 i6):W prog d c177_0 σ st (thenW prog d (.loop l177_0) (blockW 0 (thenW prog d c177_2 Q))):=
 W.reg0 rfl fun _ _=>m_ (b_ H6 rfl add_ (m_ (e_ (kP0 _ _ _ h _ _ _ H0 H4 H5 rfl A4))))
theorem w177_3 {s0:List UInt8}{out4:List (List UInt8)}{from5:Int}{o_out4:Own}(H0:σ 0 = .s s0)(H4:σ 4 = .sl o_out4 (List.map rowS out4))(H5:σ 5 = .i .i64 from5)(A4:ApM d st.ow o_out4 out4.length)(h:T177_3 prog K s0 out4 from5):W prog d c177_2 σ st Q:=
 q_ rfl (s_mvL H4 (m_ (m_ (ln_ H0 (b_ H5 rfl eql_ (s_mvL rfl (m_ (e_ (rt_ (hQ _ _ _ _ _ rfl rfl h))))))))))
theorem w177_1 {s0:List UInt8}{out4:List (List UInt8)}{from5 i6:Int}{P0:List (List UInt8)→Int→Int→Prop} (kP0 :∀(out4:List (List UInt8))(from5:Int)(i6:Int),P0 out4 from5 i6→I177_0 prog d Q s0 out4 from5 i6){o_out4:Own}(H0:σ 0 = .s s0)(H4:σ 4 = .sl o_out4 (List.map rowS out4))(H5:σ 5 = .i .i64 from5)(H6:σ 6 = .i .i64 i6)(A4:ApM d st.ow o_out4 out4.length)(h:T177_1 prog K P0 s0 out4 from5 i6):W prog d l177_0 σ st (thenW prog d (.loop l177_0) (blockW 0 (thenW prog d c177_2 Q))):=
 sq_ (q_ rfl (m_ (m_ (ln_ H0 (b_ H6 rfl lss_ (e_ (cs_ rfl (fun g'1=>sk_ (sq_ (bk_ (q_ rfl (m_ (m_ ((h.1 g'1).2.elim fun c'2 e'3=>s_ixS H0 H6 (h.1 g'1).1 e'3.1 (b_ rfl rfl eql_ (e_ (cs_ rfl (fun g'4=>q_ rfl (s_mvL H4 (m_ (m_ (m_ (s_slS H0 H5 H6 (e'3.2.1 g'4).1 (e'3.2.1 g'4).2.1 (e'3.2.1 g'4).2.2.1 (s_bslM (f:=rowS) (l:=[((s0.drop (from5).toNat).take ((i6).toNat - (from5).toNat))]) rfl rfl (g_cons rfl rfl rfl g_nil) rfl (s_app rowS_len rfl rfl rfl A4.1 (e'3.2.1 g'4).2.2.2.1 rfl (fun o'5 ow'8 a'6 fr'7 on'9=>s_mvL rfl (e_ (W.reg0 rfl fun _ _=>m_ (b_ H6 rfl add_ (m_ (e_ (w177_2 hQ kP0 H0 rfl rfl H6 (ApM.mk a'6 (Mine.app A4.2 rfl on'9)) (e'3.2.1 g'4).2.2.2.2))))))))))))))) (fun g'4=>sk_ (w177_2 hQ kP0 H0 H4 H5 H6 A4 (e'3.2.2 g'4))))))))))))) (fun g'1=>ex_ (w177_3 hQ H0 H4 H5 A4 (h.2 g'1))))))))))
theorem w177_0 {s0:List UInt8}(H0:σ 0 = .s s0)(h:T177_0 prog K s0):W prog d (.seq (.reg 0 r177_0) (.seq (.reg 1 r177_1) (.seq (.reg 2 r177_2) (.seq (.seq (.reg 3 r177_3) (.block 0 (.loop l177_0))) c177_2)))) σ st Q:=
 q_ rfl (s_mvL (f:=rowS) (l:=[]) rfl (m_ (e_ (q_ rfl (s_mvL (f:=rowS) (l:=[]) rfl (e_ (q_ rfl (m_ (e_ (sq_ (q_ rfl (m_ (e_ (bk_ (h (I177_0 prog d Q s0) (fun _ _ _ hb _ _ _ H0 H4 H5 H6 A4=>W.loop (w177_1 hQ (fun _ _ _ x=>x) H0 H4 H5 H6 A4 hb)) _ _ _ H0 rfl rfl rfl ApM.full)))))))))))))))
end
theorem p177 {prog:Prog}(hf:prog.fn 177 = some pf177){s0:List UInt8}{K:List (List UInt8)→Bool→Prop}(h:T177_0 prog K s0) :∃res0:List (List UInt8),∃res1:Bool,K res0 res1∧Pus prog 177 [.s s0] (.tup [.sl .ext (List.map rowS res0),.b res1]):=by
  obtain ⟨v,hv,res0,res1,hk,rfl⟩:=Pus.of (K:=fun v=>∃res0:List (List UInt8),∃res1:Bool,K res0 res1∧v = .tup [.sl .ext (List.map rowS res0),.b res1]) hf rfl (w177_0 (σ:=sl0 [.s s0]) (fun σ st  o0 res0 res1 H2 H3 hk=>⟨.tup [.sl o0 (List.map rowS res0),.b res1],by simp only [pf177,ares,aresL,H2,H3,ares1,Option.map_some],_,rfl,res0,res1,hk,rfl⟩) rfl h)
  exact ⟨res0,res1,hk,hv⟩
def r168_0:List AI:=[oC 2 (.sl .full []),
 oC 3 (.i .i64 0)]
def r168_1:List AI:=[oM 10 0,
 oO 11 (.len true (.t 10)),
 oB 12 .gtr (.t 11) (.c (.i .i64 120000))]
def r168_2:List AI:=[oC 2 (.sl .full []),
 oC 3 (.i .i64 4)]
def r168_3:List AI:=[oM 14 0,
 oO 15 (.call false 177 [(.t 14)]),
 oM 13 15,
 oE 16 0 13,
 oE 17 1 13,
 oM 4 16,
 oM 5 17]
def r168_4:List AI:=[oM 18 5,
 oO 19 (.un .not (.t 18)),
 oM 20 19,
 oG 21 (.mv (.t 4)) 20 false,
 oG 22 (.len false (.t 21)) 20 false,
 oG 23 (.bin .gtr (.t 22) (.c (.i .i64 410))) 20 false,
 oO 24 (.pick (.t 20) (.c (.b true)) (.t 23))]
def r168_5:List AI:=[oC 2 (.sl .full []),
 oC 3 (.i .i64 12)]
def r168_6:List AI:=[oC 6 (.sl .full [])]
def r168_7:List AI:=[oC 7 (.i .i64 0)]
def r168_8:List AI:=[oM 25 7,
 oM 26 4,
 oO 27 (.len false (.t 26)),
 oB 28 .lss (.t 25) (.t 27)]
def r168_9:List AI:=[oM 32 4,
 oM 33 7,
 oO 34 (.iaL 1 (.t 32) (.t 33)),
 oL 35 34,
 oO 36 (.call false 157 [(.t 35)]),
 oM 31 36,
 oE 37 0 31,
 oE 38 1 31,
 oO 8 (.alloc [.i .u64 0,.i .u8 0,.i .i64 0,.s [],.sl .full [],.b false,.i .u64 0]),
 oS 7 8 37,
 oM 9 38]
def r168_10:List AI:=[oM 39 9,
 oB 40 .neq (.t 39) (.c (.i .i64 0))]
def r168_11:List AI:=[oC 2 (.sl .full []),
 oC 3 (.i .i64 12)]
def r168_12:List AI:=[oM 41 6,
 oO 42 (.load 7 true (.t 8)),
 oO 43 (.bslice [.i .u64 0,.i .u8 0,.i .i64 0,.s [],.sl .full [],.b false,.i .u64 0] 1 [(0,(.t 42))]),
 oO 44 (.app 7 80 (.t 41) (.t 43)),
 oM 6 44]
def r168_13:List AI:=[oM 29 7,
 oB 30 .add (.t 29) (.c (.i .i64 1)),
 oM 7 30]
def r168_14:List AI:=[oM 45 6,
 oM 2 45,
 oC 3 (.i .i64 0)]
abbrev l168_0:AC:=(.seq (.seq (.reg 8 r168_8) (.cond (.t 28) .skip (.exit 0))) (.seq (.block 1 (.seq (.reg 10 r168_9) (.seq (.seq (.reg 11 r168_10) (.cond (.t 40) (.seq (.reg 12 r168_11) .ret) .skip)) (.reg 13 r168_12)))) (.reg 9 r168_13)))
abbrev c168_1:AC:=(.seq (.reg 14 r168_14) .ret)
abbrev c168_2:AC:=(.seq (.reg 6 r168_6) (.seq (.seq (.reg 7 r168_7) (.block 0 (.loop l168_0))) c168_1))
abbrev b168:AC:=(.seq (.reg 0 r168_0) (.seq (.seq (.reg 1 r168_1) (.cond (.t 12) (.seq (.reg 2 r168_2) .ret) .skip)) (.seq (.reg 3 r168_3) (.seq (.seq (.reg 4 r168_4) (.cond (.t 24) (.seq (.reg 5 r168_5) .ret) .skip)) c168_2))))
def pf168:AF:={ nt:=46,res:=[.tmp 2,.tmp 3],body:=b168 }
abbrev H168 (Q:AE→Sl→St→Prop)(K:List Pan→Int→Prop):Prop:=∀(σ:Sl)(st:St)(o0:Own)(res0:List Pan)(res1:Int),σ 2 = .sl o0 (List.map Pan.row res0)→σ 3 = .i .i64 res1→K res0 res1→Q .ret σ st
abbrev I168_0 (prog:Prog)(d:Nat)(Q:AE→Sl→St→Prop)(l4:List (List UInt8))(out6:List Pan)(i7:Int):Prop:=
  ∀(σ:Sl)(st:St) (o_l4 o_out6:Own),σ 4 = .sl o_l4 (List.map rowS l4)→σ 6 = .sl o_out6 (List.map Pan.row out6)→σ 7 = .i .i64 i7→ApM d st.ow o_out6 out6.length→W prog d (.loop l168_0) σ st (blockW 0 (thenW prog d c168_1 Q))
def T168_3 (prog:Prog)(K:List Pan→Int→Prop)(out6:List Pan):Prop:=
  K out6 0
def T168_2 (prog:Prog)(K:List Pan→Int→Prop)(P0:List Pan→Int→Prop)(l4:List (List UInt8))(out6:List Pan)(i7:Int):Prop:=
  (i7 < (l4.length:Int)→0≤i7∧∃c'2:List UInt8,l4[(i7).toNat]? = some c'2∧∃r'4:Pan,∃r'5:Int,Pus prog 157 [.s c'2] (.tup [r'4.av,.i .i64 r'5])∧(r'5≠0→K ([]:List Pan) 12)∧(¬(r'5≠0)→Fit (out6.length + [r'4].length) 80∧P0 (out6 ++ [r'4]) (IntKind.i64.wrap (i7 + 1))))∧(¬(i7 < (l4.length:Int))→T168_3 prog K out6)
def T168_1 (prog:Prog)(K:List Pan→Int→Prop)(l4:List (List UInt8)):Prop:=
  ∀P0:List Pan→Int→Prop,(∀(out6:List Pan)(i7:Int),T168_2 prog K P0 l4 out6 i7→P0 out6 i7)→P0 ([]:List Pan) 0
def T168_0 (prog:Prog)(K:List Pan→Int→Prop)(s0:List UInt8):Prop:=
  ((s0.length:Int) > 120000→K ([]:List Pan) 4)∧(¬((s0.length:Int) > 120000)→∃r'2:List (List UInt8),∃r'3:Bool,Pus prog 177 [.s s0] (.tup [.sl .ext (List.map rowS r'2),.b r'3])∧((!r'3) = true→K ([]:List Pan) 12)∧((!r'3) = false→((r'2.length:Int) > 410→K ([]:List Pan) 12)∧(¬((r'2.length:Int) > 410)→T168_1 prog K r'2)))
section
variable {prog:Prog}{d:Nat}{Q:AE→Sl→St→Prop}{K:List Pan→Int→Prop}(hQ:H168 Q K){σ:Sl}{st:St}
include hQ
theorem w168_3 {out6:List Pan}{o_out6:Own}(H6:σ 6 = .sl o_out6 (List.map Pan.row out6))(A6:ApM d st.ow o_out6 out6.length)(h:T168_3 prog K out6):W prog d c168_1 σ st Q:=
 q_ rfl (s_mvL H6 (s_mvL rfl (m_ (e_ (rt_ (hQ _ _ _ _ _ rfl rfl h))))))
theorem w168_2 {l4:List (List UInt8)}{out6:List Pan}{i7:Int}{P0:List Pan→Int→Prop} (kP0 :∀(out6:List Pan)(i7:Int),P0 out6 i7→I168_0 prog d Q l4 out6 i7){o_l4 o_out6:Own}(H4:σ 4 = .sl o_l4 (List.map rowS l4))(H6:σ 6 = .sl o_out6 (List.map Pan.row out6))(H7:σ 7 = .i .i64 i7)(A6:ApM d st.ow o_out6 out6.length)(h:T168_2 prog K P0 l4 out6 i7):W prog d l168_0 σ st (thenW prog d (.loop l168_0) (blockW 0 (thenW prog d c168_1 Q))):=
 sq_ (q_ rfl (m_ (s_mvL H4 (ll_ rfl (b_ H7 rfl lss_ (e_ (cs_ rfl (fun g'1=>sk_ (sq_ (bk_ (sq_ (W.reg (s_mvL H4 (m_ ((h.1 g'1).2.elim fun c'2 e'3=>ia_ rfl H7 (h.1 g'1).1 e'3.1 rfl rfl (lf_ rfl rfl rfl (e'3.2.elim fun r'4 e'13=>e'13.elim fun r'5 e'6=>ca_ (sc rfl rfl sn) e'6.1 (m_ (x_ rfl rfl (x_ rfl rfl (s_alloc (so_ rfl (show lk _ (d,40968) = some (_,([.i .u64 0,.i .u8 0,.i .i64 0,.s [],.sl .full (List.map Val.row ([]:List Val)),.b false,.i .u64 0]:List AV)) from lk_here) rfl rfl rfl (m_ (e_ (sq_ (q_ rfl (m_ (b_ rfl rfl neq_ (e_ (cs_ rfl (fun g'7=>q_ rfl (s_mvL (f:=Pan.row) (l:=[]) rfl (m_ (e_ (rt_ (hQ _ _ _ _ _ rfl rfl (e'6.2.1 g'7))))))) (fun g'7=>sk_ (W.reg0 rfl fun _ _=>s_mvL H6 (l_ rfl lk_here rfl rfl (s_bslM (f:=Pan.row) (l:=[r'4]) rfl rfl (g_cons rfl rfl rfl g_nil) (by simp only [List.map_cons,List.map_nil,Pan.row_eq]; rfl) (s_app Pan.row_len rfl rfl rfl A6.1 (e'6.2.2 g'7).1 rfl (fun o'8 ow'11 a'9 fr'10 on'12=>s_mvL rfl (e_ (W.reg0 rfl fun _ _=>m_ (b_ H7 rfl add_ (m_ (e_ (kP0 _ _ (e'6.2.2 g'7).2 _ _ _ _ H4 rfl rfl (ApM.mk a'9 (Mine.app A6.2 rfl on'12))))))))))))))))))))))))))))))))))))) (fun g'1=>ex_ (w168_3 hQ H6 A6 (h.2 g'1))))))))))
theorem w168_1 {l4:List (List UInt8)}{o_l4:Own}(H4:σ 4 = .sl o_l4 (List.map rowS l4))(h:T168_1 prog K l4):W prog d c168_2 σ st Q:=
 q_ rfl (s_mvL (f:=Pan.row) (l:=[]) rfl (e_ (sq_ (q_ rfl (m_ (e_ (bk_ (h (I168_0 prog d Q l4) (fun _ _ hb _ _ _ _ H4 H6 H7 A6=>W.loop (w168_2 hQ (fun _ _ x=>x) H4 H6 H7 A6 hb)) _ _ _ _ H4 rfl rfl ApM.full))))))))
theorem w168_0 {s0:List UInt8}(H0:σ 0 = .s s0)(h:T168_0 prog K s0):W prog d (.seq (.reg 0 r168_0) (.seq (.seq (.reg 1 r168_1) (.cond (.t 12) (.seq (.reg 2 r168_2) .ret) .skip)) (.seq (.reg 3 r168_3) (.seq (.seq (.reg 4 r168_4) (.cond (.t 24) (.seq (.reg 5 r168_5) .ret) .skip)) c168_2)))) σ st Q:=
 q_ rfl (s_mvL (f:=Pan.row) (l:=[]) rfl (m_ (e_ (sq_ (q_ rfl (m_ (ln_ H0 (b_ rfl rfl gtr_ (e_ (cs_ rfl (fun g'1=>q_ rfl (s_mvL (f:=Pan.row) (l:=[]) rfl (m_ (e_ (rt_ (hQ _ _ _ _ _ rfl rfl (h.1 g'1))))))) (fun g'1=>sk_ (q_ rfl (m_ ((h.2 g'1).elim fun r'2 e'7=>e'7.elim fun r'3 e'4=>ca_ (sc H0 rfl sn) e'4.1 (m_ (x_ rfl rfl (x_ rfl rfl (s_mvL rfl (m_ (e_ (sq_ (q_ rfl (s_mvB rfl (nt_ rfl (s_mvB rfl (eb_ (g:=20) rfl (fun g'5=>gn_ (b:=true) rfl rfl (gn_ (b:=true) rfl rfl (gn_ (b:=true) rfl rfl (pt_ rfl rfl (e_ (ct_ rfl (q_ rfl (s_mvL (f:=Pan.row) (l:=[]) rfl (m_ (e_ (rt_ (hQ _ _ _ _ _ rfl rfl (e'4.2.1 g'5))))))))))))) (fun g'5=>gy_ rfl (s_mvL rfl (gy_ rfl (ll_ rfl (gy_ rfl (b_ rfl rfl gtr_ (pf_ rfl rfl (e_ (cs_ rfl (fun g'6=>q_ rfl (s_mvL (f:=Pan.row) (l:=[]) rfl (m_ (e_ (rt_ (hQ _ _ _ _ _ rfl rfl ((e'4.2.2 g'5).1 g'6))))))) (fun g'6=>sk_ (w168_1 hQ rfl ((e'4.2.2 g'5).2 g'6))))))))))))))))))))))))))))))))))))))
end
theorem p168 {prog:Prog}(hf:prog.fn 168 = some pf168){s0:List UInt8}{K:List Pan→Int→Prop}(h:T168_0 prog K s0) :∃res0:List Pan,∃res1:Int,K res0 res1∧Pus prog 168 [.s s0] (.tup [.sl .ext (List.map Pan.row res0),.i .i64 res1]):=by
  obtain ⟨v,hv,res0,res1,hk,rfl⟩:=Pus.of (K:=fun v=>∃res0:List Pan,∃res1:Int,K res0 res1∧v = .tup [.sl .ext (List.map Pan.row res0),.i .i64 res1]) hf rfl (w168_0 (σ:=sl0 [.s s0]) (fun σ st  o0 res0 res1 H2 H3 hk=>⟨.tup [.sl o0 (List.map Pan.row res0),.i .i64 res1],by simp only [pf168,ares,aresL,H2,H3,ares1,Option.map_some],_,rfl,res0,res1,hk,rfl⟩) rfl h)
  exact ⟨res0,res1,hk,hv⟩
def r189_0:List AI:=[oC 4 (.s [])]
def r189_1:List AI:=[oM 5 0,
 oM 6 1,
 oO 7 (.call false 196 [(.t 5),(.t 6)]),
 oM 4 7]
abbrev b189:AC:=(.seq (.reg 0 r189_0) (.seq (.reg 1 r189_1) .ret))
def pf189:AF:={ nt:=8,res:=[.tmp 4],body:=b189 }
abbrev H189 (Q:AE→Sl→St→Prop)(K:List UInt8→Prop):Prop:=∀(σ:Sl)(st:St)(res0:List UInt8),σ 4 = .s res0→K res0→Q .ret σ st
def T189_0 (prog:Prog)(K:List UInt8→Prop)(s0:List UInt8)(suffix1:List UInt8):Prop:=
  ∃r'1:List UInt8,Pus prog 196 [.s s0,.s suffix1] (.s r'1)∧K r'1
section
variable {prog:Prog}{d:Nat}{Q:AE→Sl→St→Prop}{K:List UInt8→Prop}(hQ:H189 Q K){σ:Sl}{st:St}
include hQ
theorem w189_0 {s0 suffix1:List UInt8}(H0:σ 0 = .s s0)(H1:σ 1 = .s suffix1)(h:T189_0 prog K s0 suffix1):W prog d (.seq (.reg 0 r189_0) (.seq (.reg 1 r189_1) .ret)) σ st Q:=
 q_ rfl (m_ (e_ (q_ rfl (m_ (m_ (h.elim fun r'1 e'2=>ca_ (sc H0 rfl (sc H1 rfl sn)) e'2.1 (m_ (e_ (rt_ (hQ _ _ _ rfl e'2.2))))))))))
end
theorem p189 {prog:Prog}(hf:prog.fn 189 = some pf189){s0:List UInt8}{suffix1:List UInt8}{K:List UInt8→Prop}(h:T189_0 prog K s0 suffix1) :∃res0:List UInt8,K res0∧Pus prog 189 [.s s0,.s suffix1] (.s res0):=by
  obtain ⟨v,hv,res0,hk,rfl⟩:=Pus.of (K:=fun v=>∃res0:List UInt8,K res0∧v = .s res0) hf rfl (w189_0 (σ:=sl0 [.s s0,.s suffix1]) (fun σ st   res0 H4 hk=>⟨.s res0,by simp only [pf189,ares,aresL,H4,ares1,Option.map_some],_,rfl,res0,hk,rfl⟩) rfl rfl h)
  exact ⟨res0,hk,hv⟩
def r196_0:List AI:=[oC 4 (.s [])]
def r196_1:List AI:=[oM 5 0,
 oM 6 1,
 oO 7 (.call false 191 [(.t 5),(.t 6)])]
def r196_2:List AI:=[oM 8 0,
 oM 9 0,
 oO 10 (.len true (.t 9)),
 oM 11 1,
 oO 12 (.len true (.t 11)),
 oB 13 .sub (.t 10) (.t 12),
 oO 14 (.slS (.t 8) none (some (.t 13))),
 oM 4 14]
def r196_3:List AI:=[oM 15 0,
 oM 4 15]
abbrev b196:AC:=(.seq (.reg 0 r196_0) (.seq (.seq (.reg 1 r196_1) (.cond (.t 7) (.seq (.reg 2 r196_2) .ret) .skip)) (.seq (.reg 3 r196_3) .ret)))
def pf196:AF:={ nt:=16,res:=[.tmp 4],body:=b196 }
abbrev H196 (Q:AE→Sl→St→Prop)(K:List UInt8→Prop):Prop:=∀(σ:Sl)(st:St)(res0:List UInt8),σ 4 = .s res0→K res0→Q .ret σ st
def T196_0 (prog:Prog)(K:List UInt8→Prop)(s0:List UInt8)(suffix1:List UInt8):Prop:=
  ∃r'1:Bool,Pus prog 191 [.s s0,.s suffix1] (.b r'1)∧(r'1 = true→0≤(IntKind.i64.wrap ((s0.length:Int) - (suffix1.length:Int)))∧(IntKind.i64.wrap ((s0.length:Int) - (suffix1.length:Int))).toNat≤s0.length∧K (s0.take (IntKind.i64.wrap ((s0.length:Int) - (suffix1.length:Int))).toNat))∧(r'1 = false→K s0)
section
variable {prog:Prog}{d:Nat}{Q:AE→Sl→St→Prop}{K:List UInt8→Prop}(hQ:H196 Q K){σ:Sl}{st:St}
include hQ
theorem w196_0 {s0 suffix1:List UInt8}(H0:σ 0 = .s s0)(H1:σ 1 = .s suffix1)(h:T196_0 prog K s0 suffix1):W prog d (.seq (.reg 0 r196_0) (.seq (.seq (.reg 1 r196_1) (.cond (.t 7) (.seq (.reg 2 r196_2) .ret) .skip)) (.seq (.reg 3 r196_3) .ret))) σ st Q:=
 q_ rfl (m_ (e_ (sq_ (q_ rfl (m_ (m_ (h.elim fun r'1 e'2=>ca_ (sc H0 rfl (sc H1 rfl sn)) e'2.1 (e_ (cb_ rfl (fun g'3=>q_ rfl (m_ (m_ (ln_ H0 (m_ (ln_ H1 (b_ rfl rfl sub_ (s_slS_hi H0 rfl (e'2.2.1 g'3).1 (e'2.2.1 g'3).2.1 (m_ (e_ (rt_ (hQ _ _ _ rfl (e'2.2.1 g'3).2.2)))))))))))) (fun g'3=>sk_ (q_ rfl (m_ (m_ (e_ (rt_ (hQ _ _ _ H0 (e'2.2.2 g'3)))))))))))))))))
end
theorem p196 {prog:Prog}(hf:prog.fn 196 = some pf196){s0:List UInt8}{suffix1:List UInt8}{K:List UInt8→Prop}(h:T196_0 prog K s0 suffix1) :∃res0:List UInt8,K res0∧Pus prog 196 [.s s0,.s suffix1] (.s res0):=by
  obtain ⟨v,hv,res0,hk,rfl⟩:=Pus.of (K:=fun v=>∃res0:List UInt8,K res0∧v = .s res0) hf rfl (w196_0 (σ:=sl0 [.s s0,.s suffix1]) (fun σ st   res0 H4 hk=>⟨.s res0,by simp only [pf196,ares,aresL,H4,ares1,Option.map_some],_,rfl,res0,hk,rfl⟩) rfl rfl h)
  exact ⟨res0,hk,hv⟩
def r151_0:List AI:=[oC 4 (.b false)]
def r151_1:List AI:=[oM 17 0,
 oO 18 (.call false 162 [(.t 17)]),
 oM 19 18,
 oG 20 (.mv (.t 1)) 19 false,
 oG 21 (.len true (.t 20)) 19 false,
 oG 22 (.bin .gtr (.t 21) (.c (.i .i64 3000))) 19 false,
 oG 23 (.mv (.t 22)) 19 false,
 oG 24 (.mv (.t 1)) 23 true,
 oG 25 (.len true (.t 24)) 23 true,
 oG 26 (.bin .leq (.t 25) (.c (.i .i64 120000))) 23 true,
 oG 27 (.pick (.t 23) (.t 26) (.c (.b false))) 19 false,
 oO 28 (.pick (.t 19) (.c (.b true)) (.t 27)),
 oM 29 28,
 oG 30 (.mv (.t 1)) 29 false,
 oG 31 (.len true (.t 30)) 29 false,
 oG 32 (.bin .gtr (.t 31) (.c (.i .i64 120100))) 29 false,
 oO 33 (.pick (.t 29) (.c (.b true)) (.t 32))]
def r151_2:List AI:=[oC 4 (.b true)]
def r151_3:List AI:=[oM 35 0,
 oO 36 (.call false 164 [(.t 35)]),
 oM 34 36,
 oE 37 0 34,
 oE 38 1 34,
 oM 5 37,
 oM 6 38]
def r151_4:List AI:=[oM 40 0,
 oO 41 (.call false 166 [(.t 40)]),
 oM 39 41,
 oE 42 0 39,
 oE 43 1 39,
 oM 7 42,
 oM 8 43]
def r151_5:List AI:=[oM 45 1,
 oO 46 (.call false 167 [(.t 45)]),
 oM 44 46,
 oE 47 0 44,
 oE 48 1 44,
 oM 9 47,
 oM 10 48]
def r151_6:List AI:=[oM 50 1,
 oO 51 (.call false 168 [(.t 50)]),
 oM 49 51,
 oE 52 0 49,
 oE 53 1 49,
 oM 11 52,
 oM 12 53]
def r151_7:List AI:=[oM 55 0,
 oO 56 (.call false 165 [(.t 55)]),
 oM 54 56,
 oE 57 0 54,
 oE 58 1 54,
 oM 13 57,
 oM 14 58]
def r151_8:List AI:=[oM 60 0,
 oO 61 (.call false 169 [(.t 60)]),
 oM 59 61,
 oE 62 0 59,
 oE 63 1 59,
 oM 15 62,
 oM 16 63]
def r151_9:List AI:=[oM 64 5,
 oM 65 7,
 oB 66 .eql (.t 64) (.t 65),
 oM 67 66,
 oG 68 (.mv (.t 6)) 67 true,
 oG 69 (.mv (.t 8)) 67 true,
 oG 70 (.bin .eql (.t 68) (.t 69)) 67 true,
 oO 71 (.pick (.t 67) (.t 70) (.c (.b false))),
 oM 72 71,
 oG 73 (.mv (.t 9)) 72 true,
 oG 74 (.mv (.t 11)) 72 true,
 oG 75 (.call false 170 [(.t 73),(.t 74)]) 72 true,
 oO 76 (.pick (.t 72) (.t 75) (.c (.b false))),
 oM 77 76,
 oG 78 (.mv (.t 10)) 77 true,
 oG 79 (.mv (.t 12)) 77 true,
 oG 80 (.bin .eql (.t 78) (.t 79)) 77 true,
 oO 81 (.pick (.t 77) (.t 80) (.c (.b false))),
 oM 82 81,
 oG 83 (.mv (.t 13)) 82 true,
 oG 84 (.mv (.t 15)) 82 true,
 oG 85 (.bin .eql (.t 83) (.t 84)) 82 true,
 oO 86 (.pick (.t 82) (.t 85) (.c (.b false))),
 oM 87 86,
 oG 88 (.mv (.t 14)) 87 true,
 oG 89 (.mv (.t 16)) 87 true,
 oG 90 (.bin .eql (.t 88) (.t 89)) 87 true,
 oO 91 (.pick (.t 87) (.t 90) (.c (.b false))),
 oM 4 91]
abbrev c151_0:AC:=(.seq (.reg 4 r151_4) (.seq (.reg 5 r151_5) (.seq (.reg 6 r151_6) (.seq (.reg 7 r151_7) (.seq (.reg 8 r151_8) (.seq (.reg 9 r151_9) .ret))))))
abbrev c151_1:AC:=(.seq (.reg 3 r151_3) c151_0)
abbrev c151_2:AC:=(.seq (.seq (.reg 1 r151_1) (.cond (.t 33) (.seq (.reg 2 r151_2) .ret) .skip)) c151_1)
abbrev b151:AC:=(.seq (.reg 0 r151_0) c151_2)
def pf151:AF:={ nt:=92,res:=[.tmp 4],body:=b151 }
abbrev H151 (Q:AE→Sl→St→Prop)(K:Bool→Prop):Prop:=∀(σ:Sl)(st:St)(res0:Bool),σ 4 = .b res0→K res0→Q .ret σ st
def T151_3 (prog:Prog)(K:Bool→Prop)(l0:List Pan)(s1:List UInt8)(a5:List UInt8)(e6:Int):Prop:=
  ∃r'1:List UInt8,∃r'2:Int,Pus prog 166 [.sl .ext (List.map Pan.row l0)] (.tup [.s r'1,.i .i64 r'2])∧∃r'4:List Pan,∃r'5:Int,Pus prog 167 [.s s1] (.tup [.sl .ext (List.map Pan.row r'4),.i .i64 r'5])∧∃r'7:List Pan,∃r'8:Int,Pus prog 168 [.s s1] (.tup [.sl .ext (List.map Pan.row r'7),.i .i64 r'8])∧∃r'10:Int,∃r'11:Int,Pus prog 165 [.sl .ext (List.map Pan.row l0)] (.tup [.i .i64 r'10,.i .i64 r'11])∧∃r'13:Int,∃r'14:Int,Pus prog 169 [.sl .ext (List.map Pan.row l0)] (.tup [.i .i64 r'13,.i .i64 r'14])∧(a5 = r'1→(e6 = r'2→∃r'18:Bool,Pus prog 170 [.sl .ext (List.map Pan.row r'4),.sl .ext (List.map Pan.row r'7)] (.b r'18)∧(r'18 = true→(r'5 = r'8→(r'10 = r'13→K (decide (r'11 = r'14)))∧(¬(r'10 = r'13)→K false))∧(¬(r'5 = r'8)→K false))∧(r'18 = false→K false))∧(¬(e6 = r'2)→K false))∧(¬(a5 = r'1)→K false)
def T151_2 (prog:Prog)(K:Bool→Prop)(l0:List Pan)(s1:List UInt8):Prop:=
  ∃r'1:List UInt8,∃r'2:Int,Pus prog 164 [.sl .ext (List.map Pan.row l0)] (.tup [.s r'1,.i .i64 r'2])∧T151_3 prog K l0 s1 r'1 r'2
def T151_1 (prog:Prog)(K:Bool→Prop)(l0:List Pan)(s1:List UInt8):Prop:=
  ∃r'1:Bool,Pus prog 162 [.sl .ext (List.map Pan.row l0)] (.b r'1)∧(r'1 = true→K true)∧(r'1 = false→((s1.length:Int) > 3000→((s1.length:Int)≤120000→K true)∧(¬((s1.length:Int)≤120000)→((s1.length:Int) > 120100→K true)∧(¬((s1.length:Int) > 120100)→T151_2 prog K l0 s1)))∧(¬((s1.length:Int) > 3000)→((s1.length:Int) > 120100→K true)∧(¬((s1.length:Int) > 120100)→T151_2 prog K l0 s1)))
def T151_0 (prog:Prog)(K:Bool→Prop)(l0:List Pan)(s1:List UInt8):Prop:=
  T151_1 prog K l0 s1
section
variable {prog:Prog}{d:Nat}{Q:AE→Sl→St→Prop}{K:Bool→Prop}(hQ:H151 Q K){σ:Sl}{st:St}
include hQ
theorem w151_3 {l0:List Pan}{s1 a5:List UInt8}{e6:Int}{o_l0:Own}(H0:σ 0 = .sl o_l0 (List.map Pan.row l0))(H1:σ 1 = .s s1)(H5:σ 5 = .s a5)(H6:σ 6 = .i .i64 e6)(h:T151_3 prog K l0 s1 a5 e6):W prog d c151_0 σ st Q:=
 q_ rfl (s_mvL H0 (h.elim fun r'1 e'27=>e'27.elim fun r'2 e'3=>ca_ (sc rfl rfl sn) e'3.1 (m_ (x_ rfl rfl (x_ rfl rfl (m_ (m_ (e_ (q_ rfl (m_ (e'3.2.elim fun r'4 e'26=>e'26.elim fun r'5 e'6=>ca_ (sc H1 rfl sn) e'6.1 (m_ (x_ rfl rfl (x_ rfl rfl (s_mvL rfl (m_ (e_ (q_ rfl (m_ (e'6.2.elim fun r'7 e'25=>e'25.elim fun r'8 e'9=>ca_ (sc H1 rfl sn) e'9.1 (m_ (x_ rfl rfl (x_ rfl rfl (s_mvL rfl (m_ (e_ (q_ rfl (s_mvL H0 (e'9.2.elim fun r'10 e'24=>e'24.elim fun r'11 e'12=>ca_ (sc rfl rfl sn) e'12.1 (m_ (x_ rfl rfl (x_ rfl rfl (m_ (m_ (e_ (q_ rfl (s_mvL H0 (e'12.2.elim fun r'13 e'23=>e'23.elim fun r'14 e'15=>ca_ (sc rfl rfl sn) e'15.1 (m_ (x_ rfl rfl (x_ rfl rfl (m_ (m_ (e_ (q_ rfl (s_mvS H5 (s_mvS rfl (b_ rfl rfl seq_ (s_mvB rfl (em_ (g:=67) rfl (fun g'16=>gy_ rfl (s_mvI H6 (gy_ rfl (s_mvI rfl (gy_ rfl (b_ rfl rfl eql_ (pt_ rfl rfl (s_mvB rfl (em_ (g:=72) rfl (fun g'17=>gy_ rfl (s_mvL rfl (gy_ rfl (s_mvL rfl (gy_ rfl (((e'15.2.1 g'16).1 g'17).elim fun r'18 e'19=>ca_ (sc rfl rfl (sc rfl rfl sn)) e'19.1 (pt_ rfl rfl (s_mvB rfl (eb_ (g:=77) rfl (fun g'20=>gy_ rfl (s_mvI rfl (gy_ rfl (s_mvI rfl (gy_ rfl (b_ rfl rfl eql_ (pt_ rfl rfl (s_mvB rfl (em_ (g:=82) rfl (fun g'21=>gy_ rfl (s_mvI rfl (gy_ rfl (s_mvI rfl (gy_ rfl (b_ rfl rfl eql_ (pt_ rfl rfl (s_mvB rfl (em_ (g:=87) rfl (fun g'22=>gy_ rfl (s_mvI rfl (gy_ rfl (s_mvI rfl (gy_ rfl (b_ rfl rfl eql_ (pt_ rfl rfl (s_mvB rfl (e_ (rt_ (hQ _ _ _ rfl (((e'19.2.1 g'20).1 g'21).1 g'22)))))))))))) (fun g'22=>gn_ (b:=false) rfl rfl (gn_ (b:=false) rfl rfl (gn_ (b:=false) rfl rfl (pf_ rfl rfl (s_mvB rfl (e_ (rt_ (hQ _ _ _ rfl (((e'19.2.1 g'20).1 g'21).2 g'22)))))))))))))))))) (fun g'21=>gn_ (b:=false) rfl rfl (gn_ (b:=false) rfl rfl (gn_ (b:=false) rfl rfl (pf_ rfl rfl (s_mvB rfl (gn_ (b:=false) rfl rfl (gn_ (b:=false) rfl rfl (gn_ (b:=false) rfl rfl (pf_ rfl rfl (s_mvB rfl (e_ (rt_ (hQ _ _ _ rfl ((e'19.2.1 g'20).2 g'21))))))))))))))))))))))) (fun g'20=>gn_ (b:=false) rfl rfl (gn_ (b:=false) rfl rfl (gn_ (b:=false) rfl rfl (pf_ rfl rfl (s_mvB rfl (gn_ (b:=false) rfl rfl (gn_ (b:=false) rfl rfl (gn_ (b:=false) rfl rfl (pf_ rfl rfl (s_mvB rfl (gn_ (b:=false) rfl rfl (gn_ (b:=false) rfl rfl (gn_ (b:=false) rfl rfl (pf_ rfl rfl (s_mvB rfl (e_ (rt_ (hQ _ _ _ rfl (e'19.2.2 g'20)))))))))))))))))))))))))))) (fun g'17=>gn_ (b:=false) rfl rfl (gn_ (b:=false) rfl rfl (gn_ (b:=false) rfl rfl (pf_ rfl rfl (s_mvB rfl (gn_ (b:=false) rfl rfl (gn_ (b:=false) rfl rfl (gn_ (b:=false) rfl rfl (pf_ rfl rfl (s_mvB rfl (gn_ (b:=false) rfl rfl (gn_ (b:=false) rfl rfl (gn_ (b:=false) rfl rfl (pf_ rfl rfl (s_mvB rfl (gn_ (b:=false) rfl rfl (gn_ (b:=false) rfl rfl (gn_ (b:=false) rfl rfl (pf_ rfl rfl (s_mvB rfl (e_ (rt_ (hQ _ _ _ rfl ((e'15.2.1 g'16).2 g'17))))))))))))))))))))))))))))))))) (fun g'16=>gn_ (b:=false) rfl rfl (gn_ (b:=false) rfl rfl (gn_ (b:=false) rfl rfl (pf_ rfl rfl (s_mvB rfl (gn_ (b:=false) rfl rfl (gn_ (b:=false) rfl rfl (gn_ (b:=false) rfl rfl (pf_ rfl rfl (s_mvB rfl (gn_ (b:=false) rfl rfl (gn_ (b:=false) rfl rfl (gn_ (b:=false) rfl rfl (pf_ rfl rfl (s_mvB rfl (gn_ (b:=false) rfl rfl (gn_ (b:=false) rfl rfl (gn_ (b:=false) rfl rfl (pf_ rfl rfl (s_mvB rfl (gn_ (b:=false) rfl rfl (gn_ (b:=false) rfl rfl (gn_ (b:=false) rfl rfl (pf_ rfl rfl (s_mvB rfl (e_ (rt_ (hQ _ _ _ rfl (e'15.2.2 g'16)))))))))))))))))))))))))))))))))))))))))))))))))))))))))))))))))))))))))))))))
theorem w151_2 {l0:List Pan}{s1:List UInt8}{o_l0:Own}(H0:σ 0 = .sl o_l0 (List.map Pan.row l0))(H1:σ 1 = .s s1)(h:T151_2 prog K l0 s1):W prog d c151_1 σ st Q:=
 q_ rfl (s_mvL H0 (h.elim fun r'1 e'4=>e'4.elim fun r'2 e'3=>ca_ (sc rfl rfl sn) e'3.1 (m_ (x_ rfl rfl (x_ rfl rfl (m_ (m_ (e_ (w151_3 hQ H0 H1 rfl rfl e'3.2)))))))))
theorem w151_1 {l0:List Pan}{s1:List UInt8}{o_l0:Own}(H0:σ 0 = .sl o_l0 (List.map Pan.row l0))(H1:σ 1 = .s s1)(h:T151_1 prog K l0 s1):W prog d c151_2 σ st Q:=
 sq_ (q_ rfl (s_mvL H0 (h.elim fun r'1 e'2=>ca_ (sc rfl rfl sn) e'2.1 (s_mvB rfl (eb_ (g:=19) rfl (fun g'3=>gn_ (b:=true) rfl rfl (gn_ (b:=true) rfl rfl (gn_ (b:=true) rfl rfl (gn_ (b:=true) rfl rfl (gt_ rfl (gt_ rfl (gt_ rfl (gn_ (b:=true) rfl rfl (pt_ rfl rfl (s_mvB rfl (gn_ (b:=true) rfl rfl (gn_ (b:=true) rfl rfl (gn_ (b:=true) rfl rfl (pt_ rfl rfl (e_ (ct_ rfl (q_ rfl (m_ (e_ (rt_ (hQ _ _ _ rfl (e'2.2.1 g'3)))))))))))))))))))))) (fun g'3=>gy_ rfl (s_mvS H1 (gy_ rfl (ln_ rfl (gy_ rfl (b_ rfl rfl gtr_ (gy_ rfl (s_mvB rfl (em_ (g:=23) rfl (fun g'4=>gy_ rfl (s_mvS H1 (gy_ rfl (ln_ rfl (gy_ rfl (b_ rfl rfl leq_ (gy_ rfl (pt_ rfl rfl (pf_ rfl rfl (s_mvB rfl (em_ (g:=29) rfl (fun g'5=>gn_ (b:=true) rfl rfl (gn_ (b:=true) rfl rfl (gn_ (b:=true) rfl rfl (pt_ rfl rfl (e_ (ct_ rfl (q_ rfl (m_ (e_ (rt_ (hQ _ _ _ rfl (((e'2.2.2 g'3).1 g'4).1 g'5)))))))))))) (fun g'5=>gy_ rfl (s_mvS H1 (gy_ rfl (ln_ rfl (gy_ rfl (b_ rfl rfl gtr_ (pf_ rfl rfl (e_ (cs_ rfl (fun g'6=>q_ rfl (m_ (e_ (rt_ (hQ _ _ _ rfl ((((e'2.2.2 g'3).1 g'4).2 g'5).1 g'6)))))) (fun g'6=>sk_ (w151_2 hQ H0 H1 ((((e'2.2.2 g'3).1 g'4).2 g'5).2 g'6))))))))))))))))))))))) (fun g'4=>gn_ (b:=false) rfl rfl (gn_ (b:=false) rfl rfl (gn_ (b:=false) rfl rfl (gy_ rfl (pf_ rfl rfl (pf_ rfl rfl (s_mvB rfl (gy_ rfl (s_mvS H1 (gy_ rfl (ln_ rfl (gy_ rfl (b_ rfl rfl gtr_ (pf_ rfl rfl (e_ (cs_ rfl (fun g'7=>q_ rfl (m_ (e_ (rt_ (hQ _ _ _ rfl (((e'2.2.2 g'3).2 g'4).1 g'7)))))) (fun g'7=>sk_ (w151_2 hQ H0 H1 (((e'2.2.2 g'3).2 g'4).2 g'7)))))))))))))))))))))))))))))))))
theorem w151_0 {l0:List Pan}{s1:List UInt8}{o_l0:Own}(H0:σ 0 = .sl o_l0 (List.map Pan.row l0))(H1:σ 1 = .s s1)(h:T151_0 prog K l0 s1):W prog d (.seq (.reg 0 r151_0) c151_2) σ st Q:=
 q_ rfl (m_ (e_ (w151_1 hQ H0 H1 h)))
end
theorem p151 {prog:Prog}(hf:prog.fn 151 = some pf151){l0:List Pan}{s1:List UInt8}{K:Bool→Prop}(h:T151_0 prog K l0 s1) :∃res0:Bool,K res0∧Pus prog 151 [.sl .ext (List.map Pan.row l0),.s s1] (.b res0):=by
  obtain ⟨v,hv,res0,hk,rfl⟩:=Pus.of (K:=fun v=>∃res0:Bool,K res0∧v = .b res0) hf rfl (w151_0 (σ:=sl0 [.sl .ext (List.map Pan.row l0),.s s1]) (fun σ st   res0 H4 hk=>⟨.b res0,by simp only [pf151,ares,aresL,H4,ares1,Option.map_some],_,rfl,res0,hk,rfl⟩) rfl rfl h)
  exact ⟨res0,hk,hv⟩
abbrev H153 (Q:AE→Sl→St→Prop)(K:Bool→Prop):Prop:=∀(σ:Sl)(st:St)(res0:Bool),σ 4 = .b res0→K res0→Q .ret σ st
section
variable {prog:Prog}{d:Nat}{Q:AE→Sl→St→Prop}{K:Bool→Prop}(hQ:H153 Q K){σ:Sl}{st:St}
include hQ
end
end Go.AM

namespace Go.AM
open Go Go.RowKit
abbrev wideR (l:Nat):Fence:=Fence.wide.inRound l
theorem rows_in {P:Program} {row:String} {args:Array Value} {w:World} {R:Value→World→Prop} (h:Rows P row args w R) (r n:Nat):RowsIn (wideR r) n P row args w R:=fun c cs _=>by
  obtain ⟨v,w',h1,h2⟩:=h c cs
  exact ⟨v,w',h1,stepsIn_wide.2 h2⟩
theorem calls_in {P:Program} {f:FuncId} {args:Array Value} {w:World} {R:Ending→World→Prop} (h:Calls P f args w R) (r n:Nat):CallsIn (wideR r) n P f args w R:=CallsIn.inRound r (callsIn_wide.2 h)
theorem oper_in {P:Program} {o:Oper} (hd :∀c,o.op≠.defer c) {a:Act} {w:World} {next next':Act→World→Prop} {Q:Exit→Act→World→Prop} (hQ:¬LetsOut Q) (hn :∀a w,next a w→next' a w) (h:o.wp P a w next Q) (r n:Nat):o.wpIn (wideR r) n P a w next' Q:=by
  refine ⟨fun _ _=>trivial,?_⟩
  rw [Oper.semAt_eq _ _ _ hd]
  unfold Oper.wp at h
  generalize (execOp a.eval o).run P w = res at h ⊢
  cases res with
  | ok x w'=>
    cases x with
    | value v=>exact hn _ _ h
    | skip=>exact hn _ _ h
    | defer d=>exact hn _ _ h
    | enter f args=>
      refine ⟨fun h=>(by cases h),(calls_in h r (n - 1)).mono fun e w'' he=>?_⟩
      cases e with
      | returned v=>exact hn _ _ he
      | panicked c=>exact he
      | outgrown=>exact absurd he hQ
    | row row args=>exact ⟨fun h=>(by cases h),(rows_in h r (n - 1)).mono fun v w'' he=>hn _ _ he⟩
    | _=>exact h.elim
  | halt x w'=>
    cases x with
    | panic v=>exact h
    | _=>exact h.elim
theorem ops_in {P:Program} {ops:Array Oper} {Q:Exit→Act→World→Prop} (hQ:¬LetsOut Q) (hd :∀(i:Nat) o,ops[i]? = some o→∀c,o.op≠.defer c) (r n:Nat) :∀(l:List Nat) (a:Act) (w:World),wpOps P ops Q l a w→wpOpsIn (wideR r) n P ops Q l a w
  | [],a,w,h=>h
  | i :: l,a,w,h=>by
    simp only [wpOps] at h
    simp only [wpOpsIn]
    cases ho:ops[i]? with
    | none=>
      simp only [ho] at h ⊢
      exact ops_in hQ hd r n l a w h
    | some o=>
      simp only [ho] at h ⊢
      split at h
      · rename_i hw
        rw [if_pos hw]
        rcases h with h | ⟨_,h⟩
        · exact oper_in (hd i o ho) hQ (fun a w h=>ops_in hQ hd r n l a w h) h r n
        · exact absurd h hQ
      · rename_i hw
        rw [if_neg hw]
        exact ⟨fun _ _=>trivial,ops_in hQ hd r n l _ w h⟩
def noDefer (ops:Array Oper):Bool:=ops.toList.all fun o=>match o.op with | .defer _=>false | _=>true
theorem noDefer_get {ops:Array Oper} (h:noDefer ops = true) :∀(i:Nat) o,ops[i]? = some o→∀c,o.op≠.defer c:=fun i o ho c hc=>by
  have:=List.all_eq_true.1 h o (Array.mem_toList_iff.2 (Array.mem_of_getElem? ho))
  rw [hc] at this
  cases this
variable {P:Program} {X:Cx}
theorem region_in_round {C:CallF} (hT:TTok P X.T) (hC:CallOk P X.fm C) {nt d id:Nat} {ops:Array Oper} {aops:List AI} (hc:cOpers X nt ops ops.toList = some aops) (hbig:bigOk X id ops = true) (hnd:noDefer ops = true) {σ:Sl} {st:St} {σ':Sl} {st':St} (h:areg C d (bigId X id ops) aops σ st = some (σ',st')) {G:Gh} {w0 w:World} {a:Act} (hfm:X.fm = G.fm) (hA:RelA G nt σ a) (hR:Rel G w0 st w)
    {Q:Exit→Act→World→Prop} (hQ :∀a' w' G',RelA G' nt σ' a'→Run G G' w0 st st' w' d→Q .normal a' w') (r n:Nat):(Code.region id ops false).wpIn (wideR r) n P Q a w:=by
  refine wpIn_mono (wpIn_region (ops_in (Q:=fun e a w=>e = .normal∧Q e a w) (fun h=>by obtain ⟨_,_,h,_⟩:=h; cases h) (noDefer_get hnd) r n _ _ _ ?_)) fun e a w h=>h.2
  have hlen0:aops.length = ops.size:=by
    have:=(cOpers_get hc).1
    simpa using this.symm
  unfold areg at h
  rw [aregL_O (ops:=aops) (fun j=>by simp)] at h
  rw [← List.range_eq_range'] at h
  obtain ⟨h1,h2⟩:=region_in (d:=d) (id:=bigId X id ops) (aops:=aops) hR (l:=List.range ops.size)
  rw [hlen0] at h
  exact ops_ok hT hC hc (bigOk_inv hbig) (Nat.le_refl _) (fun a' w' G' h3 h4=>⟨rfl,hQ a' w' G' h3 h4⟩) (List.range ops.size) hfm List.nodup_range hA h1 h2 (by rw [hlen0]; exact h)
end Go.AM

namespace Go.AM
open Go Go.RowKit
section
variable {P:Program} {X:Cx}
def plainR (X:Cx) (nt:Nat):Code→Bool
  | .skip=>true
  | .region _ ops draw=>!draw && (cLitB X nt ops draw).isNone && noDefer ops
  | .seq a b=>plainR X nt a && plainR X nt b
  | .cond _ a b=>plainR X nt a && plainR X nt b
  | .block _ c=>plainR X nt c
  | .exit _=>true
  | .ret=>true
  | _=>false
theorem region_round {C:CallF} (hT:TTok P X.T) (hC:CallOk P X.fm C) {nt d id n:Nat} {ops:Array Oper} {draw:Bool} {ac:AC} (hp:plainR X nt (.region id ops draw) = true) (hcr:cRegion X nt id ops draw = some ac) {σ:Sl} {st:St} {e:AE} {σ':Sl} {st':St} (h:acode C n d ac σ st = some (e,σ',st')) {G:Gh} {w0 w:World} {a:Act} (hfm:X.fm = G.fm) (hA:RelA G nt σ a) (hR:Rel G w0 st w)
    {Q:Exit→Act→World→Prop} (hQ :∀a' w' G',RelA G' nt σ' a'→Run G G' w0 st st' w' d→Q (toExit e) a' w') (r m:Nat):(Code.region id ops draw).wpIn (wideR r) m P Q a w:=by
  simp only [plainR,Bool.and_eq_true,Bool.not_eq_true'] at hp
  obtain ⟨⟨hd,hl⟩,hnd⟩:=hp
  subst hd
  unfold cRegion at hcr
  split at hcr
  · rename_i aops h1
    rw [h1] at hl; cases hl
  split at hcr
  case h_2=>cases hcr
  rename_i aops hc
  split at hcr
  case isFalse=>cases hcr
  rename_i hbig
  rw [if_neg (by simp)] at hcr
  cases hcr
  simp only [acode,Option.map_eq_some_iff,Prod.mk.injEq] at h
  obtain ⟨⟨σ1,st1⟩,h,rfl,rfl,rfl⟩:=h
  exact region_in_round hT hC hc hbig hnd h hfm hA hR hQ r m
theorem code_in_round {C:CallF} (hT:TTok P X.T) (hC:CallOk P X.fm C) {nt:Nat} (n d:Nat) :∀(c:Code),plainR X nt c = true→∀{ac:AC},cCode X nt c = some ac→∀{σ:Sl} {st:St} {e:AE} {σ':Sl} {st':St},acode C n d ac σ st = some (e,σ',st')→∀{G:Gh} {w0 w:World} {a:Act},X.fm = G.fm→RelA G nt σ a→Rel G w0 st w→
    ∀{Q:Exit→Act→World→Prop},(∀a' w' G',RelA G' nt σ' a'→Run G G' w0 st st' w' d→Q (toExit e) a' w')→∀(r m:Nat),c.wpIn (wideR r) m P Q a w:=by
  intro c
  induction c with
  | skip=>
    intro _ ac hc σ st e σ' st' h G w0 w a hfm hA hR Q hQ r m
    cases hc; cases h
    exact wpIn_skip (hQ a w G hA (.refl hR))
  | exit id=>
    intro _ ac hc σ st e σ' st' h G w0 w a hfm hA hR Q hQ r m
    cases hc; cases h
    exact wpIn_exit (hQ a w G hA (.refl hR))
  | ret=>
    intro _ ac hc σ st e σ' st' h G w0 w a hfm hA hR Q hQ r m
    cases hc; cases h
    exact wpIn_ret (hQ a w G hA (.refl hR))
  | region id ops draw=>
    intro hp ac hc σ st e σ' st' h G w0 w a hfm hA hR Q hQ r m
    unfold cCode at hc
    split at hc
    · rename_i x hx; cases hc; exact region_round hT hC hp hx h hfm hA hR hQ r m
    · cases hc
      simp only [stk,acode,Opd.ev] at h
      cases h
  | seq x y ihx ihy=>
    intro hp ac hc σ st e σ' st' h G w0 w a hfm hA hR Q hQ r m
    simp only [plainR,Bool.and_eq_true] at hp
    unfold cCode at hc
    split at hc
    case h_2=>cases hc
    rename_i ax ay hx hy
    cases hc
    simp only [acode] at h
    split at h
    · rename_i σ1 st1 h1
      refine wpIn_seq (ihx hp.1 hx h1 hfm hA hR (fun a1 w1 G1 hA1 hrun1=>?_) r m)
      exact ihy hp.2 hy h (by rw [hrun1.le.fm]; exact hfm) hA1 hrun1.rel (fun a2 w2 G2 hA2 hrun2=>hQ a2 w2 G2 hA2 (hrun1.trans hrun2)) r m
    · rename_i hne
      refine wpIn_seq (ihx hp.1 hx h hfm hA hR (fun a1 w1 G1 hA1 hrun1=>?_) r m)
      have:=hQ a1 w1 G1 hA1 hrun1
      cases e with
      | normal=>exact absurd h (hne _ _)
      | exit id=>exact this
      | ret=>exact this
      | goto l=>exact this
  | cond z x y ihx ihy=>
    intro hp ac hc σ st e σ' st' h G w0 w a hfm hA hR Q hQ r m
    simp only [plainR,Bool.and_eq_true] at hp
    unfold cCode at hc
    split at hc
    case h_2=>cases hc
    rename_i az ax ay hz hx hy
    cases hc
    simp only [acode] at h
    rw [hfm] at hz
    have hv:=cOpd_ok hA hz
    unfold Same at hv
    revert hv
    split at h
    · rename_i ht
      rw [ht]
      intro hv
      exact wpIn_cond_true hv.bool_inv (ihx hp.1 hx h hfm hA hR hQ r m)
    · rename_i ht
      rw [ht]
      intro hv
      exact wpIn_cond_false hv.bool_inv (ihy hp.2 hy h hfm hA hR hQ r m)
    · cases h
  | block id c ih=>
    intro hp ac hc σ st e σ' st' h G w0 w a hfm hA hR Q hQ r m
    simp only [plainR] at hp
    unfold cCode at hc
    split at hc
    case h_2=>cases hc
    rename_i x hx
    cases hc
    simp only [acode] at h
    refine wpIn_block ?_
    split at h
    · rename_i id' σ1 st1 h1
      refine ih hp hx h1 hfm hA hR (fun a1 w1 G1 hA1 hrun1=>?_) r m
      split at h
      · rename_i hid
        cases h
        have:=hQ a1 w1 G1 hA1 hrun1
        simp only [toExit,Exit.inBlock,hid,if_true]
        exact this
      · rename_i hid
        cases h
        have:=hQ a1 w1 G1 hA1 hrun1
        simp only [toExit,Exit.inBlock,hid,if_false]
        exact this
    · rename_i hne
      refine ih hp hx h hfm hA hR (fun a1 w1 G1 hA1 hrun1=>?_) r m
      have:=hQ a1 w1 G1 hA1 hrun1
      cases e with
      | normal=>exact this
      | exit id'=>exact absurd h (hne _ _ _)
      | ret=>exact this
      | goto l=>exact this
  | loop c ih=>intro hp; cases hp
  | rangeFunc f ps x y ihx ihy=>intro hp; cases hp
  | scope c ih=>intro hp; cases hp
  | label l=>intro hp; cases hp
  | goto l=>intro hp; cases hp
  | refuse w=>intro hp; cases hp
end
theorem obN_no {o:Obj} (h:obN o = true) (h':o.isCells = true):False:=by cases o <;> first | (cases h; done) | (cases h'; done)
section
variable {G:Gh} {w0 w:World} {st:St}
def Gh.setM (G:Gh) (b:Nat) (x:MO):Gh:=⟨G.H,G.ρ,G.ω,G.fm,fun b'=>if b' = b then some x else G.M b'⟩
theorem Gh.setM_at (b:Nat) (x:MO):(G.setM b x).M b = some x:=if_pos rfl
theorem Gh.setM_ne {b b':Nat} (x:MO) (h:b'≠b):(G.setM b x).M b' = G.M b':=if_neg h
theorem Gh.setM_le {b:Nat} {x:MO} (h :∀l,G.M b≠some (.mp l)):G.LeR (G.setM b x):=⟨fun _ _ _ h=>h,fun _ _ _ h=>h,fun _ _ _ h=>h,rfl,fun b' l h'=>by
  show (if b' = b then some x else G.M b') = _
  rw [if_neg (by rintro rfl; exact h l h')]
  exact h'⟩
theorem Gh.setM_leM {b:Nat} {x:MO} (h:G.M b = none):G.Le (G.setM b x):=⟨fun _ _ _ h=>h,fun _ _ _ h=>h,fun _ _ _ h=>h,rfl,fun b' l h'=>by
  show (if b' = b then some x else G.M b') = _
  rw [if_neg (by rintro rfl; rw [h] at h'; cases h')]
  exact h'⟩
theorem Rel.putOb (hR:Rel G w0 st w) {b:Nat} {o o':Obj} (hb:w.heap[b]? = some o) (ho:obN o = true) (ho2:obN o' = true) (hge:w0.heap.size≤b) (hn :∀l,G.M b≠some (.mp l)):Rel (G.setM b (.ob o')) w0 st (w.putObj b o'):=by
  have hlt:=block_lt hb
  have hle:=Gh.setM_le (G:=G) (x:=.ob o') hn
  have hh :∀i,i≠b→(w.putObj b o').heap[i]? = w.heap[i]?:=fun i hi=>World.putObj_heap_other hi
  have hcell :∀{g:Nat} {cs:Array Value} {e:TypeId} {z:Nat × Nat},w.heap[g]? = some (.cells cs e z)→g≠b:=by
    rintro g cs e z h rfl
    rw [hb] at h
    cases h
    cases ho
  have hbel:Below w0.heap.size w (w.putObj b o'):=(Below.refl _ w).grown (grownBy_putObj' w b o') hR.bel.size (fun k e=>by cases e; exact hge)
  refine ⟨hR.bel.trans hbel,fun g o v h=>?_,fun k ver cs g h1 h2=>?_,hR.inj,fun k ver n h=>?_,hR.owinj,hR.fresh,fun k ver cs g h0 h1 h2=>?_,fun k ver n h0 h1 g cap size h2=>?_,fun b' x hx=>?_⟩
  · obtain ⟨h1,h2⟩:=hR.ext g o v h
    refine ⟨?_,h2⟩
    obtain ⟨ob,h3,h4⟩:=cells_of_cell h1
    have hne:g≠b:=by
      rintro rfl
      rw [hb] at h3
      cases h3
      exact obN_no ho h4
    exact (World.cell?_of_block (w:=w) (hh g hne)).trans h1
  · obtain ⟨us,e,a1,a2,a3,a4,a5⟩:=hR.bx k ver cs g h1 h2
    exact ⟨us,e,a1,(hh g (hcell a2)).trans a2,a3.monoR hle,a4,a5⟩
  · obtain ⟨g,cap,size,h1,⟨cur,e,a1,a2,a3⟩,h2⟩:=hR.ow k ver n h
    exact ⟨g,cap,size,h1,⟨cur,e,a1,(hh g (hcell a2)).trans a2,a3⟩,h2⟩
  · obtain ⟨us,a1,a2⟩:=hR.bxT k ver cs g h0 h1 h2
    exact ⟨us,(hh g (hcell a1)).trans a1,a2⟩
  · obtain ⟨us,a1⟩:=hR.owT k ver n h0 h1 g cap size h2
    exact ⟨us,(hh g (hcell a1)).trans a1⟩
  · by_cases e:b' = b
    · subst e
      rw [Gh.setM_at] at hx
      cases hx
      exact ⟨World.putObj_heap_same hlt,ho2⟩
    · rw [Gh.setM_ne _ e] at hx
      exact (hR.mp b' x hx).keep fun o _ _=>hh b' e
theorem Rel.newOb (hR:Rel G w0 st w) {o:Obj} (ho:obN o = true):G.M w.heap.size = none∧Rel (G.setM w.heap.size (.ob o)) w0 st (w.alloc o):=by
  have hb:Below w.heap.size w (w.alloc o):=(Below.refl _ w).alloc (Nat.le_refl _) o
  have hn:G.M w.heap.size = none:=by
    cases h:G.M w.heap.size with
    | none=>rfl
    | some x=>
      exfalso
      have:=hR.mp _ x h
      cases x with
      | mp l=>obtain ⟨_,_,h1,_⟩:=this; exact Nat.lt_irrefl _ (block_lt h1)
      | ob o=>exact Nat.lt_irrefl _ (block_lt this.1)
  refine ⟨hn,(hR.below hb).setM (Gh.setM_leM (x:=.ob o) hn).M fun b x (hx:(G.setM w.heap.size (.ob o)).M b = some x)=>?_⟩
  by_cases h:b = w.heap.size
  · subst h
    rw [Gh.setM_at] at hx
    cases hx
    exact ⟨World.alloc_heap_new w o,ho⟩
  · rw [Gh.setM_ne _ h] at hx
    exact (hR.below hb).mp b x hx
end
end Go.AM

namespace Go.AM
open Go
structure Has03 (prog:Prog):Prop where
  f42:prog.fn 42 = some pf42
  f46:prog.fn 46 = some pf46
  f36:prog.fn 36 = some pf36
  f43:prog.fn 43 = some pf43
  f47:prog.fn 47 = some pf47
  f11:prog.fn 11 = some pf11
  f15:prog.fn 15 = some pf15
  f21:prog.fn 21 = some pf21
  f25:prog.fn 25 = some pf25
  f30:prog.fn 30 = some pf30
  f34:prog.fn 34 = some pf34
  f37:prog.fn 37 = some pf37
  f39:prog.fn 39 = some pf39
  f45:prog.fn 45 = some pf45
  f16:prog.fn 16 = some pf16
  f22:prog.fn 22 = some pf22
  f26:prog.fn 26 = some pf26
  f31:prog.fn 31 = some pf31
  f35:prog.fn 35 = some pf35
  f38:prog.fn 38 = some pf38
  f40:prog.fn 40 = some pf40
  f41:prog.fn 41 = some pf41
  f44:prog.fn 44 = some pf44
  f48:prog.fn 48 = none
  o48 :∀(s:Bytes) (c:UInt8),prog.orac 48 [.s s,.i .u8 (c.toNat:Int)] = some (.i .i64 (Lib.indexByte s c))
section
variable {prog:Prog} (H:Has03 prog)
include H
theorem c41 (c:UInt8):Pus prog 41 [.i .u8 (c.toNat:Int)] (.s (chr c)):=by
  have hc:=c.toNat_lt
  have hq:(c.toNat:Int).tdiv 16 = ((c.toNat / 16:Nat):Int):=by rw [Int.tdiv_eq_ediv_of_nonneg (by omega)]; omega
  have hr:(c.toNat:Int).tmod 16 = ((c.toNat % 16:Nat):Int):=by rw [Int.tmod_eq_emod_of_nonneg (by omega)]; omega
  have w1:IntKind.u8.wrap ((c.toNat / 16:Nat):Int) = ((c.toNat / 16:Nat):Int):=wr_u8 (by omega) (by omega)
  have w2:IntKind.u8.wrap (((c.toNat / 16:Nat):Int) + 1) = ((c.toNat / 16 + 1:Nat):Int):=by rw [wr_u8 (by omega) (by omega)]; omega
  have w3:IntKind.u8.wrap (((c.toNat % 16:Nat):Int) + 1) = ((c.toNat % 16 + 1:Nat):Int):=by rw [wr_u8 (by omega) (by omega)]; omega
  have t1:=hexd_take (n:=c.toNat / 16) (by omega) rfl
  have t2:=hexd_take (n:=c.toNat % 16) (by omega) rfl
  obtain ⟨x,rfl,h⟩:=p41 H.f41 (c0:=(c.toNat:Int)) (K:=fun x=>x = chr c) (by
    unfold T41_0
    simp only [hq,hr,w1,w2,w3,toNat_cast,t1,t2,List.length_cons,List.length_nil,maxStr_eq,List.length_append]
    refine ⟨fun h=>⟨c,rfl,?_⟩,fun h=>⟨fun h2=>⟨c,rfl,?_⟩,fun h2=>⟨fun h3=>?_,fun h3=>⟨fun h4=>⟨fun h5=>⟨c,rfl,?_⟩,fun h5=>?_⟩,fun h4=>?_⟩⟩⟩⟩
    · unfold chr; rw [if_pos (by omega)]
    · unfold chr; rw [if_pos (by omega)]
    · unfold chr; rw [if_neg (by omega),if_pos (by omega)]
    · unfold chr; rw [if_neg (by omega),if_neg (by omega),if_neg (by omega)]
    · refine ⟨by omega,by omega,by omega,by omega,by omega,by omega,by omega,by omega,?_⟩
      unfold chr; rw [if_neg (by omega),if_neg (by omega),if_pos (by omega)]
      rfl
    · refine ⟨by omega,by omega,by omega,by omega,by omega,by omega,by omega,by omega,?_⟩
      unfold chr; rw [if_neg (by omega),if_neg (by omega),if_pos (by omega)]
      rfl)
  exact h
theorem c31 {s:Bytes} (hs:s.length≤10000000):Pus prog 31 [.s s] (.s (quo s)):=by
  obtain ⟨x,rfl,h⟩:=p31 H.f31 (s0:=s) (K:=fun x=>x = quo s) (by
    unfold T31_0
    intro P hP
    refine loop_up (fun i=>34 :: chrs (s.take i)) s.length ?_ ?_
    · apply hP
      unfold T31_1 T31_2
      refine ⟨fun h=>absurd h (by omega),fun _=>⟨?_,?_⟩⟩
      · have:=chrs_len (s.take s.length)
        simp only [List.take_length] at this ⊢
        simp only [List.length_cons,List.length_nil,maxStr_eq]
        omega
      · simp only [List.take_length,quo]
        rfl
    · intro i hi ih
      apply hP
      unfold T31_1
      refine ⟨fun _=>⟨by omega,s[i],by rw [toNat_cast,List.getElem?_eq_getElem hi],chr s[i],c41 H _,?_,?_⟩,fun h=>absurd (show (i:Int) < s.length by omega) h⟩
      · have h1:=chrs_len (s.take i)
        have h2:=chr_len s[i]
        simp only [List.length_cons,List.length_take,maxStr_eq] at h1 ⊢
        omega
      · rw [wr_succ (by omega)]
        rw [chrs_take hi] at ih
        exact ih)
  exact h
theorem c30 {s b:Bytes} (hs:s.length≤10000000) (hb:b.length≤1000000000):PuA prog 30 (b.map row8) [.s s] ((b ++ quo s).map row8):=by
  refine PuAK.to ?_
  have hp:=p30 H.f30 (b0:=b) (s1:=s) (K:=fun x=>x = b ++ quo s) (by
    unfold T30_0 T30_1
    refine ⟨⟨by simp only [List.length_cons,List.length_nil,maxBytes_eq]; omega,by simp only [List.length_cons,List.length_nil,maxBytes_eq]; omega⟩,fun P hP=>?_⟩
    refine loop_up (fun i=>b ++ 34 :: chrs (s.take i)) s.length ?_ ?_
    · apply hP
      unfold T30_2 T30_4
      have h1:=chrs_len (s.take s.length)
      simp only [List.take_length] at h1 ⊢
      refine ⟨fun h=>absurd h (by omega),fun _=>⟨⟨?_,?_⟩,?_⟩⟩
      · simp only [List.length_append,List.length_cons,List.length_nil,maxBytes_eq]; omega
      · simp only [List.length_append,List.length_cons,List.length_nil,maxBytes_eq]; omega
      · simp only [quo,List.append_assoc,List.cons_append]
    · intro i hi ih
      apply hP
      have h1:=chrs_len (s.take i)
      have hc:=s[i].toNat_lt
      rw [chrs_take hi] at ih
      rw [← List.cons_append,← List.append_assoc] at ih
      generalize hx:s[i] = c at ih hc
      have w1:bShr .u8 (c.toNat:Int) 4 = ((c.toNat / 16:Nat):Int):=by
        show (c.toNat:Int).fdiv 16 = _
        rw [Int.fdiv_eq_ediv_of_nonneg _ (by omega)]; omega
      have w2:bAnd .u8 (c.toNat:Int) 15 = ((c.toNat % 16:Nat):Int):=by
        unfold bAnd
        have hx:(BitVec.ofInt IntKind.u8.bits (c.toNat:Int) &&& BitVec.ofInt IntKind.u8.bits 15).toNat = c.toNat % 16:=by
          show (BitVec.ofInt 8 (c.toNat:Int) &&& BitVec.ofInt 8 15).toNat = c.toNat % 16
          rw [BitVec.toNat_and]
          have h1:(BitVec.ofInt 8 (c.toNat:Int)).toNat = c.toNat:=by
            simp
          rw [h1]
          exact Nat.and_two_pow_sub_one_eq_mod c.toNat 4
        rw [hx]
        exact wr_u8 (by omega) (by omega)
      have fit :∀x:Bytes,x.length≤4→Fit ((b ++ 34 :: chrs (s.take i)).length + x.length) 1:=by
        intro x hx
        simp only [List.length_take] at h1
        refine ⟨?_,?_⟩ <;> (simp only [List.length_append,List.length_cons,maxBytes_eq]; omega)
      unfold T30_2 T30_3
      rw [wr_succ (by omega)]
      refine ⟨fun _=>⟨by omega,c,by rw [toNat_cast,List.getElem?_eq_getElem hi,hx],?_⟩,fun h=>absurd (show (i:Int) < s.length by omega) h⟩
      simp only [w1,w2,toNat_cast,hexd_get (show c.toNat / 16 < 16 by omega),hexd_get (show c.toNat % 16 < 16 by omega),Option.some.injEq,exists_eq_left']
      unfold chr at ih
      refine ⟨fun h2=>⟨fit _ (by simp),?_⟩,fun h2=>⟨fun h3=>⟨fit _ (by simp),?_⟩,fun h3=>⟨fun h4=>⟨fit _ (by simp),?_⟩,fun h4=>⟨fun h5=>⟨by omega,by omega,fit _ (by simp),?_⟩,fun h5=>⟨fun h6=>⟨by omega,by omega,fit _ (by simp),?_⟩,fun h6=>⟨fit _ (by simp),?_⟩⟩⟩⟩⟩⟩
      · rwa [if_pos (by omega)] at ih
      · rwa [if_pos (by omega)] at ih
      · rwa [if_neg (by omega),if_pos (by omega)] at ih
      · rwa [if_neg (by omega),if_neg (by omega),if_pos (by omega)] at ih
      · rwa [if_neg (by omega),if_neg (by omega),if_pos (by omega)] at ih
      · rwa [if_neg (by omega),if_neg (by omega),if_neg (by omega)] at ih)
  intro d st o ha
  obtain ⟨o',st',rows',⟨x,rfl,rfl⟩,h1,h2⟩:=hp d st o ha
  exact ⟨o',st',_,rfl,h1,h2⟩
theorem c11 (s:Bytes):Pus prog 11 [.s s] (.tup [.s (quoR s).1,.i .i64 (quoR s).2]):=by
  obtain ⟨x,y,⟨rfl,rfl⟩,h⟩:=p11 H.f11 (s0:=s) (K:=fun x y=>x = (quoR s).1∧y = (quoR s).2) (by
    unfold T11_0 quoR
    refine ⟨fun h=>?_,fun h=>⟨_,c30 H (b:=[]) (s:=s) (by omega) (by simp),?_⟩⟩
    · rw [if_pos (by omega)]; exact ⟨rfl,rfl⟩
    · rw [if_neg (by omega)]; exact ⟨rfl,rfl⟩)
  exact h
theorem c34 {n b:Nat} (hb:2≤b) (hb':b≤16) (hn:n < 18446744073709551616):Pus prog 34 [.i .u64 (n:Int),.i .u64 (b:Int)] (.s (digs b n)):=by
  obtain ⟨x,rfl,h⟩:=p34 H.f34 (n0:=(n:Int)) (base1:=(b:Int)) (K:=fun x=>x = digs b n) (by
    unfold T34_0
    intro P hP
    have key :∀f n',n' < b ^ f→0 < f→n' < 18446744073709551616→∀a:Nat,f≤a→a≤64→∀m:Bytes,m.length = 64→(ds b f n' ++ m.drop a = digs b n)→P (n':Int) (a:Int) m:=by
      intro f
      induction f with
      | zero=>intro _ _ h; exact absurd h (Nat.lt_irrefl _)
      | succ f ih=>
        intro n' hf _ hn' a ha ha' m hm hd
        apply hP
        have e1:(n':Int).tmod (b:Int) = ((n' % b:Nat):Int):=by rw [Int.tmod_eq_emod_of_nonneg (by omega)]; omega
        have e2:(n':Int).tdiv (b:Int) = ((n' / b:Nat):Int):=by rw [Int.tdiv_eq_ediv_of_nonneg (by omega)]; omega
        have e3:IntKind.i64.wrap ((a:Int) - 1) = ((a - 1:Nat):Int):=by rw [wr_i64 (by omega) (by omega)]; omega
        have hq:n' / b≤n':=Nat.div_le_self _ _
        have hr:n' % b < b:=Nat.mod_lt _ (by omega)
        have e4:IntKind.u64.wrap ((n' / b:Nat):Int) = ((n' / b:Nat):Int):=wr_u64_nat (by omega)
        have hset :∀c:UInt8,(m.set (a - 1) c).drop (a - 1) = c :: m.drop a:=by
          intro c
          rw [List.drop_eq_getElem_cons (by simp; omega),List.getElem_set_self,List.drop_set_of_lt (by omega),show a - 1 + 1 = a by omega]
        unfold T34_1
        simp only [e1,e2,e3,e4,toNat_cast,hset]
        refine ⟨by omega,by omega,hexd (n' % b),hexd_get (by omega),by omega,by omega,by omega,by omega,fun h=>⟨by simp [hm],by omega,by omega,?_⟩,fun h=>?_⟩
        · rw [← hd]
          unfold ds
          have hz:n' / b = 0:=by omega
          have hlt:n' < b:=by
            rcases Nat.lt_or_ge n' b with h | h
            · exact h
            · have:=Nat.div_pos h (by omega); omega
          rw [if_pos hlt,Nat.mod_eq_of_lt hlt]
          rfl
        · have hz:n' / b≠0:=by omega
          have hlt:¬ n' < b:=fun h=>hz (Nat.div_eq_of_lt h)
          have h1:n' / b < b ^ f:=by
            rw [Nat.div_lt_iff_lt_mul (by omega)]
            rw [Nat.pow_succ] at hf
            exact hf
          have h2:0 < f:=by
            rcases Nat.eq_zero_or_pos f with rfl | h
            · simp at h1; omega
            · exact h
          refine ih (n' / b) h1 h2 (by omega) (a - 1) (by omega) (by omega) _ (by simp [hm]) ?_
          rw [hset,← hd]
          conv=>rhs; unfold ds
          rw [if_neg hlt,List.append_assoc]
          rfl
    refine key 64 n ?_ (by omega) hn 64 (by omega) (by omega) _ (by simp) ?_
    · calc n < 2 ^ 64:=hn
        _≤b ^ 64:=Nat.pow_le_pow_left hb 64
    · simp [digs])
  exact h
theorem c35 {n b:Nat} (hb:2≤b) (hb':b≤16) (hn:n < 18446744073709551616):Pus prog 35 [.i .u64 (n:Int),.i .u64 (b:Int)] (.s (digs b n)):=by
  obtain ⟨x,rfl,h⟩:=p35 H.f35 (n0:=(n:Int)) (base1:=(b:Int)) (K:=fun x=>x = digs b n) (by
    unfold T35_0
    intro P hP
    have key :∀f n',n' < b ^ f→0 < f→n' < 18446744073709551616→f≤64→∀s:Bytes,s.length + f≤64→(ds b f n' ++ s = digs b n)→P (n':Int) s:=by
      intro f
      induction f with
      | zero=>intro _ _ h; exact absurd h (Nat.lt_irrefl _)
      | succ f ih=>
        intro n' hf _ hn' hf64 s hs hd
        apply hP
        have e1:(n':Int).tmod (b:Int) = ((n' % b:Nat):Int):=by rw [Int.tmod_eq_emod_of_nonneg (by omega)]; omega
        have e2:(n':Int).tdiv (b:Int) = ((n' / b:Nat):Int):=by rw [Int.tdiv_eq_ediv_of_nonneg (by omega)]; omega
        have hq:n' / b≤n':=Nat.div_le_self _ _
        have hr:n' % b < b:=Nat.mod_lt _ (by omega)
        have e4:IntKind.u64.wrap ((n' / b:Nat):Int) = ((n' / b:Nat):Int):=wr_u64_nat (by omega)
        have e5:IntKind.u64.wrap (((n' % b:Nat):Int) + 1) = ((n' % b + 1:Nat):Int):=by rw [wr_u64 (by omega) (by omega)]; omega
        unfold T35_1
        refine ⟨fun h=>?_,fun h=>?_⟩
        · simp only [e1,e2,e4,e5,toNat_cast,hexd_take (show n' % b < 16 by omega) rfl,DIG_len]
          have hlt:¬ n' < b:=by omega
          refine ⟨by omega,by omega,by omega,by omega,by omega,?_,by omega,?_⟩
          · simp only [List.length_cons,List.length_nil,maxStr_eq]; omega
          have hz:n' / b≠0:=by
            have:=Nat.div_pos (show b≤n' by omega) (by omega); omega
          have h1:n' / b < b ^ f:=by
            rw [Nat.div_lt_iff_lt_mul (by omega)]
            rw [Nat.pow_succ] at hf
            exact hf
          have h2:0 < f:=by
            rcases Nat.eq_zero_or_pos f with rfl | h
            · simp at h1; omega
            · exact h
          refine ih (n' / b) h1 h2 (by omega) (by omega) _ ?_ ?_
          · simp only [List.length_append,List.length_cons,List.length_nil]; omega
          · rw [← hd]
            conv=>rhs; unfold ds
            rw [if_neg hlt,List.append_assoc]
        · have hlt:n' < b:=by omega
          have e6:IntKind.u64.wrap ((n':Int) + 1) = ((n' + 1:Nat):Int):=by rw [wr_u64 (by omega) (by omega)]; omega
          unfold T35_2
          simp only [e6,toNat_cast,hexd_take (show n' < 16 by omega) rfl,DIG_len]
          refine ⟨by omega,by omega,by omega,?_,?_⟩
          · simp only [List.length_cons,List.length_nil,maxStr_eq]; omega
          · rw [← hd]
            unfold ds
            rw [if_pos hlt]
    refine key 64 n ?_ (by omega) hn (by omega) _ (by simp) ?_
    · calc n < 2 ^ 64:=hn
        _≤b ^ 64:=Nat.pow_le_pow_left hb 64
    · simp [digs])
  exact h
theorem c15 {n:Int} (h1:-9223372036854775808≤n) (h2:n < 9223372036854775808):Pus prog 15 [.i .i64 n] (.s (num n)):=by
  obtain ⟨x,rfl,h⟩:=p15 H.f15 (n0:=n) (K:=fun x=>x = num n) (by
    unfold T15_0
    refine ⟨fun h=>?_,fun h=>?_⟩
    · have e:IntKind.u64.wrap (0 - (IntKind.u64.wrap n)) = (((-n).toNat:Nat):Int):=by rw [IntKind.wrap_u64,IntKind.wrap_u64]; omega
      rw [e]
      refine ⟨_,c34 H (b:=10) (by omega) (by omega) (by omega),?_,?_⟩
      · have:=ds_len 10 64 (-n).toNat
        simp only [digs,List.length_cons,List.length_nil,maxStr_eq]; omega
      · unfold num; rw [if_pos h]; rfl
    · have e:IntKind.u64.wrap n = ((n.toNat:Nat):Int):=by rw [IntKind.wrap_u64]; omega
      rw [e]
      refine ⟨_,c34 H (b:=10) (by omega) (by omega) (by omega),?_⟩
      unfold num; rw [if_neg h])
  exact h
theorem c16 {n:Int} (h1:-9223372036854775808≤n) (h2:n < 9223372036854775808):Pus prog 16 [.i .i64 n] (.s (num n)):=by
  obtain ⟨x,rfl,h⟩:=p16 H.f16 (n0:=n) (K:=fun x=>x = num n) (by
    unfold T16_0
    refine ⟨fun h=>?_,fun h=>?_⟩
    · have e:IntKind.u64.wrap n = ((n.toNat:Nat):Int):=by rw [IntKind.wrap_u64]; omega
      rw [e]
      refine ⟨_,c35 H (b:=10) (by omega) (by omega) (by omega),?_⟩
      unfold num; rw [if_neg (by omega)]
    · have e:IntKind.u64.wrap ((IntKind.u64.wrap (IntKind.i64.wrap (0 - (IntKind.i64.wrap (n + 1))))) + 1) = (((-n).toNat:Nat):Int):=by
        rw [wr_i64 (z:=n + 1) (by omega) (by omega),wr_i64 (by omega) (by omega),wr_u64 (z:=0 - (n + 1)) (by omega) (by omega),wr_u64 (by omega) (by omega)]; omega
      rw [e]
      refine ⟨_,c35 H (b:=10) (by omega) (by omega) (by omega),?_,?_⟩
      · have:=ds_len 10 64 (-n).toNat
        simp only [digs,List.length_cons,List.length_nil,maxStr_eq]; omega
      · unfold num; rw [if_pos (by omega)]; rfl)
  exact h
end
end Go.AM

namespace Go.AM
open Go
def cutp (p s:Bytes):Bytes × Bool:=if s.take p.length = p then (s.drop p.length,true) else (s,false)
theorem idx_first (c:UInt8) :∀(l:Bytes) (i:Nat),(∀j,j < i→l[j]?≠some c)→(l[i]? = some c→Lib.indexByte l c = i)∧(l.length≤i→Lib.indexByte l c = -1)
  | [],i,_=>⟨fun h=>(by simp at h),fun _=>rfl⟩
  | x :: l,i,h=>by
    unfold Lib.indexByte
    cases i with
    | zero=>
      refine ⟨fun h1=>?_,fun h1=>absurd h1 (by simp)⟩
      simp at h1
      rw [if_pos (by simp [h1])]
      rfl
    | succ i=>
      have hx:x≠c:=by have:=h 0 (by omega); simpa using this
      have ih:=idx_first c l i fun j hj=>by have:=h (j + 1) (by omega); simpa using this
      rw [if_neg (by simpa using hx)]
      refine ⟨fun h1=>?_,fun h1=>?_⟩
      · have h2:=ih.1 (by simpa using h1)
        rw [h2]
        rw [if_neg (by simp)]
        rfl
      · have h2:=ih.2 (by simpa using h1)
        rw [h2]
        rfl
def EscK (s:Bytes) (c:Int) (r:Bytes) (ok:Bool):Prop:=match esc s with | some (x,y)=>c = (x.toNat:Int)∧r = y∧ok = true | none=>ok = false
theorem EscK.yes {s:Bytes} {x:UInt8} {y:Bytes} {c:Int} (h:esc s = some (x,y)) (hc:c = (x.toNat:Int)):EscK s c y true:=by
  unfold EscK; rw [h]; exact ⟨hc,rfl,rfl⟩
theorem EscK.no {s:Bytes} {c:Int} {y:Bytes} (h:esc s = none):EscK s c y false:=by
  unfold EscK; rw [h]
section
variable {prog:Prog} (H:Has03 prog)
include H
theorem c46 (s p:Bytes):Pus prog 46 [.s s,.s p] (.b (decide (s.take p.length = p))):=by
  obtain ⟨x,rfl,h⟩:=p46 H.f46 (s0:=s) (prefix1:=p) (K:=fun x=>x = decide (s.take p.length = p)) (by
    unfold T46_0
    refine ⟨fun h=>⟨by omega,by omega,rfl⟩,fun h=>?_⟩
    refine (decide_eq_false fun h1=>?_).symm
    have:=congrArg List.length h1
    simp only [List.length_take] at this
    omega)
  exact h
theorem c42 (s p:Bytes):Pus prog 42 [.s s,.s p] (.tup [.s (cutp p s).1,.b (cutp p s).2]):=by
  obtain ⟨x,y,⟨rfl,rfl⟩,h⟩:=p42 H.f42 (s0:=s) (prefix1:=p) (K:=fun x y=>x = (cutp p s).1∧y = (cutp p s).2) (by
    unfold T42_0 cutp
    refine ⟨_,c46 H s p,fun h=>?_,fun h=>?_⟩
    · have h1:¬ s.take p.length = p:=by simpa using h
      rw [if_neg h1]; exact ⟨rfl,rfl⟩
    · have h1:s.take p.length = p:=by simpa using h
      have h2:=congrArg List.length h1
      simp only [List.length_take] at h2
      rw [if_pos h1]; exact ⟨by omega,by omega,rfl,rfl⟩)
  exact h
theorem c36 (s p:Bytes):Pus prog 36 [.s s,.s p] (.tup [.s (cutp p s).1,.b (cutp p s).2]):=by
  obtain ⟨x,y,⟨rfl,rfl⟩,h⟩:=p36 H.f36 (s0:=s) (prefix1:=p) (K:=fun x y=>x = (cutp p s).1∧y = (cutp p s).2) (by
    unfold T36_0
    exact ⟨_,_,c42 H s p,rfl,rfl⟩)
  exact h
theorem c47 (s:Bytes) (c:UInt8):Pus prog 47 [.s s,.i .u8 (c.toNat:Int)] (.i .i64 (Lib.indexByte s c)):=by
  obtain ⟨x,rfl,h⟩:=p47 H.f47 (s0:=s) (c1:=(c.toNat:Int)) (K:=fun x=>x = Lib.indexByte s c) (by
    unfold T47_0
    exact ⟨_,Pus.orac H.f48 (H.o48 s c) rfl,rfl⟩)
  exact h
theorem c43 (s:Bytes) (c:UInt8):Pus prog 43 [.s s,.i .u8 (c.toNat:Int)] (.i .i64 (Lib.indexByte s c)):=by
  obtain ⟨x,rfl,h⟩:=p43 H.f43 (s0:=s) (c1:=(c.toNat:Int)) (K:=fun x=>x = Lib.indexByte s c) (by
    unfold T43_0
    exact ⟨_,c47 H s c,rfl⟩)
  exact h
theorem c44 {b:Nat} (hb:b≤16) (c:UInt8):Pus prog 44 [.i .u8 (c.toNat:Int),.i .i64 (b:Int)] (.i .i64 (dv b c)):=by
  obtain ⟨x,rfl,h⟩:=p44 H.f44 (c0:=(c.toNat:Int)) (base1:=(b:Int)) (K:=fun x=>x = dv b c) (by
    unfold T44_0
    intro P hP
    have key :∀m i:Nat,i + m = b→(∀j,j < i→(DIG.take b)[j]?≠some c)→P (i:Int):=by
      intro m
      induction m with
      | zero=>
        intro i hi hj
        apply hP
        unfold T44_1 T44_2
        refine ⟨fun h=>absurd h (by omega),fun _=>?_⟩
        exact ((idx_first c _ i hj).2 (by simp; omega)).symm
      | succ m ih=>
        intro i hi hj
        apply hP
        unfold T44_1
        refine ⟨fun _=>⟨by omega,hexd i,by rw [toNat_cast,hexd_get (by omega)],fun h=>?_,fun h=>?_⟩,fun h=>absurd h (by omega)⟩
        · have hc:hexd i = c:=u8_eq (by omega)
          refine ((idx_first c _ i hj).1 ?_).symm
          rw [List.getElem?_take_of_lt (by omega),hexd_get (by omega),hc]
        · rw [wr_succ (by omega)]
          refine ih (i + 1) (by omega) fun j hj'=>?_
          rcases Nat.lt_or_ge j i with h1 | h1
          · exact hj j h1
          · have:j = i:=by omega
            subst this
            rw [List.getElem?_take_of_lt (by omega),hexd_get (by omega)]
            intro h2
            injection h2 with h2
            exact h (by rw [h2])
    exact key b 0 (by omega) (by simp))
  exact h
theorem c37 {b most:Nat} (hb:2≤b) (hb':b≤16) (hm:16≤most) (hm':most < 18446744073709551616) {s:Bytes} (hs:s.length≤10000000):Pus prog 37 [.s s,.i .u64 (b:Int),.i .u64 (most:Int)] (.tup [.i .u64 ((rd b most s).1:Int),.i .i64 (rd b most s).2]):=by
  obtain ⟨x,y,⟨rfl,rfl⟩,h⟩:=p37 H.f37 (s0:=s) (base1:=(b:Int)) (most2:=(most:Int)) (K:=fun x y=>x = ((rd b most s).1:Int)∧y = (rd b most s).2) (by
    unfold T37_0 T37_1 T37_2
    intro P hP
    have key :∀m i:Nat,i + m = s.length→okd b (s.take i) = true→(2≤i→s.head?≠some 48)→∀(n:Nat) (far:Bool),(far = false→n = vals b (s.take i)∧n≤most)→(far = true→most < vals b (s.take i))→P (n:Int) far (i:Int):=by
      intro m
      induction m with
      | zero=>
        intro i hi ho h48 n far h0 h1
        simp only [Nat.add_zero] at hi
        subst hi
        rw [List.take_length] at ho h0 h1
        apply hP
        unfold T37_3 T37_5
        refine ⟨fun h=>absurd h (by omega),fun _=>⟨fun h=>?_,fun h=>?_⟩⟩
        · subst h; exact ⟨rfl,rfl⟩
        · have hbad:badn b s = false:=by
            unfold badn
            rw [decide_eq_false h,ho]
            simp only [Bool.false_or,Bool.not_true]
            by_cases h2:1 < s.length
            · rw [decide_eq_false (h48 h2),Bool.and_false]
            · rw [decide_eq_false h2,Bool.false_and]
          refine ⟨fun hf=>?_,fun hf=>?_⟩
          · unfold rd
            rw [if_neg (by rw [hbad]; decide),if_pos (h1 hf)]
            exact ⟨rfl,rfl⟩
          · obtain ⟨h2,h3⟩:=h0 hf
            unfold rd
            rw [if_neg (by rw [hbad]; decide),if_neg (by omega),h2]
            exact ⟨rfl,rfl⟩
      | succ m ih=>
        intro i hi ho h48 n far h0 h1
        have hil:i < s.length:=by omega
        have hd:=dv_lt hb' s[i]
        have hv:=vals_take (b:=b) hil
        have hk:=okd_take (b:=b) hil
        have bad12:badn b s = true→(0:Int) = ((rd b most s).1:Int)∧(12:Int) = (rd b most s).2:=by
          intro h
          unfold rd
          rw [if_pos h]
          exact ⟨rfl,rfl⟩
        apply hP
        unfold T37_3 T37_4
        refine ⟨fun _=>⟨by omega,by rw [toNat_cast]; exact hb',by omega,s[i],by rw [toNat_cast,List.getElem?_eq_getElem hil],dv b s[i],c43 H _ _,fun h=>?_,fun h=>?_⟩,fun h=>absurd h (by omega)⟩
        · refine bad12 ?_
          unfold badn
          rw [okd_of hil h]
          simp
        · have hd0:0≤dv b s[i]:=by omega
          rw [ho,decide_eq_true hd0,Bool.and_true] at hk
          generalize hdd:(dv b s[i]).toNat = d at hv
          have hdi:dv b s[i] = (d:Int):=by omega
          have e1:IntKind.u64.wrap (dv b s[i]) = (d:Int):=by rw [hdi]; exact wr_u64_nat (by omega)
          have e2:IntKind.u64.wrap ((most:Int) - (d:Int)) = ((most - d:Nat):Int):=by rw [wr_u64 (by omega) (by omega)]; omega
          have e3:(((most - d:Nat):Int)).tdiv (b:Int) = (((most - d) / b:Nat):Int):=by rw [Int.tdiv_eq_ediv_of_nonneg (by omega)]; omega
          have hq:(most - d) / b≤most - d:=Nat.div_le_self _ _
          have e4:IntKind.u64.wrap (((most - d) / b:Nat):Int) = (((most - d) / b:Nat):Int):=wr_u64_nat (by omega)
          have hfi:=far_iff (n:=n) (show 0 < b by omega) (show d≤most by omega)
          rw [wr_succ (by omega)]
          simp only [e1,e2,e3,e4]
          have go:(2≤i + 1→s.head?≠some 48)→(far = true→P (n:Int) true ((i + 1:Nat):Int))∧(far = false→(b:Int)≠0∧(¬((n:Int) > (((most - d) / b:Nat):Int))→P (IntKind.u64.wrap ((IntKind.u64.wrap ((n:Int) * (b:Int))) + (d:Int))) (decide ((n:Int) > (((most - d) / b:Nat):Int))) ((i + 1:Nat):Int))∧(¬(¬((n:Int) > (((most - d) / b:Nat):Int)))→P (n:Int) (decide ((n:Int) > (((most - d) / b:Nat):Int))) ((i + 1:Nat):Int))):=by
            intro h2
            refine ⟨fun hf=>?_,fun hf=>⟨by omega,fun h3=>?_,fun h3=>?_⟩⟩
            · refine ih (i + 1) (by omega) hk h2 n true (fun h=>by cases h) fun _=>?_
              rw [hv]
              have h4:=h1 hf
              have:vals b (s.take i)≤vals b (s.take i) * b:=Nat.le_mul_of_pos_right _ (by omega)
              omega
            · obtain ⟨h4,h5⟩:=h0 hf
              have h6:n * b + d≤most:=by
                have:¬ (most - d) / b < n:=by omega
                rw [hfi] at this
                omega
              have hnb:(n:Int) * (b:Int) = ((n * b:Nat):Int):=by rw [Int.natCast_mul]
              have e5:IntKind.u64.wrap ((n:Int) * (b:Int)) = ((n * b:Nat):Int):=by rw [hnb]; exact wr_u64_nat (by omega)
              have e6:IntKind.u64.wrap (((n * b:Nat):Int) + (d:Int)) = ((n * b + d:Nat):Int):=by rw [wr_u64 (by omega) (by omega)]; omega
              rw [e5,e6,decide_eq_false h3]
              refine ih (i + 1) (by omega) hk h2 _ false (fun _=>⟨?_,h6⟩) fun h=>by cases h
              rw [hv,h4]
            · have h3':(n:Int) > (((most - d) / b:Nat):Int):=by omega
              obtain ⟨h4,h5⟩:=h0 hf
              rw [decide_eq_true h3']
              refine ih (i + 1) (by omega) hk h2 n true (fun h=>by cases h) fun _=>?_
              rw [hv,← h4]
              exact hfi.1 (Int.ofNat_lt.1 h3')
          have hd0:s.head? = s[0]?:=List.head?_eq_getElem?
          refine ⟨fun hi1=>?_,fun hi1=>?_⟩
          · have h0s:s[0]? = some s[0]:=List.getElem?_eq_getElem (by omega)
            refine ⟨s[0],h0s,fun h2=>?_,fun h2=>?_⟩
            · refine bad12 ?_
              have h3:s[0] = 48:=u8_eq (by have e:(48:UInt8).toNat = 48:=rfl; omega)
              unfold badn
              rw [decide_eq_true (show 1 < s.length by omega),decide_eq_true (show s.head? = some 48 by rw [hd0,h0s,h3])]
              simp
            · refine go fun _=>?_
              rw [hd0,h0s]
              intro h3
              injection h3 with h3
              exact h2 (by rw [h3]; rfl)
          · refine go fun h2=>?_
            have h3:i≠1:=by omega
            have h4:i≠0:=by omega
            exact h48 (by omega)
    exact key s.length 0 (by omega) rfl (by omega) 0 false (fun _=>⟨rfl,by omega⟩) fun h=>by cases h)
  exact h
theorem c38 {b most:Nat} (hb:2≤b) (hb':b≤16) (hm:16≤most) (hm':most < 18446744073709551616) {s:Bytes} (hs:s.length≤10000000):Pus prog 38 [.s s,.i .u64 (b:Int),.i .u64 (most:Int)] (.tup [.i .u64 ((rd b most s).1:Int),.i .i64 (rd b most s).2]):=by
  obtain ⟨x,y,⟨rfl,rfl⟩,h⟩:=p38 H.f38 (s0:=s) (base1:=(b:Int)) (most2:=(most:Int)) (K:=fun x y=>x = ((rd b most s).1:Int)∧y = (rd b most s).2) (by
    have wb:IntKind.i64.wrap (b:Int) = (b:Int):=wr_i64 (by omega) (by omega)
    have bad12:badn b s = true→(0:Int) = ((rd b most s).1:Int)∧(12:Int) = (rd b most s).2:=by
      intro h
      unfold rd
      rw [if_pos h]
      exact ⟨rfl,rfl⟩
    have hd0:s.head? = s[0]?:=List.head?_eq_getElem?
    have loop:s≠[]→(1 < s.length→s.head?≠some 48)→∀P0:Int→Prop,(∀(i8:Int),T38_2 prog (fun x y=>x = ((rd b most s).1:Int)∧y = (rd b most s).2) P0 s (b:Int) (most:Int) i8→P0 i8)→P0 0:=by
      intro hne h48 P hP
      have key :∀m i:Nat,i + m = s.length→okd b (s.take i) = true→P (i:Int):=by
        intro m
        induction m with
        | zero=>
          intro i hi ho
          simp only [Nat.add_zero] at hi
          subst hi
          rw [List.take_length] at ho
          have hbad:badn b s = false:=by
            unfold badn
            rw [decide_eq_false hne,ho]
            simp only [Bool.false_or,Bool.not_true]
            by_cases h2:1 < s.length
            · rw [decide_eq_false (h48 h2),Bool.and_false]
            · rw [decide_eq_false h2,Bool.false_and]
          apply hP
          unfold T38_2 T38_3
          refine ⟨fun h=>absurd h (by omega),fun _ P1 hP1=>?_⟩
          have hall :∀(j:Nat) (hj:j < s.length),0≤dv b s[j]:=by
            intro j hj
            unfold okd at ho
            rw [List.all_eq_true] at ho
            simpa using ho s[j] (List.getElem_mem hj)
          have key2 :∀m i:Nat,i + m = s.length→vals b (s.take i)≤most→P1 (vals b (s.take i):Int) (i:Int):=by
            intro m
            induction m with
            | zero=>
              intro i hi hv
              simp only [Nat.add_zero] at hi
              subst hi
              apply hP1
              unfold T38_4 T38_5
              refine ⟨fun h=>absurd h (by omega),fun _=>?_⟩
              rw [List.take_length] at hv ⊢
              unfold rd
              rw [if_neg (by rw [hbad]; decide),if_neg (by omega)]
              exact ⟨rfl,rfl⟩
            | succ m ih=>
              intro i hi hv
              have hil:i < s.length:=by omega
              have hd:=dv_lt hb' s[i]
              have hn0:=hall i hil
              have hvt:=vals_take (b:=b) hil
              generalize hdd:(dv b s[i]).toNat = d at hvt
              have hdi:dv b s[i] = (d:Int):=by omega
              have e1:IntKind.u64.wrap (dv b s[i]) = (d:Int):=by rw [hdi]; exact wr_u64_nat (by omega)
              have e2:IntKind.u64.wrap ((most:Int) - (d:Int)) = ((most - d:Nat):Int):=by rw [wr_u64 (by omega) (by omega)]; omega
              have e3:(((most - d:Nat):Int)).tdiv (b:Int) = (((most - d) / b:Nat):Int):=by rw [Int.tdiv_eq_ediv_of_nonneg (by omega)]; omega
              have hq:(most - d) / b≤most - d:=Nat.div_le_self _ _
              have e4:IntKind.u64.wrap (((most - d) / b:Nat):Int) = (((most - d) / b:Nat):Int):=wr_u64_nat (by omega)
              have hfi:=far_iff (n:=vals b (s.take i)) (show 0 < b by omega) (show d≤most by omega)
              apply hP1
              unfold T38_4
              rw [wb,wr_succ (by omega)]
              refine ⟨fun _=>⟨by omega,s[i],by rw [toNat_cast,List.getElem?_eq_getElem hil],dv b s[i],c44 H hb' _,by omega,fun h=>?_,fun h=>?_⟩,fun h=>absurd h (by omega)⟩
              · simp only [e1,e2,e3,e4] at h
                have h1:=hfi.1 (Int.ofNat_lt.1 h)
                have h2:most < vals b s:=by
                  have mono :∀k,i + 1 + k≤s.length→most < vals b (s.take (i + 1 + k)):=by
                    intro k
                    induction k with
                    | zero=>intro _; rw [Nat.add_zero,hvt]; exact h1
                    | succ k ihk=>
                      intro hk
                      have:=ihk (by omega)
                      rw [show i + 1 + (k + 1) = (i + 1 + k) + 1 by omega,vals_take (by omega)]
                      have h3:vals b (s.take (i + 1 + k))≤vals b (s.take (i + 1 + k)) * b:=Nat.le_mul_of_pos_right _ (by omega)
                      omega
                  have:=mono (s.length - (i + 1)) (by omega)
                  rwa [show i + 1 + (s.length - (i + 1)) = s.length by omega,List.take_length] at this
                unfold rd
                rw [if_neg (by rw [hbad]; decide),if_pos h2]
                exact ⟨rfl,rfl⟩
              · simp only [e1,e2,e3,e4] at h
                have h1:¬ (most - d) / b < vals b (s.take i):=fun h2=>h (Int.ofNat_lt.2 h2)
                rw [hfi] at h1
                generalize hnn:vals b (s.take i) = n at *
                have hnb:(n:Int) * (b:Int) = ((n * b:Nat):Int):=by rw [Int.natCast_mul]
                have e5:IntKind.u64.wrap ((n:Int) * (b:Int)) = ((n * b:Nat):Int):=by rw [hnb]; exact wr_u64_nat (by omega)
                have e6:IntKind.u64.wrap (((n * b:Nat):Int) + (d:Int)) = ((n * b + d:Nat):Int):=by rw [wr_u64 (by omega) (by omega)]; omega
                rw [e1,e5,e6]
                have:=ih (i + 1) (by omega) (by rw [hvt]; omega)
                rwa [hvt] at this
          exact key2 s.length 0 (by omega) (Nat.zero_le _)
        | succ m ih=>
          intro i hi ho
          have hil:i < s.length:=by omega
          have hd:=dv_lt hb' s[i]
          have hk:=okd_take (b:=b) hil
          apply hP
          unfold T38_2
          rw [wb,wr_succ (by omega)]
          refine ⟨fun _=>⟨by omega,s[i],by rw [toNat_cast,List.getElem?_eq_getElem hil],dv b s[i],c44 H hb' _,fun h=>?_,fun h=>?_⟩,fun h=>absurd h (by omega)⟩
          · refine bad12 ?_
            unfold badn
            rw [okd_of hil h]
            simp
          · refine ih (i + 1) (by omega) ?_
            rw [hk,ho,decide_eq_true (by omega),Bool.and_true]
      exact key s.length 0 (by omega) rfl
    unfold T38_0 T38_1
    refine ⟨fun h=>bad12 ?_,fun h=>?_⟩
    · have:s = []:=List.length_eq_zero_iff.1 (by omega)
      subst this
      rfl
    · have hpos:0 < s.length:=by omega
      have hne:s≠[]:=fun h=>by subst h; simp at hpos
      have h0s:s[0]? = some s[0]:=List.getElem?_eq_getElem hpos
      refine ⟨s[0],h0s,fun h2=>⟨fun h3=>bad12 ?_,fun h3=>loop hne fun h4=>absurd h4 (by omega)⟩,fun h2=>loop hne fun h4=>?_⟩
      · have h4:s[0] = 48:=u8_eq (by have e:(48:UInt8).toNat = 48:=rfl; omega)
        unfold badn
        rw [decide_eq_true (show 1 < s.length by omega),decide_eq_true (show s.head? = some 48 by rw [hd0,h0s,h4])]
        simp
      · rw [hd0,h0s]
        intro h5
        injection h5 with h5
        exact h2 (by rw [h5]; rfl))
  exact h
theorem c21 (s:Bytes):Pus prog 21 [.s s] (.tup [.i .i64 (unnum s).1,.i .i64 (unnum s).2]):=by
  obtain ⟨x,y,⟨rfl,rfl⟩,h⟩:=p21 H.f21 (s0:=s) (K:=fun x y=>x = (unnum s).1∧y = (unnum s).2) (by
    unfold T21_0 T21_1
    refine ⟨fun h=>by unfold unnum; rw [if_pos (by omega)]; exact ⟨rfl,rfl⟩,fun hs=>⟨_,_,c36 H s [45],?_⟩⟩
    unfold unnum
    rw [if_neg (by omega)]
    by_cases hm:s.take 1 = [45]
    · have ec:cutp [45] s = (s.drop 1,true):=by unfold cutp; rw [if_pos (by exact hm)]; rfl
      rw [ec,if_pos hm]
      refine ⟨fun h=>by simp at h,fun _=>?_⟩
      have hl:=rd_le 10 9223372036854775808 (s.drop 1)
      refine ⟨_,_,c37 H (b:=10) (most:=9223372036854775808) (by omega) (by omega) (by omega) (by omega) (s:=s.drop 1) (by simp; omega),fun h=>⟨fun h0=>?_,fun h0=>?_⟩,fun h=>?_⟩
      · have e:(rd 10 9223372036854775808 (s.drop 1)).1 = 0:=by omega
        rw [if_pos ⟨h,e⟩,e]
        exact ⟨rfl,rfl⟩
      · rw [if_neg (fun hh=>h0 (by rw [hh.2]; rfl))]
        refine ⟨?_,rfl⟩
        rw [IntKind.wrap_u64,IntKind.wrap_i64]
        simp only
        omega
      · have e:=rd_err h
        rw [if_neg (fun hh=>h hh.1),e]
        exact ⟨rfl,rfl⟩
    · have ec:cutp [45] s = (s,false):=by unfold cutp; rw [if_neg (by exact hm)]
      rw [ec,if_neg hm]
      refine ⟨fun _=>?_,fun h=>by simp at h⟩
      have hl:=rd_le 10 9223372036854775807 s
      exact ⟨_,_,c37 H (b:=10) (most:=9223372036854775807) (by omega) (by omega) (by omega) (by omega) (s:=s) (by omega),wr_i64 (by omega) (by omega),rfl⟩)
  exact h
theorem c22 (s:Bytes):Pus prog 22 [.s s] (.tup [.i .i64 (unnum s).1,.i .i64 (unnum s).2]):=by
  obtain ⟨x,y,⟨rfl,rfl⟩,h⟩:=p22 H.f22 (s0:=s) (K:=fun x y=>x = (unnum s).1∧y = (unnum s).2) (by
    have plain:¬ 2000 < s.length→¬ s.take 1 = [45]→∃r'12:Int,∃r'13:Int,Pus prog 38 [.s s,.i .u64 10,.i .u64 9223372036854775807] (.tup [.i .u64 r'12,.i .i64 r'13])∧(r'13≠0→0 = (unnum s).1∧r'13 = (unnum s).2)∧(¬(r'13≠0)→IntKind.i64.wrap r'12 = (unnum s).1∧0 = (unnum s).2):=by
      intro hs hm
      have hl:=rd_le 10 9223372036854775807 s
      refine ⟨_,_,c38 H (b:=10) (most:=9223372036854775807) (by omega) (by omega) (by omega) (by omega) (s:=s) (by omega),fun h=>?_,fun h=>?_⟩
      · have e:=rd_err h
        unfold unnum
        rw [if_neg hs,if_neg hm,e]
        exact ⟨rfl,rfl⟩
      · have e:(rd 10 9223372036854775807 s).2 = 0:=by omega
        unfold unnum
        rw [if_neg hs,if_neg hm,e]
        exact ⟨wr_i64 (by omega) (by omega),rfl⟩
    unfold T22_0
    refine ⟨fun h=>by unfold unnum; rw [if_pos (by omega)]; exact ⟨rfl,rfl⟩,fun hs=>⟨fun hpos=>?_,fun hpos=>plain (by omega) fun h=>?_⟩⟩
    · have h0:0 < s.length:=by omega
      have ht:s.take 1 = [s[0]]:=by
        match s,h0 with
        | c :: r,_=>rfl
      refine ⟨s[0],List.getElem?_eq_getElem h0,fun hm=>?_,fun hm=>plain (by omega) fun h=>?_⟩
      · have hm':s.take 1 = [45]:=by rw [ht,u8_eq (show s[0].toNat = (45:UInt8).toNat by have e:(45:UInt8).toNat = 45:=rfl; omega)]
        have hl:=rd_le 10 9223372036854775808 (s.drop 1)
        refine ⟨fun h=>?_,fun h=>⟨by omega,_,_,c38 H (b:=10) (most:=9223372036854775808) (by omega) (by omega) (by omega) (by omega) (s:=s.drop 1) (by simp; omega),fun h1=>?_,fun h1=>?_⟩⟩
        · rw [h]
          decide
        · have e:=rd_err h1
          unfold unnum
          rw [if_neg (by omega),if_pos hm',if_neg (fun hh=>h1 hh.1),e]
          exact ⟨rfl,rfl⟩
        · have e:(rd 10 9223372036854775808 (s.drop 1)).2 = 0:=by omega
          have hn:(rd 10 9223372036854775808 (s.drop 1)).1≠0:=by
            intro h2
            have h3:=rd_zero (by omega) e h2
            have h4:=List.take_append_drop 1 s
            rw [hm',h3] at h4
            exact h h4.symm
          unfold unnum
          rw [if_neg (by omega),if_pos hm',if_neg (fun hh=>hn hh.2),e]
          refine ⟨?_,rfl⟩
          simp only
          rw [IntKind.wrap_i64,IntKind.wrap_i64,IntKind.wrap_i64,IntKind.wrap_u64]
          omega
      · rw [ht] at h
        injection h with h
        exact hm (by rw [h]; rfl)
    · have:=congrArg List.length h
      simp only [List.length_take,List.length_cons,List.length_nil] at this
      omega)
  exact h
theorem c45 (s:Bytes) :∃c r ok,EscK s c r ok∧Pus prog 45 [.s s] (.tup [.i .u8 c,.s r,.b ok]):=by
  refine p45 H.f45 (s0:=s) (K:=EscK s) ?_
  unfold T45_0 T45_1
  refine ⟨fun h=>by subst h; exact EscK.no rfl,fun h=>?_⟩
  cases s with
  | nil=>exact absurd rfl h
  | cons c r=>
    have lit :∀{n:Nat} (_:n < 256),(UInt8.ofNat n).toNat = n:=by intro n hn; simp; omega
    unfold T45_2
    refine ⟨c,rfl,?_⟩
    have t4:T45_4 prog (EscK (c :: r)) (c :: r) (c.toNat:Int) (decide (c.toNat = 34∨c.toNat = 92)):=by
      unfold T45_4
      refine ⟨fun h1=>⟨c,rfl,by simp,?_⟩,fun h1=>?_⟩
      · have h1:=of_decide_eq_true h1
        exact EscK.yes (show (if c.toNat = 34∨c.toNat = 92 then some (c,r) else _) = some (c,r) from if_pos h1) rfl
      · have h1:=of_decide_eq_false h1
        have e0:esc (c :: r) = if c.toNat = 110 then some (10,r) else if c.toNat = 120 then esx r else none:=by
          show (if c.toNat = 34∨c.toNat = 92 then some (c,r) else if c.toNat = 110 then some (10,r) else if c.toNat = 120 then esx r else none) = _
          rw [if_neg h1]
        refine ⟨fun h2=>⟨by simp,?_⟩,fun h2=>⟨fun h3=>?_,fun h3=>?_⟩⟩
        · exact EscK.yes (by rw [e0,if_pos (by omega)]; rfl) rfl
        · have e:esc (c :: r) = esx r:=by rw [e0,if_neg (by omega),if_pos (by omega)]
          refine ⟨fun h4=>?_,fun h4=>?_⟩
          · refine EscK.no ?_
            rw [e]
            match r,h4 with
            | [],_=>rfl
            | [a],_=>rfl
            | a :: b :: r',h4=>simp at h4; omega
          · match r,h4,e with
            | [],h4,_=>exact absurd (by simp) h4
            | [a],h4,_=>exact absurd (by simp) h4
            | a :: b :: r',_,e=>
              have la:=dv_lt (b:=16) (by omega) a
              have lb:=dv_lt (b:=16) (by omega) b
              have ca:Pus prog 43 [.s DIG,.i .u8 (a.toNat:Int)] (.i .i64 (dv 16 a)):=c43 H DIG a
              have cb:Pus prog 43 [.s DIG,.i .u8 (b.toNat:Int)] (.i .i64 (dv 16 b)):=c43 H DIG b
              refine ⟨a,rfl,_,ca,b,rfl,_,cb,by simp,?_⟩
              simp only [esx] at e
              by_cases hv:0≤dv 16 a∧0≤dv 16 b
              · have hw:IntKind.u8.wrap (IntKind.i64.wrap ((IntKind.i64.wrap (16 * dv 16 a)) + dv 16 b)) = 16 * dv 16 a + dv 16 b:=by
                  rw [wr_i64 (z:=16 * dv 16 a) (by omega) (by omega),wr_i64 (by omega) (by omega),wr_u8 (by omega) (by omega)]
                have en:=lit (n:=(16 * dv 16 a + dv 16 b).toNat) (by omega)
                rw [hw]
                refine ⟨fun _=>⟨fun _=>⟨fun h5=>⟨fun h6=>?_,fun h6=>?_⟩,fun h5=>?_⟩,fun h5=>absurd hv.2 h5⟩,fun h5=>absurd hv.1 h5⟩
                · rw [if_pos ⟨hv.1,hv.2,by omega,by omega⟩] at e
                  exact EscK.yes e (by rw [en]; omega)
                · by_cases h7:126 < 16 * dv 16 a + dv 16 b
                  · rw [if_pos ⟨hv.1,hv.2,by omega,by omega⟩] at e
                    rw [decide_eq_true h7]
                    exact EscK.yes e (by rw [en]; omega)
                  · rw [if_neg (by omega)] at e
                    rw [decide_eq_false h7]
                    exact EscK.no e
                · rw [if_neg (by omega)] at e
                  exact EscK.no e
              · rw [if_neg (by omega)] at e
                exact ⟨fun h5=>⟨fun h6=>absurd ⟨h5,h6⟩ hv,fun _=>EscK.no e⟩,fun _=>EscK.no e⟩
        · exact EscK.no (by rw [e0,if_neg (by omega),if_neg (by omega)])
    unfold T45_3
    refine ⟨fun h1=>?_,fun h1=>?_⟩
    · rw [show decide ((c.toNat:Int) = 34) = decide (c.toNat = 34∨c.toNat = 92) from decide_eq_decide.2 (by omega)]
      exact t4
    · rw [show decide ((c.toNat:Int) = 92) = decide (c.toNat = 34∨c.toNat = 92) from decide_eq_decide.2 (by omega)]
      exact t4
theorem c39 {s:Bytes} (hs:s.length≤10000000):Pus prog 39 [.s s] (.tup [.s (nxtR s).1,.s (nxtR s).2.1,.b (nxtR s).2.2]):=by
  obtain ⟨x,y,z,⟨rfl,rfl,rfl⟩,h⟩:=p39 H.f39 (s0:=s) (K:=fun x y z=>x = (nxtR s).1∧y = (nxtR s).2.1∧z = (nxtR s).2.2) (by
    have no:nxt s = none→([]:Bytes) = (nxtR s).1∧([]:Bytes) = (nxtR s).2.1∧false = (nxtR s).2.2:=by
      intro h
      unfold nxtR
      rw [h]
      exact ⟨rfl,rfl,rfl⟩
    unfold T39_0 T39_1
    refine ⟨_,_,c36 H s [34],?_⟩
    cases s with
    | nil=>
      rw [show cutp [34] [] = ([],false) from rfl]
      exact ⟨fun _=>no rfl,fun h=>by simp at h⟩
    | cons q s=>
      by_cases hq:q.toNat = 34
      · have hq':q = 34:=u8_eq hq
        subst hq'
        have ec:cutp [34] (34 :: s) = (s,true):=by unfold cutp; rw [if_pos (show List.take ([34]:Bytes).length (34 :: s) = [34] from rfl)]; rfl
        rw [ec]
        refine ⟨fun h=>by simp at h,fun _ P hP=>?_⟩
        have hn:nxt (34 :: s) = nxtB (s.length + 1) [] s:=by
          simp only [nxt]
          rw [if_pos hq]
        have key :∀n b r,r.length < n→b.length + r.length≤10000000→nxtB n b r = nxt (34 :: s)→P r b:=by
          intro n
          induction n with
          | zero=>intro b r h; exact absurd h (Nat.not_lt_zero _)
          | succ n ih=>
            intro b r hr hb hx
            apply hP
            unfold T39_2
            cases r with
            | nil=>exact ⟨fun h=>absurd rfl h,fun _=>no (by rw [← hx]; rfl)⟩
            | cons c r=>
              simp only [nxtB] at hx
              refine ⟨fun _=>⟨c,rfl,by simp,fun h1=>?_,fun h1=>⟨fun h2=>?_,fun h2=>⟨fun h3=>?_,fun h3=>⟨fun h4=>?_,fun h4=>?_⟩⟩⟩⟩,fun h=>absurd (by simp) h⟩
              · rw [if_pos (by omega)] at hx
                unfold nxtR
                rw [← hx]
                exact ⟨rfl,rfl,rfl⟩
              · refine no ?_
                rw [← hx,if_neg (by omega),show one (c :: r) = none by simp only [one]; rw [if_pos (by omega)]]
              · refine no ?_
                rw [← hx,if_neg (by omega),show one (c :: r) = none by simp only [one]; rw [if_pos (by omega)]]
              · rw [if_neg (by omega),show one (c :: r) = esc r by simp only [one]; rw [if_neg (by omega),if_pos (by omega)]] at hx
                obtain ⟨a,r',ok,hk,hp⟩:=c45 H r
                refine ⟨a,r',ok,hp,fun h5=>?_,fun h5=>?_⟩
                · unfold EscK at hk
                  cases he:esc r with
                  | none=>rw [he] at hx; exact no hx.symm
                  | some p=>
                    rw [he] at hk
                    obtain ⟨_,_,hk⟩:=hk
                    rw [hk] at h5
                    exact absurd h5 (by decide)
                · unfold EscK at hk
                  cases he:esc r with
                  | none=>
                    rw [he] at hk
                    simp only at hk
                    rw [hk] at h5
                    exact absurd h5 (by decide)
                  | some p=>
                    obtain ⟨u,v⟩:=p
                    rw [he] at hk hx
                    obtain ⟨h6,h7,h8⟩:=hk
                    simp only at hx h6 h7
                    subst h6; subst h7
                    have hl:r'.length < (c :: r).length:=one_len (c:=u) (by simp only [one]; rw [if_neg (by omega),if_pos (by omega)]; exact he)
                    simp only [List.length_cons] at hl hb hr
                    unfold T39_3
                    refine ⟨u,rfl,⟨?_,?_⟩,ih _ _ (by omega) ?_ hx⟩
                    · simp only [List.length_cons,List.length_nil,maxBytes_eq]; omega
                    · simp only [List.length_cons,List.length_nil,maxBytes_eq]; omega
                    · simp only [List.length_append,List.length_cons,List.length_nil]; omega
              · rw [if_neg (by omega),show one (c :: r) = some (c,r) by simp only [one]; rw [if_neg (by omega),if_neg (by omega)]] at hx
                simp only [List.length_cons] at hb hr
                unfold T39_3
                refine ⟨c,rfl,⟨?_,?_⟩,ih _ _ (show r.length < n by omega) ?_ hx⟩
                · simp only [List.length_cons,List.length_nil,maxBytes_eq]; omega
                · simp only [List.length_cons,List.length_nil,maxBytes_eq]; omega
                · simp only [List.drop_succ_cons,List.drop_zero,List.length_append,List.length_cons,List.length_nil]; omega
        exact key (s.length + 1) [] s (by omega) (by simp at hs ⊢; omega) hn.symm
      · have ec:cutp [34] (q :: s) = (q :: s,false):=by
          unfold cutp
          rw [if_neg ?_]
          intro h
          injection h with h
          exact hq (by rw [h]; rfl)
        rw [ec]
        refine ⟨fun _=>no ?_,fun h=>by simp at h⟩
        simp only [nxt]
        rw [if_neg hq])
  exact h
theorem c40 {s:Bytes} (hs:s.length≤10000000):Pus prog 40 [.s s] (.tup [.s (nxtR s).1,.s (nxtR s).2.1,.b (nxtR s).2.2]):=by
  obtain ⟨x,y,z,⟨rfl,rfl,rfl⟩,h⟩:=p40 H.f40 (s0:=s) (K:=fun x y z=>x = (nxtR s).1∧y = (nxtR s).2.1∧z = (nxtR s).2.2) (by
    have no:nxt s = none→([]:Bytes) = (nxtR s).1∧([]:Bytes) = (nxtR s).2.1∧false = (nxtR s).2.2:=by
      intro h
      unfold nxtR
      rw [h]
      exact ⟨rfl,rfl,rfl⟩
    unfold T40_0 T40_1
    cases s with
    | nil=>exact ⟨fun _=>no rfl,fun h=>absurd rfl h⟩
    | cons q s=>
      refine ⟨fun h=>absurd h (by simp; omega),fun _=>⟨q,rfl,fun hq=>no ?_,fun hq=>?_⟩⟩
      · simp only [nxt]
        rw [if_neg (by omega)]
      · have hn:nxt (q :: s) = nxtB (s.length + 1) [] s:=by
          simp only [nxt]
          rw [if_pos (by omega)]
        unfold T40_2 T40_3 T40_4
        refine ⟨by simp,fun P hP=>?_⟩
        have key :∀n b r,r.length < n→b.length + r.length≤10000000→nxtB n b r = nxt (q :: s)→P r b:=by
          intro n
          induction n with
          | zero=>intro b r h; exact absurd h (Nat.not_lt_zero _)
          | succ n ih=>
            intro b r hr hb hx
            apply hP
            unfold T40_5
            cases r with
            | nil=>
              refine ⟨fun h=>absurd h (by simp),fun _=>?_⟩
              unfold T40_9
              exact ⟨fun _=>no (by rw [← hx]; rfl),fun h=>absurd rfl h⟩
            | cons c r=>
              simp only [nxtB] at hx
              refine ⟨fun _=>⟨c,rfl,fun h1=>?_,fun h1=>?_⟩,fun h=>absurd (show ((c :: r).length:Int) > 0 by simp) h⟩
              · rw [if_neg (by omega)] at hx
                intro P1 hP1
                have pref :∀a:UInt8,(c :: r).take (chr a).length = chr a ↔ one (c :: r) = some (a,(c :: r).drop (chr a).length):=fun a=>take_chr
                have lit :∀{i:Nat} (_:i < 256),IntKind.u8.wrap (i:Int) = ((UInt8.ofNat i).toNat:Int):=by
                  intro i hi
                  rw [wr_u8 (by omega) (by omega)]
                  simp; omega
                -- a step that finds nothing
                have skip :∀i:Nat,i < 256→one (c :: r)≠some (UInt8.ofNat i,(c :: r).drop (chr (UInt8.ofNat i)).length)→P1 (c :: r) b false ((i + 1:Nat):Int)→P1 (c :: r) b false (i:Int):=by
                  intro i hi hne hnext
                  apply hP1
                  unfold T40_6 T40_7
                  rw [lit hi,wr_succ (by omega)]
                  refine ⟨fun _=>⟨fun _=>⟨_,c41 H _,fun h2=>⟨by omega,by omega,fun h3=>?_,fun h3=>hnext⟩,fun h2=>hnext⟩,fun h=>by simp at h⟩,fun h=>absurd (show (i:Int) < 256 by omega) h⟩
                  exact absurd ((pref _).1 h3) hne
                cases ho:one (c :: r) with
                | none=>
                  rw [ho] at hx
                  refine loop_up0 (P:=fun i=>P1 (c :: r) b false i) 256 ?_ fun i hi hnext=>skip i hi (by rw [ho]; intro h; cases h) hnext
                  apply hP1
                  unfold T40_6 T40_8
                  exact ⟨fun h=>absurd h (by decide),fun _=>⟨fun _=>no hx.symm,fun h=>by simp at h⟩⟩
                | some p=>
                  obtain ⟨a,r'⟩:=p
                  rw [ho] at hx
                  simp only at hx
                  have hl:=one_len ho
                  simp only [List.length_cons] at hl hb hr
                  have ha:=a.toNat_lt
                  have hthen:P r' (b ++ [a]):=ih _ _ (by omega) (by simp only [List.length_append,List.length_cons,List.length_nil]; omega) hx
                  have hinv:=one_inv ho
                  have hdr:(c :: r).drop (chr a).length = r':=by rw [hinv]; simp
                  have hfound :∀i:Int,P1 r' (b ++ [a]) true i:=by
                    intro i
                    apply hP1
                    unfold T40_6 T40_8
                    exact ⟨fun _=>⟨fun h=>by simp at h,fun _=>⟨fun h=>by simp at h,fun _=>hthen⟩⟩,fun _=>⟨fun h=>by simp at h,fun _=>hthen⟩⟩
                  have hat:P1 (c :: r) b false (a.toNat:Int):=by
                    apply hP1
                    unfold T40_6 T40_7
                    have e1:IntKind.u8.wrap (a.toNat:Int) = (a.toNat:Int):=wr_u8 (by omega) (by omega)
                    have hlen:=congrArg List.length hinv
                    simp only [List.length_append,List.length_cons] at hlen
                    rw [e1]
                    refine ⟨fun _=>⟨fun _=>⟨_,c41 H a,fun h2=>⟨by omega,by rw [toNat_cast,List.length_cons]; omega,fun h3=>⟨a,rfl,?_,by omega,by rw [toNat_cast,List.length_cons]; omega,?_⟩,fun h3=>?_⟩,fun h2=>?_⟩,fun h=>by simp at h⟩,fun h=>absurd (show (a.toNat:Int) < 256 by omega) h⟩
                    · simp only [List.length_cons,List.length_nil,maxStr_eq]; omega
                    · rw [toNat_cast,hdr]
                      exact hfound _
                    · exact absurd ((pref a).2 (by rw [ho,hdr])) h3
                    · simp only [List.length_cons] at h2
                      omega
                  have below :∀m i:Nat,i + m = a.toNat→P1 (c :: r) b false (i:Int):=by
                    intro m
                    induction m with
                    | zero=>intro i hi; simp only [Nat.add_zero] at hi; rw [hi]; exact hat
                    | succ m ihm=>
                      intro i hi
                      refine skip i (by omega) ?_ (ihm (i + 1) (by omega))
                      rw [ho]
                      intro h
                      injection h with h
                      injection h with h
                      have:=congrArg UInt8.toNat h
                      simp at this
                      omega
                  exact below a.toNat 0 (by omega)
              · unfold T40_9
                rw [if_pos (by omega)] at hx
                refine ⟨fun h=>absurd h (by simp; omega),fun _=>⟨by simp,?_⟩⟩
                unfold nxtR
                rw [← hx]
                exact ⟨rfl,rfl,rfl⟩
        exact key (s.length + 1) [] s (by omega) (by simp at hs ⊢; omega) hn.symm)
  exact h
theorem c25 (s:Bytes):Pus prog 25 [.s s] (.tup [.s (unquo s).1,.i .i64 (unquo s).2]):=by
  obtain ⟨x,y,⟨rfl,rfl⟩,h⟩:=p25 H.f25 (s0:=s) (K:=fun x y=>x = (unquo s).1∧y = (unquo s).2) (by
    unfold T25_0 unquo
    refine ⟨fun h=>by rw [if_pos (by omega)]; exact ⟨rfl,rfl⟩,fun hs=>⟨_,_,_,c39 H (by omega),?_⟩⟩
    rw [if_neg (by omega)]
    unfold nxtR
    cases nxt s with
    | none=>exact ⟨fun _=>⟨rfl,rfl⟩,fun h=>by simp at h⟩
    | some p=>
      obtain ⟨x,r⟩:=p
      refine ⟨fun h=>by simp at h,fun _=>⟨fun h=>?_,fun h=>?_⟩⟩
      · cases r with
        | nil=>exact absurd rfl h
        | cons c r=>exact ⟨rfl,rfl⟩
      · have h:r = []:=Classical.not_not.1 h
        subst h
        refine ⟨fun h=>?_,fun h=>?_⟩
        · simp only at h ⊢
          rw [if_pos (by omega)]; exact ⟨rfl,rfl⟩
        · simp only at h ⊢
          rw [if_neg (by omega)]; exact ⟨rfl,rfl⟩)
  exact h
theorem c26 (s:Bytes):Pus prog 26 [.s s] (.tup [.s (unquo s).1,.i .i64 (unquo s).2]):=by
  obtain ⟨x,y,⟨rfl,rfl⟩,h⟩:=p26 H.f26 (s0:=s) (K:=fun x y=>x = (unquo s).1∧y = (unquo s).2) (by
    unfold T26_0 unquo
    refine ⟨fun h=>by rw [if_pos (by omega)]; exact ⟨rfl,rfl⟩,fun hs=>⟨_,_,_,c40 H (by omega),?_⟩⟩
    rw [if_neg (by omega)]
    unfold nxtR
    cases nxt s with
    | none=>exact ⟨fun _=>⟨rfl,rfl⟩,fun h=>by simp at h⟩
    | some p=>
      obtain ⟨x,r⟩:=p
      refine ⟨fun h=>by simp at h,fun _=>⟨fun h=>?_,fun h=>?_⟩⟩
      · cases r with
        | nil=>exact absurd rfl h
        | cons c r=>exact ⟨rfl,rfl⟩
      · have h:r = []:=Classical.not_not.1 h
        subst h
        refine ⟨fun h=>?_,fun h=>?_⟩
        · simp only at h ⊢
          rw [if_pos (by omega)]; exact ⟨rfl,rfl⟩
        · simp only at h ⊢
          rw [if_neg (by omega)]; exact ⟨rfl,rfl⟩)
  exact h
end
end Go.AM
