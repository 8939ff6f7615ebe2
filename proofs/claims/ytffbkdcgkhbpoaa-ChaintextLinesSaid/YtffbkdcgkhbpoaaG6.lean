/- Parts of the proof: U39b, U39c, U39d, K39, C30, C30b, V38b, V38c, V39, V39b, C38. -/
import Derived.Test.YtffbkdcgkhbpoaaG2
import Derived.Test.YtffbkdcgkhbpoaaRows
import Derived.Test.YtffbkdcgkhbpoaaG3
import Derived.Test.YtffbkdcgkhbpoaaG4
import Derived.Test.YtffbkdcgkhbpoaaG5
import Derived.Shelf.Strings.Builder1
set_option linter.all false
/- Parts of the proof. -/
namespace Go.AM
open Go
set_option linter.unusedVariables false
set_option linter.unusedSimpArgs false
set_option maxRecDepth 4000
attribute [local irreducible] WO fillCells fillRows
def r181_0:List AI:=[oO 2 (.alloc [.i .u64 0,.i .u8 0,.i .i64 0,.s [],.sl .full [],.b false,.i .u64 0]),
 oC 3 (.b false)]
def r181_1:List AI:=[oM 12 0,
 oB 13 .eql (.t 12) (.c (.s [101,120,105,116]))]
def r181_2:List AI:=[oO 14 (.build [.i .u64 0,.i .u8 0,.i .i64 0,.s [],.sl .full [],.b false,.i .u64 0] [(6,1,(.c (.i .u64 2)))]),
 oS 7 2 14,
 oC 3 (.b true)]
def r181_3:List AI:=[oO 15 (.call false 178 []),
 oC 16 (.i .i64 0)]
def r181_4:List AI:=[oB 17 .lss (.t 16) (.c (.i .i64 4))]
def r181_5:List AI:=[oM 18 16,
 oO 19 (.ixA 4 1 false (.t 15) (.t 16)),
 oM 4 18,
 oM 5 19]
def r181_6:List AI:=[oM 20 4,
 oB 21 .gtr (.t 20) (.c (.i .i64 0)),
 oM 22 21,
 oG 23 (.mv (.t 5)) 22 true,
 oG 24 (.mv (.t 0)) 22 true,
 oG 25 (.bin .eql (.t 23) (.t 24)) 22 true,
 oO 26 (.pick (.t 22) (.t 25) (.c (.b false)))]
def r181_7:List AI:=[oM 27 4,
 oO 28 (.build [.i .u8 0,.i .i64 0,.s [],.sl .full [],.b false] [(0,1,(.c (.i .u8 2))),(1,1,(.t 27))]),
 oO 29 (.build [.i .u64 0,.i .u8 0,.i .i64 0,.s [],.sl .full [],.b false,.i .u64 0] [(0,1,(.c (.i .u64 4))),(1,5,(.t 28))]),
 oS 7 2 29,
 oC 3 (.b true)]
def r181_8:List AI:=[oB 30 .add (.t 16) (.c (.i .i64 1)),
 oM 16 30]
def r181_9:List AI:=[oM 32 0,
 oO 33 (.call false 36 [(.t 32),(.c (.s [112,97,110,105,99,32]))]),
 oM 31 33,
 oE 34 0 31,
 oE 35 1 31,
 oM 6 34,
 oM 7 35]
def r181_10:List AI:=[oM 36 7,
 oO 37 (.un .not (.t 36))]
def r181_11:List AI:=[oO 38 (.build [.i .u64 0,.i .u8 0,.i .i64 0,.s [],.sl .full [],.b false,.i .u64 0] []),
 oS 7 2 38,
 oC 3 (.b false)]
def r181_12:List AI:=[oM 40 6,
 oO 41 (.call false 74 [(.t 40)]),
 oM 39 41,
 oE 42 0 39,
 oE 43 1 39,
 oO 8 (.alloc [.i .u8 0,.i .i64 0,.s [],.sl .full [],.b false]),
 oS 5 8 42,
 oM 9 43]
def r181_13:List AI:=[oO 44 (.call false 183 []),
 oC 45 (.i .i64 0)]
def r181_14:List AI:=[oB 46 .lss (.t 45) (.c (.i .i64 5))]
def r181_15:List AI:=[oM 47 45,
 oO 48 (.ixA 5 1 false (.t 44) (.t 45)),
 oM 10 47,
 oM 11 48]
def r181_16:List AI:=[oM 49 9,
 oB 50 .eql (.t 49) (.c (.i .i64 0)),
 oM 51 50,
 oG 52 (.mv (.t 11)) 51 true,
 oG 53 (.fad 0 (.t 8)) 51 true,
 oG 54 (.load 1 false (.t 53)) 51 true,
 oG 55 (.bin .eql (.t 52) (.t 54)) 51 true,
 oO 56 (.pick (.t 51) (.t 55) (.c (.b false)))]
def r181_17:List AI:=[oM 57 10,
 oO 58 (.cvi .u64 (.t 57)),
 oO 59 (.load 5 true (.t 8)),
 oO 60 (.build [.i .u64 0,.i .u8 0,.i .i64 0,.s [],.sl .full [],.b false,.i .u64 0] [(0,1,(.t 58)),(1,5,(.t 59))]),
 oS 7 2 60,
 oC 3 (.b true)]
def r181_18:List AI:=[oB 61 .add (.t 45) (.c (.i .i64 1)),
 oM 45 61]
def r181_19:List AI:=[oO 62 (.build [.i .u64 0,.i .u8 0,.i .i64 0,.s [],.sl .full [],.b false,.i .u64 0] []),
 oS 7 2 62,
 oC 3 (.b false)]
abbrev c181_0:AC:=(.cond (.t 26) (.seq (.reg 7 r181_7) .ret) .skip)
abbrev l181_0:AC:=(.seq (.reg 4 r181_4) (.seq (.cond (.t 17) .skip (.exit 0)) (.seq (.block 1 (.seq (.reg 5 r181_5) (.seq (.reg 6 r181_6) c181_0))) (.reg 8 r181_8))))
abbrev c181_2:AC:=(.cond (.t 56) (.seq (.reg 17 r181_17) .ret) .skip)
abbrev l181_1:AC:=(.seq (.reg 14 r181_14) (.seq (.cond (.t 46) .skip (.exit 2)) (.seq (.block 3 (.seq (.reg 15 r181_15) (.seq (.reg 16 r181_16) c181_2))) (.reg 18 r181_18))))
abbrev c181_4:AC:=(.seq (.reg 19 r181_19) .ret)
abbrev c181_5:AC:=(.seq (.reg 9 r181_9) (.seq (.seq (.reg 10 r181_10) (.cond (.t 37) (.seq (.reg 11 r181_11) .ret) .skip)) (.seq (.reg 12 r181_12) (.seq (.seq (.reg 13 r181_13) (.block 2 (.loop l181_1))) c181_4))))
abbrev c181_6:AC:=(.seq (.seq (.reg 3 r181_3) (.block 0 (.loop l181_0))) c181_5)
abbrev c181_7:AC:=(.seq (.seq (.reg 1 r181_1) (.cond (.t 13) (.seq (.reg 2 r181_2) .ret) .skip)) c181_6)
abbrev b181:AC:=(.seq (.reg 0 r181_0) c181_7)
def pf181:AF:={ nt:=63,res:=[.cell 2 7 true,.tmp 3],body:=b181 }
abbrev H181 (Q:AE→Sl→St→Prop)(K:Pan→Bool→Prop):Prop:=∀(σ:Sl)(st:St)(k0:Key)(v0:Nat)(o0_0:Own)(res0:Pan)(res1:Bool),σ 2 = .p k0 v0 0→lk st.bx k0 = some (v0,[.i .u64 res0.tag,.i .u8 res0.value.kind,.i .i64 res0.value.int,.s res0.value.text,.sl o0_0 (List.map Val.row res0.value.list),.b res0.value.cut,.i .u64 res0.flags])→σ 3 = .b res1→K res0 res1→Q .ret σ st
abbrev I181_0 (prog:Prog)(d:Nat)(Q:AE→Sl→St→Prop)(s0:List UInt8)(t15:List (List UInt8))(t16:Int)(m0:Pan):Prop:=
  ∀(σ:Sl)(st:St)(o_m0_4:Own)(v0:Nat),σ 0 = .s s0→σ 2 = .p (d,0) v0 0→σ 15 = .ag (List.map AV.s t15)→σ 16 = .i .i64 t16→lk st.bx (d,0) = some (v0,[.i .u64 m0.tag,.i .u8 m0.value.kind,.i .i64 m0.value.int,.s m0.value.text,.sl o_m0_4 (List.map Val.row m0.value.list),.b m0.value.cut,.i .u64 m0.flags])→W prog d (.loop l181_0) σ st (blockW 0 (thenW prog d c181_5 Q))
def T181_4 (prog:Prog)(K:Pan→Bool→Prop)(P0:Int→Pan→Prop)(s0:List UInt8)(n4:Int)(t15:List (List UInt8))(t16:Int)(t26:Bool)(m0:Pan):Prop:=
  (t26 = true→K (Pan.mk 4 (Val.mk 2 n4 [] ([]:List Val) false) 0) true)∧(t26 = false→P0 (IntKind.i64.wrap (t16 + 1)) m0)
abbrev I181_1 (prog:Prog)(d:Nat)(Q:AE→Sl→St→Prop)(e9:Int)(t44:List (UInt8))(t45:Int)(m0:Pan)(m49157:Val):Prop:=
  ∀(σ:Sl)(st:St)(o_m0_4:Own) (v0 v49157:Nat),σ 2 = .p (d,0) v0 0→σ 8 = .p (d,49157) v49157 0→σ 9 = .i .i64 e9→σ 44 = .ag (List.map c8 t44)→σ 45 = .i .i64 t45→lk st.bx (d,0) = some (v0,[.i .u64 m0.tag,.i .u8 m0.value.kind,.i .i64 m0.value.int,.s m0.value.text,.sl o_m0_4 (List.map Val.row m0.value.list),.b m0.value.cut,.i .u64 m0.flags])→lk st.bx (d,49157) = some (v49157,[.i .u8 m49157.kind,.i .i64 m49157.int,.s m49157.text,.sl .ext (List.map Val.row m49157.list),.b m49157.cut])→W prog d (.loop l181_1) σ st (blockW 2 (thenW prog d c181_4 Q))
def T181_7 (prog:Prog)(K:Pan→Bool→Prop)(P1:Int→Pan→Val→Prop)(e9:Int)(tag10:Int)(t44:List (UInt8))(t45:Int)(t56:Bool)(m0:Pan)(m49157:Val):Prop:=
  (t56 = true→K (Pan.mk (IntKind.u64.wrap tag10) m49157 0) true)∧(t56 = false→P1 (IntKind.i64.wrap (t45 + 1)) m0 m49157)
def T181_8 (prog:Prog)(K:Pan→Bool→Prop)(m0:Pan):Prop:=
  K (Pan.mk 0 (Val.mk 0 0 [] ([]:List Val) false) 0) false
def T181_6 (prog:Prog)(K:Pan→Bool→Prop)(P1:Int→Pan→Val→Prop)(e9:Int)(t44:List (UInt8))(t45:Int)(m0:Pan)(m49157:Val):Prop:=
  (t45 < 5→t44.length = 5∧0≤t45∧∃c'2:UInt8,(t44:List (UInt8))[(t45).toNat]? = some c'2∧(e9 = 0→T181_7 prog K P1 e9 t45 t44 t45 (decide ((c'2.toNat:Int) = m49157.kind)) m0 m49157)∧(¬(e9 = 0)→T181_7 prog K P1 e9 t45 t44 t45 false m0 m49157))∧(¬(t45 < 5)→T181_8 prog K m0)
def T181_5 (prog:Prog)(K:Pan→Bool→Prop)(s0:List UInt8)(m0:Pan):Prop:=
  ∃r'1:List UInt8,∃r'2:Bool,Pus prog 36 [.s s0,.s ([112,97,110,105,99,32]:List UInt8)] (.tup [.s r'1,.b r'2])∧((!r'2) = true→K (Pan.mk 0 (Val.mk 0 0 [] ([]:List Val) false) 0) false)∧((!r'2) = false→∃r'5:Val,∃r'6:Int,Pus prog 74 [.s r'1] (.tup [r'5.av,.i .i64 r'6])∧∃r'8:List UInt8,Pus prog 183 [] (.ag (List.map c8 r'8))∧∀P1:Int→Pan→Val→Prop,(∀(t45:Int)(m0:Pan)(m49157:Val),T181_6 prog K P1 r'6 r'8 t45 m0 m49157→P1 t45 m0 m49157)→P1 0 m0 r'5)
def T181_3 (prog:Prog)(K:Pan→Bool→Prop)(P0:Int→Pan→Prop)(s0:List UInt8)(t15:List (List UInt8))(t16:Int)(m0:Pan):Prop:=
  (t16 < 4→t15.length = 4∧0≤t16∧∃c'2:List UInt8,(t15:List (List UInt8))[(t16).toNat]? = some c'2∧(t16 > 0→T181_4 prog K P0 s0 t16 t15 t16 (decide (c'2 = s0)) m0)∧(¬(t16 > 0)→T181_4 prog K P0 s0 t16 t15 t16 false m0))∧(¬(t16 < 4)→T181_5 prog K s0 m0)
def T181_2 (prog:Prog)(K:Pan→Bool→Prop)(s0:List UInt8)(m0:Pan):Prop:=
  ∃r'1:List (List UInt8),Pus prog 178 [] (.ag (List.map AV.s r'1))∧∀P0:Int→Pan→Prop,(∀(t16:Int)(m0:Pan),T181_3 prog K P0 s0 r'1 t16 m0→P0 t16 m0)→P0 0 m0
def T181_1 (prog:Prog)(K:Pan→Bool→Prop)(s0:List UInt8)(m0:Pan):Prop:=
  (s0 = ([101,120,105,116]:List UInt8)→K (Pan.mk 0 (Val.mk 0 0 [] ([]:List Val) false) 2) true)∧(¬(s0 = ([101,120,105,116]:List UInt8))→T181_2 prog K s0 m0)
def T181_0 (prog:Prog)(K:Pan→Bool→Prop)(s0:List UInt8):Prop:=
  T181_1 prog K s0 (Pan.mk 0 (Val.mk 0 0 [] ([]:List Val) false) 0)
section
variable {prog:Prog}{d:Nat}{Q:AE→Sl→St→Prop}{K:Pan→Bool→Prop}(hQ:H181 Q K){σ:Sl}{st:St}
include hQ
theorem w181_4 {s0:List UInt8}{n4:Int}{t15:List (List UInt8)}{t16:Int}{t26:Bool}{m0:Pan}{P0:Int→Pan→Prop} (kP0 :∀(t16:Int)(m0:Pan),P0 t16 m0→I181_0 prog d Q s0 t15 t16 m0){o_m0_4:Own}{v0:Nat}(H0:σ 0 = .s s0)(H2:σ 2 = .p (d,0) v0 0)(H4:σ 4 = .i .i64 n4)(H15:σ 15 = .ag (List.map AV.s t15))(H16:σ 16 = .i .i64 t16)(H26:σ 26 = .b t26)(B0:lk st.bx (d,0) = some (v0,[.i .u64 m0.tag,.i .u8 m0.value.kind,.i .i64 m0.value.int,.s m0.value.text,.sl o_m0_4 (List.map Val.row m0.value.list),.b m0.value.cut,.i .u64 m0.flags]))(h:T181_4 prog K P0 s0 n4 t15 t16 t26 m0):W prog d c181_0 σ st (blockW 1 (thenW prog d (.reg 8 r181_8) (thenW prog d (.loop l181_0) (blockW 0 (thenW prog d c181_5 Q))))):=
 cb_ H26 (fun g'1=>q_ rfl (m_ (s_build (f_cons rfl rfl (f_cons H4 rfl f_nil)) (s_build (f_cons rfl rfl (f_cons rfl rfl f_nil)) (so_ H2 B0 rfl rfl rfl (m_ (e_ (rt_ (hQ _ _ _ _ _ _ _ H2 lk_here rfl (h.1 g'1)))))))))) (fun g'1=>sk_ (W.reg0 rfl fun _ _=>b_ H16 rfl add_ (m_ (e_ (kP0 _ _ (h.2 g'1) _ _ _ _ H0 H2 H15 rfl B0)))))
theorem w181_7 {e9 tag10:Int}{t44:List (UInt8)}{t45:Int}{t56:Bool}{m0:Pan}{m49157:Val}{P1:Int→Pan→Val→Prop} (kP1 :∀(t45:Int)(m0:Pan)(m49157:Val),P1 t45 m0 m49157→I181_1 prog d Q e9 t44 t45 m0 m49157){o_m0_4:Own}{v0:Nat}{v49157:Nat}(H2:σ 2 = .p (d,0) v0 0)(H8:σ 8 = .p (d,49157) v49157 0)(H9:σ 9 = .i .i64 e9)(H10:σ 10 = .i .i64 tag10)(H44:σ 44 = .ag (List.map c8 t44))(H45:σ 45 = .i .i64 t45)(H56:σ 56 = .b t56)(B0:lk st.bx (d,0) = some (v0,[.i .u64 m0.tag,.i .u8 m0.value.kind,.i .i64 m0.value.int,.s m0.value.text,.sl o_m0_4 (List.map Val.row m0.value.list),.b m0.value.cut,.i .u64 m0.flags]))(B49157:lk st.bx (d,49157) = some (v49157,[.i .u8 m49157.kind,.i .i64 m49157.int,.s m49157.text,.sl .ext (List.map Val.row m49157.list),.b m49157.cut]))(h:T181_7 prog K P1 e9 tag10 t44 t45 t56 m0 m49157):W prog d c181_2 σ st (blockW 3 (thenW prog d (.reg 18 r181_18) (thenW prog d (.loop l181_1) (blockW 2 (thenW prog d c181_4 Q))))):=
 cb_ H56 (fun g'1=>q_ rfl (m_ (s_cvi H10 (l_ H8 B49157 rfl rfl (s_build (f_cons rfl rfl (f_cons rfl rfl f_nil)) (so_ H2 B0 rfl rfl rfl (m_ (e_ (rt_ (hQ _ _ _ _ _ _ _ H2 lk_here rfl (h.1 g'1))))))))))) (fun g'1=>sk_ (W.reg0 rfl fun _ _=>b_ H45 rfl add_ (m_ (e_ (kP1 _ _ _ (h.2 g'1) _ _ _ _ _ H2 H8 H9 H44 rfl B0 B49157)))))
theorem w181_8 {m0:Pan}{o_m0_4:Own}{v0:Nat}(H2:σ 2 = .p (d,0) v0 0)(B0:lk st.bx (d,0) = some (v0,[.i .u64 m0.tag,.i .u8 m0.value.kind,.i .i64 m0.value.int,.s m0.value.text,.sl o_m0_4 (List.map Val.row m0.value.list),.b m0.value.cut,.i .u64 m0.flags]))(h:T181_8 prog K m0):W prog d c181_4 σ st Q:=
 q_ rfl (s_build f_nil (so_ H2 B0 rfl rfl rfl (m_ (e_ (rt_ (hQ _ _ _ _ _ _ _ H2 lk_here rfl h))))))
theorem w181_6 {e9:Int}{t44:List (UInt8)}{t45:Int}{m0:Pan}{m49157:Val}{P1:Int→Pan→Val→Prop} (kP1 :∀(t45:Int)(m0:Pan)(m49157:Val),P1 t45 m0 m49157→I181_1 prog d Q e9 t44 t45 m0 m49157){o_m0_4:Own}{v0:Nat}{v49157:Nat}(H2:σ 2 = .p (d,0) v0 0)(H8:σ 8 = .p (d,49157) v49157 0)(H9:σ 9 = .i .i64 e9)(H44:σ 44 = .ag (List.map c8 t44))(H45:σ 45 = .i .i64 t45)(B0:lk st.bx (d,0) = some (v0,[.i .u64 m0.tag,.i .u8 m0.value.kind,.i .i64 m0.value.int,.s m0.value.text,.sl o_m0_4 (List.map Val.row m0.value.list),.b m0.value.cut,.i .u64 m0.flags]))(B49157:lk st.bx (d,49157) = some (v49157,[.i .u8 m49157.kind,.i .i64 m49157.int,.s m49157.text,.sl .ext (List.map Val.row m49157.list),.b m49157.cut]))(h:T181_6 prog K P1 e9 t44 t45 m0 m49157):W prog d l181_1 σ st (thenW prog d (.loop l181_1) (blockW 2 (thenW prog d c181_4 Q))):=
 q_ rfl (b_ H45 rfl lss_ (e_ (sq_ (cs_ rfl (fun g'1=>sk_ (sq_ (bk_ (q_ rfl (m_ ((h.1 g'1).2.2.elim fun c'2 e'3=>s_ixA (f:=c8) (h.1 g'1).1 H44 H45 (h.1 g'1).2.1 e'3.1 (m_ (m_ (e_ (q_ rfl (s_mvI H9 (b_ rfl rfl eql_ (s_mvB rfl (em_ (g:=51) rfl (fun g'5=>gy_ rfl (s_mvI rfl (gy_ rfl (f_ H8 (gy_ rfl (l_ rfl B49157 rfl rfl (gy_ rfl (b_ rfl rfl eql_ (pt_ rfl rfl (e_ (w181_7 hQ kP1 H2 H8 H9 H45 H44 H45 rfl B0 B49157 (e'3.2.1 g'5)))))))))))) (fun g'5=>gn_ (b:=false) rfl rfl (gn_ (b:=false) rfl rfl (gn_ (b:=false) rfl rfl (gn_ (b:=false) rfl rfl (pf_ rfl rfl (e_ (w181_7 hQ kP1 H2 H8 H9 H45 H44 H45 rfl B0 B49157 (e'3.2.2 g'5)))))))))))))))))))))) (fun g'1=>ex_ (w181_8 hQ H2 B0 (h.2 g'1)))))))
theorem w181_5 {s0:List UInt8}{m0:Pan}{o_m0_4:Own}{v0:Nat}(H0:σ 0 = .s s0)(H2:σ 2 = .p (d,0) v0 0)(B0:lk st.bx (d,0) = some (v0,[.i .u64 m0.tag,.i .u8 m0.value.kind,.i .i64 m0.value.int,.s m0.value.text,.sl o_m0_4 (List.map Val.row m0.value.list),.b m0.value.cut,.i .u64 m0.flags]))(h:T181_5 prog K s0 m0):W prog d c181_5 σ st Q:=
 q_ rfl (m_ (h.elim fun r'1 e'11=>e'11.elim fun r'2 e'3=>ca_ (sc H0 rfl (sc rfl rfl sn)) e'3.1 (m_ (x_ rfl rfl (x_ rfl rfl (m_ (m_ (e_ (sq_ (q_ rfl (m_ (nt_ rfl (e_ (cb_ rfl (fun g'4=>q_ rfl (s_build f_nil (so_ H2 B0 rfl rfl rfl (m_ (e_ (rt_ (hQ _ _ _ _ _ _ _ H2 lk_here rfl (e'3.2.1 g'4)))))))) (fun g'4=>sk_ (sq_ (W.reg (m_ ((e'3.2.2 g'4).elim fun r'5 e'10=>e'10.elim fun r'6 e'7=>ca_ (sc rfl rfl sn) e'7.1 (m_ (x_ rfl rfl (x_ rfl rfl (s_alloc (so_ rfl (show lk _ (d,49157) = some (_,([.i .u8 0,.i .i64 0,.s [],.sl .full (List.map Val.row ([]:List Val)),.b false]:List AV)) from lk_here) rfl rfl rfl (m_ (e_ (sq_ (q_ rfl (e'7.2.elim fun r'8 e'9=>ca_ sn e'9.1 (m_ (e_ (bk_ (e'9.2 (I181_1 prog d Q r'6 r'8) (fun _ _ _ hb _ _ _ _ _ H2 H8 H9 H44 H45 B0 B49157=>W.loop (w181_6 hQ (fun _ _ _ x=>x) H2 H8 H9 H44 H45 B0 B49157 hb)) _ _ _ _ _ H2 rfl rfl rfl rfl (lk_other rfl (lk_other rfl B0)) lk_here)))))))))))))))))))))))))))))))))
theorem w181_3 {s0:List UInt8}{t15:List (List UInt8)}{t16:Int}{m0:Pan}{P0:Int→Pan→Prop} (kP0 :∀(t16:Int)(m0:Pan),P0 t16 m0→I181_0 prog d Q s0 t15 t16 m0){o_m0_4:Own}{v0:Nat}(H0:σ 0 = .s s0)(H2:σ 2 = .p (d,0) v0 0)(H15:σ 15 = .ag (List.map AV.s t15))(H16:σ 16 = .i .i64 t16)(B0:lk st.bx (d,0) = some (v0,[.i .u64 m0.tag,.i .u8 m0.value.kind,.i .i64 m0.value.int,.s m0.value.text,.sl o_m0_4 (List.map Val.row m0.value.list),.b m0.value.cut,.i .u64 m0.flags]))(h:T181_3 prog K P0 s0 t15 t16 m0):W prog d l181_0 σ st (thenW prog d (.loop l181_0) (blockW 0 (thenW prog d c181_5 Q))):=
 q_ rfl (b_ H16 rfl lss_ (e_ (sq_ (cs_ rfl (fun g'1=>sk_ (sq_ (bk_ (q_ rfl (m_ ((h.1 g'1).2.2.elim fun c'2 e'3=>s_ixA (f:=AV.s) (h.1 g'1).1 H15 H16 (h.1 g'1).2.1 e'3.1 (m_ (m_ (e_ (q_ rfl (s_mvI H16 (b_ rfl rfl gtr_ (s_mvB rfl (em_ (g:=22) rfl (fun g'5=>gy_ rfl (s_mvS rfl (gy_ rfl (s_mvS H0 (gy_ rfl (b_ rfl rfl seq_ (pt_ rfl rfl (e_ (w181_4 hQ kP0 H0 H2 H16 H15 H16 rfl B0 (e'3.2.1 g'5)))))))))) (fun g'5=>gn_ (b:=false) rfl rfl (gn_ (b:=false) rfl rfl (gn_ (b:=false) rfl rfl (pf_ rfl rfl (e_ (w181_4 hQ kP0 H0 H2 H16 H15 H16 rfl B0 (e'3.2.2 g'5))))))))))))))))))))) (fun g'1=>ex_ (w181_5 hQ H0 H2 B0 (h.2 g'1)))))))
theorem w181_2 {s0:List UInt8}{m0:Pan}{o_m0_4:Own}{v0:Nat}(H0:σ 0 = .s s0)(H2:σ 2 = .p (d,0) v0 0)(B0:lk st.bx (d,0) = some (v0,[.i .u64 m0.tag,.i .u8 m0.value.kind,.i .i64 m0.value.int,.s m0.value.text,.sl o_m0_4 (List.map Val.row m0.value.list),.b m0.value.cut,.i .u64 m0.flags]))(h:T181_2 prog K s0 m0):W prog d c181_6 σ st Q:=
 sq_ (q_ rfl (h.elim fun r'1 e'2=>ca_ sn e'2.1 (m_ (e_ (bk_ (e'2.2 (I181_0 prog d Q s0 r'1) (fun _ _ hb _ _ _ _ H0 H2 H15 H16 B0=>W.loop (w181_3 hQ (fun _ _ x=>x) H0 H2 H15 H16 B0 hb)) _ _ _ _ H0 H2 rfl rfl B0))))))
theorem w181_1 {s0:List UInt8}{m0:Pan}{o_m0_4:Own}{v0:Nat}(H0:σ 0 = .s s0)(H2:σ 2 = .p (d,0) v0 0)(B0:lk st.bx (d,0) = some (v0,[.i .u64 m0.tag,.i .u8 m0.value.kind,.i .i64 m0.value.int,.s m0.value.text,.sl o_m0_4 (List.map Val.row m0.value.list),.b m0.value.cut,.i .u64 m0.flags]))(h:T181_1 prog K s0 m0):W prog d c181_7 σ st Q:=
 sq_ (q_ rfl (m_ (b_ H0 rfl seq_ (e_ (cs_ rfl (fun g'1=>q_ rfl (s_build (f_cons rfl rfl f_nil) (so_ H2 B0 rfl rfl rfl (m_ (e_ (rt_ (hQ _ _ _ _ _ _ _ H2 lk_here rfl (h.1 g'1)))))))) (fun g'1=>sk_ (w181_2 hQ H0 H2 B0 (h.2 g'1))))))))
theorem w181_0 {s0:List UInt8}(H0:σ 0 = .s s0)(h:T181_0 prog K s0):W prog d (.seq (.reg 0 r181_0) c181_7) σ st Q:=
 sq_ (W.reg (s_alloc (m_ (e_ (w181_1 (m0:=(Pan.mk 0 (Val.mk 0 0 [] ([]:List Val) false) 0)) hQ H0 rfl (show lk _ (d,0) = some (_,([.i .u64 0,.i .u8 0,.i .i64 0,.s [],.sl .full (List.map Val.row ([]:List Val)),.b false,.i .u64 0]:List AV)) from lk_here) h)))))
end
theorem p181 {prog:Prog}(hf:prog.fn 181 = some pf181){s0:List UInt8}{K:Pan→Bool→Prop}(h:T181_0 prog K s0) :∃res0:Pan,∃res1:Bool,K res0 res1∧Pus prog 181 [.s s0] (.tup [res0.av,.b res1]):=by
  obtain ⟨v,hv,res0,res1,hk,rfl⟩:=Pus.of (K:=fun v=>∃res0:Pan,∃res1:Bool,K res0 res1∧v = .tup [res0.av,.b res1]) hf rfl (w181_0 (σ:=sl0 [.s s0]) (fun σ st k0 v0 o0_0 res0 res1 H2 HB2 H3 hk=>⟨.tup [res0.avo o0_0,.b res1],by simp only [pf181,ares,aresL,ares_cellA (n:=7) H2 HB2 rfl,H3,ares_tmp,Option.map_some],_,rfl,res0,res1,hk,rfl⟩) rfl h)
  exact ⟨res0,res1,hk,hv⟩
def r156_0:List AI:=[oO 2 (.alloc [.i .u64 0,.i .u8 0,.i .i64 0,.s [],.sl .full [],.b false,.i .u64 0]),
 oC 3 (.i .i64 0)]
def r156_1:List AI:=[oM 9 0,
 oO 10 (.len true (.t 9)),
 oB 11 .gtr (.t 10) (.c (.i .i64 2000))]
def r156_2:List AI:=[oO 12 (.build [.i .u64 0,.i .u8 0,.i .i64 0,.s [],.sl .full [],.b false,.i .u64 0] []),
 oS 7 2 12,
 oC 3 (.i .i64 4)]
def r156_3:List AI:=[oM 14 0,
 oO 15 (.call false 180 [(.t 14),(.c (.s [32,97,98,111,114,116,101,100]))]),
 oM 13 15,
 oE 16 0 13,
 oE 17 1 13,
 oM 4 16,
 oM 5 17]
def r156_4:List AI:=[oM 19 4,
 oO 20 (.call false 180 [(.t 19),(.c (.s [32,114,101,99,111,118,101,114,101,100]))]),
 oM 18 20,
 oE 21 0 18,
 oE 22 1 18,
 oM 4 21,
 oM 6 22]
def r156_5:List AI:=[oM 24 4,
 oO 25 (.call false 181 [(.t 24)]),
 oM 23 25,
 oE 26 0 23,
 oE 27 1 23,
 oO 7 (.alloc [.i .u64 0,.i .u8 0,.i .i64 0,.s [],.sl .full [],.b false,.i .u64 0]),
 oS 7 7 26,
 oM 8 27]
def r156_6:List AI:=[oM 28 6]
def r156_7:List AI:=[oF 29 6 7,
 oL 30 29,
 oB 31 .or (.t 30) (.c (.i .u64 1)),
 oF 32 6 7,
 oS 1 32 31]
def r156_8:List AI:=[oM 33 5]
def r156_9:List AI:=[oF 34 6 7,
 oL 35 34,
 oB 36 .or (.t 35) (.c (.i .u64 4)),
 oF 37 6 7,
 oS 1 37 36]
def r156_10:List AI:=[oM 38 8,
 oO 39 (.un .not (.t 38)),
 oM 40 39,
 oG 41 (.load 7 true (.t 7)) 40 false,
 oG 42 (.call false 158 [(.t 41)]) 40 false,
 oG 43 (.bin .neq (.t 42) (.c (.i .i64 0))) 40 false,
 oO 44 (.pick (.t 40) (.c (.b true)) (.t 43))]
def r156_11:List AI:=[oO 45 (.build [.i .u64 0,.i .u8 0,.i .i64 0,.s [],.sl .full [],.b false,.i .u64 0] []),
 oS 7 2 45,
 oC 3 (.i .i64 12)]
def r156_12:List AI:=[oO 46 (.load 7 true (.t 7)),
 oS 7 2 46,
 oC 3 (.i .i64 0)]
abbrev c156_0:AC:=(.seq (.seq (.reg 10 r156_10) (.cond (.t 44) (.seq (.reg 11 r156_11) .ret) .skip)) (.seq (.reg 12 r156_12) .ret))
abbrev c156_1:AC:=(.seq (.seq (.reg 8 r156_8) (.cond (.t 33) (.reg 9 r156_9) .skip)) c156_0)
abbrev b156:AC:=(.seq (.reg 0 r156_0) (.seq (.seq (.reg 1 r156_1) (.cond (.t 11) (.seq (.reg 2 r156_2) .ret) .skip)) (.seq (.reg 3 r156_3) (.seq (.reg 4 r156_4) (.seq (.reg 5 r156_5) (.seq (.seq (.reg 6 r156_6) (.cond (.t 28) (.reg 7 r156_7) .skip)) c156_1))))))
def pf156:AF:={ nt:=47,res:=[.cell 2 7 true,.tmp 3],body:=b156 }
abbrev H156 (Q:AE→Sl→St→Prop)(K:Pan→Int→Prop):Prop:=∀(σ:Sl)(st:St)(k0:Key)(v0:Nat)(o0_0:Own)(res0:Pan)(res1:Int),σ 2 = .p k0 v0 0→lk st.bx k0 = some (v0,[.i .u64 res0.tag,.i .u8 res0.value.kind,.i .i64 res0.value.int,.s res0.value.text,.sl o0_0 (List.map Val.row res0.value.list),.b res0.value.cut,.i .u64 res0.flags])→σ 3 = .i .i64 res1→K res0 res1→Q .ret σ st
def T156_2 (prog:Prog)(K:Pan→Int→Prop)(ok8:Bool)(m0:Pan)(m20485:Pan):Prop:=
  ((!ok8) = true→K (Pan.mk 0 (Val.mk 0 0 [] ([]:List Val) false) 0) 12)∧((!ok8) = false→∃r'2:Int,Pus prog 158 [m20485.av] (.i .i64 r'2)∧(r'2≠0→K (Pan.mk 0 (Val.mk 0 0 [] ([]:List Val) false) 0) 12)∧(¬(r'2≠0)→K m20485 0))
def T156_1 (prog:Prog)(K:Pan→Int→Prop)(aborted5:Bool)(ok8:Bool)(m0:Pan)(m20485:Pan):Prop:=
  (aborted5 = true→T156_2 prog K ok8 m0 (Pan.mk m20485.tag m20485.value (bOr .u64 m20485.flags 4)))∧(aborted5 = false→T156_2 prog K ok8 m0 m20485)
def T156_0 (prog:Prog)(K:Pan→Int→Prop)(s0:List UInt8):Prop:=
  ((s0.length:Int) > 2000→K (Pan.mk 0 (Val.mk 0 0 [] ([]:List Val) false) 0) 4)∧(¬((s0.length:Int) > 2000)→∃r'2:List UInt8,∃r'3:Bool,Pus prog 180 [.s s0,.s ([32,97,98,111,114,116,101,100]:List UInt8)] (.tup [.s r'2,.b r'3])∧∃r'5:List UInt8,∃r'6:Bool,Pus prog 180 [.s r'2,.s ([32,114,101,99,111,118,101,114,101,100]:List UInt8)] (.tup [.s r'5,.b r'6])∧∃r'8:Pan,∃r'9:Bool,Pus prog 181 [.s r'5] (.tup [r'8.av,.b r'9])∧(r'6 = true→T156_1 prog K r'3 r'9 (Pan.mk 0 (Val.mk 0 0 [] ([]:List Val) false) 0) (Pan.mk r'8.tag r'8.value (bOr .u64 r'8.flags 1)))∧(r'6 = false→T156_1 prog K r'3 r'9 (Pan.mk 0 (Val.mk 0 0 [] ([]:List Val) false) 0) r'8))
section
variable {prog:Prog}{d:Nat}{Q:AE→Sl→St→Prop}{K:Pan→Int→Prop}(hQ:H156 Q K){σ:Sl}{st:St}
include hQ
theorem w156_2 {ok8:Bool}{m0 m20485:Pan}{o_m0_4:Own}{v0:Nat}{v20485:Nat}(H2:σ 2 = .p (d,0) v0 0)(H7:σ 7 = .p (d,20485) v20485 0)(H8:σ 8 = .b ok8)(B0:lk st.bx (d,0) = some (v0,[.i .u64 m0.tag,.i .u8 m0.value.kind,.i .i64 m0.value.int,.s m0.value.text,.sl o_m0_4 (List.map Val.row m0.value.list),.b m0.value.cut,.i .u64 m0.flags]))(B20485:lk st.bx (d,20485) = some (v20485,[.i .u64 m20485.tag,.i .u8 m20485.value.kind,.i .i64 m20485.value.int,.s m20485.value.text,.sl .ext (List.map Val.row m20485.value.list),.b m20485.value.cut,.i .u64 m20485.flags]))(h:T156_2 prog K ok8 m0 m20485):W prog d c156_0 σ st Q:=
 sq_ (q_ rfl (s_mvB H8 (nt_ rfl (s_mvB rfl (eb_ (g:=40) rfl (fun g'1=>gn_ (b:=true) rfl rfl (gn_ (b:=true) rfl rfl (gn_ (b:=true) rfl rfl (pt_ rfl rfl (e_ (ct_ rfl (q_ rfl (s_build f_nil (so_ H2 B0 rfl rfl rfl (m_ (e_ (rt_ (hQ _ _ _ _ _ _ _ H2 lk_here rfl (h.1 g'1)))))))))))))) (fun g'1=>gy_ rfl (l_ H7 B20485 rfl rfl (gy_ rfl ((h.2 g'1).elim fun r'2 e'3=>ca_ (sc rfl rfl sn) e'3.1 (gy_ rfl (b_ rfl rfl neq_ (pf_ rfl rfl (e_ (cs_ rfl (fun g'4=>q_ rfl (s_build f_nil (so_ H2 B0 rfl rfl rfl (m_ (e_ (rt_ (hQ _ _ _ _ _ _ _ H2 lk_here rfl (e'3.2.1 g'4)))))))) (fun g'4=>sk_ (q_ rfl (l_ H7 B20485 rfl rfl (so_ H2 B0 rfl rfl rfl (m_ (e_ (rt_ (hQ _ _ _ _ _ _ _ H2 lk_here rfl (e'3.2.2 g'4)))))))))))))))))))))))
theorem w156_1 {aborted5 ok8:Bool}{m0 m20485:Pan}{o_m0_4:Own}{v0:Nat}{v20485:Nat}(H2:σ 2 = .p (d,0) v0 0)(H5:σ 5 = .b aborted5)(H7:σ 7 = .p (d,20485) v20485 0)(H8:σ 8 = .b ok8)(B0:lk st.bx (d,0) = some (v0,[.i .u64 m0.tag,.i .u8 m0.value.kind,.i .i64 m0.value.int,.s m0.value.text,.sl o_m0_4 (List.map Val.row m0.value.list),.b m0.value.cut,.i .u64 m0.flags]))(B20485:lk st.bx (d,20485) = some (v20485,[.i .u64 m20485.tag,.i .u8 m20485.value.kind,.i .i64 m20485.value.int,.s m20485.value.text,.sl .ext (List.map Val.row m20485.value.list),.b m20485.value.cut,.i .u64 m20485.flags]))(h:T156_1 prog K aborted5 ok8 m0 m20485):W prog d c156_1 σ st Q:=
 sq_ (q_ rfl (m_ (e_ (cb_ H5 (fun g'1=>W.reg0 rfl fun _ _=>f_ H7 (l_ rfl B20485 rfl rfl (b_ rfl rfl (abin_or _ _ _) (f_ H7 (so_ rfl B20485 rfl rfl rfl (e_ (w156_2 (m20485:=(Pan.mk m20485.tag m20485.value (bOr .u64 m20485.flags 4))) hQ H2 H7 H8 (lk_other rfl B0) lk_here (h.1 g'1)))))))) (fun g'1=>sk_ (w156_2 hQ H2 H7 H8 B0 B20485 (h.2 g'1)))))))
theorem w156_0 {s0:List UInt8}(H0:σ 0 = .s s0)(h:T156_0 prog K s0):W prog d (.seq (.reg 0 r156_0) (.seq (.seq (.reg 1 r156_1) (.cond (.t 11) (.seq (.reg 2 r156_2) .ret) .skip)) (.seq (.reg 3 r156_3) (.seq (.reg 4 r156_4) (.seq (.reg 5 r156_5) (.seq (.seq (.reg 6 r156_6) (.cond (.t 28) (.reg 7 r156_7) .skip)) c156_1)))))) σ st Q:=
 sq_ (W.reg (s_alloc (m_ (e_ (sq_ (q_ rfl (m_ (ln_ H0 (b_ rfl rfl gtr_ (e_ (cs_ rfl (fun g'1=>q_ rfl (s_build f_nil (so_ rfl (show lk _ (d,0) = some (_,([.i .u64 0,.i .u8 0,.i .i64 0,.s [],.sl .full (List.map Val.row ([]:List Val)),.b false,.i .u64 0]:List AV)) from lk_here) rfl rfl rfl (m_ (e_ (rt_ (hQ _ _ _ _ _ _ _ rfl lk_here rfl (h.1 g'1)))))))) (fun g'1=>sk_ (q_ rfl (m_ ((h.2 g'1).elim fun r'2 e'14=>e'14.elim fun r'3 e'4=>ca_ (sc H0 rfl (sc rfl rfl sn)) e'4.1 (m_ (x_ rfl rfl (x_ rfl rfl (m_ (m_ (e_ (q_ rfl (m_ (e'4.2.elim fun r'5 e'13=>e'13.elim fun r'6 e'7=>ca_ (sc rfl rfl (sc rfl rfl sn)) e'7.1 (m_ (x_ rfl rfl (x_ rfl rfl (m_ (m_ (e_ (sq_ (W.reg (m_ (e'7.2.elim fun r'8 e'12=>e'12.elim fun r'9 e'10=>ca_ (sc rfl rfl sn) e'10.1 (m_ (x_ rfl rfl (x_ rfl rfl (s_alloc (so_ rfl (show lk _ (d,20485) = some (_,([.i .u64 0,.i .u8 0,.i .i64 0,.s [],.sl .full (List.map Val.row ([]:List Val)),.b false,.i .u64 0]:List AV)) from lk_here) rfl rfl rfl (m_ (e_ (sq_ (q_ rfl (m_ (e_ (cb_ rfl (fun g'11=>W.reg0 rfl fun _ _=>f_ rfl (l_ rfl lk_here rfl rfl (b_ rfl rfl (abin_or _ _ _) (f_ rfl (so_ rfl lk_here rfl rfl rfl (e_ (w156_1 (m0:=(Pan.mk 0 (Val.mk 0 0 [] ([]:List Val) false) 0)) (m20485:=(Pan.mk r'8.tag r'8.value (bOr .u64 r'8.flags 1))) hQ rfl rfl rfl rfl (lk_other rfl (lk_other rfl (lk_other rfl (show lk _ (d,0) = some (_,([.i .u64 0,.i .u8 0,.i .i64 0,.s [],.sl .full (List.map Val.row ([]:List Val)),.b false,.i .u64 0]:List AV)) from lk_here)))) lk_here (e'10.2.1 g'11)))))))) (fun g'11=>sk_ (w156_1 (m0:=(Pan.mk 0 (Val.mk 0 0 [] ([]:List Val) false) 0)) hQ rfl rfl rfl rfl (lk_other rfl (lk_other rfl (show lk _ (d,0) = some (_,([.i .u64 0,.i .u8 0,.i .i64 0,.s [],.sl .full (List.map Val.row ([]:List Val)),.b false,.i .u64 0]:List AV)) from lk_here))) lk_here (e'10.2.2 g'11)))))))))))))))))))))))))))))))))))))))))))))))))
end
theorem p156 {prog:Prog}(hf:prog.fn 156 = some pf156){s0:List UInt8}{K:Pan→Int→Prop}(h:T156_0 prog K s0) :∃res0:Pan,∃res1:Int,K res0 res1∧Pus prog 156 [.s s0] (.tup [res0.av,.i .i64 res1]):=by
  obtain ⟨v,hv,res0,res1,hk,rfl⟩:=Pus.of (K:=fun v=>∃res0:Pan,∃res1:Int,K res0 res1∧v = .tup [res0.av,.i .i64 res1]) hf rfl (w156_0 (σ:=sl0 [.s s0]) (fun σ st k0 v0 o0_0 res0 res1 H2 HB2 H3 hk=>⟨.tup [res0.avo o0_0,.i .i64 res1],by simp only [pf156,ares,aresL,ares_cellA (n:=7) H2 HB2 rfl,H3,ares_tmp,Option.map_some],_,rfl,res0,res1,hk,rfl⟩) rfl h)
  exact ⟨res0,res1,hk,hv⟩
def r157_0:List AI:=[oO 2 (.alloc [.i .u64 0,.i .u8 0,.i .i64 0,.s [],.sl .full [],.b false,.i .u64 0]),
 oC 3 (.i .i64 0)]
def r157_1:List AI:=[oM 10 0,
 oO 11 (.len true (.t 10)),
 oB 12 .gtr (.t 11) (.c (.i .i64 2000))]
def r157_2:List AI:=[oO 13 (.build [.i .u64 0,.i .u8 0,.i .i64 0,.s [],.sl .full [],.b false,.i .u64 0] []),
 oS 7 2 13,
 oC 3 (.i .i64 4)]
def r157_3:List AI:=[oM 15 0,
 oO 16 (.call false 182 [(.t 15),(.c (.s [32,97,98,111,114,116,101,100]))]),
 oM 14 16,
 oE 17 0 14,
 oE 18 1 14,
 oM 4 17,
 oM 5 18]
def r157_4:List AI:=[oM 20 4,
 oO 21 (.call false 182 [(.t 20),(.c (.s [32,114,101,99,111,118,101,114,101,100]))]),
 oM 19 21,
 oE 22 0 19,
 oE 23 1 19,
 oM 4 22,
 oM 6 23]
def r157_5:List AI:=[oO 7 (.alloc [.i .u64 0,.i .u8 0,.i .i64 0,.s [],.sl .full [],.b false,.i .u64 0])]
def r157_6:List AI:=[oM 26 4,
 oB 27 .eql (.t 26) (.c (.s [101,120,105,116])),
 oM 25 27]
def r157_7:List AI:=[oF 28 6 7,
 ⟨none,.store 1 (.t 28) (.c (.i .u64 2)),none⟩]
def r157_8:List AI:=[oM 30 4,
 oO 31 (.len true (.t 30)),
 oB 32 .gtr (.t 31) (.c (.i .i64 6)),
 oM 33 32,
 oG 34 (.mv (.t 4)) 33 true,
 oG 35 (.slS (.t 34) none (some (.c (.i .i64 6)))) 33 true,
 oG 36 (.bin .eql (.t 35) (.c (.s [102,97,117,108,116,32]))) 33 true,
 oO 37 (.pick (.t 33) (.t 36) (.c (.b false))),
 oM 29 37]
def r157_9:List AI:=[oF 38 0 7,
 ⟨none,.store 1 (.t 38) (.c (.i .u64 4)),none⟩]
def r157_10:List AI:=[oM 39 4,
 oO 40 (.ixS (.t 39) (.c (.i .i64 6))),
 oO 41 (.cvi .i64 (.t 40)),
 oB 42 .sub (.t 41) (.c (.i .i64 48)),
 oO 43 (.build [.i .u8 0,.i .i64 0,.s [],.sl .full [],.b false] [(0,1,(.c (.i .u8 2))),(1,1,(.t 42))]),
 oF 44 1 7,
 oS 5 44 43]
def r157_11:List AI:=[oM 46 4,
 oO 47 (.len true (.t 46)),
 oB 48 .gtr (.t 47) (.c (.i .i64 6)),
 oM 49 48,
 oG 50 (.mv (.t 4)) 49 true,
 oG 51 (.slS (.t 50) none (some (.c (.i .i64 6)))) 49 true,
 oG 52 (.bin .eql (.t 51) (.c (.s [112,97,110,105,99,32]))) 49 true,
 oO 53 (.pick (.t 49) (.t 52) (.c (.b false))),
 oM 45 53]
def r157_12:List AI:=[oM 55 4,
 oO 56 (.slS (.t 55) (some (.c (.i .i64 6))) none),
 oO 57 (.call false 75 [(.t 56)]),
 oM 54 57,
 oE 58 0 54,
 oE 59 1 54,
 oO 8 (.alloc [.i .u8 0,.i .i64 0,.s [],.sl .full [],.b false]),
 oS 5 8 58,
 oM 9 59]
def r157_13:List AI:=[oM 60 9,
 oB 61 .neq (.t 60) (.c (.i .i64 0))]
def r157_14:List AI:=[oO 62 (.build [.i .u64 0,.i .u8 0,.i .i64 0,.s [],.sl .full [],.b false,.i .u64 0] []),
 oS 7 2 62,
 oC 3 (.i .i64 12)]
def r157_15:List AI:=[oO 63 (.load 5 true (.t 8)),
 oF 64 1 7,
 oS 5 64 63]
def r157_16:List AI:=[oO 65 (.bslice [.i .u64 0] 8 [(0,(.c (.i .u64 9))),(1,(.c (.i .u64 2))),(2,(.c (.i .u64 1))),(3,(.c (.i .u64 3))),(4,(.c (.i .u64 9))),(5,(.c (.i .u64 9))),(6,(.c (.i .u64 9))),(7,(.c (.i .u64 9)))]),
 oF 66 0 8,
 oL 67 66,
 oO 68 (.iaL 1 (.t 65) (.t 67)),
 oL 69 68,
 oF 70 0 7,
 oS 1 70 69]
def r157_17:List AI:=[oO 24 (.build [.i .u64 0,.i .u8 0,.i .i64 0,.s [],.sl .full [],.b false,.i .u64 0] []),
 oS 7 2 24,
 oC 3 (.i .i64 12)]
def r157_18:List AI:=[oM 71 6]
def r157_19:List AI:=[oF 72 6 7,
 oL 73 72,
 oB 74 .add (.t 73) (.c (.i .u64 1)),
 oF 75 6 7,
 oS 1 75 74]
def r157_20:List AI:=[oM 76 5]
def r157_21:List AI:=[oF 77 6 7,
 oL 78 77,
 oB 79 .add (.t 78) (.c (.i .u64 4)),
 oF 80 6 7,
 oS 1 80 79]
def r157_22:List AI:=[oO 81 (.load 7 true (.t 7)),
 oO 82 (.call false 159 [(.t 81)]),
 oB 83 .neq (.t 82) (.c (.i .i64 0)),
 oM 84 83,
 oG 85 (.load 7 true (.t 7)) 84 false,
 oG 86 (.call false 179 [(.t 85)]) 84 false,
 oG 87 (.mv (.t 0)) 84 false,
 oG 88 (.bin .neq (.t 86) (.t 87)) 84 false,
 oO 89 (.pick (.t 84) (.c (.b true)) (.t 88))]
def r157_23:List AI:=[oO 90 (.build [.i .u64 0,.i .u8 0,.i .i64 0,.s [],.sl .full [],.b false,.i .u64 0] []),
 oS 7 2 90,
 oC 3 (.i .i64 12)]
def r157_24:List AI:=[oO 91 (.load 7 true (.t 7)),
 oS 7 2 91,
 oC 3 (.i .i64 0)]
abbrev c157_0:AC:=(.cond (.t 45) (.seq (.reg 13 r157_12) (.seq (.seq (.reg 14 r157_13) (.cond (.t 61) (.seq (.reg 15 r157_14) .ret) .skip)) (.seq (.reg 16 r157_15) (.reg 17 r157_16)))) (.seq (.reg 6 r157_17) .ret))
abbrev c157_1:AC:=(.cond (.t 29) (.seq (.reg 10 r157_9) (.reg 11 r157_10)) (.seq (.reg 12 r157_11) c157_0))
abbrev c157_2:AC:=(.seq (.seq (.reg 22 r157_22) (.cond (.t 89) (.seq (.reg 23 r157_23) .ret) .skip)) (.seq (.reg 24 r157_24) .ret))
abbrev c157_3:AC:=(.seq (.seq (.reg 20 r157_20) (.cond (.t 76) (.reg 21 r157_21) .skip)) c157_2)
abbrev c157_4:AC:=(.seq (.seq (.reg 18 r157_18) (.cond (.t 71) (.reg 19 r157_19) .skip)) c157_3)
abbrev c157_5:AC:=(.seq (.block 0 (.seq (.reg 7 r157_6) (.cond (.t 25) (.reg 8 r157_7) (.seq (.reg 9 r157_8) c157_1)))) c157_4)
abbrev c157_6:AC:=(.seq (.reg 5 r157_5) c157_5)
abbrev c157_7:AC:=(.seq (.reg 4 r157_4) c157_6)
abbrev c157_8:AC:=(.seq (.reg 3 r157_3) c157_7)
abbrev c157_9:AC:=(.seq (.seq (.reg 1 r157_1) (.cond (.t 12) (.seq (.reg 2 r157_2) .ret) .skip)) c157_8)
abbrev b157:AC:=(.seq (.reg 0 r157_0) c157_9)
def pf157:AF:={ nt:=92,res:=[.cell 2 7 true,.tmp 3],body:=b157 }
abbrev H157 (Q:AE→Sl→St→Prop)(K:Pan→Int→Prop):Prop:=∀(σ:Sl)(st:St)(k0:Key)(v0:Nat)(o0_0:Own)(res0:Pan)(res1:Int),σ 2 = .p k0 v0 0→lk st.bx k0 = some (v0,[.i .u64 res0.tag,.i .u8 res0.value.kind,.i .i64 res0.value.int,.s res0.value.text,.sl o0_0 (List.map Val.row res0.value.list),.b res0.value.cut,.i .u64 res0.flags])→σ 3 = .i .i64 res1→K res0 res1→Q .ret σ st
def T157_8 (prog:Prog)(K:Pan→Int→Prop)(s0:List UInt8)(m0:Pan)(m20480:Pan):Prop:=
  ∃r'1:Int,Pus prog 159 [m20480.av] (.i .i64 r'1)∧(r'1≠0→K (Pan.mk 0 (Val.mk 0 0 [] ([]:List Val) false) 0) 12)∧(¬(r'1≠0)→∃r'4:List UInt8,Pus prog 179 [m20480.av] (.s r'4)∧(r'4≠s0→K (Pan.mk 0 (Val.mk 0 0 [] ([]:List Val) false) 0) 12)∧(¬(r'4≠s0)→K m20480 0))
def T157_7 (prog:Prog)(K:Pan→Int→Prop)(s0:List UInt8)(aborted5:Bool)(m0:Pan)(m20480:Pan):Prop:=
  (aborted5 = true→T157_8 prog K s0 m0 (Pan.mk m20480.tag m20480.value (IntKind.u64.wrap (m20480.flags + 4))))∧(aborted5 = false→T157_8 prog K s0 m0 m20480)
def T157_6 (prog:Prog)(K:Pan→Int→Prop)(s0:List UInt8)(aborted5:Bool)(recovered6:Bool)(m0:Pan)(m20480:Pan):Prop:=
  (recovered6 = true→T157_7 prog K s0 aborted5 m0 (Pan.mk m20480.tag m20480.value (IntKind.u64.wrap (m20480.flags + 1))))∧(recovered6 = false→T157_7 prog K s0 aborted5 m0 m20480)
def T157_10 (prog:Prog)(K:Pan→Int→Prop)(s0:List UInt8)(rest4:List UInt8)(aborted5:Bool)(recovered6:Bool)(t45:Bool)(m0:Pan)(m20480:Pan):Prop:=
  (t45 = true→6≤rest4.length∧∃r'2:Val,∃r'3:Int,Pus prog 75 [.s (rest4.drop 6)] (.tup [r'2.av,.i .i64 r'3])∧(r'3≠0→K (Pan.mk 0 (Val.mk 0 0 [] ([]:List Val) false) 0) 12)∧(¬(r'3≠0)→0≤r'2.kind∧∃c'6:Int,[9,2,1,3,9,9,9,9][(r'2.kind).toNat]? = some c'6∧T157_6 prog K s0 aborted5 recovered6 m0 (Pan.mk c'6 r'2 m20480.flags)))∧(t45 = false→K (Pan.mk 0 (Val.mk 0 0 [] ([]:List Val) false) 0) 12)
def T157_9 (prog:Prog)(K:Pan→Int→Prop)(s0:List UInt8)(rest4:List UInt8)(aborted5:Bool)(recovered6:Bool)(t29:Bool)(m0:Pan)(m20480:Pan):Prop:=
  (t29 = true→∃c'2:UInt8,rest4[6]? = some c'2∧T157_6 prog K s0 aborted5 recovered6 m0 (Pan.mk 4 (Val.mk 2 (IntKind.i64.wrap ((c'2.toNat:Int) - 48)) [] ([]:List Val) false) m20480.flags))∧(t29 = false→((rest4.length:Int) > 6→6≤rest4.length∧T157_10 prog K s0 rest4 aborted5 recovered6 (decide ((rest4.take 6) = ([112,97,110,105,99,32]:List UInt8))) m0 m20480)∧(¬((rest4.length:Int) > 6)→T157_10 prog K s0 rest4 aborted5 recovered6 false m0 m20480))
def T157_5 (prog:Prog)(K:Pan→Int→Prop)(s0:List UInt8)(rest4:List UInt8)(aborted5:Bool)(recovered6:Bool)(m0:Pan)(m20480:Pan):Prop:=
  (rest4 = ([101,120,105,116]:List UInt8)→T157_6 prog K s0 aborted5 recovered6 m0 (Pan.mk m20480.tag m20480.value 2))∧(¬(rest4 = ([101,120,105,116]:List UInt8))→((rest4.length:Int) > 6→6≤rest4.length∧T157_9 prog K s0 rest4 aborted5 recovered6 (decide ((rest4.take 6) = ([102,97,117,108,116,32]:List UInt8))) m0 m20480)∧(¬((rest4.length:Int) > 6)→T157_9 prog K s0 rest4 aborted5 recovered6 false m0 m20480))
def T157_4 (prog:Prog)(K:Pan→Int→Prop)(s0:List UInt8)(rest4:List UInt8)(aborted5:Bool)(recovered6:Bool)(m0:Pan):Prop:=
  T157_5 prog K s0 rest4 aborted5 recovered6 m0 (Pan.mk 0 (Val.mk 0 0 [] ([]:List Val) false) 0)
def T157_3 (prog:Prog)(K:Pan→Int→Prop)(s0:List UInt8)(rest4:List UInt8)(aborted5:Bool)(m0:Pan):Prop:=
  ∃r'1:List UInt8,∃r'2:Bool,Pus prog 182 [.s rest4,.s ([32,114,101,99,111,118,101,114,101,100]:List UInt8)] (.tup [.s r'1,.b r'2])∧T157_4 prog K s0 r'1 aborted5 r'2 m0
def T157_2 (prog:Prog)(K:Pan→Int→Prop)(s0:List UInt8)(m0:Pan):Prop:=
  ∃r'1:List UInt8,∃r'2:Bool,Pus prog 182 [.s s0,.s ([32,97,98,111,114,116,101,100]:List UInt8)] (.tup [.s r'1,.b r'2])∧T157_3 prog K s0 r'1 r'2 m0
def T157_1 (prog:Prog)(K:Pan→Int→Prop)(s0:List UInt8)(m0:Pan):Prop:=
  ((s0.length:Int) > 2000→K (Pan.mk 0 (Val.mk 0 0 [] ([]:List Val) false) 0) 4)∧(¬((s0.length:Int) > 2000)→T157_2 prog K s0 m0)
def T157_0 (prog:Prog)(K:Pan→Int→Prop)(s0:List UInt8):Prop:=
  T157_1 prog K s0 (Pan.mk 0 (Val.mk 0 0 [] ([]:List Val) false) 0)
section
variable {prog:Prog}{d:Nat}{Q:AE→Sl→St→Prop}{K:Pan→Int→Prop}(hQ:H157 Q K){σ:Sl}{st:St}
include hQ
theorem w157_8 {s0:List UInt8}{m0 m20480:Pan}{o_m0_4 o_m20480_4:Own}{v0:Nat}{v20480:Nat}(H0:σ 0 = .s s0)(H2:σ 2 = .p (d,0) v0 0)(H7:σ 7 = .p (d,20480) v20480 0)(B0:lk st.bx (d,0) = some (v0,[.i .u64 m0.tag,.i .u8 m0.value.kind,.i .i64 m0.value.int,.s m0.value.text,.sl o_m0_4 (List.map Val.row m0.value.list),.b m0.value.cut,.i .u64 m0.flags]))(B20480:lk st.bx (d,20480) = some (v20480,[.i .u64 m20480.tag,.i .u8 m20480.value.kind,.i .i64 m20480.value.int,.s m20480.value.text,.sl o_m20480_4 (List.map Val.row m20480.value.list),.b m20480.value.cut,.i .u64 m20480.flags]))(h:T157_8 prog K s0 m0 m20480):W prog d c157_2 σ st Q:=
 sq_ (q_ rfl (l_ H7 B20480 rfl rfl (h.elim fun r'1 e'2=>ca_ (sc rfl rfl sn) e'2.1 (b_ rfl rfl neq_ (s_mvB rfl (em_ (g:=84) rfl (fun g'3=>gn_ (b:=true) rfl rfl (gn_ (b:=true) rfl rfl (gn_ (b:=true) rfl rfl (gn_ (b:=true) rfl rfl (pt_ rfl rfl (e_ (ct_ rfl (q_ rfl (s_build f_nil (so_ H2 B0 rfl rfl rfl (m_ (e_ (rt_ (hQ _ _ _ _ _ _ _ H2 lk_here rfl (e'2.2.1 g'3))))))))))))))) (fun g'3=>gy_ rfl (l_ H7 B20480 rfl rfl (gy_ rfl ((e'2.2.2 g'3).elim fun r'4 e'5=>ca_ (sc rfl rfl sn) e'5.1 (gy_ rfl (s_mvS H0 (gy_ rfl (b_ rfl rfl sne_ (pf_ rfl rfl (e_ (cs_ rfl (fun g'6=>q_ rfl (s_build f_nil (so_ H2 B0 rfl rfl rfl (m_ (e_ (rt_ (hQ _ _ _ _ _ _ _ H2 lk_here rfl (e'5.2.1 g'6)))))))) (fun g'6=>sk_ (q_ rfl (l_ H7 B20480 rfl rfl (so_ H2 B0 rfl rfl rfl (m_ (e_ (rt_ (hQ _ _ _ _ _ _ _ H2 lk_here rfl (e'5.2.2 g'6))))))))))))))))))))))))))
theorem w157_7 {s0:List UInt8}{aborted5:Bool}{m0 m20480:Pan}{o_m0_4 o_m20480_4:Own}{v0:Nat}{v20480:Nat}(H0:σ 0 = .s s0)(H2:σ 2 = .p (d,0) v0 0)(H5:σ 5 = .b aborted5)(H7:σ 7 = .p (d,20480) v20480 0)(B0:lk st.bx (d,0) = some (v0,[.i .u64 m0.tag,.i .u8 m0.value.kind,.i .i64 m0.value.int,.s m0.value.text,.sl o_m0_4 (List.map Val.row m0.value.list),.b m0.value.cut,.i .u64 m0.flags]))(B20480:lk st.bx (d,20480) = some (v20480,[.i .u64 m20480.tag,.i .u8 m20480.value.kind,.i .i64 m20480.value.int,.s m20480.value.text,.sl o_m20480_4 (List.map Val.row m20480.value.list),.b m20480.value.cut,.i .u64 m20480.flags]))(h:T157_7 prog K s0 aborted5 m0 m20480):W prog d c157_3 σ st Q:=
 sq_ (q_ rfl (m_ (e_ (cb_ H5 (fun g'1=>W.reg0 rfl fun _ _=>f_ H7 (l_ rfl B20480 rfl rfl (b_ rfl rfl add_ (f_ H7 (so_ rfl B20480 rfl rfl rfl (e_ (w157_8 (m20480:=(Pan.mk m20480.tag m20480.value (IntKind.u64.wrap (m20480.flags + 4)))) hQ H0 H2 H7 (lk_other rfl B0) lk_here (h.1 g'1)))))))) (fun g'1=>sk_ (w157_8 hQ H0 H2 H7 B0 B20480 (h.2 g'1)))))))
theorem w157_6 {s0:List UInt8}{aborted5 recovered6:Bool}{m0 m20480:Pan}{o_m0_4 o_m20480_4:Own}{v0:Nat}{v20480:Nat}(H0:σ 0 = .s s0)(H2:σ 2 = .p (d,0) v0 0)(H5:σ 5 = .b aborted5)(H6:σ 6 = .b recovered6)(H7:σ 7 = .p (d,20480) v20480 0)(B0:lk st.bx (d,0) = some (v0,[.i .u64 m0.tag,.i .u8 m0.value.kind,.i .i64 m0.value.int,.s m0.value.text,.sl o_m0_4 (List.map Val.row m0.value.list),.b m0.value.cut,.i .u64 m0.flags]))(B20480:lk st.bx (d,20480) = some (v20480,[.i .u64 m20480.tag,.i .u8 m20480.value.kind,.i .i64 m20480.value.int,.s m20480.value.text,.sl o_m20480_4 (List.map Val.row m20480.value.list),.b m20480.value.cut,.i .u64 m20480.flags]))(h:T157_6 prog K s0 aborted5 recovered6 m0 m20480):W prog d c157_4 σ st Q:=
 sq_ (q_ rfl (m_ (e_ (cb_ H6 (fun g'1=>W.reg0 rfl fun _ _=>f_ H7 (l_ rfl B20480 rfl rfl (b_ rfl rfl add_ (f_ H7 (so_ rfl B20480 rfl rfl rfl (e_ (w157_7 (m20480:=(Pan.mk m20480.tag m20480.value (IntKind.u64.wrap (m20480.flags + 1)))) hQ H0 H2 H5 H7 (lk_other rfl B0) lk_here (h.1 g'1)))))))) (fun g'1=>sk_ (w157_7 hQ H0 H2 H5 H7 B0 B20480 (h.2 g'1)))))))
theorem w157_10 {s0 rest4:List UInt8}{aborted5 recovered6 t45:Bool}{m0 m20480:Pan}{o_m0_4 o_m20480_4:Own}{v0:Nat}{v20480:Nat}(H0:σ 0 = .s s0)(H2:σ 2 = .p (d,0) v0 0)(H4:σ 4 = .s rest4)(H5:σ 5 = .b aborted5)(H6:σ 6 = .b recovered6)(H7:σ 7 = .p (d,20480) v20480 0)(H45:σ 45 = .b t45)(Ab20480:ApM d st.ow o_m20480_4 m20480.value.list.length)(B0:lk st.bx (d,0) = some (v0,[.i .u64 m0.tag,.i .u8 m0.value.kind,.i .i64 m0.value.int,.s m0.value.text,.sl o_m0_4 (List.map Val.row m0.value.list),.b m0.value.cut,.i .u64 m0.flags]))(B20480:lk st.bx (d,20480) = some (v20480,[.i .u64 m20480.tag,.i .u8 m20480.value.kind,.i .i64 m20480.value.int,.s m20480.value.text,.sl o_m20480_4 (List.map Val.row m20480.value.list),.b m20480.value.cut,.i .u64 m20480.flags]))(h:T157_10 prog K s0 rest4 aborted5 recovered6 t45 m0 m20480):W prog d c157_0 σ st (blockW 0 (thenW prog d c157_4 Q)):=
 cb_ H45 (fun g'1=>sq_ (W.reg (m_ (s_slS_lo H4 rfl (by decide) (h.1 g'1).1 ((h.1 g'1).2.elim fun r'2 e'8=>e'8.elim fun r'3 e'4=>ca_ (sc rfl rfl sn) e'4.1 (m_ (x_ rfl rfl (x_ rfl rfl (s_alloc (so_ rfl (show lk _ (d,53254) = some (_,([.i .u8 0,.i .i64 0,.s [],.sl .full (List.map Val.row ([]:List Val)),.b false]:List AV)) from lk_here) rfl rfl rfl (m_ (e_ (sq_ (q_ rfl (m_ (b_ rfl rfl neq_ (e_ (cs_ rfl (fun g'5=>q_ rfl (s_build f_nil (so_ H2 (lk_other rfl (lk_other rfl B0)) rfl rfl rfl (m_ (e_ (rt_ (hQ _ _ _ _ _ _ _ H2 lk_here rfl (e'4.2.1 g'5)))))))) (fun g'5=>sk_ (q_ rfl (l_ rfl lk_here rfl rfl (f_ H7 (so_ rfl (lk_other rfl (lk_other rfl B20480)) rfl rfl rfl (e_ (W.reg0 rfl fun _ _=>s_bslM (f:=(rowI .u64)) (l:=[9,2,1,3,9,9,9,9]) rfl rfl (g_cons rfl rfl rfl (g_cons rfl rfl rfl (g_cons rfl rfl rfl (g_cons rfl rfl rfl (g_cons rfl rfl rfl (g_cons rfl rfl rfl (g_cons rfl rfl rfl (g_cons rfl rfl rfl g_nil)))))))) rfl (f_ rfl (l_ rfl (lk_other rfl lk_here) rfl rfl ((e'4.2.2 g'5).2.elim fun c'6 e'7=>ia_ rfl rfl (e'4.2.2 g'5).1 e'7.1 rfl rfl (lf_ rfl rfl rfl (f_ H7 (so_ rfl lk_here rfl rfl rfl (e_ (w157_6 (m20480:=(Pan.mk c'6 r'2 m20480.flags)) hQ H0 H2 H5 H6 H7 (lk_other rfl (lk_other rfl (lk_other rfl (lk_other rfl B0)))) lk_here e'7.2))))))))))))))))))))))))))))))))) (fun g'1=>q_ rfl (s_build f_nil (so_ H2 B0 rfl rfl rfl (m_ (e_ (rt_ (hQ _ _ _ _ _ _ _ H2 lk_here rfl (h.2 g'1))))))))
theorem w157_9 {s0 rest4:List UInt8}{aborted5 recovered6 t29:Bool}{m0 m20480:Pan}{o_m0_4 o_m20480_4:Own}{v0:Nat}{v20480:Nat}(H0:σ 0 = .s s0)(H2:σ 2 = .p (d,0) v0 0)(H4:σ 4 = .s rest4)(H5:σ 5 = .b aborted5)(H6:σ 6 = .b recovered6)(H7:σ 7 = .p (d,20480) v20480 0)(H29:σ 29 = .b t29)(Ab20480:ApM d st.ow o_m20480_4 m20480.value.list.length)(B0:lk st.bx (d,0) = some (v0,[.i .u64 m0.tag,.i .u8 m0.value.kind,.i .i64 m0.value.int,.s m0.value.text,.sl o_m0_4 (List.map Val.row m0.value.list),.b m0.value.cut,.i .u64 m0.flags]))(B20480:lk st.bx (d,20480) = some (v20480,[.i .u64 m20480.tag,.i .u8 m20480.value.kind,.i .i64 m20480.value.int,.s m20480.value.text,.sl o_m20480_4 (List.map Val.row m20480.value.list),.b m20480.value.cut,.i .u64 m20480.flags]))(h:T157_9 prog K s0 rest4 aborted5 recovered6 t29 m0 m20480):W prog d c157_1 σ st (blockW 0 (thenW prog d c157_4 Q)):=
 cb_ H29 (fun g'1=>q_ rfl (f_ H7 (so_ rfl B20480 rfl rfl rfl (e_ (W.reg0 rfl fun _ _=>m_ ((h.1 g'1).elim fun c'2 e'3=>s_ixS H4 rfl (by decide) e'3.1 (s_cvB rfl rfl (b_ rfl rfl sub_ (s_build (f_cons rfl rfl (f_cons rfl rfl f_nil)) (f_ H7 (so_ rfl lk_here rfl rfl rfl (e_ (w157_6 (m20480:=(Pan.mk 4 (Val.mk 2 (IntKind.i64.wrap ((c'2.toNat:Int) - 48)) [] ([]:List Val) false) m20480.flags)) hQ H0 H2 H5 H6 H7 (lk_other rfl (lk_other rfl B0)) lk_here e'3.2))))))))))))) (fun g'1=>q_ rfl (s_mvS H4 (ln_ rfl (b_ rfl rfl gtr_ (s_mvB rfl (em_ (g:=49) rfl (fun g'4=>gy_ rfl (s_mvS H4 (gy_ rfl (s_slS_hi rfl rfl (by decide) ((h.2 g'1).1 g'4).1 (gy_ rfl (b_ rfl rfl seq_ (pt_ rfl rfl (s_mvB rfl (e_ (w157_10 hQ H0 H2 H4 H5 H6 H7 rfl Ab20480 B0 B20480 ((h.2 g'1).1 g'4).2)))))))))) (fun g'4=>gn_ (b:=false) rfl rfl (gn_ (b:=false) rfl rfl (gn_ (b:=false) rfl rfl (pf_ rfl rfl (s_mvB rfl (e_ (w157_10 hQ H0 H2 H4 H5 H6 H7 rfl Ab20480 B0 B20480 ((h.2 g'1).2 g'4))))))))))))))
theorem w157_5 {s0 rest4:List UInt8}{aborted5 recovered6:Bool}{m0 m20480:Pan}{o_m0_4 o_m20480_4:Own}{v0:Nat}{v20480:Nat}(H0:σ 0 = .s s0)(H2:σ 2 = .p (d,0) v0 0)(H4:σ 4 = .s rest4)(H5:σ 5 = .b aborted5)(H6:σ 6 = .b recovered6)(H7:σ 7 = .p (d,20480) v20480 0)(Ab20480:ApM d st.ow o_m20480_4 m20480.value.list.length)(B0:lk st.bx (d,0) = some (v0,[.i .u64 m0.tag,.i .u8 m0.value.kind,.i .i64 m0.value.int,.s m0.value.text,.sl o_m0_4 (List.map Val.row m0.value.list),.b m0.value.cut,.i .u64 m0.flags]))(B20480:lk st.bx (d,20480) = some (v20480,[.i .u64 m20480.tag,.i .u8 m20480.value.kind,.i .i64 m20480.value.int,.s m20480.value.text,.sl o_m20480_4 (List.map Val.row m20480.value.list),.b m20480.value.cut,.i .u64 m20480.flags]))(h:T157_5 prog K s0 rest4 aborted5 recovered6 m0 m20480):W prog d c157_5 σ st Q:=
 sq_ (bk_ (q_ rfl (m_ (b_ H4 rfl seq_ (m_ (e_ (cs_ rfl (fun g'1=>W.reg0 rfl fun _ _=>f_ H7 (so_ rfl B20480 rfl rfl rfl (e_ (w157_6 (m20480:=(Pan.mk m20480.tag m20480.value 2)) hQ H0 H2 H5 H6 H7 (lk_other rfl B0) lk_here (h.1 g'1))))) (fun g'1=>q_ rfl (s_mvS H4 (ln_ rfl (b_ rfl rfl gtr_ (s_mvB rfl (em_ (g:=33) rfl (fun g'2=>gy_ rfl (s_mvS H4 (gy_ rfl (s_slS_hi rfl rfl (by decide) ((h.2 g'1).1 g'2).1 (gy_ rfl (b_ rfl rfl seq_ (pt_ rfl rfl (s_mvB rfl (e_ (w157_9 hQ H0 H2 H4 H5 H6 H7 rfl Ab20480 B0 B20480 ((h.2 g'1).1 g'2).2)))))))))) (fun g'2=>gn_ (b:=false) rfl rfl (gn_ (b:=false) rfl rfl (gn_ (b:=false) rfl rfl (pf_ rfl rfl (s_mvB rfl (e_ (w157_9 hQ H0 H2 H4 H5 H6 H7 rfl Ab20480 B0 B20480 ((h.2 g'1).2 g'2)))))))))))))))))))))
theorem w157_4 {s0 rest4:List UInt8}{aborted5 recovered6:Bool}{m0:Pan}{o_m0_4:Own}{v0:Nat}(H0:σ 0 = .s s0)(H2:σ 2 = .p (d,0) v0 0)(H4:σ 4 = .s rest4)(H5:σ 5 = .b aborted5)(H6:σ 6 = .b recovered6)(B0:lk st.bx (d,0) = some (v0,[.i .u64 m0.tag,.i .u8 m0.value.kind,.i .i64 m0.value.int,.s m0.value.text,.sl o_m0_4 (List.map Val.row m0.value.list),.b m0.value.cut,.i .u64 m0.flags]))(h:T157_4 prog K s0 rest4 aborted5 recovered6 m0):W prog d c157_6 σ st Q:=
 sq_ (W.reg (s_alloc (e_ (w157_5 (m20480:=(Pan.mk 0 (Val.mk 0 0 [] ([]:List Val) false) 0)) hQ H0 H2 H4 H5 H6 rfl ApM.full (lk_other rfl B0) (show lk _ (d,20480) = some (_,([.i .u64 0,.i .u8 0,.i .i64 0,.s [],.sl .full (List.map Val.row ([]:List Val)),.b false,.i .u64 0]:List AV)) from lk_here) h))))
theorem w157_3 {s0 rest4:List UInt8}{aborted5:Bool}{m0:Pan}{o_m0_4:Own}{v0:Nat}(H0:σ 0 = .s s0)(H2:σ 2 = .p (d,0) v0 0)(H4:σ 4 = .s rest4)(H5:σ 5 = .b aborted5)(B0:lk st.bx (d,0) = some (v0,[.i .u64 m0.tag,.i .u8 m0.value.kind,.i .i64 m0.value.int,.s m0.value.text,.sl o_m0_4 (List.map Val.row m0.value.list),.b m0.value.cut,.i .u64 m0.flags]))(h:T157_3 prog K s0 rest4 aborted5 m0):W prog d c157_7 σ st Q:=
 q_ rfl (m_ (h.elim fun r'1 e'4=>e'4.elim fun r'2 e'3=>ca_ (sc H4 rfl (sc rfl rfl sn)) e'3.1 (m_ (x_ rfl rfl (x_ rfl rfl (m_ (m_ (e_ (w157_4 hQ H0 H2 rfl H5 rfl B0 e'3.2)))))))))
theorem w157_2 {s0:List UInt8}{m0:Pan}{o_m0_4:Own}{v0:Nat}(H0:σ 0 = .s s0)(H2:σ 2 = .p (d,0) v0 0)(B0:lk st.bx (d,0) = some (v0,[.i .u64 m0.tag,.i .u8 m0.value.kind,.i .i64 m0.value.int,.s m0.value.text,.sl o_m0_4 (List.map Val.row m0.value.list),.b m0.value.cut,.i .u64 m0.flags]))(h:T157_2 prog K s0 m0):W prog d c157_8 σ st Q:=
 q_ rfl (m_ (h.elim fun r'1 e'4=>e'4.elim fun r'2 e'3=>ca_ (sc H0 rfl (sc rfl rfl sn)) e'3.1 (m_ (x_ rfl rfl (x_ rfl rfl (m_ (m_ (e_ (w157_3 hQ H0 H2 rfl rfl B0 e'3.2)))))))))
theorem w157_1 {s0:List UInt8}{m0:Pan}{o_m0_4:Own}{v0:Nat}(H0:σ 0 = .s s0)(H2:σ 2 = .p (d,0) v0 0)(B0:lk st.bx (d,0) = some (v0,[.i .u64 m0.tag,.i .u8 m0.value.kind,.i .i64 m0.value.int,.s m0.value.text,.sl o_m0_4 (List.map Val.row m0.value.list),.b m0.value.cut,.i .u64 m0.flags]))(h:T157_1 prog K s0 m0):W prog d c157_9 σ st Q:=
 sq_ (q_ rfl (m_ (ln_ H0 (b_ rfl rfl gtr_ (e_ (cs_ rfl (fun g'1=>q_ rfl (s_build f_nil (so_ H2 B0 rfl rfl rfl (m_ (e_ (rt_ (hQ _ _ _ _ _ _ _ H2 lk_here rfl (h.1 g'1)))))))) (fun g'1=>sk_ (w157_2 hQ H0 H2 B0 (h.2 g'1)))))))))
theorem w157_0 {s0:List UInt8}(H0:σ 0 = .s s0)(h:T157_0 prog K s0):W prog d (.seq (.reg 0 r157_0) c157_9) σ st Q:=
 sq_ (W.reg (s_alloc (m_ (e_ (w157_1 (m0:=(Pan.mk 0 (Val.mk 0 0 [] ([]:List Val) false) 0)) hQ H0 rfl (show lk _ (d,0) = some (_,([.i .u64 0,.i .u8 0,.i .i64 0,.s [],.sl .full (List.map Val.row ([]:List Val)),.b false,.i .u64 0]:List AV)) from lk_here) h)))))
end
theorem p157 {prog:Prog}(hf:prog.fn 157 = some pf157){s0:List UInt8}{K:Pan→Int→Prop}(h:T157_0 prog K s0) :∃res0:Pan,∃res1:Int,K res0 res1∧Pus prog 157 [.s s0] (.tup [res0.av,.i .i64 res1]):=by
  obtain ⟨v,hv,res0,res1,hk,rfl⟩:=Pus.of (K:=fun v=>∃res0:Pan,∃res1:Int,K res0 res1∧v = .tup [res0.av,.i .i64 res1]) hf rfl (w157_0 (σ:=sl0 [.s s0]) (fun σ st k0 v0 o0_0 res0 res1 H2 HB2 H3 hk=>⟨.tup [res0.avo o0_0,.i .i64 res1],by simp only [pf157,ares,aresL,ares_cellA (n:=7) H2 HB2 rfl,H3,ares_tmp,Option.map_some],_,rfl,res0,res1,hk,rfl⟩) rfl h)
  exact ⟨res0,res1,hk,hv⟩
def r160_0:List AI:=[oO 2 (.box 7 (.t 0)),
 oO 3 (.box 7 (.t 1)),
 oC 4 (.b false)]
def r160_1:List AI:=[oF 5 0 2,
 oL 6 5,
 oF 7 0 3,
 oL 8 7,
 oB 9 .eql (.t 6) (.t 8),
 oM 10 9,
 oG 11 (.fad 6 (.t 2)) 10 true,
 oG 12 (.load 1 false (.t 11)) 10 true,
 oG 13 (.fad 6 (.t 3)) 10 true,
 oG 14 (.load 1 false (.t 13)) 10 true,
 oG 15 (.bin .eql (.t 12) (.t 14)) 10 true,
 oO 16 (.pick (.t 10) (.t 15) (.c (.b false))),
 oM 17 16,
 oG 18 (.fad 1 (.t 2)) 17 true,
 oG 19 (.load 5 true (.t 18)) 17 true,
 oG 20 (.fad 1 (.t 3)) 17 true,
 oG 21 (.load 5 true (.t 20)) 17 true,
 oG 22 (.call false 78 [(.t 19),(.t 21)]) 17 true,
 oO 23 (.pick (.t 17) (.t 22) (.c (.b false))),
 oM 4 23]
abbrev b160:AC:=(.seq (.reg 0 r160_0) (.seq (.reg 1 r160_1) .ret))
def pf160:AF:={ nt:=24,res:=[.tmp 4],body:=b160 }
abbrev H160 (Q:AE→Sl→St→Prop)(K:Bool→Prop):Prop:=∀(σ:Sl)(st:St)(res0:Bool),σ 4 = .b res0→K res0→Q .ret σ st
def T160_0 (prog:Prog)(K:Bool→Prop)(a0:Pan)(b1:Pan):Prop:=
  (a0.tag = b1.tag→(a0.flags = b1.flags→∃r'3:Bool,Pus prog 78 [a0.value.av,b1.value.av] (.b r'3)∧K r'3)∧(¬(a0.flags = b1.flags)→K false))∧(¬(a0.tag = b1.tag)→K false)
section
variable {prog:Prog}{d:Nat}{Q:AE→Sl→St→Prop}{K:Bool→Prop}(hQ:H160 Q K){σ:Sl}{st:St}
include hQ
theorem w160_0 {a0 b1:Pan}(H0:σ 0 = a0.av)(H1:σ 1 = b1.av)(h:T160_0 prog K a0 b1):W prog d (.seq (.reg 0 r160_0) (.seq (.reg 1 r160_1) .ret)) σ st Q:=
 q_ rfl (s_box H0 rfl (s_box H1 rfl (m_ (e_ (q_ rfl (f_ rfl (l_ rfl (lk_other rfl lk_here) rfl rfl (f_ rfl (l_ rfl lk_here rfl rfl (b_ rfl rfl eql_ (s_mvB rfl (em_ (g:=10) rfl (fun g'1=>gy_ rfl (f_ rfl (gy_ rfl (l_ rfl (lk_other rfl lk_here) rfl rfl (gy_ rfl (f_ rfl (gy_ rfl (l_ rfl lk_here rfl rfl (gy_ rfl (b_ rfl rfl eql_ (pt_ rfl rfl (s_mvB rfl (em_ (g:=17) rfl (fun g'2=>gy_ rfl (f_ rfl (gy_ rfl (l_ rfl (lk_other rfl lk_here) rfl rfl (gy_ rfl (f_ rfl (gy_ rfl (l_ rfl lk_here rfl rfl (gy_ rfl (((h.1 g'1).1 g'2).elim fun r'3 e'4=>ca_ (sc rfl rfl (sc rfl rfl sn)) e'4.1 (pt_ rfl rfl (s_mvB rfl (e_ (rt_ (hQ _ _ _ rfl e'4.2))))))))))))))) (fun g'2=>gn_ (b:=false) rfl rfl (gn_ (b:=false) rfl rfl (gn_ (b:=false) rfl rfl (gn_ (b:=false) rfl rfl (gn_ (b:=false) rfl rfl (pf_ rfl rfl (s_mvB rfl (e_ (rt_ (hQ _ _ _ rfl ((h.1 g'1).2 g'2)))))))))))))))))))))))) (fun g'1=>gn_ (b:=false) rfl rfl (gn_ (b:=false) rfl rfl (gn_ (b:=false) rfl rfl (gn_ (b:=false) rfl rfl (gn_ (b:=false) rfl rfl (pf_ rfl rfl (s_mvB rfl (gn_ (b:=false) rfl rfl (gn_ (b:=false) rfl rfl (gn_ (b:=false) rfl rfl (gn_ (b:=false) rfl rfl (gn_ (b:=false) rfl rfl (pf_ rfl rfl (s_mvB rfl (e_ (rt_ (hQ _ _ _ rfl (h.2 g'1))))))))))))))))))))))))))))))
end
theorem p160 {prog:Prog}(hf:prog.fn 160 = some pf160){a0:Pan}{b1:Pan}{K:Bool→Prop}(h:T160_0 prog K a0 b1) :∃res0:Bool,K res0∧Pus prog 160 [a0.av,b1.av] (.b res0):=by
  obtain ⟨v,hv,res0,hk,rfl⟩:=Pus.of (K:=fun v=>∃res0:Bool,K res0∧v = .b res0) hf rfl (w160_0 (σ:=sl0 [a0.av,b1.av]) (fun σ st   res0 H4 hk=>⟨.b res0,by simp only [pf160,ares,aresL,H4,ares1,Option.map_some],_,rfl,res0,hk,rfl⟩) rfl rfl h)
  exact ⟨res0,hk,hv⟩
def r148_0:List AI:=[oO 2 (.box 7 (.t 0)),
 oC 4 (.b false)]
def r148_1:List AI:=[oF 13 1 2,
 oO 14 (.load 5 true (.t 13)),
 oO 15 (.call false 71 [(.t 14)]),
 oM 16 15,
 oG 17 (.mv (.t 1)) 16 false,
 oG 18 (.len true (.t 17)) 16 false,
 oG 19 (.bin .gtr (.t 18) (.c (.i .i64 2100))) 16 false,
 oO 20 (.pick (.t 16) (.c (.b true)) (.t 19))]
def r148_2:List AI:=[oC 4 (.b true)]
def r148_3:List AI:=[oO 22 (.load 7 true (.t 2)),
 oO 23 (.call false 154 [(.t 22)]),
 oM 21 23,
 oE 24 0 21,
 oE 25 1 21,
 oM 5 24,
 oM 6 25]
def r148_4:List AI:=[oO 27 (.load 7 true (.t 2)),
 oO 28 (.call false 155 [(.t 27)]),
 oM 26 28,
 oE 29 0 26,
 oE 30 1 26,
 oM 7 29,
 oM 8 30]
def r148_5:List AI:=[oM 32 1,
 oO 33 (.call false 156 [(.t 32)]),
 oM 31 33,
 oE 34 0 31,
 oE 35 1 31,
 oO 9 (.alloc [.i .u64 0,.i .u8 0,.i .i64 0,.s [],.sl .full [],.b false,.i .u64 0]),
 oS 7 9 34,
 oM 10 35]
def r148_6:List AI:=[oM 37 1,
 oO 38 (.call false 157 [(.t 37)]),
 oM 36 38,
 oE 39 0 36,
 oE 40 1 36,
 oO 11 (.alloc [.i .u64 0,.i .u8 0,.i .i64 0,.s [],.sl .full [],.b false,.i .u64 0]),
 oS 7 11 39,
 oM 12 40]
def r148_7:List AI:=[oO 41 (.load 7 true (.t 2)),
 oO 42 (.call false 158 [(.t 41)]),
 oO 43 (.load 7 true (.t 2)),
 oO 44 (.call false 159 [(.t 43)]),
 oB 45 .eql (.t 42) (.t 44),
 oM 46 45,
 oG 47 (.mv (.t 5)) 46 true,
 oG 48 (.mv (.t 7)) 46 true,
 oG 49 (.bin .eql (.t 47) (.t 48)) 46 true,
 oO 50 (.pick (.t 46) (.t 49) (.c (.b false))),
 oM 51 50,
 oG 52 (.mv (.t 6)) 51 true,
 oG 53 (.mv (.t 8)) 51 true,
 oG 54 (.bin .eql (.t 52) (.t 53)) 51 true,
 oO 55 (.pick (.t 51) (.t 54) (.c (.b false))),
 oM 56 55,
 oG 57 (.load 7 true (.t 9)) 56 true,
 oG 58 (.load 7 true (.t 11)) 56 true,
 oG 59 (.call false 160 [(.t 57),(.t 58)]) 56 true,
 oO 60 (.pick (.t 56) (.t 59) (.c (.b false))),
 oM 61 60,
 oG 62 (.mv (.t 10)) 61 true,
 oG 63 (.mv (.t 12)) 61 true,
 oG 64 (.bin .eql (.t 62) (.t 63)) 61 true,
 oO 65 (.pick (.t 61) (.t 64) (.c (.b false))),
 oM 4 65]
abbrev c148_0:AC:=(.seq (.reg 3 r148_3) (.seq (.reg 4 r148_4) (.seq (.reg 5 r148_5) (.seq (.reg 6 r148_6) (.seq (.reg 7 r148_7) .ret)))))
abbrev c148_1:AC:=(.seq (.seq (.reg 1 r148_1) (.cond (.t 20) (.seq (.reg 2 r148_2) .ret) .skip)) c148_0)
abbrev b148:AC:=(.seq (.reg 0 r148_0) c148_1)
def pf148:AF:={ nt:=66,res:=[.tmp 4],body:=b148 }
abbrev H148 (Q:AE→Sl→St→Prop)(K:Bool→Prop):Prop:=∀(σ:Sl)(st:St)(res0:Bool),σ 4 = .b res0→K res0→Q .ret σ st
def T148_2 (prog:Prog)(K:Bool→Prop)(s1:List UInt8)(m0:Pan):Prop:=
  ∃r'1:List UInt8,∃r'2:Int,Pus prog 154 [m0.av] (.tup [.s r'1,.i .i64 r'2])∧∃r'4:List UInt8,∃r'5:Int,Pus prog 155 [m0.av] (.tup [.s r'4,.i .i64 r'5])∧∃r'7:Pan,∃r'8:Int,Pus prog 156 [.s s1] (.tup [r'7.av,.i .i64 r'8])∧∃r'10:Pan,∃r'11:Int,Pus prog 157 [.s s1] (.tup [r'10.av,.i .i64 r'11])∧∃r'13:Int,Pus prog 158 [m0.av] (.i .i64 r'13)∧∃r'15:Int,Pus prog 159 [m0.av] (.i .i64 r'15)∧(r'13 = r'15→(r'1 = r'4→(r'2 = r'5→∃r'20:Bool,Pus prog 160 [r'7.av,r'10.av] (.b r'20)∧(r'20 = true→K (decide (r'8 = r'11)))∧(r'20 = false→K false))∧(¬(r'2 = r'5)→K false))∧(¬(r'1 = r'4)→K false))∧(¬(r'13 = r'15)→K false)
def T148_1 (prog:Prog)(K:Bool→Prop)(s1:List UInt8)(m0:Pan):Prop:=
  ∃r'1:Bool,Pus prog 71 [m0.value.av] (.b r'1)∧(r'1 = true→K true)∧(r'1 = false→((s1.length:Int) > 2100→K true)∧(¬((s1.length:Int) > 2100)→T148_2 prog K s1 m0))
def T148_0 (prog:Prog)(K:Bool→Prop)(p0:Pan)(s1:List UInt8):Prop:=
  T148_1 prog K s1 p0
section
variable {prog:Prog}{d:Nat}{Q:AE→Sl→St→Prop}{K:Bool→Prop}(hQ:H148 Q K){σ:Sl}{st:St}
include hQ
theorem w148_2 {s1:List UInt8}{m0:Pan}{v0:Nat}(H1:σ 1 = .s s1)(H2:σ 2 = .p (d,0) v0 0)(B0:lk st.bx (d,0) = some (v0,[.i .u64 m0.tag,.i .u8 m0.value.kind,.i .i64 m0.value.int,.s m0.value.text,.sl .ext (List.map Val.row m0.value.list),.b m0.value.cut,.i .u64 m0.flags]))(h:T148_2 prog K s1 m0):W prog d c148_0 σ st Q:=
 q_ rfl (l_ H2 B0 rfl rfl (h.elim fun r'1 e'26=>e'26.elim fun r'2 e'3=>ca_ (sc rfl rfl sn) e'3.1 (m_ (x_ rfl rfl (x_ rfl rfl (m_ (m_ (e_ (q_ rfl (l_ H2 B0 rfl rfl (e'3.2.elim fun r'4 e'25=>e'25.elim fun r'5 e'6=>ca_ (sc rfl rfl sn) e'6.1 (m_ (x_ rfl rfl (x_ rfl rfl (m_ (m_ (e_ (sq_ (W.reg (m_ (e'6.2.elim fun r'7 e'24=>e'24.elim fun r'8 e'9=>ca_ (sc H1 rfl sn) e'9.1 (m_ (x_ rfl rfl (x_ rfl rfl (s_alloc (so_ rfl (show lk _ (d,20485) = some (_,([.i .u64 0,.i .u8 0,.i .i64 0,.s [],.sl .full (List.map Val.row ([]:List Val)),.b false,.i .u64 0]:List AV)) from lk_here) rfl rfl rfl (m_ (e_ (sq_ (W.reg (m_ (e'9.2.elim fun r'10 e'23=>e'23.elim fun r'11 e'12=>ca_ (sc H1 rfl sn) e'12.1 (m_ (x_ rfl rfl (x_ rfl rfl (s_alloc (so_ rfl (show lk _ (d,24581) = some (_,([.i .u64 0,.i .u8 0,.i .i64 0,.s [],.sl .full (List.map Val.row ([]:List Val)),.b false,.i .u64 0]:List AV)) from lk_here) rfl rfl rfl (m_ (e_ (q_ rfl (l_ H2 (lk_other rfl (lk_other rfl (lk_other rfl (lk_other rfl B0)))) rfl rfl (e'12.2.elim fun r'13 e'14=>ca_ (sc rfl rfl sn) e'14.1 (l_ H2 (lk_other rfl (lk_other rfl (lk_other rfl (lk_other rfl B0)))) rfl rfl (e'14.2.elim fun r'15 e'16=>ca_ (sc rfl rfl sn) e'16.1 (b_ rfl rfl eql_ (s_mvB rfl (em_ (g:=46) rfl (fun g'17=>gy_ rfl (s_mvS rfl (gy_ rfl (s_mvS rfl (gy_ rfl (b_ rfl rfl seq_ (pt_ rfl rfl (s_mvB rfl (em_ (g:=51) rfl (fun g'18=>gy_ rfl (s_mvI rfl (gy_ rfl (s_mvI rfl (gy_ rfl (b_ rfl rfl eql_ (pt_ rfl rfl (s_mvB rfl (em_ (g:=56) rfl (fun g'19=>gy_ rfl (l_ rfl (lk_other rfl (lk_other rfl lk_here)) rfl rfl (gy_ rfl (l_ rfl lk_here rfl rfl (gy_ rfl ((((e'16.2.1 g'17).1 g'18).1 g'19).elim fun r'20 e'21=>ca_ (sc rfl rfl (sc rfl rfl sn)) e'21.1 (pt_ rfl rfl (s_mvB rfl (eb_ (g:=61) rfl (fun g'22=>gy_ rfl (s_mvI rfl (gy_ rfl (s_mvI rfl (gy_ rfl (b_ rfl rfl eql_ (pt_ rfl rfl (s_mvB rfl (e_ (rt_ (hQ _ _ _ rfl (e'21.2.1 g'22)))))))))))) (fun g'22=>gn_ (b:=false) rfl rfl (gn_ (b:=false) rfl rfl (gn_ (b:=false) rfl rfl (pf_ rfl rfl (s_mvB rfl (e_ (rt_ (hQ _ _ _ rfl (e'21.2.2 g'22)))))))))))))))))) (fun g'19=>gn_ (b:=false) rfl rfl (gn_ (b:=false) rfl rfl (gn_ (b:=false) rfl rfl (pf_ rfl rfl (s_mvB rfl (gn_ (b:=false) rfl rfl (gn_ (b:=false) rfl rfl (gn_ (b:=false) rfl rfl (pf_ rfl rfl (s_mvB rfl (e_ (rt_ (hQ _ _ _ rfl (((e'16.2.1 g'17).1 g'18).2 g'19))))))))))))))))))))))) (fun g'18=>gn_ (b:=false) rfl rfl (gn_ (b:=false) rfl rfl (gn_ (b:=false) rfl rfl (pf_ rfl rfl (s_mvB rfl (gn_ (b:=false) rfl rfl (gn_ (b:=false) rfl rfl (gn_ (b:=false) rfl rfl (pf_ rfl rfl (s_mvB rfl (gn_ (b:=false) rfl rfl (gn_ (b:=false) rfl rfl (gn_ (b:=false) rfl rfl (pf_ rfl rfl (s_mvB rfl (e_ (rt_ (hQ _ _ _ rfl ((e'16.2.1 g'17).2 g'18)))))))))))))))))))))))))))) (fun g'17=>gn_ (b:=false) rfl rfl (gn_ (b:=false) rfl rfl (gn_ (b:=false) rfl rfl (pf_ rfl rfl (s_mvB rfl (gn_ (b:=false) rfl rfl (gn_ (b:=false) rfl rfl (gn_ (b:=false) rfl rfl (pf_ rfl rfl (s_mvB rfl (gn_ (b:=false) rfl rfl (gn_ (b:=false) rfl rfl (gn_ (b:=false) rfl rfl (pf_ rfl rfl (s_mvB rfl (gn_ (b:=false) rfl rfl (gn_ (b:=false) rfl rfl (gn_ (b:=false) rfl rfl (pf_ rfl rfl (s_mvB rfl (e_ (rt_ (hQ _ _ _ rfl (e'16.2.2 g'17)))))))))))))))))))))))))))))))))))))))))))))))))))))))))))))))))))))))
theorem w148_1 {s1:List UInt8}{m0:Pan}{v0:Nat}(H1:σ 1 = .s s1)(H2:σ 2 = .p (d,0) v0 0)(B0:lk st.bx (d,0) = some (v0,[.i .u64 m0.tag,.i .u8 m0.value.kind,.i .i64 m0.value.int,.s m0.value.text,.sl .ext (List.map Val.row m0.value.list),.b m0.value.cut,.i .u64 m0.flags]))(h:T148_1 prog K s1 m0):W prog d c148_1 σ st Q:=
 sq_ (q_ rfl (f_ H2 (l_ rfl B0 rfl rfl (h.elim fun r'1 e'2=>ca_ (sc rfl rfl sn) e'2.1 (s_mvB rfl (eb_ (g:=16) rfl (fun g'3=>gn_ (b:=true) rfl rfl (gn_ (b:=true) rfl rfl (gn_ (b:=true) rfl rfl (pt_ rfl rfl (e_ (ct_ rfl (q_ rfl (m_ (e_ (rt_ (hQ _ _ _ rfl (e'2.2.1 g'3)))))))))))) (fun g'3=>gy_ rfl (s_mvS H1 (gy_ rfl (ln_ rfl (gy_ rfl (b_ rfl rfl gtr_ (pf_ rfl rfl (e_ (cs_ rfl (fun g'4=>q_ rfl (m_ (e_ (rt_ (hQ _ _ _ rfl ((e'2.2.2 g'3).1 g'4)))))) (fun g'4=>sk_ (w148_2 hQ H1 H2 B0 ((e'2.2.2 g'3).2 g'4))))))))))))))))))
theorem w148_0 {p0:Pan}{s1:List UInt8}(H0:σ 0 = p0.av)(H1:σ 1 = .s s1)(h:T148_0 prog K p0 s1):W prog d (.seq (.reg 0 r148_0) c148_1) σ st Q:=
 q_ rfl (s_box H0 rfl (m_ (e_ (w148_1 hQ H1 rfl lk_here h))))
end
theorem p148 {prog:Prog}(hf:prog.fn 148 = some pf148){p0:Pan}{s1:List UInt8}{K:Bool→Prop}(h:T148_0 prog K p0 s1) :∃res0:Bool,K res0∧Pus prog 148 [p0.av,.s s1] (.b res0):=by
  obtain ⟨v,hv,res0,hk,rfl⟩:=Pus.of (K:=fun v=>∃res0:Bool,K res0∧v = .b res0) hf rfl (w148_0 (σ:=sl0 [p0.av,.s s1]) (fun σ st   res0 H4 hk=>⟨.b res0,by simp only [pf148,ares,aresL,H4,ares1,Option.map_some],_,rfl,res0,hk,rfl⟩) rfl rfl h)
  exact ⟨res0,hk,hv⟩
end Go.AM

/- Parts of the proof. -/
namespace Go.AM
open Go
set_option linter.unusedVariables false
set_option linter.unusedSimpArgs false
set_option maxRecDepth 4000
attribute [local irreducible] WO fillCells fillRows
abbrev H185 (Q:AE→Sl→St→Prop)(K:Int→Prop):Prop:=∀(σ:Sl)(st:St)(res0:Int),σ 2 = .i .i64 res0→K res0→Q .ret σ st
section
variable {prog:Prog}{d:Nat}{Q:AE→Sl→St→Prop}{K:Int→Prop}(hQ:H185 Q K){σ:Sl}{st:St}
include hQ
end
abbrev H163 (Q:AE→Sl→St→Prop)(K:Int→Prop):Prop:=∀(σ:Sl)(st:St)(res0:Int),σ 2 = .i .i64 res0→K res0→Q .ret σ st
section
variable {prog:Prog}{d:Nat}{Q:AE→Sl→St→Prop}{K:Int→Prop}(hQ:H163 Q K){σ:Sl}{st:St}
include hQ
end
abbrev H165 (Q:AE→Sl→St→Prop)(K:Int→Int→Prop):Prop:=∀(σ:Sl)(st:St)(res0:Int)(res1:Int),σ 2 = .i .i64 res0→σ 3 = .i .i64 res1→K res0 res1→Q .ret σ st
section
variable {prog:Prog}{d:Nat}{Q:AE→Sl→St→Prop}{K:Int→Int→Prop}(hQ:H165 Q K){σ:Sl}{st:St}
include hQ
end
abbrev H169 (Q:AE→Sl→St→Prop)(K:Int→Int→Prop):Prop:=∀(σ:Sl)(st:St)(res0:Int)(res1:Int),σ 2 = .i .i64 res0→σ 3 = .i .i64 res1→K res0 res1→Q .ret σ st
section
variable {prog:Prog}{d:Nat}{Q:AE→Sl→St→Prop}{K:Int→Int→Prop}(hQ:H169 Q K){σ:Sl}{st:St}
include hQ
end
abbrev H170 (Q:AE→Sl→St→Prop)(K:Bool→Prop):Prop:=∀(σ:Sl)(st:St)(res0:Bool),σ 4 = .b res0→K res0→Q .ret σ st
section
variable {prog:Prog}{d:Nat}{Q:AE→Sl→St→Prop}{K:Bool→Prop}(hQ:H170 Q K){σ:Sl}{st:St}
include hQ
end
abbrev H162 (Q:AE→Sl→St→Prop)(K:Bool→Prop):Prop:=∀(σ:Sl)(st:St)(res0:Bool),σ 2 = .b res0→K res0→Q .ret σ st
section
variable {prog:Prog}{d:Nat}{Q:AE→Sl→St→Prop}{K:Bool→Prop}(hQ:H162 Q K){σ:Sl}{st:St}
include hQ
end
abbrev H164 (Q:AE→Sl→St→Prop)(K:List UInt8→Int→Prop):Prop:=∀(σ:Sl)(st:St)(res0:List UInt8)(res1:Int),σ 2 = .s res0→σ 3 = .i .i64 res1→K res0 res1→Q .ret σ st
section
variable {prog:Prog}{d:Nat}{Q:AE→Sl→St→Prop}{K:List UInt8→Int→Prop}(hQ:H164 Q K){σ:Sl}{st:St}
include hQ
end
abbrev H166 (Q:AE→Sl→St→Prop)(K:List UInt8→Int→Prop):Prop:=∀(σ:Sl)(st:St)(res0:List UInt8)(res1:Int),σ 2 = .s res0→σ 3 = .i .i64 res1→K res0 res1→Q .ret σ st
section
variable {prog:Prog}{d:Nat}{Q:AE→Sl→St→Prop}{K:List UInt8→Int→Prop}(hQ:H166 Q K){σ:Sl}{st:St}
include hQ
end
abbrev H171 (Q:AE→Sl→St→Prop)(K:Bool→Prop):Prop:=∀(σ:Sl)(st:St)(res0:Bool),σ 4 = .b res0→K res0→Q .ret σ st
section
variable {prog:Prog}{d:Nat}{Q:AE→Sl→St→Prop}{K:Bool→Prop}(hQ:H171 Q K){σ:Sl}{st:St}
include hQ
end
abbrev H172 (Q:AE→Sl→St→Prop)(K:Val→Prop):Prop:=∀(σ:Sl)(st:St)(k0:Key)(v0:Nat)(o0_0:Own)(res0:Val),σ 2 = .p k0 v0 0→lk st.bx k0 = some (v0,[.i .u8 res0.kind,.i .i64 res0.int,.s res0.text,.sl o0_0 (List.map Val.row res0.list),.b res0.cut])→K res0→Q .ret σ st
section
variable {prog:Prog}{d:Nat}{Q:AE→Sl→St→Prop}{K:Val→Prop}(hQ:H172 Q K){σ:Sl}{st:St}
include hQ
end
abbrev H173 (Q:AE→Sl→St→Prop)(K:Val→Prop):Prop:=∀(σ:Sl)(st:St)(k0:Key)(v0:Nat)(o0_0:Own)(res0:Val),σ 0 = .p k0 v0 0→lk st.bx k0 = some (v0,[.i .u8 res0.kind,.i .i64 res0.int,.s res0.text,.sl o0_0 (List.map Val.row res0.list),.b res0.cut])→K res0→Q .ret σ st
section
variable {prog:Prog}{d:Nat}{Q:AE→Sl→St→Prop}{K:Val→Prop}(hQ:H173 Q K){σ:Sl}{st:St}
include hQ
end
abbrev H174 (Q:AE→Sl→St→Prop)(K:Val→Prop):Prop:=∀(σ:Sl)(st:St)(k0:Key)(v0:Nat)(o0_0:Own)(res0:Val),σ 2 = .p k0 v0 0→lk st.bx k0 = some (v0,[.i .u8 res0.kind,.i .i64 res0.int,.s res0.text,.sl o0_0 (List.map Val.row res0.list),.b res0.cut])→K res0→Q .ret σ st
section
variable {prog:Prog}{d:Nat}{Q:AE→Sl→St→Prop}{K:Val→Prop}(hQ:H174 Q K){σ:Sl}{st:St}
include hQ
end
abbrev H176 (Q:AE→Sl→St→Prop)(K:Bool→Prop):Prop:=∀(σ:Sl)(st:St)(res0:Bool),σ 2 = .b res0→K res0→Q .ret σ st
section
variable {prog:Prog}{d:Nat}{Q:AE→Sl→St→Prop}{K:Bool→Prop}(hQ:H176 Q K){σ:Sl}{st:St}
include hQ
end
abbrev H184 (d:Nat)(st0:St)(Q:AE→Sl→St→Prop)(K:List Pan→Prop):Prop:=∀(σ:Sl)(st:St)(res0:List Pan),σ 0 = .sl .full (List.map Pan.row res0)→Fr d (d,0) st0.bx st0.ow st.bx st.ow→K res0→Q .ret σ st
section
variable {prog:Prog}{d:Nat}{Q:AE→Sl→St→Prop}{K:List Pan→Prop}{st0:St}(hQ:H184 d st0 Q K){σ:Sl}{st:St}
include hQ
end
abbrev H161 (Q:AE→Sl→St→Prop)(K:Bool→Prop):Prop:=∀(σ:Sl)(st:St)(res0:Bool),σ 0 = .b res0→K res0→Q .ret σ st
section
variable {prog:Prog}{d:Nat}{Q:AE→Sl→St→Prop}{K:Bool→Prop}(hQ:H161 Q K){σ:Sl}{st:St}
include hQ
end
end Go.AM

/- Parts of the proof. -/
namespace Go.AM
open Go
set_option linter.unusedVariables false
set_option linter.unusedSimpArgs false
set_option maxRecDepth 4000
attribute [local irreducible] WO fillCells fillRows
abbrev H149 (Q:AE→Sl→St→Prop)(K:Bool→Prop):Prop:=∀(σ:Sl)(st:St)(res0:Bool),σ 4 = .b res0→K res0→Q .ret σ st
section
variable {prog:Prog}{d:Nat}{Q:AE→Sl→St→Prop}{K:Bool→Prop}(hQ:H149 Q K){σ:Sl}{st:St}
include hQ
end
abbrev H150 (Q:AE→Sl→St→Prop)(K:Bool→Prop):Prop:=∀(σ:Sl)(st:St)(res0:Bool),σ 2 = .b res0→K res0→Q .ret σ st
section
variable {prog:Prog}{d:Nat}{Q:AE→Sl→St→Prop}{K:Bool→Prop}(hQ:H150 Q K){σ:Sl}{st:St}
include hQ
end
end Go.AM

/- MADE BY PROGRAM (seat2.py): the types of the program, and that its code is the machine's. -/
namespace Go.Proofs
open Go.Shelf
def Try.lays169_ren : Go.Shelf.Ren := ⟨fun | 169 => 50 | n => n, fun | 70 => 86 | 9 => 9 | 0 => 0 | 72 => 88 | 37 => 63 | 127 => 108 | 3 => 3 | 5 => 5 | n => n, fun | n => n⟩
theorem Try.lays169 : Go.Proofs.Lays.n169 Try.prog Try.lays169_ren := {
  mixed := by kernel_rfl
  f169 := Try.func50.trans (congrArg some (by kernel_rfl))
  t0 := Try.underlying0
  a0 := Try.isAgg0
  z0 := Try.sizeOf0
  v0 := Try.zeroValue0
  t3 := Try.underlying3
  a3 := Try.isAgg3
  z3 := Try.sizeOf3
  v3 := Try.zeroValue3
  t9 := Try.underlying9
  a9 := Try.isAgg9
  z9 := Try.sizeOf9
  v9 := Try.zeroValue9
  t37 := Try.underlying63
  a37 := Try.isAgg63
  z37 := Try.sizeOf63
  v37 := Try.zeroValue63
  t70 := Try.underlying86
  a70 := Try.isAgg86
  z70 := Try.sizeOf86
  v70 := Try.zeroValue86
  t72 := Try.underlying88
  a72 := Try.isAgg88
  z72 := Try.sizeOf88
  v72 := Try.zeroValue88
  t127 := Try.underlying108
  a127 := Try.isAgg108
  z127 := Try.sizeOf108
  v127 := Try.zeroValue108 }

theorem Try.extraB : Builder.Extra Try.prog Try.lays169_ren := {
  sizeBuilder := by kernel_rfl
  liesBuilder := by kernel_rfl
  t5 := Try.underlying5
  a5 := Try.isAgg5
  z5 := Try.sizeOf5
  v5 := Try.zeroValue5
  infoByte := by kernel_rfl
  cellsByte := by kernel_rfl
  sizeByte := by kernel_rfl
  neB5 := by decide }
end Go.Proofs
namespace Go.Proofs.Ytffbkdcgkhbpoaa
open Go Go.AM

def tys : List (Nat × TI) := [
(2, ⟨.int .i64, 1, 8, [.i .i64 0]⟩),
  (3, ⟨.int .i64, 1, 8, [.i .i64 0]⟩),
  (4, ⟨.bool, 1, 1, [.b false]⟩),
  (5, ⟨.int .u8, 1, 1, [.i .u8 0]⟩),
  (9, ⟨.str, 1, 16, [.s []]⟩),
  (22, ⟨.int .u64, 1, 8, [.i .u64 0]⟩),
  (23, ⟨.sl 25, 1, 24, [.sl .full []]⟩),
  (25, ⟨.st [(5, 0), (2, 1), (9, 2), (23, 3), (4, 4)], 5, 64, [.i .u8 0, .i .i64 0, .s [], .sl .full [], .b false]⟩),
  (27, ⟨.st [(22, 0), (25, 1), (22, 6)], 7, 80, [.i .u64 0, .i .u8 0, .i .i64 0, .s [], .sl .full [], .b false, .i .u64 0]⟩),
  (29, ⟨.int .i64, 1, 8, [.i .i64 0]⟩),
  (42, ⟨.sl 27, 1, 24, [.sl .full []]⟩),
  (63, ⟨.sl 5, 1, 24, [.sl .full []]⟩),
  (65, ⟨.sl 9, 1, 24, [.sl .full []]⟩),
  (70, ⟨.arr 4 9, 4, 64, [.s [], .s [], .s [], .s []]⟩),
  (79, ⟨.sl 22, 1, 24, [.sl .full []]⟩),
  (80, ⟨.arr 5 5, 5, 5, [.i .u8 0, .i .u8 0, .i .u8 0, .i .u8 0, .i .u8 0]⟩),
  (86, ⟨.ptr 88, 1, 8, [.np]⟩),
  (88, ⟨.st [(86, 0), (63, 1)], 2, 32, [.np, .sl .full []]⟩),
  (90, ⟨.other, 1, 16, [.ni]⟩),
  (109, ⟨.arr 8 9, 8, 128, [.s [], .s [], .s [], .s [], .s [], .s [], .s [], .s []]⟩),
  (116, ⟨.ptr 118, 1, 8, [.np]⟩),
  (118, ⟨.st [(9, 0)], 1, 16, [.s []]⟩),
  (125, ⟨.uptr, 1, 8, [.np]⟩),
  (138, ⟨.arr 64 5, 64, 64, [.i .u8 0, .i .u8 0, .i .u8 0, .i .u8 0, .i .u8 0, .i .u8 0, .i .u8 0, .i .u8 0, .i .u8 0, .i .u8 0, .i .u8 0, .i .u8 0, .i .u8 0, .i .u8 0, .i .u8 0, .i .u8 0, .i .u8 0, .i .u8 0, .i .u8 0, .i .u8 0, .i .u8 0, .i .u8 0, .i .u8 0, .i .u8 0, .i .u8 0, .i .u8 0, .i .u8 0, .i .u8 0, .i .u8 0, .i .u8 0, .i .u8 0, .i .u8 0, .i .u8 0, .i .u8 0, .i .u8 0, .i .u8 0, .i .u8 0, .i .u8 0, .i .u8 0, .i .u8 0, .i .u8 0, .i .u8 0, .i .u8 0, .i .u8 0, .i .u8 0, .i .u8 0, .i .u8 0, .i .u8 0, .i .u8 0, .i .u8 0, .i .u8 0, .i .u8 0, .i .u8 0, .i .u8 0, .i .u8 0, .i .u8 0, .i .u8 0, .i .u8 0, .i .u8 0, .i .u8 0, .i .u8 0, .i .u8 0, .i .u8 0, .i .u8 0]⟩)]
theorem ty2 : TOk Try.prog 2 (((2, ⟨.int .i64, 1, 8, [.i .i64 0]⟩) : Nat × TI).2) := TOk.of (ti := Try.t2) (by kernel_rfl) (by kernel_rfl) (by kernel_rfl) (show Try.prog.underlying 2 = some (.int .i64) from by kernel_rfl)
theorem ty3 : TOk Try.prog 3 (((3, ⟨.int .i64, 1, 8, [.i .i64 0]⟩) : Nat × TI).2) := TOk.of (ti := Try.t3) (by kernel_rfl) (by kernel_rfl) (by kernel_rfl) (show Try.prog.underlying 3 = some (.int .i64) from by kernel_rfl)
theorem ty4 : TOk Try.prog 4 (((4, ⟨.bool, 1, 1, [.b false]⟩) : Nat × TI).2) := TOk.of (ti := Try.t4) (by kernel_rfl) (by kernel_rfl) (by kernel_rfl) (show Try.prog.underlying 4 = some (.bool) from by kernel_rfl)
theorem ty5 : TOk Try.prog 5 (((5, ⟨.int .u8, 1, 1, [.i .u8 0]⟩) : Nat × TI).2) := TOk.of (ti := Try.t5) (by kernel_rfl) (by kernel_rfl) (by kernel_rfl) (show Try.prog.underlying 5 = some (.int .u8) from by kernel_rfl)
theorem ty9 : TOk Try.prog 9 (((9, ⟨.str, 1, 16, [.s []]⟩) : Nat × TI).2) := TOk.of (ti := Try.t9) (by kernel_rfl) (by kernel_rfl) (by kernel_rfl) (show Try.prog.underlying 9 = some (.string) from by kernel_rfl)
theorem ty22 : TOk Try.prog 22 (((22, ⟨.int .u64, 1, 8, [.i .u64 0]⟩) : Nat × TI).2) := TOk.of (ti := Try.t22) (by kernel_rfl) (by kernel_rfl) (by kernel_rfl) (show Try.prog.underlying 22 = some (.int .u64) from by kernel_rfl)
theorem ty23 : TOk Try.prog 23 (((23, ⟨.sl 25, 1, 24, [.sl .full []]⟩) : Nat × TI).2) := TOk.of (ti := Try.t23) (by kernel_rfl) (by kernel_rfl) (by kernel_rfl) (show Try.prog.underlying 23 = some (.slice 25) from by kernel_rfl)
theorem ty25 : TOk Try.prog 25 (((25, ⟨.st [(5, 0), (2, 1), (9, 2), (23, 3), (4, 4)], 5, 64, [.i .u8 0, .i .i64 0, .s [], .sl .full [], .b false]⟩) : Nat × TI).2) := TOk.of (ti := Try.t25) (by kernel_rfl) (by kernel_rfl) (by kernel_rfl) (TK.ok_st (by kernel_rfl))
theorem ty27 : TOk Try.prog 27 (((27, ⟨.st [(22, 0), (25, 1), (22, 6)], 7, 80, [.i .u64 0, .i .u8 0, .i .i64 0, .s [], .sl .full [], .b false, .i .u64 0]⟩) : Nat × TI).2) := TOk.of (ti := Try.t27) (by kernel_rfl) (by kernel_rfl) (by kernel_rfl) (TK.ok_st (by kernel_rfl))
theorem ty29 : TOk Try.prog 29 (((29, ⟨.int .i64, 1, 8, [.i .i64 0]⟩) : Nat × TI).2) := TOk.of (ti := Try.t29) (by kernel_rfl) (by kernel_rfl) (by kernel_rfl) (show Try.prog.underlying 29 = some (.int .i64) from by kernel_rfl)
theorem ty42 : TOk Try.prog 42 (((42, ⟨.sl 27, 1, 24, [.sl .full []]⟩) : Nat × TI).2) := TOk.of (ti := Try.t42) (by kernel_rfl) (by kernel_rfl) (by kernel_rfl) (show Try.prog.underlying 42 = some (.slice 27) from by kernel_rfl)
theorem ty63 : TOk Try.prog 63 (((63, ⟨.sl 5, 1, 24, [.sl .full []]⟩) : Nat × TI).2) := TOk.of (ti := Try.t63) (by kernel_rfl) (by kernel_rfl) (by kernel_rfl) (show Try.prog.underlying 63 = some (.slice 5) from by kernel_rfl)
theorem ty65 : TOk Try.prog 65 (((65, ⟨.sl 9, 1, 24, [.sl .full []]⟩) : Nat × TI).2) := TOk.of (ti := Try.t65) (by kernel_rfl) (by kernel_rfl) (by kernel_rfl) (show Try.prog.underlying 65 = some (.slice 9) from by kernel_rfl)
theorem ty70 : TOk Try.prog 70 (((70, ⟨.arr 4 9, 4, 64, [.s [], .s [], .s [], .s []]⟩) : Nat × TI).2) := TOk.of (ti := Try.t70) (by kernel_rfl) (by kernel_rfl) (by kernel_rfl) (show Try.prog.underlying 70 = some (.array 4 9) from by kernel_rfl)
theorem ty79 : TOk Try.prog 79 (((79, ⟨.sl 22, 1, 24, [.sl .full []]⟩) : Nat × TI).2) := TOk.of (ti := Try.t79) (by kernel_rfl) (by kernel_rfl) (by kernel_rfl) (show Try.prog.underlying 79 = some (.slice 22) from by kernel_rfl)
theorem ty80 : TOk Try.prog 80 (((80, ⟨.arr 5 5, 5, 5, [.i .u8 0, .i .u8 0, .i .u8 0, .i .u8 0, .i .u8 0]⟩) : Nat × TI).2) := TOk.of (ti := Try.t80) (by kernel_rfl) (by kernel_rfl) (by kernel_rfl) (show Try.prog.underlying 80 = some (.array 5 5) from by kernel_rfl)
theorem ty86 : TOk Try.prog 86 (((86, ⟨.ptr 88, 1, 8, [.np]⟩) : Nat × TI).2) := TOk.of (ti := Try.t86) (by kernel_rfl) (by kernel_rfl) (by kernel_rfl) (And.intro (by kernel_rfl) (by kernel_rfl))
theorem ty88 : TOk Try.prog 88 (((88, ⟨.st [(86, 0), (63, 1)], 2, 32, [.np, .sl .full []]⟩) : Nat × TI).2) := TOk.of (ti := Try.t88) (by kernel_rfl) (by kernel_rfl) (by kernel_rfl) (TK.ok_st (by kernel_rfl))
theorem ty90 : TOk Try.prog 90 (((90, ⟨.other, 1, 16, [.ni]⟩) : Nat × TI).2) := TOk.of (ti := Try.t90) (by kernel_rfl) (by kernel_rfl) (by kernel_rfl) (TK.ok_other (by kernel_rfl))
theorem ty109 : TOk Try.prog 109 (((109, ⟨.arr 8 9, 8, 128, [.s [], .s [], .s [], .s [], .s [], .s [], .s [], .s []]⟩) : Nat × TI).2) := TOk.of (ti := Try.t109) (by kernel_rfl) (by kernel_rfl) (by kernel_rfl) (show Try.prog.underlying 109 = some (.array 8 9) from by kernel_rfl)
theorem ty116 : TOk Try.prog 116 (((116, ⟨.ptr 118, 1, 8, [.np]⟩) : Nat × TI).2) := TOk.of (ti := Try.t116) (by kernel_rfl) (by kernel_rfl) (by kernel_rfl) (And.intro (by kernel_rfl) (by kernel_rfl))
theorem ty118 : TOk Try.prog 118 (((118, ⟨.st [(9, 0)], 1, 16, [.s []]⟩) : Nat × TI).2) := TOk.of (ti := Try.t118) (by kernel_rfl) (by kernel_rfl) (by kernel_rfl) (TK.ok_st (by kernel_rfl))
theorem ty125 : TOk Try.prog 125 (((125, ⟨.uptr, 1, 8, [.np]⟩) : Nat × TI).2) := TOk.of (ti := Try.t125) (by kernel_rfl) (by kernel_rfl) (by kernel_rfl) (show Try.prog.underlying 125 = some (.unsafePointer) from by kernel_rfl)
theorem ty138 : TOk Try.prog 138 (((138, ⟨.arr 64 5, 64, 64, [.i .u8 0, .i .u8 0, .i .u8 0, .i .u8 0, .i .u8 0, .i .u8 0, .i .u8 0, .i .u8 0, .i .u8 0, .i .u8 0, .i .u8 0, .i .u8 0, .i .u8 0, .i .u8 0, .i .u8 0, .i .u8 0, .i .u8 0, .i .u8 0, .i .u8 0, .i .u8 0, .i .u8 0, .i .u8 0, .i .u8 0, .i .u8 0, .i .u8 0, .i .u8 0, .i .u8 0, .i .u8 0, .i .u8 0, .i .u8 0, .i .u8 0, .i .u8 0, .i .u8 0, .i .u8 0, .i .u8 0, .i .u8 0, .i .u8 0, .i .u8 0, .i .u8 0, .i .u8 0, .i .u8 0, .i .u8 0, .i .u8 0, .i .u8 0, .i .u8 0, .i .u8 0, .i .u8 0, .i .u8 0, .i .u8 0, .i .u8 0, .i .u8 0, .i .u8 0, .i .u8 0, .i .u8 0, .i .u8 0, .i .u8 0, .i .u8 0, .i .u8 0, .i .u8 0, .i .u8 0, .i .u8 0, .i .u8 0, .i .u8 0, .i .u8 0]⟩) : Nat × TI).2) := TOk.of (ti := Try.t138) (by kernel_rfl) (by kernel_rfl) (by kernel_rfl) (show Try.prog.underlying 138 = some (.array 64 5) from by kernel_rfl)
theorem tys_ok : ∀ x ∈ tys, TOk Try.prog x.1 x.2 := by
  unfold tys
  simp only [List.mem_cons, List.not_mem_nil, or_false, forall_eq_or_imp, forall_eq]
  exact ⟨ty2, ty3, ty4, ty5, ty9, ty22, ty23, ty25, ty27, ty29, ty42, ty63, ty65, ty70, ty79, ty80, ty86, ty88, ty90, ty109, ty116, ty118, ty125, ty138⟩
def fms : List (Nat × Nat) := [(2, 2), (3, 148), (4, 149), (5, 150), (6, 151), (7, 152), (8, 153), (9, 71), (10, 154), (11, 155), (12, 156), (13, 157), (14, 158), (15, 159), (16, 160), (17, 161), (18, 162), (19, 163), (20, 164), (21, 165), (22, 72), (23, 166), (24, 167), (25, 168), (26, 169), (27, 170), (28, 171), (29, 172), (30, 173), (31, 174), (32, 175), (33, 176), (34, 177), (35, 102), (36, 103), (37, 178), (38, 179), (39, 180), (40, 181), (41, 182), (42, 75), (43, 183), (44, 76), (45, 77), (46, 78), (47, 184), (48, 185), (49, 126), (50, 105), (51, 104), (52, 186), (53, 187), (54, 188), (55, 189), (56, 106), (57, 190), (58, 36), (59, 74), (60, 108), (61, 109), (62, 110), (63, 145), (64, 15), (65, 11), (66, 191), (67, 192), (69, 194), (70, 195), (71, 43), (72, 196), (73, 16), (74, 31), (75, 127), (76, 42), (77, 107), (78, 132), (79, 133), (80, 134), (81, 26), (82, 135), (83, 22), (84, 136), (85, 146), (86, 34), (87, 30), (88, 197), (89, 47), (90, 35), (91, 41), (92, 46), (93, 128), (94, 129), (95, 130), (96, 131), (97, 40), (98, 38), (100, 199), (101, 200), (102, 48), (103, 25), (104, 21), (105, 44), (106, 201), (107, 39), (108, 37), (109, 45), (1000000000000, 1000000088), (1000000000001, 1000000005)]
def X : Cx := ⟨tabOf tys, fmOf fms, fun c => [30, 89, 104, 105, 107, 115, 116, 117, 120, 122, 123, 126, 128, 129, 130, 131, 139, 140, 144, 145, 146, 184].contains c⟩
theorem ok42 : FnOk Try.prog X 76 pf42 := FnOk.of Try.func76 (by kernel_rfl) (by kernel_rfl) (by kernel_rfl) (by kernel_rfl) (by kernel_rfl)
theorem ok46 : FnOk Try.prog X 92 pf46 := FnOk.of Try.func92 (by kernel_rfl) (by kernel_rfl) (by kernel_rfl) (by kernel_rfl) (by kernel_rfl)
theorem ok36 : FnOk Try.prog X 58 pf36 := FnOk.of Try.func58 (by kernel_rfl) (by kernel_rfl) (by kernel_rfl) (by kernel_rfl) (by kernel_rfl)
theorem ok43 : FnOk Try.prog X 71 pf43 := FnOk.of Try.func71 (by kernel_rfl) (by kernel_rfl) (by kernel_rfl) (by kernel_rfl) (by kernel_rfl)
theorem ok47 : FnOk Try.prog X 89 pf47 := FnOk.of Try.func89 (by kernel_rfl) (by kernel_rfl) (by kernel_rfl) (by kernel_rfl) (by kernel_rfl)
theorem ok11 : FnOk Try.prog X 65 pf11 := FnOk.of Try.func65 (by kernel_rfl) (by kernel_rfl) (by kernel_rfl) (by kernel_rfl) (by kernel_rfl)
theorem ok15 : FnOk Try.prog X 64 pf15 := FnOk.of Try.func64 (by kernel_rfl) (by kernel_rfl) (by kernel_rfl) (by kernel_rfl) (by kernel_rfl)
theorem ok21 : FnOk Try.prog X 104 pf21 := FnOk.of Try.func104 (by kernel_rfl) (by kernel_rfl) (by kernel_rfl) (by kernel_rfl) (by kernel_rfl)
theorem ok25 : FnOk Try.prog X 103 pf25 := FnOk.of Try.func103 (by kernel_rfl) (by kernel_rfl) (by kernel_rfl) (by kernel_rfl) (by kernel_rfl)
theorem ok30 : FnOk Try.prog X 87 pf30 := FnOk.of Try.func87 (by kernel_rfl) (by kernel_rfl) (by kernel_rfl) (by kernel_rfl) (by kernel_rfl)
theorem ok34 : FnOk Try.prog X 86 pf34 := FnOk.of Try.func86 (by kernel_rfl) (by kernel_rfl) (by kernel_rfl) (by kernel_rfl) (by kernel_rfl)
theorem ok37 : FnOk Try.prog X 108 pf37 := FnOk.of Try.func108 (by kernel_rfl) (by kernel_rfl) (by kernel_rfl) (by kernel_rfl) (by kernel_rfl)
theorem ok39 : FnOk Try.prog X 107 pf39 := FnOk.of Try.func107 (by kernel_rfl) (by kernel_rfl) (by kernel_rfl) (by kernel_rfl) (by kernel_rfl)
theorem ok45 : FnOk Try.prog X 109 pf45 := FnOk.of Try.func109 (by kernel_rfl) (by kernel_rfl) (by kernel_rfl) (by kernel_rfl) (by kernel_rfl)
theorem ok16 : FnOk Try.prog X 73 pf16 := FnOk.of Try.func73 (by kernel_rfl) (by kernel_rfl) (by kernel_rfl) (by kernel_rfl) (by kernel_rfl)
theorem ok22 : FnOk Try.prog X 83 pf22 := FnOk.of Try.func83 (by kernel_rfl) (by kernel_rfl) (by kernel_rfl) (by kernel_rfl) (by kernel_rfl)
theorem ok26 : FnOk Try.prog X 81 pf26 := FnOk.of Try.func81 (by kernel_rfl) (by kernel_rfl) (by kernel_rfl) (by kernel_rfl) (by kernel_rfl)
theorem ok31 : FnOk Try.prog X 74 pf31 := FnOk.of Try.func74 (by kernel_rfl) (by kernel_rfl) (by kernel_rfl) (by kernel_rfl) (by kernel_rfl)
theorem ok35 : FnOk Try.prog X 90 pf35 := FnOk.of Try.func90 (by kernel_rfl) (by kernel_rfl) (by kernel_rfl) (by kernel_rfl) (by kernel_rfl)
theorem ok38 : FnOk Try.prog X 98 pf38 := FnOk.of Try.func98 (by kernel_rfl) (by kernel_rfl) (by kernel_rfl) (by kernel_rfl) (by kernel_rfl)
theorem ok40 : FnOk Try.prog X 97 pf40 := FnOk.of Try.func97 (by kernel_rfl) (by kernel_rfl) (by kernel_rfl) (by kernel_rfl) (by kernel_rfl)
theorem ok41 : FnOk Try.prog X 91 pf41 := FnOk.of Try.func91 (by kernel_rfl) (by kernel_rfl) (by kernel_rfl) (by kernel_rfl) (by kernel_rfl)
theorem ok44 : FnOk Try.prog X 105 pf44 := FnOk.of Try.func105 (by kernel_rfl) (by kernel_rfl) (by kernel_rfl) (by kernel_rfl) (by kernel_rfl)
theorem ok145 : FnOk Try.prog X 63 pf145 := FnOk.of Try.func63 (by kernel_rfl) (by kernel_rfl) (by kernel_rfl) (by kernel_rfl) (by kernel_rfl)
theorem ok126 : FnOk Try.prog X 49 pf126 := FnOk.of Try.func49 (by kernel_rfl) (by kernel_rfl) (by kernel_rfl) (by kernel_rfl) (by kernel_rfl)
theorem ok71 : FnOk Try.prog X 9 pf71 := FnOk.of Try.func9 (by kernel_rfl) (by kernel_rfl) (by kernel_rfl) (by kernel_rfl) (by kernel_rfl)
theorem ok72 : FnOk Try.prog X 22 pf72 := FnOk.of Try.func22 (by kernel_rfl) (by kernel_rfl) (by kernel_rfl) (by kernel_rfl) (by kernel_rfl)
theorem ok74 : FnOk Try.prog X 59 pf74 := FnOk.of Try.func59 (by kernel_rfl) (by kernel_rfl) (by kernel_rfl) (by kernel_rfl) (by kernel_rfl)
theorem ok75 : FnOk Try.prog X 42 pf75 := FnOk.of Try.func42 (by kernel_rfl) (by kernel_rfl) (by kernel_rfl) (by kernel_rfl) (by kernel_rfl)
theorem ok76 : FnOk Try.prog X 44 pf76 := FnOk.of Try.func44 (by kernel_rfl) (by kernel_rfl) (by kernel_rfl) (by kernel_rfl) (by kernel_rfl)
theorem ok77 : FnOk Try.prog X 45 pf77 := FnOk.of Try.func45 (by kernel_rfl) (by kernel_rfl) (by kernel_rfl) (by kernel_rfl) (by kernel_rfl)
theorem ok78 : FnOk Try.prog X 46 pf78 := FnOk.of Try.func46 (by kernel_rfl) (by kernel_rfl) (by kernel_rfl) (by kernel_rfl) (by kernel_rfl)
theorem ok102 : FnOk Try.prog X 35 pf102 := FnOk.of Try.func35 (by kernel_rfl) (by kernel_rfl) (by kernel_rfl) (by kernel_rfl) (by kernel_rfl)
theorem ok103 : FnOk Try.prog X 36 pf103 := FnOk.of Try.func36 (by kernel_rfl) (by kernel_rfl) (by kernel_rfl) (by kernel_rfl) (by kernel_rfl)
theorem ok104 : FnOk Try.prog X 51 pf104 := FnOk.of Try.func51 (by kernel_rfl) (by kernel_rfl) (by kernel_rfl) (by kernel_rfl) (by kernel_rfl)
theorem ok106 : FnOk Try.prog X 56 pf106 := FnOk.of Try.func56 (by kernel_rfl) (by kernel_rfl) (by kernel_rfl) (by kernel_rfl) (by kernel_rfl)
theorem ok107 : FnOk Try.prog X 77 pf107 := FnOk.of Try.func77 (by kernel_rfl) (by kernel_rfl) (by kernel_rfl) (by kernel_rfl) (by kernel_rfl)
theorem ok108 : FnOk Try.prog X 60 pf108 := FnOk.of Try.func60 (by kernel_rfl) (by kernel_rfl) (by kernel_rfl) (by kernel_rfl) (by kernel_rfl)
theorem ok109 : FnOk Try.prog X 61 pf109 := FnOk.of Try.func61 (by kernel_rfl) (by kernel_rfl) (by kernel_rfl) (by kernel_rfl) (by kernel_rfl)
theorem ok110 : FnOk Try.prog X 62 pf110 := FnOk.of Try.func62 (by kernel_rfl) (by kernel_rfl) (by kernel_rfl) (by kernel_rfl) (by kernel_rfl)
theorem ok127 : FnOk Try.prog X 75 pf127 := FnOk.of Try.func75 (by kernel_rfl) (by kernel_rfl) (by kernel_rfl) (by kernel_rfl) (by kernel_rfl)
theorem ok128 : FnOk Try.prog X 93 pf128 := FnOk.of Try.func93 (by kernel_rfl) (by kernel_rfl) (by kernel_rfl) (by kernel_rfl) (by kernel_rfl)
theorem ok129 : FnOk Try.prog X 94 pf129 := FnOk.of Try.func94 (by kernel_rfl) (by kernel_rfl) (by kernel_rfl) (by kernel_rfl) (by kernel_rfl)
theorem ok130 : FnOk Try.prog X 95 pf130 := FnOk.of Try.func95 (by kernel_rfl) (by kernel_rfl) (by kernel_rfl) (by kernel_rfl) (by kernel_rfl)
theorem ok131 : FnOk Try.prog X 96 pf131 := FnOk.of Try.func96 (by kernel_rfl) (by kernel_rfl) (by kernel_rfl) (by kernel_rfl) (by kernel_rfl)
theorem ok132 : FnOk Try.prog X 78 pf132 := FnOk.of Try.func78 (by kernel_rfl) (by kernel_rfl) (by kernel_rfl) (by kernel_rfl) (by kernel_rfl)
theorem ok133 : FnOk Try.prog X 79 pf133 := FnOk.of Try.func79 (by kernel_rfl) (by kernel_rfl) (by kernel_rfl) (by kernel_rfl) (by kernel_rfl)
theorem ok134 : FnOk Try.prog X 80 pf134 := FnOk.of Try.func80 (by kernel_rfl) (by kernel_rfl) (by kernel_rfl) (by kernel_rfl) (by kernel_rfl)
theorem ok135 : FnOk Try.prog X 82 pf135 := FnOk.of Try.func82 (by kernel_rfl) (by kernel_rfl) (by kernel_rfl) (by kernel_rfl) (by kernel_rfl)
theorem ok136 : FnOk Try.prog X 84 pf136 := FnOk.of Try.func84 (by kernel_rfl) (by kernel_rfl) (by kernel_rfl) (by kernel_rfl) (by kernel_rfl)
theorem ok154 : FnOk Try.prog X 10 pf154 := FnOk.of Try.func10 (by kernel_rfl) (by kernel_rfl) (by kernel_rfl) (by kernel_rfl) (by kernel_rfl)
theorem ok155 : FnOk Try.prog X 11 pf155 := FnOk.of Try.func11 (by kernel_rfl) (by kernel_rfl) (by kernel_rfl) (by kernel_rfl) (by kernel_rfl)
theorem ok158 : FnOk Try.prog X 14 pf158 := FnOk.of Try.func14 (by kernel_rfl) (by kernel_rfl) (by kernel_rfl) (by kernel_rfl) (by kernel_rfl)
theorem ok159 : FnOk Try.prog X 15 pf159 := FnOk.of Try.func15 (by kernel_rfl) (by kernel_rfl) (by kernel_rfl) (by kernel_rfl) (by kernel_rfl)
theorem ok178 : FnOk Try.prog X 37 pf178 := FnOk.of Try.func37 (by kernel_rfl) (by kernel_rfl) (by kernel_rfl) (by kernel_rfl) (by kernel_rfl)
theorem ok179 : FnOk Try.prog X 38 pf179 := FnOk.of Try.func38 (by kernel_rfl) (by kernel_rfl) (by kernel_rfl) (by kernel_rfl) (by kernel_rfl)
theorem ok180 : FnOk Try.prog X 39 pf180 := FnOk.of Try.func39 (by kernel_rfl) (by kernel_rfl) (by kernel_rfl) (by kernel_rfl) (by kernel_rfl)
theorem ok182 : FnOk Try.prog X 41 pf182 := FnOk.of Try.func41 (by kernel_rfl) (by kernel_rfl) (by kernel_rfl) (by kernel_rfl) (by kernel_rfl)
theorem ok183 : FnOk Try.prog X 43 pf183 := FnOk.of Try.func43 (by kernel_rfl) (by kernel_rfl) (by kernel_rfl) (by kernel_rfl) (by kernel_rfl)
theorem ok190 : FnOk Try.prog X 57 pf190 := FnOk.of Try.func57 (by kernel_rfl) (by kernel_rfl) (by kernel_rfl) (by kernel_rfl) (by kernel_rfl)
theorem ok191 : FnOk Try.prog X 66 pf191 := FnOk.of Try.func66 (by kernel_rfl) (by kernel_rfl) (by kernel_rfl) (by kernel_rfl) (by kernel_rfl)
theorem ok156 : FnOk Try.prog X 12 pf156 := FnOk.of Try.func12 (by kernel_rfl) (by kernel_rfl) (by kernel_rfl) (by kernel_rfl) (by kernel_rfl)
theorem ok157 : FnOk Try.prog X 13 pf157 := FnOk.of Try.func13 (by kernel_rfl) (by kernel_rfl) (by kernel_rfl) (by kernel_rfl) (by kernel_rfl)
theorem ok160 : FnOk Try.prog X 16 pf160 := FnOk.of Try.func16 (by kernel_rfl) (by kernel_rfl) (by kernel_rfl) (by kernel_rfl) (by kernel_rfl)
theorem ok181 : FnOk Try.prog X 40 pf181 := FnOk.of Try.func40 (by kernel_rfl) (by kernel_rfl) (by kernel_rfl) (by kernel_rfl) (by kernel_rfl)
theorem tyVal : TyVal X.T 25 := ⟨5, 2, 9, 23, 4, ⟨_, rfl, rfl, rfl⟩, ⟨_, rfl, rfl, rfl⟩, ⟨_, rfl, rfl, rfl⟩, ⟨_, rfl, rfl, rfl⟩, ⟨_, rfl, rfl, rfl⟩, ⟨_, rfl, rfl, rfl⟩⟩
theorem tyPan : TyPan X.T 27 := ⟨22, 25, 22, ⟨_, rfl, rfl, rfl⟩, ⟨_, rfl, rfl, rfl⟩, tyVal, ⟨_, rfl, rfl, rfl⟩⟩
end Go.Proofs.Ytffbkdcgkhbpoaa

/- Parts of the proof. -/
namespace Go.AM
open Go
structure Has03 (prog : Prog) : Prop where
  f42 : prog.fn 42 = some pf42
  f46 : prog.fn 46 = some pf46
  f36 : prog.fn 36 = some pf36
  f43 : prog.fn 43 = some pf43
  f47 : prog.fn 47 = some pf47
  f11 : prog.fn 11 = some pf11
  f15 : prog.fn 15 = some pf15
  f21 : prog.fn 21 = some pf21
  f25 : prog.fn 25 = some pf25
  f30 : prog.fn 30 = some pf30
  f34 : prog.fn 34 = some pf34
  f37 : prog.fn 37 = some pf37
  f39 : prog.fn 39 = some pf39
  f45 : prog.fn 45 = some pf45
  f16 : prog.fn 16 = some pf16
  f22 : prog.fn 22 = some pf22
  f26 : prog.fn 26 = some pf26
  f31 : prog.fn 31 = some pf31
  f35 : prog.fn 35 = some pf35
  f38 : prog.fn 38 = some pf38
  f40 : prog.fn 40 = some pf40
  f41 : prog.fn 41 = some pf41
  f44 : prog.fn 44 = some pf44
  f48 : prog.fn 48 = none
  o48 : ∀ (s : Bytes) (c : UInt8), prog.orac 48 [.s s, .i .u8 (c.toNat : Int)] = some (.i .i64 (Lib.indexByte s c))
section
variable {prog : Prog} (H : Has03 prog)
include H
theorem c41 (c : UInt8) : Pus prog 41 [.i .u8 (c.toNat : Int)] (.s (chr c)) := by
  have hc := c.toNat_lt
  have hq : (c.toNat : Int).tdiv 16 = ((c.toNat / 16 : Nat) : Int) := by rw [Int.tdiv_eq_ediv_of_nonneg (by omega)]; omega
  have hr : (c.toNat : Int).tmod 16 = ((c.toNat % 16 : Nat) : Int) := by rw [Int.tmod_eq_emod_of_nonneg (by omega)]; omega
  have w1 : IntKind.u8.wrap ((c.toNat / 16 : Nat) : Int) = ((c.toNat / 16 : Nat) : Int) := wr_u8 (by omega) (by omega)
  have w2 : IntKind.u8.wrap (((c.toNat / 16 : Nat) : Int) + 1) = ((c.toNat / 16 + 1 : Nat) : Int) := by rw [wr_u8 (by omega) (by omega)]; omega
  have w3 : IntKind.u8.wrap (((c.toNat % 16 : Nat) : Int) + 1) = ((c.toNat % 16 + 1 : Nat) : Int) := by rw [wr_u8 (by omega) (by omega)]; omega
  have t1 := hexd_take (n := c.toNat / 16) (by omega) rfl
  have t2 := hexd_take (n := c.toNat % 16) (by omega) rfl
  obtain ⟨x, rfl, h⟩ := p41 H.f41 (c0 := (c.toNat : Int)) (K := fun x => x = chr c) (by
    unfold T41_0
    simp only [hq, hr, w1, w2, w3, toNat_cast, t1, t2, List.length_cons, List.length_nil, maxStr_eq, List.length_append]
    refine ⟨fun h => ⟨c, rfl, ?_⟩, fun h => ⟨fun h2 => ⟨c, rfl, ?_⟩, fun h2 => ⟨fun h3 => ?_, fun h3 => ⟨fun h4 => ⟨fun h5 => ⟨c, rfl, ?_⟩, fun h5 => ?_⟩, fun h4 => ?_⟩⟩⟩⟩
    · unfold chr; rw [if_pos (by omega)]
    · unfold chr; rw [if_pos (by omega)]
    · unfold chr; rw [if_neg (by omega), if_pos (by omega)]
    · unfold chr; rw [if_neg (by omega), if_neg (by omega), if_neg (by omega)]
    · refine ⟨by omega, by omega, by omega, by omega, by omega, by omega, by omega, by omega, ?_⟩
      unfold chr; rw [if_neg (by omega), if_neg (by omega), if_pos (by omega)]
      rfl
    · refine ⟨by omega, by omega, by omega, by omega, by omega, by omega, by omega, by omega, ?_⟩
      unfold chr; rw [if_neg (by omega), if_neg (by omega), if_pos (by omega)]
      rfl)
  exact h
theorem c31 {s : Bytes} (hs : s.length ≤ 10000000) : Pus prog 31 [.s s] (.s (quo s)) := by
  obtain ⟨x, rfl, h⟩ := p31 H.f31 (s0 := s) (K := fun x => x = quo s) (by
    unfold T31_0
    intro P hP
    refine loop_up (fun i => 34 :: chrs (s.take i)) s.length ?_ ?_
    · apply hP
      unfold T31_1 T31_2
      refine ⟨fun h => absurd h (by omega), fun _ => ⟨?_, ?_⟩⟩
      · have := chrs_len (s.take s.length)
        simp only [List.take_length] at this ⊢
        simp only [List.length_cons, List.length_nil, maxStr_eq]
        omega
      · simp only [List.take_length, quo]
        rfl
    · intro i hi ih
      apply hP
      unfold T31_1
      refine ⟨fun _ => ⟨by omega, s[i], by rw [toNat_cast, List.getElem?_eq_getElem hi], chr s[i], c41 H _, ?_, ?_⟩, fun h => absurd (show (i : Int) < s.length by omega) h⟩
      · have h1 := chrs_len (s.take i)
        have h2 := chr_len s[i]
        simp only [List.length_cons, List.length_take, maxStr_eq] at h1 ⊢
        omega
      · rw [wr_succ (by omega)]
        rw [chrs_take hi] at ih
        exact ih)
  exact h
theorem c30 {s b : Bytes} (hs : s.length ≤ 10000000) (hb : b.length ≤ 1000000000) : PuA prog 30 (b.map row8) [.s s] ((b ++ quo s).map row8) := by
  refine PuAK.to ?_
  have hp := p30 H.f30 (b0 := b) (s1 := s) (K := fun x => x = b ++ quo s) (by
    unfold T30_0 T30_1
    refine ⟨⟨by simp only [List.length_cons, List.length_nil, maxBytes_eq]; omega, by simp only [List.length_cons, List.length_nil, maxBytes_eq]; omega⟩, fun P hP => ?_⟩
    refine loop_up (fun i => b ++ 34 :: chrs (s.take i)) s.length ?_ ?_
    · apply hP
      unfold T30_2 T30_4
      have h1 := chrs_len (s.take s.length)
      simp only [List.take_length] at h1 ⊢
      refine ⟨fun h => absurd h (by omega), fun _ => ⟨⟨?_, ?_⟩, ?_⟩⟩
      · simp only [List.length_append, List.length_cons, List.length_nil, maxBytes_eq]; omega
      · simp only [List.length_append, List.length_cons, List.length_nil, maxBytes_eq]; omega
      · simp only [quo, List.append_assoc, List.cons_append]
    · intro i hi ih
      apply hP
      have h1 := chrs_len (s.take i)
      have hc := s[i].toNat_lt
      rw [chrs_take hi] at ih
      rw [← List.cons_append, ← List.append_assoc] at ih
      generalize hx : s[i] = c at ih hc
      have w1 : bShr .u8 (c.toNat : Int) 4 = ((c.toNat / 16 : Nat) : Int) := by
        show (c.toNat : Int).fdiv 16 = _
        rw [Int.fdiv_eq_ediv_of_nonneg _ (by omega)]; omega
      have w2 : bAnd .u8 (c.toNat : Int) 15 = ((c.toNat % 16 : Nat) : Int) := by
        unfold bAnd
        have hx : (BitVec.ofInt IntKind.u8.bits (c.toNat : Int) &&& BitVec.ofInt IntKind.u8.bits 15).toNat = c.toNat % 16 := by
          show (BitVec.ofInt 8 (c.toNat : Int) &&& BitVec.ofInt 8 15).toNat = c.toNat % 16
          rw [BitVec.toNat_and]
          have h1 : (BitVec.ofInt 8 (c.toNat : Int)).toNat = c.toNat := by
            simp
          rw [h1]
          exact Nat.and_two_pow_sub_one_eq_mod c.toNat 4
        rw [hx]
        exact wr_u8 (by omega) (by omega)
      have fit : ∀ x : Bytes, x.length ≤ 4 → Fit ((b ++ 34 :: chrs (s.take i)).length + x.length) 1 := by
        intro x hx
        simp only [List.length_take] at h1
        refine ⟨?_, ?_⟩ <;> (simp only [List.length_append, List.length_cons, maxBytes_eq]; omega)
      unfold T30_2 T30_3
      rw [wr_succ (by omega)]
      refine ⟨fun _ => ⟨by omega, c, by rw [toNat_cast, List.getElem?_eq_getElem hi, hx], ?_⟩, fun h => absurd (show (i : Int) < s.length by omega) h⟩
      simp only [w1, w2, toNat_cast, hexd_get (show c.toNat / 16 < 16 by omega), hexd_get (show c.toNat % 16 < 16 by omega), Option.some.injEq, exists_eq_left']
      unfold chr at ih
      refine ⟨fun h2 => ⟨fit _ (by simp), ?_⟩, fun h2 => ⟨fun h3 => ⟨fit _ (by simp), ?_⟩, fun h3 => ⟨fun h4 => ⟨fit _ (by simp), ?_⟩, fun h4 => ⟨fun h5 => ⟨by omega, by omega, fit _ (by simp), ?_⟩, fun h5 => ⟨fun h6 => ⟨by omega, by omega, fit _ (by simp), ?_⟩, fun h6 => ⟨fit _ (by simp), ?_⟩⟩⟩⟩⟩⟩
      · rwa [if_pos (by omega)] at ih
      · rwa [if_pos (by omega)] at ih
      · rwa [if_neg (by omega), if_pos (by omega)] at ih
      · rwa [if_neg (by omega), if_neg (by omega), if_pos (by omega)] at ih
      · rwa [if_neg (by omega), if_neg (by omega), if_pos (by omega)] at ih
      · rwa [if_neg (by omega), if_neg (by omega), if_neg (by omega)] at ih)
  intro d st o ha
  obtain ⟨o', st', rows', ⟨x, rfl, rfl⟩, h1, h2⟩ := hp d st o ha
  exact ⟨o', st', _, rfl, h1, h2⟩
theorem c11 (s : Bytes) : Pus prog 11 [.s s] (.tup [.s (quoR s).1, .i .i64 (quoR s).2]) := by
  obtain ⟨x, y, ⟨rfl, rfl⟩, h⟩ := p11 H.f11 (s0 := s) (K := fun x y => x = (quoR s).1 ∧ y = (quoR s).2) (by
    unfold T11_0 quoR
    refine ⟨fun h => ?_, fun h => ⟨_, c30 H (b := []) (s := s) (by omega) (by simp), ?_⟩⟩
    · rw [if_pos (by omega)]; exact ⟨rfl, rfl⟩
    · rw [if_neg (by omega)]; exact ⟨rfl, rfl⟩)
  exact h
theorem c34 {n b : Nat} (hb : 2 ≤ b) (hb' : b ≤ 16) (hn : n < 18446744073709551616) : Pus prog 34 [.i .u64 (n : Int), .i .u64 (b : Int)] (.s (digs b n)) := by
  obtain ⟨x, rfl, h⟩ := p34 H.f34 (n0 := (n : Int)) (base1 := (b : Int)) (K := fun x => x = digs b n) (by
    unfold T34_0
    intro P hP
    have key : ∀ f n', n' < b ^ f → 0 < f → n' < 18446744073709551616 → ∀ a : Nat, f ≤ a → a ≤ 64 → ∀ m : Bytes, m.length = 64 → (ds b f n' ++ m.drop a = digs b n) → P (n' : Int) (a : Int) m := by
      intro f
      induction f with
      | zero => intro _ _ h; exact absurd h (Nat.lt_irrefl _)
      | succ f ih =>
        intro n' hf _ hn' a ha ha' m hm hd
        apply hP
        have e1 : (n' : Int).tmod (b : Int) = ((n' % b : Nat) : Int) := by rw [Int.tmod_eq_emod_of_nonneg (by omega)]; omega
        have e2 : (n' : Int).tdiv (b : Int) = ((n' / b : Nat) : Int) := by rw [Int.tdiv_eq_ediv_of_nonneg (by omega)]; omega
        have e3 : IntKind.i64.wrap ((a : Int) - 1) = ((a - 1 : Nat) : Int) := by rw [wr_i64 (by omega) (by omega)]; omega
        have hq : n' / b ≤ n' := Nat.div_le_self _ _
        have hr : n' % b < b := Nat.mod_lt _ (by omega)
        have e4 : IntKind.u64.wrap ((n' / b : Nat) : Int) = ((n' / b : Nat) : Int) := wr_u64_nat (by omega)
        have hset : ∀ c : UInt8, (m.set (a - 1) c).drop (a - 1) = c :: m.drop a := by
          intro c
          rw [List.drop_eq_getElem_cons (by simp; omega), List.getElem_set_self, List.drop_set_of_lt (by omega), show a - 1 + 1 = a by omega]
        unfold T34_1
        simp only [e1, e2, e3, e4, toNat_cast, hset]
        refine ⟨by omega, by omega, hexd (n' % b), hexd_get (by omega), by omega, by omega, by omega, by omega, fun h => ⟨by simp [hm], by omega, by omega, ?_⟩, fun h => ?_⟩
        · rw [← hd]
          unfold ds
          have hz : n' / b = 0 := by omega
          have hlt : n' < b := by
            rcases Nat.lt_or_ge n' b with h | h
            · exact h
            · have := Nat.div_pos h (by omega); omega
          rw [if_pos hlt, Nat.mod_eq_of_lt hlt]
          rfl
        · have hz : n' / b ≠ 0 := by omega
          have hlt : ¬ n' < b := fun h => hz (Nat.div_eq_of_lt h)
          have h1 : n' / b < b ^ f := by
            rw [Nat.div_lt_iff_lt_mul (by omega)]
            rw [Nat.pow_succ] at hf
            exact hf
          have h2 : 0 < f := by
            rcases Nat.eq_zero_or_pos f with rfl | h
            · simp at h1; omega
            · exact h
          refine ih (n' / b) h1 h2 (by omega) (a - 1) (by omega) (by omega) _ (by simp [hm]) ?_
          rw [hset, ← hd]
          conv => rhs; unfold ds
          rw [if_neg hlt, List.append_assoc]
          rfl
    refine key 64 n ?_ (by omega) hn 64 (by omega) (by omega) _ (by simp) ?_
    · calc n < 2 ^ 64 := hn
        _ ≤ b ^ 64 := Nat.pow_le_pow_left hb 64
    · simp [digs])
  exact h
theorem c35 {n b : Nat} (hb : 2 ≤ b) (hb' : b ≤ 16) (hn : n < 18446744073709551616) : Pus prog 35 [.i .u64 (n : Int), .i .u64 (b : Int)] (.s (digs b n)) := by
  obtain ⟨x, rfl, h⟩ := p35 H.f35 (n0 := (n : Int)) (base1 := (b : Int)) (K := fun x => x = digs b n) (by
    unfold T35_0
    intro P hP
    have key : ∀ f n', n' < b ^ f → 0 < f → n' < 18446744073709551616 → f ≤ 64 → ∀ s : Bytes, s.length + f ≤ 64 → (ds b f n' ++ s = digs b n) → P (n' : Int) s := by
      intro f
      induction f with
      | zero => intro _ _ h; exact absurd h (Nat.lt_irrefl _)
      | succ f ih =>
        intro n' hf _ hn' hf64 s hs hd
        apply hP
        have e1 : (n' : Int).tmod (b : Int) = ((n' % b : Nat) : Int) := by rw [Int.tmod_eq_emod_of_nonneg (by omega)]; omega
        have e2 : (n' : Int).tdiv (b : Int) = ((n' / b : Nat) : Int) := by rw [Int.tdiv_eq_ediv_of_nonneg (by omega)]; omega
        have hq : n' / b ≤ n' := Nat.div_le_self _ _
        have hr : n' % b < b := Nat.mod_lt _ (by omega)
        have e4 : IntKind.u64.wrap ((n' / b : Nat) : Int) = ((n' / b : Nat) : Int) := wr_u64_nat (by omega)
        have e5 : IntKind.u64.wrap (((n' % b : Nat) : Int) + 1) = ((n' % b + 1 : Nat) : Int) := by rw [wr_u64 (by omega) (by omega)]; omega
        unfold T35_1
        refine ⟨fun h => ?_, fun h => ?_⟩
        · simp only [e1, e2, e4, e5, toNat_cast, hexd_take (show n' % b < 16 by omega) rfl, DIG_len]
          have hlt : ¬ n' < b := by omega
          refine ⟨by omega, by omega, by omega, by omega, by omega, ?_, by omega, ?_⟩
          · simp only [List.length_cons, List.length_nil, maxStr_eq]; omega
          have hz : n' / b ≠ 0 := by
            have := Nat.div_pos (show b ≤ n' by omega) (by omega); omega
          have h1 : n' / b < b ^ f := by
            rw [Nat.div_lt_iff_lt_mul (by omega)]
            rw [Nat.pow_succ] at hf
            exact hf
          have h2 : 0 < f := by
            rcases Nat.eq_zero_or_pos f with rfl | h
            · simp at h1; omega
            · exact h
          refine ih (n' / b) h1 h2 (by omega) (by omega) _ ?_ ?_
          · simp only [List.length_append, List.length_cons, List.length_nil]; omega
          · rw [← hd]
            conv => rhs; unfold ds
            rw [if_neg hlt, List.append_assoc]
        · have hlt : n' < b := by omega
          have e6 : IntKind.u64.wrap ((n' : Int) + 1) = ((n' + 1 : Nat) : Int) := by rw [wr_u64 (by omega) (by omega)]; omega
          unfold T35_2
          simp only [e6, toNat_cast, hexd_take (show n' < 16 by omega) rfl, DIG_len]
          refine ⟨by omega, by omega, by omega, ?_, ?_⟩
          · simp only [List.length_cons, List.length_nil, maxStr_eq]; omega
          · rw [← hd]
            unfold ds
            rw [if_pos hlt]
    refine key 64 n ?_ (by omega) hn (by omega) _ (by simp) ?_
    · calc n < 2 ^ 64 := hn
        _ ≤ b ^ 64 := Nat.pow_le_pow_left hb 64
    · simp [digs])
  exact h
theorem c15 {n : Int} (h1 : -9223372036854775808 ≤ n) (h2 : n < 9223372036854775808) : Pus prog 15 [.i .i64 n] (.s (num n)) := by
  obtain ⟨x, rfl, h⟩ := p15 H.f15 (n0 := n) (K := fun x => x = num n) (by
    unfold T15_0
    refine ⟨fun h => ?_, fun h => ?_⟩
    · have e : IntKind.u64.wrap (0 - (IntKind.u64.wrap n)) = (((-n).toNat : Nat) : Int) := by rw [IntKind.wrap_u64, IntKind.wrap_u64]; omega
      rw [e]
      refine ⟨_, c34 H (b := 10) (by omega) (by omega) (by omega), ?_, ?_⟩
      · have := ds_len 10 64 (-n).toNat
        simp only [digs, List.length_cons, List.length_nil, maxStr_eq]; omega
      · unfold num; rw [if_pos h]; rfl
    · have e : IntKind.u64.wrap n = ((n.toNat : Nat) : Int) := by rw [IntKind.wrap_u64]; omega
      rw [e]
      refine ⟨_, c34 H (b := 10) (by omega) (by omega) (by omega), ?_⟩
      unfold num; rw [if_neg h])
  exact h
theorem c16 {n : Int} (h1 : -9223372036854775808 ≤ n) (h2 : n < 9223372036854775808) : Pus prog 16 [.i .i64 n] (.s (num n)) := by
  obtain ⟨x, rfl, h⟩ := p16 H.f16 (n0 := n) (K := fun x => x = num n) (by
    unfold T16_0
    refine ⟨fun h => ?_, fun h => ?_⟩
    · have e : IntKind.u64.wrap n = ((n.toNat : Nat) : Int) := by rw [IntKind.wrap_u64]; omega
      rw [e]
      refine ⟨_, c35 H (b := 10) (by omega) (by omega) (by omega), ?_⟩
      unfold num; rw [if_neg (by omega)]
    · have e : IntKind.u64.wrap ((IntKind.u64.wrap (IntKind.i64.wrap (0 - (IntKind.i64.wrap (n + 1))))) + 1) = (((-n).toNat : Nat) : Int) := by
        rw [wr_i64 (z := n + 1) (by omega) (by omega), wr_i64 (by omega) (by omega), wr_u64 (z := 0 - (n + 1)) (by omega) (by omega), wr_u64 (by omega) (by omega)]; omega
      rw [e]
      refine ⟨_, c35 H (b := 10) (by omega) (by omega) (by omega), ?_, ?_⟩
      · have := ds_len 10 64 (-n).toNat
        simp only [digs, List.length_cons, List.length_nil, maxStr_eq]; omega
      · unfold num; rw [if_pos (by omega)]; rfl)
  exact h
end
end Go.AM

/- Parts of the proof. -/
namespace Go.AM
open Go
def cutp (p s : Bytes) : Bytes × Bool := if s.take p.length = p then (s.drop p.length, true) else (s, false)
theorem idx_first (c : UInt8) : ∀ (l : Bytes) (i : Nat), (∀ j, j < i → l[j]? ≠ some c) → (l[i]? = some c → Lib.indexByte l c = i) ∧ (l.length ≤ i → Lib.indexByte l c = -1)
  | [], i, _ => ⟨fun h => (by simp at h), fun _ => rfl⟩
  | x :: l, i, h => by
    unfold Lib.indexByte
    cases i with
    | zero =>
      refine ⟨fun h1 => ?_, fun h1 => absurd h1 (by simp)⟩
      simp at h1
      rw [if_pos (by simp [h1])]
      rfl
    | succ i =>
      have hx : x ≠ c := by have := h 0 (by omega); simpa using this
      have ih := idx_first c l i fun j hj => by have := h (j + 1) (by omega); simpa using this
      rw [if_neg (by simpa using hx)]
      refine ⟨fun h1 => ?_, fun h1 => ?_⟩
      · have h2 := ih.1 (by simpa using h1)
        rw [h2]
        rw [if_neg (by simp)]
        rfl
      · have h2 := ih.2 (by simpa using h1)
        rw [h2]
        rfl
def EscK (s : Bytes) (c : Int) (r : Bytes) (ok : Bool) : Prop := match esc s with | some (x, y) => c = (x.toNat : Int) ∧ r = y ∧ ok = true | none => ok = false
theorem EscK.yes {s : Bytes} {x : UInt8} {y : Bytes} {c : Int} (h : esc s = some (x, y)) (hc : c = (x.toNat : Int)) : EscK s c y true := by
  unfold EscK; rw [h]; exact ⟨hc, rfl, rfl⟩
theorem EscK.no {s : Bytes} {c : Int} {y : Bytes} (h : esc s = none) : EscK s c y false := by
  unfold EscK; rw [h]
section
variable {prog : Prog} (H : Has03 prog)
include H
theorem c46 (s p : Bytes) : Pus prog 46 [.s s, .s p] (.b (decide (s.take p.length = p))) := by
  obtain ⟨x, rfl, h⟩ := p46 H.f46 (s0 := s) (prefix1 := p) (K := fun x => x = decide (s.take p.length = p)) (by
    unfold T46_0
    refine ⟨fun h => ⟨by omega, by omega, rfl⟩, fun h => ?_⟩
    refine (decide_eq_false fun h1 => ?_).symm
    have := congrArg List.length h1
    simp only [List.length_take] at this
    omega)
  exact h
theorem c42 (s p : Bytes) : Pus prog 42 [.s s, .s p] (.tup [.s (cutp p s).1, .b (cutp p s).2]) := by
  obtain ⟨x, y, ⟨rfl, rfl⟩, h⟩ := p42 H.f42 (s0 := s) (prefix1 := p) (K := fun x y => x = (cutp p s).1 ∧ y = (cutp p s).2) (by
    unfold T42_0 cutp
    refine ⟨_, c46 H s p, fun h => ?_, fun h => ?_⟩
    · have h1 : ¬ s.take p.length = p := by simpa using h
      rw [if_neg h1]; exact ⟨rfl, rfl⟩
    · have h1 : s.take p.length = p := by simpa using h
      have h2 := congrArg List.length h1
      simp only [List.length_take] at h2
      rw [if_pos h1]; exact ⟨by omega, by omega, rfl, rfl⟩)
  exact h
theorem c36 (s p : Bytes) : Pus prog 36 [.s s, .s p] (.tup [.s (cutp p s).1, .b (cutp p s).2]) := by
  obtain ⟨x, y, ⟨rfl, rfl⟩, h⟩ := p36 H.f36 (s0 := s) (prefix1 := p) (K := fun x y => x = (cutp p s).1 ∧ y = (cutp p s).2) (by
    unfold T36_0
    exact ⟨_, _, c42 H s p, rfl, rfl⟩)
  exact h
theorem c47 (s : Bytes) (c : UInt8) : Pus prog 47 [.s s, .i .u8 (c.toNat : Int)] (.i .i64 (Lib.indexByte s c)) := by
  obtain ⟨x, rfl, h⟩ := p47 H.f47 (s0 := s) (c1 := (c.toNat : Int)) (K := fun x => x = Lib.indexByte s c) (by
    unfold T47_0
    exact ⟨_, Pus.orac H.f48 (H.o48 s c) rfl, rfl⟩)
  exact h
theorem c43 (s : Bytes) (c : UInt8) : Pus prog 43 [.s s, .i .u8 (c.toNat : Int)] (.i .i64 (Lib.indexByte s c)) := by
  obtain ⟨x, rfl, h⟩ := p43 H.f43 (s0 := s) (c1 := (c.toNat : Int)) (K := fun x => x = Lib.indexByte s c) (by
    unfold T43_0
    exact ⟨_, c47 H s c, rfl⟩)
  exact h
theorem c44 {b : Nat} (hb : b ≤ 16) (c : UInt8) : Pus prog 44 [.i .u8 (c.toNat : Int), .i .i64 (b : Int)] (.i .i64 (dv b c)) := by
  obtain ⟨x, rfl, h⟩ := p44 H.f44 (c0 := (c.toNat : Int)) (base1 := (b : Int)) (K := fun x => x = dv b c) (by
    unfold T44_0
    intro P hP
    have key : ∀ m i : Nat, i + m = b → (∀ j, j < i → (DIG.take b)[j]? ≠ some c) → P (i : Int) := by
      intro m
      induction m with
      | zero =>
        intro i hi hj
        apply hP
        unfold T44_1 T44_2
        refine ⟨fun h => absurd h (by omega), fun _ => ?_⟩
        exact ((idx_first c _ i hj).2 (by simp; omega)).symm
      | succ m ih =>
        intro i hi hj
        apply hP
        unfold T44_1
        refine ⟨fun _ => ⟨by omega, hexd i, by rw [toNat_cast, hexd_get (by omega)], fun h => ?_, fun h => ?_⟩, fun h => absurd h (by omega)⟩
        · have hc : hexd i = c := u8_eq (by omega)
          refine ((idx_first c _ i hj).1 ?_).symm
          rw [List.getElem?_take_of_lt (by omega), hexd_get (by omega), hc]
        · rw [wr_succ (by omega)]
          refine ih (i + 1) (by omega) fun j hj' => ?_
          rcases Nat.lt_or_ge j i with h1 | h1
          · exact hj j h1
          · have : j = i := by omega
            subst this
            rw [List.getElem?_take_of_lt (by omega), hexd_get (by omega)]
            intro h2
            injection h2 with h2
            exact h (by rw [h2])
    exact key b 0 (by omega) (by simp))
  exact h
theorem c37 {b most : Nat} (hb : 2 ≤ b) (hb' : b ≤ 16) (hm : 16 ≤ most) (hm' : most < 18446744073709551616) {s : Bytes} (hs : s.length ≤ 10000000) : Pus prog 37 [.s s, .i .u64 (b : Int), .i .u64 (most : Int)] (.tup [.i .u64 ((rd b most s).1 : Int), .i .i64 (rd b most s).2]) := by
  obtain ⟨x, y, ⟨rfl, rfl⟩, h⟩ := p37 H.f37 (s0 := s) (base1 := (b : Int)) (most2 := (most : Int)) (K := fun x y => x = ((rd b most s).1 : Int) ∧ y = (rd b most s).2) (by
    unfold T37_0 T37_1 T37_2
    intro P hP
    have key : ∀ m i : Nat, i + m = s.length → okd b (s.take i) = true → (2 ≤ i → s.head? ≠ some 48) → ∀ (n : Nat) (far : Bool), (far = false → n = vals b (s.take i) ∧ n ≤ most) → (far = true → most < vals b (s.take i)) → P (n : Int) far (i : Int) := by
      intro m
      induction m with
      | zero =>
        intro i hi ho h48 n far h0 h1
        simp only [Nat.add_zero] at hi
        subst hi
        rw [List.take_length] at ho h0 h1
        apply hP
        unfold T37_3 T37_5
        refine ⟨fun h => absurd h (by omega), fun _ => ⟨fun h => ?_, fun h => ?_⟩⟩
        · subst h; exact ⟨rfl, rfl⟩
        · have hbad : badn b s = false := by
            unfold badn
            rw [decide_eq_false h, ho]
            simp only [Bool.false_or, Bool.not_true]
            by_cases h2 : 1 < s.length
            · rw [decide_eq_false (h48 h2), Bool.and_false]
            · rw [decide_eq_false h2, Bool.false_and]
          refine ⟨fun hf => ?_, fun hf => ?_⟩
          · unfold rd
            rw [if_neg (by rw [hbad]; decide), if_pos (h1 hf)]
            exact ⟨rfl, rfl⟩
          · obtain ⟨h2, h3⟩ := h0 hf
            unfold rd
            rw [if_neg (by rw [hbad]; decide), if_neg (by omega), h2]
            exact ⟨rfl, rfl⟩
      | succ m ih =>
        intro i hi ho h48 n far h0 h1
        have hil : i < s.length := by omega
        have hd := dv_lt hb' s[i]
        have hv := vals_take (b := b) hil
        have hk := okd_take (b := b) hil
        have bad12 : badn b s = true → (0 : Int) = ((rd b most s).1 : Int) ∧ (12 : Int) = (rd b most s).2 := by
          intro h
          unfold rd
          rw [if_pos h]
          exact ⟨rfl, rfl⟩
        apply hP
        unfold T37_3 T37_4
        refine ⟨fun _ => ⟨by omega, by rw [toNat_cast]; exact hb', by omega, s[i], by rw [toNat_cast, List.getElem?_eq_getElem hil], dv b s[i], c43 H _ _, fun h => ?_, fun h => ?_⟩, fun h => absurd h (by omega)⟩
        · refine bad12 ?_
          unfold badn
          rw [okd_of hil h]
          simp
        · have hd0 : 0 ≤ dv b s[i] := by omega
          rw [ho, decide_eq_true hd0, Bool.and_true] at hk
          generalize hdd : (dv b s[i]).toNat = d at hv
          have hdi : dv b s[i] = (d : Int) := by omega
          have e1 : IntKind.u64.wrap (dv b s[i]) = (d : Int) := by rw [hdi]; exact wr_u64_nat (by omega)
          have e2 : IntKind.u64.wrap ((most : Int) - (d : Int)) = ((most - d : Nat) : Int) := by rw [wr_u64 (by omega) (by omega)]; omega
          have e3 : (((most - d : Nat) : Int)).tdiv (b : Int) = (((most - d) / b : Nat) : Int) := by rw [Int.tdiv_eq_ediv_of_nonneg (by omega)]; omega
          have hq : (most - d) / b ≤ most - d := Nat.div_le_self _ _
          have e4 : IntKind.u64.wrap (((most - d) / b : Nat) : Int) = (((most - d) / b : Nat) : Int) := wr_u64_nat (by omega)
          have hfi := far_iff (n := n) (show 0 < b by omega) (show d ≤ most by omega)
          rw [wr_succ (by omega)]
          simp only [e1, e2, e3, e4]
          have go : (2 ≤ i + 1 → s.head? ≠ some 48) → (far = true → P (n : Int) true ((i + 1 : Nat) : Int)) ∧ (far = false → (b : Int) ≠ 0 ∧ (¬((n : Int) > (((most - d) / b : Nat) : Int)) → P (IntKind.u64.wrap ((IntKind.u64.wrap ((n : Int) * (b : Int))) + (d : Int))) (decide ((n : Int) > (((most - d) / b : Nat) : Int))) ((i + 1 : Nat) : Int)) ∧ (¬(¬((n : Int) > (((most - d) / b : Nat) : Int))) → P (n : Int) (decide ((n : Int) > (((most - d) / b : Nat) : Int))) ((i + 1 : Nat) : Int))) := by
            intro h2
            refine ⟨fun hf => ?_, fun hf => ⟨by omega, fun h3 => ?_, fun h3 => ?_⟩⟩
            · refine ih (i + 1) (by omega) hk h2 n true (fun h => by cases h) fun _ => ?_
              rw [hv]
              have h4 := h1 hf
              have : vals b (s.take i) ≤ vals b (s.take i) * b := Nat.le_mul_of_pos_right _ (by omega)
              omega
            · obtain ⟨h4, h5⟩ := h0 hf
              have h6 : n * b + d ≤ most := by
                have : ¬ (most - d) / b < n := by omega
                rw [hfi] at this
                omega
              have hnb : (n : Int) * (b : Int) = ((n * b : Nat) : Int) := by rw [Int.natCast_mul]
              have e5 : IntKind.u64.wrap ((n : Int) * (b : Int)) = ((n * b : Nat) : Int) := by rw [hnb]; exact wr_u64_nat (by omega)
              have e6 : IntKind.u64.wrap (((n * b : Nat) : Int) + (d : Int)) = ((n * b + d : Nat) : Int) := by rw [wr_u64 (by omega) (by omega)]; omega
              rw [e5, e6, decide_eq_false h3]
              refine ih (i + 1) (by omega) hk h2 _ false (fun _ => ⟨?_, h6⟩) fun h => by cases h
              rw [hv, h4]
            · have h3' : (n : Int) > (((most - d) / b : Nat) : Int) := by omega
              obtain ⟨h4, h5⟩ := h0 hf
              rw [decide_eq_true h3']
              refine ih (i + 1) (by omega) hk h2 n true (fun h => by cases h) fun _ => ?_
              rw [hv, ← h4]
              exact hfi.1 (Int.ofNat_lt.1 h3')
          have hd0 : s.head? = s[0]? := List.head?_eq_getElem?
          refine ⟨fun hi1 => ?_, fun hi1 => ?_⟩
          · have h0s : s[0]? = some s[0] := List.getElem?_eq_getElem (by omega)
            refine ⟨s[0], h0s, fun h2 => ?_, fun h2 => ?_⟩
            · refine bad12 ?_
              have h3 : s[0] = 48 := u8_eq (by have e : (48 : UInt8).toNat = 48 := rfl; omega)
              unfold badn
              rw [decide_eq_true (show 1 < s.length by omega), decide_eq_true (show s.head? = some 48 by rw [hd0, h0s, h3])]
              simp
            · refine go fun _ => ?_
              rw [hd0, h0s]
              intro h3
              injection h3 with h3
              exact h2 (by rw [h3]; rfl)
          · refine go fun h2 => ?_
            have h3 : i ≠ 1 := by omega
            have h4 : i ≠ 0 := by omega
            exact h48 (by omega)
    exact key s.length 0 (by omega) rfl (by omega) 0 false (fun _ => ⟨rfl, by omega⟩) fun h => by cases h)
  exact h
theorem c38 {b most : Nat} (hb : 2 ≤ b) (hb' : b ≤ 16) (hm : 16 ≤ most) (hm' : most < 18446744073709551616) {s : Bytes} (hs : s.length ≤ 10000000) : Pus prog 38 [.s s, .i .u64 (b : Int), .i .u64 (most : Int)] (.tup [.i .u64 ((rd b most s).1 : Int), .i .i64 (rd b most s).2]) := by
  obtain ⟨x, y, ⟨rfl, rfl⟩, h⟩ := p38 H.f38 (s0 := s) (base1 := (b : Int)) (most2 := (most : Int)) (K := fun x y => x = ((rd b most s).1 : Int) ∧ y = (rd b most s).2) (by
    have wb : IntKind.i64.wrap (b : Int) = (b : Int) := wr_i64 (by omega) (by omega)
    have bad12 : badn b s = true → (0 : Int) = ((rd b most s).1 : Int) ∧ (12 : Int) = (rd b most s).2 := by
      intro h
      unfold rd
      rw [if_pos h]
      exact ⟨rfl, rfl⟩
    have hd0 : s.head? = s[0]? := List.head?_eq_getElem?
    have loop : s ≠ [] → (1 < s.length → s.head? ≠ some 48) → ∀ P0 : Int → Prop, (∀ (i8 : Int), T38_2 prog (fun x y => x = ((rd b most s).1 : Int) ∧ y = (rd b most s).2) P0 s (b : Int) (most : Int) i8 → P0 i8) → P0 0 := by
      intro hne h48 P hP
      have key : ∀ m i : Nat, i + m = s.length → okd b (s.take i) = true → P (i : Int) := by
        intro m
        induction m with
        | zero =>
          intro i hi ho
          simp only [Nat.add_zero] at hi
          subst hi
          rw [List.take_length] at ho
          have hbad : badn b s = false := by
            unfold badn
            rw [decide_eq_false hne, ho]
            simp only [Bool.false_or, Bool.not_true]
            by_cases h2 : 1 < s.length
            · rw [decide_eq_false (h48 h2), Bool.and_false]
            · rw [decide_eq_false h2, Bool.false_and]
          apply hP
          unfold T38_2 T38_3
          refine ⟨fun h => absurd h (by omega), fun _ P1 hP1 => ?_⟩
          have hall : ∀ (j : Nat) (hj : j < s.length), 0 ≤ dv b s[j] := by
            intro j hj
            unfold okd at ho
            rw [List.all_eq_true] at ho
            simpa using ho s[j] (List.getElem_mem hj)
          have key2 : ∀ m i : Nat, i + m = s.length → vals b (s.take i) ≤ most → P1 (vals b (s.take i) : Int) (i : Int) := by
            intro m
            induction m with
            | zero =>
              intro i hi hv
              simp only [Nat.add_zero] at hi
              subst hi
              apply hP1
              unfold T38_4 T38_5
              refine ⟨fun h => absurd h (by omega), fun _ => ?_⟩
              rw [List.take_length] at hv ⊢
              unfold rd
              rw [if_neg (by rw [hbad]; decide), if_neg (by omega)]
              exact ⟨rfl, rfl⟩
            | succ m ih =>
              intro i hi hv
              have hil : i < s.length := by omega
              have hd := dv_lt hb' s[i]
              have hn0 := hall i hil
              have hvt := vals_take (b := b) hil
              generalize hdd : (dv b s[i]).toNat = d at hvt
              have hdi : dv b s[i] = (d : Int) := by omega
              have e1 : IntKind.u64.wrap (dv b s[i]) = (d : Int) := by rw [hdi]; exact wr_u64_nat (by omega)
              have e2 : IntKind.u64.wrap ((most : Int) - (d : Int)) = ((most - d : Nat) : Int) := by rw [wr_u64 (by omega) (by omega)]; omega
              have e3 : (((most - d : Nat) : Int)).tdiv (b : Int) = (((most - d) / b : Nat) : Int) := by rw [Int.tdiv_eq_ediv_of_nonneg (by omega)]; omega
              have hq : (most - d) / b ≤ most - d := Nat.div_le_self _ _
              have e4 : IntKind.u64.wrap (((most - d) / b : Nat) : Int) = (((most - d) / b : Nat) : Int) := wr_u64_nat (by omega)
              have hfi := far_iff (n := vals b (s.take i)) (show 0 < b by omega) (show d ≤ most by omega)
              apply hP1
              unfold T38_4
              rw [wb, wr_succ (by omega)]
              refine ⟨fun _ => ⟨by omega, s[i], by rw [toNat_cast, List.getElem?_eq_getElem hil], dv b s[i], c44 H hb' _, by omega, fun h => ?_, fun h => ?_⟩, fun h => absurd h (by omega)⟩
              · simp only [e1, e2, e3, e4] at h
                have h1 := hfi.1 (Int.ofNat_lt.1 h)
                have h2 : most < vals b s := by
                  have mono : ∀ k, i + 1 + k ≤ s.length → most < vals b (s.take (i + 1 + k)) := by
                    intro k
                    induction k with
                    | zero => intro _; rw [Nat.add_zero, hvt]; exact h1
                    | succ k ihk =>
                      intro hk
                      have := ihk (by omega)
                      rw [show i + 1 + (k + 1) = (i + 1 + k) + 1 by omega, vals_take (by omega)]
                      have h3 : vals b (s.take (i + 1 + k)) ≤ vals b (s.take (i + 1 + k)) * b := Nat.le_mul_of_pos_right _ (by omega)
                      omega
                  have := mono (s.length - (i + 1)) (by omega)
                  rwa [show i + 1 + (s.length - (i + 1)) = s.length by omega, List.take_length] at this
                unfold rd
                rw [if_neg (by rw [hbad]; decide), if_pos h2]
                exact ⟨rfl, rfl⟩
              · simp only [e1, e2, e3, e4] at h
                have h1 : ¬ (most - d) / b < vals b (s.take i) := fun h2 => h (Int.ofNat_lt.2 h2)
                rw [hfi] at h1
                generalize hnn : vals b (s.take i) = n at *
                have hnb : (n : Int) * (b : Int) = ((n * b : Nat) : Int) := by rw [Int.natCast_mul]
                have e5 : IntKind.u64.wrap ((n : Int) * (b : Int)) = ((n * b : Nat) : Int) := by rw [hnb]; exact wr_u64_nat (by omega)
                have e6 : IntKind.u64.wrap (((n * b : Nat) : Int) + (d : Int)) = ((n * b + d : Nat) : Int) := by rw [wr_u64 (by omega) (by omega)]; omega
                rw [e1, e5, e6]
                have := ih (i + 1) (by omega) (by rw [hvt]; omega)
                rwa [hvt] at this
          exact key2 s.length 0 (by omega) (Nat.zero_le _)
        | succ m ih =>
          intro i hi ho
          have hil : i < s.length := by omega
          have hd := dv_lt hb' s[i]
          have hk := okd_take (b := b) hil
          apply hP
          unfold T38_2
          rw [wb, wr_succ (by omega)]
          refine ⟨fun _ => ⟨by omega, s[i], by rw [toNat_cast, List.getElem?_eq_getElem hil], dv b s[i], c44 H hb' _, fun h => ?_, fun h => ?_⟩, fun h => absurd h (by omega)⟩
          · refine bad12 ?_
            unfold badn
            rw [okd_of hil h]
            simp
          · refine ih (i + 1) (by omega) ?_
            rw [hk, ho, decide_eq_true (by omega), Bool.and_true]
      exact key s.length 0 (by omega) rfl
    unfold T38_0 T38_1
    refine ⟨fun h => bad12 ?_, fun h => ?_⟩
    · have : s = [] := List.length_eq_zero_iff.1 (by omega)
      subst this
      rfl
    · have hpos : 0 < s.length := by omega
      have hne : s ≠ [] := fun h => by subst h; simp at hpos
      have h0s : s[0]? = some s[0] := List.getElem?_eq_getElem hpos
      refine ⟨s[0], h0s, fun h2 => ⟨fun h3 => bad12 ?_, fun h3 => loop hne fun h4 => absurd h4 (by omega)⟩, fun h2 => loop hne fun h4 => ?_⟩
      · have h4 : s[0] = 48 := u8_eq (by have e : (48 : UInt8).toNat = 48 := rfl; omega)
        unfold badn
        rw [decide_eq_true (show 1 < s.length by omega), decide_eq_true (show s.head? = some 48 by rw [hd0, h0s, h4])]
        simp
      · rw [hd0, h0s]
        intro h5
        injection h5 with h5
        exact h2 (by rw [h5]; rfl))
  exact h
theorem c21 (s : Bytes) : Pus prog 21 [.s s] (.tup [.i .i64 (unnum s).1, .i .i64 (unnum s).2]) := by
  obtain ⟨x, y, ⟨rfl, rfl⟩, h⟩ := p21 H.f21 (s0 := s) (K := fun x y => x = (unnum s).1 ∧ y = (unnum s).2) (by
    unfold T21_0 T21_1
    refine ⟨fun h => by unfold unnum; rw [if_pos (by omega)]; exact ⟨rfl, rfl⟩, fun hs => ⟨_, _, c36 H s [45], ?_⟩⟩
    unfold unnum
    rw [if_neg (by omega)]
    by_cases hm : s.take 1 = [45]
    · have ec : cutp [45] s = (s.drop 1, true) := by unfold cutp; rw [if_pos (by exact hm)]; rfl
      rw [ec, if_pos hm]
      refine ⟨fun h => by simp at h, fun _ => ?_⟩
      have hl := rd_le 10 9223372036854775808 (s.drop 1)
      refine ⟨_, _, c37 H (b := 10) (most := 9223372036854775808) (by omega) (by omega) (by omega) (by omega) (s := s.drop 1) (by simp; omega), fun h => ⟨fun h0 => ?_, fun h0 => ?_⟩, fun h => ?_⟩
      · have e : (rd 10 9223372036854775808 (s.drop 1)).1 = 0 := by omega
        rw [if_pos ⟨h, e⟩, e]
        exact ⟨rfl, rfl⟩
      · rw [if_neg (fun hh => h0 (by rw [hh.2]; rfl))]
        refine ⟨?_, rfl⟩
        rw [IntKind.wrap_u64, IntKind.wrap_i64]
        simp only
        omega
      · have e := rd_err h
        rw [if_neg (fun hh => h hh.1), e]
        exact ⟨rfl, rfl⟩
    · have ec : cutp [45] s = (s, false) := by unfold cutp; rw [if_neg (by exact hm)]
      rw [ec, if_neg hm]
      refine ⟨fun _ => ?_, fun h => by simp at h⟩
      have hl := rd_le 10 9223372036854775807 s
      exact ⟨_, _, c37 H (b := 10) (most := 9223372036854775807) (by omega) (by omega) (by omega) (by omega) (s := s) (by omega), wr_i64 (by omega) (by omega), rfl⟩)
  exact h
theorem c22 (s : Bytes) : Pus prog 22 [.s s] (.tup [.i .i64 (unnum s).1, .i .i64 (unnum s).2]) := by
  obtain ⟨x, y, ⟨rfl, rfl⟩, h⟩ := p22 H.f22 (s0 := s) (K := fun x y => x = (unnum s).1 ∧ y = (unnum s).2) (by
    have plain : ¬ 2000 < s.length → ¬ s.take 1 = [45] → ∃ r'12 : Int, ∃ r'13 : Int, Pus prog 38 [.s s, .i .u64 10, .i .u64 9223372036854775807] (.tup [.i .u64 r'12, .i .i64 r'13]) ∧ (r'13 ≠ 0 → 0 = (unnum s).1 ∧ r'13 = (unnum s).2) ∧ (¬(r'13 ≠ 0) → IntKind.i64.wrap r'12 = (unnum s).1 ∧ 0 = (unnum s).2) := by
      intro hs hm
      have hl := rd_le 10 9223372036854775807 s
      refine ⟨_, _, c38 H (b := 10) (most := 9223372036854775807) (by omega) (by omega) (by omega) (by omega) (s := s) (by omega), fun h => ?_, fun h => ?_⟩
      · have e := rd_err h
        unfold unnum
        rw [if_neg hs, if_neg hm, e]
        exact ⟨rfl, rfl⟩
      · have e : (rd 10 9223372036854775807 s).2 = 0 := by omega
        unfold unnum
        rw [if_neg hs, if_neg hm, e]
        exact ⟨wr_i64 (by omega) (by omega), rfl⟩
    unfold T22_0
    refine ⟨fun h => by unfold unnum; rw [if_pos (by omega)]; exact ⟨rfl, rfl⟩, fun hs => ⟨fun hpos => ?_, fun hpos => plain (by omega) fun h => ?_⟩⟩
    · have h0 : 0 < s.length := by omega
      have ht : s.take 1 = [s[0]] := by
        match s, h0 with
        | c :: r, _ => rfl
      refine ⟨s[0], List.getElem?_eq_getElem h0, fun hm => ?_, fun hm => plain (by omega) fun h => ?_⟩
      · have hm' : s.take 1 = [45] := by rw [ht, u8_eq (show s[0].toNat = (45 : UInt8).toNat by have e : (45 : UInt8).toNat = 45 := rfl; omega)]
        have hl := rd_le 10 9223372036854775808 (s.drop 1)
        refine ⟨fun h => ?_, fun h => ⟨by omega, _, _, c38 H (b := 10) (most := 9223372036854775808) (by omega) (by omega) (by omega) (by omega) (s := s.drop 1) (by simp; omega), fun h1 => ?_, fun h1 => ?_⟩⟩
        · rw [h]
          decide
        · have e := rd_err h1
          unfold unnum
          rw [if_neg (by omega), if_pos hm', if_neg (fun hh => h1 hh.1), e]
          exact ⟨rfl, rfl⟩
        · have e : (rd 10 9223372036854775808 (s.drop 1)).2 = 0 := by omega
          have hn : (rd 10 9223372036854775808 (s.drop 1)).1 ≠ 0 := by
            intro h2
            have h3 := rd_zero (by omega) e h2
            have h4 := List.take_append_drop 1 s
            rw [hm', h3] at h4
            exact h h4.symm
          unfold unnum
          rw [if_neg (by omega), if_pos hm', if_neg (fun hh => hn hh.2), e]
          refine ⟨?_, rfl⟩
          simp only
          rw [IntKind.wrap_i64, IntKind.wrap_i64, IntKind.wrap_i64, IntKind.wrap_u64]
          omega
      · rw [ht] at h
        injection h with h
        exact hm (by rw [h]; rfl)
    · have := congrArg List.length h
      simp only [List.length_take, List.length_cons, List.length_nil] at this
      omega)
  exact h
theorem c45 (s : Bytes) : ∃ c r ok, EscK s c r ok ∧ Pus prog 45 [.s s] (.tup [.i .u8 c, .s r, .b ok]) := by
  refine p45 H.f45 (s0 := s) (K := EscK s) ?_
  unfold T45_0 T45_1
  refine ⟨fun h => by subst h; exact EscK.no rfl, fun h => ?_⟩
  cases s with
  | nil => exact absurd rfl h
  | cons c r =>
    have lit : ∀ {n : Nat} (_ : n < 256), (UInt8.ofNat n).toNat = n := by intro n hn; simp; omega
    unfold T45_2
    refine ⟨c, rfl, ?_⟩
    have t4 : T45_4 prog (EscK (c :: r)) (c :: r) (c.toNat : Int) (decide (c.toNat = 34 ∨ c.toNat = 92)) := by
      unfold T45_4
      refine ⟨fun h1 => ⟨c, rfl, by simp, ?_⟩, fun h1 => ?_⟩
      · have h1 := of_decide_eq_true h1
        exact EscK.yes (show (if c.toNat = 34 ∨ c.toNat = 92 then some (c, r) else _) = some (c, r) from if_pos h1) rfl
      · have h1 := of_decide_eq_false h1
        have e0 : esc (c :: r) = if c.toNat = 110 then some (10, r) else if c.toNat = 120 then esx r else none := by
          show (if c.toNat = 34 ∨ c.toNat = 92 then some (c, r) else if c.toNat = 110 then some (10, r) else if c.toNat = 120 then esx r else none) = _
          rw [if_neg h1]
        refine ⟨fun h2 => ⟨by simp, ?_⟩, fun h2 => ⟨fun h3 => ?_, fun h3 => ?_⟩⟩
        · exact EscK.yes (by rw [e0, if_pos (by omega)]; rfl) rfl
        · have e : esc (c :: r) = esx r := by rw [e0, if_neg (by omega), if_pos (by omega)]
          refine ⟨fun h4 => ?_, fun h4 => ?_⟩
          · refine EscK.no ?_
            rw [e]
            match r, h4 with
            | [], _ => rfl
            | [a], _ => rfl
            | a :: b :: r', h4 => simp at h4; omega
          · match r, h4, e with
            | [], h4, _ => exact absurd (by simp) h4
            | [a], h4, _ => exact absurd (by simp) h4
            | a :: b :: r', _, e =>
              have la := dv_lt (b := 16) (by omega) a
              have lb := dv_lt (b := 16) (by omega) b
              have ca : Pus prog 43 [.s DIG, .i .u8 (a.toNat : Int)] (.i .i64 (dv 16 a)) := c43 H DIG a
              have cb : Pus prog 43 [.s DIG, .i .u8 (b.toNat : Int)] (.i .i64 (dv 16 b)) := c43 H DIG b
              refine ⟨a, rfl, _, ca, b, rfl, _, cb, by simp, ?_⟩
              simp only [esx] at e
              by_cases hv : 0 ≤ dv 16 a ∧ 0 ≤ dv 16 b
              · have hw : IntKind.u8.wrap (IntKind.i64.wrap ((IntKind.i64.wrap (16 * dv 16 a)) + dv 16 b)) = 16 * dv 16 a + dv 16 b := by
                  rw [wr_i64 (z := 16 * dv 16 a) (by omega) (by omega), wr_i64 (by omega) (by omega), wr_u8 (by omega) (by omega)]
                have en := lit (n := (16 * dv 16 a + dv 16 b).toNat) (by omega)
                rw [hw]
                refine ⟨fun _ => ⟨fun _ => ⟨fun h5 => ⟨fun h6 => ?_, fun h6 => ?_⟩, fun h5 => ?_⟩, fun h5 => absurd hv.2 h5⟩, fun h5 => absurd hv.1 h5⟩
                · rw [if_pos ⟨hv.1, hv.2, by omega, by omega⟩] at e
                  exact EscK.yes e (by rw [en]; omega)
                · by_cases h7 : 126 < 16 * dv 16 a + dv 16 b
                  · rw [if_pos ⟨hv.1, hv.2, by omega, by omega⟩] at e
                    rw [decide_eq_true h7]
                    exact EscK.yes e (by rw [en]; omega)
                  · rw [if_neg (by omega)] at e
                    rw [decide_eq_false h7]
                    exact EscK.no e
                · rw [if_neg (by omega)] at e
                  exact EscK.no e
              · rw [if_neg (by omega)] at e
                exact ⟨fun h5 => ⟨fun h6 => absurd ⟨h5, h6⟩ hv, fun _ => EscK.no e⟩, fun _ => EscK.no e⟩
        · exact EscK.no (by rw [e0, if_neg (by omega), if_neg (by omega)])
    unfold T45_3
    refine ⟨fun h1 => ?_, fun h1 => ?_⟩
    · rw [show decide ((c.toNat : Int) = 34) = decide (c.toNat = 34 ∨ c.toNat = 92) from decide_eq_decide.2 (by omega)]
      exact t4
    · rw [show decide ((c.toNat : Int) = 92) = decide (c.toNat = 34 ∨ c.toNat = 92) from decide_eq_decide.2 (by omega)]
      exact t4
theorem c39 {s : Bytes} (hs : s.length ≤ 10000000) : Pus prog 39 [.s s] (.tup [.s (nxtR s).1, .s (nxtR s).2.1, .b (nxtR s).2.2]) := by
  obtain ⟨x, y, z, ⟨rfl, rfl, rfl⟩, h⟩ := p39 H.f39 (s0 := s) (K := fun x y z => x = (nxtR s).1 ∧ y = (nxtR s).2.1 ∧ z = (nxtR s).2.2) (by
    have no : nxt s = none → ([] : Bytes) = (nxtR s).1 ∧ ([] : Bytes) = (nxtR s).2.1 ∧ false = (nxtR s).2.2 := by
      intro h
      unfold nxtR
      rw [h]
      exact ⟨rfl, rfl, rfl⟩
    unfold T39_0 T39_1
    refine ⟨_, _, c36 H s [34], ?_⟩
    cases s with
    | nil =>
      rw [show cutp [34] [] = ([], false) from rfl]
      exact ⟨fun _ => no rfl, fun h => by simp at h⟩
    | cons q s =>
      by_cases hq : q.toNat = 34
      · have hq' : q = 34 := u8_eq hq
        subst hq'
        have ec : cutp [34] (34 :: s) = (s, true) := by unfold cutp; rw [if_pos (show List.take ([34] : Bytes).length (34 :: s) = [34] from rfl)]; rfl
        rw [ec]
        refine ⟨fun h => by simp at h, fun _ P hP => ?_⟩
        have hn : nxt (34 :: s) = nxtB (s.length + 1) [] s := by
          simp only [nxt]
          rw [if_pos hq]
        have key : ∀ n b r, r.length < n → b.length + r.length ≤ 10000000 → nxtB n b r = nxt (34 :: s) → P r b := by
          intro n
          induction n with
          | zero => intro b r h; exact absurd h (Nat.not_lt_zero _)
          | succ n ih =>
            intro b r hr hb hx
            apply hP
            unfold T39_2
            cases r with
            | nil => exact ⟨fun h => absurd rfl h, fun _ => no (by rw [← hx]; rfl)⟩
            | cons c r =>
              simp only [nxtB] at hx
              refine ⟨fun _ => ⟨c, rfl, by simp, fun h1 => ?_, fun h1 => ⟨fun h2 => ?_, fun h2 => ⟨fun h3 => ?_, fun h3 => ⟨fun h4 => ?_, fun h4 => ?_⟩⟩⟩⟩, fun h => absurd (by simp) h⟩
              · rw [if_pos (by omega)] at hx
                unfold nxtR
                rw [← hx]
                exact ⟨rfl, rfl, rfl⟩
              · refine no ?_
                rw [← hx, if_neg (by omega), show one (c :: r) = none by simp only [one]; rw [if_pos (by omega)]]
              · refine no ?_
                rw [← hx, if_neg (by omega), show one (c :: r) = none by simp only [one]; rw [if_pos (by omega)]]
              · rw [if_neg (by omega), show one (c :: r) = esc r by simp only [one]; rw [if_neg (by omega), if_pos (by omega)]] at hx
                obtain ⟨a, r', ok, hk, hp⟩ := c45 H r
                refine ⟨a, r', ok, hp, fun h5 => ?_, fun h5 => ?_⟩
                · unfold EscK at hk
                  cases he : esc r with
                  | none => rw [he] at hx; exact no hx.symm
                  | some p =>
                    rw [he] at hk
                    obtain ⟨_, _, hk⟩ := hk
                    rw [hk] at h5
                    exact absurd h5 (by decide)
                · unfold EscK at hk
                  cases he : esc r with
                  | none =>
                    rw [he] at hk
                    simp only at hk
                    rw [hk] at h5
                    exact absurd h5 (by decide)
                  | some p =>
                    obtain ⟨u, v⟩ := p
                    rw [he] at hk hx
                    obtain ⟨h6, h7, h8⟩ := hk
                    simp only at hx h6 h7
                    subst h6; subst h7
                    have hl : r'.length < (c :: r).length := one_len (c := u) (by simp only [one]; rw [if_neg (by omega), if_pos (by omega)]; exact he)
                    simp only [List.length_cons] at hl hb hr
                    unfold T39_3
                    refine ⟨u, rfl, ⟨?_, ?_⟩, ih _ _ (by omega) ?_ hx⟩
                    · simp only [List.length_cons, List.length_nil, maxBytes_eq]; omega
                    · simp only [List.length_cons, List.length_nil, maxBytes_eq]; omega
                    · simp only [List.length_append, List.length_cons, List.length_nil]; omega
              · rw [if_neg (by omega), show one (c :: r) = some (c, r) by simp only [one]; rw [if_neg (by omega), if_neg (by omega)]] at hx
                simp only [List.length_cons] at hb hr
                unfold T39_3
                refine ⟨c, rfl, ⟨?_, ?_⟩, ih _ _ (show r.length < n by omega) ?_ hx⟩
                · simp only [List.length_cons, List.length_nil, maxBytes_eq]; omega
                · simp only [List.length_cons, List.length_nil, maxBytes_eq]; omega
                · simp only [List.drop_succ_cons, List.drop_zero, List.length_append, List.length_cons, List.length_nil]; omega
        exact key (s.length + 1) [] s (by omega) (by simp at hs ⊢; omega) hn.symm
      · have ec : cutp [34] (q :: s) = (q :: s, false) := by
          unfold cutp
          rw [if_neg ?_]
          intro h
          injection h with h
          exact hq (by rw [h]; rfl)
        rw [ec]
        refine ⟨fun _ => no ?_, fun h => by simp at h⟩
        simp only [nxt]
        rw [if_neg hq])
  exact h
theorem c40 {s : Bytes} (hs : s.length ≤ 10000000) : Pus prog 40 [.s s] (.tup [.s (nxtR s).1, .s (nxtR s).2.1, .b (nxtR s).2.2]) := by
  obtain ⟨x, y, z, ⟨rfl, rfl, rfl⟩, h⟩ := p40 H.f40 (s0 := s) (K := fun x y z => x = (nxtR s).1 ∧ y = (nxtR s).2.1 ∧ z = (nxtR s).2.2) (by
    have no : nxt s = none → ([] : Bytes) = (nxtR s).1 ∧ ([] : Bytes) = (nxtR s).2.1 ∧ false = (nxtR s).2.2 := by
      intro h
      unfold nxtR
      rw [h]
      exact ⟨rfl, rfl, rfl⟩
    unfold T40_0 T40_1
    cases s with
    | nil => exact ⟨fun _ => no rfl, fun h => absurd rfl h⟩
    | cons q s =>
      refine ⟨fun h => absurd h (by simp; omega), fun _ => ⟨q, rfl, fun hq => no ?_, fun hq => ?_⟩⟩
      · simp only [nxt]
        rw [if_neg (by omega)]
      · have hn : nxt (q :: s) = nxtB (s.length + 1) [] s := by
          simp only [nxt]
          rw [if_pos (by omega)]
        unfold T40_2 T40_3 T40_4
        refine ⟨by simp, fun P hP => ?_⟩
        have key : ∀ n b r, r.length < n → b.length + r.length ≤ 10000000 → nxtB n b r = nxt (q :: s) → P r b := by
          intro n
          induction n with
          | zero => intro b r h; exact absurd h (Nat.not_lt_zero _)
          | succ n ih =>
            intro b r hr hb hx
            apply hP
            unfold T40_5
            cases r with
            | nil =>
              refine ⟨fun h => absurd h (by simp), fun _ => ?_⟩
              unfold T40_9
              exact ⟨fun _ => no (by rw [← hx]; rfl), fun h => absurd rfl h⟩
            | cons c r =>
              simp only [nxtB] at hx
              refine ⟨fun _ => ⟨c, rfl, fun h1 => ?_, fun h1 => ?_⟩, fun h => absurd (show ((c :: r).length : Int) > 0 by simp) h⟩
              · rw [if_neg (by omega)] at hx
                intro P1 hP1
                have pref : ∀ a : UInt8, (c :: r).take (chr a).length = chr a ↔ one (c :: r) = some (a, (c :: r).drop (chr a).length) := fun a => take_chr
                have lit : ∀ {i : Nat} (_ : i < 256), IntKind.u8.wrap (i : Int) = ((UInt8.ofNat i).toNat : Int) := by
                  intro i hi
                  rw [wr_u8 (by omega) (by omega)]
                  simp; omega
                -- a step that finds nothing
                have skip : ∀ i : Nat, i < 256 → one (c :: r) ≠ some (UInt8.ofNat i, (c :: r).drop (chr (UInt8.ofNat i)).length) → P1 (c :: r) b false ((i + 1 : Nat) : Int) → P1 (c :: r) b false (i : Int) := by
                  intro i hi hne hnext
                  apply hP1
                  unfold T40_6 T40_7
                  rw [lit hi, wr_succ (by omega)]
                  refine ⟨fun _ => ⟨fun _ => ⟨_, c41 H _, fun h2 => ⟨by omega, by omega, fun h3 => ?_, fun h3 => hnext⟩, fun h2 => hnext⟩, fun h => by simp at h⟩, fun h => absurd (show (i : Int) < 256 by omega) h⟩
                  exact absurd ((pref _).1 h3) hne
                cases ho : one (c :: r) with
                | none =>
                  rw [ho] at hx
                  refine loop_up0 (P := fun i => P1 (c :: r) b false i) 256 ?_ fun i hi hnext => skip i hi (by rw [ho]; intro h; cases h) hnext
                  apply hP1
                  unfold T40_6 T40_8
                  exact ⟨fun h => absurd h (by decide), fun _ => ⟨fun _ => no hx.symm, fun h => by simp at h⟩⟩
                | some p =>
                  obtain ⟨a, r'⟩ := p
                  rw [ho] at hx
                  simp only at hx
                  have hl := one_len ho
                  simp only [List.length_cons] at hl hb hr
                  have ha := a.toNat_lt
                  have hthen : P r' (b ++ [a]) := ih _ _ (by omega) (by simp only [List.length_append, List.length_cons, List.length_nil]; omega) hx
                  have hinv := one_inv ho
                  have hdr : (c :: r).drop (chr a).length = r' := by rw [hinv]; simp
                  have hfound : ∀ i : Int, P1 r' (b ++ [a]) true i := by
                    intro i
                    apply hP1
                    unfold T40_6 T40_8
                    exact ⟨fun _ => ⟨fun h => by simp at h, fun _ => ⟨fun h => by simp at h, fun _ => hthen⟩⟩, fun _ => ⟨fun h => by simp at h, fun _ => hthen⟩⟩
                  have hat : P1 (c :: r) b false (a.toNat : Int) := by
                    apply hP1
                    unfold T40_6 T40_7
                    have e1 : IntKind.u8.wrap (a.toNat : Int) = (a.toNat : Int) := wr_u8 (by omega) (by omega)
                    have hlen := congrArg List.length hinv
                    simp only [List.length_append, List.length_cons] at hlen
                    rw [e1]
                    refine ⟨fun _ => ⟨fun _ => ⟨_, c41 H a, fun h2 => ⟨by omega, by rw [toNat_cast, List.length_cons]; omega, fun h3 => ⟨a, rfl, ?_, by omega, by rw [toNat_cast, List.length_cons]; omega, ?_⟩, fun h3 => ?_⟩, fun h2 => ?_⟩, fun h => by simp at h⟩, fun h => absurd (show (a.toNat : Int) < 256 by omega) h⟩
                    · simp only [List.length_cons, List.length_nil, maxStr_eq]; omega
                    · rw [toNat_cast, hdr]
                      exact hfound _
                    · exact absurd ((pref a).2 (by rw [ho, hdr])) h3
                    · simp only [List.length_cons] at h2
                      omega
                  have below : ∀ m i : Nat, i + m = a.toNat → P1 (c :: r) b false (i : Int) := by
                    intro m
                    induction m with
                    | zero => intro i hi; simp only [Nat.add_zero] at hi; rw [hi]; exact hat
                    | succ m ihm =>
                      intro i hi
                      refine skip i (by omega) ?_ (ihm (i + 1) (by omega))
                      rw [ho]
                      intro h
                      injection h with h
                      injection h with h
                      have := congrArg UInt8.toNat h
                      simp at this
                      omega
                  exact below a.toNat 0 (by omega)
              · unfold T40_9
                rw [if_pos (by omega)] at hx
                refine ⟨fun h => absurd h (by simp; omega), fun _ => ⟨by simp, ?_⟩⟩
                unfold nxtR
                rw [← hx]
                exact ⟨rfl, rfl, rfl⟩
        exact key (s.length + 1) [] s (by omega) (by simp at hs ⊢; omega) hn.symm)
  exact h
theorem c25 (s : Bytes) : Pus prog 25 [.s s] (.tup [.s (unquo s).1, .i .i64 (unquo s).2]) := by
  obtain ⟨x, y, ⟨rfl, rfl⟩, h⟩ := p25 H.f25 (s0 := s) (K := fun x y => x = (unquo s).1 ∧ y = (unquo s).2) (by
    unfold T25_0 unquo
    refine ⟨fun h => by rw [if_pos (by omega)]; exact ⟨rfl, rfl⟩, fun hs => ⟨_, _, _, c39 H (by omega), ?_⟩⟩
    rw [if_neg (by omega)]
    unfold nxtR
    cases nxt s with
    | none => exact ⟨fun _ => ⟨rfl, rfl⟩, fun h => by simp at h⟩
    | some p =>
      obtain ⟨x, r⟩ := p
      refine ⟨fun h => by simp at h, fun _ => ⟨fun h => ?_, fun h => ?_⟩⟩
      · cases r with
        | nil => exact absurd rfl h
        | cons c r => exact ⟨rfl, rfl⟩
      · have h : r = [] := Classical.not_not.1 h
        subst h
        refine ⟨fun h => ?_, fun h => ?_⟩
        · simp only at h ⊢
          rw [if_pos (by omega)]; exact ⟨rfl, rfl⟩
        · simp only at h ⊢
          rw [if_neg (by omega)]; exact ⟨rfl, rfl⟩)
  exact h
theorem c26 (s : Bytes) : Pus prog 26 [.s s] (.tup [.s (unquo s).1, .i .i64 (unquo s).2]) := by
  obtain ⟨x, y, ⟨rfl, rfl⟩, h⟩ := p26 H.f26 (s0 := s) (K := fun x y => x = (unquo s).1 ∧ y = (unquo s).2) (by
    unfold T26_0 unquo
    refine ⟨fun h => by rw [if_pos (by omega)]; exact ⟨rfl, rfl⟩, fun hs => ⟨_, _, _, c40 H (by omega), ?_⟩⟩
    rw [if_neg (by omega)]
    unfold nxtR
    cases nxt s with
    | none => exact ⟨fun _ => ⟨rfl, rfl⟩, fun h => by simp at h⟩
    | some p =>
      obtain ⟨x, r⟩ := p
      refine ⟨fun h => by simp at h, fun _ => ⟨fun h => ?_, fun h => ?_⟩⟩
      · cases r with
        | nil => exact absurd rfl h
        | cons c r => exact ⟨rfl, rfl⟩
      · have h : r = [] := Classical.not_not.1 h
        subst h
        refine ⟨fun h => ?_, fun h => ?_⟩
        · simp only at h ⊢
          rw [if_pos (by omega)]; exact ⟨rfl, rfl⟩
        · simp only at h ⊢
          rw [if_neg (by omega)]; exact ⟨rfl, rfl⟩)
  exact h
end
end Go.AM

/- Parts of the proof. -/
namespace Go.AM
open Go
def isD (c : UInt8) : Bool := decide (48 ≤ c.toNat) && decide (c.toNat ≤ 57)
def digN : Bytes → Nat
  | [] => 0
  | c :: s => if isD c = true then 1 + digN s else 0
def numN (s : Bytes) : Nat := if s.head? = some 45 then 1 + digN (s.drop 1) else digN s
theorem digN_le : ∀ s : Bytes, digN s ≤ s.length
  | [] => Nat.le_refl _
  | c :: s => by
    have := digN_le s
    rw [digN, List.length_cons]
    split <;> omega
theorem numN_le (s : Bytes) : numN s ≤ s.length := by
  unfold numN
  cases s with
  | nil => simp [digN]
  | cons c s =>
    have h1 := digN_le s
    have h2 := digN_le (c :: s)
    split
    · simp only [List.drop_succ_cons, List.drop_zero, List.length_cons]; omega
    · exact h2
def qs : Bytes → Option Nat
  | [] => none
  | c :: r => if c = 92 then (match r with | [] => none | _ :: r' => (qs r').map (· + 2)) else if c = 34 then some 1 else (qs r).map (· + 1)
theorem qs_le : ∀ (n : Nat) (s : Bytes) (k : Nat), s.length ≤ n → qs s = some k → 1 ≤ k ∧ k ≤ s.length
  | n, [], k, _, h => by rw [qs] at h; cases h
  | n + 1, c :: r, k, hn, h => by
    rw [qs.eq_def] at h
    simp only at h
    simp only [List.length_cons] at hn ⊢
    split at h
    · cases r with
      | nil => cases h
      | cons c' r' =>
        simp only [Option.map_eq_some_iff] at h
        obtain ⟨m, h1, rfl⟩ := h
        simp only [List.length_cons] at hn ⊢
        have := qs_le n r' m (by omega) h1
        omega
    · split at h
      · cases h; omega
      · simp only [Option.map_eq_some_iff] at h
        obtain ⟨m, h1, rfl⟩ := h
        have := qs_le n r m (by omega) h1
        omega
def scNum (s : Bytes) : Int × Bool × Bytes := ((unnum (s.take (numN s))).1, decide ((unnum (s.take (numN s))).2 = 0), s.drop (numN s))
def scQ (s : Bytes) : Bytes × Bool × Bytes := match qs (s.drop 1) with
  | none => ([], false, s)
  | some k => ((unquo (s.take (k + 1))).1, decide ((unquo (s.take (k + 1))).2 = 0), s.drop (k + 1))
def scG (f : Bytes → Val × Bool × Bytes) (kind : Int) (stop : Bytes) : Nat → List Val → Bytes → Val × Bool × Bytes
  | 0, acc, s => (Val.mk kind 0 [] acc false, false, s)
  | k + 1, acc, s => if (f s).2.1 = false then (Val.mk kind 0 [] acc false, false, (f s).2.2) else
      if (cutp stop (f s).2.2).2 = true then (Val.mk kind 0 [] (acc ++ [(f s).1]) false, true, (cutp stop (f s).2.2).1) else
      if (cutp [44, 32] (cutp stop (f s).2.2).1).2 = false then (Val.mk kind 0 [] (acc ++ [(f s).1]) false, false, (cutp [44, 32] (cutp stop (f s).2.2).1).1) else
      scG f kind stop k (acc ++ [(f s).1]) (cutp [44, 32] (cutp stop (f s).2.2).1).1
def scL (f : Bytes → Val × Bool × Bytes) (kind : Int) (stop s : Bytes) : Val × Bool × Bytes :=
  if (cutp stop s).2 = true then (Val.mk kind 0 [] [] false, true, (cutp stop s).1) else scG f kind stop 17 [] (cutp stop s).1
def scV : Nat → Bytes → Val × Bool × Bytes
  | 0, s => (vz, false, s)
  | d + 1, s => if s = [] then (vz, false, s) else
      if (cutp tTrue s).2 = true then (Val.mk 1 1 [] [] false, true, (cutp tTrue s).1) else
      if (cutp tFalse s).2 = true then (Val.mk 1 0 [] [] false, true, (cutp tFalse s).1) else
      if (cutp tNil s).2 = true then (Val.mk 4 0 [] [] false, true, (cutp tNil s).1) else
      if (cutp tCutP s).2 = true then (Val.mk 4 0 [] [] true, true, (cutp tCutP s).1) else
      if (cutp tCutS s).2 = true then (Val.mk 7 0 [] [] true, true, (cutp tCutS s).1) else
      if (cutp [38] s).2 = true then (Val.mk 4 0 [] [(scV d (cutp [38] s).1).1] false, (scV d (cutp [38] s).1).2) else
      if (cutp [123] s).2 = true then scL (scV d) 5 [125] (cutp [123] s).1 else
      if (cutp [91] s).2 = true then scL (scV d) 6 [93] (cutp [91] s).1 else
      if (cutp [60] s).2 = true then scL (scV d) 7 [62] (cutp [60] s).1 else
      if s.head? = some 34 then (Val.mk 3 0 (scQ s).1 [] false, (scQ s).2) else
      (Val.mk 2 (scNum s).1 [] [] false, (scNum s).2)
theorem cutp_no {p s : Bytes} (h : (cutp p s).2 = false) : (cutp p s).1 = s := by
  unfold cutp at h ⊢
  split
  · rename_i h1; rw [if_pos h1] at h; cases h
  · rfl
theorem cutp_app (p s : Bytes) : cutp p (p ++ s) = (s, true) := by
  unfold cutp
  rw [if_pos (by simp), List.drop_left]
theorem cutp_head {c d : UInt8} {p s : Bytes} (h : c ≠ d) : cutp (c :: p) (d :: s) = (d :: s, false) := by
  unfold cutp
  rw [if_neg]
  simp only [List.length_cons, List.take_succ_cons, List.cons.injEq]
  rintro ⟨rfl, _⟩
  exact h rfl
theorem cutp_cons (c : UInt8) (p s : Bytes) : cutp (c :: p) (c :: s) = if (cutp p s).2 = true then ((cutp p s).1, true) else (c :: s, false) := by
  unfold cutp
  simp only [List.length_cons, List.take_succ_cons, List.cons.injEq, true_and, List.drop_succ_cons]
  split <;> simp_all
theorem cutp_nil {c : UInt8} {p : Bytes} : cutp (c :: p) [] = ([], false) := by
  unfold cutp
  rw [if_neg (by simp)]
theorem unnum_rng (s : Bytes) : -9223372036854775808 ≤ (unnum s).1 ∧ (unnum s).1 < 9223372036854775808 := by
  have h1 := rd_le 10 9223372036854775808 (s.drop 1)
  have h2 := rd_le 10 9223372036854775807 s
  unfold unnum
  split
  · exact ⟨by decide, by decide⟩
  split
  · split
    · exact ⟨by decide, by decide⟩
    · dsimp only
      omega
  · dsimp only
    omega
theorem Wf.ite {c : Prop} [Decidable c] {a b : Val × Bool × Bytes} (ha : Wf a.1) (hb : Wf b.1) : Wf (if c then a else b).1 := by
  split
  · exact ha
  · exact hb
theorem scG_wf {f : Bytes → Val × Bool × Bytes} {kind : Int} {stop : Bytes} (hk : 0 ≤ kind ∧ kind < 256) (hf : ∀ s, Wf (f s).1) : ∀ (n : Nat) (acc : List Val) (s : Bytes), n ≤ 17 → acc.length + n = 17 → (∀ x ∈ acc, Wf x) → Wf (scG f kind stop n acc s).1
  | 0, acc, s, _, hl, h => by
    rw [scG]
    exact .mk hk (by decide) (by omega) h
  | n + 1, acc, s, hn, hl, h => by
    have h1 : ∀ x ∈ acc ++ [(f s).1], Wf x := by
      intro x hx
      rcases List.mem_append.1 hx with hx | hx
      · exact h x hx
      · rw [List.mem_singleton.1 hx]; exact hf s
    rw [scG]
    split
    · exact .mk hk (by decide) (by omega) h
    · split
      · exact .mk hk (by decide) (by simp; omega) h1
      · split
        · exact .mk hk (by decide) (by simp; omega) h1
        · exact scG_wf hk hf n _ _ (by omega) (by simp; omega) h1
theorem scL_wf {f : Bytes → Val × Bool × Bytes} {kind : Int} {stop s : Bytes} (hk : 0 ≤ kind ∧ kind < 256) (hf : ∀ s, Wf (f s).1) : Wf (scL f kind stop s).1 := by
  unfold scL
  split
  · exact .mk hk (by decide) (by decide) (by simp)
  · exact scG_wf hk hf 17 [] _ (by omega) rfl (by simp)
theorem scV_wf : ∀ (d : Nat) (s : Bytes), Wf (scV d s).1
  | 0, s => Wf.zero
  | d + 1, s => by
    have w0 : ∀ (k n : Int) (c : Bool), 0 ≤ k ∧ k < 256 → -9223372036854775808 ≤ n ∧ n < 9223372036854775808 → Wf (Val.mk k n [] [] c) := fun k n c h1 h2 => .mk h1 h2 (by decide) (by simp)
    rw [scV]
    exact .ite Wf.zero (.ite (w0 _ _ _ (by decide) (by decide)) (.ite (w0 _ _ _ (by decide) (by decide)) (.ite (w0 _ _ _ (by decide) (by decide)) (.ite (w0 _ _ _ (by decide) (by decide)) (.ite (w0 _ _ _ (by decide) (by decide))
      (.ite (.mk (by decide) (by decide) (by simp) (fun x hx => by rw [List.mem_singleton.1 hx]; exact scV_wf d _)) (.ite (scL_wf (by decide) (scV_wf d)) (.ite (scL_wf (by decide) (scV_wf d)) (.ite (scL_wf (by decide) (scV_wf d))
      (.ite (.mk (by decide) (by decide) (by simp) (by simp)) (.mk (by decide) (unnum_rng _) (by simp) (by simp))))))))))))
def Stop (r : Bytes) : Prop := ∀ c, r.head? = some c → c = 44 ∨ c = 125 ∨ c = 93 ∨ c = 62
theorem Stop.notD {r : Bytes} (h : Stop r) : digN r = 0 := by
  cases r with
  | nil => rfl
  | cons c r =>
    rw [digN, if_neg]
    rcases h c rfl with rfl | rfl | rfl | rfl <;> decide
theorem digN_all : ∀ (s r : Bytes), (∀ c ∈ s, isD c = true) → digN r = 0 → digN (s ++ r) = s.length
  | [], r, _, h => h
  | c :: s, r, hs, h => by
    rw [List.cons_append, digN, if_pos (hs c List.mem_cons_self), digN_all s r (fun c hc => hs c (List.mem_cons_of_mem _ hc)) h, List.length_cons]
    omega
theorem hexd_isD : ∀ n : Fin 10, isD (hexd n.val) = true := by decide
theorem ds_isD : ∀ (f n : Nat), ∀ c ∈ ds 10 f n, isD c = true
  | 0, n, c, h => by simp [ds] at h
  | f + 1, n, c, h => by
    rw [ds] at h
    split at h
    · rename_i hn
      rw [List.mem_singleton.1 h]
      exact hexd_isD ⟨n, hn⟩
    · rcases List.mem_append.1 h with h | h
      · exact ds_isD f _ c h
      · rw [List.mem_singleton.1 h]
        exact hexd_isD ⟨n % 10, Nat.mod_lt _ (by decide)⟩
theorem isD_ne {c : UInt8} {l : List UInt8} (h : isD c = true) (hl : (l.all fun x => !isD x) = true) : c ∉ l := by
  intro hc
  have := List.all_eq_true.1 hl c hc
  rw [h] at this
  cases this
theorem num_head (n : Int) : ∃ c r, num n = c :: r ∧ (c = 45 ∨ isD c = true) := by
  have hd : ∀ n, ∃ c r, digs 10 n = c :: r ∧ isD c = true := by
    intro n
    have h1 := digs_ne 10 n
    have h2 := ds_isD 64 n
    unfold digs at *
    cases h : ds 10 64 n with
    | nil => exact absurd h h1
    | cons c r => exact ⟨c, r, rfl, h2 c (by rw [h]; exact List.mem_cons_self)⟩
  unfold num
  split
  · exact ⟨45, _, rfl, .inl rfl⟩
  · obtain ⟨c, r, h1, h2⟩ := hd n.toNat
    exact ⟨c, r, h1, .inr h2⟩
theorem numN_num {n : Int} {r : Bytes} (hr : digN r = 0) : numN (num n ++ r) = (num n).length := by
  unfold num numN
  split
  · rw [List.cons_append, List.head?_cons, if_pos rfl, List.drop_succ_cons, List.drop_zero, List.length_cons, Nat.add_comm]
    congr 1
    exact digN_all _ r (ds_isD 64 _) hr
  · obtain ⟨c, t, h1, h2⟩ := num_head n
    rw [num, if_neg (by assumption)] at h1
    rw [if_neg]
    · exact digN_all _ r (ds_isD 64 _) hr
    rw [h1, List.cons_append, List.head?_cons]
    intro e
    injection e with e
    subst e
    rcases h2 with h2 | h2
    · have := ds_isD 64 n.toNat 45 (by show (45 : UInt8) ∈ digs 10 n.toNat; rw [h1]; exact List.mem_cons_self)
      exact absurd this (by decide)
    · exact absurd h2 (by decide)
theorem scNum_num {n : Int} {r : Bytes} (h1 : -9223372036854775808 ≤ n) (h2 : n < 9223372036854775808) (hr : digN r = 0) : scNum (num n ++ r) = (n, true, r) := by
  unfold scNum
  rw [numN_num hr, List.take_left, List.drop_left, unnum_num h1 h2]
  rfl
theorem qs_chrs : ∀ (s r : Bytes), qs (chrs s ++ 34 :: r) = some ((chrs s).length + 1)
  | [], r => by
    show qs (34 :: r) = some 1
    rw [qs.eq_def]
    simp
  | c :: s, r => by
    have ih := qs_chrs s r
    have e : chrs (c :: s) = chr c ++ chrs s := rfl
    have hx : ∀ k : Fin 16, hexd k.val ≠ 92 ∧ hexd k.val ≠ 34 := by decide
    rw [e, List.append_assoc]
    unfold chr
    split
    · rw [List.cons_append, List.cons_append, List.nil_append, qs.eq_def]
      simp only [if_true, ih, Option.map_some, List.length_append, List.length_cons, List.length_nil]
      congr 1
      omega
    · rename_i h1
      split
      · rw [List.cons_append, List.cons_append, List.nil_append, qs.eq_def]
        simp only [if_true, ih, Option.map_some, List.length_append, List.length_cons, List.length_nil]
        congr 1
        omega
      · split
        · have hc := c.toNat_lt
          obtain ⟨a1, a2⟩ := hx ⟨c.toNat / 16, by omega⟩
          obtain ⟨b1, b2⟩ := hx ⟨c.toNat % 16, by omega⟩
          simp only at a1 a2 b1 b2
          rw [List.cons_append, List.cons_append, List.cons_append, List.cons_append, List.nil_append, qs.eq_def]
          simp only [if_true]
          rw [qs.eq_def]
          simp only [if_neg a1, if_neg a2]
          rw [qs.eq_def]
          simp only [if_neg b1, if_neg b2, ih, Option.map_some, List.length_append, List.length_cons, List.length_nil]
          congr 1
          omega
        · have c1 : c ≠ 92 := by rintro rfl; exact h1 (.inr rfl)
          have c2 : c ≠ 34 := by rintro rfl; exact h1 (.inl rfl)
          rw [List.cons_append, List.nil_append, qs.eq_def]
          simp only [if_neg c1, if_neg c2, ih, Option.map_some, List.length_append, List.length_cons, List.length_nil]
          congr 1
          omega
theorem scQ_quo {s r : Bytes} (h : s.length ≤ 400) : scQ (quo s ++ r) = (s, true, r) := by
  have e : quo s ++ r = 34 :: (chrs s ++ 34 :: r) := by simp [quo]
  have e2 : (quo s).length = (chrs s).length + 1 + 1 := by simp [quo]
  unfold scQ
  rw [show (quo s ++ r).drop 1 = chrs s ++ 34 :: r by rw [e]; rfl, qs_chrs]
  simp only
  rw [← e2, List.take_left, List.drop_left, unquo_quo h]
  rfl
end Go.AM

/- Parts of the proof. -/
namespace Go.AM
open Go
theorem txt_head (v : Val) : ∃ c t, txt v = c :: t ∧ (c ∈ ([116, 102, 110, 38, 60, 123, 91, 34, 45] : Bytes) ∨ isD c = true) := by
  rw [txt_eq]
  have h1 := num_head v.int
  repeat' split
  all_goals first
    | (obtain ⟨c, t, h2, h3⟩ := h1
       refine ⟨c, t, h2, ?_⟩
       rcases h3 with rfl | h3
       · exact .inl (by decide)
       · exact .inr h3)
    | exact ⟨_, _, rfl, .inl (by decide)⟩
theorem txt_head_ne {v : Val} {e : UInt8} (he : (e = 46 ∨ e = 125 ∨ e = 93 ∨ e = 62 ∨ e = 44)) (p r : Bytes) : (cutp (e :: p) (txt v ++ r)) = (txt v ++ r, false) := by
  obtain ⟨c, t, h1, h2⟩ := txt_head v
  rw [h1, List.cons_append]
  refine cutp_head ?_
  rintro rfl
  rcases h2 with h2 | h2
  · rcases he with rfl | rfl | rfl | rfl | rfl <;> exact absurd h2 (by decide)
  · rcases he with rfl | rfl | rfl | rfl | rfl <;> exact absurd h2 (by decide)
section
variable {f : Bytes → Val × Bool × Bytes} {kind : Int} {e : UInt8}
theorem scG_txts (he : e = 125 ∨ e = 93 ∨ e = 62) : ∀ (l : List Val) (x : Val) (acc : List Val) (n : Nat) (r : Bytes), (∀ y ∈ x :: l, ∀ r, Stop r → f (txt y ++ r) = (y, true, r)) → l.length < n → scG f kind [e] n acc (txts (x :: l) ++ e :: r) = (Val.mk kind 0 [] (acc ++ x :: l) false, true, r)
  | l, x, acc, 0, r, hf, hn => absurd hn (Nat.not_lt_zero _)
  | [], x, acc, n + 1, r, hf, hn => by
    have hs : Stop (e :: r) := by intro c hc; injection hc with hc; subst hc; rcases he with h | h | h <;> simp [h]
    have h1 := hf x List.mem_cons_self (e :: r) hs
    have h2 : cutp [e] (e :: r) = (r, true) := cutp_app [e] r
    rw [txts_one, scG]
    simp only [h1, h2, Bool.true_eq_false, if_false, if_true]
  | y :: l, x, acc, n + 1, r, hf, hn => by
    have e1 : txts (x :: y :: l) ++ e :: r = txt x ++ (44 :: 32 :: (txts (y :: l) ++ e :: r)) := by simp [txts, txtl]
    have hs : Stop (44 :: 32 :: (txts (y :: l) ++ e :: r)) := by intro c hc; injection hc with hc; subst hc; exact .inl rfl
    have h1 := hf x List.mem_cons_self _ hs
    have hne : e ≠ 44 := by rcases he with rfl | rfl | rfl <;> decide
    have h2 : cutp [e] (44 :: 32 :: (txts (y :: l) ++ e :: r)) = (44 :: 32 :: (txts (y :: l) ++ e :: r), false) := cutp_head hne
    have h3 : cutp [44, 32] (44 :: 32 :: (txts (y :: l) ++ e :: r)) = (txts (y :: l) ++ e :: r, true) := cutp_app [44, 32] _
    have ih := scG_txts he l y (acc ++ [x]) n r (fun z hz => hf z (List.mem_cons_of_mem _ hz)) (by simp only [List.length_cons] at hn; omega)
    rw [e1, scG]
    simp only [h1, h2, h3, Bool.true_eq_false, Bool.false_eq_true, if_false]
    rw [ih, List.append_assoc]
    rfl
theorem scL_txts (he : e = 125 ∨ e = 93 ∨ e = 62) (l : List Val) (r : Bytes) (hf : ∀ y ∈ l, ∀ r, Stop r → f (txt y ++ r) = (y, true, r)) (hn : l.length ≤ 16) : scL f kind [e] (txts l ++ e :: r) = (Val.mk kind 0 [] l false, true, r) := by
  unfold scL
  cases l with
  | nil =>
    have h2 : cutp [e] (txts [] ++ e :: r) = (r, true) := cutp_app [e] r
    simp only [h2, if_true]
  | cons x l =>
    have h2 : cutp [e] (txts (x :: l) ++ e :: r) = (txts (x :: l) ++ e :: r, false) := by
      rw [txts, List.append_assoc]
      exact txt_head_ne (by rcases he with h | h | h <;> simp [h]) _ _
    simp only [h2, Bool.false_eq_true, if_false]
    exact scG_txts he l x [] 17 r hf (by simp only [List.length_cons] at hn; omega)
end
theorem txts_head {l : List Val} {e : UInt8} {p r : Bytes} : (cutp (46 :: p) (txts l ++ 62 :: r)).2 = false := by
  cases l with
  | nil => rw [show txts [] ++ 62 :: r = 62 :: r from rfl, cutp_head (by decide)]
  | cons x l => rw [txts, List.append_assoc, txt_head_ne (.inl rfl)]
theorem len0 {α : Type} {l : List α} (h : l.length = 0) : l = [] := List.length_eq_zero_iff.1 h
theorem scV_txt : ∀ (d : Nat) (v : Val), okv d v = true → Wf v → ∀ r, Stop r → scV d (txt v ++ r) = (v, true, r)
  | 0, v, h, _, r, hr => by cases h
  | d + 1, v, h, hw, r, hr => by
    have h1 := okv_head h
    have h2 := okv_sub h
    have ih : ∀ y ∈ v.list, ∀ r, Stop r → scV d (txt y ++ r) = (y, true, r) := fun y hy => scV_txt d y (h2 y hy) (hw.e y hy)
    have hn := hw.n
    have hne : ∀ x : Bytes, ¬(txt v ++ x = []) := fun x e => txt_ne v (List.append_eq_nil_iff.1 e).1
    clear h h2 hw
    cases v with
    | mk k n s l c =>
    unfold Val.okh Okh at h1
    simp only [Val.kind_mk, Val.int_mk, Val.text_mk, Val.list_mk, Val.cut_mk] at h1 ih hn
    have ht := hne r
    rw [scV, if_neg ht]
    clear ht hne
    have nohead : ∀ {a b : UInt8} {p t : Bytes}, a ≠ b → (cutp (a :: p) (b :: t)).2 = false := fun h => by rw [cutp_head h]
    rcases h1 with ⟨rfl, a1, a2, a3, a4⟩ | ⟨rfl, a1, a2, a3⟩ | ⟨rfl, a1, a2, rfl, a4⟩ | ⟨rfl, rfl, a1, a2, a3⟩ | ⟨rfl, rfl, a1, a2, a3⟩ | ⟨rfl, rfl, a1, a2, a3, a4⟩ | ⟨rfl, rfl, a1, a2, a3⟩
    · have := len0 a1; have := len0 a3; subst l; subst s
      have : c = false := by cases c; rfl; cases a2
      subst c
      rcases a4 with rfl | rfl
      · rw [show txt (Val.mk 1 0 [] [] false) = tFalse from rfl, show tFalse ++ r = 102 :: ([97, 108, 115, 101] ++ r) from rfl, tTrue, if_neg (by rw [nohead (by decide)]; decide)]
        have := cutp_app tFalse r
        rw [show tFalse ++ r = 102 :: ([97, 108, 115, 101] ++ r) from rfl] at this
        rw [if_pos (by rw [this]), this]
      · rw [show txt (Val.mk 1 1 [] [] false) = tTrue from rfl, if_pos (by rw [cutp_app]), cutp_app]
    · have := len0 a1; have := len0 a3; subst l; subst s
      have : c = false := by cases c; rfl; cases a2
      subst c
      rw [show txt (Val.mk 2 n [] [] false) = num n from rfl]
      have hd := scNum_num (r := r) hn.1 hn.2 hr.notD
      obtain ⟨x, t, h3, h4⟩ := num_head n
      rw [h3] at hd ⊢
      rw [List.cons_append] at hd ⊢
      have hx : ∀ y : UInt8, y ∈ ([116, 102, 110, 38, 60, 123, 91, 34] : Bytes) → y ≠ x := by
        rintro y hy rfl
        rcases h4 with rfl | h4
        · exact absurd hy (by decide)
        · exact isD_ne h4 (by decide) hy
      rw [tTrue, if_neg (by rw [nohead (hx _ (by decide))]; decide), tFalse, if_neg (by rw [nohead (hx _ (by decide))]; decide), tNil, if_neg (by rw [nohead (hx _ (by decide))]; decide), tCutP, if_neg (by rw [nohead (hx _ (by decide))]; decide), tCutS, if_neg (by rw [nohead (hx _ (by decide))]; decide),
        if_neg (by rw [nohead (hx _ (by decide))]; decide), if_neg (by rw [nohead (hx _ (by decide))]; decide), if_neg (by rw [nohead (hx _ (by decide))]; decide), if_neg (by rw [nohead (hx _ (by decide))]; decide),
        if_neg (by rw [List.head?_cons]; intro e; injection e with e; exact hx 34 (by decide) e.symm), hd]
    · have := len0 a1; subst l
      have : c = false := by cases c; rfl; cases a2
      subst c
      rw [show txt (Val.mk 3 0 s [] false) = quo s from rfl]
      have hd := scQ_quo (s := s) (r := r) (by omega)
      rw [show quo s ++ r = 34 :: (chrs s ++ [34] ++ r) from rfl] at hd ⊢
      rw [tTrue, if_neg (by rw [nohead (by decide)]; decide), tFalse, if_neg (by rw [nohead (by decide)]; decide), tNil, if_neg (by rw [nohead (by decide)]; decide), tCutP, if_neg (by rw [nohead (by decide)]; decide), tCutS, if_neg (by rw [nohead (by decide)]; decide),
        if_neg (by rw [nohead (by decide)]; decide), if_neg (by rw [nohead (by decide)]; decide), if_neg (by rw [nohead (by decide)]; decide), if_neg (by rw [nohead (by decide)]; decide), List.head?_cons, if_pos rfl, hd]
    · have := len0 a1; subst s
      cases c with
      | true =>
        have := len0 (a3.resolve_left (by decide)); subst l
        have e := cutp_app tCutP r
        rw [show txt (Val.mk 4 0 [] [] true) = tCutP from rfl]
        rw [show tCutP ++ r = 38 :: ([46, 46, 46] ++ r) from rfl] at e ⊢
        rw [tTrue, if_neg (by rw [nohead (by decide)]; decide), tFalse, if_neg (by rw [nohead (by decide)]; decide), tNil, if_neg (by rw [nohead (by decide)]; decide), if_pos (by rw [e]), e]
      | false =>
        match l, a2 with
        | [], _ =>
          have e := cutp_app tNil r
          rw [show txt (Val.mk 4 0 [] [] false) = tNil from rfl]
          rw [show tNil ++ r = 110 :: ([105, 108] ++ r) from rfl] at e ⊢
          rw [tTrue, if_neg (by rw [nohead (by decide)]; decide), tFalse, if_neg (by rw [nohead (by decide)]; decide), if_pos (by rw [e]), e]
        | [w], _ =>
          rw [show txt (Val.mk 4 0 [] [w] false) = 38 :: txts [w] from rfl, txts_one, List.cons_append]
          have e : cutp [38] (38 :: (txt w ++ r)) = (txt w ++ r, true) := cutp_app [38] _
          have e2 : (cutp tCutP (38 :: (txt w ++ r))).2 = false := by rw [tCutP, cutp_cons, txt_head_ne (.inl rfl)]; rfl
          rw [tTrue, if_neg (by rw [nohead (by decide)]; decide), tFalse, if_neg (by rw [nohead (by decide)]; decide), tNil, if_neg (by rw [nohead (by decide)]; decide), if_neg (by rw [e2]; decide), tCutS, if_neg (by rw [nohead (by decide)]; decide), if_pos (by rw [e]), e]
          simp only
          rw [ih w List.mem_cons_self r hr]
    · have := len0 a1; subst s
      have : c = false := by cases c; rfl; cases a3
      subst c
      rw [show txt (Val.mk 5 0 [] l false) = 123 :: (txts l ++ [125]) from rfl]
      have e0 : 123 :: (txts l ++ [125]) ++ r = 123 :: (txts l ++ 125 :: r) := by simp
      have e : cutp [123] (123 :: (txts l ++ 125 :: r)) = (txts l ++ 125 :: r, true) := cutp_app [123] _
      rw [e0, tTrue, if_neg (by rw [nohead (by decide)]; decide), tFalse, if_neg (by rw [nohead (by decide)]; decide), tNil, if_neg (by rw [nohead (by decide)]; decide), tCutP, if_neg (by rw [nohead (by decide)]; decide), tCutS, if_neg (by rw [nohead (by decide)]; decide), if_neg (by rw [nohead (by decide)]; decide), if_pos (by rw [e]), e]
      exact scL_txts (.inl rfl) l r ih (by omega)
    · have := len0 a1; subst s
      have : c = false := by cases c; rfl; cases a4
      subst c
      rw [show txt (Val.mk 6 0 [] l false) = 91 :: (txts l ++ [93]) from rfl]
      have e0 : 91 :: (txts l ++ [93]) ++ r = 91 :: (txts l ++ 93 :: r) := by simp
      have e : cutp [91] (91 :: (txts l ++ 93 :: r)) = (txts l ++ 93 :: r, true) := cutp_app [91] _
      rw [e0, tTrue, if_neg (by rw [nohead (by decide)]; decide), tFalse, if_neg (by rw [nohead (by decide)]; decide), tNil, if_neg (by rw [nohead (by decide)]; decide), tCutP, if_neg (by rw [nohead (by decide)]; decide), tCutS, if_neg (by rw [nohead (by decide)]; decide), if_neg (by rw [nohead (by decide)]; decide), if_neg (by rw [nohead (by decide)]; decide), if_pos (by rw [e]), e]
      exact scL_txts (.inr (.inl rfl)) l r ih (by omega)
    · have := len0 a1; subst s
      cases c with
      | true =>
        have := len0 (a3.resolve_left (by decide)); subst l
        have e := cutp_app tCutS r
        rw [show txt (Val.mk 7 0 [] [] true) = tCutS from rfl]
        rw [show tCutS ++ r = 60 :: ([46, 46, 46, 62] ++ r) from rfl] at e ⊢
        rw [tTrue, if_neg (by rw [nohead (by decide)]; decide), tFalse, if_neg (by rw [nohead (by decide)]; decide), tNil, if_neg (by rw [nohead (by decide)]; decide), tCutP, if_neg (by rw [nohead (by decide)]; decide), if_pos (by rw [e]), e]
      | false =>
        rw [show txt (Val.mk 7 0 [] l false) = 60 :: (txts l ++ [62]) from rfl]
        have e0 : 60 :: (txts l ++ [62]) ++ r = 60 :: (txts l ++ 62 :: r) := by simp
        have e : cutp [60] (60 :: (txts l ++ 62 :: r)) = (txts l ++ 62 :: r, true) := cutp_app [60] _
        have e2 : (cutp tCutS (60 :: (txts l ++ 62 :: r))).2 = false := by
          have := txts_head (l := l) (e := 0) (p := [46, 46, 62]) (r := r)
          rw [tCutS, cutp_cons, if_neg (by rw [this]; decide)]
        rw [e0, tTrue, if_neg (by rw [nohead (by decide)]; decide), tFalse, if_neg (by rw [nohead (by decide)]; decide), tNil, if_neg (by rw [nohead (by decide)]; decide), tCutP, if_neg (by rw [nohead (by decide)]; decide), if_neg (by rw [e2]; decide), if_neg (by rw [nohead (by decide)]; decide), if_neg (by rw [nohead (by decide)]; decide), if_neg (by rw [nohead (by decide)]; decide), if_pos (by rw [e]), e]
        exact scL_txts (.inr (.inr rfl)) l r ih (by omega)
def rvs (s : Bytes) : Val × Int := if 1400000 < s.length then (vz, 4) else
  if (scV 130 s).2.1 = true ∧ (scV 130 s).2.2 = [] ∧ fine (scV 130 s).1 = true ∧ txt (scV 130 s).1 = s then ((scV 130 s).1, 0) else (vz, 12)
theorem fine_ok {v : Val} (h : fine v = true) : okv 130 v = true ∧ v.nodes ≤ 5000 := by
  simpa [fine] using h
theorem scV_fine {v : Val} (h : fine v = true) (hw : Wf v) : scV 130 (txt v) = (v, true, []) := by
  have := scV_txt 130 v (fine_ok h).1 hw [] (by intro c hc; cases hc)
  rwa [List.append_nil] at this
theorem rvs_txt {v : Val} (h : fine v = true) (hw : Wf v) : rvs (txt v) = (v, 0) := by
  have h1 := fine_len h
  unfold rvs
  rw [if_neg (by omega), scV_fine h hw, if_pos ⟨rfl, rfl, h, rfl⟩]
theorem rvs_inv {s : Bytes} (h : (rvs s).2 = 0) : fine (rvs s).1 = true ∧ txt (rvs s).1 = s ∧ Wf (rvs s).1 := by
  unfold rvs at h ⊢
  split
  · rename_i h1; rw [if_pos h1] at h; cases h
  · rename_i h1
    rw [if_neg h1] at h
    split
    · rename_i h2; exact ⟨h2.2.2.1, h2.2.2.2, scV_wf _ _⟩
    · rename_i h2; rw [if_neg h2] at h; cases h
theorem rvs_wf (s : Bytes) : Wf (rvs s).1 := by
  unfold rvs
  split
  · exact Wf.zero
  · split
    · exact scV_wf _ _
    · exact Wf.zero
noncomputable def sameV (v w : Val) : Bool := @decide (v = w) (Classical.propDecidable _)
theorem sameV_true {v w : Val} : sameV v w = true ↔ v = w := by unfold sameV; simp
theorem sameV_false {v w : Val} : sameV v w = false ↔ v ≠ w := by
  rw [← Bool.not_eq_true, sameV_true]
end Go.AM

/- Parts of the proof. -/
namespace Go.AM
open Go
theorem bv_split {x m c : BitVec 64} (h : x &&& ~~~m = c) : x = c ||| (x &&& m) := by
  subst h
  apply BitVec.eq_of_getLsbD_eq
  intro i hi
  simp only [BitVec.getLsbD_or, BitVec.getLsbD_and, BitVec.getLsbD_not, hi, decide_true, Bool.true_and]
  cases x.getLsbD i <;> cases m.getLsbD i <;> rfl
theorem bv_two (x : BitVec 64) (i : Nat) : x &&& BitVec.twoPow 64 i = BitVec.twoPow 64 i ∨ x &&& BitVec.twoPow 64 i = 0#64 := by
  rw [BitVec.and_twoPow]
  split
  · exact .inl rfl
  · exact .inr rfl
theorem wrap_toNat (x : BitVec 64) : IntKind.u64.wrap (x.toNat : Int) = (x.toNat : Int) := wr_u64_nat x.isLt
theorem ofInt_toNat {f : Int} (h : 0 ≤ f ∧ f < 18446744073709551616) : f = ((BitVec.ofInt 64 f).toNat : Int) := by
  rw [BitVec.toNat_ofInt]; omega
theorem flag2 {f : Int} (h : 0 ≤ f ∧ f < 18446744073709551616) : bAndNot .u64 f 4 = 2 ↔ f = 2 ∨ f = 6 := by
  constructor
  · intro h1
    have h1 : IntKind.u64.wrap ((BitVec.ofInt 64 f &&& ~~~(BitVec.ofInt 64 4)).toNat : Int) = 2 := h1
    rw [wrap_toNat] at h1
    have h2 : BitVec.ofInt 64 f &&& ~~~(BitVec.ofInt 64 4) = 2#64 := BitVec.eq_of_toNat_eq (by rw [show (2#64).toNat = 2 from rfl]; omega)
    have h3 := bv_split h2
    rw [show BitVec.ofInt 64 4 = BitVec.twoPow 64 2 from by decide] at h3
    rcases bv_two (BitVec.ofInt 64 f) 2 with h4 | h4 <;> rw [h4] at h3 <;> have h5 := ofInt_toNat h <;> rw [h3] at h5
    · exact .inr h5
    · exact .inl h5
  · rintro (rfl | rfl) <;> decide
theorem flag0 {f : Int} (h : 0 ≤ f ∧ f < 18446744073709551616) : bAndNot .u64 f 5 = 0 ↔ f = 0 ∨ f = 1 ∨ f = 4 ∨ f = 5 := by
  constructor
  · intro h1
    have h1 : IntKind.u64.wrap ((BitVec.ofInt 64 f &&& ~~~(BitVec.ofInt 64 5)).toNat : Int) = 0 := h1
    rw [wrap_toNat] at h1
    have h2 : BitVec.ofInt 64 f &&& ~~~(BitVec.ofInt 64 5) = 0#64 := BitVec.eq_of_toNat_eq (by rw [show (0#64).toNat = 0 from rfl]; omega)
    have h3 := bv_split h2
    have e : BitVec.ofInt 64 f &&& BitVec.ofInt 64 5 = (BitVec.ofInt 64 f &&& BitVec.twoPow 64 2) ||| (BitVec.ofInt 64 f &&& BitVec.twoPow 64 0) := by
      rw [show BitVec.ofInt 64 5 = BitVec.twoPow 64 2 ||| BitVec.twoPow 64 0 from by decide]
      apply BitVec.eq_of_getLsbD_eq
      intro i hi
      simp only [BitVec.getLsbD_or, BitVec.getLsbD_and]
      cases (BitVec.ofInt 64 f).getLsbD i <;> rfl
    rw [e] at h3
    have h5 := ofInt_toNat h
    rcases bv_two (BitVec.ofInt 64 f) 2 with h4 | h4 <;> rcases bv_two (BitVec.ofInt 64 f) 0 with h6 | h6 <;> rw [h4, h6] at h3 <;> rw [h3] at h5
    · exact .inr (.inr (.inr h5))
    · exact .inr (.inr (.inl h5))
    · exact .inr (.inl h5)
    · exact .inl h5
  · rintro (rfl | rfl | rfl | rfl) <;> decide
def tExit : Bytes := [101, 120, 105, 116]
def tPan : Bytes := [112, 97, 110, 105, 99, 32]
def tRec : Bytes := [32, 114, 101, 99, 111, 118, 101, 114, 101, 100]
def tAb : Bytes := [32, 97, 98, 111, 114, 116, 101, 100]
def tFau : Bytes := [102, 97, 117, 108, 116, 32]
def tF1 : Bytes := [102, 97, 117, 108, 116, 32, 49, 58, 32, 100, 105, 118, 105, 115, 105, 111, 110, 32, 98, 121, 32, 122, 101, 114, 111]
def tF2 : Bytes := [102, 97, 117, 108, 116, 32, 50, 58, 32, 110, 105, 108, 32, 112, 111, 105, 110, 116, 101, 114]
def tF3 : Bytes := [102, 97, 117, 108, 116, 32, 51, 58, 32, 111, 117, 116, 32, 111, 102, 32, 114, 97, 110, 103, 101]
def faultT (n : Int) : Bytes := if n = 1 then tF1 else if n = 2 then tF2 else if n = 3 then tF3 else []
def kindT (t : Int) : Int := if t = 1 then 2 else if t = 2 then 1 else if t = 3 then 3 else if t = 4 then 2 else 0
structure WfP (p : Pan) : Prop where
  t : 0 ≤ p.tag ∧ p.tag < 18446744073709551616
  v : Wf p.value
  f : 0 ≤ p.flags ∧ p.flags < 18446744073709551616
def isZ (v : Val) : Bool := decide (v.kind = 0) && decide (v.int = 0) && decide (v.text = []) && decide (v.list.length = 0) && !v.cut
theorem isZ_true {v : Val} : isZ v = true ↔ v = vz := by
  unfold isZ
  simp only [Bool.and_eq_true, decide_eq_true_eq, Bool.not_eq_true', and_assoc, List.length_eq_zero_iff]
  cases v with
  | mk k n s l c => simp
def okP (p : Pan) : Bool := decide (p.tag ≤ 4) && decide (p.value.kind = kindT p.tag) && (if p.tag = 0 then isZ p.value && decide (p.flags = 2 ∨ p.flags = 6)
  else decide (p.flags = 0 ∨ p.flags = 1 ∨ p.flags = 4 ∨ p.flags = 5) && decide (p.tag = 4 → 1 ≤ p.value.int ∧ p.value.int ≤ 3) && fine p.value)
def chkP (p : Pan) : Int := if okP p = true then 0 else 8
def baseP (p : Pan) : Bytes := if p.tag = 0 then tExit else if p.tag = 4 then faultT p.value.int else tPan ++ txt p.value
def sufP (f : Int) : Bytes := (if f % 2 = 1 then tRec else []) ++ (if 4 ≤ f then tAb else [])
def shown (p : Pan) : Bytes := baseP p ++ sufP p.flags
def lnP (p : Pan) : Bytes × Int := if okP p = true then (shown p, 0) else ([], 8)
def pz : Pan := ⟨0, vz, 0⟩
def cuts (p s : Bytes) : Bytes × Bool := if p.length ≤ s.length ∧ s.drop (s.length - p.length) = p then (s.take (s.length - p.length), true) else (s, false)
theorem cuts_app (p s : Bytes) : cuts p (s ++ p) = (s, true) := by
  unfold cuts
  rw [if_pos ⟨by simp, by simp⟩]
  simp
theorem cuts_yes {p s : Bytes} (h : (cuts p s).2 = true) : s = (cuts p s).1 ++ p := by
  unfold cuts at h ⊢
  split
  · rename_i h1
    have := List.take_append_drop (s.length - p.length) s
    rw [h1.2] at this
    exact this.symm
  · rename_i h1; rw [if_neg h1] at h; cases h
theorem cuts_no {p s : Bytes} (h : (cuts p s).2 = false) : (cuts p s).1 = s := by
  unfold cuts at h ⊢
  split
  · rename_i h1; rw [if_pos h1] at h; cases h
  · rfl
theorem cuts_last {p s : Bytes} {c d : UInt8} (hs : s.getLast? = some c) (hp : p.getLast? = some d) (h : c ≠ d) : cuts p s = (s, false) := by
  unfold cuts
  rw [if_neg]
  rintro ⟨h1, h2⟩
  have h3 : s.getLast? = p.getLast? := by
    rw [← List.take_append_drop (s.length - p.length) s, h2, List.getLast?_append, hp]; rfl
  rw [hs, hp] at h3
  injection h3 with h3
  exact h h3
def coreP (s : Bytes) : Option Pan := if s = tExit then some ⟨0, vz, 2⟩ else if s = tF1 then some ⟨4, Val.mk 2 1 [] [] false, 0⟩ else if s = tF2 then some ⟨4, Val.mk 2 2 [] [] false, 0⟩ else if s = tF3 then some ⟨4, Val.mk 2 3 [] [] false, 0⟩ else
  if (cutp tPan s).2 = false then none else
  if (rvs (cutp tPan s).1).2 ≠ 0 then none else
  let v := (rvs (cutp tPan s).1).1
  if v.kind = 2 then some ⟨1, v, 0⟩ else if v.kind = 1 then some ⟨2, v, 0⟩ else if v.kind = 3 then some ⟨3, v, 0⟩ else none
def rlP (s : Bytes) : Pan × Int := if 2000 < s.length then (pz, 4) else
  let a := cuts tAb s
  let r := cuts tRec a.1
  match coreP r.1 with
  | none => (pz, 12)
  | some p => let q : Pan := ⟨p.tag, p.value, p.flags + (if r.2 = true then 1 else 0) + (if a.2 = true then 4 else 0)⟩
    if okP q = true then (q, 0) else (pz, 12)
end Go.AM

/- Parts of the proof. -/
namespace Go.AM
open Go
theorem cuts_long {p q b : Bytes} (h : p.length ≤ q.length) : cuts p (b ++ q) = (b ++ (cuts p q).1, (cuts p q).2) := by
  have e : (b ++ q).length - p.length = b.length + (q.length - p.length) := by simp; omega
  unfold cuts
  rw [e, List.drop_append, List.take_append]
  rw [List.drop_of_length_le (by omega), List.take_of_length_le (by omega), List.nil_append, show b.length + (q.length - p.length) - b.length = q.length - p.length by omega]
  by_cases h1 : q.drop (q.length - p.length) = p
  · rw [if_pos ⟨by simp; omega, h1⟩, if_pos ⟨h, h1⟩]
  · rw [if_neg fun h2 => h1 h2.2, if_neg fun h2 => h1 h2.2]
theorem vNum_eq {v : Val} (h : fine v = true) (hk : v.kind = 2) : v = Val.mk 2 v.int [] [] false := by
  have h1 := okv_head (fine_ok h).1
  cases v with
  | mk k n s l c =>
    simp only [Val.okh, Okh, Val.kind_mk, Val.int_mk, Val.text_mk, Val.list_mk, Val.cut_mk] at h1 hk ⊢
    subst hk
    have hl := len0 (l := l) (by omega)
    have hs := len0 (l := s) (by omega)
    subst hl; subst hs
    cases c with
    | false => rfl
    | true => simp at h1
theorem num_last (n : Int) : ∃ b c, num n = b ++ [c] ∧ c ≠ 100 := by
  have key : ∀ m : Nat, ∃ b c, digs 10 m = b ++ [c] ∧ c ≠ 100 := by
    intro m
    obtain ⟨b, c, h⟩ : ∃ b c, digs 10 m = b ++ [c] := by
      have h := digs_ne 10 m
      exact ⟨_, _, (List.dropLast_concat_getLast h).symm⟩
    refine ⟨b, c, h, fun hc => ?_⟩
    have := ds_isD 64 m c (by rw [show ds 10 64 m = digs 10 m from rfl, h]; simp)
    rw [hc] at this
    exact absurd this (by decide)
  unfold num
  split
  · obtain ⟨b, c, h, hc⟩ := key (-n).toNat
    exact ⟨45 :: b, c, by rw [h]; rfl, hc⟩
  · exact key _
theorem base_last {p : Pan} (h : okP p = true) : ∃ b c, baseP p = b ++ [c] ∧ c ≠ 100 := by
  unfold okP at h
  simp only [Bool.and_eq_true, decide_eq_true_eq] at h
  obtain ⟨⟨h1, h2⟩, h3⟩ := h
  unfold baseP
  by_cases t0 : p.tag = 0
  · rw [if_pos t0]; exact ⟨[101, 120, 105], 116, rfl, by decide⟩
  rw [if_neg t0] at h3 ⊢
  simp only [Bool.and_eq_true, decide_eq_true_eq] at h3
  obtain ⟨⟨h4, h5⟩, h6⟩ := h3
  by_cases t4 : p.tag = 4
  · rw [if_pos t4]
    have := h5 t4
    rcases (show p.value.int = 1 ∨ p.value.int = 2 ∨ p.value.int = 3 by omega) with h | h | h <;> rw [h]
    · exact ⟨tF1.dropLast, 111, rfl, by decide⟩
    · exact ⟨tF2.dropLast, 114, rfl, by decide⟩
    · exact ⟨tF3.dropLast, 101, rfl, by decide⟩
  rw [if_neg t4]
  have hk : p.value.kind = 2 ∨ p.value.kind = 1 ∨ p.value.kind = 3 := by
    rw [h2]; unfold kindT
    by_cases a1 : p.tag = 1
    · rw [if_pos a1]; exact .inl rfl
    rw [if_neg a1]
    by_cases a2 : p.tag = 2
    · rw [if_pos a2]; exact .inr (.inl rfl)
    rw [if_neg a2]
    by_cases a3 : p.tag = 3
    · rw [if_pos a3]; exact .inr (.inr rfl)
    rw [if_neg a3, if_neg t4]
    have h0 := okv_head (fine_ok h6).1
    unfold Val.okh Okh at h0
    rw [h2] at h0
    unfold kindT at h0
    rw [if_neg a1, if_neg a2, if_neg a3, if_neg t4] at h0
    omega
  have add : ∀ {x : Bytes}, (∃ b c, x = b ++ [c] ∧ c ≠ (100 : UInt8)) → ∃ b c, tPan ++ x = b ++ [c] ∧ c ≠ (100 : UInt8) := fun ⟨b, c, h, hc⟩ => ⟨tPan ++ b, c, by rw [h]; simp, hc⟩
  apply add
  rw [txt_eq]
  rcases hk with h | h | h <;> rw [h]
  · exact num_last _
  · rw [if_pos rfl]
    split
    · exact ⟨[116, 114, 117], 101, rfl, by decide⟩
    · exact ⟨[102, 97, 108, 115], 101, rfl, by decide⟩
  · exact ⟨34 :: chrs p.value.text, 34, rfl, by decide⟩
theorem okP_flags {p : Pan} (h : okP p = true) : (p.tag = 0 ∧ p.value = vz ∧ (p.flags = 2 ∨ p.flags = 6)) ∨ (p.tag ≠ 0 ∧ fine p.value = true ∧ (p.flags = 0 ∨ p.flags = 1 ∨ p.flags = 4 ∨ p.flags = 5)) := by
  unfold okP at h
  simp only [Bool.and_eq_true, decide_eq_true_eq] at h
  obtain ⟨⟨h1, h2⟩, h3⟩ := h
  by_cases t0 : p.tag = 0
  · rw [if_pos t0] at h3
    simp only [Bool.and_eq_true, decide_eq_true_eq] at h3
    exact .inl ⟨t0, isZ_true.1 h3.1, h3.2⟩
  · rw [if_neg t0] at h3
    simp only [Bool.and_eq_true, decide_eq_true_eq] at h3
    exact .inr ⟨t0, h3.2, h3.1.1⟩
theorem cut_shown {p : Pan} (h : okP p = true) : (cuts tAb (shown p)).2 = decide (4 ≤ p.flags) ∧ cuts tRec (cuts tAb (shown p)).1 = (baseP p, decide (p.flags % 2 = 1)) := by
  obtain ⟨b, c, hb, hc⟩ := base_last h
  have a1 : cuts tAb (baseP p) = (baseP p, false) := cuts_last (c := c) (d := 100) (by rw [hb]; simp) rfl hc
  have a2 : cuts tRec (baseP p) = (baseP p, false) := cuts_last (c := c) (d := 100) (by rw [hb]; simp) rfl hc
  have a3 : cuts tAb (baseP p ++ tRec) = (baseP p ++ tRec, false) := by rw [cuts_long (by decide)]; rfl
  have hf : p.flags = 0 ∨ p.flags = 1 ∨ p.flags = 2 ∨ p.flags = 4 ∨ p.flags = 5 ∨ p.flags = 6 := by rcases okP_flags h with ⟨_, _, h⟩ | ⟨_, _, h⟩ <;> omega
  unfold shown sufP
  rcases hf with h | h | h | h | h | h <;> rw [h]
  · rw [show baseP p ++ ((if (0 : Int) % 2 = 1 then tRec else []) ++ (if (4 : Int) ≤ 0 then tAb else [])) = baseP p by simp, a1]; exact ⟨rfl, a2⟩
  · rw [show baseP p ++ ((if (1 : Int) % 2 = 1 then tRec else []) ++ (if (4 : Int) ≤ 1 then tAb else [])) = baseP p ++ tRec by simp, a3]; exact ⟨rfl, cuts_app _ _⟩
  · rw [show baseP p ++ ((if (2 : Int) % 2 = 1 then tRec else []) ++ (if (4 : Int) ≤ 2 then tAb else [])) = baseP p by simp, a1]; exact ⟨rfl, a2⟩
  · rw [show baseP p ++ ((if (4 : Int) % 2 = 1 then tRec else []) ++ (if (4 : Int) ≤ 4 then tAb else [])) = baseP p ++ tAb by simp, cuts_app]; exact ⟨rfl, a2⟩
  · rw [show baseP p ++ ((if (5 : Int) % 2 = 1 then tRec else []) ++ (if (4 : Int) ≤ 5 then tAb else [])) = (baseP p ++ tRec) ++ tAb by simp, cuts_app]; exact ⟨rfl, cuts_app _ _⟩
  · rw [show baseP p ++ ((if (6 : Int) % 2 = 1 then tRec else []) ++ (if (4 : Int) ≤ 6 then tAb else [])) = baseP p ++ tAb by simp, cuts_app]; exact ⟨rfl, a2⟩
theorem core_base {p : Pan} (h : okP p = true) (hw : Wf p.value) : coreP (baseP p) = some ⟨p.tag, p.value, if p.tag = 0 then 2 else 0⟩ := by
  have h0 := okP_flags h
  unfold okP at h
  simp only [Bool.and_eq_true, decide_eq_true_eq] at h
  obtain ⟨⟨h1, h2⟩, h3⟩ := h
  obtain ⟨t, v, f⟩ := p
  simp only at h0 h1 h2 h3 hw ⊢
  unfold baseP
  rcases h0 with ⟨rfl, rfl, _⟩ | ⟨t0, hf, _⟩
  · rfl
  rw [if_neg t0] at h3
  simp only [Bool.and_eq_true, decide_eq_true_eq] at h3
  obtain ⟨⟨h4, h5⟩, h6⟩ := h3
  simp only
  rw [if_neg t0]
  by_cases t4 : t = 4
  · subst t4
    have hv := vNum_eq hf h2
    have := h5 rfl
    rw [if_pos rfl]
    rcases (show v.int = 1 ∨ v.int = 2 ∨ v.int = 3 by omega) with h | h | h <;> rw [h] at hv <;> rw [hv] <;> rfl
  rw [if_neg t4, if_neg t0]
  have ne : ∀ {x : Bytes} {c : UInt8} {r : Bytes}, x = c :: r → c ≠ 112 → tPan ++ txt v ≠ x := fun hx hc e => by
    rw [hx] at e
    injection e with e
    exact hc e.symm
  unfold coreP
  rw [if_neg (ne (x := tExit) (c := 101) rfl (by decide)), if_neg (ne (x := tF1) (c := 102) rfl (by decide)), if_neg (ne (x := tF2) (c := 102) rfl (by decide)), if_neg (ne (x := tF3) (c := 102) rfl (by decide)), cutp_app, if_neg (show ¬(true = false) by decide), rvs_txt hf hw, if_neg (show ¬((0 : Int) ≠ 0) by decide)]
  simp only
  unfold kindT at h2
  by_cases a1 : t = 1
  · subst a1
    rw [if_pos rfl] at h2
    rw [if_pos h2]
  rw [if_neg a1] at h2
  by_cases a2 : t = 2
  · subst a2
    rw [if_pos rfl] at h2
    rw [if_neg (by omega), if_pos h2]
  rw [if_neg a2] at h2
  by_cases a3 : t = 3
  · subst a3
    rw [if_pos rfl] at h2
    rw [if_neg (by omega), if_neg (by omega), if_pos h2]
  rw [if_neg a3, if_neg t4] at h2
  have h7 := okv_head (fine_ok hf).1
  unfold Val.okh Okh at h7
  omega
theorem txt_small {v : Val} (h : fine v = true) (hk : v.kind = 1 ∨ v.kind = 2 ∨ v.kind = 3) : (txt v).length ≤ 300 := by
  have h7 := okv_head (fine_ok h).1
  unfold Val.okh Okh at h7
  have h8 := num_len v.int
  have h9 := quo_len v.text
  rw [txt_eq]
  rcases hk with h | h | h <;> rw [h]
  · rw [if_pos rfl]; split <;> decide
  · show (num v.int).length ≤ 300; omega
  · show (quo v.text).length ≤ 300; omega
theorem okP_kind {p : Pan} (h : okP p = true) (h0 : p.tag ≠ 0) : p.value.kind = 1 ∨ p.value.kind = 2 ∨ p.value.kind = 3 := by
  have hf : fine p.value = true := by rcases okP_flags h with h | h; exact absurd h.1 h0; exact h.2.1
  unfold okP at h
  simp only [Bool.and_eq_true, decide_eq_true_eq] at h
  have h2 := h.1.2
  have h7 := okv_head (fine_ok hf).1
  unfold Val.okh Okh at h7
  unfold kindT at h2
  repeat' split at h2
  all_goals omega
theorem shown_len {p : Pan} (h : okP p = true) : (shown p).length ≤ 400 := by
  have hs : (sufP p.flags).length ≤ 18 := by unfold sufP; split <;> split <;> decide
  have hb : (baseP p).length ≤ 310 := by
    unfold baseP
    by_cases t0 : p.tag = 0
    · rw [if_pos t0]; decide
    rw [if_neg t0]
    split
    · unfold faultT; repeat' split
      all_goals decide
    · have hf : fine p.value = true := by rcases okP_flags h with h | h; exact absurd h.1 t0; exact h.2.1
      have := txt_small hf (okP_kind h t0)
      rw [List.length_append, show tPan.length = 6 from rfl]; omega
  unfold shown
  rw [List.length_append]; omega
theorem rlP_shown {p : Pan} (h : okP p = true) (hw : Wf p.value) : rlP (shown p) = (p, 0) := by
  have h1 := shown_len h
  obtain ⟨h2, h3⟩ := cut_shown h
  have h4 := core_base h hw
  unfold rlP
  rw [if_neg (by omega)]
  simp only [h2, h3]
  rw [h4]
  simp only
  have e : (if p.tag = 0 then (2 : Int) else 0) + (if decide (p.flags % 2 = 1) = true then 1 else 0) + (if decide (4 ≤ p.flags) = true then 4 else 0) = p.flags := by
    simp only [decide_eq_true_eq]
    rcases okP_flags h with ⟨a, _, b⟩ | ⟨a, _, b⟩
    · rw [if_pos a]; rcases b with b | b <;> rw [b] <;> decide
    · rw [if_neg a]; rcases b with b | b | b | b <;> rw [b] <;> decide
  rw [e, if_pos (show okP ⟨p.tag, p.value, p.flags⟩ = true from h)]
theorem core_wf {s : Bytes} {p : Pan} (h : coreP s = some p) : Wf p.value ∧ (p.flags = 0 ∨ p.flags = 2) ∧ 0 ≤ p.tag ∧ p.tag ≤ 4 ∧ baseP p = s := by
  have wn : ∀ n : Int, n = 1 ∨ n = 2 ∨ n = 3 → Wf (Val.mk 2 n [] [] false) := fun n hn => .mk (by decide) (by omega) (by decide) (by simp)
  unfold coreP at h
  by_cases h1 : s = tExit
  · rw [if_pos h1] at h; cases h; exact ⟨Wf.zero, .inr rfl, by decide, by decide, h1.symm⟩
  rw [if_neg h1] at h
  by_cases h2 : s = tF1
  · rw [if_pos h2] at h; cases h; exact ⟨wn 1 (by decide), .inl rfl, by decide, by decide, h2.symm⟩
  rw [if_neg h2] at h
  by_cases h3 : s = tF2
  · rw [if_pos h3] at h; cases h; exact ⟨wn 2 (by decide), .inl rfl, by decide, by decide, h3.symm⟩
  rw [if_neg h3] at h
  by_cases h4 : s = tF3
  · rw [if_pos h4] at h; cases h; exact ⟨wn 3 (by decide), .inl rfl, by decide, by decide, h4.symm⟩
  rw [if_neg h4] at h
  by_cases h5 : (cutp tPan s).2 = false
  · rw [if_pos h5] at h; cases h
  rw [if_neg h5] at h
  by_cases h6 : (rvs (cutp tPan s).1).2 ≠ 0
  · rw [if_pos h6] at h; cases h
  rw [if_neg h6] at h
  have h5 : (cutp tPan s).2 = true := by simpa using h5
  obtain ⟨g1, g2, g3⟩ := rvs_inv (Decidable.not_not.1 h6)
  have es : tPan ++ txt (rvs (cutp tPan s).1).1 = s := by
    rw [g2]
    unfold cutp at h5 ⊢
    split at h5
    · rename_i h7
      have := List.take_append_drop tPan.length s
      rw [h7] at this
      rw [if_pos h7]
      exact this
    · cases h5
  simp only at h
  split at h
  · cases h; exact ⟨g3, .inl rfl, by simp only; decide, by simp only; decide, es⟩
  split at h
  · cases h; exact ⟨g3, .inl rfl, by simp only; decide, by simp only; decide, es⟩
  split at h
  · cases h; exact ⟨g3, .inl rfl, by simp only; decide, by simp only; decide, es⟩
  · cases h
theorem suf_add {f : Int} (hf : f = 0 ∨ f = 2) (r a : Bool) : sufP (f + (if r = true then 1 else 0) + (if a = true then 4 else 0)) = (if r = true then tRec else []) ++ (if a = true then tAb else []) := by
  rcases hf with rfl | rfl <;> cases r <;> cases a <;> rfl
theorem rlP_inv {s : Bytes} (h : (rlP s).2 = 0) : okP (rlP s).1 = true ∧ WfP (rlP s).1 ∧ shown (rlP s).1 = s ∧ s.length ≤ 2000 := by
  unfold rlP at h ⊢
  by_cases hl : 2000 < s.length
  · rw [if_pos hl] at h; cases h
  rw [if_neg hl] at h ⊢
  simp only at h ⊢
  have ha1 := @cuts_yes tAb s
  have ha2 := @cuts_no tAb s
  generalize cuts tAb s = a at h ha1 ha2 ⊢
  have hr1 := @cuts_yes tRec a.1
  have hr2 := @cuts_no tRec a.1
  generalize cuts tRec a.1 = r at h hr1 hr2 ⊢
  cases hc : coreP r.1 with
  | none => rw [hc] at h; cases h
  | some p =>
    rw [hc] at h
    simp only at h ⊢
    obtain ⟨g1, g2, g3, g3', g4⟩ := core_wf hc
    by_cases ho : okP ⟨p.tag, p.value, p.flags + (if r.2 = true then 1 else 0) + (if a.2 = true then 4 else 0)⟩ = true
    · rw [if_pos ho]
      refine ⟨ho, ⟨⟨g3, by simp only; omega⟩, g1, ?_⟩, ?_, by omega⟩
      · simp only; constructor <;> (split <;> split <;> omega)
      · have e : baseP ⟨p.tag, p.value, p.flags + (if r.2 = true then 1 else 0) + (if a.2 = true then 4 else 0)⟩ = r.1 := g4
        unfold shown
        rw [e]
        simp only
        rw [suf_add g2]
        cases hr : r.2 with
        | true =>
          cases ha : a.2 with
          | true => rw [ha1 ha, hr1 hr]; simp
          | false => rw [← ha2 ha, hr1 hr]; simp
        | false =>
          cases ha : a.2 with
          | true => rw [ha1 ha, ← hr2 hr]; simp
          | false => rw [← ha2 ha, ← hr2 hr]; simp
    · rw [if_neg ho] at h; cases h
end Go.AM

/- Parts of the proof. -/
namespace Go.AM
open Go
structure Has38 (prog : Prog) : Prop extends Has03 prog, HasB prog where
  f71 : prog.fn 71 = some pf71
  f72 : prog.fn 72 = some pf72
  f74 : prog.fn 74 = some pf74
  f75 : prog.fn 75 = some pf75
  f76 : prog.fn 76 = some pf76
  f77 : prog.fn 77 = some pf77
  f78 : prog.fn 78 = some pf78
  f102 : prog.fn 102 = some pf102
  f103 : prog.fn 103 = some pf103
  f104 : prog.fn 104 = some pf104
  f106 : prog.fn 106 = some pf106
  f107 : prog.fn 107 = some pf107
  f108 : prog.fn 108 = some pf108
  f109 : prog.fn 109 = some pf109
  f110 : prog.fn 110 = some pf110
  f127 : prog.fn 127 = some pf127
  f128 : prog.fn 128 = some pf128
  f129 : prog.fn 129 = some pf129
  f130 : prog.fn 130 = some pf130
  f131 : prog.fn 131 = some pf131
  f132 : prog.fn 132 = some pf132
  f133 : prog.fn 133 = some pf133
  f134 : prog.fn 134 = some pf134
  f135 : prog.fn 135 = some pf135
  f136 : prog.fn 136 = some pf136
section
variable {prog : Prog} (H : Has38 prog)
include H
theorem c136 (v : Val) : Pus prog 136 [v.av] (.b (decide (v.list.length = 0 ∧ v.cut = false))) := by
  obtain ⟨x, rfl, h⟩ := p136 H.f136 (v0 := v) (K := fun x => x = decide (v.list.length = 0 ∧ v.cut = false)) (by
    unfold T136_0
    refine ⟨fun h => ?_, fun h => ?_⟩
    · cases v.cut
      · exact (decide_eq_true ⟨by omega, rfl⟩).symm
      · exact (decide_eq_false (by rintro ⟨_, h⟩; cases h)).symm
    · exact (decide_eq_false (by rintro ⟨h1, _⟩; omega)).symm)
  exact h
theorem c102 : ∀ (d : Nat) {v : Val}, Wf v → d ≤ 1000 → Pus prog 102 [v.av, .i .i64 (d : Int)] (.b (deepv d v))
  | 0, v, hw, hd => by
    obtain ⟨x, rfl, h⟩ := p102 H.f102 (v0 := v) (most1 := ((0 : Nat) : Int)) (K := fun x => x = deepv 0 v) (by
      unfold T102_0
      exact ⟨fun _ => rfl, fun h => absurd rfl h⟩)
    exact h
  | d + 1, v, hw, hd => by
    have ih := @c102 d
    obtain ⟨x, rfl, h⟩ := p102 H.f102 (v0 := v) (most1 := ((d + 1 : Nat) : Int)) (K := fun x => x = deepv (d + 1) v) (by
      have hm : IntKind.i64.wrap (((d + 1 : Nat) : Int) - 1) = (d : Int) := by rw [wr_i64 (by omega) (by omega)]; omega
      unfold T102_0
      refine ⟨fun h => absurd h (by omega), fun _ => ⟨fun h => ?_, fun h1 => ⟨fun h => ?_, fun h2 P hP => ?_⟩⟩⟩
      · rw [deepv, decide_eq_true (show 100 < v.text.length by omega)]; rfl
      · rw [deepv, decide_eq_true (show 400 < v.list.length by omega), Bool.or_true]; rfl
      · have e : deepv (d + 1) v = v.list.any (deepv d) := by
          rw [deepv, decide_eq_false (by omega), decide_eq_false (by omega)]; rfl
        refine loop_inv (P := fun _ i => P i v) (fun _ => ()) v.list.length (fun i => (v.list.take i).any (deepv d) = false) (by simp) (fun hI => ?_) (fun i hi hI ihP => ?_)
        · apply hP
          unfold T102_1 T102_2
          refine ⟨fun h => absurd h (by omega), fun _ => ?_⟩
          rw [List.take_length] at hI
          rw [e, hI]
        · apply hP
          unfold T102_1
          refine ⟨fun _ => ⟨by omega, _, get_at hi, _, by rw [hm]; exact ih (hw.e _ (List.getElem_mem hi)) (by omega), fun h3 => ?_, fun h3 => ?_⟩, fun h => absurd (show (i : Int) < v.list.length by omega) h⟩
          · rw [e]
            exact (List.any_eq_true.2 ⟨_, List.getElem_mem hi, h3⟩).symm
          · rw [wr_succ (by omega)]
            refine ihP ?_
            rw [List.take_succ_eq_append_getElem hi, List.any_append, hI]
            simpa using h3)
    exact h
omit H in
theorem rNs_snoc {l : List Val} {i n : Nat} (hi : i < l.length) (hn : rNs (l.take i) n ≤ 5000) : rNs (l.take (i + 1)) n = rNs (l.take i) n + rN l[i] := by
  have key : ∀ (l : List Val) (v : Val) (n : Nat), rNs l n ≤ 5000 → rNs (l ++ [v]) n = rNs l n + rN v := by
    intro l
    induction l with
    | nil => intro v n h; rw [rNs] at h; simp [rNs, h]
    | cons w l ih =>
      intro v n h
      rw [rNs] at h
      by_cases hn : n ≤ 5000
      · rw [if_pos hn] at h
        simp only [List.cons_append, rNs, if_pos hn]
        exact ih v _ h
      · rw [if_neg hn] at h
        exact absurd h hn
  rw [List.take_succ_eq_append_getElem hi, key _ _ _ hn]
omit H in
theorem rNs_stop {l : List Val} {i n : Nat} (h : 5000 < rNs (l.take i) n) : rNs l n = rNs (l.take i) n := by
  have key : ∀ (l m : List Val) (n : Nat), 5000 < rNs l n → rNs (l ++ m) n = rNs l n := by
    intro l
    induction l with
    | nil =>
      intro m n h
      rw [rNs] at h
      cases m with
      | nil => rfl
      | cons w m => simp only [List.nil_append, rNs]; rw [if_neg (by omega)]
    | cons w l ih =>
      intro m n h
      rw [rNs] at h
      simp only [List.cons_append, rNs]
      split
      · rename_i hn; rw [if_pos hn] at h; exact ih m _ h
      · rfl
  have := key (l.take i) (l.drop i) n h
  rwa [List.take_append_drop] at this
theorem c103 : ∀ (d : Nat) {v : Val}, Sm d v → d ≤ 1000 → Pus prog 103 [v.av] (.i .i64 (rN v : Int))
  | 0, v, hs, hd => hs.elim
  | d + 1, v, hs, hd => by
    have ih := @c103 d
    obtain ⟨x, rfl, h⟩ := p103 H.f103 (v0 := v) (K := fun x => x = (rN v : Int)) (by
      unfold T103_0
      intro P hP
      have e := rN_eq v
      refine loop_inv (P := fun n i => P n i v) (fun i => (rNs (v.list.take i) 1 : Int)) v.list.length (fun _ => True) trivial (fun _ => ?_) (fun i hi _ ihP => ?_)
      · apply hP
        unfold T103_1 T103_2
        refine ⟨fun h => absurd h (by omega), fun _ => ?_⟩
        rw [List.take_length, e]
      · apply hP
        unfold T103_1 T103_2
        refine ⟨fun _ => ⟨fun h => ⟨by omega, _, get_at hi, _, ih (hs.2 _ (List.getElem_mem hi)) (by omega), ?_⟩, fun h => ?_⟩, fun h => absurd (show (i : Int) < v.list.length by omega) h⟩
        · have h1 := rN_le (hs.2 _ (List.getElem_mem hi))
          have h2 := hs.1
          have h3 := rNs_snoc (l := v.list) (n := 1) hi (by omega)
          have := ihP trivial
          rw [h3] at this
          rw [wr_i64 (by omega) (by omega), wr_succ (by omega)]
          simpa using this
        · rw [e, rNs_stop (i := i) (by omega)])
    exact h
theorem c71 {v : Val} (hw : Wf v) : Pus prog 71 [v.av] (.b (greatv v)) := by
  obtain ⟨x, rfl, h⟩ := p71 H.f71 (v0 := v) (K := fun x => x = greatv v) (by
    unfold T71_0 greatv
    refine ⟨_, c102 H 14 hw (by decide), fun h => by rw [h]; rfl, fun h => ⟨_, c103 H 14 (deepv_sm h) (by decide), ?_⟩⟩
    rw [h, Bool.false_or]
    exact decide_eq_decide.2 (by omega))
  exact h
end
end Go.AM
