/- Parts of the proof: U40c, U40d, U40e, K40, C30, C30b, V38b, V38c. -/
import Derived.Test.YtheacfnopahmjaaG2
import Derived.Test.YtheacfnopahmjaaRows
import Derived.Test.YtheacfnopahmjaaG3
import Derived.Test.YtheacfnopahmjaaG4
import Derived.Test.YtheacfnopahmjaaG5
import Derived.Shelf.Strings.Builder1
set_option linter.all false
/- Parts of the proof. -/
namespace Go.AM
open Go
set_option linter.unusedVariables false
set_option linter.unusedSimpArgs false
set_option maxRecDepth 4000
attribute [local irreducible] WO fillCells fillRows
def r234_0:List AI:=[oO 2 (.box 3 (.t 0)),
 oO 3 (.box 8 (.t 1)),
 oC 4 (.s []),
 oC 5 (.i .i64 0)]
def r234_1:List AI:=[oF 12 2 2,
 oL 13 12,
 oF 14 1 3,
 oL 15 14,
 oO 16 (.iaL 7 (.t 13) (.t 15)),
 oF 17 0 16,
 oL 18 17,
 oO 19 (.call false 11 [(.t 18)]),
 oM 11 19,
 oE 20 0 11,
 oE 21 1 11,
 oM 6 20,
 oM 7 21]
def r234_2:List AI:=[oM 22 7,
 oB 23 .neq (.t 22) (.c (.i .i64 0))]
def r234_3:List AI:=[oM 24 7,
 oC 4 (.s []),
 oM 5 24]
def r234_4:List AI:=[oF 25 0 3,
 oL 26 25,
 oO 27 (.call false 216 [(.t 26)]),
 oB 28 .add (.c (.s [100,101,102,101,114,32])) (.t 27),
 oB 29 .add (.t 28) (.c (.s [32])),
 oF 30 1 3,
 oL 31 30,
 oO 32 (.call false 216 [(.t 31)]),
 oB 33 .add (.t 29) (.t 32),
 oB 34 .add (.t 33) (.c (.s [32])),
 oM 35 6,
 oB 36 .add (.t 34) (.t 35),
 oM 8 36]
def r234_5:List AI:=[oF 37 2 3,
 oL 38 37]
def r234_6:List AI:=[oF 40 3 3,
 oO 41 (.load 5 true (.t 40)),
 oO 42 (.call false 72 [(.t 41)]),
 oM 39 42,
 oE 43 0 39,
 oE 44 1 39,
 oM 9 43,
 oM 10 44]
def r234_7:List AI:=[oM 45 10,
 oB 46 .neq (.t 45) (.c (.i .i64 0))]
def r234_8:List AI:=[oM 47 10,
 oC 4 (.s []),
 oM 5 47]
def r234_9:List AI:=[oM 48 8,
 oM 49 9,
 oB 50 .add (.c (.s [32,119,105,116,104,32])) (.t 49),
 oB 51 .add (.t 48) (.t 50),
 oM 8 51]
def r234_10:List AI:=[oM 52 8,
 oM 4 52,
 oC 5 (.i .i64 0)]
abbrev c234_0:AC:=(.seq (.reg 10 r234_10) .ret)
abbrev b234:AC:=(.seq (.reg 0 r234_0) (.seq (.reg 1 r234_1) (.seq (.seq (.reg 2 r234_2) (.cond (.t 23) (.seq (.reg 3 r234_3) .ret) .skip)) (.seq (.reg 4 r234_4) (.seq (.seq (.reg 5 r234_5) (.cond (.t 38) (.seq (.reg 6 r234_6) (.seq (.seq (.reg 7 r234_7) (.cond (.t 46) (.seq (.reg 8 r234_8) .ret) .skip)) (.reg 9 r234_9))) .skip)) c234_0)))))
def pf234:AF:={ nt:=53,res:=[.tmp 4,.tmp 5],body:=b234 }
abbrev H234 (Q:AE→Sl→St→Prop)(K:List UInt8→Int→Prop):Prop:=∀(σ:Sl)(st:St)(res0:List UInt8)(res1:Int),σ 4 = .s res0→σ 5 = .i .i64 res1→K res0 res1→Q .ret σ st
def T234_1 (prog:Prog)(K:List UInt8→Int→Prop)(s8:List UInt8):Prop:=
  K s8 0
def T234_0 (prog:Prog)(K:List UInt8→Int→Prop)(m0:Img)(d1:Dfr):Prop:=
  0≤d1.func∧∃c'1:Fun,m0.funcs[(d1.func).toNat]? = some c'1∧∃r'3:List UInt8,∃r'4:Int,Pus prog 11 [.s c'1.name] (.tup [.s r'3,.i .i64 r'4])∧(r'4≠0→K ([]:List UInt8) r'4)∧(¬(r'4≠0)→∃r'7:List UInt8,Pus prog 216 [.i .i64 d1.frame] (.s r'7)∧([100,101,102,101,114,32]:List UInt8).length + r'7.length≤maxStr∧(([100,101,102,101,114,32]:List UInt8) ++ r'7).length + ([32]:List UInt8).length≤maxStr∧∃r'9:List UInt8,Pus prog 216 [.i .i64 d1.func] (.s r'9)∧((([100,101,102,101,114,32]:List UInt8) ++ r'7) ++ ([32]:List UInt8)).length + r'9.length≤maxStr∧(((([100,101,102,101,114,32]:List UInt8) ++ r'7) ++ ([32]:List UInt8)) ++ r'9).length + ([32]:List UInt8).length≤maxStr∧((((([100,101,102,101,114,32]:List UInt8) ++ r'7) ++ ([32]:List UInt8)) ++ r'9) ++ ([32]:List UInt8)).length + r'3.length≤maxStr∧(d1.hasArg = true→∃r'12:List UInt8,∃r'13:Int,Pus prog 72 [d1.arg.av] (.tup [.s r'12,.i .i64 r'13])∧(r'13≠0→K ([]:List UInt8) r'13)∧(¬(r'13≠0)→([32,119,105,116,104,32]:List UInt8).length + r'12.length≤maxStr∧(((((([100,101,102,101,114,32]:List UInt8) ++ r'7) ++ ([32]:List UInt8)) ++ r'9) ++ ([32]:List UInt8)) ++ r'3).length + (([32,119,105,116,104,32]:List UInt8) ++ r'12).length≤maxStr∧T234_1 prog K ((((((([100,101,102,101,114,32]:List UInt8) ++ r'7) ++ ([32]:List UInt8)) ++ r'9) ++ ([32]:List UInt8)) ++ r'3) ++ (([32,119,105,116,104,32]:List UInt8) ++ r'12))))∧(d1.hasArg = false→T234_1 prog K (((((([100,101,102,101,114,32]:List UInt8) ++ r'7) ++ ([32]:List UInt8)) ++ r'9) ++ ([32]:List UInt8)) ++ r'3)))
section
variable {prog:Prog}{d:Nat}{Q:AE→Sl→St→Prop}{K:List UInt8→Int→Prop}(hQ:H234 Q K){σ:Sl}{st:St}
include hQ
theorem w234_1 {s8:List UInt8}(H8:σ 8 = .s s8)(h:T234_1 prog K s8):W prog d c234_0 σ st Q:=
 q_ rfl (m_ (m_ (m_ (e_ (rt_ (hQ _ _ _ _ H8 rfl h))))))
theorem w234_0 {m0:Img}{d1:Dfr}(H0:σ 0 = m0.av)(H1:σ 1 = d1.av)(h:T234_0 prog K m0 d1):W prog d (.seq (.reg 0 r234_0) (.seq (.reg 1 r234_1) (.seq (.seq (.reg 2 r234_2) (.cond (.t 23) (.seq (.reg 3 r234_3) .ret) .skip)) (.seq (.reg 4 r234_4) (.seq (.seq (.reg 5 r234_5) (.cond (.t 38) (.seq (.reg 6 r234_6) (.seq (.seq (.reg 7 r234_7) (.cond (.t 46) (.seq (.reg 8 r234_8) .ret) .skip)) (.reg 9 r234_9))) .skip)) c234_0))))) σ st Q:=
 q_ rfl (s_box H0 rfl (s_box H1 rfl (m_ (m_ (e_ (q_ rfl (f_ rfl (l_ rfl (lk_other rfl lk_here) rfl rfl (f_ rfl (l_ rfl lk_here rfl rfl (h.2.elim fun c'1 e'2=>ia_ rfl rfl h.1 e'2.1 (Fun.row_eq c'1) rfl (ff_ rfl (lf_ rfl rfl rfl (e'2.2.elim fun r'3 e'17=>e'17.elim fun r'4 e'5=>ca_ (sc rfl rfl sn) e'5.1 (m_ (x_ rfl rfl (x_ rfl rfl (m_ (m_ (e_ (sq_ (q_ rfl (m_ (b_ rfl rfl neq_ (e_ (cs_ rfl (fun g'6=>q_ rfl (m_ (m_ (m_ (e_ (rt_ (hQ _ _ _ _ rfl rfl (e'5.2.1 g'6)))))))) (fun g'6=>sk_ (q_ rfl (f_ rfl (l_ rfl lk_here rfl rfl ((e'5.2.2 g'6).elim fun r'7 e'8=>ca_ (sc rfl rfl sn) e'8.1 (b_ rfl rfl (abin_cat' e'8.2.1) (b_ rfl rfl (abin_cat' e'8.2.2.1) (f_ rfl (l_ rfl lk_here rfl rfl (e'8.2.2.2.elim fun r'9 e'10=>ca_ (sc rfl rfl sn) e'10.1 (b_ rfl rfl (abin_cat' e'10.2.1) (b_ rfl rfl (abin_cat' e'10.2.2.1) (m_ (b_ rfl rfl (abin_cat' e'10.2.2.2.1) (m_ (e_ (sq_ (q_ rfl (f_ rfl (l_ rfl lk_here rfl rfl (e_ (cb_ rfl (fun g'11=>q_ rfl (f_ rfl (l_ rfl lk_here rfl rfl ((e'10.2.2.2.2.1 g'11).elim fun r'12 e'16=>e'16.elim fun r'13 e'14=>ca_ (sc rfl rfl sn) e'14.1 (m_ (x_ rfl rfl (x_ rfl rfl (m_ (m_ (e_ (sq_ (q_ rfl (m_ (b_ rfl rfl neq_ (e_ (cs_ rfl (fun g'15=>q_ rfl (m_ (m_ (m_ (e_ (rt_ (hQ _ _ _ _ rfl rfl (e'14.2.1 g'15)))))))) (fun g'15=>sk_ (W.reg0 rfl fun _ _=>m_ (m_ (b_ rfl rfl (abin_cat' (e'14.2.2 g'15).1) (b_ rfl rfl (abin_cat' (e'14.2.2 g'15).2.1) (m_ (e_ (w234_1 hQ rfl (e'14.2.2 g'15).2.2)))))))))))))))))))))))) (fun g'11=>sk_ (w234_1 hQ rfl (e'10.2.2.2.2.2 g'11)))))))))))))))))))))))))))))))))))))))))))))))))))
end
theorem p234 {prog:Prog}(hf:prog.fn 234 = some pf234){m0:Img}{d1:Dfr}{K:List UInt8→Int→Prop}(h:T234_0 prog K m0 d1) :∃res0:List UInt8,∃res1:Int,K res0 res1∧Pus prog 234 [m0.av,d1.av] (.tup [.s res0,.i .i64 res1]):=by
  obtain ⟨v,hv,res0,res1,hk,rfl⟩:=Pus.of (K:=fun v=>∃res0:List UInt8,∃res1:Int,K res0 res1∧v = .tup [.s res0,.i .i64 res1]) hf rfl (w234_0 (σ:=sl0 [m0.av,d1.av]) (fun σ st   res0 res1 H4 H5 hk=>⟨.tup [.s res0,.i .i64 res1],by simp only [pf234,ares,aresL,H4,H5,ares1,Option.map_some],_,rfl,res0,res1,hk,rfl⟩) rfl rfl h)
  exact ⟨res0,res1,hk,hv⟩
def r220_0:List AI:=[oO 2 (.box 3 (.t 0)),
 oO 3 (.box 5 (.t 1)),
 oC 4 (.sl .full []),
 oC 5 (.i .i64 0)]
def r220_1:List AI:=[oC 6 (.sl .full [])]
def r220_2:List AI:=[oF 19 2 3,
 oL 20 19,
 oO 21 (.len false (.t 20)),
 oC 22 (.i .i64 0)]
def r220_3:List AI:=[oB 23 .lss (.t 22) (.t 21)]
def r220_4:List AI:=[oM 24 22,
 oO 25 (.iaL 4 (.t 20) (.t 22)),
 oO 26 (.load 4 true (.t 25)),
 oO 8 (.alloc [.i .i64 0,.i .i64 0,.i .u64 0,.sl .full []]),
 oM 7 24,
 oS 4 8 26]
def r220_5:List AI:=[oO 28 (.load 3 true (.t 2)),
 oM 29 7,
 oO 30 (.load 4 true (.t 8)),
 oO 31 (.call false 82 [(.t 28),(.t 29),(.t 30)]),
 oM 27 31,
 oE 32 0 27,
 oE 33 1 27,
 oM 9 32,
 oM 10 33]
def r220_6:List AI:=[oM 34 10,
 oB 35 .neq (.t 34) (.c (.i .i64 0))]
def r220_7:List AI:=[oM 36 10,
 oC 4 (.sl .full []),
 oM 5 36]
def r220_8:List AI:=[oM 37 6,
 oM 38 9,
 oO 39 (.app 1 16 (.t 37) (.t 38)),
 oM 6 39]
def r220_9:List AI:=[oB 40 .add (.t 22) (.c (.i .i64 1)),
 oM 22 40]
def r220_10:List AI:=[oF 41 3 3,
 oL 42 41,
 oO 43 (.len false (.t 42)),
 oC 44 (.i .i64 0)]
def r220_11:List AI:=[oB 45 .lss (.t 44) (.t 43)]
def r220_12:List AI:=[oO 46 (.iaL 8 (.t 42) (.t 44)),
 oO 47 (.load 8 true (.t 46)),
 oO 12 (.alloc [.i .i64 0,.i .i64 0,.b false,.i .u8 0,.i .i64 0,.s [],.sl .full [],.b false]),
 oS 8 12 47]
def r220_13:List AI:=[oO 49 (.load 3 true (.t 2)),
 oO 50 (.load 8 true (.t 12)),
 oO 51 (.call false 234 [(.t 49),(.t 50)]),
 oM 48 51,
 oE 52 0 48,
 oE 53 1 48,
 oM 13 52,
 oM 14 53]
def r220_14:List AI:=[oM 54 14,
 oB 55 .neq (.t 54) (.c (.i .i64 0))]
def r220_15:List AI:=[oM 56 14,
 oC 4 (.sl .full []),
 oM 5 56]
def r220_16:List AI:=[oM 57 6,
 oM 58 13,
 oO 59 (.bslice [.s []] 1 [(0,(.t 58))]),
 oO 60 (.app 1 16 (.t 57) (.t 59)),
 oM 6 60]
def r220_17:List AI:=[oB 61 .add (.t 44) (.c (.i .i64 1)),
 oM 44 61]
def r220_18:List AI:=[oF 62 4 3,
 oL 63 62,
 oO 64 (.len false (.t 63)),
 oC 65 (.i .i64 0)]
def r220_19:List AI:=[oB 66 .lss (.t 65) (.t 64)]
def r220_20:List AI:=[oO 67 (.iaL 7 (.t 63) (.t 65)),
 oO 68 (.load 7 true (.t 67)),
 oO 16 (.alloc [.i .u64 0,.i .u8 0,.i .i64 0,.s [],.sl .full [],.b false,.i .u64 0]),
 oS 7 16 68]
def r220_21:List AI:=[oO 70 (.load 7 true (.t 16)),
 oO 71 (.call false 154 [(.t 70)]),
 oM 69 71,
 oE 72 0 69,
 oE 73 1 69,
 oM 17 72,
 oM 18 73]
def r220_22:List AI:=[oM 74 18,
 oB 75 .neq (.t 74) (.c (.i .i64 0))]
def r220_23:List AI:=[oM 76 18,
 oC 4 (.sl .full []),
 oM 5 76]
def r220_24:List AI:=[oM 77 6,
 oM 78 17,
 oO 79 (.bslice [.s []] 1 [(0,(.t 78))]),
 oO 80 (.app 1 16 (.t 77) (.t 79)),
 oM 6 80]
def r220_25:List AI:=[oB 81 .add (.t 65) (.c (.i .i64 1)),
 oM 65 81]
def r220_26:List AI:=[oM 82 6,
 oM 4 82,
 oC 5 (.i .i64 0)]
abbrev l220_0:AC:=(.seq (.reg 3 r220_3) (.seq (.cond (.t 23) .skip (.exit 0)) (.seq (.block 1 (.seq (.reg 4 r220_4) (.seq (.reg 5 r220_5) (.seq (.seq (.reg 6 r220_6) (.cond (.t 35) (.seq (.reg 7 r220_7) .ret) .skip)) (.reg 8 r220_8))))) (.reg 9 r220_9))))
abbrev l220_1:AC:=(.seq (.reg 11 r220_11) (.seq (.cond (.t 45) .skip (.exit 2)) (.seq (.block 3 (.seq (.reg 12 r220_12) (.seq (.reg 13 r220_13) (.seq (.seq (.reg 14 r220_14) (.cond (.t 55) (.seq (.reg 15 r220_15) .ret) .skip)) (.reg 16 r220_16))))) (.reg 17 r220_17))))
abbrev l220_2:AC:=(.seq (.reg 19 r220_19) (.seq (.cond (.t 66) .skip (.exit 4)) (.seq (.block 5 (.seq (.reg 20 r220_20) (.seq (.reg 21 r220_21) (.seq (.seq (.reg 22 r220_22) (.cond (.t 75) (.seq (.reg 23 r220_23) .ret) .skip)) (.reg 24 r220_24))))) (.reg 25 r220_25))))
abbrev c220_3:AC:=(.seq (.reg 26 r220_26) .ret)
abbrev c220_4:AC:=(.seq (.seq (.reg 18 r220_18) (.block 4 (.loop l220_2))) c220_3)
abbrev c220_5:AC:=(.seq (.seq (.reg 10 r220_10) (.block 2 (.loop l220_1))) c220_4)
abbrev c220_6:AC:=(.seq (.seq (.reg 2 r220_2) (.block 0 (.loop l220_0))) c220_5)
abbrev c220_7:AC:=(.seq (.reg 1 r220_1) c220_6)
abbrev b220:AC:=(.seq (.reg 0 r220_0) c220_7)
def pf220:AF:={ nt:=83,res:=[.tmp 4,.tmp 5],body:=b220 }
abbrev H220 (Q:AE→Sl→St→Prop)(K:List (List UInt8)→Int→Prop):Prop:=∀(σ:Sl)(st:St)(o0:Own)(res0:List (List UInt8))(res1:Int),σ 4 = .sl o0 (List.map rowS res0)→σ 5 = .i .i64 res1→K res0 res1→Q .ret σ st
abbrev I220_0 (prog:Prog)(d:Nat)(Q:AE→Sl→St→Prop)(t20:List Frm)(t21:Int)(out6:List (List UInt8))(t22:Int)(m0:Img)(m1:Rou):Prop:=
  ∀(σ:Sl)(st:St) (o_out6 o_t20:Own) (v0 v1:Nat),σ 2 = .p (d,0) v0 0→σ 3 = .p (d,1) v1 0→σ 6 = .sl o_out6 (List.map rowS out6)→σ 20 = .sl o_t20 (List.map Frm.row t20)→σ 21 = .i .i64 t21→σ 22 = .i .i64 t22→ApM d st.ow o_out6 out6.length→lk st.bx (d,0) = some (v0,[.sl .ext (List.map Typ.row m0.types),.sl .ext (List.map rowS m0.texts),.sl .ext (List.map Fun.row m0.funcs)])→lk st.bx (d,1) = some (v1,[.i .u8 m1.status,.i .i64 m1.key,.sl .ext (List.map Frm.row m1.frames),.sl .ext (List.map Dfr.row m1.defers),.sl .ext (List.map Pan.row m1.panics)])→W prog d (.loop l220_0) σ st (blockW 0 (thenW prog d c220_5 Q))
abbrev I220_1 (prog:Prog)(d:Nat)(Q:AE→Sl→St→Prop)(t42:List Dfr)(t43:Int)(out6:List (List UInt8))(t44:Int)(m0:Img)(m1:Rou):Prop:=
  ∀(σ:Sl)(st:St) (o_out6 o_t42:Own) (v0 v1:Nat),σ 2 = .p (d,0) v0 0→σ 3 = .p (d,1) v1 0→σ 6 = .sl o_out6 (List.map rowS out6)→σ 42 = .sl o_t42 (List.map Dfr.row t42)→σ 43 = .i .i64 t43→σ 44 = .i .i64 t44→ApM d st.ow o_out6 out6.length→lk st.bx (d,0) = some (v0,[.sl .ext (List.map Typ.row m0.types),.sl .ext (List.map rowS m0.texts),.sl .ext (List.map Fun.row m0.funcs)])→lk st.bx (d,1) = some (v1,[.i .u8 m1.status,.i .i64 m1.key,.sl .ext (List.map Frm.row m1.frames),.sl .ext (List.map Dfr.row m1.defers),.sl .ext (List.map Pan.row m1.panics)])→W prog d (.loop l220_1) σ st (blockW 2 (thenW prog d c220_4 Q))
abbrev I220_2 (prog:Prog)(d:Nat)(Q:AE→Sl→St→Prop)(t63:List Pan)(t64:Int)(out6:List (List UInt8))(t65:Int):Prop:=
  ∀(σ:Sl)(st:St) (o_out6 o_t63:Own),σ 6 = .sl o_out6 (List.map rowS out6)→σ 63 = .sl o_t63 (List.map Pan.row t63)→σ 64 = .i .i64 t64→σ 65 = .i .i64 t65→ApM d st.ow o_out6 out6.length→W prog d (.loop l220_2) σ st (blockW 4 (thenW prog d c220_3 Q))
def T220_8 (prog:Prog)(K:List (List UInt8)→Int→Prop)(out6:List (List UInt8)):Prop:=
  K out6 0
def T220_7 (prog:Prog)(K:List (List UInt8)→Int→Prop)(P2:List (List UInt8)→Int→Prop)(out6:List (List UInt8))(t63:List Pan)(t64:Int)(t65:Int):Prop:=
  (t65 < t64→0≤t65∧∃c'2:Pan,t63[(t65).toNat]? = some c'2∧∃r'4:List UInt8,∃r'5:Int,Pus prog 154 [c'2.av] (.tup [.s r'4,.i .i64 r'5])∧(r'5≠0→K ([]:List (List UInt8)) r'5)∧(¬(r'5≠0)→Fit (out6.length + [r'4].length) 16∧P2 (out6 ++ [r'4]) (IntKind.i64.wrap (t65 + 1))))∧(¬(t65 < t64)→T220_8 prog K out6)
def T220_6 (prog:Prog)(K:List (List UInt8)→Int→Prop)(out6:List (List UInt8))(m1:Rou):Prop:=
  ∀P2:List (List UInt8)→Int→Prop,(∀(out6:List (List UInt8))(t65:Int),T220_7 prog K P2 out6 m1.panics (m1.panics.length:Int) t65→P2 out6 t65)→P2 out6 0
def T220_5 (prog:Prog)(K:List (List UInt8)→Int→Prop)(P1:List (List UInt8)→Int→Img→Rou→Prop)(out6:List (List UInt8))(t42:List Dfr)(t43:Int)(t44:Int)(m0:Img)(m1:Rou):Prop:=
  (t44 < t43→0≤t44∧∃c'2:Dfr,t42[(t44).toNat]? = some c'2∧∃r'4:List UInt8,∃r'5:Int,Pus prog 234 [m0.av,c'2.av] (.tup [.s r'4,.i .i64 r'5])∧(r'5≠0→K ([]:List (List UInt8)) r'5)∧(¬(r'5≠0)→Fit (out6.length + [r'4].length) 16∧P1 (out6 ++ [r'4]) (IntKind.i64.wrap (t44 + 1)) m0 m1))∧(¬(t44 < t43)→T220_6 prog K out6 m1)
def T220_4 (prog:Prog)(K:List (List UInt8)→Int→Prop)(out6:List (List UInt8))(m0:Img)(m1:Rou):Prop:=
  ∀P1:List (List UInt8)→Int→Img→Rou→Prop,(∀(out6:List (List UInt8))(t44:Int)(m0:Img)(m1_b:Rou),T220_5 prog K P1 out6 m1.defers (m1.defers.length:Int) t44 m0 m1_b→P1 out6 t44 m0 m1_b)→P1 out6 0 m0 m1
def T220_3 (prog:Prog)(K:List (List UInt8)→Int→Prop)(P0:List (List UInt8)→Int→Img→Rou→Prop)(out6:List (List UInt8))(t20:List Frm)(t21:Int)(t22:Int)(m0:Img)(m1:Rou):Prop:=
  (t22 < t21→0≤t22∧∃c'2:Frm,t20[(t22).toNat]? = some c'2∧∃r'4:List (List UInt8),∃r'5:Int,Pus prog 82 [m0.av,.i .i64 t22,c'2.av] (.tup [.sl .ext (List.map rowS r'4),.i .i64 r'5])∧(r'5≠0→K ([]:List (List UInt8)) r'5)∧(¬(r'5≠0)→Fit (out6.length + r'4.length) 16∧P0 (out6 ++ r'4) (IntKind.i64.wrap (t22 + 1)) m0 m1))∧(¬(t22 < t21)→T220_4 prog K out6 m0 m1)
def T220_2 (prog:Prog)(K:List (List UInt8)→Int→Prop)(out6:List (List UInt8))(m0:Img)(m1:Rou):Prop:=
  ∀P0:List (List UInt8)→Int→Img→Rou→Prop,(∀(out6:List (List UInt8))(t22:Int)(m0:Img)(m1_b:Rou),T220_3 prog K P0 out6 m1.frames (m1.frames.length:Int) t22 m0 m1_b→P0 out6 t22 m0 m1_b)→P0 out6 0 m0 m1
def T220_1 (prog:Prog)(K:List (List UInt8)→Int→Prop)(m0:Img)(m1:Rou):Prop:=
  T220_2 prog K ([]:List (List UInt8)) m0 m1
def T220_0 (prog:Prog)(K:List (List UInt8)→Int→Prop)(m0:Img)(x1:Rou):Prop:=
  T220_1 prog K m0 x1
section
variable {prog:Prog}{d:Nat}{Q:AE→Sl→St→Prop}{K:List (List UInt8)→Int→Prop}(hQ:H220 Q K){σ:Sl}{st:St}
include hQ
theorem w220_8 {out6:List (List UInt8)}{o_out6:Own}(H6:σ 6 = .sl o_out6 (List.map rowS out6))(A6:ApM d st.ow o_out6 out6.length)(h:T220_8 prog K out6):W prog d c220_3 σ st Q:=
 q_ rfl (s_mvL H6 (s_mvL rfl (m_ (e_ (rt_ (hQ _ _ _ _ _ rfl rfl h))))))
theorem w220_7 {out6:List (List UInt8)}{t63:List Pan}{t64 t65:Int}{P2:List (List UInt8)→Int→Prop} (kP2 :∀(out6:List (List UInt8))(t65:Int),P2 out6 t65→I220_2 prog d Q t63 t64 out6 t65){o_out6 o_t63:Own}(H6:σ 6 = .sl o_out6 (List.map rowS out6))(H63:σ 63 = .sl o_t63 (List.map Pan.row t63))(H64:σ 64 = .i .i64 t64)(H65:σ 65 = .i .i64 t65)(A6:ApM d st.ow o_out6 out6.length)(h:T220_7 prog K P2 out6 t63 t64 t65):W prog d l220_2 σ st (thenW prog d (.loop l220_2) (blockW 4 (thenW prog d c220_3 Q))):=
 q_ rfl (b_ H65 H64 lss_ (e_ (sq_ (cs_ rfl (fun g'1=>sk_ (sq_ (bk_ (sq_ (W.reg ((h.1 g'1).2.elim fun c'2 e'3=>ia_ H63 H65 (h.1 g'1).1 e'3.1 (Pan.row_eq c'2) rfl (lf_ rfl rfl rfl (s_alloc (so_ rfl (show lk _ (d,81922) = some (_,([.i .u64 0,.i .u8 0,.i .i64 0,.s [],.sl .full (List.map Val.row ([]:List Val)),.b false,.i .u64 0]:List AV)) from lk_here) rfl rfl rfl (e_ (q_ rfl (l_ rfl lk_here rfl rfl (e'3.2.elim fun r'4 e'13=>e'13.elim fun r'5 e'6=>ca_ (sc rfl rfl sn) e'6.1 (m_ (x_ rfl rfl (x_ rfl rfl (m_ (m_ (e_ (sq_ (q_ rfl (m_ (b_ rfl rfl neq_ (e_ (cs_ rfl (fun g'7=>q_ rfl (m_ (s_mvL (f:=rowS) (l:=[]) rfl (m_ (e_ (rt_ (hQ _ _ _ _ _ rfl rfl (e'6.2.1 g'7)))))))) (fun g'7=>sk_ (W.reg0 rfl fun _ _=>s_mvL H6 (m_ (s_bslM (f:=rowS) (l:=[r'4]) rfl rfl (g_cons rfl rfl rfl g_nil) rfl (s_app rowS_len rfl rfl rfl A6.1 (e'6.2.2 g'7).1 rfl (fun o'8 ow'11 a'9 fr'10 on'12=>s_mvL rfl (e_ (W.reg0 rfl fun _ _=>b_ H65 rfl add_ (m_ (e_ (kP2 _ _ (e'6.2.2 g'7).2 _ _ _ _ rfl H63 H64 rfl (ApM.mk a'9 (Mine.app A6.2 rfl on'12)))))))))))))))))))))))))))))))))))))) (fun g'1=>ex_ (w220_8 hQ H6 A6 (h.2 g'1)))))))
theorem w220_6 {out6:List (List UInt8)}{m1:Rou}{o_out6:Own}{v1:Nat}(H3:σ 3 = .p (d,1) v1 0)(H6:σ 6 = .sl o_out6 (List.map rowS out6))(A6:ApM d st.ow o_out6 out6.length)(B1:lk st.bx (d,1) = some (v1,[.i .u8 m1.status,.i .i64 m1.key,.sl .ext (List.map Frm.row m1.frames),.sl .ext (List.map Dfr.row m1.defers),.sl .ext (List.map Pan.row m1.panics)]))(h:T220_6 prog K out6 m1):W prog d c220_4 σ st Q:=
 sq_ (q_ rfl (f_ H3 (l_ rfl B1 rfl rfl (ll_ rfl (m_ (e_ (bk_ (h (I220_2 prog d Q m1.panics (m1.panics.length:Int)) (fun _ _ hb _ _ _ _ H6 H63 H64 H65 A6=>W.loop (w220_7 hQ (fun _ _ x=>x) H6 H63 H64 H65 A6 hb)) _ _ _ _ H6 rfl rfl rfl A6))))))))
theorem w220_5 {out6:List (List UInt8)}{t42:List Dfr}{t43 t44:Int}{m0:Img}{m1:Rou}{P1:List (List UInt8)→Int→Img→Rou→Prop} (kP1 :∀(out6:List (List UInt8))(t44:Int)(m0:Img)(m1:Rou),P1 out6 t44 m0 m1→I220_1 prog d Q t42 t43 out6 t44 m0 m1){o_out6 o_t42:Own}{v0:Nat}{v1:Nat}(H2:σ 2 = .p (d,0) v0 0)(H3:σ 3 = .p (d,1) v1 0)(H6:σ 6 = .sl o_out6 (List.map rowS out6))(H42:σ 42 = .sl o_t42 (List.map Dfr.row t42))(H43:σ 43 = .i .i64 t43)(H44:σ 44 = .i .i64 t44)(A6:ApM d st.ow o_out6 out6.length)(B0:lk st.bx (d,0) = some (v0,[.sl .ext (List.map Typ.row m0.types),.sl .ext (List.map rowS m0.texts),.sl .ext (List.map Fun.row m0.funcs)]))(B1:lk st.bx (d,1) = some (v1,[.i .u8 m1.status,.i .i64 m1.key,.sl .ext (List.map Frm.row m1.frames),.sl .ext (List.map Dfr.row m1.defers),.sl .ext (List.map Pan.row m1.panics)]))(h:T220_5 prog K P1 out6 t42 t43 t44 m0 m1):W prog d l220_1 σ st (thenW prog d (.loop l220_1) (blockW 2 (thenW prog d c220_4 Q))):=
 q_ rfl (b_ H44 H43 lss_ (e_ (sq_ (cs_ rfl (fun g'1=>sk_ (sq_ (bk_ (sq_ (W.reg ((h.1 g'1).2.elim fun c'2 e'3=>ia_ H42 H44 (h.1 g'1).1 e'3.1 (Dfr.row_eq c'2) rfl (lf_ rfl rfl rfl (s_alloc (so_ rfl (show lk _ (d,49154) = some (_,([.i .i64 0,.i .i64 0,.b false,.i .u8 0,.i .i64 0,.s [],.sl .full (List.map Val.row ([]:List Val)),.b false]:List AV)) from lk_here) rfl rfl rfl (e_ (q_ rfl (l_ H2 (lk_other rfl (lk_other rfl B0)) rfl rfl (l_ rfl lk_here rfl rfl (e'3.2.elim fun r'4 e'13=>e'13.elim fun r'5 e'6=>ca_ (sc rfl rfl (sc rfl rfl sn)) e'6.1 (m_ (x_ rfl rfl (x_ rfl rfl (m_ (m_ (e_ (sq_ (q_ rfl (m_ (b_ rfl rfl neq_ (e_ (cs_ rfl (fun g'7=>q_ rfl (m_ (s_mvL (f:=rowS) (l:=[]) rfl (m_ (e_ (rt_ (hQ _ _ _ _ _ rfl rfl (e'6.2.1 g'7)))))))) (fun g'7=>sk_ (W.reg0 rfl fun _ _=>s_mvL H6 (m_ (s_bslM (f:=rowS) (l:=[r'4]) rfl rfl (g_cons rfl rfl rfl g_nil) rfl (s_app rowS_len rfl rfl rfl A6.1 (e'6.2.2 g'7).1 rfl (fun o'8 ow'11 a'9 fr'10 on'12=>s_mvL rfl (e_ (W.reg0 rfl fun _ _=>b_ H44 rfl add_ (m_ (e_ (kP1 _ _ _ _ (e'6.2.2 g'7).2 _ _ _ _ _ _ H2 H3 rfl H42 H43 rfl (ApM.mk a'9 (Mine.app A6.2 rfl on'12)) (lk_other rfl (lk_other rfl B0)) (lk_other rfl (lk_other rfl B1))))))))))))))))))))))))))))))))))))))) (fun g'1=>ex_ (w220_6 hQ H3 H6 A6 B1 (h.2 g'1)))))))
theorem w220_4 {out6:List (List UInt8)}{m0:Img}{m1:Rou}{o_out6:Own}{v0:Nat}{v1:Nat}(H2:σ 2 = .p (d,0) v0 0)(H3:σ 3 = .p (d,1) v1 0)(H6:σ 6 = .sl o_out6 (List.map rowS out6))(A6:ApM d st.ow o_out6 out6.length)(B0:lk st.bx (d,0) = some (v0,[.sl .ext (List.map Typ.row m0.types),.sl .ext (List.map rowS m0.texts),.sl .ext (List.map Fun.row m0.funcs)]))(B1:lk st.bx (d,1) = some (v1,[.i .u8 m1.status,.i .i64 m1.key,.sl .ext (List.map Frm.row m1.frames),.sl .ext (List.map Dfr.row m1.defers),.sl .ext (List.map Pan.row m1.panics)]))(h:T220_4 prog K out6 m0 m1):W prog d c220_5 σ st Q:=
 sq_ (q_ rfl (f_ H3 (l_ rfl B1 rfl rfl (ll_ rfl (m_ (e_ (bk_ (h (I220_1 prog d Q m1.defers (m1.defers.length:Int)) (fun _ _ _ _ hb _ _ _ _ _ _ H2 H3 H6 H42 H43 H44 A6 B0 B1=>W.loop (w220_5 hQ (fun _ _ _ _ x=>x) H2 H3 H6 H42 H43 H44 A6 B0 B1 hb)) _ _ _ _ _ _ H2 H3 H6 rfl rfl rfl A6 B0 B1))))))))
theorem w220_3 {out6:List (List UInt8)}{t20:List Frm}{t21 t22:Int}{m0:Img}{m1:Rou}{P0:List (List UInt8)→Int→Img→Rou→Prop} (kP0 :∀(out6:List (List UInt8))(t22:Int)(m0:Img)(m1:Rou),P0 out6 t22 m0 m1→I220_0 prog d Q t20 t21 out6 t22 m0 m1){o_out6 o_t20:Own}{v0:Nat}{v1:Nat}(H2:σ 2 = .p (d,0) v0 0)(H3:σ 3 = .p (d,1) v1 0)(H6:σ 6 = .sl o_out6 (List.map rowS out6))(H20:σ 20 = .sl o_t20 (List.map Frm.row t20))(H21:σ 21 = .i .i64 t21)(H22:σ 22 = .i .i64 t22)(A6:ApM d st.ow o_out6 out6.length)(B0:lk st.bx (d,0) = some (v0,[.sl .ext (List.map Typ.row m0.types),.sl .ext (List.map rowS m0.texts),.sl .ext (List.map Fun.row m0.funcs)]))(B1:lk st.bx (d,1) = some (v1,[.i .u8 m1.status,.i .i64 m1.key,.sl .ext (List.map Frm.row m1.frames),.sl .ext (List.map Dfr.row m1.defers),.sl .ext (List.map Pan.row m1.panics)]))(h:T220_3 prog K P0 out6 t20 t21 t22 m0 m1):W prog d l220_0 σ st (thenW prog d (.loop l220_0) (blockW 0 (thenW prog d c220_5 Q))):=
 q_ rfl (b_ H22 H21 lss_ (e_ (sq_ (cs_ rfl (fun g'1=>sk_ (sq_ (bk_ (sq_ (W.reg (m_ ((h.1 g'1).2.elim fun c'2 e'3=>ia_ H20 H22 (h.1 g'1).1 e'3.1 (Frm.row_eq c'2) rfl (lf_ rfl rfl rfl (s_alloc (m_ (so_ rfl (show lk _ (d,16387) = some (_,([.i .i64 0,.i .i64 0,.i .u64 0,.sl .full (List.map Loc.row ([]:List Loc))]:List AV)) from lk_here) rfl rfl rfl (e_ (q_ rfl (l_ H2 (lk_other rfl (lk_other rfl B0)) rfl rfl (m_ (l_ rfl lk_here rfl rfl (e'3.2.elim fun r'4 e'13=>e'13.elim fun r'5 e'6=>ca_ (sc rfl rfl (sc H22 rfl (sc rfl rfl sn))) e'6.1 (m_ (x_ rfl rfl (x_ rfl rfl (s_mvL rfl (m_ (e_ (sq_ (q_ rfl (m_ (b_ rfl rfl neq_ (e_ (cs_ rfl (fun g'7=>q_ rfl (m_ (s_mvL (f:=rowS) (l:=[]) rfl (m_ (e_ (rt_ (hQ _ _ _ _ _ rfl rfl (e'6.2.1 g'7)))))))) (fun g'7=>sk_ (W.reg0 rfl fun _ _=>s_mvL H6 (s_mvL rfl (s_app rowS_len rfl rfl rfl A6.1 (e'6.2.2 g'7).1 rfl (fun o'8 ow'11 a'9 fr'10 on'12=>s_mvL rfl (e_ (W.reg0 rfl fun _ _=>b_ H22 rfl add_ (m_ (e_ (kP0 _ _ _ _ (e'6.2.2 g'7).2 _ _ _ _ _ _ H2 H3 rfl H20 H21 rfl (ApM.mk a'9 (Mine.app A6.2 rfl on'12)) (lk_other rfl (lk_other rfl B0)) (lk_other rfl (lk_other rfl B1))))))))))))))))))))))))))))))))))))))))) (fun g'1=>ex_ (w220_4 hQ H2 H3 H6 A6 B0 B1 (h.2 g'1)))))))
theorem w220_2 {out6:List (List UInt8)}{m0:Img}{m1:Rou}{o_out6:Own}{v0:Nat}{v1:Nat}(H2:σ 2 = .p (d,0) v0 0)(H3:σ 3 = .p (d,1) v1 0)(H6:σ 6 = .sl o_out6 (List.map rowS out6))(A6:ApM d st.ow o_out6 out6.length)(B0:lk st.bx (d,0) = some (v0,[.sl .ext (List.map Typ.row m0.types),.sl .ext (List.map rowS m0.texts),.sl .ext (List.map Fun.row m0.funcs)]))(B1:lk st.bx (d,1) = some (v1,[.i .u8 m1.status,.i .i64 m1.key,.sl .ext (List.map Frm.row m1.frames),.sl .ext (List.map Dfr.row m1.defers),.sl .ext (List.map Pan.row m1.panics)]))(h:T220_2 prog K out6 m0 m1):W prog d c220_6 σ st Q:=
 sq_ (q_ rfl (f_ H3 (l_ rfl B1 rfl rfl (ll_ rfl (m_ (e_ (bk_ (h (I220_0 prog d Q m1.frames (m1.frames.length:Int)) (fun _ _ _ _ hb _ _ _ _ _ _ H2 H3 H6 H20 H21 H22 A6 B0 B1=>W.loop (w220_3 hQ (fun _ _ _ _ x=>x) H2 H3 H6 H20 H21 H22 A6 B0 B1 hb)) _ _ _ _ _ _ H2 H3 H6 rfl rfl rfl A6 B0 B1))))))))
theorem w220_1 {m0:Img}{m1:Rou}{v0:Nat}{v1:Nat}(H2:σ 2 = .p (d,0) v0 0)(H3:σ 3 = .p (d,1) v1 0)(B0:lk st.bx (d,0) = some (v0,[.sl .ext (List.map Typ.row m0.types),.sl .ext (List.map rowS m0.texts),.sl .ext (List.map Fun.row m0.funcs)]))(B1:lk st.bx (d,1) = some (v1,[.i .u8 m1.status,.i .i64 m1.key,.sl .ext (List.map Frm.row m1.frames),.sl .ext (List.map Dfr.row m1.defers),.sl .ext (List.map Pan.row m1.panics)]))(h:T220_1 prog K m0 m1):W prog d c220_7 σ st Q:=
 q_ rfl (s_mvL (f:=rowS) (l:=[]) rfl (e_ (w220_2 hQ H2 H3 rfl ApM.full B0 B1 h)))
theorem w220_0 {m0:Img}{x1:Rou}(H0:σ 0 = m0.av)(H1:σ 1 = x1.av)(h:T220_0 prog K m0 x1):W prog d (.seq (.reg 0 r220_0) c220_7) σ st Q:=
 q_ rfl (s_box H0 rfl (s_box H1 rfl (s_mvL (f:=rowS) (l:=[]) rfl (m_ (e_ (w220_1 hQ rfl rfl (lk_other rfl lk_here) lk_here h))))))
end
theorem p220 {prog:Prog}(hf:prog.fn 220 = some pf220){m0:Img}{x1:Rou}{K:List (List UInt8)→Int→Prop}(h:T220_0 prog K m0 x1) :∃res0:List (List UInt8),∃res1:Int,K res0 res1∧Pus prog 220 [m0.av,x1.av] (.tup [.sl .ext (List.map rowS res0),.i .i64 res1]):=by
  obtain ⟨v,hv,res0,res1,hk,rfl⟩:=Pus.of (K:=fun v=>∃res0:List (List UInt8),∃res1:Int,K res0 res1∧v = .tup [.sl .ext (List.map rowS res0),.i .i64 res1]) hf rfl (w220_0 (σ:=sl0 [m0.av,x1.av]) (fun σ st  o0 res0 res1 H4 H5 hk=>⟨.tup [.sl o0 (List.map rowS res0),.i .i64 res1],by simp only [pf220,ares,aresL,H4,H5,ares1,Option.map_some],_,rfl,res0,res1,hk,rfl⟩) rfl rfl h)
  exact ⟨res0,res1,hk,hv⟩
def r207_0:List AI:=[oO 3 (.box 3 (.t 0)),
 oO 5 (.box 5 (.t 2)),
 oC 6 (.sl .full []),
 oC 7 (.i .i64 0)]
def r207_1:List AI:=[oM 13 1,
 oB 14 .lss (.t 13) (.c (.i .i64 0)),
 oM 15 14,
 oG 16 (.mv (.t 1)) 15 false,
 oG 17 (.bin .geq (.t 16) (.c (.i .i64 16))) 15 false,
 oO 18 (.pick (.t 15) (.c (.b true)) (.t 17))]
def r207_2:List AI:=[oC 6 (.sl .full []),
 oC 7 (.i .i64 2)]
def r207_3:List AI:=[oO 19 (.load 3 true (.t 3)),
 oO 20 (.load 5 true (.t 5)),
 oO 21 (.call false 219 [(.t 19),(.t 20)]),
 oO 22 (.un .not (.t 21))]
def r207_4:List AI:=[oC 6 (.sl .full []),
 oC 7 (.i .i64 8)]
def r207_5:List AI:=[oO 24 (.load 3 true (.t 3)),
 oO 25 (.load 5 true (.t 5)),
 oO 26 (.call false 220 [(.t 24),(.t 25)]),
 oM 23 26,
 oE 27 0 23,
 oE 28 1 23,
 oM 8 27,
 oM 9 28]
def r207_6:List AI:=[oM 29 9,
 oB 30 .neq (.t 29) (.c (.i .i64 0))]
def r207_7:List AI:=[oM 31 9,
 oC 6 (.sl .full []),
 oM 7 31]
def r207_8:List AI:=[oM 32 1,
 oO 33 (.call false 216 [(.t 32)]),
 oB 34 .add (.c (.s [103,111,114,111,117,116,105,110,101,32])) (.t 33),
 oB 35 .add (.t 34) (.c (.s [58,32])),
 oF 36 1 5,
 oL 37 36,
 oO 38 (.call false 15 [(.t 37)]),
 oB 39 .add (.c (.s [98,108,111,99,107,101,100,32])) (.t 38),
 oO 40 (.build [.s [],.s [],.s [],.s []] [(1,1,(.c (.s [114,101,97,100,121]))),(3,1,(.c (.s [100,111,110,101]))),(2,1,(.t 39))]),
 oF 41 0 5,
 oL 42 41,
 oO 43 (.ixA 4 1 false (.t 40) (.t 42)),
 oB 44 .add (.t 35) (.t 43),
 oO 45 (.bslice [.s []] 1 [(0,(.t 44))]),
 oM 10 45]
def r207_9:List AI:=[oM 46 8,
 oO 47 (.len false (.t 46)),
 oC 48 (.i .i64 0)]
def r207_10:List AI:=[oB 49 .lss (.t 48) (.t 47)]
def r207_11:List AI:=[oO 50 (.iaL 1 (.t 46) (.t 48)),
 oL 51 50,
 oM 12 51]
def r207_12:List AI:=[oM 52 10,
 oM 53 12,
 oB 54 .add (.c (.s [32,32])) (.t 53),
 oO 55 (.bslice [.s []] 1 [(0,(.t 54))]),
 oO 56 (.app 1 16 (.t 52) (.t 55)),
 oM 10 56]
def r207_13:List AI:=[oB 57 .add (.t 48) (.c (.i .i64 1)),
 oM 48 57]
def r207_14:List AI:=[oM 58 10,
 oM 6 58,
 oC 7 (.i .i64 0)]
abbrev l207_0:AC:=(.seq (.reg 10 r207_10) (.seq (.cond (.t 49) .skip (.exit 0)) (.seq (.block 1 (.seq (.reg 11 r207_11) (.reg 12 r207_12))) (.reg 13 r207_13))))
abbrev c207_1:AC:=(.seq (.reg 14 r207_14) .ret)
abbrev c207_2:AC:=(.seq (.seq (.reg 3 r207_3) (.cond (.t 22) (.seq (.reg 4 r207_4) .ret) .skip)) (.seq (.reg 5 r207_5) (.seq (.seq (.reg 6 r207_6) (.cond (.t 30) (.seq (.reg 7 r207_7) .ret) .skip)) (.seq (.reg 8 r207_8) (.seq (.seq (.reg 9 r207_9) (.block 0 (.loop l207_0))) c207_1)))))
abbrev b207:AC:=(.seq (.reg 0 r207_0) (.seq (.seq (.reg 1 r207_1) (.cond (.t 18) (.seq (.reg 2 r207_2) .ret) .skip)) c207_2))
def pf207:AF:={ nt:=59,res:=[.tmp 6,.tmp 7],body:=b207 }
abbrev H207 (Q:AE→Sl→St→Prop)(K:List (List UInt8)→Int→Prop):Prop:=∀(σ:Sl)(st:St)(o0:Own)(res0:List (List UInt8))(res1:Int),σ 6 = .sl o0 (List.map rowS res0)→σ 7 = .i .i64 res1→K res0 res1→Q .ret σ st
abbrev I207_0 (prog:Prog)(d:Nat)(Q:AE→Sl→St→Prop)(t46:List (List UInt8))(t47:Int)(out10:List (List UInt8))(t48:Int):Prop:=
  ∀(σ:Sl)(st:St) (o_out10 o_t46:Own),σ 10 = .sl o_out10 (List.map rowS out10)→σ 46 = .sl o_t46 (List.map rowS t46)→σ 47 = .i .i64 t47→σ 48 = .i .i64 t48→ApM d st.ow o_out10 out10.length→W prog d (.loop l207_0) σ st (blockW 0 (thenW prog d c207_1 Q))
def T207_3 (prog:Prog)(K:List (List UInt8)→Int→Prop)(out10:List (List UInt8)):Prop:=
  K out10 0
def T207_2 (prog:Prog)(K:List (List UInt8)→Int→Prop)(P0:List (List UInt8)→Int→Prop)(out10:List (List UInt8))(t46:List (List UInt8))(t47:Int)(t48:Int):Prop:=
  (t48 < t47→0≤t48∧∃c'2:List UInt8,t46[(t48).toNat]? = some c'2∧([32,32]:List UInt8).length + c'2.length≤maxStr∧Fit (out10.length + [(([32,32]:List UInt8) ++ c'2)].length) 16∧P0 (out10 ++ [(([32,32]:List UInt8) ++ c'2)]) (IntKind.i64.wrap (t48 + 1)))∧(¬(t48 < t47)→T207_3 prog K out10)
def T207_1 (prog:Prog)(K:List (List UInt8)→Int→Prop)(g1:Int)(m0:Img)(m1:Rou):Prop:=
  ∃r'1:Bool,Pus prog 219 [m0.av,m1.av] (.b r'1)∧((!r'1) = true→K ([]:List (List UInt8)) 8)∧((!r'1) = false→∃r'4:List (List UInt8),∃r'5:Int,Pus prog 220 [m0.av,m1.av] (.tup [.sl .ext (List.map rowS r'4),.i .i64 r'5])∧(r'5≠0→K ([]:List (List UInt8)) r'5)∧(¬(r'5≠0)→∃r'8:List UInt8,Pus prog 216 [.i .i64 g1] (.s r'8)∧([103,111,114,111,117,116,105,110,101,32]:List UInt8).length + r'8.length≤maxStr∧(([103,111,114,111,117,116,105,110,101,32]:List UInt8) ++ r'8).length + ([58,32]:List UInt8).length≤maxStr∧∃r'10:List UInt8,Pus prog 15 [.i .i64 m1.key] (.s r'10)∧([98,108,111,99,107,101,100,32]:List UInt8).length + r'10.length≤maxStr∧0≤m1.status∧∃c'12:List UInt8,([[],([114,101,97,100,121]:List UInt8),(([98,108,111,99,107,101,100,32]:List UInt8) ++ r'10),([100,111,110,101]:List UInt8)]:List (List UInt8))[(m1.status).toNat]? = some c'12∧((([103,111,114,111,117,116,105,110,101,32]:List UInt8) ++ r'8) ++ ([58,32]:List UInt8)).length + c'12.length≤maxStr∧∀P0:List (List UInt8)→Int→Prop,(∀(out10:List (List UInt8))(t48:Int),T207_2 prog K P0 out10 r'4 (r'4.length:Int) t48→P0 out10 t48)→P0 [(((([103,111,114,111,117,116,105,110,101,32]:List UInt8) ++ r'8) ++ ([58,32]:List UInt8)) ++ c'12)] 0))
def T207_0 (prog:Prog)(K:List (List UInt8)→Int→Prop)(m0:Img)(g1:Int)(x2:Rou):Prop:=
  (g1 < 0→K ([]:List (List UInt8)) 2)∧(¬(g1 < 0)→(g1 ≥ 16→K ([]:List (List UInt8)) 2)∧(¬(g1 ≥ 16)→T207_1 prog K g1 m0 x2))
section
variable {prog:Prog}{d:Nat}{Q:AE→Sl→St→Prop}{K:List (List UInt8)→Int→Prop}(hQ:H207 Q K){σ:Sl}{st:St}
include hQ
theorem w207_3 {out10:List (List UInt8)}{o_out10:Own}(H10:σ 10 = .sl o_out10 (List.map rowS out10))(A10:ApM d st.ow o_out10 out10.length)(h:T207_3 prog K out10):W prog d c207_1 σ st Q:=
 q_ rfl (s_mvL H10 (s_mvL rfl (m_ (e_ (rt_ (hQ _ _ _ _ _ rfl rfl h))))))
theorem w207_2 {out10 t46:List (List UInt8)}{t47 t48:Int}{P0:List (List UInt8)→Int→Prop} (kP0 :∀(out10:List (List UInt8))(t48:Int),P0 out10 t48→I207_0 prog d Q t46 t47 out10 t48){o_out10 o_t46:Own}(H10:σ 10 = .sl o_out10 (List.map rowS out10))(H46:σ 46 = .sl o_t46 (List.map rowS t46))(H47:σ 47 = .i .i64 t47)(H48:σ 48 = .i .i64 t48)(A10:ApM d st.ow o_out10 out10.length)(h:T207_2 prog K P0 out10 t46 t47 t48):W prog d l207_0 σ st (thenW prog d (.loop l207_0) (blockW 0 (thenW prog d c207_1 Q))):=
 q_ rfl (b_ H48 H47 lss_ (e_ (sq_ (cs_ rfl (fun g'1=>sk_ (sq_ (bk_ (q_ rfl ((h.1 g'1).2.elim fun c'2 e'3=>ia_ H46 H48 (h.1 g'1).1 e'3.1 rfl rfl (lf_ rfl rfl rfl (m_ (e_ (W.reg0 rfl fun _ _=>s_mvL H10 (m_ (b_ rfl rfl (abin_cat' e'3.2.1) (s_bslM (f:=rowS) (l:=[(([32,32]:List UInt8) ++ c'2)]) rfl rfl (g_cons rfl rfl rfl g_nil) rfl (s_app rowS_len rfl rfl rfl A10.1 e'3.2.2.1 rfl (fun o'4 ow'7 a'5 fr'6 on'8=>s_mvL rfl (e_ (W.reg0 rfl fun _ _=>b_ H48 rfl add_ (m_ (e_ (kP0 _ _ e'3.2.2.2 _ _ _ _ rfl H46 H47 rfl (ApM.mk a'5 (Mine.app A10.2 rfl on'8))))))))))))))))))))) (fun g'1=>ex_ (w207_3 hQ H10 A10 (h.2 g'1)))))))
theorem w207_1 {g1:Int}{m0:Img}{m1:Rou}{v0:Nat}{v1:Nat}(H1:σ 1 = .i .i64 g1)(H3:σ 3 = .p (d,0) v0 0)(H5:σ 5 = .p (d,1) v1 0)(B0:lk st.bx (d,0) = some (v0,[.sl .ext (List.map Typ.row m0.types),.sl .ext (List.map rowS m0.texts),.sl .ext (List.map Fun.row m0.funcs)]))(B1:lk st.bx (d,1) = some (v1,[.i .u8 m1.status,.i .i64 m1.key,.sl .ext (List.map Frm.row m1.frames),.sl .ext (List.map Dfr.row m1.defers),.sl .ext (List.map Pan.row m1.panics)]))(h:T207_1 prog K g1 m0 m1):W prog d c207_2 σ st Q:=
 sq_ (q_ rfl (l_ H3 B0 rfl rfl (l_ H5 B1 rfl rfl (h.elim fun r'1 e'2=>ca_ (sc rfl rfl (sc rfl rfl sn)) e'2.1 (nt_ rfl (e_ (cb_ rfl (fun g'3=>q_ rfl (s_mvL (f:=rowS) (l:=[]) rfl (m_ (e_ (rt_ (hQ _ _ _ _ _ rfl rfl (e'2.2.1 g'3))))))) (fun g'3=>sk_ (q_ rfl (l_ H3 B0 rfl rfl (l_ H5 B1 rfl rfl ((e'2.2.2 g'3).elim fun r'4 e'14=>e'14.elim fun r'5 e'6=>ca_ (sc rfl rfl (sc rfl rfl sn)) e'6.1 (m_ (x_ rfl rfl (x_ rfl rfl (s_mvL rfl (m_ (e_ (sq_ (q_ rfl (m_ (b_ rfl rfl neq_ (e_ (cs_ rfl (fun g'7=>q_ rfl (m_ (s_mvL (f:=rowS) (l:=[]) rfl (m_ (e_ (rt_ (hQ _ _ _ _ _ rfl rfl (e'6.2.1 g'7)))))))) (fun g'7=>sk_ (q_ rfl (m_ ((e'6.2.2 g'7).elim fun r'8 e'9=>ca_ (sc H1 rfl sn) e'9.1 (b_ rfl rfl (abin_cat' e'9.2.1) (b_ rfl rfl (abin_cat' e'9.2.2.1) (f_ H5 (l_ rfl B1 rfl rfl (e'9.2.2.2.elim fun r'10 e'11=>ca_ (sc rfl rfl sn) e'11.1 (b_ rfl rfl (abin_cat' e'11.2.1) (s_buildM (f:=AV.s) (l:=[[],([114,101,97,100,121]:List UInt8),(([98,108,111,99,107,101,100,32]:List UInt8) ++ r'10),([100,111,110,101]:List UInt8)]) (f_cons rfl rfl (f_cons rfl rfl (f_cons rfl rfl f_nil))) rfl (f_ H5 (l_ rfl B1 rfl rfl (e'11.2.2.2.elim fun c'12 e'13=>s_ixA (f:=AV.s) rfl rfl rfl e'11.2.2.1 e'13.1 (b_ rfl rfl (abin_cat' e'13.2.1) (s_bslM (f:=rowS) (l:=[(((([103,111,114,111,117,116,105,110,101,32]:List UInt8) ++ r'8) ++ ([58,32]:List UInt8)) ++ c'12)]) rfl rfl (g_cons rfl rfl rfl g_nil) rfl (s_mvL rfl (e_ (sq_ (q_ rfl (s_mvL rfl (ll_ rfl (m_ (e_ (bk_ (e'13.2.2 (I207_0 prog d Q r'4 (r'4.length:Int)) (fun _ _ hb _ _ _ _ H10 H46 H47 H48 A10=>W.loop (w207_2 hQ (fun _ _ x=>x) H10 H46 H47 H48 A10 hb)) _ _ _ _ rfl rfl rfl rfl ApM.full))))))))))))))))))))))))))))))))))))))))))))))))))
theorem w207_0 {m0:Img}{g1:Int}{x2:Rou}(H0:σ 0 = m0.av)(H1:σ 1 = .i .i64 g1)(H2:σ 2 = x2.av)(h:T207_0 prog K m0 g1 x2):W prog d (.seq (.reg 0 r207_0) (.seq (.seq (.reg 1 r207_1) (.cond (.t 18) (.seq (.reg 2 r207_2) .ret) .skip)) c207_2)) σ st Q:=
 q_ rfl (s_box H0 rfl (s_box H2 rfl (s_mvL (f:=rowS) (l:=[]) rfl (m_ (e_ (sq_ (q_ rfl (s_mvI H1 (b_ rfl rfl lss_ (s_mvB rfl (em_ (g:=15) rfl (fun g'1=>gn_ (b:=true) rfl rfl (gn_ (b:=true) rfl rfl (pt_ rfl rfl (e_ (ct_ rfl (q_ rfl (s_mvL (f:=rowS) (l:=[]) rfl (m_ (e_ (rt_ (hQ _ _ _ _ _ rfl rfl (h.1 g'1)))))))))))) (fun g'1=>gy_ rfl (s_mvI H1 (gy_ rfl (b_ rfl rfl geq_ (pf_ rfl rfl (e_ (cs_ rfl (fun g'2=>q_ rfl (s_mvL (f:=rowS) (l:=[]) rfl (m_ (e_ (rt_ (hQ _ _ _ _ _ rfl rfl ((h.2 g'1).1 g'2))))))) (fun g'2=>sk_ (w207_1 hQ H1 rfl rfl (lk_other rfl lk_here) lk_here ((h.2 g'1).2 g'2)))))))))))))))))))))
end
theorem p207 {prog:Prog}(hf:prog.fn 207 = some pf207){m0:Img}{g1:Int}{x2:Rou}{K:List (List UInt8)→Int→Prop}(h:T207_0 prog K m0 g1 x2) :∃res0:List (List UInt8),∃res1:Int,K res0 res1∧Pus prog 207 [m0.av,.i .i64 g1,x2.av] (.tup [.sl .ext (List.map rowS res0),.i .i64 res1]):=by
  obtain ⟨v,hv,res0,res1,hk,rfl⟩:=Pus.of (K:=fun v=>∃res0:List (List UInt8),∃res1:Int,K res0 res1∧v = .tup [.sl .ext (List.map rowS res0),.i .i64 res1]) hf rfl (w207_0 (σ:=sl0 [m0.av,.i .i64 g1,x2.av]) (fun σ st  o0 res0 res1 H6 H7 hk=>⟨.tup [.sl o0 (List.map rowS res0),.i .i64 res1],by simp only [pf207,ares,aresL,H6,H7,ares1,Option.map_some],_,rfl,res0,res1,hk,rfl⟩) rfl rfl rfl h)
  exact ⟨res0,res1,hk,hv⟩
def r222_0:List AI:=[oO 3 (.box 3 (.t 0)),
 oO 5 (.box 5 (.t 2)),
 oC 6 (.sl .full [])]
def r222_1:List AI:=[oM 16 1,
 oO 17 (.call false 226 [(.t 16)]),
 oB 18 .add (.c (.s [103,111,114,111,117,116,105,110,101,32])) (.t 17),
 oB 19 .add (.t 18) (.c (.s [58,32])),
 oM 7 19]
def r222_2:List AI:=[oF 20 0 5,
 oL 21 20]
def r222_3:List AI:=[oB 29 .eql (.t 21) (.c (.i .u8 1)),
 oM 28 29]
def r222_4:List AI:=[oM 30 7,
 oB 31 .add (.t 30) (.c (.s [114,101,97,100,121])),
 oM 7 31]
def r222_5:List AI:=[oB 33 .eql (.t 21) (.c (.i .u8 3)),
 oM 32 33]
def r222_6:List AI:=[oM 34 7,
 oB 35 .add (.t 34) (.c (.s [100,111,110,101])),
 oM 7 35]
def r222_7:List AI:=[oM 22 7,
 oF 23 1 5,
 oL 24 23,
 oO 25 (.call false 16 [(.t 24)]),
 oB 26 .add (.c (.s [98,108,111,99,107,101,100,32])) (.t 25),
 oB 27 .add (.t 22) (.t 26),
 oM 7 27]
def r222_8:List AI:=[oM 36 7,
 oO 37 (.bslice [.s []] 1 [(0,(.t 36))]),
 oM 8 37]
def r222_9:List AI:=[oC 9 (.i .i64 0)]
def r222_10:List AI:=[oM 38 9,
 oF 39 2 5,
 oL 40 39,
 oO 41 (.len false (.t 40)),
 oB 42 .lss (.t 38) (.t 41)]
def r222_11:List AI:=[oO 45 (.load 3 true (.t 3)),
 oM 46 9,
 oF 47 2 5,
 oL 48 47,
 oM 49 9,
 oO 50 (.iaL 4 (.t 48) (.t 49)),
 oO 51 (.load 4 true (.t 50)),
 oO 52 (.call false 114 [(.t 45),(.t 46),(.t 51)]),
 oM 10 52]
def r222_12:List AI:=[oC 11 (.i .i64 0)]
def r222_13:List AI:=[oM 53 11,
 oM 54 10,
 oO 55 (.len false (.t 54)),
 oB 56 .lss (.t 53) (.t 55)]
def r222_14:List AI:=[oM 59 8,
 oM 60 10,
 oM 61 11,
 oO 62 (.iaL 1 (.t 60) (.t 61)),
 oL 63 62,
 oB 64 .add (.c (.s [32,32])) (.t 63),
 oO 65 (.bslice [.s []] 1 [(0,(.t 64))]),
 oO 66 (.app 1 16 (.t 59) (.t 65)),
 oM 8 66]
def r222_15:List AI:=[oM 57 11,
 oB 58 .add (.t 57) (.c (.i .i64 1)),
 oM 11 58]
def r222_16:List AI:=[oM 43 9,
 oB 44 .add (.t 43) (.c (.i .i64 1)),
 oM 9 44]
def r222_17:List AI:=[oC 12 (.i .i64 0)]
def r222_18:List AI:=[oM 67 12,
 oF 68 3 5,
 oL 69 68,
 oO 70 (.len false (.t 69)),
 oB 71 .lss (.t 67) (.t 70)]
def r222_19:List AI:=[oF 74 3 5,
 oL 75 74,
 oM 76 12,
 oO 77 (.iaL 8 (.t 75) (.t 76)),
 oO 78 (.load 8 true (.t 77)),
 oO 13 (.alloc [.i .i64 0,.i .i64 0,.b false,.i .u8 0,.i .i64 0,.s [],.sl .full [],.b false]),
 oS 8 13 78]
def r222_20:List AI:=[oF 79 0 13,
 oL 80 79,
 oO 81 (.call false 226 [(.t 80)]),
 oB 82 .add (.c (.s [32,32,100,101,102,101,114,32])) (.t 81),
 oB 83 .add (.t 82) (.c (.s [32])),
 oF 84 1 13,
 oL 85 84,
 oO 86 (.call false 226 [(.t 85)]),
 oB 87 .add (.t 83) (.t 86),
 oB 88 .add (.t 87) (.c (.s [32])),
 oF 89 2 3,
 oL 90 89,
 oF 91 1 13,
 oL 92 91,
 oO 93 (.iaL 7 (.t 90) (.t 92)),
 oF 94 0 93,
 oL 95 94,
 oO 96 (.call false 31 [(.t 95)]),
 oB 97 .add (.t 88) (.t 96),
 oM 14 97]
def r222_21:List AI:=[oF 98 2 13,
 oL 99 98]
def r222_22:List AI:=[oM 100 14,
 oF 101 3 13,
 oO 102 (.load 5 true (.t 101)),
 oO 103 (.call false 106 [(.t 102)]),
 oB 104 .add (.c (.s [32,119,105,116,104,32])) (.t 103),
 oB 105 .add (.t 100) (.t 104),
 oM 14 105]
def r222_23:List AI:=[oM 106 8,
 oM 107 14,
 oO 108 (.bslice [.s []] 1 [(0,(.t 107))]),
 oO 109 (.app 1 16 (.t 106) (.t 108)),
 oM 8 109]
def r222_24:List AI:=[oM 72 12,
 oB 73 .add (.t 72) (.c (.i .i64 1)),
 oM 12 73]
def r222_25:List AI:=[oC 15 (.i .i64 0)]
def r222_26:List AI:=[oM 110 15,
 oF 111 4 5,
 oL 112 111,
 oO 113 (.len false (.t 112)),
 oB 114 .lss (.t 110) (.t 113)]
def r222_27:List AI:=[oM 117 8,
 oF 118 4 5,
 oL 119 118,
 oM 120 15,
 oO 121 (.iaL 7 (.t 119) (.t 120)),
 oO 122 (.load 7 true (.t 121)),
 oO 123 (.call false 179 [(.t 122)]),
 oB 124 .add (.c (.s [32,32])) (.t 123),
 oO 125 (.bslice [.s []] 1 [(0,(.t 124))]),
 oO 126 (.app 1 16 (.t 117) (.t 125)),
 oM 8 126]
def r222_28:List AI:=[oM 115 15,
 oB 116 .add (.t 115) (.c (.i .i64 1)),
 oM 15 116]
def r222_29:List AI:=[oM 127 8,
 oM 6 127]
abbrev l222_1:AC:=(.seq (.seq (.reg 14 r222_13) (.cond (.t 56) .skip (.exit 3))) (.seq (.block 4 (.reg 16 r222_14)) (.reg 15 r222_15)))
abbrev c222_1:AC:=(.reg 11 r222_16)
abbrev l222_0:AC:=(.seq (.seq (.reg 10 r222_10) (.cond (.t 42) .skip (.exit 1))) (.seq (.block 2 (.seq (.reg 12 r222_11) (.seq (.reg 13 r222_12) (.block 3 (.loop l222_1))))) c222_1))
abbrev c222_3:AC:=(.reg 24 r222_23)
abbrev l222_2:AC:=(.seq (.seq (.reg 18 r222_18) (.cond (.t 71) .skip (.exit 5))) (.seq (.block 6 (.seq (.reg 20 r222_19) (.seq (.reg 21 r222_20) (.seq (.seq (.reg 22 r222_21) (.cond (.t 99) (.reg 23 r222_22) .skip)) c222_3)))) (.reg 19 r222_24)))
abbrev l222_3:AC:=(.seq (.seq (.reg 26 r222_26) (.cond (.t 114) .skip (.exit 7))) (.seq (.block 8 (.reg 28 r222_27)) (.reg 27 r222_28)))
abbrev c222_6:AC:=(.seq (.reg 29 r222_29) .ret)
abbrev c222_7:AC:=(.seq (.seq (.reg 25 r222_25) (.block 7 (.loop l222_3))) c222_6)
abbrev c222_8:AC:=(.seq (.seq (.reg 17 r222_17) (.block 5 (.loop l222_2))) c222_7)
abbrev c222_9:AC:=(.seq (.seq (.reg 9 r222_9) (.block 1 (.loop l222_0))) c222_8)
abbrev c222_10:AC:=(.seq (.reg 8 r222_8) c222_9)
abbrev c222_11:AC:=(.seq (.seq (.reg 2 r222_2) (.block 0 (.seq (.reg 4 r222_3) (.cond (.t 28) (.reg 5 r222_4) (.seq (.reg 6 r222_5) (.cond (.t 32) (.reg 7 r222_6) (.reg 3 r222_7))))))) c222_10)
abbrev c222_12:AC:=(.seq (.reg 1 r222_1) c222_11)
abbrev b222:AC:=(.seq (.reg 0 r222_0) c222_12)
def pf222:AF:={ nt:=128,res:=[.tmp 6],body:=b222 }
abbrev H222 (Q:AE→Sl→St→Prop)(K:List (List UInt8)→Prop):Prop:=∀(σ:Sl)(st:St)(o0:Own)(res0:List (List UInt8)),σ 6 = .sl o0 (List.map rowS res0)→K res0→Q .ret σ st
abbrev I222_0 (prog:Prog)(d:Nat)(Q:AE→Sl→St→Prop)(out8:List (List UInt8))(i9:Int)(m0:Img)(m1:Rou):Prop:=
  ∀(σ:Sl)(st:St)(o_out8:Own) (v0 v1:Nat),σ 3 = .p (d,0) v0 0→σ 5 = .p (d,1) v1 0→σ 8 = .sl o_out8 (List.map rowS out8)→σ 9 = .i .i64 i9→ApM d st.ow o_out8 out8.length→lk st.bx (d,0) = some (v0,[.sl .ext (List.map Typ.row m0.types),.sl .ext (List.map rowS m0.texts),.sl .ext (List.map Fun.row m0.funcs)])→lk st.bx (d,1) = some (v1,[.i .u8 m1.status,.i .i64 m1.key,.sl .ext (List.map Frm.row m1.frames),.sl .ext (List.map Dfr.row m1.defers),.sl .ext (List.map Pan.row m1.panics)])→W prog d (.loop l222_0) σ st (blockW 1 (thenW prog d c222_8 Q))
abbrev I222_1 (prog:Prog)(d:Nat)(Q:AE→Sl→St→Prop)(i9:Int)(l10:List (List UInt8))(out8:List (List UInt8))(k11:Int)(m0:Img)(m1:Rou):Prop:=
  ∀(σ:Sl)(st:St) (o_out8 o_l10:Own) (v0 v1:Nat),σ 3 = .p (d,0) v0 0→σ 5 = .p (d,1) v1 0→σ 8 = .sl o_out8 (List.map rowS out8)→σ 9 = .i .i64 i9→σ 10 = .sl o_l10 (List.map rowS l10)→σ 11 = .i .i64 k11→ApM d st.ow o_out8 out8.length→lk st.bx (d,0) = some (v0,[.sl .ext (List.map Typ.row m0.types),.sl .ext (List.map rowS m0.texts),.sl .ext (List.map Fun.row m0.funcs)])→lk st.bx (d,1) = some (v1,[.i .u8 m1.status,.i .i64 m1.key,.sl .ext (List.map Frm.row m1.frames),.sl .ext (List.map Dfr.row m1.defers),.sl .ext (List.map Pan.row m1.panics)])→W prog d (.loop l222_1) σ st (blockW 3 (blockW 2 (thenW prog d c222_1 (thenW prog d (.loop l222_0) (blockW 1 (thenW prog d c222_8 Q))))))
def T222_7 (prog:Prog)(K:List (List UInt8)→Prop)(P0:List (List UInt8)→Int→Img→Rou→Prop)(out8:List (List UInt8))(i9:Int)(m0:Img)(m1:Rou):Prop:=
  P0 out8 (IntKind.i64.wrap (i9 + 1)) m0 m1
def T222_6 (prog:Prog)(K:List (List UInt8)→Prop)(P1:List (List UInt8)→Int→Img→Rou→Prop)(P0:List (List UInt8)→Int→Img→Rou→Prop)(out8:List (List UInt8))(i9:Int)(l10:List (List UInt8))(k11:Int)(m0:Img)(m1:Rou):Prop:=
  (k11 < (l10.length:Int)→0≤k11∧∃c'2:List UInt8,l10[(k11).toNat]? = some c'2∧([32,32]:List UInt8).length + c'2.length≤maxStr∧Fit (out8.length + [(([32,32]:List UInt8) ++ c'2)].length) 16∧P1 (out8 ++ [(([32,32]:List UInt8) ++ c'2)]) (IntKind.i64.wrap (k11 + 1)) m0 m1)∧(¬(k11 < (l10.length:Int))→T222_7 prog K P0 out8 i9 m0 m1)
abbrev I222_2 (prog:Prog)(d:Nat)(Q:AE→Sl→St→Prop)(out8:List (List UInt8))(i12:Int)(m0:Img)(m1:Rou):Prop:=
  ∀(σ:Sl)(st:St)(o_out8:Own) (v0 v1:Nat),σ 3 = .p (d,0) v0 0→σ 5 = .p (d,1) v1 0→σ 8 = .sl o_out8 (List.map rowS out8)→σ 12 = .i .i64 i12→ApM d st.ow o_out8 out8.length→lk st.bx (d,0) = some (v0,[.sl .ext (List.map Typ.row m0.types),.sl .ext (List.map rowS m0.texts),.sl .ext (List.map Fun.row m0.funcs)])→lk st.bx (d,1) = some (v1,[.i .u8 m1.status,.i .i64 m1.key,.sl .ext (List.map Frm.row m1.frames),.sl .ext (List.map Dfr.row m1.defers),.sl .ext (List.map Pan.row m1.panics)])→W prog d (.loop l222_2) σ st (blockW 5 (thenW prog d c222_7 Q))
def T222_10 (prog:Prog)(K:List (List UInt8)→Prop)(P2:List (List UInt8)→Int→Img→Rou→Prop)(out8:List (List UInt8))(i12:Int)(s14:List UInt8)(m0:Img)(m1:Rou):Prop:=
  Fit (out8.length + [s14].length) 16∧P2 (out8 ++ [s14]) (IntKind.i64.wrap (i12 + 1)) m0 m1
abbrev I222_3 (prog:Prog)(d:Nat)(Q:AE→Sl→St→Prop)(out8:List (List UInt8))(i15:Int)(m1:Rou):Prop:=
  ∀(σ:Sl)(st:St)(o_out8:Own)(v1:Nat),σ 5 = .p (d,1) v1 0→σ 8 = .sl o_out8 (List.map rowS out8)→σ 15 = .i .i64 i15→ApM d st.ow o_out8 out8.length→lk st.bx (d,1) = some (v1,[.i .u8 m1.status,.i .i64 m1.key,.sl .ext (List.map Frm.row m1.frames),.sl .ext (List.map Dfr.row m1.defers),.sl .ext (List.map Pan.row m1.panics)])→W prog d (.loop l222_3) σ st (blockW 7 (thenW prog d c222_6 Q))
def T222_13 (prog:Prog)(K:List (List UInt8)→Prop)(out8:List (List UInt8)):Prop:=
  K out8
def T222_12 (prog:Prog)(K:List (List UInt8)→Prop)(P3:List (List UInt8)→Int→Rou→Prop)(out8:List (List UInt8))(i15:Int)(m1:Rou):Prop:=
  (i15 < (m1.panics.length:Int)→0≤i15∧∃c'2:Pan,m1.panics[(i15).toNat]? = some c'2∧∃r'4:List UInt8,Pus prog 179 [c'2.av] (.s r'4)∧([32,32]:List UInt8).length + r'4.length≤maxStr∧Fit (out8.length + [(([32,32]:List UInt8) ++ r'4)].length) 16∧P3 (out8 ++ [(([32,32]:List UInt8) ++ r'4)]) (IntKind.i64.wrap (i15 + 1)) m1)∧(¬(i15 < (m1.panics.length:Int))→T222_13 prog K out8)
def T222_11 (prog:Prog)(K:List (List UInt8)→Prop)(out8:List (List UInt8))(m1:Rou):Prop:=
  ∀P3:List (List UInt8)→Int→Rou→Prop,(∀(out8:List (List UInt8))(i15:Int)(m1:Rou),T222_12 prog K P3 out8 i15 m1→P3 out8 i15 m1)→P3 out8 0 m1
def T222_9 (prog:Prog)(K:List (List UInt8)→Prop)(P2:List (List UInt8)→Int→Img→Rou→Prop)(out8:List (List UInt8))(i12:Int)(m0:Img)(m1:Rou):Prop:=
  (i12 < (m1.defers.length:Int)→0≤i12∧∃c'2:Dfr,m1.defers[(i12).toNat]? = some c'2∧∃r'4:List UInt8,Pus prog 226 [.i .i64 c'2.frame] (.s r'4)∧([32,32,100,101,102,101,114,32]:List UInt8).length + r'4.length≤maxStr∧(([32,32,100,101,102,101,114,32]:List UInt8) ++ r'4).length + ([32]:List UInt8).length≤maxStr∧∃r'6:List UInt8,Pus prog 226 [.i .i64 c'2.func] (.s r'6)∧((([32,32,100,101,102,101,114,32]:List UInt8) ++ r'4) ++ ([32]:List UInt8)).length + r'6.length≤maxStr∧(((([32,32,100,101,102,101,114,32]:List UInt8) ++ r'4) ++ ([32]:List UInt8)) ++ r'6).length + ([32]:List UInt8).length≤maxStr∧0≤c'2.func∧∃c'8:Fun,m0.funcs[(c'2.func).toNat]? = some c'8∧∃r'10:List UInt8,Pus prog 31 [.s c'8.name] (.s r'10)∧((((([32,32,100,101,102,101,114,32]:List UInt8) ++ r'4) ++ ([32]:List UInt8)) ++ r'6) ++ ([32]:List UInt8)).length + r'10.length≤maxStr∧(c'2.hasArg = true→∃r'13:List UInt8,Pus prog 106 [c'2.arg.av] (.s r'13)∧([32,119,105,116,104,32]:List UInt8).length + r'13.length≤maxStr∧(((((([32,32,100,101,102,101,114,32]:List UInt8) ++ r'4) ++ ([32]:List UInt8)) ++ r'6) ++ ([32]:List UInt8)) ++ r'10).length + (([32,119,105,116,104,32]:List UInt8) ++ r'13).length≤maxStr∧T222_10 prog K P2 out8 i12 ((((((([32,32,100,101,102,101,114,32]:List UInt8) ++ r'4) ++ ([32]:List UInt8)) ++ r'6) ++ ([32]:List UInt8)) ++ r'10) ++ (([32,119,105,116,104,32]:List UInt8) ++ r'13)) m0 m1)∧(c'2.hasArg = false→T222_10 prog K P2 out8 i12 (((((([32,32,100,101,102,101,114,32]:List UInt8) ++ r'4) ++ ([32]:List UInt8)) ++ r'6) ++ ([32]:List UInt8)) ++ r'10) m0 m1))∧(¬(i12 < (m1.defers.length:Int))→T222_11 prog K out8 m1)
def T222_8 (prog:Prog)(K:List (List UInt8)→Prop)(out8:List (List UInt8))(m0:Img)(m1:Rou):Prop:=
  ∀P2:List (List UInt8)→Int→Img→Rou→Prop,(∀(out8:List (List UInt8))(i12:Int)(m0:Img)(m1:Rou),T222_9 prog K P2 out8 i12 m0 m1→P2 out8 i12 m0 m1)→P2 out8 0 m0 m1
def T222_5 (prog:Prog)(K:List (List UInt8)→Prop)(P0:List (List UInt8)→Int→Img→Rou→Prop)(out8:List (List UInt8))(i9:Int)(m0:Img)(m1:Rou):Prop:=
  (i9 < (m1.frames.length:Int)→0≤i9∧∃c'2:Frm,m1.frames[(i9).toNat]? = some c'2∧∃r'4:List (List UInt8),Pus prog 114 [m0.av,.i .i64 i9,c'2.av] (.sl .ext (List.map rowS r'4))∧∀P1:List (List UInt8)→Int→Img→Rou→Prop,(∀(out8:List (List UInt8))(k11:Int)(m0:Img)(m1:Rou),T222_6 prog K P1 P0 out8 i9 r'4 k11 m0 m1→P1 out8 k11 m0 m1)→P1 out8 0 m0 m1)∧(¬(i9 < (m1.frames.length:Int))→T222_8 prog K out8 m0 m1)
def T222_4 (prog:Prog)(K:List (List UInt8)→Prop)(out8:List (List UInt8))(m0:Img)(m1:Rou):Prop:=
  ∀P0:List (List UInt8)→Int→Img→Rou→Prop,(∀(out8:List (List UInt8))(i9:Int)(m0:Img)(m1:Rou),T222_5 prog K P0 out8 i9 m0 m1→P0 out8 i9 m0 m1)→P0 out8 0 m0 m1
def T222_3 (prog:Prog)(K:List (List UInt8)→Prop)(first7:List UInt8)(m0:Img)(m1:Rou):Prop:=
  T222_4 prog K [first7] m0 m1
def T222_2 (prog:Prog)(K:List (List UInt8)→Prop)(first7:List UInt8)(m0:Img)(m1:Rou):Prop:=
  (m1.status = 1→first7.length + ([114,101,97,100,121]:List UInt8).length≤maxStr∧T222_3 prog K (first7 ++ ([114,101,97,100,121]:List UInt8)) m0 m1)∧(¬(m1.status = 1)→(m1.status = 3→first7.length + ([100,111,110,101]:List UInt8).length≤maxStr∧T222_3 prog K (first7 ++ ([100,111,110,101]:List UInt8)) m0 m1)∧(¬(m1.status = 3)→∃r'3:List UInt8,Pus prog 16 [.i .i64 m1.key] (.s r'3)∧([98,108,111,99,107,101,100,32]:List UInt8).length + r'3.length≤maxStr∧first7.length + (([98,108,111,99,107,101,100,32]:List UInt8) ++ r'3).length≤maxStr∧T222_3 prog K (first7 ++ (([98,108,111,99,107,101,100,32]:List UInt8) ++ r'3)) m0 m1))
def T222_1 (prog:Prog)(K:List (List UInt8)→Prop)(g1:Int)(m0:Img)(m1:Rou):Prop:=
  ∃r'1:List UInt8,Pus prog 226 [.i .i64 g1] (.s r'1)∧([103,111,114,111,117,116,105,110,101,32]:List UInt8).length + r'1.length≤maxStr∧(([103,111,114,111,117,116,105,110,101,32]:List UInt8) ++ r'1).length + ([58,32]:List UInt8).length≤maxStr∧T222_2 prog K ((([103,111,114,111,117,116,105,110,101,32]:List UInt8) ++ r'1) ++ ([58,32]:List UInt8)) m0 m1
def T222_0 (prog:Prog)(K:List (List UInt8)→Prop)(m0:Img)(g1:Int)(x2:Rou):Prop:=
  T222_1 prog K g1 m0 x2
section
variable {prog:Prog}{d:Nat}{Q:AE→Sl→St→Prop}{K:List (List UInt8)→Prop}(hQ:H222 Q K){σ:Sl}{st:St}
include hQ
theorem w222_7 {out8:List (List UInt8)}{i9:Int}{m0:Img}{m1:Rou}{P0:List (List UInt8)→Int→Img→Rou→Prop} (kP0 :∀(out8:List (List UInt8))(i9:Int)(m0:Img)(m1:Rou),P0 out8 i9 m0 m1→I222_0 prog d Q out8 i9 m0 m1){o_out8:Own}{v0:Nat}{v1:Nat}(H3:σ 3 = .p (d,0) v0 0)(H5:σ 5 = .p (d,1) v1 0)(H8:σ 8 = .sl o_out8 (List.map rowS out8))(H9:σ 9 = .i .i64 i9)(A8:ApM d st.ow o_out8 out8.length)(B0:lk st.bx (d,0) = some (v0,[.sl .ext (List.map Typ.row m0.types),.sl .ext (List.map rowS m0.texts),.sl .ext (List.map Fun.row m0.funcs)]))(B1:lk st.bx (d,1) = some (v1,[.i .u8 m1.status,.i .i64 m1.key,.sl .ext (List.map Frm.row m1.frames),.sl .ext (List.map Dfr.row m1.defers),.sl .ext (List.map Pan.row m1.panics)]))(h:T222_7 prog K P0 out8 i9 m0 m1):W prog d c222_1 σ st (thenW prog d (.loop l222_0) (blockW 1 (thenW prog d c222_8 Q))):=
 W.reg0 rfl fun _ _=>m_ (b_ H9 rfl add_ (m_ (e_ (kP0 _ _ _ _ h _ _ _ _ _ H3 H5 H8 rfl A8 B0 B1))))
theorem w222_6 {out8:List (List UInt8)}{i9:Int}{l10:List (List UInt8)}{k11:Int}{m0:Img}{m1:Rou}{P1:List (List UInt8)→Int→Img→Rou→Prop}{P0:List (List UInt8)→Int→Img→Rou→Prop} (kP1 :∀(out8:List (List UInt8))(k11:Int)(m0:Img)(m1:Rou),P1 out8 k11 m0 m1→I222_1 prog d Q i9 l10 out8 k11 m0 m1) (kP0 :∀(out8:List (List UInt8))(i9:Int)(m0:Img)(m1:Rou),P0 out8 i9 m0 m1→I222_0 prog d Q out8 i9 m0 m1){o_out8 o_l10:Own}{v0:Nat}{v1:Nat}(H3:σ 3 = .p (d,0) v0 0)(H5:σ 5 = .p (d,1) v1 0)(H8:σ 8 = .sl o_out8 (List.map rowS out8))(H9:σ 9 = .i .i64 i9)(H10:σ 10 = .sl o_l10 (List.map rowS l10))(H11:σ 11 = .i .i64 k11)(A8:ApM d st.ow o_out8 out8.length)(B0:lk st.bx (d,0) = some (v0,[.sl .ext (List.map Typ.row m0.types),.sl .ext (List.map rowS m0.texts),.sl .ext (List.map Fun.row m0.funcs)]))(B1:lk st.bx (d,1) = some (v1,[.i .u8 m1.status,.i .i64 m1.key,.sl .ext (List.map Frm.row m1.frames),.sl .ext (List.map Dfr.row m1.defers),.sl .ext (List.map Pan.row m1.panics)]))(h:T222_6 prog K P1 P0 out8 i9 l10 k11 m0 m1):W prog d l222_1 σ st (thenW prog d (.loop l222_1) (blockW 3 (blockW 2 (thenW prog d c222_1 (thenW prog d (.loop l222_0) (blockW 1 (thenW prog d c222_8 Q))))))):=
 sq_ (q_ rfl (m_ (s_mvL H10 (ll_ rfl (b_ H11 rfl lss_ (e_ (cs_ rfl (fun g'1=>sk_ (sq_ (bk_ (W.reg0 rfl fun _ _=>s_mvL H8 (s_mvL H10 (m_ ((h.1 g'1).2.elim fun c'2 e'3=>ia_ rfl H11 (h.1 g'1).1 e'3.1 rfl rfl (lf_ rfl rfl rfl (b_ rfl rfl (abin_cat' e'3.2.1) (s_bslM (f:=rowS) (l:=[(([32,32]:List UInt8) ++ c'2)]) rfl rfl (g_cons rfl rfl rfl g_nil) rfl (s_app rowS_len rfl rfl rfl A8.1 e'3.2.2.1 rfl (fun o'4 ow'7 a'5 fr'6 on'8=>s_mvL rfl (e_ (W.reg0 rfl fun _ _=>m_ (b_ H11 rfl add_ (m_ (e_ (kP1 _ _ _ _ e'3.2.2.2 _ _ _ _ _ _ H3 H5 rfl H9 H10 rfl (ApM.mk a'5 (Mine.app A8.2 rfl on'8)) B0 B1)))))))))))))))))) (fun g'1=>ex_ (w222_7 hQ kP0 H3 H5 H8 H9 A8 B0 B1 (h.2 g'1))))))))))
theorem w222_10 {out8:List (List UInt8)}{i12:Int}{s14:List UInt8}{m0:Img}{m1:Rou}{P2:List (List UInt8)→Int→Img→Rou→Prop} (kP2 :∀(out8:List (List UInt8))(i12:Int)(m0:Img)(m1:Rou),P2 out8 i12 m0 m1→I222_2 prog d Q out8 i12 m0 m1){o_out8:Own}{v0:Nat}{v1:Nat}(H3:σ 3 = .p (d,0) v0 0)(H5:σ 5 = .p (d,1) v1 0)(H8:σ 8 = .sl o_out8 (List.map rowS out8))(H12:σ 12 = .i .i64 i12)(H14:σ 14 = .s s14)(A8:ApM d st.ow o_out8 out8.length)(B0:lk st.bx (d,0) = some (v0,[.sl .ext (List.map Typ.row m0.types),.sl .ext (List.map rowS m0.texts),.sl .ext (List.map Fun.row m0.funcs)]))(B1:lk st.bx (d,1) = some (v1,[.i .u8 m1.status,.i .i64 m1.key,.sl .ext (List.map Frm.row m1.frames),.sl .ext (List.map Dfr.row m1.defers),.sl .ext (List.map Pan.row m1.panics)]))(h:T222_10 prog K P2 out8 i12 s14 m0 m1):W prog d c222_3 σ st (blockW 6 (thenW prog d (.reg 19 r222_24) (thenW prog d (.loop l222_2) (blockW 5 (thenW prog d c222_7 Q))))):=
 W.reg0 rfl fun _ _=>s_mvL H8 (m_ (s_bslM (f:=rowS) (l:=[s14]) rfl rfl (g_cons H14 rfl rfl g_nil) rfl (s_app rowS_len rfl rfl rfl A8.1 h.1 rfl (fun o'1 ow'4 a'2 fr'3 on'5=>s_mvL rfl (e_ (W.reg0 rfl fun _ _=>m_ (b_ H12 rfl add_ (m_ (e_ (kP2 _ _ _ _ h.2 _ _ _ _ _ H3 H5 rfl rfl (ApM.mk a'2 (Mine.app A8.2 rfl on'5)) B0 B1))))))))))
theorem w222_13 {out8:List (List UInt8)}{o_out8:Own}(H8:σ 8 = .sl o_out8 (List.map rowS out8))(A8:ApM d st.ow o_out8 out8.length)(h:T222_13 prog K out8):W prog d c222_6 σ st Q:=
 q_ rfl (s_mvL H8 (s_mvL rfl (e_ (rt_ (hQ _ _ _ _ rfl h)))))
theorem w222_12 {out8:List (List UInt8)}{i15:Int}{m1:Rou}{P3:List (List UInt8)→Int→Rou→Prop} (kP3 :∀(out8:List (List UInt8))(i15:Int)(m1:Rou),P3 out8 i15 m1→I222_3 prog d Q out8 i15 m1){o_out8:Own}{v1:Nat}(H5:σ 5 = .p (d,1) v1 0)(H8:σ 8 = .sl o_out8 (List.map rowS out8))(H15:σ 15 = .i .i64 i15)(A8:ApM d st.ow o_out8 out8.length)(B1:lk st.bx (d,1) = some (v1,[.i .u8 m1.status,.i .i64 m1.key,.sl .ext (List.map Frm.row m1.frames),.sl .ext (List.map Dfr.row m1.defers),.sl .ext (List.map Pan.row m1.panics)]))(h:T222_12 prog K P3 out8 i15 m1):W prog d l222_3 σ st (thenW prog d (.loop l222_3) (blockW 7 (thenW prog d c222_6 Q))):=
 sq_ (q_ rfl (m_ (f_ H5 (l_ rfl B1 rfl rfl (ll_ rfl (b_ H15 rfl lss_ (e_ (cs_ rfl (fun g'1=>sk_ (sq_ (bk_ (W.reg0 rfl fun _ _=>s_mvL H8 (f_ H5 (l_ rfl B1 rfl rfl (m_ ((h.1 g'1).2.elim fun c'2 e'3=>ia_ rfl H15 (h.1 g'1).1 e'3.1 (Pan.row_eq c'2) rfl (lf_ rfl rfl rfl (e'3.2.elim fun r'4 e'5=>ca_ (sc rfl rfl sn) e'5.1 (b_ rfl rfl (abin_cat' e'5.2.1) (s_bslM (f:=rowS) (l:=[(([32,32]:List UInt8) ++ r'4)]) rfl rfl (g_cons rfl rfl rfl g_nil) rfl (s_app rowS_len rfl rfl rfl A8.1 e'5.2.2.1 rfl (fun o'6 ow'9 a'7 fr'8 on'10=>s_mvL rfl (e_ (W.reg0 rfl fun _ _=>m_ (b_ H15 rfl add_ (m_ (e_ (kP3 _ _ _ e'5.2.2.2 _ _ _ _ H5 rfl rfl (ApM.mk a'7 (Mine.app A8.2 rfl on'10)) B1)))))))))))))))))))) (fun g'1=>ex_ (w222_13 hQ H8 A8 (h.2 g'1)))))))))))
theorem w222_11 {out8:List (List UInt8)}{m1:Rou}{o_out8:Own}{v1:Nat}(H5:σ 5 = .p (d,1) v1 0)(H8:σ 8 = .sl o_out8 (List.map rowS out8))(A8:ApM d st.ow o_out8 out8.length)(B1:lk st.bx (d,1) = some (v1,[.i .u8 m1.status,.i .i64 m1.key,.sl .ext (List.map Frm.row m1.frames),.sl .ext (List.map Dfr.row m1.defers),.sl .ext (List.map Pan.row m1.panics)]))(h:T222_11 prog K out8 m1):W prog d c222_7 σ st Q:=
 sq_ (q_ rfl (m_ (e_ (bk_ (h (I222_3 prog d Q ) (fun _ _ _ hb _ _ _ _ H5 H8 H15 A8 B1=>W.loop (w222_12 hQ (fun _ _ _ x=>x) H5 H8 H15 A8 B1 hb)) _ _ _ _ H5 H8 rfl A8 B1)))))
theorem w222_9 {out8:List (List UInt8)}{i12:Int}{m0:Img}{m1:Rou}{P2:List (List UInt8)→Int→Img→Rou→Prop} (kP2 :∀(out8:List (List UInt8))(i12:Int)(m0:Img)(m1:Rou),P2 out8 i12 m0 m1→I222_2 prog d Q out8 i12 m0 m1){o_out8:Own}{v0:Nat}{v1:Nat}(H3:σ 3 = .p (d,0) v0 0)(H5:σ 5 = .p (d,1) v1 0)(H8:σ 8 = .sl o_out8 (List.map rowS out8))(H12:σ 12 = .i .i64 i12)(A8:ApM d st.ow o_out8 out8.length)(B0:lk st.bx (d,0) = some (v0,[.sl .ext (List.map Typ.row m0.types),.sl .ext (List.map rowS m0.texts),.sl .ext (List.map Fun.row m0.funcs)]))(B1:lk st.bx (d,1) = some (v1,[.i .u8 m1.status,.i .i64 m1.key,.sl .ext (List.map Frm.row m1.frames),.sl .ext (List.map Dfr.row m1.defers),.sl .ext (List.map Pan.row m1.panics)]))(h:T222_9 prog K P2 out8 i12 m0 m1):W prog d l222_2 σ st (thenW prog d (.loop l222_2) (blockW 5 (thenW prog d c222_7 Q))):=
 sq_ (q_ rfl (m_ (f_ H5 (l_ rfl B1 rfl rfl (ll_ rfl (b_ H12 rfl lss_ (e_ (cs_ rfl (fun g'1=>sk_ (sq_ (bk_ (sq_ (W.reg (f_ H5 (l_ rfl (lk_other rfl B1) rfl rfl (m_ ((h.1 g'1).2.elim fun c'2 e'3=>ia_ rfl H12 (h.1 g'1).1 e'3.1 (Dfr.row_eq c'2) rfl (lf_ rfl rfl rfl (s_alloc (so_ rfl (show lk _ (d,81925) = some (_,([.i .i64 0,.i .i64 0,.b false,.i .u8 0,.i .i64 0,.s [],.sl .full (List.map Val.row ([]:List Val)),.b false]:List AV)) from lk_here) rfl rfl rfl (e_ (q_ rfl (f_ rfl (l_ rfl lk_here rfl rfl (e'3.2.elim fun r'4 e'5=>ca_ (sc rfl rfl sn) e'5.1 (b_ rfl rfl (abin_cat' e'5.2.1) (b_ rfl rfl (abin_cat' e'5.2.2.1) (f_ rfl (l_ rfl lk_here rfl rfl (e'5.2.2.2.elim fun r'6 e'7=>ca_ (sc rfl rfl sn) e'7.1 (b_ rfl rfl (abin_cat' e'7.2.1) (b_ rfl rfl (abin_cat' e'7.2.2.1) (f_ H3 (l_ rfl (lk_other rfl (lk_other rfl B0)) rfl rfl (f_ rfl (l_ rfl lk_here rfl rfl (e'7.2.2.2.2.elim fun c'8 e'9=>ia_ rfl rfl e'7.2.2.2.1 e'9.1 (Fun.row_eq c'8) rfl (ff_ rfl (lf_ rfl rfl rfl (e'9.2.elim fun r'10 e'11=>ca_ (sc rfl rfl sn) e'11.1 (b_ rfl rfl (abin_cat' e'11.2.1) (m_ (e_ (sq_ (q_ rfl (f_ rfl (l_ rfl lk_here rfl rfl (e_ (cb_ rfl (fun g'12=>W.reg0 rfl fun _ _=>m_ (f_ rfl (l_ rfl lk_here rfl rfl ((e'11.2.2.1 g'12).elim fun r'13 e'14=>ca_ (sc rfl rfl sn) e'14.1 (b_ rfl rfl (abin_cat' e'14.2.1) (b_ rfl rfl (abin_cat' e'14.2.2.1) (m_ (e_ (w222_10 hQ kP2 H3 H5 H8 H12 rfl A8 (lk_other rfl (lk_other rfl B0)) (lk_other rfl (lk_other rfl B1)) e'14.2.2.2))))))))) (fun g'12=>sk_ (w222_10 hQ kP2 H3 H5 H8 H12 rfl A8 (lk_other rfl (lk_other rfl B0)) (lk_other rfl (lk_other rfl B1)) (e'11.2.2.2 g'12)))))))))))))))))))))))))))))))))))))))))))) (fun g'1=>ex_ (w222_11 hQ H5 H8 A8 B1 (h.2 g'1)))))))))))
theorem w222_8 {out8:List (List UInt8)}{m0:Img}{m1:Rou}{o_out8:Own}{v0:Nat}{v1:Nat}(H3:σ 3 = .p (d,0) v0 0)(H5:σ 5 = .p (d,1) v1 0)(H8:σ 8 = .sl o_out8 (List.map rowS out8))(A8:ApM d st.ow o_out8 out8.length)(B0:lk st.bx (d,0) = some (v0,[.sl .ext (List.map Typ.row m0.types),.sl .ext (List.map rowS m0.texts),.sl .ext (List.map Fun.row m0.funcs)]))(B1:lk st.bx (d,1) = some (v1,[.i .u8 m1.status,.i .i64 m1.key,.sl .ext (List.map Frm.row m1.frames),.sl .ext (List.map Dfr.row m1.defers),.sl .ext (List.map Pan.row m1.panics)]))(h:T222_8 prog K out8 m0 m1):W prog d c222_8 σ st Q:=
 sq_ (q_ rfl (m_ (e_ (bk_ (h (I222_2 prog d Q ) (fun _ _ _ _ hb _ _ _ _ _ H3 H5 H8 H12 A8 B0 B1=>W.loop (w222_9 hQ (fun _ _ _ _ x=>x) H3 H5 H8 H12 A8 B0 B1 hb)) _ _ _ _ _ H3 H5 H8 rfl A8 B0 B1)))))
theorem w222_5 {out8:List (List UInt8)}{i9:Int}{m0:Img}{m1:Rou}{P0:List (List UInt8)→Int→Img→Rou→Prop} (kP0 :∀(out8:List (List UInt8))(i9:Int)(m0:Img)(m1:Rou),P0 out8 i9 m0 m1→I222_0 prog d Q out8 i9 m0 m1){o_out8:Own}{v0:Nat}{v1:Nat}(H3:σ 3 = .p (d,0) v0 0)(H5:σ 5 = .p (d,1) v1 0)(H8:σ 8 = .sl o_out8 (List.map rowS out8))(H9:σ 9 = .i .i64 i9)(A8:ApM d st.ow o_out8 out8.length)(B0:lk st.bx (d,0) = some (v0,[.sl .ext (List.map Typ.row m0.types),.sl .ext (List.map rowS m0.texts),.sl .ext (List.map Fun.row m0.funcs)]))(B1:lk st.bx (d,1) = some (v1,[.i .u8 m1.status,.i .i64 m1.key,.sl .ext (List.map Frm.row m1.frames),.sl .ext (List.map Dfr.row m1.defers),.sl .ext (List.map Pan.row m1.panics)]))(h:T222_5 prog K P0 out8 i9 m0 m1):W prog d l222_0 σ st (thenW prog d (.loop l222_0) (blockW 1 (thenW prog d c222_8 Q))):=
 sq_ (q_ rfl (m_ (f_ H5 (l_ rfl B1 rfl rfl (ll_ rfl (b_ H9 rfl lss_ (e_ (cs_ rfl (fun g'1=>sk_ (sq_ (bk_ (q_ rfl (l_ H3 B0 rfl rfl (m_ (f_ H5 (l_ rfl B1 rfl rfl (m_ ((h.1 g'1).2.elim fun c'2 e'3=>ia_ rfl H9 (h.1 g'1).1 e'3.1 (Frm.row_eq c'2) rfl (lf_ rfl rfl rfl (e'3.2.elim fun r'4 e'5=>ca_ (sc rfl rfl (sc H9 rfl (sc rfl rfl sn))) e'5.1 (s_mvL rfl (e_ (q_ rfl (m_ (e_ (bk_ (e'5.2 (I222_1 prog d Q i9 r'4) (fun _ _ _ _ hb _ _ _ _ _ _ H3 H5 H8 H9 H10 H11 A8 B0 B1=>W.loop (w222_6 hQ (fun _ _ _ _ x=>x) kP0 H3 H5 H8 H9 H10 H11 A8 B0 B1 hb)) _ _ _ _ _ _ H3 H5 H8 H9 rfl rfl A8 B0 B1))))))))))))))))))) (fun g'1=>ex_ (w222_8 hQ H3 H5 H8 A8 B0 B1 (h.2 g'1)))))))))))
theorem w222_4 {out8:List (List UInt8)}{m0:Img}{m1:Rou}{o_out8:Own}{v0:Nat}{v1:Nat}(H3:σ 3 = .p (d,0) v0 0)(H5:σ 5 = .p (d,1) v1 0)(H8:σ 8 = .sl o_out8 (List.map rowS out8))(A8:ApM d st.ow o_out8 out8.length)(B0:lk st.bx (d,0) = some (v0,[.sl .ext (List.map Typ.row m0.types),.sl .ext (List.map rowS m0.texts),.sl .ext (List.map Fun.row m0.funcs)]))(B1:lk st.bx (d,1) = some (v1,[.i .u8 m1.status,.i .i64 m1.key,.sl .ext (List.map Frm.row m1.frames),.sl .ext (List.map Dfr.row m1.defers),.sl .ext (List.map Pan.row m1.panics)]))(h:T222_4 prog K out8 m0 m1):W prog d c222_9 σ st Q:=
 sq_ (q_ rfl (m_ (e_ (bk_ (h (I222_0 prog d Q ) (fun _ _ _ _ hb _ _ _ _ _ H3 H5 H8 H9 A8 B0 B1=>W.loop (w222_5 hQ (fun _ _ _ _ x=>x) H3 H5 H8 H9 A8 B0 B1 hb)) _ _ _ _ _ H3 H5 H8 rfl A8 B0 B1)))))
theorem w222_3 {first7:List UInt8}{m0:Img}{m1:Rou}{v0:Nat}{v1:Nat}(H3:σ 3 = .p (d,0) v0 0)(H5:σ 5 = .p (d,1) v1 0)(H7:σ 7 = .s first7)(B0:lk st.bx (d,0) = some (v0,[.sl .ext (List.map Typ.row m0.types),.sl .ext (List.map rowS m0.texts),.sl .ext (List.map Fun.row m0.funcs)]))(B1:lk st.bx (d,1) = some (v1,[.i .u8 m1.status,.i .i64 m1.key,.sl .ext (List.map Frm.row m1.frames),.sl .ext (List.map Dfr.row m1.defers),.sl .ext (List.map Pan.row m1.panics)]))(h:T222_3 prog K first7 m0 m1):W prog d c222_10 σ st Q:=
 q_ rfl (m_ (s_bslM (f:=rowS) (l:=[first7]) rfl rfl (g_cons H7 rfl rfl g_nil) rfl (s_mvL rfl (e_ (w222_4 hQ H3 H5 rfl ApM.full B0 B1 h)))))
theorem w222_2 {first7:List UInt8}{m0:Img}{m1:Rou}{v0:Nat}{v1:Nat}(H3:σ 3 = .p (d,0) v0 0)(H5:σ 5 = .p (d,1) v1 0)(H7:σ 7 = .s first7)(B0:lk st.bx (d,0) = some (v0,[.sl .ext (List.map Typ.row m0.types),.sl .ext (List.map rowS m0.texts),.sl .ext (List.map Fun.row m0.funcs)]))(B1:lk st.bx (d,1) = some (v1,[.i .u8 m1.status,.i .i64 m1.key,.sl .ext (List.map Frm.row m1.frames),.sl .ext (List.map Dfr.row m1.defers),.sl .ext (List.map Pan.row m1.panics)]))(h:T222_2 prog K first7 m0 m1):W prog d c222_11 σ st Q:=
 sq_ (q_ rfl (f_ H5 (l_ rfl B1 rfl rfl (e_ (bk_ (q_ rfl (b_ rfl rfl eql_ (m_ (e_ (cs_ rfl (fun g'1=>W.reg0 rfl fun _ _=>m_ (b_ H7 rfl (abin_cat' (h.1 g'1).1) (m_ (e_ (w222_3 hQ H3 H5 rfl B0 B1 (h.1 g'1).2))))) (fun g'1=>q_ rfl (b_ rfl rfl eql_ (m_ (e_ (cs_ rfl (fun g'2=>W.reg0 rfl fun _ _=>m_ (b_ H7 rfl (abin_cat' ((h.2 g'1).1 g'2).1) (m_ (e_ (w222_3 hQ H3 H5 rfl B0 B1 ((h.2 g'1).1 g'2).2))))) (fun g'2=>W.reg0 rfl fun _ _=>m_ (f_ H5 (l_ rfl B1 rfl rfl (((h.2 g'1).2 g'2).elim fun r'3 e'4=>ca_ (sc rfl rfl sn) e'4.1 (b_ rfl rfl (abin_cat' e'4.2.1) (b_ H7 rfl (abin_cat' e'4.2.2.1) (m_ (e_ (w222_3 hQ H3 H5 rfl B0 B1 e'4.2.2.2))))))))))))))))))))))))
theorem w222_1 {g1:Int}{m0:Img}{m1:Rou}{v0:Nat}{v1:Nat}(H1:σ 1 = .i .i64 g1)(H3:σ 3 = .p (d,0) v0 0)(H5:σ 5 = .p (d,1) v1 0)(B0:lk st.bx (d,0) = some (v0,[.sl .ext (List.map Typ.row m0.types),.sl .ext (List.map rowS m0.texts),.sl .ext (List.map Fun.row m0.funcs)]))(B1:lk st.bx (d,1) = some (v1,[.i .u8 m1.status,.i .i64 m1.key,.sl .ext (List.map Frm.row m1.frames),.sl .ext (List.map Dfr.row m1.defers),.sl .ext (List.map Pan.row m1.panics)]))(h:T222_1 prog K g1 m0 m1):W prog d c222_12 σ st Q:=
 q_ rfl (m_ (h.elim fun r'1 e'2=>ca_ (sc H1 rfl sn) e'2.1 (b_ rfl rfl (abin_cat' e'2.2.1) (b_ rfl rfl (abin_cat' e'2.2.2.1) (m_ (e_ (w222_2 hQ H3 H5 rfl B0 B1 e'2.2.2.2)))))))
theorem w222_0 {m0:Img}{g1:Int}{x2:Rou}(H0:σ 0 = m0.av)(H1:σ 1 = .i .i64 g1)(H2:σ 2 = x2.av)(h:T222_0 prog K m0 g1 x2):W prog d (.seq (.reg 0 r222_0) c222_12) σ st Q:=
 q_ rfl (s_box H0 rfl (s_box H2 rfl (s_mvL (f:=rowS) (l:=[]) rfl (e_ (w222_1 hQ H1 rfl rfl (lk_other rfl lk_here) lk_here h)))))
end
theorem p222 {prog:Prog}(hf:prog.fn 222 = some pf222){m0:Img}{g1:Int}{x2:Rou}{K:List (List UInt8)→Prop}(h:T222_0 prog K m0 g1 x2) :∃res0:List (List UInt8),K res0∧Pus prog 222 [m0.av,.i .i64 g1,x2.av] (.sl .ext (List.map rowS res0)):=by
  obtain ⟨v,hv,res0,hk,rfl⟩:=Pus.of (K:=fun v=>∃res0:List (List UInt8),K res0∧v = .sl .ext (List.map rowS res0)) hf rfl (w222_0 (σ:=sl0 [m0.av,.i .i64 g1,x2.av]) (fun σ st  o0 res0 H6 hk=>⟨.sl o0 (List.map rowS res0),by simp only [pf222,ares,aresL,H6,ares1,Option.map_some],_,rfl,res0,hk,rfl⟩) rfl rfl rfl h)
  exact ⟨res0,hk,hv⟩
def r208_0:List AI:=[oO 3 (.box 3 (.t 0)),
 oO 5 (.box 5 (.t 2)),
 oC 6 (.sl .full []),
 oC 7 (.i .i64 0)]
def r208_1:List AI:=[oM 8 1,
 oB 9 .lss (.t 8) (.c (.i .i64 0)),
 oM 10 9,
 oG 11 (.mv (.t 1)) 10 false,
 oG 12 (.bin .geq (.t 11) (.c (.i .i64 16))) 10 false,
 oO 13 (.pick (.t 10) (.c (.b true)) (.t 12))]
def r208_2:List AI:=[oC 6 (.sl .full []),
 oC 7 (.i .i64 2)]
def r208_3:List AI:=[oO 14 (.load 3 true (.t 3)),
 oO 15 (.load 5 true (.t 5)),
 oO 16 (.call false 221 [(.t 14),(.t 15)]),
 oO 17 (.un .not (.t 16))]
def r208_4:List AI:=[oC 6 (.sl .full []),
 oC 7 (.i .i64 8)]
def r208_5:List AI:=[oO 18 (.load 3 true (.t 3)),
 oM 19 1,
 oO 20 (.load 5 true (.t 5)),
 oO 21 (.call false 222 [(.t 18),(.t 19),(.t 20)]),
 oM 6 21,
 oC 7 (.i .i64 0)]
abbrev c208_0:AC:=(.seq (.seq (.reg 3 r208_3) (.cond (.t 17) (.seq (.reg 4 r208_4) .ret) .skip)) (.seq (.reg 5 r208_5) .ret))
abbrev b208:AC:=(.seq (.reg 0 r208_0) (.seq (.seq (.reg 1 r208_1) (.cond (.t 13) (.seq (.reg 2 r208_2) .ret) .skip)) c208_0))
def pf208:AF:={ nt:=22,res:=[.tmp 6,.tmp 7],body:=b208 }
abbrev H208 (Q:AE→Sl→St→Prop)(K:List (List UInt8)→Int→Prop):Prop:=∀(σ:Sl)(st:St)(o0:Own)(res0:List (List UInt8))(res1:Int),σ 6 = .sl o0 (List.map rowS res0)→σ 7 = .i .i64 res1→K res0 res1→Q .ret σ st
def T208_1 (prog:Prog)(K:List (List UInt8)→Int→Prop)(g1:Int)(m0:Img)(m1:Rou):Prop:=
  ∃r'1:Bool,Pus prog 221 [m0.av,m1.av] (.b r'1)∧((!r'1) = true→K ([]:List (List UInt8)) 8)∧((!r'1) = false→∃r'4:List (List UInt8),Pus prog 222 [m0.av,.i .i64 g1,m1.av] (.sl .ext (List.map rowS r'4))∧K r'4 0)
def T208_0 (prog:Prog)(K:List (List UInt8)→Int→Prop)(m0:Img)(g1:Int)(x2:Rou):Prop:=
  (g1 < 0→K ([]:List (List UInt8)) 2)∧(¬(g1 < 0)→(g1 ≥ 16→K ([]:List (List UInt8)) 2)∧(¬(g1 ≥ 16)→T208_1 prog K g1 m0 x2))
section
variable {prog:Prog}{d:Nat}{Q:AE→Sl→St→Prop}{K:List (List UInt8)→Int→Prop}(hQ:H208 Q K){σ:Sl}{st:St}
include hQ
theorem w208_1 {g1:Int}{m0:Img}{m1:Rou}{v0:Nat}{v1:Nat}(H1:σ 1 = .i .i64 g1)(H3:σ 3 = .p (d,0) v0 0)(H5:σ 5 = .p (d,1) v1 0)(B0:lk st.bx (d,0) = some (v0,[.sl .ext (List.map Typ.row m0.types),.sl .ext (List.map rowS m0.texts),.sl .ext (List.map Fun.row m0.funcs)]))(B1:lk st.bx (d,1) = some (v1,[.i .u8 m1.status,.i .i64 m1.key,.sl .ext (List.map Frm.row m1.frames),.sl .ext (List.map Dfr.row m1.defers),.sl .ext (List.map Pan.row m1.panics)]))(h:T208_1 prog K g1 m0 m1):W prog d c208_0 σ st Q:=
 sq_ (q_ rfl (l_ H3 B0 rfl rfl (l_ H5 B1 rfl rfl (h.elim fun r'1 e'2=>ca_ (sc rfl rfl (sc rfl rfl sn)) e'2.1 (nt_ rfl (e_ (cb_ rfl (fun g'3=>q_ rfl (s_mvL (f:=rowS) (l:=[]) rfl (m_ (e_ (rt_ (hQ _ _ _ _ _ rfl rfl (e'2.2.1 g'3))))))) (fun g'3=>sk_ (q_ rfl (l_ H3 B0 rfl rfl (m_ (l_ H5 B1 rfl rfl ((e'2.2.2 g'3).elim fun r'4 e'5=>ca_ (sc rfl rfl (sc H1 rfl (sc rfl rfl sn))) e'5.1 (s_mvL rfl (m_ (e_ (rt_ (hQ _ _ _ _ _ rfl rfl e'5.2))))))))))))))))))
theorem w208_0 {m0:Img}{g1:Int}{x2:Rou}(H0:σ 0 = m0.av)(H1:σ 1 = .i .i64 g1)(H2:σ 2 = x2.av)(h:T208_0 prog K m0 g1 x2):W prog d (.seq (.reg 0 r208_0) (.seq (.seq (.reg 1 r208_1) (.cond (.t 13) (.seq (.reg 2 r208_2) .ret) .skip)) c208_0)) σ st Q:=
 q_ rfl (s_box H0 rfl (s_box H2 rfl (s_mvL (f:=rowS) (l:=[]) rfl (m_ (e_ (sq_ (q_ rfl (s_mvI H1 (b_ rfl rfl lss_ (s_mvB rfl (em_ (g:=10) rfl (fun g'1=>gn_ (b:=true) rfl rfl (gn_ (b:=true) rfl rfl (pt_ rfl rfl (e_ (ct_ rfl (q_ rfl (s_mvL (f:=rowS) (l:=[]) rfl (m_ (e_ (rt_ (hQ _ _ _ _ _ rfl rfl (h.1 g'1)))))))))))) (fun g'1=>gy_ rfl (s_mvI H1 (gy_ rfl (b_ rfl rfl geq_ (pf_ rfl rfl (e_ (cs_ rfl (fun g'2=>q_ rfl (s_mvL (f:=rowS) (l:=[]) rfl (m_ (e_ (rt_ (hQ _ _ _ _ _ rfl rfl ((h.2 g'1).1 g'2))))))) (fun g'2=>sk_ (w208_1 hQ H1 rfl rfl (lk_other rfl lk_here) lk_here ((h.2 g'1).2 g'2)))))))))))))))))))))
end
theorem p208 {prog:Prog}(hf:prog.fn 208 = some pf208){m0:Img}{g1:Int}{x2:Rou}{K:List (List UInt8)→Int→Prop}(h:T208_0 prog K m0 g1 x2) :∃res0:List (List UInt8),∃res1:Int,K res0 res1∧Pus prog 208 [m0.av,.i .i64 g1,x2.av] (.tup [.sl .ext (List.map rowS res0),.i .i64 res1]):=by
  obtain ⟨v,hv,res0,res1,hk,rfl⟩:=Pus.of (K:=fun v=>∃res0:List (List UInt8),∃res1:Int,K res0 res1∧v = .tup [.sl .ext (List.map rowS res0),.i .i64 res1]) hf rfl (w208_0 (σ:=sl0 [m0.av,.i .i64 g1,x2.av]) (fun σ st  o0 res0 res1 H6 H7 hk=>⟨.tup [.sl o0 (List.map rowS res0),.i .i64 res1],by simp only [pf208,ares,aresL,H6,H7,ares1,Option.map_some],_,rfl,res0,res1,hk,rfl⟩) rfl rfl rfl h)
  exact ⟨res0,res1,hk,hv⟩
def r205_0:List AI:=[oO 2 (.box 3 (.t 0)),
 oO 3 (.box 4 (.t 1)),
 oC 4 (.s []),
 oC 5 (.i .i64 0)]
def r205_1:List AI:=[oO 14 (.load 3 true (.t 2)),
 oO 15 (.load 4 true (.t 3)),
 oO 16 (.call false 213 [(.t 14),(.t 15)]),
 oM 6 16]
def r205_2:List AI:=[oM 17 6,
 oB 18 .neq (.t 17) (.c (.i .i64 0))]
def r205_3:List AI:=[oM 19 6,
 oC 4 (.s []),
 oM 5 19]
def r205_4:List AI:=[oO 7 (.alloc [.np,.sl .full []])]
def r205_5:List AI:=[oO 20 (.call false 215 []),
 oF 21 0 3,
 oL 22 21,
 oO 23 (.ixA 9 1 false (.t 20) (.t 22)),
 oB 24 .add (.c (.s [111,117,116,99,111,109,101,32])) (.t 23),
 oB 25 .add (.t 24) (.c (.s [44,32,102,97,105,108,105,110,103,32])),
 oF 26 1 3,
 oL 27 26,
 oO 28 (.call false 216 [(.t 27)]),
 oB 29 .add (.t 25) (.t 28),
 oB 30 .add (.t 29) (.c (.s [44,32,115,116,101,112,115,32])),
 oF 31 2 3,
 oL 32 31,
 oO 33 (.call false 216 [(.t 32)]),
 oB 34 .add (.t 30) (.t 33),
 oB 35 .add (.t 34) (.c (.s [10])),
 oO 36 (.call true 126 [(.t 7),(.t 35)])]
def r205_6:List AI:=[oF 37 3 3,
 oL 38 37,
 oO 39 (.len false (.t 38)),
 oC 40 (.i .i64 0)]
def r205_7:List AI:=[oB 41 .lss (.t 40) (.t 39)]
def r205_8:List AI:=[oM 42 40,
 oO 43 (.iaL 5 (.t 38) (.t 40)),
 oO 44 (.load 5 true (.t 43)),
 oO 9 (.alloc [.i .u8 0,.i .i64 0,.sl .full [],.sl .full [],.sl .full []]),
 oM 8 42,
 oS 5 9 44]
def r205_9:List AI:=[oO 46 (.load 3 true (.t 2)),
 oM 47 8,
 oO 48 (.load 5 true (.t 9)),
 oO 49 (.call false 207 [(.t 46),(.t 47),(.t 48)]),
 oM 45 49,
 oE 50 0 45,
 oE 51 1 45,
 oM 10 50,
 oM 11 51]
def r205_10:List AI:=[oM 52 11,
 oB 53 .neq (.t 52) (.c (.i .i64 0))]
def r205_11:List AI:=[oM 54 11,
 oC 4 (.s []),
 oM 5 54]
def r205_12:List AI:=[oM 55 10,
 oO 56 (.len false (.t 55)),
 oC 57 (.i .i64 0)]
def r205_13:List AI:=[oB 58 .lss (.t 57) (.t 56)]
def r205_14:List AI:=[oO 59 (.iaL 1 (.t 55) (.t 57)),
 oL 60 59,
 oM 13 60]
def r205_15:List AI:=[oM 61 13,
 oB 62 .add (.t 61) (.c (.s [10])),
 oO 63 (.call true 126 [(.t 7),(.t 62)])]
def r205_16:List AI:=[oB 64 .add (.t 57) (.c (.i .i64 1)),
 oM 57 64]
def r205_17:List AI:=[oB 65 .add (.t 40) (.c (.i .i64 1)),
 oM 40 65]
def r205_18:List AI:=[oO 66 (.call true 217 [(.t 7)]),
 oB 67 .gtr (.t 66) (.c (.i .i64 300000))]
def r205_19:List AI:=[oC 4 (.s []),
 oC 5 (.i .i64 4)]
def r205_20:List AI:=[oO 68 (.call true 105 [(.t 7)]),
 oM 4 68,
 oC 5 (.i .i64 0)]
abbrev l205_1:AC:=(.seq (.reg 13 r205_13) (.seq (.cond (.t 58) .skip (.exit 2)) (.seq (.block 3 (.seq (.reg 14 r205_14) (.reg 15 r205_15))) (.reg 16 r205_16))))
abbrev c205_1:AC:=(.reg 17 r205_17)
abbrev l205_0:AC:=(.seq (.reg 7 r205_7) (.seq (.cond (.t 41) .skip (.exit 0)) (.seq (.block 1 (.seq (.reg 8 r205_8) (.seq (.reg 9 r205_9) (.seq (.seq (.reg 10 r205_10) (.cond (.t 53) (.seq (.reg 11 r205_11) .ret) .skip)) (.seq (.reg 12 r205_12) (.block 2 (.loop l205_1))))))) c205_1)))
abbrev c205_3:AC:=(.seq (.seq (.reg 18 r205_18) (.cond (.t 67) (.seq (.reg 19 r205_19) .ret) .skip)) (.seq (.reg 20 r205_20) .ret))
abbrev c205_4:AC:=(.seq (.reg 5 r205_5) (.seq (.seq (.reg 6 r205_6) (.block 0 (.loop l205_0))) c205_3))
abbrev c205_5:AC:=(.seq (.reg 1000004 r205_4) c205_4)
abbrev c205_6:AC:=(.seq (.seq (.reg 1 r205_1) (.seq (.reg 2 r205_2) (.cond (.t 18) (.seq (.reg 3 r205_3) .ret) .skip))) c205_5)
abbrev b205:AC:=(.seq (.reg 0 r205_0) c205_6)
def pf205:AF:={ nt:=69,res:=[.tmp 4,.tmp 5],body:=b205 }
abbrev H205 (Q:AE→Sl→St→Prop)(K:List UInt8→Int→Prop):Prop:=∀(σ:Sl)(st:St)(res0:List UInt8)(res1:Int),σ 4 = .s res0→σ 5 = .i .i64 res1→K res0 res1→Q .ret σ st
abbrev I205_0 (prog:Prog)(d:Nat)(Q:AE→Sl→St→Prop)(t38:List Rou)(t39:Int)(t40:Int)(m0:Img)(m4096016384:List UInt8):Prop:=
  ∀(σ:Sl)(st:St)(o_t38:Own) (v0 v4096016384:Nat),σ 2 = .p (d,0) v0 0→σ 7 = .p (d,1000004 * 4096 + 0) v4096016384 0→σ 38 = .sl o_t38 (List.map Rou.row t38)→σ 39 = .i .i64 t39→σ 40 = .i .i64 t40→lk st.bx (d,0) = some (v0,[.sl .ext (List.map Typ.row m0.types),.sl .ext (List.map rowS m0.texts),.sl .ext (List.map Fun.row m0.funcs)])→Bl m4096016384 st.bx st.ow (d,1000004 * 4096 + 0) v4096016384→W prog d (.loop l205_0) σ st (blockW 0 (thenW prog d c205_3 Q))
abbrev I205_1 (prog:Prog)(d:Nat)(Q:AE→Sl→St→Prop)(t38:List Rou)(t39:Int)(t40:Int)(t55:List (List UInt8))(t56:Int)(t57:Int)(m0:Img)(m4096016384:List UInt8):Prop:=
  ∀(σ:Sl)(st:St) (o_t38 o_t55:Own) (v0 v4096016384:Nat),σ 2 = .p (d,0) v0 0→σ 7 = .p (d,1000004 * 4096 + 0) v4096016384 0→σ 38 = .sl o_t38 (List.map Rou.row t38)→σ 39 = .i .i64 t39→σ 40 = .i .i64 t40→σ 55 = .sl o_t55 (List.map rowS t55)→σ 56 = .i .i64 t56→σ 57 = .i .i64 t57→lk st.bx (d,0) = some (v0,[.sl .ext (List.map Typ.row m0.types),.sl .ext (List.map rowS m0.texts),.sl .ext (List.map Fun.row m0.funcs)])→Bl m4096016384 st.bx st.ow (d,1000004 * 4096 + 0) v4096016384→W prog d (.loop l205_1) σ st (blockW 2 (blockW 1 (thenW prog d c205_1 (thenW prog d (.loop l205_0) (blockW 0 (thenW prog d c205_3 Q))))))
def T205_6 (prog:Prog)(K:List UInt8→Int→Prop)(P0:Int→Img→List UInt8→Prop)(t38:List Rou)(t39:Int)(t40:Int)(m0:Img)(m4096016384:List UInt8):Prop:=
  P0 (IntKind.i64.wrap (t40 + 1)) m0 m4096016384
def T205_5 (prog:Prog)(K:List UInt8→Int→Prop)(P1:Int→Img→List UInt8→Prop)(P0:Int→Img→List UInt8→Prop)(t38:List Rou)(t39:Int)(t40:Int)(t55:List (List UInt8))(t56:Int)(t57:Int)(m0:Img)(m4096016384:List UInt8):Prop:=
  (t57 < t56→0≤t57∧∃c'2:List UInt8,t55[(t57).toNat]? = some c'2∧c'2.length + ([10]:List UInt8).length≤maxStr∧∃r'4:Int,∃b'10:List UInt8,PuX prog 126 (Bl m4096016384) [.s (c'2 ++ ([10]:List UInt8))] (fun r=>r = .tup [.i .i64 r'4,.ni]) ((Bl b'10))∧P1 (IntKind.i64.wrap (t57 + 1)) m0 b'10)∧(¬(t57 < t56)→T205_6 prog K P0 t38 t39 t40 m0 m4096016384)
def T205_7 (prog:Prog)(K:List UInt8→Int→Prop)(m4096016384:List UInt8):Prop:=
  ∃r'1:Int,∃b'7:List UInt8,PuX prog 217 (Bl m4096016384) [] (fun r=>r = .i .i64 r'1) ((Bl b'7))∧(r'1 > 300000→K ([]:List UInt8) 4)∧(¬(r'1 > 300000)→∃r'9:List UInt8,PuX prog 105 (Bl b'7) [] (fun r=>r = .s r'9) (fun _ _ _ _=>True)∧K r'9 0)
def T205_4 (prog:Prog)(K:List UInt8→Int→Prop)(P0:Int→Img→List UInt8→Prop)(t38:List Rou)(t39:Int)(t40:Int)(m0:Img)(m4096016384:List UInt8):Prop:=
  (t40 < t39→0≤t40∧∃c'2:Rou,t38[(t40).toNat]? = some c'2∧∃r'4:List (List UInt8),∃r'5:Int,Pus prog 207 [m0.av,.i .i64 t40,c'2.av] (.tup [.sl .ext (List.map rowS r'4),.i .i64 r'5])∧(r'5≠0→K ([]:List UInt8) r'5)∧(¬(r'5≠0)→∀P1:Int→Img→List UInt8→Prop,(∀(t57:Int)(m0:Img)(m4096016384:List UInt8),T205_5 prog K P1 P0 t38 t39 t40 r'4 (r'4.length:Int) t57 m0 m4096016384→P1 t57 m0 m4096016384)→P1 0 m0 m4096016384))∧(¬(t40 < t39)→T205_7 prog K m4096016384)
def T205_3 (prog:Prog)(K:List UInt8→Int→Prop)(m0:Img)(m1:Sta)(m4096016384:List UInt8):Prop:=
  ∃r'1:List (List UInt8),Pus prog 215 [] (.ag (List.map AV.s r'1))∧r'1.length = 9∧0≤m1.outcome∧∃c'3:List UInt8,(r'1:List (List UInt8))[(m1.outcome).toNat]? = some c'3∧([111,117,116,99,111,109,101,32]:List UInt8).length + c'3.length≤maxStr∧(([111,117,116,99,111,109,101,32]:List UInt8) ++ c'3).length + ([44,32,102,97,105,108,105,110,103,32]:List UInt8).length≤maxStr∧∃r'17:List UInt8,Pus prog 216 [.i .i64 m1.failing] (.s r'17)∧((([111,117,116,99,111,109,101,32]:List UInt8) ++ c'3) ++ ([44,32,102,97,105,108,105,110,103,32]:List UInt8)).length + r'17.length≤maxStr∧(((([111,117,116,99,111,109,101,32]:List UInt8) ++ c'3) ++ ([44,32,102,97,105,108,105,110,103,32]:List UInt8)) ++ r'17).length + ([44,32,115,116,101,112,115,32]:List UInt8).length≤maxStr∧∃r'19:List UInt8,Pus prog 216 [.i .i64 m1.steps] (.s r'19)∧((((([111,117,116,99,111,109,101,32]:List UInt8) ++ c'3) ++ ([44,32,102,97,105,108,105,110,103,32]:List UInt8)) ++ r'17) ++ ([44,32,115,116,101,112,115,32]:List UInt8)).length + r'19.length≤maxStr∧(((((([111,117,116,99,111,109,101,32]:List UInt8) ++ c'3) ++ ([44,32,102,97,105,108,105,110,103,32]:List UInt8)) ++ r'17) ++ ([44,32,115,116,101,112,115,32]:List UInt8)) ++ r'19).length + ([10]:List UInt8).length≤maxStr∧∃r'21:Int,∃b'27:List UInt8,PuX prog 126 (Bl m4096016384) [.s ((((((([111,117,116,99,111,109,101,32]:List UInt8) ++ c'3) ++ ([44,32,102,97,105,108,105,110,103,32]:List UInt8)) ++ r'17) ++ ([44,32,115,116,101,112,115,32]:List UInt8)) ++ r'19) ++ ([10]:List UInt8))] (fun r=>r = .tup [.i .i64 r'21,.ni]) ((Bl b'27))∧∀P0:Int→Img→List UInt8→Prop,(∀(t40:Int)(m0:Img)(m4096016384:List UInt8),T205_4 prog K P0 m1.routines (m1.routines.length:Int) t40 m0 m4096016384→P0 t40 m0 m4096016384)→P0 0 m0 b'27
def T205_2 (prog:Prog)(K:List UInt8→Int→Prop)(m0:Img)(m1:Sta):Prop:=
  T205_3 prog K m0 m1 ([]:List UInt8)
def T205_1 (prog:Prog)(K:List UInt8→Int→Prop)(m0:Img)(m1:Sta):Prop:=
  ∃r'1:Int,Pus prog 213 [m0.av,m1.av] (.i .i64 r'1)∧(r'1≠0→K ([]:List UInt8) r'1)∧(¬(r'1≠0)→T205_2 prog K m0 m1)
def T205_0 (prog:Prog)(K:List UInt8→Int→Prop)(m0:Img)(s1:Sta):Prop:=
  T205_1 prog K m0 s1
section
variable {prog:Prog}{d:Nat}{Q:AE→Sl→St→Prop}{K:List UInt8→Int→Prop}(hQ:H205 Q K){σ:Sl}{st:St}
include hQ
theorem w205_6 {t38:List Rou}{t39 t40:Int}{m0:Img}{m4096016384:List UInt8}{P0:Int→Img→List UInt8→Prop} (kP0 :∀(t40:Int)(m0:Img)(m4096016384:List UInt8),P0 t40 m0 m4096016384→I205_0 prog d Q t38 t39 t40 m0 m4096016384){o_t38:Own}{v0:Nat}{v4096016384:Nat}(H2:σ 2 = .p (d,0) v0 0)(H7:σ 7 = .p (d,1000004 * 4096 + 0) v4096016384 0)(H38:σ 38 = .sl o_t38 (List.map Rou.row t38))(H39:σ 39 = .i .i64 t39)(H40:σ 40 = .i .i64 t40)(B0:lk st.bx (d,0) = some (v0,[.sl .ext (List.map Typ.row m0.types),.sl .ext (List.map rowS m0.texts),.sl .ext (List.map Fun.row m0.funcs)]))(B4096016384:Bl m4096016384 st.bx st.ow (d,1000004 * 4096 + 0) v4096016384)(h:T205_6 prog K P0 t38 t39 t40 m0 m4096016384):W prog d c205_1 σ st (thenW prog d (.loop l205_0) (blockW 0 (thenW prog d c205_3 Q))):=
 W.reg0 rfl fun _ _=>b_ H40 rfl add_ (m_ (e_ (kP0 _ _ _ h _ _ _ _ _ H2 H7 H38 H39 rfl B0 B4096016384)))
theorem w205_5 {t38:List Rou}{t39 t40:Int}{t55:List (List UInt8)}{t56 t57:Int}{m0:Img}{m4096016384:List UInt8}{P1:Int→Img→List UInt8→Prop}{P0:Int→Img→List UInt8→Prop} (kP1 :∀(t57:Int)(m0:Img)(m4096016384:List UInt8),P1 t57 m0 m4096016384→I205_1 prog d Q t38 t39 t40 t55 t56 t57 m0 m4096016384) (kP0 :∀(t40:Int)(m0:Img)(m4096016384:List UInt8),P0 t40 m0 m4096016384→I205_0 prog d Q t38 t39 t40 m0 m4096016384){o_t38 o_t55:Own}{v0:Nat}{v4096016384:Nat}(H2:σ 2 = .p (d,0) v0 0)(H7:σ 7 = .p (d,1000004 * 4096 + 0) v4096016384 0)(H38:σ 38 = .sl o_t38 (List.map Rou.row t38))(H39:σ 39 = .i .i64 t39)(H40:σ 40 = .i .i64 t40)(H55:σ 55 = .sl o_t55 (List.map rowS t55))(H56:σ 56 = .i .i64 t56)(H57:σ 57 = .i .i64 t57)(B0:lk st.bx (d,0) = some (v0,[.sl .ext (List.map Typ.row m0.types),.sl .ext (List.map rowS m0.texts),.sl .ext (List.map Fun.row m0.funcs)]))(B4096016384:Bl m4096016384 st.bx st.ow (d,1000004 * 4096 + 0) v4096016384)(h:T205_5 prog K P1 P0 t38 t39 t40 t55 t56 t57 m0 m4096016384):W prog d l205_1 σ st (thenW prog d (.loop l205_1) (blockW 2 (blockW 1 (thenW prog d c205_1 (thenW prog d (.loop l205_0) (blockW 0 (thenW prog d c205_3 Q))))))):=
 q_ rfl (b_ H57 H56 lss_ (e_ (sq_ (cs_ rfl (fun g'1=>sk_ (sq_ (bk_ (q_ rfl ((h.1 g'1).2.elim fun c'2 e'3=>ia_ H55 H57 (h.1 g'1).1 e'3.1 rfl rfl (lf_ rfl rfl rfl (m_ (e_ (W.reg0 rfl fun _ _=>m_ (b_ rfl rfl (abin_cat' e'3.2.1) (e'3.2.2.elim fun r'4 e'11=>e'11.elim fun b'10 e'6=>cX_ (sec H7 (sec rfl sen)) e'6.1 (Nat.lt_succ_self d) B4096016384 (fun st'7 hb'8 hf'9=>e_ (W.reg0 rfl fun _ _=>b_ H57 rfl add_ (m_ (e_ (kP1 _ _ _ e'6.2 _ _ _ _ _ _ H2 H7 H38 H39 H40 H55 H56 rfl ((hf'9.1 (d,0) (Nat.lt_succ_self d) (key_LL rfl)).trans B0) hb'8)))))))))))))))) (fun g'1=>ex_ (w205_6 hQ kP0 H2 H7 H38 H39 H40 B0 B4096016384 (h.2 g'1)))))))
theorem w205_7 {m4096016384:List UInt8}{v4096016384:Nat}(H7:σ 7 = .p (d,1000004 * 4096 + 0) v4096016384 0)(B4096016384:Bl m4096016384 st.bx st.ow (d,1000004 * 4096 + 0) v4096016384)(h:T205_7 prog K m4096016384):W prog d c205_3 σ st Q:=
 sq_ (q_ rfl (h.elim fun r'1 e'15=>e'15.elim fun b'7 e'3=>cX_ (sec H7 sen) e'3.1 (Nat.lt_succ_self d) B4096016384 (fun st'4 hb'5 hf'6=>b_ rfl rfl gtr_ (e_ (cs_ rfl (fun g'8=>q_ rfl (m_ (m_ (e_ (rt_ (hQ _ _ _ _ rfl rfl (e'3.2.1 g'8))))))) (fun g'8=>sk_ (q_ rfl ((e'3.2.2 g'8).elim fun r'9 e'11=>cX_ (sec H7 sen) e'11.1 (Nat.lt_succ_self d) hb'5 (fun st'12 hb'13 hf'14=>m_ (m_ (e_ (rt_ (hQ _ _ _ _ rfl rfl e'11.2)))))))))))))
theorem w205_4 {t38:List Rou}{t39 t40:Int}{m0:Img}{m4096016384:List UInt8}{P0:Int→Img→List UInt8→Prop} (kP0 :∀(t40:Int)(m0:Img)(m4096016384:List UInt8),P0 t40 m0 m4096016384→I205_0 prog d Q t38 t39 t40 m0 m4096016384){o_t38:Own}{v0:Nat}{v4096016384:Nat}(H2:σ 2 = .p (d,0) v0 0)(H7:σ 7 = .p (d,1000004 * 4096 + 0) v4096016384 0)(H38:σ 38 = .sl o_t38 (List.map Rou.row t38))(H39:σ 39 = .i .i64 t39)(H40:σ 40 = .i .i64 t40)(B0:lk st.bx (d,0) = some (v0,[.sl .ext (List.map Typ.row m0.types),.sl .ext (List.map rowS m0.texts),.sl .ext (List.map Fun.row m0.funcs)]))(B4096016384:Bl m4096016384 st.bx st.ow (d,1000004 * 4096 + 0) v4096016384)(h:T205_4 prog K P0 t38 t39 t40 m0 m4096016384):W prog d l205_0 σ st (thenW prog d (.loop l205_0) (blockW 0 (thenW prog d c205_3 Q))):=
 q_ rfl (b_ H40 H39 lss_ (e_ (sq_ (cs_ rfl (fun g'1=>sk_ (sq_ (bk_ (sq_ (W.reg (m_ ((h.1 g'1).2.elim fun c'2 e'3=>ia_ H38 H40 (h.1 g'1).1 e'3.1 (Rou.row_eq c'2) rfl (lf_ rfl rfl rfl (s_alloc (m_ (so_ rfl (show lk _ (d,32771) = some (_,([.i .u8 0,.i .i64 0,.sl .full (List.map Frm.row ([]:List Frm)),.sl .full (List.map Dfr.row ([]:List Dfr)),.sl .full (List.map Pan.row ([]:List Pan))]:List AV)) from lk_here) rfl rfl rfl (e_ (q_ rfl (l_ H2 (lk_other rfl (lk_other rfl B0)) rfl rfl (m_ (l_ rfl lk_here rfl rfl (e'3.2.elim fun r'4 e'8=>e'8.elim fun r'5 e'6=>ca_ (sc rfl rfl (sc H40 rfl (sc rfl rfl sn))) e'6.1 (m_ (x_ rfl rfl (x_ rfl rfl (s_mvL rfl (m_ (e_ (sq_ (q_ rfl (m_ (b_ rfl rfl neq_ (e_ (cs_ rfl (fun g'7=>q_ rfl (m_ (m_ (m_ (e_ (rt_ (hQ _ _ _ _ rfl rfl (e'6.2.1 g'7)))))))) (fun g'7=>sk_ (q_ rfl (s_mvL rfl (ll_ rfl (m_ (e_ (bk_ ((e'6.2.2 g'7) (I205_1 prog d Q t38 t39 t40 r'4 (r'4.length:Int)) (fun _ _ _ hb _ _ _ _ _ _ H2 H7 H38 H39 H40 H55 H56 H57 B0 B4096016384=>W.loop (w205_5 hQ (fun _ _ _ x=>x) kP0 H2 H7 H38 H39 H40 H55 H56 H57 B0 B4096016384 hb)) _ _ _ _ _ _ H2 H7 H38 H39 H40 rfl rfl rfl (lk_other rfl (lk_other rfl B0)) (Bl.other (key_LL rfl) (Bl.other (key_LL rfl) B4096016384))))))))))))))))))))))))))))))))))))))) (fun g'1=>ex_ (w205_7 hQ H7 B4096016384 (h.2 g'1)))))))
theorem w205_3 {m0:Img}{m1:Sta}{m4096016384:List UInt8}{v0:Nat}{v1:Nat}{v4096016384:Nat}(H2:σ 2 = .p (d,0) v0 0)(H3:σ 3 = .p (d,1) v1 0)(H7:σ 7 = .p (d,1000004 * 4096 + 0) v4096016384 0)(B0:lk st.bx (d,0) = some (v0,[.sl .ext (List.map Typ.row m0.types),.sl .ext (List.map rowS m0.texts),.sl .ext (List.map Fun.row m0.funcs)]))(B1:lk st.bx (d,1) = some (v1,[.i .u8 m1.outcome,.i .i64 m1.failing,.i .i64 m1.steps,.sl .ext (List.map Rou.row m1.routines)]))(B4096016384:Bl m4096016384 st.bx st.ow (d,1000004 * 4096 + 0) v4096016384)(h:T205_3 prog K m0 m1 m4096016384):W prog d c205_4 σ st Q:=
 q_ rfl (h.elim fun r'1 e'2=>ca_ sn e'2.1 (f_ H3 (l_ rfl B1 rfl rfl (e'2.2.2.2.elim fun c'3 e'4=>s_ixA (f:=AV.s) e'2.2.1 rfl rfl e'2.2.2.1 e'4.1 (b_ rfl rfl (abin_cat' e'4.2.1) (b_ rfl rfl (abin_cat' e'4.2.2.1) (f_ H3 (l_ rfl B1 rfl rfl (e'4.2.2.2.elim fun r'17 e'18=>ca_ (sc rfl rfl sn) e'18.1 (b_ rfl rfl (abin_cat' e'18.2.1) (b_ rfl rfl (abin_cat' e'18.2.2.1) (f_ H3 (l_ rfl B1 rfl rfl (e'18.2.2.2.elim fun r'19 e'20=>ca_ (sc rfl rfl sn) e'20.1 (b_ rfl rfl (abin_cat' e'20.2.1) (b_ rfl rfl (abin_cat' e'20.2.2.1) (e'20.2.2.2.elim fun r'21 e'28=>e'28.elim fun b'27 e'23=>cX_ (sec H7 (sec rfl sen)) e'23.1 (Nat.lt_succ_self d) B4096016384 (fun st'24 hb'25 hf'26=>e_ (sq_ (q_ rfl (f_ H3 (l_ rfl ((hf'26.1 (d,1) (Nat.lt_succ_self d) (key_LL rfl)).trans B1) rfl rfl (ll_ rfl (m_ (e_ (bk_ (e'23.2 (I205_0 prog d Q m1.routines (m1.routines.length:Int)) (fun _ _ _ hb _ _ _ _ _ H2 H7 H38 H39 H40 B0 B4096016384=>W.loop (w205_4 hQ (fun _ _ _ x=>x) H2 H7 H38 H39 H40 B0 B4096016384 hb)) _ _ _ _ _ H2 H7 rfl rfl rfl ((hf'26.1 (d,0) (Nat.lt_succ_self d) (key_LL rfl)).trans B0) hb'25)))))))))))))))))))))))))))
theorem w205_2 {m0:Img}{m1:Sta}{v0:Nat}{v1:Nat}(H2:σ 2 = .p (d,0) v0 0)(H3:σ 3 = .p (d,1) v1 0)(B0:lk st.bx (d,0) = some (v0,[.sl .ext (List.map Typ.row m0.types),.sl .ext (List.map rowS m0.texts),.sl .ext (List.map Fun.row m0.funcs)]))(B1:lk st.bx (d,1) = some (v1,[.i .u8 m1.outcome,.i .i64 m1.failing,.i .i64 m1.steps,.sl .ext (List.map Rou.row m1.routines)]))(h:T205_2 prog K m0 m1):W prog d c205_5 σ st Q:=
 sq_ (W.regB rfl (fun nx'3 v'4 bx'5 hb'1 hx'2=>w205_3 hQ H2 H3 rfl ((hx'2 (d,0) (key_LL rfl)).trans B0) ((hx'2 (d,1) (key_LL rfl)).trans B1) hb'1 h))
theorem w205_1 {m0:Img}{m1:Sta}{v0:Nat}{v1:Nat}(H2:σ 2 = .p (d,0) v0 0)(H3:σ 3 = .p (d,1) v1 0)(B0:lk st.bx (d,0) = some (v0,[.sl .ext (List.map Typ.row m0.types),.sl .ext (List.map rowS m0.texts),.sl .ext (List.map Fun.row m0.funcs)]))(B1:lk st.bx (d,1) = some (v1,[.i .u8 m1.outcome,.i .i64 m1.failing,.i .i64 m1.steps,.sl .ext (List.map Rou.row m1.routines)]))(h:T205_1 prog K m0 m1):W prog d c205_6 σ st Q:=
 sq_ (q_ rfl (l_ H2 B0 rfl rfl (l_ H3 B1 rfl rfl (h.elim fun r'1 e'2=>ca_ (sc rfl rfl (sc rfl rfl sn)) e'2.1 (m_ (e_ (q_ rfl (m_ (b_ rfl rfl neq_ (e_ (cs_ rfl (fun g'3=>q_ rfl (m_ (m_ (m_ (e_ (rt_ (hQ _ _ _ _ rfl rfl (e'2.2.1 g'3)))))))) (fun g'3=>sk_ (w205_2 hQ H2 H3 B0 B1 (e'2.2.2 g'3))))))))))))))
theorem w205_0 {m0:Img}{s1:Sta}(H0:σ 0 = m0.av)(H1:σ 1 = s1.av)(h:T205_0 prog K m0 s1):W prog d (.seq (.reg 0 r205_0) c205_6) σ st Q:=
 q_ rfl (s_box H0 rfl (s_box H1 rfl (m_ (m_ (e_ (w205_1 hQ rfl rfl (lk_other rfl lk_here) lk_here h))))))
end
theorem p205 {prog:Prog}(hf:prog.fn 205 = some pf205){m0:Img}{s1:Sta}{K:List UInt8→Int→Prop}(h:T205_0 prog K m0 s1) :∃res0:List UInt8,∃res1:Int,K res0 res1∧Pus prog 205 [m0.av,s1.av] (.tup [.s res0,.i .i64 res1]):=by
  obtain ⟨v,hv,res0,res1,hk,rfl⟩:=Pus.of (K:=fun v=>∃res0:List UInt8,∃res1:Int,K res0 res1∧v = .tup [.s res0,.i .i64 res1]) hf rfl (w205_0 (σ:=sl0 [m0.av,s1.av]) (fun σ st   res0 res1 H4 H5 hk=>⟨.tup [.s res0,.i .i64 res1],by simp only [pf205,ares,aresL,H4,H5,ares1,Option.map_some],_,rfl,res0,res1,hk,rfl⟩) rfl rfl h)
  exact ⟨res0,res1,hk,hv⟩
def r218_0:List AI:=[oO 2 (.box 3 (.t 0)),
 oO 3 (.box 4 (.t 1)),
 oC 4 (.s [])]
def r218_1:List AI:=[oO 9 (.call false 223 []),
 oF 10 0 3,
 oL 11 10,
 oO 12 (.iaL 1 (.t 9) (.t 11)),
 oL 13 12,
 oB 14 .add (.c (.s [111,117,116,99,111,109,101,32])) (.t 13),
 oB 15 .add (.t 14) (.c (.s [44,32,102,97,105,108,105,110,103,32])),
 oF 16 1 3,
 oL 17 16,
 oO 18 (.call false 226 [(.t 17)]),
 oB 19 .add (.t 15) (.t 18),
 oB 20 .add (.t 19) (.c (.s [44,32,115,116,101,112,115,32])),
 oF 21 2 3,
 oL 22 21,
 oO 23 (.call false 226 [(.t 22)]),
 oB 24 .add (.t 20) (.t 23),
 oB 25 .add (.t 24) (.c (.s [10])),
 oM 5 25]
def r218_2:List AI:=[oC 6 (.i .i64 0)]
def r218_3:List AI:=[oM 26 6,
 oF 27 3 3,
 oL 28 27,
 oO 29 (.len false (.t 28)),
 oB 30 .lss (.t 26) (.t 29)]
def r218_4:List AI:=[oO 33 (.load 3 true (.t 2)),
 oM 34 6,
 oF 35 3 3,
 oL 36 35,
 oM 37 6,
 oO 38 (.iaL 5 (.t 36) (.t 37)),
 oO 39 (.load 5 true (.t 38)),
 oO 40 (.call false 222 [(.t 33),(.t 34),(.t 39)]),
 oM 7 40]
def r218_5:List AI:=[oC 8 (.i .i64 0)]
def r218_6:List AI:=[oM 41 8,
 oM 42 7,
 oO 43 (.len false (.t 42)),
 oB 44 .lss (.t 41) (.t 43)]
def r218_7:List AI:=[oM 47 5,
 oM 48 7,
 oM 49 8,
 oO 50 (.iaL 1 (.t 48) (.t 49)),
 oL 51 50,
 oB 52 .add (.t 51) (.c (.s [10])),
 oB 53 .add (.t 47) (.t 52),
 oM 5 53]
def r218_8:List AI:=[oM 45 8,
 oB 46 .add (.t 45) (.c (.i .i64 1)),
 oM 8 46]
def r218_9:List AI:=[oM 31 6,
 oB 32 .add (.t 31) (.c (.i .i64 1)),
 oM 6 32]
def r218_10:List AI:=[oM 54 5,
 oM 4 54]
abbrev l218_1:AC:=(.seq (.seq (.reg 7 r218_6) (.cond (.t 44) .skip (.exit 2))) (.seq (.block 3 (.reg 9 r218_7)) (.reg 8 r218_8)))
abbrev c218_1:AC:=(.reg 4 r218_9)
abbrev l218_0:AC:=(.seq (.seq (.reg 3 r218_3) (.cond (.t 30) .skip (.exit 0))) (.seq (.block 1 (.seq (.reg 5 r218_4) (.seq (.reg 6 r218_5) (.block 2 (.loop l218_1))))) c218_1))
abbrev c218_3:AC:=(.seq (.reg 10 r218_10) .ret)
abbrev b218:AC:=(.seq (.reg 0 r218_0) (.seq (.reg 1 r218_1) (.seq (.seq (.reg 2 r218_2) (.block 0 (.loop l218_0))) c218_3)))
def pf218:AF:={ nt:=55,res:=[.tmp 4],body:=b218 }
abbrev H218 (Q:AE→Sl→St→Prop)(K:List UInt8→Prop):Prop:=∀(σ:Sl)(st:St)(res0:List UInt8),σ 4 = .s res0→K res0→Q .ret σ st
abbrev I218_0 (prog:Prog)(d:Nat)(Q:AE→Sl→St→Prop)(out5:List UInt8)(g6:Int)(m0:Img)(m1:Sta):Prop:=
  ∀(σ:Sl)(st:St) (v0 v1:Nat),σ 2 = .p (d,0) v0 0→σ 3 = .p (d,1) v1 0→σ 5 = .s out5→σ 6 = .i .i64 g6→lk st.bx (d,0) = some (v0,[.sl .ext (List.map Typ.row m0.types),.sl .ext (List.map rowS m0.texts),.sl .ext (List.map Fun.row m0.funcs)])→lk st.bx (d,1) = some (v1,[.i .u8 m1.outcome,.i .i64 m1.failing,.i .i64 m1.steps,.sl .ext (List.map Rou.row m1.routines)])→W prog d (.loop l218_0) σ st (blockW 0 (thenW prog d c218_3 Q))
abbrev I218_1 (prog:Prog)(d:Nat)(Q:AE→Sl→St→Prop)(g6:Int)(l7:List (List UInt8))(out5:List UInt8)(i8:Int)(m0:Img)(m1:Sta):Prop:=
  ∀(σ:Sl)(st:St)(o_l7:Own) (v0 v1:Nat),σ 2 = .p (d,0) v0 0→σ 3 = .p (d,1) v1 0→σ 5 = .s out5→σ 6 = .i .i64 g6→σ 7 = .sl o_l7 (List.map rowS l7)→σ 8 = .i .i64 i8→lk st.bx (d,0) = some (v0,[.sl .ext (List.map Typ.row m0.types),.sl .ext (List.map rowS m0.texts),.sl .ext (List.map Fun.row m0.funcs)])→lk st.bx (d,1) = some (v1,[.i .u8 m1.outcome,.i .i64 m1.failing,.i .i64 m1.steps,.sl .ext (List.map Rou.row m1.routines)])→W prog d (.loop l218_1) σ st (blockW 2 (blockW 1 (thenW prog d c218_1 (thenW prog d (.loop l218_0) (blockW 0 (thenW prog d c218_3 Q))))))
def T218_3 (prog:Prog)(K:List UInt8→Prop)(P0:List UInt8→Int→Img→Sta→Prop)(out5:List UInt8)(g6:Int)(m0:Img)(m1:Sta):Prop:=
  P0 out5 (IntKind.i64.wrap (g6 + 1)) m0 m1
def T218_2 (prog:Prog)(K:List UInt8→Prop)(P1:List UInt8→Int→Img→Sta→Prop)(P0:List UInt8→Int→Img→Sta→Prop)(out5:List UInt8)(g6:Int)(l7:List (List UInt8))(i8:Int)(m0:Img)(m1:Sta):Prop:=
  (i8 < (l7.length:Int)→0≤i8∧∃c'2:List UInt8,l7[(i8).toNat]? = some c'2∧c'2.length + ([10]:List UInt8).length≤maxStr∧out5.length + (c'2 ++ ([10]:List UInt8)).length≤maxStr∧P1 (out5 ++ (c'2 ++ ([10]:List UInt8))) (IntKind.i64.wrap (i8 + 1)) m0 m1)∧(¬(i8 < (l7.length:Int))→T218_3 prog K P0 out5 g6 m0 m1)
def T218_4 (prog:Prog)(K:List UInt8→Prop)(out5:List UInt8):Prop:=
  K out5
def T218_1 (prog:Prog)(K:List UInt8→Prop)(P0:List UInt8→Int→Img→Sta→Prop)(out5:List UInt8)(g6:Int)(m0:Img)(m1:Sta):Prop:=
  (g6 < (m1.routines.length:Int)→0≤g6∧∃c'2:Rou,m1.routines[(g6).toNat]? = some c'2∧∃r'4:List (List UInt8),Pus prog 222 [m0.av,.i .i64 g6,c'2.av] (.sl .ext (List.map rowS r'4))∧∀P1:List UInt8→Int→Img→Sta→Prop,(∀(out5:List UInt8)(i8:Int)(m0:Img)(m1:Sta),T218_2 prog K P1 P0 out5 g6 r'4 i8 m0 m1→P1 out5 i8 m0 m1)→P1 out5 0 m0 m1)∧(¬(g6 < (m1.routines.length:Int))→T218_4 prog K out5)
def T218_0 (prog:Prog)(K:List UInt8→Prop)(m0:Img)(s1:Sta):Prop:=
  ∃r'1:List (List UInt8),Pus prog 223 [] (.sl .ext (List.map rowS r'1))∧0≤s1.outcome∧∃c'3:List UInt8,r'1[(s1.outcome).toNat]? = some c'3∧([111,117,116,99,111,109,101,32]:List UInt8).length + c'3.length≤maxStr∧(([111,117,116,99,111,109,101,32]:List UInt8) ++ c'3).length + ([44,32,102,97,105,108,105,110,103,32]:List UInt8).length≤maxStr∧∃r'5:List UInt8,Pus prog 226 [.i .i64 s1.failing] (.s r'5)∧((([111,117,116,99,111,109,101,32]:List UInt8) ++ c'3) ++ ([44,32,102,97,105,108,105,110,103,32]:List UInt8)).length + r'5.length≤maxStr∧(((([111,117,116,99,111,109,101,32]:List UInt8) ++ c'3) ++ ([44,32,102,97,105,108,105,110,103,32]:List UInt8)) ++ r'5).length + ([44,32,115,116,101,112,115,32]:List UInt8).length≤maxStr∧∃r'7:List UInt8,Pus prog 226 [.i .i64 s1.steps] (.s r'7)∧((((([111,117,116,99,111,109,101,32]:List UInt8) ++ c'3) ++ ([44,32,102,97,105,108,105,110,103,32]:List UInt8)) ++ r'5) ++ ([44,32,115,116,101,112,115,32]:List UInt8)).length + r'7.length≤maxStr∧(((((([111,117,116,99,111,109,101,32]:List UInt8) ++ c'3) ++ ([44,32,102,97,105,108,105,110,103,32]:List UInt8)) ++ r'5) ++ ([44,32,115,116,101,112,115,32]:List UInt8)) ++ r'7).length + ([10]:List UInt8).length≤maxStr∧∀P0:List UInt8→Int→Img→Sta→Prop,(∀(out5:List UInt8)(g6:Int)(m0:Img)(m1:Sta),T218_1 prog K P0 out5 g6 m0 m1→P0 out5 g6 m0 m1)→P0 ((((((([111,117,116,99,111,109,101,32]:List UInt8) ++ c'3) ++ ([44,32,102,97,105,108,105,110,103,32]:List UInt8)) ++ r'5) ++ ([44,32,115,116,101,112,115,32]:List UInt8)) ++ r'7) ++ ([10]:List UInt8)) 0 m0 s1
section
variable {prog:Prog}{d:Nat}{Q:AE→Sl→St→Prop}{K:List UInt8→Prop}(hQ:H218 Q K){σ:Sl}{st:St}
include hQ
theorem w218_3 {out5:List UInt8}{g6:Int}{m0:Img}{m1:Sta}{P0:List UInt8→Int→Img→Sta→Prop} (kP0 :∀(out5:List UInt8)(g6:Int)(m0:Img)(m1:Sta),P0 out5 g6 m0 m1→I218_0 prog d Q out5 g6 m0 m1){v0:Nat}{v1:Nat}(H2:σ 2 = .p (d,0) v0 0)(H3:σ 3 = .p (d,1) v1 0)(H5:σ 5 = .s out5)(H6:σ 6 = .i .i64 g6)(B0:lk st.bx (d,0) = some (v0,[.sl .ext (List.map Typ.row m0.types),.sl .ext (List.map rowS m0.texts),.sl .ext (List.map Fun.row m0.funcs)]))(B1:lk st.bx (d,1) = some (v1,[.i .u8 m1.outcome,.i .i64 m1.failing,.i .i64 m1.steps,.sl .ext (List.map Rou.row m1.routines)]))(h:T218_3 prog K P0 out5 g6 m0 m1):W prog d c218_1 σ st (thenW prog d (.loop l218_0) (blockW 0 (thenW prog d c218_3 Q))):=
 W.reg0 rfl fun _ _=>m_ (b_ H6 rfl add_ (m_ (e_ (kP0 _ _ _ _ h _ _ _ _ H2 H3 H5 rfl B0 B1))))
theorem w218_2 {out5:List UInt8}{g6:Int}{l7:List (List UInt8)}{i8:Int}{m0:Img}{m1:Sta}{P1:List UInt8→Int→Img→Sta→Prop}{P0:List UInt8→Int→Img→Sta→Prop} (kP1 :∀(out5:List UInt8)(i8:Int)(m0:Img)(m1:Sta),P1 out5 i8 m0 m1→I218_1 prog d Q g6 l7 out5 i8 m0 m1) (kP0 :∀(out5:List UInt8)(g6:Int)(m0:Img)(m1:Sta),P0 out5 g6 m0 m1→I218_0 prog d Q out5 g6 m0 m1){o_l7:Own}{v0:Nat}{v1:Nat}(H2:σ 2 = .p (d,0) v0 0)(H3:σ 3 = .p (d,1) v1 0)(H5:σ 5 = .s out5)(H6:σ 6 = .i .i64 g6)(H7:σ 7 = .sl o_l7 (List.map rowS l7))(H8:σ 8 = .i .i64 i8)(B0:lk st.bx (d,0) = some (v0,[.sl .ext (List.map Typ.row m0.types),.sl .ext (List.map rowS m0.texts),.sl .ext (List.map Fun.row m0.funcs)]))(B1:lk st.bx (d,1) = some (v1,[.i .u8 m1.outcome,.i .i64 m1.failing,.i .i64 m1.steps,.sl .ext (List.map Rou.row m1.routines)]))(h:T218_2 prog K P1 P0 out5 g6 l7 i8 m0 m1):W prog d l218_1 σ st (thenW prog d (.loop l218_1) (blockW 2 (blockW 1 (thenW prog d c218_1 (thenW prog d (.loop l218_0) (blockW 0 (thenW prog d c218_3 Q))))))):=
 sq_ (q_ rfl (m_ (s_mvL H7 (ll_ rfl (b_ H8 rfl lss_ (e_ (cs_ rfl (fun g'1=>sk_ (sq_ (bk_ (W.reg0 rfl fun _ _=>m_ (s_mvL H7 (m_ ((h.1 g'1).2.elim fun c'2 e'3=>ia_ rfl H8 (h.1 g'1).1 e'3.1 rfl rfl (lf_ rfl rfl rfl (b_ rfl rfl (abin_cat' e'3.2.1) (b_ H5 rfl (abin_cat' e'3.2.2.1) (m_ (e_ (W.reg0 rfl fun _ _=>m_ (b_ H8 rfl add_ (m_ (e_ (kP1 _ _ _ _ e'3.2.2.2 _ _ _ _ _ H2 H3 rfl H6 H7 rfl B0 B1))))))))))))))))) (fun g'1=>ex_ (w218_3 hQ kP0 H2 H3 H5 H6 B0 B1 (h.2 g'1))))))))))
theorem w218_4 {out5:List UInt8}(H5:σ 5 = .s out5)(h:T218_4 prog K out5):W prog d c218_3 σ st Q:=
 q_ rfl (m_ (m_ (e_ (rt_ (hQ _ _ _ H5 h)))))
theorem w218_1 {out5:List UInt8}{g6:Int}{m0:Img}{m1:Sta}{P0:List UInt8→Int→Img→Sta→Prop} (kP0 :∀(out5:List UInt8)(g6:Int)(m0:Img)(m1:Sta),P0 out5 g6 m0 m1→I218_0 prog d Q out5 g6 m0 m1){v0:Nat}{v1:Nat}(H2:σ 2 = .p (d,0) v0 0)(H3:σ 3 = .p (d,1) v1 0)(H5:σ 5 = .s out5)(H6:σ 6 = .i .i64 g6)(B0:lk st.bx (d,0) = some (v0,[.sl .ext (List.map Typ.row m0.types),.sl .ext (List.map rowS m0.texts),.sl .ext (List.map Fun.row m0.funcs)]))(B1:lk st.bx (d,1) = some (v1,[.i .u8 m1.outcome,.i .i64 m1.failing,.i .i64 m1.steps,.sl .ext (List.map Rou.row m1.routines)]))(h:T218_1 prog K P0 out5 g6 m0 m1):W prog d l218_0 σ st (thenW prog d (.loop l218_0) (blockW 0 (thenW prog d c218_3 Q))):=
 sq_ (q_ rfl (m_ (f_ H3 (l_ rfl B1 rfl rfl (ll_ rfl (b_ H6 rfl lss_ (e_ (cs_ rfl (fun g'1=>sk_ (sq_ (bk_ (q_ rfl (l_ H2 B0 rfl rfl (m_ (f_ H3 (l_ rfl B1 rfl rfl (m_ ((h.1 g'1).2.elim fun c'2 e'3=>ia_ rfl H6 (h.1 g'1).1 e'3.1 (Rou.row_eq c'2) rfl (lf_ rfl rfl rfl (e'3.2.elim fun r'4 e'5=>ca_ (sc rfl rfl (sc H6 rfl (sc rfl rfl sn))) e'5.1 (s_mvL rfl (e_ (q_ rfl (m_ (e_ (bk_ (e'5.2 (I218_1 prog d Q g6 r'4) (fun _ _ _ _ hb _ _ _ _ _ H2 H3 H5 H6 H7 H8 B0 B1=>W.loop (w218_2 hQ (fun _ _ _ _ x=>x) kP0 H2 H3 H5 H6 H7 H8 B0 B1 hb)) _ _ _ _ _ H2 H3 H5 H6 rfl rfl B0 B1))))))))))))))))))) (fun g'1=>ex_ (w218_4 hQ H5 (h.2 g'1)))))))))))
theorem w218_0 {m0:Img}{s1:Sta}(H0:σ 0 = m0.av)(H1:σ 1 = s1.av)(h:T218_0 prog K m0 s1):W prog d (.seq (.reg 0 r218_0) (.seq (.reg 1 r218_1) (.seq (.seq (.reg 2 r218_2) (.block 0 (.loop l218_0))) c218_3))) σ st Q:=
 q_ rfl (s_box H0 rfl (s_box H1 rfl (m_ (e_ (q_ rfl (h.elim fun r'1 e'2=>ca_ sn e'2.1 (f_ rfl (l_ rfl lk_here rfl rfl (e'2.2.2.elim fun c'3 e'4=>ia_ rfl rfl e'2.2.1 e'4.1 rfl rfl (lf_ rfl rfl rfl (b_ rfl rfl (abin_cat' e'4.2.1) (b_ rfl rfl (abin_cat' e'4.2.2.1) (f_ rfl (l_ rfl lk_here rfl rfl (e'4.2.2.2.elim fun r'5 e'6=>ca_ (sc rfl rfl sn) e'6.1 (b_ rfl rfl (abin_cat' e'6.2.1) (b_ rfl rfl (abin_cat' e'6.2.2.1) (f_ rfl (l_ rfl lk_here rfl rfl (e'6.2.2.2.elim fun r'7 e'8=>ca_ (sc rfl rfl sn) e'8.1 (b_ rfl rfl (abin_cat' e'8.2.1) (b_ rfl rfl (abin_cat' e'8.2.2.1) (m_ (e_ (sq_ (q_ rfl (m_ (e_ (bk_ (e'8.2.2.2 (I218_0 prog d Q ) (fun _ _ _ _ hb _ _ _ _ H2 H3 H5 H6 B0 B1=>W.loop (w218_1 hQ (fun _ _ _ _ x=>x) H2 H3 H5 H6 B0 B1 hb)) _ _ _ _ rfl rfl rfl rfl (lk_other rfl lk_here) lk_here))))))))))))))))))))))))))))))
end
theorem p218 {prog:Prog}(hf:prog.fn 218 = some pf218){m0:Img}{s1:Sta}{K:List UInt8→Prop}(h:T218_0 prog K m0 s1) :∃res0:List UInt8,K res0∧Pus prog 218 [m0.av,s1.av] (.s res0):=by
  obtain ⟨v,hv,res0,hk,rfl⟩:=Pus.of (K:=fun v=>∃res0:List UInt8,K res0∧v = .s res0) hf rfl (w218_0 (σ:=sl0 [m0.av,s1.av]) (fun σ st   res0 H4 hk=>⟨.s res0,by simp only [pf218,ares,aresL,H4,ares1,Option.map_some],_,rfl,res0,hk,rfl⟩) rfl rfl h)
  exact ⟨res0,hk,hv⟩
def r206_0:List AI:=[oO 2 (.box 3 (.t 0)),
 oO 3 (.box 4 (.t 1)),
 oC 4 (.s []),
 oC 5 (.i .i64 0)]
def r206_1:List AI:=[oO 8 (.load 3 true (.t 2)),
 oO 9 (.load 4 true (.t 3)),
 oO 10 (.call false 214 [(.t 8),(.t 9)]),
 oM 6 10]
def r206_2:List AI:=[oM 11 6,
 oB 12 .neq (.t 11) (.c (.i .i64 0))]
def r206_3:List AI:=[oM 13 6,
 oC 4 (.s []),
 oM 5 13]
def r206_4:List AI:=[oO 14 (.load 3 true (.t 2)),
 oO 15 (.load 4 true (.t 3)),
 oO 16 (.call false 218 [(.t 14),(.t 15)]),
 oM 7 16]
def r206_5:List AI:=[oM 17 7,
 oO 18 (.len true (.t 17)),
 oB 19 .gtr (.t 18) (.c (.i .i64 300000))]
def r206_6:List AI:=[oC 4 (.s []),
 oC 5 (.i .i64 4)]
def r206_7:List AI:=[oM 20 7,
 oM 4 20,
 oC 5 (.i .i64 0)]
abbrev b206:AC:=(.seq (.reg 0 r206_0) (.seq (.seq (.reg 1 r206_1) (.seq (.reg 2 r206_2) (.cond (.t 12) (.seq (.reg 3 r206_3) .ret) .skip))) (.seq (.reg 4 r206_4) (.seq (.seq (.reg 5 r206_5) (.cond (.t 19) (.seq (.reg 6 r206_6) .ret) .skip)) (.seq (.reg 7 r206_7) .ret)))))
def pf206:AF:={ nt:=21,res:=[.tmp 4,.tmp 5],body:=b206 }
abbrev H206 (Q:AE→Sl→St→Prop)(K:List UInt8→Int→Prop):Prop:=∀(σ:Sl)(st:St)(res0:List UInt8)(res1:Int),σ 4 = .s res0→σ 5 = .i .i64 res1→K res0 res1→Q .ret σ st
def T206_0 (prog:Prog)(K:List UInt8→Int→Prop)(m0:Img)(s1:Sta):Prop:=
  ∃r'1:Int,Pus prog 214 [m0.av,s1.av] (.i .i64 r'1)∧(r'1≠0→K ([]:List UInt8) r'1)∧(¬(r'1≠0)→∃r'4:List UInt8,Pus prog 218 [m0.av,s1.av] (.s r'4)∧((r'4.length:Int) > 300000→K ([]:List UInt8) 4)∧(¬((r'4.length:Int) > 300000)→K r'4 0))
section
variable {prog:Prog}{d:Nat}{Q:AE→Sl→St→Prop}{K:List UInt8→Int→Prop}(hQ:H206 Q K){σ:Sl}{st:St}
include hQ
theorem w206_0 {m0:Img}{s1:Sta}(H0:σ 0 = m0.av)(H1:σ 1 = s1.av)(h:T206_0 prog K m0 s1):W prog d (.seq (.reg 0 r206_0) (.seq (.seq (.reg 1 r206_1) (.seq (.reg 2 r206_2) (.cond (.t 12) (.seq (.reg 3 r206_3) .ret) .skip))) (.seq (.reg 4 r206_4) (.seq (.seq (.reg 5 r206_5) (.cond (.t 19) (.seq (.reg 6 r206_6) .ret) .skip)) (.seq (.reg 7 r206_7) .ret))))) σ st Q:=
 q_ rfl (s_box H0 rfl (s_box H1 rfl (m_ (m_ (e_ (sq_ (q_ rfl (l_ rfl (lk_other rfl lk_here) rfl rfl (l_ rfl lk_here rfl rfl (h.elim fun r'1 e'2=>ca_ (sc rfl rfl (sc rfl rfl sn)) e'2.1 (m_ (e_ (q_ rfl (m_ (b_ rfl rfl neq_ (e_ (cs_ rfl (fun g'3=>q_ rfl (m_ (m_ (m_ (e_ (rt_ (hQ _ _ _ _ rfl rfl (e'2.2.1 g'3)))))))) (fun g'3=>sk_ (q_ rfl (l_ rfl (lk_other rfl lk_here) rfl rfl (l_ rfl lk_here rfl rfl ((e'2.2.2 g'3).elim fun r'4 e'5=>ca_ (sc rfl rfl (sc rfl rfl sn)) e'5.1 (m_ (e_ (sq_ (q_ rfl (m_ (ln_ rfl (b_ rfl rfl gtr_ (e_ (cs_ rfl (fun g'6=>q_ rfl (m_ (m_ (e_ (rt_ (hQ _ _ _ _ rfl rfl (e'5.2.1 g'6))))))) (fun g'6=>sk_ (q_ rfl (m_ (m_ (m_ (e_ (rt_ (hQ _ _ _ _ rfl rfl (e'5.2.2 g'6))))))))))))))))))))))))))))))))))))))))
end
theorem p206 {prog:Prog}(hf:prog.fn 206 = some pf206){m0:Img}{s1:Sta}{K:List UInt8→Int→Prop}(h:T206_0 prog K m0 s1) :∃res0:List UInt8,∃res1:Int,K res0 res1∧Pus prog 206 [m0.av,s1.av] (.tup [.s res0,.i .i64 res1]):=by
  obtain ⟨v,hv,res0,res1,hk,rfl⟩:=Pus.of (K:=fun v=>∃res0:List UInt8,∃res1:Int,K res0 res1∧v = .tup [.s res0,.i .i64 res1]) hf rfl (w206_0 (σ:=sl0 [m0.av,s1.av]) (fun σ st   res0 res1 H4 H5 hk=>⟨.tup [.s res0,.i .i64 res1],by simp only [pf206,ares,aresL,H4,H5,ares1,Option.map_some],_,rfl,res0,res1,hk,rfl⟩) rfl rfl h)
  exact ⟨res0,res1,hk,hv⟩
end Go.AM

/- Parts of the proof. -/
namespace Go.AM
open Go
set_option linter.unusedVariables false
set_option linter.unusedSimpArgs false
set_option maxRecDepth 4000
attribute [local irreducible] WO fillCells fillRows
def r203_0:List AI:=[oO 1 (.box 4 (.t 0)),
 oC 2 (.b false)]
def r203_1:List AI:=[oC 3 (.i .i64 0)]
def r203_2:List AI:=[oM 4 3,
 oF 5 3 1,
 oL 6 5,
 oO 7 (.len false (.t 6)),
 oB 8 .lss (.t 4) (.t 7),
 oM 9 8,
 oG 10 (.mv (.t 3)) 9 true,
 oG 11 (.bin .leq (.t 10) (.c (.i .i64 20))) 9 true,
 oO 12 (.pick (.t 9) (.t 11) (.c (.b false)))]
def r203_3:List AI:=[oF 15 3 1,
 oL 16 15,
 oM 17 3,
 oO 18 (.iaL 5 (.t 16) (.t 17)),
 oO 19 (.load 5 true (.t 18)),
 oO 20 (.call false 204 [(.t 19)])]
def r203_4:List AI:=[oC 2 (.b true)]
def r203_5:List AI:=[oM 13 3,
 oB 14 .add (.t 13) (.c (.i .i64 1)),
 oM 3 14]
def r203_6:List AI:=[oF 21 3 1,
 oL 22 21,
 oO 23 (.len false (.t 22)),
 oB 24 .gtr (.t 23) (.c (.i .i64 20)),
 oM 2 24]
abbrev c203_0:AC:=(.seq (.block 1 (.seq (.reg 4 r203_3) (.cond (.t 20) (.seq (.reg 5 r203_4) .ret) .skip))) (.reg 3 r203_5))
abbrev l203_0:AC:=(.seq (.seq (.reg 2 r203_2) (.cond (.t 12) .skip (.exit 0))) c203_0)
abbrev c203_2:AC:=(.seq (.reg 6 r203_6) .ret)
abbrev b203:AC:=(.seq (.reg 0 r203_0) (.seq (.seq (.reg 1 r203_1) (.block 0 (.loop l203_0))) c203_2))
def pf203:AF:={ nt:=25,res:=[.tmp 2],body:=b203 }
abbrev H203 (Q:AE→Sl→St→Prop)(K:Bool→Prop):Prop:=∀(σ:Sl)(st:St)(res0:Bool),σ 2 = .b res0→K res0→Q .ret σ st
abbrev I203_0 (prog:Prog)(d:Nat)(Q:AE→Sl→St→Prop)(i3:Int)(m0:Sta):Prop:=
  ∀(σ:Sl)(st:St)(v0:Nat),σ 1 = .p (d,0) v0 0→σ 3 = .i .i64 i3→lk st.bx (d,0) = some (v0,[.i .u8 m0.outcome,.i .i64 m0.failing,.i .i64 m0.steps,.sl .ext (List.map Rou.row m0.routines)])→W prog d (.loop l203_0) σ st (blockW 0 (thenW prog d c203_2 Q))
def T203_2 (prog:Prog)(K:Bool→Prop)(P0:Int→Sta→Prop)(i3:Int)(m0:Sta):Prop:=
  0≤i3∧∃c'1:Rou,m0.routines[(i3).toNat]? = some c'1∧∃r'3:Bool,Pus prog 204 [c'1.av] (.b r'3)∧(r'3 = true→K true)∧(r'3 = false→P0 (IntKind.i64.wrap (i3 + 1)) m0)
def T203_3 (prog:Prog)(K:Bool→Prop)(m0:Sta):Prop:=
  K (decide ((m0.routines.length:Int) > 20))
def T203_1 (prog:Prog)(K:Bool→Prop)(P0:Int→Sta→Prop)(i3:Int)(m0:Sta):Prop:=
  (i3 < (m0.routines.length:Int)→(i3≤20→T203_2 prog K P0 i3 m0)∧(¬(i3≤20)→T203_3 prog K m0))∧(¬(i3 < (m0.routines.length:Int))→T203_3 prog K m0)
def T203_0 (prog:Prog)(K:Bool→Prop)(s0:Sta):Prop:=
  ∀P0:Int→Sta→Prop,(∀(i3:Int)(m0:Sta),T203_1 prog K P0 i3 m0→P0 i3 m0)→P0 0 s0
section
variable {prog:Prog}{d:Nat}{Q:AE→Sl→St→Prop}{K:Bool→Prop}(hQ:H203 Q K){σ:Sl}{st:St}
include hQ
theorem w203_2 {i3:Int}{m0:Sta}{P0:Int→Sta→Prop} (kP0 :∀(i3:Int)(m0:Sta),P0 i3 m0→I203_0 prog d Q i3 m0){v0:Nat}(H1:σ 1 = .p (d,0) v0 0)(H3:σ 3 = .i .i64 i3)(B0:lk st.bx (d,0) = some (v0,[.i .u8 m0.outcome,.i .i64 m0.failing,.i .i64 m0.steps,.sl .ext (List.map Rou.row m0.routines)]))(h:T203_2 prog K P0 i3 m0):W prog d c203_0 σ st (thenW prog d (.loop l203_0) (blockW 0 (thenW prog d c203_2 Q))):=
 sq_ (bk_ (q_ rfl (f_ H1 (l_ rfl B0 rfl rfl (m_ (h.2.elim fun c'1 e'2=>ia_ rfl H3 h.1 e'2.1 (Rou.row_eq c'1) rfl (lf_ rfl rfl rfl (e'2.2.elim fun r'3 e'4=>ca_ (sc rfl rfl sn) e'4.1 (e_ (cb_ rfl (fun g'5=>q_ rfl (m_ (e_ (rt_ (hQ _ _ _ rfl (e'4.2.1 g'5)))))) (fun g'5=>sk_ (W.reg0 rfl fun _ _=>m_ (b_ H3 rfl add_ (m_ (e_ (kP0 _ _ (e'4.2.2 g'5) _ _ _ H1 rfl B0))))))))))))))))
theorem w203_3 {m0:Sta}{v0:Nat}(H1:σ 1 = .p (d,0) v0 0)(B0:lk st.bx (d,0) = some (v0,[.i .u8 m0.outcome,.i .i64 m0.failing,.i .i64 m0.steps,.sl .ext (List.map Rou.row m0.routines)]))(h:T203_3 prog K m0):W prog d c203_2 σ st Q:=
 q_ rfl (f_ H1 (l_ rfl B0 rfl rfl (ll_ rfl (b_ rfl rfl gtr_ (m_ (e_ (rt_ (hQ _ _ _ rfl h))))))))
theorem w203_1 {i3:Int}{m0:Sta}{P0:Int→Sta→Prop} (kP0 :∀(i3:Int)(m0:Sta),P0 i3 m0→I203_0 prog d Q i3 m0){v0:Nat}(H1:σ 1 = .p (d,0) v0 0)(H3:σ 3 = .i .i64 i3)(B0:lk st.bx (d,0) = some (v0,[.i .u8 m0.outcome,.i .i64 m0.failing,.i .i64 m0.steps,.sl .ext (List.map Rou.row m0.routines)]))(h:T203_1 prog K P0 i3 m0):W prog d l203_0 σ st (thenW prog d (.loop l203_0) (blockW 0 (thenW prog d c203_2 Q))):=
 sq_ (q_ rfl (s_mvI H3 (f_ H1 (l_ rfl B0 rfl rfl (ll_ rfl (b_ rfl rfl lss_ (s_mvB rfl (em_ (g:=9) rfl (fun g'1=>gy_ rfl (s_mvI H3 (gy_ rfl (b_ rfl rfl leq_ (pt_ rfl rfl (e_ (cs_ rfl (fun g'2=>sk_ (w203_2 hQ kP0 H1 H3 B0 ((h.1 g'1).1 g'2))) (fun g'2=>ex_ (w203_3 hQ H1 B0 ((h.1 g'1).2 g'2)))))))))) (fun g'1=>gn_ (b:=false) rfl rfl (gn_ (b:=false) rfl rfl (pf_ rfl rfl (e_ (cf_ rfl (ex_ (w203_3 hQ H1 B0 (h.2 g'1))))))))))))))))
theorem w203_0 {s0:Sta}(H0:σ 0 = s0.av)(h:T203_0 prog K s0):W prog d (.seq (.reg 0 r203_0) (.seq (.seq (.reg 1 r203_1) (.block 0 (.loop l203_0))) c203_2)) σ st Q:=
 q_ rfl (s_box H0 rfl (m_ (e_ (sq_ (q_ rfl (m_ (e_ (bk_ (h (I203_0 prog d Q ) (fun _ _ hb _ _ _ H1 H3 B0=>W.loop (w203_1 hQ (fun _ _ x=>x) H1 H3 B0 hb)) _ _ _ rfl rfl lk_here)))))))))
end
theorem p203 {prog:Prog}(hf:prog.fn 203 = some pf203){s0:Sta}{K:Bool→Prop}(h:T203_0 prog K s0) :∃res0:Bool,K res0∧Pus prog 203 [s0.av] (.b res0):=by
  obtain ⟨v,hv,res0,hk,rfl⟩:=Pus.of (K:=fun v=>∃res0:Bool,K res0∧v = .b res0) hf rfl (w203_0 (σ:=sl0 [s0.av]) (fun σ st   res0 H2 hk=>⟨.b res0,by simp only [pf203,ares,aresL,H2,ares1,Option.map_some],_,rfl,res0,hk,rfl⟩) rfl h)
  exact ⟨res0,hk,hv⟩
def r204_0:List AI:=[oO 1 (.box 5 (.t 0)),
 oC 2 (.b false)]
def r204_1:List AI:=[oF 5 2 1,
 oL 6 5,
 oO 7 (.len false (.t 6)),
 oB 8 .gtr (.t 7) (.c (.i .i64 12)),
 oM 9 8,
 oG 10 (.fad 3 (.t 1)) 9 false,
 oG 11 (.load 1 false (.t 10)) 9 false,
 oG 12 (.len false (.t 11)) 9 false,
 oG 13 (.bin .gtr (.t 12) (.c (.i .i64 12))) 9 false,
 oO 14 (.pick (.t 9) (.c (.b true)) (.t 13)),
 oM 15 14,
 oG 16 (.fad 4 (.t 1)) 15 false,
 oG 17 (.load 1 false (.t 16)) 15 false,
 oG 18 (.len false (.t 17)) 15 false,
 oG 19 (.bin .gtr (.t 18) (.c (.i .i64 20))) 15 false,
 oO 20 (.pick (.t 15) (.c (.b true)) (.t 19)),
 oM 21 20,
 oG 22 (.fad 4 (.t 1)) 21 false,
 oG 23 (.load 1 false (.t 22)) 21 false,
 oG 24 (.call false 162 [(.t 23)]) 21 false,
 oO 25 (.pick (.t 21) (.c (.b true)) (.t 24))]
def r204_2:List AI:=[oC 2 (.b true)]
def r204_3:List AI:=[oC 3 (.i .i64 0)]
def r204_4:List AI:=[oM 26 3,
 oF 27 2 1,
 oL 28 27,
 oO 29 (.len false (.t 28)),
 oB 30 .lss (.t 26) (.t 29)]
def r204_5:List AI:=[oF 33 2 1,
 oL 34 33,
 oM 35 3,
 oO 36 (.iaL 4 (.t 34) (.t 35)),
 oO 37 (.load 4 true (.t 36)),
 oO 38 (.call false 80 [(.t 37)])]
def r204_6:List AI:=[oC 2 (.b true)]
def r204_7:List AI:=[oM 31 3,
 oB 32 .add (.t 31) (.c (.i .i64 1)),
 oM 3 32]
def r204_8:List AI:=[oC 4 (.i .i64 0)]
def r204_9:List AI:=[oM 39 4,
 oF 40 3 1,
 oL 41 40,
 oO 42 (.len false (.t 41)),
 oB 43 .lss (.t 39) (.t 42)]
def r204_10:List AI:=[oF 46 3 1,
 oL 47 46,
 oM 48 4,
 oO 49 (.iaL 8 (.t 47) (.t 48)),
 oF 50 3 49,
 oO 51 (.load 5 true (.t 50)),
 oO 52 (.call false 71 [(.t 51)])]
def r204_11:List AI:=[oC 2 (.b true)]
def r204_12:List AI:=[oM 44 4,
 oB 45 .add (.t 44) (.c (.i .i64 1)),
 oM 4 45]
def r204_13:List AI:=[oC 2 (.b false)]
abbrev l204_0:AC:=(.seq (.seq (.reg 4 r204_4) (.cond (.t 30) .skip (.exit 0))) (.seq (.block 1 (.seq (.reg 6 r204_5) (.cond (.t 38) (.seq (.reg 7 r204_6) .ret) .skip))) (.reg 5 r204_7)))
abbrev l204_1:AC:=(.seq (.seq (.reg 9 r204_9) (.cond (.t 43) .skip (.exit 2))) (.seq (.block 3 (.seq (.reg 11 r204_10) (.cond (.t 52) (.seq (.reg 12 r204_11) .ret) .skip))) (.reg 10 r204_12)))
abbrev c204_2:AC:=(.seq (.reg 13 r204_13) .ret)
abbrev c204_3:AC:=(.seq (.seq (.reg 8 r204_8) (.block 2 (.loop l204_1))) c204_2)
abbrev c204_4:AC:=(.seq (.seq (.reg 3 r204_3) (.block 0 (.loop l204_0))) c204_3)
abbrev b204:AC:=(.seq (.reg 0 r204_0) (.seq (.seq (.reg 1 r204_1) (.cond (.t 25) (.seq (.reg 2 r204_2) .ret) .skip)) c204_4))
def pf204:AF:={ nt:=53,res:=[.tmp 2],body:=b204 }
abbrev H204 (Q:AE→Sl→St→Prop)(K:Bool→Prop):Prop:=∀(σ:Sl)(st:St)(res0:Bool),σ 2 = .b res0→K res0→Q .ret σ st
abbrev I204_0 (prog:Prog)(d:Nat)(Q:AE→Sl→St→Prop)(i3:Int)(m0:Rou):Prop:=
  ∀(σ:Sl)(st:St)(v0:Nat),σ 1 = .p (d,0) v0 0→σ 3 = .i .i64 i3→lk st.bx (d,0) = some (v0,[.i .u8 m0.status,.i .i64 m0.key,.sl .ext (List.map Frm.row m0.frames),.sl .ext (List.map Dfr.row m0.defers),.sl .ext (List.map Pan.row m0.panics)])→W prog d (.loop l204_0) σ st (blockW 0 (thenW prog d c204_3 Q))
abbrev I204_1 (prog:Prog)(d:Nat)(Q:AE→Sl→St→Prop)(i4:Int)(m0:Rou):Prop:=
  ∀(σ:Sl)(st:St)(v0:Nat),σ 1 = .p (d,0) v0 0→σ 4 = .i .i64 i4→lk st.bx (d,0) = some (v0,[.i .u8 m0.status,.i .i64 m0.key,.sl .ext (List.map Frm.row m0.frames),.sl .ext (List.map Dfr.row m0.defers),.sl .ext (List.map Pan.row m0.panics)])→W prog d (.loop l204_1) σ st (blockW 2 (thenW prog d c204_2 Q))
def T204_5 (prog:Prog)(K:Bool→Prop) :Prop:=
  K false
def T204_4 (prog:Prog)(K:Bool→Prop)(P1:Int→Rou→Prop)(i4:Int)(m0:Rou):Prop:=
  (i4 < (m0.defers.length:Int)→0≤i4∧∃c'2:Dfr,m0.defers[(i4).toNat]? = some c'2∧∃r'4:Bool,Pus prog 71 [c'2.arg.av] (.b r'4)∧(r'4 = true→K true)∧(r'4 = false→P1 (IntKind.i64.wrap (i4 + 1)) m0))∧(¬(i4 < (m0.defers.length:Int))→T204_5 prog K )
def T204_3 (prog:Prog)(K:Bool→Prop)(m0:Rou):Prop:=
  ∀P1:Int→Rou→Prop,(∀(i4:Int)(m0:Rou),T204_4 prog K P1 i4 m0→P1 i4 m0)→P1 0 m0
def T204_2 (prog:Prog)(K:Bool→Prop)(P0:Int→Rou→Prop)(i3:Int)(m0:Rou):Prop:=
  (i3 < (m0.frames.length:Int)→0≤i3∧∃c'2:Frm,m0.frames[(i3).toNat]? = some c'2∧∃r'4:Bool,Pus prog 80 [c'2.av] (.b r'4)∧(r'4 = true→K true)∧(r'4 = false→P0 (IntKind.i64.wrap (i3 + 1)) m0))∧(¬(i3 < (m0.frames.length:Int))→T204_3 prog K m0)
def T204_1 (prog:Prog)(K:Bool→Prop)(m0:Rou):Prop:=
  ∀P0:Int→Rou→Prop,(∀(i3:Int)(m0:Rou),T204_2 prog K P0 i3 m0→P0 i3 m0)→P0 0 m0
def T204_0 (prog:Prog)(K:Bool→Prop)(x0:Rou):Prop:=
  ((x0.frames.length:Int) > 12→K true)∧(¬((x0.frames.length:Int) > 12)→((x0.defers.length:Int) > 12→K true)∧(¬((x0.defers.length:Int) > 12)→((x0.panics.length:Int) > 20→K true)∧(¬((x0.panics.length:Int) > 20)→∃r'4:Bool,Pus prog 162 [.sl .ext (List.map Pan.row x0.panics)] (.b r'4)∧(r'4 = true→K true)∧(r'4 = false→T204_1 prog K x0))))
section
variable {prog:Prog}{d:Nat}{Q:AE→Sl→St→Prop}{K:Bool→Prop}(hQ:H204 Q K){σ:Sl}{st:St}
include hQ
theorem w204_5 (h:T204_5 prog K ):W prog d c204_2 σ st Q:=
 q_ rfl (m_ (e_ (rt_ (hQ _ _ _ rfl h))))
theorem w204_4 {i4:Int}{m0:Rou}{P1:Int→Rou→Prop} (kP1 :∀(i4:Int)(m0:Rou),P1 i4 m0→I204_1 prog d Q i4 m0){v0:Nat}(H1:σ 1 = .p (d,0) v0 0)(H4:σ 4 = .i .i64 i4)(B0:lk st.bx (d,0) = some (v0,[.i .u8 m0.status,.i .i64 m0.key,.sl .ext (List.map Frm.row m0.frames),.sl .ext (List.map Dfr.row m0.defers),.sl .ext (List.map Pan.row m0.panics)]))(h:T204_4 prog K P1 i4 m0):W prog d l204_1 σ st (thenW prog d (.loop l204_1) (blockW 2 (thenW prog d c204_2 Q))):=
 sq_ (q_ rfl (m_ (f_ H1 (l_ rfl B0 rfl rfl (ll_ rfl (b_ H4 rfl lss_ (e_ (cs_ rfl (fun g'1=>sk_ (sq_ (bk_ (q_ rfl (f_ H1 (l_ rfl B0 rfl rfl (m_ ((h.1 g'1).2.elim fun c'2 e'3=>ia_ rfl H4 (h.1 g'1).1 e'3.1 (Dfr.row_eq c'2) rfl (ff_ rfl (lf_ rfl rfl rfl (e'3.2.elim fun r'4 e'5=>ca_ (sc rfl rfl sn) e'5.1 (e_ (cb_ rfl (fun g'6=>q_ rfl (m_ (e_ (rt_ (hQ _ _ _ rfl (e'5.2.1 g'6)))))) (fun g'6=>sk_ (W.reg0 rfl fun _ _=>m_ (b_ H4 rfl add_ (m_ (e_ (kP1 _ _ (e'5.2.2 g'6) _ _ _ H1 rfl B0))))))))))))))))))) (fun g'1=>ex_ (w204_5 hQ (h.2 g'1)))))))))))
theorem w204_3 {m0:Rou}{v0:Nat}(H1:σ 1 = .p (d,0) v0 0)(B0:lk st.bx (d,0) = some (v0,[.i .u8 m0.status,.i .i64 m0.key,.sl .ext (List.map Frm.row m0.frames),.sl .ext (List.map Dfr.row m0.defers),.sl .ext (List.map Pan.row m0.panics)]))(h:T204_3 prog K m0):W prog d c204_3 σ st Q:=
 sq_ (q_ rfl (m_ (e_ (bk_ (h (I204_1 prog d Q ) (fun _ _ hb _ _ _ H1 H4 B0=>W.loop (w204_4 hQ (fun _ _ x=>x) H1 H4 B0 hb)) _ _ _ H1 rfl B0)))))
theorem w204_2 {i3:Int}{m0:Rou}{P0:Int→Rou→Prop} (kP0 :∀(i3:Int)(m0:Rou),P0 i3 m0→I204_0 prog d Q i3 m0){v0:Nat}(H1:σ 1 = .p (d,0) v0 0)(H3:σ 3 = .i .i64 i3)(B0:lk st.bx (d,0) = some (v0,[.i .u8 m0.status,.i .i64 m0.key,.sl .ext (List.map Frm.row m0.frames),.sl .ext (List.map Dfr.row m0.defers),.sl .ext (List.map Pan.row m0.panics)]))(h:T204_2 prog K P0 i3 m0):W prog d l204_0 σ st (thenW prog d (.loop l204_0) (blockW 0 (thenW prog d c204_3 Q))):=
 sq_ (q_ rfl (m_ (f_ H1 (l_ rfl B0 rfl rfl (ll_ rfl (b_ H3 rfl lss_ (e_ (cs_ rfl (fun g'1=>sk_ (sq_ (bk_ (q_ rfl (f_ H1 (l_ rfl B0 rfl rfl (m_ ((h.1 g'1).2.elim fun c'2 e'3=>ia_ rfl H3 (h.1 g'1).1 e'3.1 (Frm.row_eq c'2) rfl (lf_ rfl rfl rfl (e'3.2.elim fun r'4 e'5=>ca_ (sc rfl rfl sn) e'5.1 (e_ (cb_ rfl (fun g'6=>q_ rfl (m_ (e_ (rt_ (hQ _ _ _ rfl (e'5.2.1 g'6)))))) (fun g'6=>sk_ (W.reg0 rfl fun _ _=>m_ (b_ H3 rfl add_ (m_ (e_ (kP0 _ _ (e'5.2.2 g'6) _ _ _ H1 rfl B0)))))))))))))))))) (fun g'1=>ex_ (w204_3 hQ H1 B0 (h.2 g'1)))))))))))
theorem w204_1 {m0:Rou}{v0:Nat}(H1:σ 1 = .p (d,0) v0 0)(B0:lk st.bx (d,0) = some (v0,[.i .u8 m0.status,.i .i64 m0.key,.sl .ext (List.map Frm.row m0.frames),.sl .ext (List.map Dfr.row m0.defers),.sl .ext (List.map Pan.row m0.panics)]))(h:T204_1 prog K m0):W prog d c204_4 σ st Q:=
 sq_ (q_ rfl (m_ (e_ (bk_ (h (I204_0 prog d Q ) (fun _ _ hb _ _ _ H1 H3 B0=>W.loop (w204_2 hQ (fun _ _ x=>x) H1 H3 B0 hb)) _ _ _ H1 rfl B0)))))
theorem w204_0 {x0:Rou}(H0:σ 0 = x0.av)(h:T204_0 prog K x0):W prog d (.seq (.reg 0 r204_0) (.seq (.seq (.reg 1 r204_1) (.cond (.t 25) (.seq (.reg 2 r204_2) .ret) .skip)) c204_4)) σ st Q:=
 q_ rfl (s_box H0 rfl (m_ (e_ (sq_ (q_ rfl (f_ rfl (l_ rfl lk_here rfl rfl (ll_ rfl (b_ rfl rfl gtr_ (s_mvB rfl (em_ (g:=9) rfl (fun g'1=>gn_ (b:=true) rfl rfl (gn_ (b:=true) rfl rfl (gn_ (b:=true) rfl rfl (gn_ (b:=true) rfl rfl (pt_ rfl rfl (s_mvB rfl (gn_ (b:=true) rfl rfl (gn_ (b:=true) rfl rfl (gn_ (b:=true) rfl rfl (gn_ (b:=true) rfl rfl (pt_ rfl rfl (s_mvB rfl (gn_ (b:=true) rfl rfl (gn_ (b:=true) rfl rfl (gn_ (b:=true) rfl rfl (pt_ rfl rfl (e_ (ct_ rfl (q_ rfl (m_ (e_ (rt_ (hQ _ _ _ rfl (h.1 g'1)))))))))))))))))))))))) (fun g'1=>gy_ rfl (f_ rfl (gy_ rfl (l_ rfl lk_here rfl rfl (gy_ rfl (ll_ rfl (gy_ rfl (b_ rfl rfl gtr_ (pf_ rfl rfl (s_mvB rfl (em_ (g:=15) rfl (fun g'2=>gn_ (b:=true) rfl rfl (gn_ (b:=true) rfl rfl (gn_ (b:=true) rfl rfl (gn_ (b:=true) rfl rfl (pt_ rfl rfl (s_mvB rfl (gn_ (b:=true) rfl rfl (gn_ (b:=true) rfl rfl (gn_ (b:=true) rfl rfl (pt_ rfl rfl (e_ (ct_ rfl (q_ rfl (m_ (e_ (rt_ (hQ _ _ _ rfl ((h.2 g'1).1 g'2)))))))))))))))))) (fun g'2=>gy_ rfl (f_ rfl (gy_ rfl (l_ rfl lk_here rfl rfl (gy_ rfl (ll_ rfl (gy_ rfl (b_ rfl rfl gtr_ (pf_ rfl rfl (s_mvB rfl (em_ (g:=21) rfl (fun g'3=>gn_ (b:=true) rfl rfl (gn_ (b:=true) rfl rfl (gn_ (b:=true) rfl rfl (pt_ rfl rfl (e_ (ct_ rfl (q_ rfl (m_ (e_ (rt_ (hQ _ _ _ rfl (((h.2 g'1).2 g'2).1 g'3)))))))))))) (fun g'3=>gy_ rfl (f_ rfl (gy_ rfl (l_ rfl lk_here rfl rfl (gy_ rfl ((((h.2 g'1).2 g'2).2 g'3).elim fun r'4 e'5=>ca_ (sc rfl rfl sn) e'5.1 (pf_ rfl rfl (e_ (cb_ rfl (fun g'6=>q_ rfl (m_ (e_ (rt_ (hQ _ _ _ rfl (e'5.2.1 g'6)))))) (fun g'6=>sk_ (w204_1 hQ rfl lk_here (e'5.2.2 g'6)))))))))))))))))))))))))))))))))))))))))))))
end
theorem p204 {prog:Prog}(hf:prog.fn 204 = some pf204){x0:Rou}{K:Bool→Prop}(h:T204_0 prog K x0) :∃res0:Bool,K res0∧Pus prog 204 [x0.av] (.b res0):=by
  obtain ⟨v,hv,res0,hk,rfl⟩:=Pus.of (K:=fun v=>∃res0:Bool,K res0∧v = .b res0) hf rfl (w204_0 (σ:=sl0 [x0.av]) (fun σ st   res0 H2 hk=>⟨.b res0,by simp only [pf204,ares,aresL,H2,ares1,Option.map_some],_,rfl,res0,hk,rfl⟩) rfl h)
  exact ⟨res0,hk,hv⟩
def r202_0:List AI:=[oO 6 (.box 3 (.t 0)),
 oO 7 (.box 4 (.t 1)),
 oO 9 (.box 5 (.t 3)),
 oC 12 (.b false)]
def r202_1:List AI:=[oO 29 (.load 3 true (.t 6)),
 oO 30 (.call false 79 [(.t 29)]),
 oM 31 30,
 oG 32 (.load 4 true (.t 7)) 31 false,
 oG 33 (.call false 203 [(.t 32)]) 31 false,
 oO 34 (.pick (.t 31) (.c (.b true)) (.t 33)),
 oM 35 34,
 oG 36 (.load 5 true (.t 9)) 35 false,
 oG 37 (.call false 204 [(.t 36)]) 35 false,
 oO 38 (.pick (.t 35) (.c (.b true)) (.t 37)),
 oM 39 38,
 oG 40 (.mv (.t 5)) 39 false,
 oG 41 (.len true (.t 40)) 39 false,
 oG 42 (.bin .gtr (.t 41) (.c (.i .i64 100))) 39 false,
 oO 43 (.pick (.t 39) (.c (.b true)) (.t 42))]
def r202_2:List AI:=[oC 12 (.b true)]
def r202_3:List AI:=[oO 45 (.load 3 true (.t 6)),
 oO 46 (.load 4 true (.t 7)),
 oO 47 (.call false 205 [(.t 45),(.t 46)]),
 oM 44 47,
 oE 48 0 44,
 oE 49 1 44,
 oM 13 48,
 oM 14 49]
def r202_4:List AI:=[oO 51 (.load 3 true (.t 6)),
 oO 52 (.load 4 true (.t 7)),
 oO 53 (.call false 206 [(.t 51),(.t 52)]),
 oM 50 53,
 oE 54 0 50,
 oE 55 1 50,
 oM 15 54,
 oM 16 55]
def r202_5:List AI:=[oO 57 (.load 3 true (.t 6)),
 oM 58 2,
 oO 59 (.load 5 true (.t 9)),
 oO 60 (.call false 207 [(.t 57),(.t 58),(.t 59)]),
 oM 56 60,
 oE 61 0 56,
 oE 62 1 56,
 oM 17 61,
 oM 18 62]
def r202_6:List AI:=[oO 64 (.load 3 true (.t 6)),
 oM 65 2,
 oO 66 (.load 5 true (.t 9)),
 oO 67 (.call false 208 [(.t 64),(.t 65),(.t 66)]),
 oM 63 67,
 oE 68 0 63,
 oE 69 1 63,
 oM 19 68,
 oM 20 69]
def r202_7:List AI:=[oM 71 4,
 oO 72 (.call false 209 [(.t 71)]),
 oM 70 72,
 oE 73 0 70,
 oE 74 1 70,
 oM 21 73,
 oM 22 74]
def r202_8:List AI:=[oM 76 4,
 oO 77 (.call false 210 [(.t 76)]),
 oM 75 77,
 oE 78 0 75,
 oE 79 1 75,
 oM 23 78,
 oM 24 79]
def r202_9:List AI:=[oM 81 5,
 oO 82 (.call false 211 [(.t 81)]),
 oM 80 82,
 oE 83 0 80,
 oE 84 1 80,
 oM 25 83,
 oM 26 84]
def r202_10:List AI:=[oM 86 5,
 oO 87 (.call false 212 [(.t 86)]),
 oM 85 87,
 oE 88 0 85,
 oE 89 1 85,
 oM 27 88,
 oM 28 89]
def r202_11:List AI:=[oO 90 (.load 3 true (.t 6)),
 oO 91 (.load 4 true (.t 7)),
 oO 92 (.call false 213 [(.t 90),(.t 91)]),
 oO 93 (.load 3 true (.t 6)),
 oO 94 (.load 4 true (.t 7)),
 oO 95 (.call false 214 [(.t 93),(.t 94)]),
 oB 96 .eql (.t 92) (.t 95),
 oM 97 96,
 oG 98 (.mv (.t 13)) 97 true,
 oG 99 (.mv (.t 15)) 97 true,
 oG 100 (.bin .eql (.t 98) (.t 99)) 97 true,
 oO 101 (.pick (.t 97) (.t 100) (.c (.b false))),
 oM 102 101,
 oG 103 (.mv (.t 14)) 102 true,
 oG 104 (.mv (.t 16)) 102 true,
 oG 105 (.bin .eql (.t 103) (.t 104)) 102 true,
 oO 106 (.pick (.t 102) (.t 105) (.c (.b false))),
 oM 107 106,
 oG 108 (.mv (.t 17)) 107 true,
 oG 109 (.mv (.t 19)) 107 true,
 oG 110 (.call false 29 [(.t 108),(.t 109)]) 107 true,
 oO 111 (.pick (.t 107) (.t 110) (.c (.b false))),
 oM 112 111,
 oG 113 (.mv (.t 18)) 112 true,
 oG 114 (.mv (.t 20)) 112 true,
 oG 115 (.bin .eql (.t 113) (.t 114)) 112 true,
 oO 116 (.pick (.t 112) (.t 115) (.c (.b false))),
 oM 117 116,
 oG 118 (.mv (.t 21)) 117 true,
 oG 119 (.mv (.t 23)) 117 true,
 oG 120 (.bin .eql (.t 118) (.t 119)) 117 true,
 oO 121 (.pick (.t 117) (.t 120) (.c (.b false))),
 oM 122 121,
 oG 123 (.mv (.t 22)) 122 true,
 oG 124 (.mv (.t 24)) 122 true,
 oG 125 (.bin .eql (.t 123) (.t 124)) 122 true,
 oO 126 (.pick (.t 122) (.t 125) (.c (.b false))),
 oM 127 126,
 oG 128 (.mv (.t 25)) 127 true,
 oG 129 (.mv (.t 27)) 127 true,
 oG 130 (.bin .eql (.t 128) (.t 129)) 127 true,
 oO 131 (.pick (.t 127) (.t 130) (.c (.b false))),
 oM 132 131,
 oG 133 (.mv (.t 26)) 132 true,
 oG 134 (.mv (.t 28)) 132 true,
 oG 135 (.bin .eql (.t 133) (.t 134)) 132 true,
 oO 136 (.pick (.t 132) (.t 135) (.c (.b false))),
 oM 12 136]
abbrev c202_0:AC:=(.seq (.reg 9 r202_9) (.seq (.reg 10 r202_10) (.seq (.reg 11 r202_11) .ret)))
abbrev c202_1:AC:=(.seq (.reg 8 r202_8) c202_0)
abbrev c202_2:AC:=(.seq (.reg 7 r202_7) c202_1)
abbrev c202_3:AC:=(.seq (.reg 6 r202_6) c202_2)
abbrev c202_4:AC:=(.seq (.reg 5 r202_5) c202_3)
abbrev c202_5:AC:=(.seq (.reg 4 r202_4) c202_4)
abbrev c202_6:AC:=(.seq (.reg 3 r202_3) c202_5)
abbrev c202_7:AC:=(.seq (.seq (.reg 1 r202_1) (.cond (.t 43) (.seq (.reg 2 r202_2) .ret) .skip)) c202_6)
abbrev b202:AC:=(.seq (.reg 0 r202_0) c202_7)
def pf202:AF:={ nt:=137,res:=[.tmp 12],body:=b202 }
abbrev H202 (Q:AE→Sl→St→Prop)(K:Bool→Prop):Prop:=∀(σ:Sl)(st:St)(res0:Bool),σ 12 = .b res0→K res0→Q .ret σ st
def T202_8 (prog:Prog)(K:Bool→Prop)(word5:List UInt8)(a13:List UInt8)(e14:Int)(b15:List UInt8)(f16:Int)(c17:List (List UInt8))(h18:Int)(d19:List (List UInt8))(i20:Int)(j21:List UInt8)(k22:Int)(l23:List UInt8)(o24:Int)(m0:Img)(m1:Sta):Prop:=
  ∃r'1:Int,∃r'2:Int,Pus prog 211 [.s word5] (.tup [.i .u8 r'1,.i .i64 r'2])∧∃r'4:Int,∃r'5:Int,Pus prog 212 [.s word5] (.tup [.i .u8 r'4,.i .i64 r'5])∧∃r'7:Int,Pus prog 213 [m0.av,m1.av] (.i .i64 r'7)∧∃r'9:Int,Pus prog 214 [m0.av,m1.av] (.i .i64 r'9)∧(r'7 = r'9→(a13 = b15→(e14 = f16→∃r'14:Bool,Pus prog 29 [.sl .ext (List.map rowS c17),.sl .ext (List.map rowS d19)] (.b r'14)∧(r'14 = true→(h18 = i20→(j21 = l23→(k22 = o24→(r'1 = r'4→K (decide (r'2 = r'5)))∧(¬(r'1 = r'4)→K false))∧(¬(k22 = o24)→K false))∧(¬(j21 = l23)→K false))∧(¬(h18 = i20)→K false))∧(r'14 = false→K false))∧(¬(e14 = f16)→K false))∧(¬(a13 = b15)→K false))∧(¬(r'7 = r'9)→K false)
def T202_7 (prog:Prog)(K:Bool→Prop)(n4:Int)(word5:List UInt8)(a13:List UInt8)(e14:Int)(b15:List UInt8)(f16:Int)(c17:List (List UInt8))(h18:Int)(d19:List (List UInt8))(i20:Int)(j21:List UInt8)(k22:Int)(m0:Img)(m1:Sta):Prop:=
  ∃r'1:List UInt8,∃r'2:Int,Pus prog 210 [.i .u8 n4] (.tup [.s r'1,.i .i64 r'2])∧T202_8 prog K word5 a13 e14 b15 f16 c17 h18 d19 i20 j21 k22 r'1 r'2 m0 m1
def T202_6 (prog:Prog)(K:Bool→Prop)(n4:Int)(word5:List UInt8)(a13:List UInt8)(e14:Int)(b15:List UInt8)(f16:Int)(c17:List (List UInt8))(h18:Int)(d19:List (List UInt8))(i20:Int)(m0:Img)(m1:Sta):Prop:=
  ∃r'1:List UInt8,∃r'2:Int,Pus prog 209 [.i .u8 n4] (.tup [.s r'1,.i .i64 r'2])∧T202_7 prog K n4 word5 a13 e14 b15 f16 c17 h18 d19 i20 r'1 r'2 m0 m1
def T202_5 (prog:Prog)(K:Bool→Prop)(g2:Int)(n4:Int)(word5:List UInt8)(a13:List UInt8)(e14:Int)(b15:List UInt8)(f16:Int)(c17:List (List UInt8))(h18:Int)(m0:Img)(m1:Sta)(m2:Rou):Prop:=
  ∃r'1:List (List UInt8),∃r'2:Int,Pus prog 208 [m0.av,.i .i64 g2,m2.av] (.tup [.sl .ext (List.map rowS r'1),.i .i64 r'2])∧T202_6 prog K n4 word5 a13 e14 b15 f16 c17 h18 r'1 r'2 m0 m1
def T202_4 (prog:Prog)(K:Bool→Prop)(g2:Int)(n4:Int)(word5:List UInt8)(a13:List UInt8)(e14:Int)(b15:List UInt8)(f16:Int)(m0:Img)(m1:Sta)(m2:Rou):Prop:=
  ∃r'1:List (List UInt8),∃r'2:Int,Pus prog 207 [m0.av,.i .i64 g2,m2.av] (.tup [.sl .ext (List.map rowS r'1),.i .i64 r'2])∧T202_5 prog K g2 n4 word5 a13 e14 b15 f16 r'1 r'2 m0 m1 m2
def T202_3 (prog:Prog)(K:Bool→Prop)(g2:Int)(n4:Int)(word5:List UInt8)(a13:List UInt8)(e14:Int)(m0:Img)(m1:Sta)(m2:Rou):Prop:=
  ∃r'1:List UInt8,∃r'2:Int,Pus prog 206 [m0.av,m1.av] (.tup [.s r'1,.i .i64 r'2])∧T202_4 prog K g2 n4 word5 a13 e14 r'1 r'2 m0 m1 m2
def T202_2 (prog:Prog)(K:Bool→Prop)(g2:Int)(n4:Int)(word5:List UInt8)(m0:Img)(m1:Sta)(m2:Rou):Prop:=
  ∃r'1:List UInt8,∃r'2:Int,Pus prog 205 [m0.av,m1.av] (.tup [.s r'1,.i .i64 r'2])∧T202_3 prog K g2 n4 word5 r'1 r'2 m0 m1 m2
def T202_1 (prog:Prog)(K:Bool→Prop)(g2:Int)(n4:Int)(word5:List UInt8)(m0:Img)(m1:Sta)(m2:Rou):Prop:=
  ∃r'1:Bool,Pus prog 79 [m0.av] (.b r'1)∧(r'1 = true→K true)∧(r'1 = false→∃r'4:Bool,Pus prog 203 [m1.av] (.b r'4)∧(r'4 = true→K true)∧(r'4 = false→∃r'7:Bool,Pus prog 204 [m2.av] (.b r'7)∧(r'7 = true→K true)∧(r'7 = false→((word5.length:Int) > 100→K true)∧(¬((word5.length:Int) > 100)→T202_2 prog K g2 n4 word5 m0 m1 m2))))
def T202_0 (prog:Prog)(K:Bool→Prop)(m0:Img)(s1:Sta)(g2:Int)(x3:Rou)(n4:Int)(word5:List UInt8):Prop:=
  T202_1 prog K g2 n4 word5 m0 s1 x3
section
variable {prog:Prog}{d:Nat}{Q:AE→Sl→St→Prop}{K:Bool→Prop}(hQ:H202 Q K){σ:Sl}{st:St}
include hQ
theorem w202_8 {word5 a13:List UInt8}{e14:Int}{b15:List UInt8}{f16:Int}{c17:List (List UInt8)}{h18:Int}{d19:List (List UInt8)}{i20:Int}{j21:List UInt8}{k22:Int}{l23:List UInt8}{o24:Int}{m0:Img}{m1:Sta}{o_c17 o_d19:Own}{v0:Nat}{v1:Nat}(H5:σ 5 = .s word5)(H6:σ 6 = .p (d,0) v0 0)(H7:σ 7 = .p (d,1) v1 0)(H13:σ 13 = .s a13)(H14:σ 14 = .i .i64 e14)(H15:σ 15 = .s b15)(H16:σ 16 = .i .i64 f16)(H17:σ 17 = .sl o_c17 (List.map rowS c17))(H18:σ 18 = .i .i64 h18)(H19:σ 19 = .sl o_d19 (List.map rowS d19))(H20:σ 20 = .i .i64 i20)(H21:σ 21 = .s j21)(H22:σ 22 = .i .i64 k22)(H23:σ 23 = .s l23)(H24:σ 24 = .i .i64 o24)(B0:lk st.bx (d,0) = some (v0,[.sl .ext (List.map Typ.row m0.types),.sl .ext (List.map rowS m0.texts),.sl .ext (List.map Fun.row m0.funcs)]))(B1:lk st.bx (d,1) = some (v1,[.i .u8 m1.outcome,.i .i64 m1.failing,.i .i64 m1.steps,.sl .ext (List.map Rou.row m1.routines)]))(h:T202_8 prog K word5 a13 e14 b15 f16 c17 h18 d19 i20 j21 k22 l23 o24 m0 m1):W prog d c202_0 σ st Q:=
 q_ rfl (m_ (h.elim fun r'1 e'22=>e'22.elim fun r'2 e'3=>ca_ (sc H5 rfl sn) e'3.1 (m_ (x_ rfl rfl (x_ rfl rfl (m_ (m_ (e_ (q_ rfl (m_ (e'3.2.elim fun r'4 e'21=>e'21.elim fun r'5 e'6=>ca_ (sc H5 rfl sn) e'6.1 (m_ (x_ rfl rfl (x_ rfl rfl (m_ (m_ (e_ (q_ rfl (l_ H6 B0 rfl rfl (l_ H7 B1 rfl rfl (e'6.2.elim fun r'7 e'8=>ca_ (sc rfl rfl (sc rfl rfl sn)) e'8.1 (l_ H6 B0 rfl rfl (l_ H7 B1 rfl rfl (e'8.2.elim fun r'9 e'10=>ca_ (sc rfl rfl (sc rfl rfl sn)) e'10.1 (b_ rfl rfl eql_ (s_mvB rfl (em_ (g:=97) rfl (fun g'11=>gy_ rfl (s_mvS H13 (gy_ rfl (s_mvS H15 (gy_ rfl (b_ rfl rfl seq_ (pt_ rfl rfl (s_mvB rfl (em_ (g:=102) rfl (fun g'12=>gy_ rfl (s_mvI H14 (gy_ rfl (s_mvI H16 (gy_ rfl (b_ rfl rfl eql_ (pt_ rfl rfl (s_mvB rfl (em_ (g:=107) rfl (fun g'13=>gy_ rfl (s_mvL H17 (gy_ rfl (s_mvL H19 (gy_ rfl ((((e'10.2.1 g'11).1 g'12).1 g'13).elim fun r'14 e'15=>ca_ (sc rfl rfl (sc rfl rfl sn)) e'15.1 (pt_ rfl rfl (s_mvB rfl (eb_ (g:=112) rfl (fun g'16=>gy_ rfl (s_mvI H18 (gy_ rfl (s_mvI H20 (gy_ rfl (b_ rfl rfl eql_ (pt_ rfl rfl (s_mvB rfl (em_ (g:=117) rfl (fun g'17=>gy_ rfl (s_mvS H21 (gy_ rfl (s_mvS H23 (gy_ rfl (b_ rfl rfl seq_ (pt_ rfl rfl (s_mvB rfl (em_ (g:=122) rfl (fun g'18=>gy_ rfl (s_mvI H22 (gy_ rfl (s_mvI H24 (gy_ rfl (b_ rfl rfl eql_ (pt_ rfl rfl (s_mvB rfl (em_ (g:=127) rfl (fun g'19=>gy_ rfl (s_mvI rfl (gy_ rfl (s_mvI rfl (gy_ rfl (b_ rfl rfl eql_ (pt_ rfl rfl (s_mvB rfl (em_ (g:=132) rfl (fun g'20=>gy_ rfl (s_mvI rfl (gy_ rfl (s_mvI rfl (gy_ rfl (b_ rfl rfl eql_ (pt_ rfl rfl (s_mvB rfl (e_ (rt_ (hQ _ _ _ rfl (((((e'15.2.1 g'16).1 g'17).1 g'18).1 g'19).1 g'20)))))))))))) (fun g'20=>gn_ (b:=false) rfl rfl (gn_ (b:=false) rfl rfl (gn_ (b:=false) rfl rfl (pf_ rfl rfl (s_mvB rfl (e_ (rt_ (hQ _ _ _ rfl (((((e'15.2.1 g'16).1 g'17).1 g'18).1 g'19).2 g'20)))))))))))))))))) (fun g'19=>gn_ (b:=false) rfl rfl (gn_ (b:=false) rfl rfl (gn_ (b:=false) rfl rfl (pf_ rfl rfl (s_mvB rfl (gn_ (b:=false) rfl rfl (gn_ (b:=false) rfl rfl (gn_ (b:=false) rfl rfl (pf_ rfl rfl (s_mvB rfl (e_ (rt_ (hQ _ _ _ rfl ((((e'15.2.1 g'16).1 g'17).1 g'18).2 g'19))))))))))))))))))))))) (fun g'18=>gn_ (b:=false) rfl rfl (gn_ (b:=false) rfl rfl (gn_ (b:=false) rfl rfl (pf_ rfl rfl (s_mvB rfl (gn_ (b:=false) rfl rfl (gn_ (b:=false) rfl rfl (gn_ (b:=false) rfl rfl (pf_ rfl rfl (s_mvB rfl (gn_ (b:=false) rfl rfl (gn_ (b:=false) rfl rfl (gn_ (b:=false) rfl rfl (pf_ rfl rfl (s_mvB rfl (e_ (rt_ (hQ _ _ _ rfl (((e'15.2.1 g'16).1 g'17).2 g'18)))))))))))))))))))))))))))) (fun g'17=>gn_ (b:=false) rfl rfl (gn_ (b:=false) rfl rfl (gn_ (b:=false) rfl rfl (pf_ rfl rfl (s_mvB rfl (gn_ (b:=false) rfl rfl (gn_ (b:=false) rfl rfl (gn_ (b:=false) rfl rfl (pf_ rfl rfl (s_mvB rfl (gn_ (b:=false) rfl rfl (gn_ (b:=false) rfl rfl (gn_ (b:=false) rfl rfl (pf_ rfl rfl (s_mvB rfl (gn_ (b:=false) rfl rfl (gn_ (b:=false) rfl rfl (gn_ (b:=false) rfl rfl (pf_ rfl rfl (s_mvB rfl (e_ (rt_ (hQ _ _ _ rfl ((e'15.2.1 g'16).2 g'17))))))))))))))))))))))))))))))))) (fun g'16=>gn_ (b:=false) rfl rfl (gn_ (b:=false) rfl rfl (gn_ (b:=false) rfl rfl (pf_ rfl rfl (s_mvB rfl (gn_ (b:=false) rfl rfl (gn_ (b:=false) rfl rfl (gn_ (b:=false) rfl rfl (pf_ rfl rfl (s_mvB rfl (gn_ (b:=false) rfl rfl (gn_ (b:=false) rfl rfl (gn_ (b:=false) rfl rfl (pf_ rfl rfl (s_mvB rfl (gn_ (b:=false) rfl rfl (gn_ (b:=false) rfl rfl (gn_ (b:=false) rfl rfl (pf_ rfl rfl (s_mvB rfl (gn_ (b:=false) rfl rfl (gn_ (b:=false) rfl rfl (gn_ (b:=false) rfl rfl (pf_ rfl rfl (s_mvB rfl (e_ (rt_ (hQ _ _ _ rfl (e'15.2.2 g'16)))))))))))))))))))))))))))))))))))))) (fun g'13=>gn_ (b:=false) rfl rfl (gn_ (b:=false) rfl rfl (gn_ (b:=false) rfl rfl (pf_ rfl rfl (s_mvB rfl (gn_ (b:=false) rfl rfl (gn_ (b:=false) rfl rfl (gn_ (b:=false) rfl rfl (pf_ rfl rfl (s_mvB rfl (gn_ (b:=false) rfl rfl (gn_ (b:=false) rfl rfl (gn_ (b:=false) rfl rfl (pf_ rfl rfl (s_mvB rfl (gn_ (b:=false) rfl rfl (gn_ (b:=false) rfl rfl (gn_ (b:=false) rfl rfl (pf_ rfl rfl (s_mvB rfl (gn_ (b:=false) rfl rfl (gn_ (b:=false) rfl rfl (gn_ (b:=false) rfl rfl (pf_ rfl rfl (s_mvB rfl (gn_ (b:=false) rfl rfl (gn_ (b:=false) rfl rfl (gn_ (b:=false) rfl rfl (pf_ rfl rfl (s_mvB rfl (e_ (rt_ (hQ _ _ _ rfl (((e'10.2.1 g'11).1 g'12).2 g'13))))))))))))))))))))))))))))))))))))))))))) (fun g'12=>gn_ (b:=false) rfl rfl (gn_ (b:=false) rfl rfl (gn_ (b:=false) rfl rfl (pf_ rfl rfl (s_mvB rfl (gn_ (b:=false) rfl rfl (gn_ (b:=false) rfl rfl (gn_ (b:=false) rfl rfl (pf_ rfl rfl (s_mvB rfl (gn_ (b:=false) rfl rfl (gn_ (b:=false) rfl rfl (gn_ (b:=false) rfl rfl (pf_ rfl rfl (s_mvB rfl (gn_ (b:=false) rfl rfl (gn_ (b:=false) rfl rfl (gn_ (b:=false) rfl rfl (pf_ rfl rfl (s_mvB rfl (gn_ (b:=false) rfl rfl (gn_ (b:=false) rfl rfl (gn_ (b:=false) rfl rfl (pf_ rfl rfl (s_mvB rfl (gn_ (b:=false) rfl rfl (gn_ (b:=false) rfl rfl (gn_ (b:=false) rfl rfl (pf_ rfl rfl (s_mvB rfl (gn_ (b:=false) rfl rfl (gn_ (b:=false) rfl rfl (gn_ (b:=false) rfl rfl (pf_ rfl rfl (s_mvB rfl (e_ (rt_ (hQ _ _ _ rfl ((e'10.2.1 g'11).2 g'12)))))))))))))))))))))))))))))))))))))))))))))))) (fun g'11=>gn_ (b:=false) rfl rfl (gn_ (b:=false) rfl rfl (gn_ (b:=false) rfl rfl (pf_ rfl rfl (s_mvB rfl (gn_ (b:=false) rfl rfl (gn_ (b:=false) rfl rfl (gn_ (b:=false) rfl rfl (pf_ rfl rfl (s_mvB rfl (gn_ (b:=false) rfl rfl (gn_ (b:=false) rfl rfl (gn_ (b:=false) rfl rfl (pf_ rfl rfl (s_mvB rfl (gn_ (b:=false) rfl rfl (gn_ (b:=false) rfl rfl (gn_ (b:=false) rfl rfl (pf_ rfl rfl (s_mvB rfl (gn_ (b:=false) rfl rfl (gn_ (b:=false) rfl rfl (gn_ (b:=false) rfl rfl (pf_ rfl rfl (s_mvB rfl (gn_ (b:=false) rfl rfl (gn_ (b:=false) rfl rfl (gn_ (b:=false) rfl rfl (pf_ rfl rfl (s_mvB rfl (gn_ (b:=false) rfl rfl (gn_ (b:=false) rfl rfl (gn_ (b:=false) rfl rfl (pf_ rfl rfl (s_mvB rfl (gn_ (b:=false) rfl rfl (gn_ (b:=false) rfl rfl (gn_ (b:=false) rfl rfl (pf_ rfl rfl (s_mvB rfl (e_ (rt_ (hQ _ _ _ rfl (e'10.2.2 g'11)))))))))))))))))))))))))))))))))))))))))))))))))))))))))))))))))))))))
theorem w202_7 {n4:Int}{word5 a13:List UInt8}{e14:Int}{b15:List UInt8}{f16:Int}{c17:List (List UInt8)}{h18:Int}{d19:List (List UInt8)}{i20:Int}{j21:List UInt8}{k22:Int}{m0:Img}{m1:Sta}{o_c17 o_d19:Own}{v0:Nat}{v1:Nat}(H4:σ 4 = .i .u8 n4)(H5:σ 5 = .s word5)(H6:σ 6 = .p (d,0) v0 0)(H7:σ 7 = .p (d,1) v1 0)(H13:σ 13 = .s a13)(H14:σ 14 = .i .i64 e14)(H15:σ 15 = .s b15)(H16:σ 16 = .i .i64 f16)(H17:σ 17 = .sl o_c17 (List.map rowS c17))(H18:σ 18 = .i .i64 h18)(H19:σ 19 = .sl o_d19 (List.map rowS d19))(H20:σ 20 = .i .i64 i20)(H21:σ 21 = .s j21)(H22:σ 22 = .i .i64 k22)(B0:lk st.bx (d,0) = some (v0,[.sl .ext (List.map Typ.row m0.types),.sl .ext (List.map rowS m0.texts),.sl .ext (List.map Fun.row m0.funcs)]))(B1:lk st.bx (d,1) = some (v1,[.i .u8 m1.outcome,.i .i64 m1.failing,.i .i64 m1.steps,.sl .ext (List.map Rou.row m1.routines)]))(h:T202_7 prog K n4 word5 a13 e14 b15 f16 c17 h18 d19 i20 j21 k22 m0 m1):W prog d c202_1 σ st Q:=
 q_ rfl (m_ (h.elim fun r'1 e'4=>e'4.elim fun r'2 e'3=>ca_ (sc H4 rfl sn) e'3.1 (m_ (x_ rfl rfl (x_ rfl rfl (m_ (m_ (e_ (w202_8 hQ H5 H6 H7 H13 H14 H15 H16 H17 H18 H19 H20 H21 H22 rfl rfl B0 B1 e'3.2)))))))))
theorem w202_6 {n4:Int}{word5 a13:List UInt8}{e14:Int}{b15:List UInt8}{f16:Int}{c17:List (List UInt8)}{h18:Int}{d19:List (List UInt8)}{i20:Int}{m0:Img}{m1:Sta}{o_c17 o_d19:Own}{v0:Nat}{v1:Nat}(H4:σ 4 = .i .u8 n4)(H5:σ 5 = .s word5)(H6:σ 6 = .p (d,0) v0 0)(H7:σ 7 = .p (d,1) v1 0)(H13:σ 13 = .s a13)(H14:σ 14 = .i .i64 e14)(H15:σ 15 = .s b15)(H16:σ 16 = .i .i64 f16)(H17:σ 17 = .sl o_c17 (List.map rowS c17))(H18:σ 18 = .i .i64 h18)(H19:σ 19 = .sl o_d19 (List.map rowS d19))(H20:σ 20 = .i .i64 i20)(B0:lk st.bx (d,0) = some (v0,[.sl .ext (List.map Typ.row m0.types),.sl .ext (List.map rowS m0.texts),.sl .ext (List.map Fun.row m0.funcs)]))(B1:lk st.bx (d,1) = some (v1,[.i .u8 m1.outcome,.i .i64 m1.failing,.i .i64 m1.steps,.sl .ext (List.map Rou.row m1.routines)]))(h:T202_6 prog K n4 word5 a13 e14 b15 f16 c17 h18 d19 i20 m0 m1):W prog d c202_2 σ st Q:=
 q_ rfl (m_ (h.elim fun r'1 e'4=>e'4.elim fun r'2 e'3=>ca_ (sc H4 rfl sn) e'3.1 (m_ (x_ rfl rfl (x_ rfl rfl (m_ (m_ (e_ (w202_7 hQ H4 H5 H6 H7 H13 H14 H15 H16 H17 H18 H19 H20 rfl rfl B0 B1 e'3.2)))))))))
theorem w202_5 {g2 n4:Int}{word5 a13:List UInt8}{e14:Int}{b15:List UInt8}{f16:Int}{c17:List (List UInt8)}{h18:Int}{m0:Img}{m1:Sta}{m2:Rou}{o_c17:Own}{v0:Nat}{v1:Nat}{v2:Nat}(H2:σ 2 = .i .i64 g2)(H4:σ 4 = .i .u8 n4)(H5:σ 5 = .s word5)(H6:σ 6 = .p (d,0) v0 0)(H7:σ 7 = .p (d,1) v1 0)(H9:σ 9 = .p (d,2) v2 0)(H13:σ 13 = .s a13)(H14:σ 14 = .i .i64 e14)(H15:σ 15 = .s b15)(H16:σ 16 = .i .i64 f16)(H17:σ 17 = .sl o_c17 (List.map rowS c17))(H18:σ 18 = .i .i64 h18)(B0:lk st.bx (d,0) = some (v0,[.sl .ext (List.map Typ.row m0.types),.sl .ext (List.map rowS m0.texts),.sl .ext (List.map Fun.row m0.funcs)]))(B1:lk st.bx (d,1) = some (v1,[.i .u8 m1.outcome,.i .i64 m1.failing,.i .i64 m1.steps,.sl .ext (List.map Rou.row m1.routines)]))(B2:lk st.bx (d,2) = some (v2,[.i .u8 m2.status,.i .i64 m2.key,.sl .ext (List.map Frm.row m2.frames),.sl .ext (List.map Dfr.row m2.defers),.sl .ext (List.map Pan.row m2.panics)]))(h:T202_5 prog K g2 n4 word5 a13 e14 b15 f16 c17 h18 m0 m1 m2):W prog d c202_3 σ st Q:=
 q_ rfl (l_ H6 B0 rfl rfl (m_ (l_ H9 B2 rfl rfl (h.elim fun r'1 e'4=>e'4.elim fun r'2 e'3=>ca_ (sc rfl rfl (sc H2 rfl (sc rfl rfl sn))) e'3.1 (m_ (x_ rfl rfl (x_ rfl rfl (s_mvL rfl (m_ (e_ (w202_6 hQ H4 H5 H6 H7 H13 H14 H15 H16 H17 H18 rfl rfl B0 B1 e'3.2)))))))))))
theorem w202_4 {g2 n4:Int}{word5 a13:List UInt8}{e14:Int}{b15:List UInt8}{f16:Int}{m0:Img}{m1:Sta}{m2:Rou}{v0:Nat}{v1:Nat}{v2:Nat}(H2:σ 2 = .i .i64 g2)(H4:σ 4 = .i .u8 n4)(H5:σ 5 = .s word5)(H6:σ 6 = .p (d,0) v0 0)(H7:σ 7 = .p (d,1) v1 0)(H9:σ 9 = .p (d,2) v2 0)(H13:σ 13 = .s a13)(H14:σ 14 = .i .i64 e14)(H15:σ 15 = .s b15)(H16:σ 16 = .i .i64 f16)(B0:lk st.bx (d,0) = some (v0,[.sl .ext (List.map Typ.row m0.types),.sl .ext (List.map rowS m0.texts),.sl .ext (List.map Fun.row m0.funcs)]))(B1:lk st.bx (d,1) = some (v1,[.i .u8 m1.outcome,.i .i64 m1.failing,.i .i64 m1.steps,.sl .ext (List.map Rou.row m1.routines)]))(B2:lk st.bx (d,2) = some (v2,[.i .u8 m2.status,.i .i64 m2.key,.sl .ext (List.map Frm.row m2.frames),.sl .ext (List.map Dfr.row m2.defers),.sl .ext (List.map Pan.row m2.panics)]))(h:T202_4 prog K g2 n4 word5 a13 e14 b15 f16 m0 m1 m2):W prog d c202_4 σ st Q:=
 q_ rfl (l_ H6 B0 rfl rfl (m_ (l_ H9 B2 rfl rfl (h.elim fun r'1 e'4=>e'4.elim fun r'2 e'3=>ca_ (sc rfl rfl (sc H2 rfl (sc rfl rfl sn))) e'3.1 (m_ (x_ rfl rfl (x_ rfl rfl (s_mvL rfl (m_ (e_ (w202_5 hQ H2 H4 H5 H6 H7 H9 H13 H14 H15 H16 rfl rfl B0 B1 B2 e'3.2)))))))))))
theorem w202_3 {g2 n4:Int}{word5 a13:List UInt8}{e14:Int}{m0:Img}{m1:Sta}{m2:Rou}{v0:Nat}{v1:Nat}{v2:Nat}(H2:σ 2 = .i .i64 g2)(H4:σ 4 = .i .u8 n4)(H5:σ 5 = .s word5)(H6:σ 6 = .p (d,0) v0 0)(H7:σ 7 = .p (d,1) v1 0)(H9:σ 9 = .p (d,2) v2 0)(H13:σ 13 = .s a13)(H14:σ 14 = .i .i64 e14)(B0:lk st.bx (d,0) = some (v0,[.sl .ext (List.map Typ.row m0.types),.sl .ext (List.map rowS m0.texts),.sl .ext (List.map Fun.row m0.funcs)]))(B1:lk st.bx (d,1) = some (v1,[.i .u8 m1.outcome,.i .i64 m1.failing,.i .i64 m1.steps,.sl .ext (List.map Rou.row m1.routines)]))(B2:lk st.bx (d,2) = some (v2,[.i .u8 m2.status,.i .i64 m2.key,.sl .ext (List.map Frm.row m2.frames),.sl .ext (List.map Dfr.row m2.defers),.sl .ext (List.map Pan.row m2.panics)]))(h:T202_3 prog K g2 n4 word5 a13 e14 m0 m1 m2):W prog d c202_5 σ st Q:=
 q_ rfl (l_ H6 B0 rfl rfl (l_ H7 B1 rfl rfl (h.elim fun r'1 e'4=>e'4.elim fun r'2 e'3=>ca_ (sc rfl rfl (sc rfl rfl sn)) e'3.1 (m_ (x_ rfl rfl (x_ rfl rfl (m_ (m_ (e_ (w202_4 hQ H2 H4 H5 H6 H7 H9 H13 H14 rfl rfl B0 B1 B2 e'3.2))))))))))
theorem w202_2 {g2 n4:Int}{word5:List UInt8}{m0:Img}{m1:Sta}{m2:Rou}{v0:Nat}{v1:Nat}{v2:Nat}(H2:σ 2 = .i .i64 g2)(H4:σ 4 = .i .u8 n4)(H5:σ 5 = .s word5)(H6:σ 6 = .p (d,0) v0 0)(H7:σ 7 = .p (d,1) v1 0)(H9:σ 9 = .p (d,2) v2 0)(B0:lk st.bx (d,0) = some (v0,[.sl .ext (List.map Typ.row m0.types),.sl .ext (List.map rowS m0.texts),.sl .ext (List.map Fun.row m0.funcs)]))(B1:lk st.bx (d,1) = some (v1,[.i .u8 m1.outcome,.i .i64 m1.failing,.i .i64 m1.steps,.sl .ext (List.map Rou.row m1.routines)]))(B2:lk st.bx (d,2) = some (v2,[.i .u8 m2.status,.i .i64 m2.key,.sl .ext (List.map Frm.row m2.frames),.sl .ext (List.map Dfr.row m2.defers),.sl .ext (List.map Pan.row m2.panics)]))(h:T202_2 prog K g2 n4 word5 m0 m1 m2):W prog d c202_6 σ st Q:=
 q_ rfl (l_ H6 B0 rfl rfl (l_ H7 B1 rfl rfl (h.elim fun r'1 e'4=>e'4.elim fun r'2 e'3=>ca_ (sc rfl rfl (sc rfl rfl sn)) e'3.1 (m_ (x_ rfl rfl (x_ rfl rfl (m_ (m_ (e_ (w202_3 hQ H2 H4 H5 H6 H7 H9 rfl rfl B0 B1 B2 e'3.2))))))))))
theorem w202_1 {g2 n4:Int}{word5:List UInt8}{m0:Img}{m1:Sta}{m2:Rou}{v0:Nat}{v1:Nat}{v2:Nat}(H2:σ 2 = .i .i64 g2)(H4:σ 4 = .i .u8 n4)(H5:σ 5 = .s word5)(H6:σ 6 = .p (d,0) v0 0)(H7:σ 7 = .p (d,1) v1 0)(H9:σ 9 = .p (d,2) v2 0)(B0:lk st.bx (d,0) = some (v0,[.sl .ext (List.map Typ.row m0.types),.sl .ext (List.map rowS m0.texts),.sl .ext (List.map Fun.row m0.funcs)]))(B1:lk st.bx (d,1) = some (v1,[.i .u8 m1.outcome,.i .i64 m1.failing,.i .i64 m1.steps,.sl .ext (List.map Rou.row m1.routines)]))(B2:lk st.bx (d,2) = some (v2,[.i .u8 m2.status,.i .i64 m2.key,.sl .ext (List.map Frm.row m2.frames),.sl .ext (List.map Dfr.row m2.defers),.sl .ext (List.map Pan.row m2.panics)]))(h:T202_1 prog K g2 n4 word5 m0 m1 m2):W prog d c202_7 σ st Q:=
 sq_ (q_ rfl (l_ H6 B0 rfl rfl (h.elim fun r'1 e'2=>ca_ (sc rfl rfl sn) e'2.1 (s_mvB rfl (eb_ (g:=31) rfl (fun g'3=>gn_ (b:=true) rfl rfl (gn_ (b:=true) rfl rfl (pt_ rfl rfl (s_mvB rfl (gn_ (b:=true) rfl rfl (gn_ (b:=true) rfl rfl (pt_ rfl rfl (s_mvB rfl (gn_ (b:=true) rfl rfl (gn_ (b:=true) rfl rfl (gn_ (b:=true) rfl rfl (pt_ rfl rfl (e_ (ct_ rfl (q_ rfl (m_ (e_ (rt_ (hQ _ _ _ rfl (e'2.2.1 g'3)))))))))))))))))))) (fun g'3=>gy_ rfl (l_ H7 B1 rfl rfl (gy_ rfl ((e'2.2.2 g'3).elim fun r'4 e'5=>ca_ (sc rfl rfl sn) e'5.1 (pf_ rfl rfl (s_mvB rfl (eb_ (g:=35) rfl (fun g'6=>gn_ (b:=true) rfl rfl (gn_ (b:=true) rfl rfl (pt_ rfl rfl (s_mvB rfl (gn_ (b:=true) rfl rfl (gn_ (b:=true) rfl rfl (gn_ (b:=true) rfl rfl (pt_ rfl rfl (e_ (ct_ rfl (q_ rfl (m_ (e_ (rt_ (hQ _ _ _ rfl (e'5.2.1 g'6)))))))))))))))) (fun g'6=>gy_ rfl (l_ H9 B2 rfl rfl (gy_ rfl ((e'5.2.2 g'6).elim fun r'7 e'8=>ca_ (sc rfl rfl sn) e'8.1 (pf_ rfl rfl (s_mvB rfl (eb_ (g:=39) rfl (fun g'9=>gn_ (b:=true) rfl rfl (gn_ (b:=true) rfl rfl (gn_ (b:=true) rfl rfl (pt_ rfl rfl (e_ (ct_ rfl (q_ rfl (m_ (e_ (rt_ (hQ _ _ _ rfl (e'8.2.1 g'9)))))))))))) (fun g'9=>gy_ rfl (s_mvS H5 (gy_ rfl (ln_ rfl (gy_ rfl (b_ rfl rfl gtr_ (pf_ rfl rfl (e_ (cs_ rfl (fun g'10=>q_ rfl (m_ (e_ (rt_ (hQ _ _ _ rfl ((e'8.2.2 g'9).1 g'10)))))) (fun g'10=>sk_ (w202_2 hQ H2 H4 H5 H6 H7 H9 B0 B1 B2 ((e'8.2.2 g'9).2 g'10)))))))))))))))))))))))))))))))
theorem w202_0 {m0:Img}{s1:Sta}{g2:Int}{x3:Rou}{n4:Int}{word5:List UInt8}(H0:σ 0 = m0.av)(H1:σ 1 = s1.av)(H2:σ 2 = .i .i64 g2)(H3:σ 3 = x3.av)(H4:σ 4 = .i .u8 n4)(H5:σ 5 = .s word5)(h:T202_0 prog K m0 s1 g2 x3 n4 word5):W prog d (.seq (.reg 0 r202_0) c202_7) σ st Q:=
 q_ rfl (s_box H0 rfl (s_box H1 rfl (s_box H3 rfl (m_ (e_ (w202_1 hQ H2 H4 H5 rfl rfl rfl (lk_other rfl (lk_other rfl lk_here)) (lk_other rfl lk_here) lk_here h))))))
end
theorem p202 {prog:Prog}(hf:prog.fn 202 = some pf202){m0:Img}{s1:Sta}{g2:Int}{x3:Rou}{n4:Int}{word5:List UInt8}{K:Bool→Prop}(h:T202_0 prog K m0 s1 g2 x3 n4 word5) :∃res0:Bool,K res0∧Pus prog 202 [m0.av,s1.av,.i .i64 g2,x3.av,.i .u8 n4,.s word5] (.b res0):=by
  obtain ⟨v,hv,res0,hk,rfl⟩:=Pus.of (K:=fun v=>∃res0:Bool,K res0∧v = .b res0) hf rfl (w202_0 (σ:=sl0 [m0.av,s1.av,.i .i64 g2,x3.av,.i .u8 n4,.s word5]) (fun σ st   res0 H12 hk=>⟨.b res0,by simp only [pf202,ares,aresL,H12,ares1,Option.map_some],_,rfl,res0,hk,rfl⟩) rfl rfl rfl rfl rfl rfl h)
  exact ⟨res0,hk,hv⟩
end Go.AM

/- Parts of the proof. -/
namespace Go.AM
open Go
def pf217:AF:={ nt:=8,res:=[.tmp 2],fz:=[],body:=
  (.seq (.reg 0 [⟨(some 2),.mv (.c (.i .i64 0)),none⟩])
  (.seq (.reg 1000001 [⟨(some 3),.mv (.t 0),none⟩,
    ⟨(some 4),.nilc (.t 3),none⟩,
    ⟨(some 5),.fad 1 (.t 4),none⟩,
    ⟨(some 6),.load 1 false (.t 5),none⟩,
    ⟨(some 7),.len false (.t 6),none⟩,
    ⟨(some 2),.mv (.t 7),none⟩])
  .ret)) }
end Go.AM

/- MADE BY PROGRAM (seat2.py): the types of the program, and that its code is the machine's. -/
namespace Go.Proofs
open Go.Shelf
def Try.lays169_ren : Go.Shelf.Ren := ⟨fun | 169 => 25 | n => n, fun | 70 => 76 | 9 => 9 | 0 => 0 | 72 => 79 | 37 => 77 | 127 => 104 | 3 => 3 | 5 => 5 | n => n, fun | n => n⟩
theorem Try.lays169 : Go.Proofs.Lays.n169 Try.prog Try.lays169_ren := {
  mixed := by kernel_rfl
  f169 := Try.func25.trans (congrArg some (by kernel_rfl))
  t0 := Try.underlying0
  a0 := Try.isAgg0
  z0 := Try.sizeOf0
  v0 := Try.zeroValue0
  t3 := Try.underlying3
  a3 := Try.isAgg3
  z3 := Try.sizeOf3
  v3 := Try.zeroValue3
  t9 := Try.underlying9
  a9 := Try.isAgg9
  z9 := Try.sizeOf9
  v9 := Try.zeroValue9
  t37 := Try.underlying77
  a37 := Try.isAgg77
  z37 := Try.sizeOf77
  v37 := Try.zeroValue77
  t70 := Try.underlying76
  a70 := Try.isAgg76
  z70 := Try.sizeOf76
  v70 := Try.zeroValue76
  t72 := Try.underlying79
  a72 := Try.isAgg79
  z72 := Try.sizeOf79
  v72 := Try.zeroValue79
  t127 := Try.underlying104
  a127 := Try.isAgg104
  z127 := Try.sizeOf104
  v127 := Try.zeroValue104 }

theorem Try.extraB : Builder.Extra Try.prog Try.lays169_ren := {
  sizeBuilder := by kernel_rfl
  liesBuilder := by kernel_rfl
  t5 := Try.underlying5
  a5 := Try.isAgg5
  z5 := Try.sizeOf5
  v5 := Try.zeroValue5
  infoByte := by kernel_rfl
  cellsByte := by kernel_rfl
  sizeByte := by kernel_rfl
  neB5 := by decide }
end Go.Proofs
namespace Go.Proofs.Ytheacfnopahmjaa
open Go Go.AM

def tys : List (Nat × TI) := [
(2, ⟨.int .i64, 1, 8, [.i .i64 0]⟩),
  (3, ⟨.int .i64, 1, 8, [.i .i64 0]⟩),
  (4, ⟨.bool, 1, 1, [.b false]⟩),
  (5, ⟨.int .u8, 1, 1, [.i .u8 0]⟩),
  (9, ⟨.str, 1, 16, [.s []]⟩),
  (22, ⟨.sl 164, 1, 24, [.sl .full []]⟩),
  (23, ⟨.sl 9, 1, 24, [.sl .full []]⟩),
  (24, ⟨.sl 61, 1, 24, [.sl .full []]⟩),
  (26, ⟨.st [(22, 0), (23, 1), (24, 2)], 3, 72, [.sl .full [], .sl .full [], .sl .full []]⟩),
  (27, ⟨.sl 34, 1, 24, [.sl .full []]⟩),
  (29, ⟨.st [(5, 0), (3, 1), (3, 2), (27, 3)], 4, 48, [.i .u8 0, .i .i64 0, .i .i64 0, .sl .full []]⟩),
  (30, ⟨.sl 69, 1, 24, [.sl .full []]⟩),
  (31, ⟨.sl 75, 1, 24, [.sl .full []]⟩),
  (32, ⟨.sl 99, 1, 24, [.sl .full []]⟩),
  (34, ⟨.st [(5, 0), (2, 1), (30, 2), (31, 3), (32, 4)], 5, 88, [.i .u8 0, .i .i64 0, .sl .full [], .sl .full [], .sl .full []]⟩),
  (37, ⟨.other, 1, 8, [.nf]⟩),
  (38, ⟨.int .i64, 1, 8, [.i .i64 0]⟩),
  (57, ⟨.sl 63, 1, 24, [.sl .full []]⟩),
  (58, ⟨.sl 166, 1, 24, [.sl .full []]⟩),
  (59, ⟨.sl 168, 1, 24, [.sl .full []]⟩),
  (61, ⟨.st [(9, 0), (3, 1), (3, 2), (57, 3), (58, 4), (59, 5), (59, 6)], 7, 128, [.s [], .i .i64 0, .i .i64 0, .sl .full [], .sl .full [], .sl .full [], .sl .full []]⟩),
  (63, ⟨.st [(9, 0), (3, 1)], 2, 24, [.s [], .i .i64 0]⟩),
  (65, ⟨.other, 1, 8, [.nf]⟩),
  (66, ⟨.int .u64, 1, 8, [.i .u64 0]⟩),
  (67, ⟨.sl 101, 1, 24, [.sl .full []]⟩),
  (69, ⟨.st [(3, 0), (3, 1), (66, 2), (67, 3)], 4, 48, [.i .i64 0, .i .i64 0, .i .u64 0, .sl .full []]⟩),
  (71, ⟨.sl 73, 1, 24, [.sl .full []]⟩),
  (73, ⟨.st [(5, 0), (2, 1), (9, 2), (71, 3), (4, 4)], 5, 64, [.i .u8 0, .i .i64 0, .s [], .sl .full [], .b false]⟩),
  (75, ⟨.st [(3, 0), (3, 1), (4, 2), (73, 3)], 8, 88, [.i .i64 0, .i .i64 0, .b false, .i .u8 0, .i .i64 0, .s [], .sl .full [], .b false]⟩),
  (76, ⟨.ptr 79, 1, 8, [.np]⟩),
  (77, ⟨.sl 5, 1, 24, [.sl .full []]⟩),
  (79, ⟨.st [(76, 0), (77, 1)], 2, 32, [.np, .sl .full []]⟩),
  (81, ⟨.other, 1, 16, [.ni]⟩),
  (84, ⟨.arr 9 9, 9, 144, [.s [], .s [], .s [], .s [], .s [], .s [], .s [], .s [], .s []]⟩),
  (93, ⟨.arr 4 9, 4, 64, [.s [], .s [], .s [], .s []]⟩),
  (99, ⟨.st [(66, 0), (73, 1), (66, 6)], 7, 80, [.i .u64 0, .i .u8 0, .i .i64 0, .s [], .sl .full [], .b false, .i .u64 0]⟩),
  (101, ⟨.st [(3, 0), (73, 1)], 6, 72, [.i .i64 0, .i .u8 0, .i .i64 0, .s [], .sl .full [], .b false]⟩),
  (109, ⟨.other, 1, 8, [.nf]⟩),
  (112, ⟨.other, 1, 8, [.nf]⟩),
  (124, ⟨.uptr, 1, 8, [.np]⟩),
  (128, ⟨.other, 1, 8, [.nf]⟩),
  (132, ⟨.arr 5 5, 5, 5, [.i .u8 0, .i .u8 0, .i .u8 0, .i .u8 0, .i .u8 0]⟩),
  (137, ⟨.arr 64 5, 64, 64, [.i .u8 0, .i .u8 0, .i .u8 0, .i .u8 0, .i .u8 0, .i .u8 0, .i .u8 0, .i .u8 0, .i .u8 0, .i .u8 0, .i .u8 0, .i .u8 0, .i .u8 0, .i .u8 0, .i .u8 0, .i .u8 0, .i .u8 0, .i .u8 0, .i .u8 0, .i .u8 0, .i .u8 0, .i .u8 0, .i .u8 0, .i .u8 0, .i .u8 0, .i .u8 0, .i .u8 0, .i .u8 0, .i .u8 0, .i .u8 0, .i .u8 0, .i .u8 0, .i .u8 0, .i .u8 0, .i .u8 0, .i .u8 0, .i .u8 0, .i .u8 0, .i .u8 0, .i .u8 0, .i .u8 0, .i .u8 0, .i .u8 0, .i .u8 0, .i .u8 0, .i .u8 0, .i .u8 0, .i .u8 0, .i .u8 0, .i .u8 0, .i .u8 0, .i .u8 0, .i .u8 0, .i .u8 0, .i .u8 0, .i .u8 0, .i .u8 0, .i .u8 0, .i .u8 0, .i .u8 0, .i .u8 0, .i .u8 0, .i .u8 0, .i .u8 0]⟩),
  (148, ⟨.arr 8 9, 8, 128, [.s [], .s [], .s [], .s [], .s [], .s [], .s [], .s []]⟩),
  (164, ⟨.st [(5, 0), (3, 1), (3, 2), (57, 3)], 4, 48, [.i .u8 0, .i .i64 0, .i .i64 0, .sl .full []]⟩),
  (166, ⟨.st [(5, 0), (3, 1), (3, 2), (3, 3)], 4, 32, [.i .u8 0, .i .i64 0, .i .i64 0, .i .i64 0]⟩),
  (168, ⟨.st [(3, 0), (66, 1)], 2, 16, [.i .i64 0, .i .u64 0]⟩)]
theorem ty2 : TOk Try.prog 2 (((2, ⟨.int .i64, 1, 8, [.i .i64 0]⟩) : Nat × TI).2) := TOk.of (ti := Try.t2) (by kernel_rfl) (by kernel_rfl) (by kernel_rfl) (show Try.prog.underlying 2 = some (.int .i64) from by kernel_rfl)
theorem ty3 : TOk Try.prog 3 (((3, ⟨.int .i64, 1, 8, [.i .i64 0]⟩) : Nat × TI).2) := TOk.of (ti := Try.t3) (by kernel_rfl) (by kernel_rfl) (by kernel_rfl) (show Try.prog.underlying 3 = some (.int .i64) from by kernel_rfl)
theorem ty4 : TOk Try.prog 4 (((4, ⟨.bool, 1, 1, [.b false]⟩) : Nat × TI).2) := TOk.of (ti := Try.t4) (by kernel_rfl) (by kernel_rfl) (by kernel_rfl) (show Try.prog.underlying 4 = some (.bool) from by kernel_rfl)
theorem ty5 : TOk Try.prog 5 (((5, ⟨.int .u8, 1, 1, [.i .u8 0]⟩) : Nat × TI).2) := TOk.of (ti := Try.t5) (by kernel_rfl) (by kernel_rfl) (by kernel_rfl) (show Try.prog.underlying 5 = some (.int .u8) from by kernel_rfl)
theorem ty9 : TOk Try.prog 9 (((9, ⟨.str, 1, 16, [.s []]⟩) : Nat × TI).2) := TOk.of (ti := Try.t9) (by kernel_rfl) (by kernel_rfl) (by kernel_rfl) (show Try.prog.underlying 9 = some (.string) from by kernel_rfl)
theorem ty22 : TOk Try.prog 22 (((22, ⟨.sl 164, 1, 24, [.sl .full []]⟩) : Nat × TI).2) := TOk.of (ti := Try.t22) (by kernel_rfl) (by kernel_rfl) (by kernel_rfl) (show Try.prog.underlying 22 = some (.slice 164) from by kernel_rfl)
theorem ty23 : TOk Try.prog 23 (((23, ⟨.sl 9, 1, 24, [.sl .full []]⟩) : Nat × TI).2) := TOk.of (ti := Try.t23) (by kernel_rfl) (by kernel_rfl) (by kernel_rfl) (show Try.prog.underlying 23 = some (.slice 9) from by kernel_rfl)
theorem ty24 : TOk Try.prog 24 (((24, ⟨.sl 61, 1, 24, [.sl .full []]⟩) : Nat × TI).2) := TOk.of (ti := Try.t24) (by kernel_rfl) (by kernel_rfl) (by kernel_rfl) (show Try.prog.underlying 24 = some (.slice 61) from by kernel_rfl)
theorem ty26 : TOk Try.prog 26 (((26, ⟨.st [(22, 0), (23, 1), (24, 2)], 3, 72, [.sl .full [], .sl .full [], .sl .full []]⟩) : Nat × TI).2) := TOk.of (ti := Try.t26) (by kernel_rfl) (by kernel_rfl) (by kernel_rfl) (TK.ok_st (by kernel_rfl))
theorem ty27 : TOk Try.prog 27 (((27, ⟨.sl 34, 1, 24, [.sl .full []]⟩) : Nat × TI).2) := TOk.of (ti := Try.t27) (by kernel_rfl) (by kernel_rfl) (by kernel_rfl) (show Try.prog.underlying 27 = some (.slice 34) from by kernel_rfl)
theorem ty29 : TOk Try.prog 29 (((29, ⟨.st [(5, 0), (3, 1), (3, 2), (27, 3)], 4, 48, [.i .u8 0, .i .i64 0, .i .i64 0, .sl .full []]⟩) : Nat × TI).2) := TOk.of (ti := Try.t29) (by kernel_rfl) (by kernel_rfl) (by kernel_rfl) (TK.ok_st (by kernel_rfl))
theorem ty30 : TOk Try.prog 30 (((30, ⟨.sl 69, 1, 24, [.sl .full []]⟩) : Nat × TI).2) := TOk.of (ti := Try.t30) (by kernel_rfl) (by kernel_rfl) (by kernel_rfl) (show Try.prog.underlying 30 = some (.slice 69) from by kernel_rfl)
theorem ty31 : TOk Try.prog 31 (((31, ⟨.sl 75, 1, 24, [.sl .full []]⟩) : Nat × TI).2) := TOk.of (ti := Try.t31) (by kernel_rfl) (by kernel_rfl) (by kernel_rfl) (show Try.prog.underlying 31 = some (.slice 75) from by kernel_rfl)
theorem ty32 : TOk Try.prog 32 (((32, ⟨.sl 99, 1, 24, [.sl .full []]⟩) : Nat × TI).2) := TOk.of (ti := Try.t32) (by kernel_rfl) (by kernel_rfl) (by kernel_rfl) (show Try.prog.underlying 32 = some (.slice 99) from by kernel_rfl)
theorem ty34 : TOk Try.prog 34 (((34, ⟨.st [(5, 0), (2, 1), (30, 2), (31, 3), (32, 4)], 5, 88, [.i .u8 0, .i .i64 0, .sl .full [], .sl .full [], .sl .full []]⟩) : Nat × TI).2) := TOk.of (ti := Try.t34) (by kernel_rfl) (by kernel_rfl) (by kernel_rfl) (TK.ok_st (by kernel_rfl))
theorem ty37 : TOk Try.prog 37 (((37, ⟨.other, 1, 8, [.nf]⟩) : Nat × TI).2) := TOk.of (ti := Try.t37) (by kernel_rfl) (by kernel_rfl) (by kernel_rfl) (TK.ok_other (by kernel_rfl))
theorem ty38 : TOk Try.prog 38 (((38, ⟨.int .i64, 1, 8, [.i .i64 0]⟩) : Nat × TI).2) := TOk.of (ti := Try.t38) (by kernel_rfl) (by kernel_rfl) (by kernel_rfl) (show Try.prog.underlying 38 = some (.int .i64) from by kernel_rfl)
theorem ty57 : TOk Try.prog 57 (((57, ⟨.sl 63, 1, 24, [.sl .full []]⟩) : Nat × TI).2) := TOk.of (ti := Try.t57) (by kernel_rfl) (by kernel_rfl) (by kernel_rfl) (show Try.prog.underlying 57 = some (.slice 63) from by kernel_rfl)
theorem ty58 : TOk Try.prog 58 (((58, ⟨.sl 166, 1, 24, [.sl .full []]⟩) : Nat × TI).2) := TOk.of (ti := Try.t58) (by kernel_rfl) (by kernel_rfl) (by kernel_rfl) (show Try.prog.underlying 58 = some (.slice 166) from by kernel_rfl)
theorem ty59 : TOk Try.prog 59 (((59, ⟨.sl 168, 1, 24, [.sl .full []]⟩) : Nat × TI).2) := TOk.of (ti := Try.t59) (by kernel_rfl) (by kernel_rfl) (by kernel_rfl) (show Try.prog.underlying 59 = some (.slice 168) from by kernel_rfl)
theorem ty61 : TOk Try.prog 61 (((61, ⟨.st [(9, 0), (3, 1), (3, 2), (57, 3), (58, 4), (59, 5), (59, 6)], 7, 128, [.s [], .i .i64 0, .i .i64 0, .sl .full [], .sl .full [], .sl .full [], .sl .full []]⟩) : Nat × TI).2) := TOk.of (ti := Try.t61) (by kernel_rfl) (by kernel_rfl) (by kernel_rfl) (TK.ok_st (by kernel_rfl))
theorem ty63 : TOk Try.prog 63 (((63, ⟨.st [(9, 0), (3, 1)], 2, 24, [.s [], .i .i64 0]⟩) : Nat × TI).2) := TOk.of (ti := Try.t63) (by kernel_rfl) (by kernel_rfl) (by kernel_rfl) (TK.ok_st (by kernel_rfl))
theorem ty65 : TOk Try.prog 65 (((65, ⟨.other, 1, 8, [.nf]⟩) : Nat × TI).2) := TOk.of (ti := Try.t65) (by kernel_rfl) (by kernel_rfl) (by kernel_rfl) (TK.ok_other (by kernel_rfl))
theorem ty66 : TOk Try.prog 66 (((66, ⟨.int .u64, 1, 8, [.i .u64 0]⟩) : Nat × TI).2) := TOk.of (ti := Try.t66) (by kernel_rfl) (by kernel_rfl) (by kernel_rfl) (show Try.prog.underlying 66 = some (.int .u64) from by kernel_rfl)
theorem ty67 : TOk Try.prog 67 (((67, ⟨.sl 101, 1, 24, [.sl .full []]⟩) : Nat × TI).2) := TOk.of (ti := Try.t67) (by kernel_rfl) (by kernel_rfl) (by kernel_rfl) (show Try.prog.underlying 67 = some (.slice 101) from by kernel_rfl)
theorem ty69 : TOk Try.prog 69 (((69, ⟨.st [(3, 0), (3, 1), (66, 2), (67, 3)], 4, 48, [.i .i64 0, .i .i64 0, .i .u64 0, .sl .full []]⟩) : Nat × TI).2) := TOk.of (ti := Try.t69) (by kernel_rfl) (by kernel_rfl) (by kernel_rfl) (TK.ok_st (by kernel_rfl))
theorem ty71 : TOk Try.prog 71 (((71, ⟨.sl 73, 1, 24, [.sl .full []]⟩) : Nat × TI).2) := TOk.of (ti := Try.t71) (by kernel_rfl) (by kernel_rfl) (by kernel_rfl) (show Try.prog.underlying 71 = some (.slice 73) from by kernel_rfl)
theorem ty73 : TOk Try.prog 73 (((73, ⟨.st [(5, 0), (2, 1), (9, 2), (71, 3), (4, 4)], 5, 64, [.i .u8 0, .i .i64 0, .s [], .sl .full [], .b false]⟩) : Nat × TI).2) := TOk.of (ti := Try.t73) (by kernel_rfl) (by kernel_rfl) (by kernel_rfl) (TK.ok_st (by kernel_rfl))
theorem ty75 : TOk Try.prog 75 (((75, ⟨.st [(3, 0), (3, 1), (4, 2), (73, 3)], 8, 88, [.i .i64 0, .i .i64 0, .b false, .i .u8 0, .i .i64 0, .s [], .sl .full [], .b false]⟩) : Nat × TI).2) := TOk.of (ti := Try.t75) (by kernel_rfl) (by kernel_rfl) (by kernel_rfl) (TK.ok_st (by kernel_rfl))
theorem ty76 : TOk Try.prog 76 (((76, ⟨.ptr 79, 1, 8, [.np]⟩) : Nat × TI).2) := TOk.of (ti := Try.t76) (by kernel_rfl) (by kernel_rfl) (by kernel_rfl) (And.intro (by kernel_rfl) (by kernel_rfl))
theorem ty77 : TOk Try.prog 77 (((77, ⟨.sl 5, 1, 24, [.sl .full []]⟩) : Nat × TI).2) := TOk.of (ti := Try.t77) (by kernel_rfl) (by kernel_rfl) (by kernel_rfl) (show Try.prog.underlying 77 = some (.slice 5) from by kernel_rfl)
theorem ty79 : TOk Try.prog 79 (((79, ⟨.st [(76, 0), (77, 1)], 2, 32, [.np, .sl .full []]⟩) : Nat × TI).2) := TOk.of (ti := Try.t79) (by kernel_rfl) (by kernel_rfl) (by kernel_rfl) (TK.ok_st (by kernel_rfl))
theorem ty81 : TOk Try.prog 81 (((81, ⟨.other, 1, 16, [.ni]⟩) : Nat × TI).2) := TOk.of (ti := Try.t81) (by kernel_rfl) (by kernel_rfl) (by kernel_rfl) (TK.ok_other (by kernel_rfl))
theorem ty84 : TOk Try.prog 84 (((84, ⟨.arr 9 9, 9, 144, [.s [], .s [], .s [], .s [], .s [], .s [], .s [], .s [], .s []]⟩) : Nat × TI).2) := TOk.of (ti := Try.t84) (by kernel_rfl) (by kernel_rfl) (by kernel_rfl) (show Try.prog.underlying 84 = some (.array 9 9) from by kernel_rfl)
theorem ty93 : TOk Try.prog 93 (((93, ⟨.arr 4 9, 4, 64, [.s [], .s [], .s [], .s []]⟩) : Nat × TI).2) := TOk.of (ti := Try.t93) (by kernel_rfl) (by kernel_rfl) (by kernel_rfl) (show Try.prog.underlying 93 = some (.array 4 9) from by kernel_rfl)
theorem ty99 : TOk Try.prog 99 (((99, ⟨.st [(66, 0), (73, 1), (66, 6)], 7, 80, [.i .u64 0, .i .u8 0, .i .i64 0, .s [], .sl .full [], .b false, .i .u64 0]⟩) : Nat × TI).2) := TOk.of (ti := Try.t99) (by kernel_rfl) (by kernel_rfl) (by kernel_rfl) (TK.ok_st (by kernel_rfl))
theorem ty101 : TOk Try.prog 101 (((101, ⟨.st [(3, 0), (73, 1)], 6, 72, [.i .i64 0, .i .u8 0, .i .i64 0, .s [], .sl .full [], .b false]⟩) : Nat × TI).2) := TOk.of (ti := Try.t101) (by kernel_rfl) (by kernel_rfl) (by kernel_rfl) (TK.ok_st (by kernel_rfl))
theorem ty109 : TOk Try.prog 109 (((109, ⟨.other, 1, 8, [.nf]⟩) : Nat × TI).2) := TOk.of (ti := Try.t109) (by kernel_rfl) (by kernel_rfl) (by kernel_rfl) (TK.ok_other (by kernel_rfl))
theorem ty112 : TOk Try.prog 112 (((112, ⟨.other, 1, 8, [.nf]⟩) : Nat × TI).2) := TOk.of (ti := Try.t112) (by kernel_rfl) (by kernel_rfl) (by kernel_rfl) (TK.ok_other (by kernel_rfl))
theorem ty124 : TOk Try.prog 124 (((124, ⟨.uptr, 1, 8, [.np]⟩) : Nat × TI).2) := TOk.of (ti := Try.t124) (by kernel_rfl) (by kernel_rfl) (by kernel_rfl) (show Try.prog.underlying 124 = some (.unsafePointer) from by kernel_rfl)
theorem ty128 : TOk Try.prog 128 (((128, ⟨.other, 1, 8, [.nf]⟩) : Nat × TI).2) := TOk.of (ti := Try.t128) (by kernel_rfl) (by kernel_rfl) (by kernel_rfl) (TK.ok_other (by kernel_rfl))
theorem ty132 : TOk Try.prog 132 (((132, ⟨.arr 5 5, 5, 5, [.i .u8 0, .i .u8 0, .i .u8 0, .i .u8 0, .i .u8 0]⟩) : Nat × TI).2) := TOk.of (ti := Try.t132) (by kernel_rfl) (by kernel_rfl) (by kernel_rfl) (show Try.prog.underlying 132 = some (.array 5 5) from by kernel_rfl)
theorem ty137 : TOk Try.prog 137 (((137, ⟨.arr 64 5, 64, 64, [.i .u8 0, .i .u8 0, .i .u8 0, .i .u8 0, .i .u8 0, .i .u8 0, .i .u8 0, .i .u8 0, .i .u8 0, .i .u8 0, .i .u8 0, .i .u8 0, .i .u8 0, .i .u8 0, .i .u8 0, .i .u8 0, .i .u8 0, .i .u8 0, .i .u8 0, .i .u8 0, .i .u8 0, .i .u8 0, .i .u8 0, .i .u8 0, .i .u8 0, .i .u8 0, .i .u8 0, .i .u8 0, .i .u8 0, .i .u8 0, .i .u8 0, .i .u8 0, .i .u8 0, .i .u8 0, .i .u8 0, .i .u8 0, .i .u8 0, .i .u8 0, .i .u8 0, .i .u8 0, .i .u8 0, .i .u8 0, .i .u8 0, .i .u8 0, .i .u8 0, .i .u8 0, .i .u8 0, .i .u8 0, .i .u8 0, .i .u8 0, .i .u8 0, .i .u8 0, .i .u8 0, .i .u8 0, .i .u8 0, .i .u8 0, .i .u8 0, .i .u8 0, .i .u8 0, .i .u8 0, .i .u8 0, .i .u8 0, .i .u8 0, .i .u8 0]⟩) : Nat × TI).2) := TOk.of (ti := Try.t137) (by kernel_rfl) (by kernel_rfl) (by kernel_rfl) (show Try.prog.underlying 137 = some (.array 64 5) from by kernel_rfl)
theorem ty148 : TOk Try.prog 148 (((148, ⟨.arr 8 9, 8, 128, [.s [], .s [], .s [], .s [], .s [], .s [], .s [], .s []]⟩) : Nat × TI).2) := TOk.of (ti := Try.t148) (by kernel_rfl) (by kernel_rfl) (by kernel_rfl) (show Try.prog.underlying 148 = some (.array 8 9) from by kernel_rfl)
theorem ty164 : TOk Try.prog 164 (((164, ⟨.st [(5, 0), (3, 1), (3, 2), (57, 3)], 4, 48, [.i .u8 0, .i .i64 0, .i .i64 0, .sl .full []]⟩) : Nat × TI).2) := TOk.of (ti := Try.t164) (by kernel_rfl) (by kernel_rfl) (by kernel_rfl) (TK.ok_st (by kernel_rfl))
theorem ty166 : TOk Try.prog 166 (((166, ⟨.st [(5, 0), (3, 1), (3, 2), (3, 3)], 4, 32, [.i .u8 0, .i .i64 0, .i .i64 0, .i .i64 0]⟩) : Nat × TI).2) := TOk.of (ti := Try.t166) (by kernel_rfl) (by kernel_rfl) (by kernel_rfl) (TK.ok_st (by kernel_rfl))
theorem ty168 : TOk Try.prog 168 (((168, ⟨.st [(3, 0), (66, 1)], 2, 16, [.i .i64 0, .i .u64 0]⟩) : Nat × TI).2) := TOk.of (ti := Try.t168) (by kernel_rfl) (by kernel_rfl) (by kernel_rfl) (TK.ok_st (by kernel_rfl))
theorem tys_ok : ∀ x ∈ tys, TOk Try.prog x.1 x.2 := by
  unfold tys
  simp only [List.mem_cons, List.not_mem_nil, or_false, forall_eq_or_imp, forall_eq]
  exact ⟨ty2, ty3, ty4, ty5, ty9, ty22, ty23, ty24, ty26, ty27, ty29, ty30, ty31, ty32, ty34, ty37, ty38, ty57, ty58, ty59, ty61, ty63, ty65, ty66, ty67, ty69, ty71, ty73, ty75, ty76, ty77, ty79, ty81, ty84, ty93, ty99, ty101, ty109, ty112, ty124, ty128, ty132, ty137, ty148, ty164, ty166, ty168⟩
def fms : List (Nat × Nat) := [(2, 2), (3, 202), (4, 79), (5, 203), (6, 204), (7, 205), (8, 206), (9, 207), (10, 208), (11, 209), (12, 210), (13, 211), (14, 212), (15, 213), (16, 214), (17, 29), (18, 162), (19, 80), (20, 71), (21, 126), (22, 215), (23, 216), (24, 217), (25, 105), (26, 218), (27, 219), (28, 220), (29, 15), (30, 221), (31, 222), (32, 223), (33, 141), (34, 224), (35, 225), (36, 102), (37, 103), (38, 145), (39, 226), (40, 227), (41, 228), (42, 86), (43, 229), (44, 230), (45, 231), (46, 232), (47, 233), (48, 158), (49, 82), (50, 234), (51, 154), (52, 34), (53, 163), (54, 87), (55, 235), (56, 16), (57, 114), (58, 31), (59, 106), (60, 179), (61, 236), (62, 146), (63, 237), (64, 122), (65, 123), (66, 76), (67, 238), (68, 239), (69, 183), (70, 111), (71, 112), (72, 113), (73, 72), (74, 11), (75, 178), (76, 159), (77, 77), (78, 78), (79, 35), (80, 137), (81, 138), (82, 41), (83, 127), (84, 144), (85, 109), (86, 104), (87, 30), (88, 110), (89, 136), (1000000000000, 1000000079), (1000000000001, 1000000005)]
def X : Cx := ⟨tabOf tys, fmOf fms, fun c => [30, 89, 104, 105, 107, 115, 116, 117, 120, 122, 123, 126, 128, 129, 130, 131, 139, 140, 144, 145, 146, 184, 217, 224, 225, 227, 228, 229, 230, 232, 233, 236, 237, 238, 239].contains c, []⟩
theorem ok11 : FnOk Try.prog X 74 pf11 := FnOk.of Try.func74 (by kernel_rfl) (by kernel_rfl) (by kernel_rfl) (by kernel_rfl) (by kernel_rfl)
theorem ok15 : FnOk Try.prog X 29 pf15 := FnOk.of Try.func29 (by kernel_rfl) (by kernel_rfl) (by kernel_rfl) (by kernel_rfl) (by kernel_rfl)
theorem ok30 : FnOk Try.prog X 87 pf30 := FnOk.of Try.func87 (by kernel_rfl) (by kernel_rfl) (by kernel_rfl) (by kernel_rfl) (by kernel_rfl)
theorem ok34 : FnOk Try.prog X 52 pf34 := FnOk.of Try.func52 (by kernel_rfl) (by kernel_rfl) (by kernel_rfl) (by kernel_rfl) (by kernel_rfl)
theorem ok16 : FnOk Try.prog X 56 pf16 := FnOk.of Try.func56 (by kernel_rfl) (by kernel_rfl) (by kernel_rfl) (by kernel_rfl) (by kernel_rfl)
theorem ok29 : FnOk Try.prog X 17 pf29 := FnOk.of Try.func17 (by kernel_rfl) (by kernel_rfl) (by kernel_rfl) (by kernel_rfl) (by kernel_rfl)
theorem ok31 : FnOk Try.prog X 58 pf31 := FnOk.of Try.func58 (by kernel_rfl) (by kernel_rfl) (by kernel_rfl) (by kernel_rfl) (by kernel_rfl)
theorem ok35 : FnOk Try.prog X 79 pf35 := FnOk.of Try.func79 (by kernel_rfl) (by kernel_rfl) (by kernel_rfl) (by kernel_rfl) (by kernel_rfl)
theorem ok41 : FnOk Try.prog X 82 pf41 := FnOk.of Try.func82 (by kernel_rfl) (by kernel_rfl) (by kernel_rfl) (by kernel_rfl) (by kernel_rfl)
theorem ok145 : FnOk Try.prog X 38 pf145 := FnOk.of Try.func38 (by kernel_rfl) (by kernel_rfl) (by kernel_rfl) (by kernel_rfl) (by kernel_rfl)
theorem ok126 : FnOk Try.prog X 21 pf126 := FnOk.of Try.func21 (by kernel_rfl) (by kernel_rfl) (by kernel_rfl) (by kernel_rfl) (by kernel_rfl)
theorem ok71 : FnOk Try.prog X 20 pf71 := FnOk.of Try.func20 (by kernel_rfl) (by kernel_rfl) (by kernel_rfl) (by kernel_rfl) (by kernel_rfl)
theorem ok72 : FnOk Try.prog X 73 pf72 := FnOk.of Try.func73 (by kernel_rfl) (by kernel_rfl) (by kernel_rfl) (by kernel_rfl) (by kernel_rfl)
theorem ok76 : FnOk Try.prog X 66 pf76 := FnOk.of Try.func66 (by kernel_rfl) (by kernel_rfl) (by kernel_rfl) (by kernel_rfl) (by kernel_rfl)
theorem ok77 : FnOk Try.prog X 77 pf77 := FnOk.of Try.func77 (by kernel_rfl) (by kernel_rfl) (by kernel_rfl) (by kernel_rfl) (by kernel_rfl)
theorem ok78 : FnOk Try.prog X 78 pf78 := FnOk.of Try.func78 (by kernel_rfl) (by kernel_rfl) (by kernel_rfl) (by kernel_rfl) (by kernel_rfl)
theorem ok102 : FnOk Try.prog X 36 pf102 := FnOk.of Try.func36 (by kernel_rfl) (by kernel_rfl) (by kernel_rfl) (by kernel_rfl) (by kernel_rfl)
theorem ok103 : FnOk Try.prog X 37 pf103 := FnOk.of Try.func37 (by kernel_rfl) (by kernel_rfl) (by kernel_rfl) (by kernel_rfl) (by kernel_rfl)
theorem ok104 : FnOk Try.prog X 86 pf104 := FnOk.of Try.func86 (by kernel_rfl) (by kernel_rfl) (by kernel_rfl) (by kernel_rfl) (by kernel_rfl)
theorem ok106 : FnOk Try.prog X 59 pf106 := FnOk.of Try.func59 (by kernel_rfl) (by kernel_rfl) (by kernel_rfl) (by kernel_rfl) (by kernel_rfl)
theorem ok109 : FnOk Try.prog X 85 pf109 := FnOk.of Try.func85 (by kernel_rfl) (by kernel_rfl) (by kernel_rfl) (by kernel_rfl) (by kernel_rfl)
theorem ok110 : FnOk Try.prog X 88 pf110 := FnOk.of Try.func88 (by kernel_rfl) (by kernel_rfl) (by kernel_rfl) (by kernel_rfl) (by kernel_rfl)
theorem ok127 : FnOk Try.prog X 83 pf127 := FnOk.of Try.func83 (by kernel_rfl) (by kernel_rfl) (by kernel_rfl) (by kernel_rfl) (by kernel_rfl)
theorem ok136 : FnOk Try.prog X 89 pf136 := FnOk.of Try.func89 (by kernel_rfl) (by kernel_rfl) (by kernel_rfl) (by kernel_rfl) (by kernel_rfl)
theorem ok154 : FnOk Try.prog X 51 pf154 := FnOk.of Try.func51 (by kernel_rfl) (by kernel_rfl) (by kernel_rfl) (by kernel_rfl) (by kernel_rfl)
theorem ok158 : FnOk Try.prog X 48 pf158 := FnOk.of Try.func48 (by kernel_rfl) (by kernel_rfl) (by kernel_rfl) (by kernel_rfl) (by kernel_rfl)
theorem ok159 : FnOk Try.prog X 76 pf159 := FnOk.of Try.func76 (by kernel_rfl) (by kernel_rfl) (by kernel_rfl) (by kernel_rfl) (by kernel_rfl)
theorem ok178 : FnOk Try.prog X 75 pf178 := FnOk.of Try.func75 (by kernel_rfl) (by kernel_rfl) (by kernel_rfl) (by kernel_rfl) (by kernel_rfl)
theorem ok179 : FnOk Try.prog X 60 pf179 := FnOk.of Try.func60 (by kernel_rfl) (by kernel_rfl) (by kernel_rfl) (by kernel_rfl) (by kernel_rfl)
theorem ok183 : FnOk Try.prog X 69 pf183 := FnOk.of Try.func69 (by kernel_rfl) (by kernel_rfl) (by kernel_rfl) (by kernel_rfl) (by kernel_rfl)
theorem ok162 : FnOk Try.prog X 18 pf162 := FnOk.of Try.func18 (by kernel_rfl) (by kernel_rfl) (by kernel_rfl) (by kernel_rfl) (by kernel_rfl)
theorem ok163 : FnOk Try.prog X 53 pf163 := FnOk.of Try.func53 (by kernel_rfl) (by kernel_rfl) (by kernel_rfl) (by kernel_rfl) (by kernel_rfl)
theorem ok79 : FnOk Try.prog X 4 pf79 := FnOk.of Try.func4 (by kernel_rfl) (by kernel_rfl) (by kernel_rfl) (by kernel_rfl) (by kernel_rfl)
theorem ok80 : FnOk Try.prog X 19 pf80 := FnOk.of Try.func19 (by kernel_rfl) (by kernel_rfl) (by kernel_rfl) (by kernel_rfl) (by kernel_rfl)
theorem ok82 : FnOk Try.prog X 49 pf82 := FnOk.of Try.func49 (by kernel_rfl) (by kernel_rfl) (by kernel_rfl) (by kernel_rfl) (by kernel_rfl)
theorem ok86 : FnOk Try.prog X 42 pf86 := FnOk.of Try.func42 (by kernel_rfl) (by kernel_rfl) (by kernel_rfl) (by kernel_rfl) (by kernel_rfl)
theorem ok87 : FnOk Try.prog X 54 pf87 := FnOk.of Try.func54 (by kernel_rfl) (by kernel_rfl) (by kernel_rfl) (by kernel_rfl) (by kernel_rfl)
theorem ok111 : FnOk Try.prog X 70 pf111 := FnOk.of Try.func70 (by kernel_rfl) (by kernel_rfl) (by kernel_rfl) (by kernel_rfl) (by kernel_rfl)
theorem ok112 : FnOk Try.prog X 71 pf112 := FnOk.of Try.func71 (by kernel_rfl) (by kernel_rfl) (by kernel_rfl) (by kernel_rfl) (by kernel_rfl)
theorem ok113 : FnOk Try.prog X 72 pf113 := FnOk.of Try.func72 (by kernel_rfl) (by kernel_rfl) (by kernel_rfl) (by kernel_rfl) (by kernel_rfl)
theorem ok114 : FnOk Try.prog X 57 pf114 := FnOk.of Try.func57 (by kernel_rfl) (by kernel_rfl) (by kernel_rfl) (by kernel_rfl) (by kernel_rfl)
theorem ok122 : FnOk Try.prog X 64 pf122 := FnOk.of Try.func64 (by kernel_rfl) (by kernel_rfl) (by kernel_rfl) (by kernel_rfl) (by kernel_rfl)
theorem ok123 : FnOk Try.prog X 65 pf123 := FnOk.of Try.func65 (by kernel_rfl) (by kernel_rfl) (by kernel_rfl) (by kernel_rfl) (by kernel_rfl)
theorem ok137 : FnOk Try.prog X 80 pf137 := FnOk.of Try.func80 (by kernel_rfl) (by kernel_rfl) (by kernel_rfl) (by kernel_rfl) (by kernel_rfl)
theorem ok138 : FnOk Try.prog X 81 pf138 := FnOk.of Try.func81 (by kernel_rfl) (by kernel_rfl) (by kernel_rfl) (by kernel_rfl) (by kernel_rfl)
theorem ok141 : FnOk Try.prog X 33 pf141 := FnOk.of Try.func33 (by kernel_rfl) (by kernel_rfl) (by kernel_rfl) (by kernel_rfl) (by kernel_rfl)
theorem ok144 : FnOk Try.prog X 84 pf144 := FnOk.of Try.func84 (by kernel_rfl) (by kernel_rfl) (by kernel_rfl) (by kernel_rfl) (by kernel_rfl)
theorem ok203 : FnOk Try.prog X 5 pf203 := FnOk.of Try.func5 (by kernel_rfl) (by kernel_rfl) (by kernel_rfl) (by kernel_rfl) (by kernel_rfl)
theorem ok204 : FnOk Try.prog X 6 pf204 := FnOk.of Try.func6 (by kernel_rfl) (by kernel_rfl) (by kernel_rfl) (by kernel_rfl) (by kernel_rfl)
theorem ok205 : FnOk Try.prog X 7 pf205 := FnOk.of Try.func7 (by kernel_rfl) (by kernel_rfl) (by kernel_rfl) (by kernel_rfl) (by kernel_rfl)
theorem ok206 : FnOk Try.prog X 8 pf206 := FnOk.of Try.func8 (by kernel_rfl) (by kernel_rfl) (by kernel_rfl) (by kernel_rfl) (by kernel_rfl)
theorem ok207 : FnOk Try.prog X 9 pf207 := FnOk.of Try.func9 (by kernel_rfl) (by kernel_rfl) (by kernel_rfl) (by kernel_rfl) (by kernel_rfl)
theorem ok208 : FnOk Try.prog X 10 pf208 := FnOk.of Try.func10 (by kernel_rfl) (by kernel_rfl) (by kernel_rfl) (by kernel_rfl) (by kernel_rfl)
theorem ok209 : FnOk Try.prog X 11 pf209 := FnOk.of Try.func11 (by kernel_rfl) (by kernel_rfl) (by kernel_rfl) (by kernel_rfl) (by kernel_rfl)
theorem ok210 : FnOk Try.prog X 12 pf210 := FnOk.of Try.func12 (by kernel_rfl) (by kernel_rfl) (by kernel_rfl) (by kernel_rfl) (by kernel_rfl)
theorem ok211 : FnOk Try.prog X 13 pf211 := FnOk.of Try.func13 (by kernel_rfl) (by kernel_rfl) (by kernel_rfl) (by kernel_rfl) (by kernel_rfl)
theorem ok212 : FnOk Try.prog X 14 pf212 := FnOk.of Try.func14 (by kernel_rfl) (by kernel_rfl) (by kernel_rfl) (by kernel_rfl) (by kernel_rfl)
theorem ok213 : FnOk Try.prog X 15 pf213 := FnOk.of Try.func15 (by kernel_rfl) (by kernel_rfl) (by kernel_rfl) (by kernel_rfl) (by kernel_rfl)
theorem ok214 : FnOk Try.prog X 16 pf214 := FnOk.of Try.func16 (by kernel_rfl) (by kernel_rfl) (by kernel_rfl) (by kernel_rfl) (by kernel_rfl)
theorem ok215 : FnOk Try.prog X 22 pf215 := FnOk.of Try.func22 (by kernel_rfl) (by kernel_rfl) (by kernel_rfl) (by kernel_rfl) (by kernel_rfl)
theorem ok216 : FnOk Try.prog X 23 pf216 := FnOk.of Try.func23 (by kernel_rfl) (by kernel_rfl) (by kernel_rfl) (by kernel_rfl) (by kernel_rfl)
theorem ok217 : FnOk Try.prog X 24 pf217 := FnOk.of Try.func24 (by kernel_rfl) (by kernel_rfl) (by kernel_rfl) (by kernel_rfl) (by kernel_rfl)
theorem ok218 : FnOk Try.prog X 26 pf218 := FnOk.of Try.func26 (by kernel_rfl) (by kernel_rfl) (by kernel_rfl) (by kernel_rfl) (by kernel_rfl)
theorem ok219 : FnOk Try.prog X 27 pf219 := FnOk.of Try.func27 (by kernel_rfl) (by kernel_rfl) (by kernel_rfl) (by kernel_rfl) (by kernel_rfl)
theorem ok220 : FnOk Try.prog X 28 pf220 := FnOk.of Try.func28 (by kernel_rfl) (by kernel_rfl) (by kernel_rfl) (by kernel_rfl) (by kernel_rfl)
theorem ok221 : FnOk Try.prog X 30 pf221 := FnOk.of Try.func30 (by kernel_rfl) (by kernel_rfl) (by kernel_rfl) (by kernel_rfl) (by kernel_rfl)
theorem ok222 : FnOk Try.prog X 31 pf222 := FnOk.of Try.func31 (by kernel_rfl) (by kernel_rfl) (by kernel_rfl) (by kernel_rfl) (by kernel_rfl)
theorem ok223 : FnOk Try.prog X 32 pf223 := FnOk.of Try.func32 (by kernel_rfl) (by kernel_rfl) (by kernel_rfl) (by kernel_rfl) (by kernel_rfl)
theorem ok224 : FnOk Try.prog X 34 pf224 := FnOk.of Try.func34 (by kernel_rfl) (by kernel_rfl) (by kernel_rfl) (by kernel_rfl) (by kernel_rfl)
theorem ok225 : FnOk Try.prog X 35 pf225 := FnOk.of Try.func35 (by kernel_rfl) (by kernel_rfl) (by kernel_rfl) (by kernel_rfl) (by kernel_rfl)
theorem ok226 : FnOk Try.prog X 39 pf226 := FnOk.of Try.func39 (by kernel_rfl) (by kernel_rfl) (by kernel_rfl) (by kernel_rfl) (by kernel_rfl)
theorem ok227 : FnOk Try.prog X 40 pf227 := FnOk.of Try.func40 (by kernel_rfl) (by kernel_rfl) (by kernel_rfl) (by kernel_rfl) (by kernel_rfl)
theorem ok228 : FnOk Try.prog X 41 pf228 := FnOk.of Try.func41 (by kernel_rfl) (by kernel_rfl) (by kernel_rfl) (by kernel_rfl) (by kernel_rfl)
theorem ok229 : FnOk Try.prog X 43 pf229 := FnOk.of Try.func43 (by kernel_rfl) (by kernel_rfl) (by kernel_rfl) (by kernel_rfl) (by kernel_rfl)
theorem ok230 : FnOk Try.prog X 44 pf230 := FnOk.of Try.func44 (by kernel_rfl) (by kernel_rfl) (by kernel_rfl) (by kernel_rfl) (by kernel_rfl)
theorem ok231 : FnOk Try.prog X 45 pf231 := FnOk.of Try.func45 (by kernel_rfl) (by kernel_rfl) (by kernel_rfl) (by kernel_rfl) (by kernel_rfl)
theorem ok232 : FnOk Try.prog X 46 pf232 := FnOk.of Try.func46 (by kernel_rfl) (by kernel_rfl) (by kernel_rfl) (by kernel_rfl) (by kernel_rfl)
theorem ok233 : FnOk Try.prog X 47 pf233 := FnOk.of Try.func47 (by kernel_rfl) (by kernel_rfl) (by kernel_rfl) (by kernel_rfl) (by kernel_rfl)
theorem ok234 : FnOk Try.prog X 50 pf234 := FnOk.of Try.func50 (by kernel_rfl) (by kernel_rfl) (by kernel_rfl) (by kernel_rfl) (by kernel_rfl)
theorem ok235 : FnOk Try.prog X 55 pf235 := FnOk.of Try.func55 (by kernel_rfl) (by kernel_rfl) (by kernel_rfl) (by kernel_rfl) (by kernel_rfl)
theorem ok236 : FnOk Try.prog X 61 pf236 := FnOk.of Try.func61 (by kernel_rfl) (by kernel_rfl) (by kernel_rfl) (by kernel_rfl) (by kernel_rfl)
theorem ok237 : FnOk Try.prog X 63 pf237 := FnOk.of Try.func63 (by kernel_rfl) (by kernel_rfl) (by kernel_rfl) (by kernel_rfl) (by kernel_rfl)
theorem ok238 : FnOk Try.prog X 67 pf238 := FnOk.of Try.func67 (by kernel_rfl) (by kernel_rfl) (by kernel_rfl) (by kernel_rfl) (by kernel_rfl)
theorem ok239 : FnOk Try.prog X 68 pf239 := FnOk.of Try.func68 (by kernel_rfl) (by kernel_rfl) (by kernel_rfl) (by kernel_rfl) (by kernel_rfl)
theorem tyVal : TyVal X.T 73 := ⟨5, 2, 9, 71, 4, ⟨_, rfl, rfl, rfl⟩, ⟨_, rfl, rfl, rfl⟩, ⟨_, rfl, rfl, rfl⟩, ⟨_, rfl, rfl, rfl⟩, ⟨_, rfl, rfl, rfl⟩, ⟨_, rfl, rfl, rfl⟩⟩
theorem tyFld : TyFld X.T 63 := ⟨9, 3, ⟨_, rfl, rfl, rfl⟩, ⟨_, rfl, rfl, rfl⟩, ⟨_, rfl, rfl, rfl⟩⟩
theorem tyIns : TyIns X.T 166 := ⟨5, 3, 3, 3, ⟨_, rfl, rfl, rfl⟩, ⟨_, rfl, rfl, rfl⟩, ⟨_, rfl, rfl, rfl⟩, ⟨_, rfl, rfl, rfl⟩, ⟨_, rfl, rfl, rfl⟩⟩
theorem tyRnn : TyRnn X.T 168 := ⟨3, 66, ⟨_, rfl, rfl, rfl⟩, ⟨_, rfl, rfl, rfl⟩, ⟨_, rfl, rfl, rfl⟩⟩
theorem tyTyp : TyTyp X.T 164 := ⟨5, 3, 3, 57, 63, ⟨_, rfl, rfl, rfl⟩, ⟨_, rfl, rfl, rfl⟩, ⟨_, rfl, rfl, rfl⟩, ⟨_, rfl, rfl, rfl⟩, ⟨_, rfl, rfl, rfl⟩, tyFld⟩
theorem tyFun : TyFun X.T 61 := ⟨9, 3, 3, 57, 58, 59, 59, 63, 166, 168, 168, ⟨_, rfl, rfl, rfl⟩, ⟨_, rfl, rfl, rfl⟩, ⟨_, rfl, rfl, rfl⟩, ⟨_, rfl, rfl, rfl⟩, ⟨_, rfl, rfl, rfl⟩, tyFld, ⟨_, rfl, rfl, rfl⟩, tyIns, ⟨_, rfl, rfl, rfl⟩, tyRnn, ⟨_, rfl, rfl, rfl⟩, tyRnn⟩
theorem tyImg : TyImg X.T 26 := ⟨22, 23, 24, 164, 9, 61, ⟨_, rfl, rfl, rfl⟩, ⟨_, rfl, rfl, rfl⟩, tyTyp, ⟨_, rfl, rfl, rfl⟩, ⟨_, rfl, rfl, rfl⟩, ⟨_, rfl, rfl, rfl⟩, tyFun⟩
theorem tyLoc : TyLoc X.T 101 := ⟨3, 73, ⟨_, rfl, rfl, rfl⟩, ⟨_, rfl, rfl, rfl⟩, tyVal⟩
theorem tyFrm : TyFrm X.T 69 := ⟨3, 3, 66, 67, 101, ⟨_, rfl, rfl, rfl⟩, ⟨_, rfl, rfl, rfl⟩, ⟨_, rfl, rfl, rfl⟩, ⟨_, rfl, rfl, rfl⟩, ⟨_, rfl, rfl, rfl⟩, tyLoc⟩
theorem tyPan : TyPan X.T 99 := ⟨66, 73, 66, ⟨_, rfl, rfl, rfl⟩, ⟨_, rfl, rfl, rfl⟩, tyVal, ⟨_, rfl, rfl, rfl⟩⟩
theorem tyDfr : TyDfr X.T 75 := ⟨3, 3, 4, 73, ⟨_, rfl, rfl, rfl⟩, ⟨_, rfl, rfl, rfl⟩, ⟨_, rfl, rfl, rfl⟩, ⟨_, rfl, rfl, rfl⟩, tyVal⟩
theorem tyRou : TyRou X.T 34 := ⟨5, 2, 30, 31, 32, 69, 75, 99, ⟨_, rfl, rfl, rfl⟩, ⟨_, rfl, rfl, rfl⟩, ⟨_, rfl, rfl, rfl⟩, ⟨_, rfl, rfl, rfl⟩, tyFrm, ⟨_, rfl, rfl, rfl⟩, tyDfr, ⟨_, rfl, rfl, rfl⟩, tyPan⟩
theorem tySta : TySta X.T 29 := ⟨5, 3, 3, 27, 34, ⟨_, rfl, rfl, rfl⟩, ⟨_, rfl, rfl, rfl⟩, ⟨_, rfl, rfl, rfl⟩, ⟨_, rfl, rfl, rfl⟩, ⟨_, rfl, rfl, rfl⟩, tyRou⟩
end Go.Proofs.Ytheacfnopahmjaa

/- Parts of the proof. -/
namespace Go.AM
open Go
structure Has03 (prog : Prog) : Prop where
  f11 : prog.fn 11 = some pf11
  f15 : prog.fn 15 = some pf15
  f30 : prog.fn 30 = some pf30
  f34 : prog.fn 34 = some pf34
  f16 : prog.fn 16 = some pf16
  f29 : prog.fn 29 = some pf29
  f31 : prog.fn 31 = some pf31
  f35 : prog.fn 35 = some pf35
  f41 : prog.fn 41 = some pf41
  f48 : prog.fn 48 = none
  o48 : ∀ (s : Bytes) (c : UInt8), prog.orac 48 [.s s, .i .u8 (c.toNat : Int)] = some (.i .i64 (Lib.indexByte s c))
section
variable {prog : Prog} (H : Has03 prog)
include H
theorem c41 (c : UInt8) : Pus prog 41 [.i .u8 (c.toNat : Int)] (.s (chr c)) := by
  have hc := c.toNat_lt
  have hq : (c.toNat : Int).tdiv 16 = ((c.toNat / 16 : Nat) : Int) := by rw [Int.tdiv_eq_ediv_of_nonneg (by omega)]; omega
  have hr : (c.toNat : Int).tmod 16 = ((c.toNat % 16 : Nat) : Int) := by rw [Int.tmod_eq_emod_of_nonneg (by omega)]; omega
  have w1 : IntKind.u8.wrap ((c.toNat / 16 : Nat) : Int) = ((c.toNat / 16 : Nat) : Int) := wr_u8 (by omega) (by omega)
  have w2 : IntKind.u8.wrap (((c.toNat / 16 : Nat) : Int) + 1) = ((c.toNat / 16 + 1 : Nat) : Int) := by rw [wr_u8 (by omega) (by omega)]; omega
  have w3 : IntKind.u8.wrap (((c.toNat % 16 : Nat) : Int) + 1) = ((c.toNat % 16 + 1 : Nat) : Int) := by rw [wr_u8 (by omega) (by omega)]; omega
  have t1 := hexd_take (n := c.toNat / 16) (by omega) rfl
  have t2 := hexd_take (n := c.toNat % 16) (by omega) rfl
  obtain ⟨x, rfl, h⟩ := p41 H.f41 (c0 := (c.toNat : Int)) (K := fun x => x = chr c) (by
    unfold T41_0
    simp only [hq, hr, w1, w2, w3, toNat_cast, t1, t2, List.length_cons, List.length_nil, maxStr_eq, List.length_append]
    refine ⟨fun h => ⟨c, rfl, ?_⟩, fun h => ⟨fun h2 => ⟨c, rfl, ?_⟩, fun h2 => ⟨fun h3 => ?_, fun h3 => ⟨fun h4 => ⟨fun h5 => ⟨c, rfl, ?_⟩, fun h5 => ?_⟩, fun h4 => ?_⟩⟩⟩⟩
    · unfold chr; rw [if_pos (by omega)]
    · unfold chr; rw [if_pos (by omega)]
    · unfold chr; rw [if_neg (by omega), if_pos (by omega)]
    · unfold chr; rw [if_neg (by omega), if_neg (by omega), if_neg (by omega)]
    · refine ⟨by omega, by omega, by omega, by omega, by omega, by omega, by omega, by omega, ?_⟩
      unfold chr; rw [if_neg (by omega), if_neg (by omega), if_pos (by omega)]
      rfl
    · refine ⟨by omega, by omega, by omega, by omega, by omega, by omega, by omega, by omega, ?_⟩
      unfold chr; rw [if_neg (by omega), if_neg (by omega), if_pos (by omega)]
      rfl)
  exact h
theorem c31 {s : Bytes} (hs : s.length ≤ 10000000) : Pus prog 31 [.s s] (.s (quo s)) := by
  obtain ⟨x, rfl, h⟩ := p31 H.f31 (s0 := s) (K := fun x => x = quo s) (by
    unfold T31_0
    intro P hP
    refine loop_up (fun i => 34 :: chrs (s.take i)) s.length ?_ ?_
    · apply hP
      unfold T31_1 T31_2
      refine ⟨fun h => absurd h (by omega), fun _ => ⟨?_, ?_⟩⟩
      · have := chrs_len (s.take s.length)
        simp only [List.take_length] at this ⊢
        simp only [List.length_cons, List.length_nil, maxStr_eq]
        omega
      · simp only [List.take_length, quo]
        rfl
    · intro i hi ih
      apply hP
      unfold T31_1
      refine ⟨fun _ => ⟨by omega, s[i], by rw [toNat_cast, List.getElem?_eq_getElem hi], chr s[i], c41 H _, ?_, ?_⟩, fun h => absurd (show (i : Int) < s.length by omega) h⟩
      · have h1 := chrs_len (s.take i)
        have h2 := chr_len s[i]
        simp only [List.length_cons, List.length_take, maxStr_eq] at h1 ⊢
        omega
      · rw [wr_succ (by omega)]
        rw [chrs_take hi] at ih
        exact ih)
  exact h
theorem c30 {s b : Bytes} (hs : s.length ≤ 10000000) (hb : b.length ≤ 1000000000) : PuA prog 30 (b.map row8) [.s s] ((b ++ quo s).map row8) := by
  refine PuAK.to ?_
  have hp := p30 H.f30 (b0 := b) (s1 := s) (K := fun x => x = b ++ quo s) (by
    unfold T30_0 T30_1
    refine ⟨⟨by simp only [List.length_cons, List.length_nil, maxBytes_eq]; omega, by simp only [List.length_cons, List.length_nil, maxBytes_eq]; omega⟩, fun P hP => ?_⟩
    refine loop_up (fun i => b ++ 34 :: chrs (s.take i)) s.length ?_ ?_
    · apply hP
      unfold T30_2 T30_4
      have h1 := chrs_len (s.take s.length)
      simp only [List.take_length] at h1 ⊢
      refine ⟨fun h => absurd h (by omega), fun _ => ⟨⟨?_, ?_⟩, ?_⟩⟩
      · simp only [List.length_append, List.length_cons, List.length_nil, maxBytes_eq]; omega
      · simp only [List.length_append, List.length_cons, List.length_nil, maxBytes_eq]; omega
      · simp only [quo, List.append_assoc, List.cons_append]
    · intro i hi ih
      apply hP
      have h1 := chrs_len (s.take i)
      have hc := s[i].toNat_lt
      rw [chrs_take hi] at ih
      rw [← List.cons_append, ← List.append_assoc] at ih
      generalize hx : s[i] = c at ih hc
      have w1 : bShr .u8 (c.toNat : Int) 4 = ((c.toNat / 16 : Nat) : Int) := by
        show (c.toNat : Int).fdiv 16 = _
        rw [Int.fdiv_eq_ediv_of_nonneg _ (by omega)]; omega
      have w2 : bAnd .u8 (c.toNat : Int) 15 = ((c.toNat % 16 : Nat) : Int) := by
        unfold bAnd
        have hx : (BitVec.ofInt IntKind.u8.bits (c.toNat : Int) &&& BitVec.ofInt IntKind.u8.bits 15).toNat = c.toNat % 16 := by
          show (BitVec.ofInt 8 (c.toNat : Int) &&& BitVec.ofInt 8 15).toNat = c.toNat % 16
          rw [BitVec.toNat_and]
          have h1 : (BitVec.ofInt 8 (c.toNat : Int)).toNat = c.toNat := by
            simp
          rw [h1]
          exact Nat.and_two_pow_sub_one_eq_mod c.toNat 4
        rw [hx]
        exact wr_u8 (by omega) (by omega)
      have fit : ∀ x : Bytes, x.length ≤ 4 → Fit ((b ++ 34 :: chrs (s.take i)).length + x.length) 1 := by
        intro x hx
        simp only [List.length_take] at h1
        refine ⟨?_, ?_⟩ <;> (simp only [List.length_append, List.length_cons, maxBytes_eq]; omega)
      unfold T30_2 T30_3
      rw [wr_succ (by omega)]
      refine ⟨fun _ => ⟨by omega, c, by rw [toNat_cast, List.getElem?_eq_getElem hi, hx], ?_⟩, fun h => absurd (show (i : Int) < s.length by omega) h⟩
      simp only [w1, w2, toNat_cast, hexd_get (show c.toNat / 16 < 16 by omega), hexd_get (show c.toNat % 16 < 16 by omega), Option.some.injEq, exists_eq_left']
      unfold chr at ih
      refine ⟨fun h2 => ⟨fit _ (by simp), ?_⟩, fun h2 => ⟨fun h3 => ⟨fit _ (by simp), ?_⟩, fun h3 => ⟨fun h4 => ⟨fit _ (by simp), ?_⟩, fun h4 => ⟨fun h5 => ⟨by omega, by omega, fit _ (by simp), ?_⟩, fun h5 => ⟨fun h6 => ⟨by omega, by omega, fit _ (by simp), ?_⟩, fun h6 => ⟨fit _ (by simp), ?_⟩⟩⟩⟩⟩⟩
      · rwa [if_pos (by omega)] at ih
      · rwa [if_pos (by omega)] at ih
      · rwa [if_neg (by omega), if_pos (by omega)] at ih
      · rwa [if_neg (by omega), if_neg (by omega), if_pos (by omega)] at ih
      · rwa [if_neg (by omega), if_neg (by omega), if_pos (by omega)] at ih
      · rwa [if_neg (by omega), if_neg (by omega), if_neg (by omega)] at ih)
  intro d st o ha
  obtain ⟨o', st', rows', ⟨x, rfl, rfl⟩, h1, h2⟩ := hp d st o ha
  exact ⟨o', st', _, rfl, h1, h2⟩
theorem c11 (s : Bytes) : Pus prog 11 [.s s] (.tup [.s (quoR s).1, .i .i64 (quoR s).2]) := by
  obtain ⟨x, y, ⟨rfl, rfl⟩, h⟩ := p11 H.f11 (s0 := s) (K := fun x y => x = (quoR s).1 ∧ y = (quoR s).2) (by
    unfold T11_0 quoR
    refine ⟨fun h => ?_, fun h => ⟨_, c30 H (b := []) (s := s) (by omega) (by simp), ?_⟩⟩
    · rw [if_pos (by omega)]; exact ⟨rfl, rfl⟩
    · rw [if_neg (by omega)]; exact ⟨rfl, rfl⟩)
  exact h
theorem c34 {n b : Nat} (hb : 2 ≤ b) (hb' : b ≤ 16) (hn : n < 18446744073709551616) : Pus prog 34 [.i .u64 (n : Int), .i .u64 (b : Int)] (.s (digs b n)) := by
  obtain ⟨x, rfl, h⟩ := p34 H.f34 (n0 := (n : Int)) (base1 := (b : Int)) (K := fun x => x = digs b n) (by
    unfold T34_0
    intro P hP
    have key : ∀ f n', n' < b ^ f → 0 < f → n' < 18446744073709551616 → ∀ a : Nat, f ≤ a → a ≤ 64 → ∀ m : Bytes, m.length = 64 → (ds b f n' ++ m.drop a = digs b n) → P (n' : Int) (a : Int) m := by
      intro f
      induction f with
      | zero => intro _ _ h; exact absurd h (Nat.lt_irrefl _)
      | succ f ih =>
        intro n' hf _ hn' a ha ha' m hm hd
        apply hP
        have e1 : (n' : Int).tmod (b : Int) = ((n' % b : Nat) : Int) := by rw [Int.tmod_eq_emod_of_nonneg (by omega)]; omega
        have e2 : (n' : Int).tdiv (b : Int) = ((n' / b : Nat) : Int) := by rw [Int.tdiv_eq_ediv_of_nonneg (by omega)]; omega
        have e3 : IntKind.i64.wrap ((a : Int) - 1) = ((a - 1 : Nat) : Int) := by rw [wr_i64 (by omega) (by omega)]; omega
        have hq : n' / b ≤ n' := Nat.div_le_self _ _
        have hr : n' % b < b := Nat.mod_lt _ (by omega)
        have e4 : IntKind.u64.wrap ((n' / b : Nat) : Int) = ((n' / b : Nat) : Int) := wr_u64_nat (by omega)
        have hset : ∀ c : UInt8, (m.set (a - 1) c).drop (a - 1) = c :: m.drop a := by
          intro c
          rw [List.drop_eq_getElem_cons (by simp; omega), List.getElem_set_self, List.drop_set_of_lt (by omega), show a - 1 + 1 = a by omega]
        unfold T34_1
        simp only [e1, e2, e3, e4, toNat_cast, hset]
        refine ⟨by omega, by omega, hexd (n' % b), hexd_get (by omega), by omega, by omega, by omega, by omega, fun h => ⟨by simp [hm], by omega, by omega, ?_⟩, fun h => ?_⟩
        · rw [← hd]
          unfold ds
          have hz : n' / b = 0 := by omega
          have hlt : n' < b := by
            rcases Nat.lt_or_ge n' b with h | h
            · exact h
            · have := Nat.div_pos h (by omega); omega
          rw [if_pos hlt, Nat.mod_eq_of_lt hlt]
          rfl
        · have hz : n' / b ≠ 0 := by omega
          have hlt : ¬ n' < b := fun h => hz (Nat.div_eq_of_lt h)
          have h1 : n' / b < b ^ f := by
            rw [Nat.div_lt_iff_lt_mul (by omega)]
            rw [Nat.pow_succ] at hf
            exact hf
          have h2 : 0 < f := by
            rcases Nat.eq_zero_or_pos f with rfl | h
            · simp at h1; omega
            · exact h
          refine ih (n' / b) h1 h2 (by omega) (a - 1) (by omega) (by omega) _ (by simp [hm]) ?_
          rw [hset, ← hd]
          conv => rhs; unfold ds
          rw [if_neg hlt, List.append_assoc]
          rfl
    refine key 64 n ?_ (by omega) hn 64 (by omega) (by omega) _ (by simp) ?_
    · calc n < 2 ^ 64 := hn
        _ ≤ b ^ 64 := Nat.pow_le_pow_left hb 64
    · simp [digs])
  exact h
theorem c35 {n b : Nat} (hb : 2 ≤ b) (hb' : b ≤ 16) (hn : n < 18446744073709551616) : Pus prog 35 [.i .u64 (n : Int), .i .u64 (b : Int)] (.s (digs b n)) := by
  obtain ⟨x, rfl, h⟩ := p35 H.f35 (n0 := (n : Int)) (base1 := (b : Int)) (K := fun x => x = digs b n) (by
    unfold T35_0
    intro P hP
    have key : ∀ f n', n' < b ^ f → 0 < f → n' < 18446744073709551616 → f ≤ 64 → ∀ s : Bytes, s.length + f ≤ 64 → (ds b f n' ++ s = digs b n) → P (n' : Int) s := by
      intro f
      induction f with
      | zero => intro _ _ h; exact absurd h (Nat.lt_irrefl _)
      | succ f ih =>
        intro n' hf _ hn' hf64 s hs hd
        apply hP
        have e1 : (n' : Int).tmod (b : Int) = ((n' % b : Nat) : Int) := by rw [Int.tmod_eq_emod_of_nonneg (by omega)]; omega
        have e2 : (n' : Int).tdiv (b : Int) = ((n' / b : Nat) : Int) := by rw [Int.tdiv_eq_ediv_of_nonneg (by omega)]; omega
        have hq : n' / b ≤ n' := Nat.div_le_self _ _
        have hr : n' % b < b := Nat.mod_lt _ (by omega)
        have e4 : IntKind.u64.wrap ((n' / b : Nat) : Int) = ((n' / b : Nat) : Int) := wr_u64_nat (by omega)
        have e5 : IntKind.u64.wrap (((n' % b : Nat) : Int) + 1) = ((n' % b + 1 : Nat) : Int) := by rw [wr_u64 (by omega) (by omega)]; omega
        unfold T35_1
        refine ⟨fun h => ?_, fun h => ?_⟩
        · simp only [e1, e2, e4, e5, toNat_cast, hexd_take (show n' % b < 16 by omega) rfl, DIG_len]
          have hlt : ¬ n' < b := by omega
          refine ⟨by omega, by omega, by omega, by omega, by omega, ?_, by omega, ?_⟩
          · simp only [List.length_cons, List.length_nil, maxStr_eq]; omega
          have hz : n' / b ≠ 0 := by
            have := Nat.div_pos (show b ≤ n' by omega) (by omega); omega
          have h1 : n' / b < b ^ f := by
            rw [Nat.div_lt_iff_lt_mul (by omega)]
            rw [Nat.pow_succ] at hf
            exact hf
          have h2 : 0 < f := by
            rcases Nat.eq_zero_or_pos f with rfl | h
            · simp at h1; omega
            · exact h
          refine ih (n' / b) h1 h2 (by omega) (by omega) _ ?_ ?_
          · simp only [List.length_append, List.length_cons, List.length_nil]; omega
          · rw [← hd]
            conv => rhs; unfold ds
            rw [if_neg hlt, List.append_assoc]
        · have hlt : n' < b := by omega
          have e6 : IntKind.u64.wrap ((n' : Int) + 1) = ((n' + 1 : Nat) : Int) := by rw [wr_u64 (by omega) (by omega)]; omega
          unfold T35_2
          simp only [e6, toNat_cast, hexd_take (show n' < 16 by omega) rfl, DIG_len]
          refine ⟨by omega, by omega, by omega, ?_, ?_⟩
          · simp only [List.length_cons, List.length_nil, maxStr_eq]; omega
          · rw [← hd]
            unfold ds
            rw [if_pos hlt]
    refine key 64 n ?_ (by omega) hn (by omega) _ (by simp) ?_
    · calc n < 2 ^ 64 := hn
        _ ≤ b ^ 64 := Nat.pow_le_pow_left hb 64
    · simp [digs])
  exact h
theorem c15 {n : Int} (h1 : -9223372036854775808 ≤ n) (h2 : n < 9223372036854775808) : Pus prog 15 [.i .i64 n] (.s (num n)) := by
  obtain ⟨x, rfl, h⟩ := p15 H.f15 (n0 := n) (K := fun x => x = num n) (by
    unfold T15_0
    refine ⟨fun h => ?_, fun h => ?_⟩
    · have e : IntKind.u64.wrap (0 - (IntKind.u64.wrap n)) = (((-n).toNat : Nat) : Int) := by rw [IntKind.wrap_u64, IntKind.wrap_u64]; omega
      rw [e]
      refine ⟨_, c34 H (b := 10) (by omega) (by omega) (by omega), ?_, ?_⟩
      · have := ds_len 10 64 (-n).toNat
        simp only [digs, List.length_cons, List.length_nil, maxStr_eq]; omega
      · unfold num; rw [if_pos h]; rfl
    · have e : IntKind.u64.wrap n = ((n.toNat : Nat) : Int) := by rw [IntKind.wrap_u64]; omega
      rw [e]
      refine ⟨_, c34 H (b := 10) (by omega) (by omega) (by omega), ?_⟩
      unfold num; rw [if_neg h])
  exact h
theorem c16 {n : Int} (h1 : -9223372036854775808 ≤ n) (h2 : n < 9223372036854775808) : Pus prog 16 [.i .i64 n] (.s (num n)) := by
  obtain ⟨x, rfl, h⟩ := p16 H.f16 (n0 := n) (K := fun x => x = num n) (by
    unfold T16_0
    refine ⟨fun h => ?_, fun h => ?_⟩
    · have e : IntKind.u64.wrap n = ((n.toNat : Nat) : Int) := by rw [IntKind.wrap_u64]; omega
      rw [e]
      refine ⟨_, c35 H (b := 10) (by omega) (by omega) (by omega), ?_⟩
      unfold num; rw [if_neg (by omega)]
    · have e : IntKind.u64.wrap ((IntKind.u64.wrap (IntKind.i64.wrap (0 - (IntKind.i64.wrap (n + 1))))) + 1) = (((-n).toNat : Nat) : Int) := by
        rw [wr_i64 (z := n + 1) (by omega) (by omega), wr_i64 (by omega) (by omega), wr_u64 (z := 0 - (n + 1)) (by omega) (by omega), wr_u64 (by omega) (by omega)]; omega
      rw [e]
      refine ⟨_, c35 H (b := 10) (by omega) (by omega) (by omega), ?_, ?_⟩
      · have := ds_len 10 64 (-n).toNat
        simp only [digs, List.length_cons, List.length_nil, maxStr_eq]; omega
      · unfold num; rw [if_pos (by omega)]; rfl)
  exact h
end
end Go.AM

/- Parts of the proof. -/
namespace Go.AM
open Go
def EscK (s : Bytes) (c : Int) (r : Bytes) (ok : Bool) : Prop := match esc s with | some (x, y) => c = (x.toNat : Int) ∧ r = y ∧ ok = true | none => ok = false
theorem EscK.yes {s : Bytes} {x : UInt8} {y : Bytes} {c : Int} (h : esc s = some (x, y)) (hc : c = (x.toNat : Int)) : EscK s c y true := by
  unfold EscK; rw [h]; exact ⟨hc, rfl, rfl⟩
theorem EscK.no {s : Bytes} {c : Int} {y : Bytes} (h : esc s = none) : EscK s c y false := by
  unfold EscK; rw [h]
section
variable {prog : Prog} (H : Has03 prog)
include H
theorem c29 {a b : List Bytes} (ha : a.length ≤ 1000000000) : Pus prog 29 [.sl .ext (a.map rowS), .sl .ext (b.map rowS)] (.b (decide (a = b))) := by
  obtain ⟨x, rfl, h⟩ := p29 H.f29 (a0 := a) (b1 := b) (K := fun x => x = decide (a = b)) (by
    unfold T29_0
    refine ⟨fun h => (decide_eq_false fun e => h (by rw [e])).symm, fun hl P hP => ?_⟩
    have hlen : a.length = b.length := by omega
    have key : ∀ m i : Nat, i + m = a.length → (∀ j, j < i → a[j]? = b[j]?) → P (i : Int) := by
      intro m
      induction m with
      | zero =>
        intro i hi hj
        apply hP
        unfold T29_1 T29_2
        refine ⟨fun h => absurd h (by omega), fun _ => (decide_eq_true ?_).symm⟩
        apply List.ext_getElem?
        intro j
        rcases Nat.lt_or_ge j i with h | h
        · exact hj j h
        · rw [List.getElem?_eq_none (by omega), List.getElem?_eq_none (by omega)]
      | succ m ih =>
        intro i hi hj
        have h1 : i < a.length := by omega
        have h2 : i < b.length := by omega
        apply hP
        unfold T29_1
        refine ⟨fun _ => ⟨by omega, a[i], by rw [toNat_cast, List.getElem?_eq_getElem h1], by omega, b[i], by rw [toNat_cast, List.getElem?_eq_getElem h2], fun h => ?_, fun h => ?_⟩, fun h => absurd h (by omega)⟩
        · refine (decide_eq_false fun e => h ?_).symm
          subst e
          rfl
        · rw [wr_succ (by omega)]
          refine ih (i + 1) (by omega) fun j hj' => ?_
          rcases Nat.lt_or_ge j i with h3 | h3
          · exact hj j h3
          · have : j = i := by omega
            subst this
            rw [List.getElem?_eq_getElem h1, List.getElem?_eq_getElem h2, Classical.not_not.1 h]
    exact key a.length 0 (by omega) (by simp))
  exact h
end
end Go.AM

/- Parts of the proof. -/
namespace Go.AM
open Go
end Go.AM

/- Parts of the proof. -/
namespace Go.AM
open Go
section
variable {f : Bytes → Val × Bool × Bytes} {kind : Int} {e : UInt8}
end
theorem len0 {α : Type} {l : List α} (h : l.length = 0) : l = [] := List.length_eq_zero_iff.1 h
theorem fine_ok {v : Val} (h : fine v = true) : okv 130 v = true ∧ v.nodes ≤ 5000 := by
  simpa [fine] using h
noncomputable def sameV (v w : Val) : Bool := @decide (v = w) (Classical.propDecidable _)
theorem sameV_true {v w : Val} : sameV v w = true ↔ v = w := by unfold sameV; simp
theorem sameV_false {v w : Val} : sameV v w = false ↔ v ≠ w := by
  rw [← Bool.not_eq_true, sameV_true]
end Go.AM
