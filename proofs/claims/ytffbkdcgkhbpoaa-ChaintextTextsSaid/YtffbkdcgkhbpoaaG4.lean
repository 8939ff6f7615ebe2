/- Parts of the proof: U38a. -/
import Derived.Test.YtffbkdcgkhbpoaaG2
set_option linter.all false
namespace Go.AM
open Go
set_option linter.unusedVariables false
set_option linter.unusedSimpArgs false
set_option maxRecDepth 4000
attribute [local irreducible] WO fillCells fillRows
def r71_0:List AI:=[oO 1 (.box 5 (.t 0)),
 oC 2 (.b false)]
def r71_1:List AI:=[oO 3 (.load 5 true (.t 1)),
 oO 4 (.call false 102 [(.t 3),(.c (.i .i64 14))]),
 oM 5 4,
 oG 6 (.load 5 true (.t 1)) 5 false,
 oG 7 (.call false 103 [(.t 6)]) 5 false,
 oG 8 (.bin .gtr (.t 7) (.c (.i .i64 400))) 5 false,
 oO 9 (.pick (.t 5) (.c (.b true)) (.t 8)),
 oM 2 9]
abbrev b71:AC:=(.seq (.reg 0 r71_0) (.seq (.reg 1 r71_1) .ret))
def pf71:AF:={ nt:=10,res:=[.tmp 2],body:=b71 }
abbrev H71 (Q:AE→Sl→St→Prop)(K:Bool→Prop):Prop:=∀(σ:Sl)(st:St)(res0:Bool),σ 2 = .b res0→K res0→Q .ret σ st
def T71_0 (prog:Prog)(K:Bool→Prop)(v0:Val):Prop:=
  ∃r'1:Bool,Pus prog 102 [v0.av,.i .i64 14] (.b r'1)∧(r'1 = true→K true)∧(r'1 = false→∃r'4:Int,Pus prog 103 [v0.av] (.i .i64 r'4)∧K (decide (r'4 > 400)))
section
variable {prog:Prog}{d:Nat}{Q:AE→Sl→St→Prop}{K:Bool→Prop}(hQ:H71 Q K){σ:Sl}{st:St}
include hQ
theorem w71_0 {v0:Val}(H0:σ 0 = v0.av)(h:T71_0 prog K v0):W prog d (.seq (.reg 0 r71_0) (.seq (.reg 1 r71_1) .ret)) σ st Q:=
 q_ rfl (s_box H0 rfl (m_ (e_ (q_ rfl (l_ rfl lk_here rfl rfl (h.elim fun r'1 e'2=>ca_ (sc rfl rfl (sc rfl rfl sn)) e'2.1 (s_mvB rfl (eb_ (g:=5) rfl (fun g'3=>gn_ (b:=true) rfl rfl (gn_ (b:=true) rfl rfl (gn_ (b:=true) rfl rfl (pt_ rfl rfl (s_mvB rfl (e_ (rt_ (hQ _ _ _ rfl (e'2.2.1 g'3))))))))) (fun g'3=>gy_ rfl (l_ rfl lk_here rfl rfl (gy_ rfl ((e'2.2.2 g'3).elim fun r'4 e'5=>ca_ (sc rfl rfl sn) e'5.1 (gy_ rfl (b_ rfl rfl gtr_ (pf_ rfl rfl (s_mvB rfl (e_ (rt_ (hQ _ _ _ rfl e'5.2)))))))))))))))))))
end
theorem p71 {prog:Prog}(hf:prog.fn 71 = some pf71){v0:Val}{K:Bool→Prop}(h:T71_0 prog K v0) :∃res0:Bool,K res0∧Pus prog 71 [v0.av] (.b res0):=by
  obtain ⟨v,hv,res0,hk,rfl⟩:=Pus.of (K:=fun v=>∃res0:Bool,K res0∧v = .b res0) hf rfl (w71_0 (σ:=sl0 [v0.av]) (fun σ st   res0 H2 hk=>⟨.b res0,by simp only [pf71,ares,aresL,H2,ares1,Option.map_some],_,rfl,res0,hk,rfl⟩) rfl h)
  exact ⟨res0,hk,hv⟩
def r72_0:List AI:=[oO 1 (.box 5 (.t 0)),
 oC 2 (.s []),
 oC 3 (.i .i64 0)]
def r72_1:List AI:=[oO 7 (.load 5 true (.t 1)),
 oO 8 (.call false 76 [(.t 7)]),
 oM 4 8]
def r72_2:List AI:=[oM 9 4,
 oB 10 .neq (.t 9) (.c (.i .i64 0))]
def r72_3:List AI:=[oM 11 4,
 oC 2 (.s []),
 oM 3 11]
def r72_4:List AI:=[oO 5 (.alloc [.np,.sl .full []])]
def r72_5:List AI:=[oO 12 (.load 5 true (.t 1)),
 oO 13 (.call true 104 [(.t 5),(.t 12)]),
 oM 6 13]
def r72_6:List AI:=[oM 14 6,
 oB 15 .neq (.t 14) (.c (.i .i64 0))]
def r72_7:List AI:=[oM 16 6,
 oC 2 (.s []),
 oM 3 16]
def r72_8:List AI:=[oO 17 (.call true 105 [(.t 5)]),
 oM 2 17,
 oC 3 (.i .i64 0)]
abbrev b72:AC:=(.seq (.reg 0 r72_0) (.seq (.seq (.reg 1 r72_1) (.seq (.reg 2 r72_2) (.cond (.t 10) (.seq (.reg 3 r72_3) .ret) .skip))) (.seq (.reg 1000004 r72_4) (.seq (.seq (.reg 5 r72_5) (.seq (.reg 6 r72_6) (.cond (.t 15) (.seq (.reg 7 r72_7) .ret) .skip))) (.seq (.reg 8 r72_8) .ret)))))
def pf72:AF:={ nt:=18,res:=[.tmp 2,.tmp 3],body:=b72 }
abbrev H72 (Q:AE→Sl→St→Prop)(K:List UInt8→Int→Prop):Prop:=∀(σ:Sl)(st:St)(res0:List UInt8)(res1:Int),σ 2 = .s res0→σ 3 = .i .i64 res1→K res0 res1→Q .ret σ st
def T72_0 (prog:Prog)(K:List UInt8→Int→Prop)(v0:Val):Prop:=
  ∃r'1:Int,Pus prog 76 [v0.av] (.i .i64 r'1)∧(r'1≠0→K ([]:List UInt8) r'1)∧(¬(r'1≠0)→∃r'9:Int,∃b'15:List UInt8,PuX prog 104 (Bl ([]:List UInt8)) [v0.av] (fun r=>r = .i .i64 r'9) ((Bl b'15))∧(r'9≠0→K ([]:List UInt8) r'9)∧(¬(r'9≠0)→∃r'17:List UInt8,PuX prog 105 (Bl b'15) [] (fun r=>r = .s r'17) (fun _ _ _ _=>True)∧K r'17 0))
section
variable {prog:Prog}{d:Nat}{Q:AE→Sl→St→Prop}{K:List UInt8→Int→Prop}(hQ:H72 Q K){σ:Sl}{st:St}
include hQ
theorem w72_0 {v0:Val}(H0:σ 0 = v0.av)(h:T72_0 prog K v0):W prog d (.seq (.reg 0 r72_0) (.seq (.seq (.reg 1 r72_1) (.seq (.reg 2 r72_2) (.cond (.t 10) (.seq (.reg 3 r72_3) .ret) .skip))) (.seq (.reg 1000004 r72_4) (.seq (.seq (.reg 5 r72_5) (.seq (.reg 6 r72_6) (.cond (.t 15) (.seq (.reg 7 r72_7) .ret) .skip))) (.seq (.reg 8 r72_8) .ret))))) σ st Q:=
 q_ rfl (s_box H0 rfl (m_ (m_ (e_ (sq_ (q_ rfl (l_ rfl lk_here rfl rfl (h.elim fun r'1 e'2=>ca_ (sc rfl rfl sn) e'2.1 (m_ (e_ (q_ rfl (m_ (b_ rfl rfl neq_ (e_ (cs_ rfl (fun g'3=>q_ rfl (m_ (m_ (m_ (e_ (rt_ (hQ _ _ _ _ rfl rfl (e'2.2.1 g'3)))))))) (fun g'3=>sk_ (sq_ (W.regB rfl (fun nx'6 v'7 bx'8 hb'4 hx'5=>sq_ (q_ rfl (l_ rfl ((hx'5 (d,0) (key_LL rfl)).trans lk_here) rfl rfl ((e'2.2.2 g'3).elim fun r'9 e'23=>e'23.elim fun b'15 e'11=>cX_ (sec rfl (sec rfl sen)) e'11.1 (Nat.lt_succ_self d) hb'4 (fun st'12 hb'13 hf'14=>m_ (e_ (q_ rfl (m_ (b_ rfl rfl neq_ (e_ (cs_ rfl (fun g'16=>q_ rfl (m_ (m_ (m_ (e_ (rt_ (hQ _ _ _ _ rfl rfl (e'11.2.1 g'16)))))))) (fun g'16=>sk_ (q_ rfl ((e'11.2.2 g'16).elim fun r'17 e'19=>cX_ (sec rfl sen) e'19.1 (Nat.lt_succ_self d) hb'13 (fun st'20 hb'21 hf'22=>m_ (m_ (e_ (rt_ (hQ _ _ _ _ rfl rfl e'19.2)))))))))))))))))))))))))))))))))))))
end
theorem p72 {prog:Prog}(hf:prog.fn 72 = some pf72){v0:Val}{K:List UInt8→Int→Prop}(h:T72_0 prog K v0) :∃res0:List UInt8,∃res1:Int,K res0 res1∧Pus prog 72 [v0.av] (.tup [.s res0,.i .i64 res1]):=by
  obtain ⟨v,hv,res0,res1,hk,rfl⟩:=Pus.of (K:=fun v=>∃res0:List UInt8,∃res1:Int,K res0 res1∧v = .tup [.s res0,.i .i64 res1]) hf rfl (w72_0 (σ:=sl0 [v0.av]) (fun σ st   res0 res1 H2 H3 hk=>⟨.tup [.s res0,.i .i64 res1],by simp only [pf72,ares,aresL,H2,H3,ares1,Option.map_some],_,rfl,res0,res1,hk,rfl⟩) rfl h)
  exact ⟨res0,res1,hk,hv⟩
abbrev H73 (Q:AE→Sl→St→Prop)(K:List UInt8→Int→Prop):Prop:=∀(σ:Sl)(st:St)(res0:List UInt8)(res1:Int),σ 2 = .s res0→σ 3 = .i .i64 res1→K res0 res1→Q .ret σ st
section
variable {prog:Prog}{d:Nat}{Q:AE→Sl→St→Prop}{K:List UInt8→Int→Prop}(hQ:H73 Q K){σ:Sl}{st:St}
include hQ
end
def r76_0:List AI:=[oO 1 (.box 5 (.t 0)),
 oC 2 (.i .i64 0)]
def r76_1:List AI:=[oO 6 (.load 5 true (.t 1)),
 oO 7 (.call false 109 [(.t 6),(.c (.i .i64 130))]),
 oM 5 7,
 oE 8 0 5,
 oE 9 1 5,
 oM 3 8,
 oM 4 9]
def r76_2:List AI:=[oM 10 4,
 oO 11 (.un .not (.t 10))]
def r76_3:List AI:=[oC 2 (.i .i64 8)]
def r76_4:List AI:=[oC 2 (.i .i64 0)]
abbrev b76:AC:=(.seq (.reg 0 r76_0) (.seq (.seq (.reg 1 r76_1) (.seq (.reg 2 r76_2) (.cond (.t 11) (.seq (.reg 3 r76_3) .ret) .skip))) (.seq (.reg 4 r76_4) .ret)))
def pf76:AF:={ nt:=12,res:=[.tmp 2],body:=b76 }
abbrev H76 (Q:AE→Sl→St→Prop)(K:Int→Prop):Prop:=∀(σ:Sl)(st:St)(res0:Int),σ 2 = .i .i64 res0→K res0→Q .ret σ st
def T76_0 (prog:Prog)(K:Int→Prop)(v0:Val):Prop:=
  ∃r'1:Int,∃r'2:Bool,Pus prog 109 [v0.av,.i .i64 130] (.tup [.i .i64 r'1,.b r'2])∧((!r'2) = true→K 8)∧((!r'2) = false→K 0)
section
variable {prog:Prog}{d:Nat}{Q:AE→Sl→St→Prop}{K:Int→Prop}(hQ:H76 Q K){σ:Sl}{st:St}
include hQ
theorem w76_0 {v0:Val}(H0:σ 0 = v0.av)(h:T76_0 prog K v0):W prog d (.seq (.reg 0 r76_0) (.seq (.seq (.reg 1 r76_1) (.seq (.reg 2 r76_2) (.cond (.t 11) (.seq (.reg 3 r76_3) .ret) .skip))) (.seq (.reg 4 r76_4) .ret))) σ st Q:=
 q_ rfl (s_box H0 rfl (m_ (e_ (sq_ (q_ rfl (l_ rfl lk_here rfl rfl (h.elim fun r'1 e'5=>e'5.elim fun r'2 e'3=>ca_ (sc rfl rfl (sc rfl rfl sn)) e'3.1 (m_ (x_ rfl rfl (x_ rfl rfl (m_ (m_ (e_ (q_ rfl (m_ (nt_ rfl (e_ (cb_ rfl (fun g'4=>q_ rfl (m_ (e_ (rt_ (hQ _ _ _ rfl (e'3.2.1 g'4)))))) (fun g'4=>sk_ (q_ rfl (m_ (e_ (rt_ (hQ _ _ _ rfl (e'3.2.2 g'4)))))))))))))))))))))))))
end
theorem p76 {prog:Prog}(hf:prog.fn 76 = some pf76){v0:Val}{K:Int→Prop}(h:T76_0 prog K v0) :∃res0:Int,K res0∧Pus prog 76 [v0.av] (.i .i64 res0):=by
  obtain ⟨v,hv,res0,hk,rfl⟩:=Pus.of (K:=fun v=>∃res0:Int,K res0∧v = .i .i64 res0) hf rfl (w76_0 (σ:=sl0 [v0.av]) (fun σ st   res0 H2 hk=>⟨.i .i64 res0,by simp only [pf76,ares,aresL,H2,ares1,Option.map_some],_,rfl,res0,hk,rfl⟩) rfl h)
  exact ⟨res0,hk,hv⟩
def r77_0:List AI:=[oO 1 (.box 5 (.t 0)),
 oC 2 (.i .i64 0)]
def r77_1:List AI:=[oO 3 (.load 5 true (.t 1)),
 oO 4 (.call false 110 [(.t 3),(.c (.i .i64 130))]),
 oO 5 (.un .not (.t 4)),
 oM 6 5,
 oG 7 (.load 5 true (.t 1)) 6 false,
 oG 8 (.call false 103 [(.t 7)]) 6 false,
 oG 9 (.bin .gtr (.t 8) (.c (.i .i64 5000))) 6 false,
 oO 10 (.pick (.t 6) (.c (.b true)) (.t 9))]
def r77_2:List AI:=[oC 2 (.i .i64 8)]
def r77_3:List AI:=[oC 2 (.i .i64 0)]
abbrev b77:AC:=(.seq (.reg 0 r77_0) (.seq (.seq (.reg 1 r77_1) (.cond (.t 10) (.seq (.reg 2 r77_2) .ret) .skip)) (.seq (.reg 3 r77_3) .ret)))
def pf77:AF:={ nt:=11,res:=[.tmp 2],body:=b77 }
abbrev H77 (Q:AE→Sl→St→Prop)(K:Int→Prop):Prop:=∀(σ:Sl)(st:St)(res0:Int),σ 2 = .i .i64 res0→K res0→Q .ret σ st
def T77_0 (prog:Prog)(K:Int→Prop)(v0:Val):Prop:=
  ∃r'1:Bool,Pus prog 110 [v0.av,.i .i64 130] (.b r'1)∧((!r'1) = true→K 8)∧((!r'1) = false→∃r'4:Int,Pus prog 103 [v0.av] (.i .i64 r'4)∧(r'4 > 5000→K 8)∧(¬(r'4 > 5000)→K 0))
section
variable {prog:Prog}{d:Nat}{Q:AE→Sl→St→Prop}{K:Int→Prop}(hQ:H77 Q K){σ:Sl}{st:St}
include hQ
theorem w77_0 {v0:Val}(H0:σ 0 = v0.av)(h:T77_0 prog K v0):W prog d (.seq (.reg 0 r77_0) (.seq (.seq (.reg 1 r77_1) (.cond (.t 10) (.seq (.reg 2 r77_2) .ret) .skip)) (.seq (.reg 3 r77_3) .ret))) σ st Q:=
 q_ rfl (s_box H0 rfl (m_ (e_ (sq_ (q_ rfl (l_ rfl lk_here rfl rfl (h.elim fun r'1 e'2=>ca_ (sc rfl rfl (sc rfl rfl sn)) e'2.1 (nt_ rfl (s_mvB rfl (eb_ (g:=6) rfl (fun g'3=>gn_ (b:=true) rfl rfl (gn_ (b:=true) rfl rfl (gn_ (b:=true) rfl rfl (pt_ rfl rfl (e_ (ct_ rfl (q_ rfl (m_ (e_ (rt_ (hQ _ _ _ rfl (e'2.2.1 g'3)))))))))))) (fun g'3=>gy_ rfl (l_ rfl lk_here rfl rfl (gy_ rfl ((e'2.2.2 g'3).elim fun r'4 e'5=>ca_ (sc rfl rfl sn) e'5.1 (gy_ rfl (b_ rfl rfl gtr_ (pf_ rfl rfl (e_ (cs_ rfl (fun g'6=>q_ rfl (m_ (e_ (rt_ (hQ _ _ _ rfl (e'5.2.1 g'6)))))) (fun g'6=>sk_ (q_ rfl (m_ (e_ (rt_ (hQ _ _ _ rfl (e'5.2.2 g'6))))))))))))))))))))))))))
end
theorem p77 {prog:Prog}(hf:prog.fn 77 = some pf77){v0:Val}{K:Int→Prop}(h:T77_0 prog K v0) :∃res0:Int,K res0∧Pus prog 77 [v0.av] (.i .i64 res0):=by
  obtain ⟨v,hv,res0,hk,rfl⟩:=Pus.of (K:=fun v=>∃res0:Int,K res0∧v = .i .i64 res0) hf rfl (w77_0 (σ:=sl0 [v0.av]) (fun σ st   res0 H2 hk=>⟨.i .i64 res0,by simp only [pf77,ares,aresL,H2,ares1,Option.map_some],_,rfl,res0,hk,rfl⟩) rfl h)
  exact ⟨res0,hk,hv⟩
def r102_0:List AI:=[oO 2 (.box 5 (.t 0)),
 oC 4 (.b false)]
def r102_1:List AI:=[oM 6 1,
 oB 7 .eql (.t 6) (.c (.i .i64 0)),
 oM 8 7,
 oG 9 (.fad 2 (.t 2)) 8 false,
 oG 10 (.load 1 false (.t 9)) 8 false,
 oG 11 (.len true (.t 10)) 8 false,
 oG 12 (.bin .gtr (.t 11) (.c (.i .i64 100))) 8 false,
 oO 13 (.pick (.t 8) (.c (.b true)) (.t 12)),
 oM 14 13,
 oG 15 (.fad 3 (.t 2)) 14 false,
 oG 16 (.load 1 false (.t 15)) 14 false,
 oG 17 (.len false (.t 16)) 14 false,
 oG 18 (.bin .gtr (.t 17) (.c (.i .i64 400))) 14 false,
 oO 19 (.pick (.t 14) (.c (.b true)) (.t 18))]
def r102_2:List AI:=[oC 4 (.b true)]
def r102_3:List AI:=[oC 5 (.i .i64 0)]
def r102_4:List AI:=[oM 20 5,
 oF 21 3 2,
 oL 22 21,
 oO 23 (.len false (.t 22)),
 oB 24 .lss (.t 20) (.t 23)]
def r102_5:List AI:=[oF 27 3 2,
 oL 28 27,
 oM 29 5,
 oO 30 (.iaL 5 (.t 28) (.t 29)),
 oO 31 (.load 5 true (.t 30)),
 oM 32 1,
 oB 33 .sub (.t 32) (.c (.i .i64 1)),
 oO 34 (.call false 102 [(.t 31),(.t 33)])]
def r102_6:List AI:=[oC 4 (.b true)]
def r102_7:List AI:=[oM 25 5,
 oB 26 .add (.t 25) (.c (.i .i64 1)),
 oM 5 26]
def r102_8:List AI:=[oC 4 (.b false)]
abbrev l102_0:AC:=(.seq (.seq (.reg 4 r102_4) (.cond (.t 24) .skip (.exit 0))) (.seq (.block 1 (.seq (.reg 6 r102_5) (.cond (.t 34) (.seq (.reg 7 r102_6) .ret) .skip))) (.reg 5 r102_7)))
abbrev c102_1:AC:=(.seq (.reg 8 r102_8) .ret)
abbrev b102:AC:=(.seq (.reg 0 r102_0) (.seq (.seq (.reg 1 r102_1) (.cond (.t 19) (.seq (.reg 2 r102_2) .ret) .skip)) (.seq (.seq (.reg 3 r102_3) (.block 0 (.loop l102_0))) c102_1)))
def pf102:AF:={ nt:=35,res:=[.tmp 4],body:=b102 }
abbrev H102 (Q:AE→Sl→St→Prop)(K:Bool→Prop):Prop:=∀(σ:Sl)(st:St)(res0:Bool),σ 4 = .b res0→K res0→Q .ret σ st
abbrev I102_0 (prog:Prog)(d:Nat)(Q:AE→Sl→St→Prop)(most1:Int)(i5:Int)(m0:Val):Prop:=
  ∀(σ:Sl)(st:St)(v0:Nat),σ 1 = .i .i64 most1→σ 2 = .p (d,0) v0 0→σ 5 = .i .i64 i5→lk st.bx (d,0) = some (v0,[.i .u8 m0.kind,.i .i64 m0.int,.s m0.text,.sl .ext (List.map Val.row m0.list),.b m0.cut])→W prog d (.loop l102_0) σ st (blockW 0 (thenW prog d c102_1 Q))
def T102_2 (prog:Prog)(K:Bool→Prop) :Prop:=
  K false
def T102_1 (prog:Prog)(K:Bool→Prop)(P0:Int→Val→Prop)(most1:Int)(i5:Int)(m0:Val):Prop:=
  (i5 < (m0.list.length:Int)→0≤i5∧∃c'2:Val,m0.list[(i5).toNat]? = some c'2∧∃r'4:Bool,Pus prog 102 [c'2.av,.i .i64 (IntKind.i64.wrap (most1 - 1))] (.b r'4)∧(r'4 = true→K true)∧(r'4 = false→P0 (IntKind.i64.wrap (i5 + 1)) m0))∧(¬(i5 < (m0.list.length:Int))→T102_2 prog K )
def T102_0 (prog:Prog)(K:Bool→Prop)(v0:Val)(most1:Int):Prop:=
  (most1 = 0→K true)∧(¬(most1 = 0)→((v0.text.length:Int) > 100→K true)∧(¬((v0.text.length:Int) > 100)→((v0.list.length:Int) > 400→K true)∧(¬((v0.list.length:Int) > 400)→∀P0:Int→Val→Prop,(∀(i5:Int)(m0:Val),T102_1 prog K P0 most1 i5 m0→P0 i5 m0)→P0 0 v0)))
section
variable {prog:Prog}{d:Nat}{Q:AE→Sl→St→Prop}{K:Bool→Prop}(hQ:H102 Q K){σ:Sl}{st:St}
include hQ
theorem w102_2 (h:T102_2 prog K ):W prog d c102_1 σ st Q:=
 q_ rfl (m_ (e_ (rt_ (hQ _ _ _ rfl h))))
theorem w102_1 {most1 i5:Int}{m0:Val}{P0:Int→Val→Prop} (kP0 :∀(i5:Int)(m0:Val),P0 i5 m0→I102_0 prog d Q most1 i5 m0){v0:Nat}(H1:σ 1 = .i .i64 most1)(H2:σ 2 = .p (d,0) v0 0)(H5:σ 5 = .i .i64 i5)(B0:lk st.bx (d,0) = some (v0,[.i .u8 m0.kind,.i .i64 m0.int,.s m0.text,.sl .ext (List.map Val.row m0.list),.b m0.cut]))(h:T102_1 prog K P0 most1 i5 m0):W prog d l102_0 σ st (thenW prog d (.loop l102_0) (blockW 0 (thenW prog d c102_1 Q))):=
 sq_ (q_ rfl (m_ (f_ H2 (l_ rfl B0 rfl rfl (ll_ rfl (b_ H5 rfl lss_ (e_ (cs_ rfl (fun g'1=>sk_ (sq_ (bk_ (q_ rfl (f_ H2 (l_ rfl B0 rfl rfl (m_ ((h.1 g'1).2.elim fun c'2 e'3=>ia_ rfl H5 (h.1 g'1).1 e'3.1 (Val.row_eq c'2) rfl (lf_ rfl rfl rfl (m_ (b_ H1 rfl sub_ (e'3.2.elim fun r'4 e'5=>ca_ (sc rfl rfl (sc rfl rfl sn)) e'5.1 (e_ (cb_ rfl (fun g'6=>q_ rfl (m_ (e_ (rt_ (hQ _ _ _ rfl (e'5.2.1 g'6)))))) (fun g'6=>sk_ (W.reg0 rfl fun _ _=>m_ (b_ H5 rfl add_ (m_ (e_ (kP0 _ _ (e'5.2.2 g'6) _ _ _ H1 H2 rfl B0)))))))))))))))))))) (fun g'1=>ex_ (w102_2 hQ (h.2 g'1)))))))))))
theorem w102_0 {v0:Val}{most1:Int}(H0:σ 0 = v0.av)(H1:σ 1 = .i .i64 most1)(h:T102_0 prog K v0 most1):W prog d (.seq (.reg 0 r102_0) (.seq (.seq (.reg 1 r102_1) (.cond (.t 19) (.seq (.reg 2 r102_2) .ret) .skip)) (.seq (.seq (.reg 3 r102_3) (.block 0 (.loop l102_0))) c102_1))) σ st Q:=
 q_ rfl (s_box H0 rfl (m_ (e_ (sq_ (q_ rfl (s_mvI H1 (b_ rfl rfl eql_ (s_mvB rfl (em_ (g:=8) rfl (fun g'1=>gn_ (b:=true) rfl rfl (gn_ (b:=true) rfl rfl (gn_ (b:=true) rfl rfl (gn_ (b:=true) rfl rfl (pt_ rfl rfl (s_mvB rfl (gn_ (b:=true) rfl rfl (gn_ (b:=true) rfl rfl (gn_ (b:=true) rfl rfl (gn_ (b:=true) rfl rfl (pt_ rfl rfl (e_ (ct_ rfl (q_ rfl (m_ (e_ (rt_ (hQ _ _ _ rfl (h.1 g'1))))))))))))))))))) (fun g'1=>gy_ rfl (f_ rfl (gy_ rfl (l_ rfl lk_here rfl rfl (gy_ rfl (ln_ rfl (gy_ rfl (b_ rfl rfl gtr_ (pf_ rfl rfl (s_mvB rfl (em_ (g:=14) rfl (fun g'2=>gn_ (b:=true) rfl rfl (gn_ (b:=true) rfl rfl (gn_ (b:=true) rfl rfl (gn_ (b:=true) rfl rfl (pt_ rfl rfl (e_ (ct_ rfl (q_ rfl (m_ (e_ (rt_ (hQ _ _ _ rfl ((h.2 g'1).1 g'2))))))))))))) (fun g'2=>gy_ rfl (f_ rfl (gy_ rfl (l_ rfl lk_here rfl rfl (gy_ rfl (ll_ rfl (gy_ rfl (b_ rfl rfl gtr_ (pf_ rfl rfl (e_ (cs_ rfl (fun g'3=>q_ rfl (m_ (e_ (rt_ (hQ _ _ _ rfl (((h.2 g'1).2 g'2).1 g'3)))))) (fun g'3=>sk_ (sq_ (q_ rfl (m_ (e_ (bk_ ((((h.2 g'1).2 g'2).2 g'3) (I102_0 prog d Q most1) (fun _ _ hb _ _ _ H1 H2 H5 B0=>W.loop (w102_1 hQ (fun _ _ x=>x) H1 H2 H5 B0 hb)) _ _ _ H1 rfl rfl lk_here))))))))))))))))))))))))))))))))))))))
end
theorem p102 {prog:Prog}(hf:prog.fn 102 = some pf102){v0:Val}{most1:Int}{K:Bool→Prop}(h:T102_0 prog K v0 most1) :∃res0:Bool,K res0∧Pus prog 102 [v0.av,.i .i64 most1] (.b res0):=by
  obtain ⟨v,hv,res0,hk,rfl⟩:=Pus.of (K:=fun v=>∃res0:Bool,K res0∧v = .b res0) hf rfl (w102_0 (σ:=sl0 [v0.av,.i .i64 most1]) (fun σ st   res0 H4 hk=>⟨.b res0,by simp only [pf102,ares,aresL,H4,ares1,Option.map_some],_,rfl,res0,hk,rfl⟩) rfl rfl h)
  exact ⟨res0,hk,hv⟩
def r103_0:List AI:=[oO 1 (.box 5 (.t 0)),
 oC 2 (.i .i64 0)]
def r103_1:List AI:=[oC 3 (.i .i64 1)]
def r103_2:List AI:=[oC 4 (.i .i64 0)]
def r103_3:List AI:=[oM 5 4,
 oF 6 3 1,
 oL 7 6,
 oO 8 (.len false (.t 7)),
 oB 9 .lss (.t 5) (.t 8),
 oM 10 9,
 oG 11 (.mv (.t 3)) 10 true,
 oG 12 (.bin .leq (.t 11) (.c (.i .i64 5000))) 10 true,
 oO 13 (.pick (.t 10) (.t 12) (.c (.b false)))]
def r103_4:List AI:=[oM 16 3,
 oF 17 3 1,
 oL 18 17,
 oM 19 4,
 oO 20 (.iaL 5 (.t 18) (.t 19)),
 oO 21 (.load 5 true (.t 20)),
 oO 22 (.call false 103 [(.t 21)]),
 oB 23 .add (.t 16) (.t 22),
 oM 3 23]
def r103_5:List AI:=[oM 14 4,
 oB 15 .add (.t 14) (.c (.i .i64 1)),
 oM 4 15]
def r103_6:List AI:=[oM 24 3,
 oM 2 24]
abbrev l103_0:AC:=(.seq (.seq (.reg 3 r103_3) (.cond (.t 13) .skip (.exit 0))) (.seq (.block 1 (.reg 5 r103_4)) (.reg 4 r103_5)))
abbrev c103_1:AC:=(.seq (.reg 6 r103_6) .ret)
abbrev b103:AC:=(.seq (.reg 0 r103_0) (.seq (.reg 1 r103_1) (.seq (.seq (.reg 2 r103_2) (.block 0 (.loop l103_0))) c103_1)))
def pf103:AF:={ nt:=25,res:=[.tmp 2],body:=b103 }
abbrev H103 (Q:AE→Sl→St→Prop)(K:Int→Prop):Prop:=∀(σ:Sl)(st:St)(res0:Int),σ 2 = .i .i64 res0→K res0→Q .ret σ st
abbrev I103_0 (prog:Prog)(d:Nat)(Q:AE→Sl→St→Prop)(n3:Int)(i4:Int)(m0:Val):Prop:=
  ∀(σ:Sl)(st:St)(v0:Nat),σ 1 = .p (d,0) v0 0→σ 3 = .i .i64 n3→σ 4 = .i .i64 i4→lk st.bx (d,0) = some (v0,[.i .u8 m0.kind,.i .i64 m0.int,.s m0.text,.sl .ext (List.map Val.row m0.list),.b m0.cut])→W prog d (.loop l103_0) σ st (blockW 0 (thenW prog d c103_1 Q))
def T103_2 (prog:Prog)(K:Int→Prop)(n3:Int):Prop:=
  K n3
def T103_1 (prog:Prog)(K:Int→Prop)(P0:Int→Int→Val→Prop)(n3:Int)(i4:Int)(m0:Val):Prop:=
  (i4 < (m0.list.length:Int)→(n3≤5000→0≤i4∧∃c'3:Val,m0.list[(i4).toNat]? = some c'3∧∃r'5:Int,Pus prog 103 [c'3.av] (.i .i64 r'5)∧P0 (IntKind.i64.wrap (n3 + r'5)) (IntKind.i64.wrap (i4 + 1)) m0)∧(¬(n3≤5000)→T103_2 prog K n3))∧(¬(i4 < (m0.list.length:Int))→T103_2 prog K n3)
def T103_0 (prog:Prog)(K:Int→Prop)(v0:Val):Prop:=
  ∀P0:Int→Int→Val→Prop,(∀(n3:Int)(i4:Int)(m0:Val),T103_1 prog K P0 n3 i4 m0→P0 n3 i4 m0)→P0 1 0 v0
section
variable {prog:Prog}{d:Nat}{Q:AE→Sl→St→Prop}{K:Int→Prop}(hQ:H103 Q K){σ:Sl}{st:St}
include hQ
theorem w103_2 {n3:Int}(H3:σ 3 = .i .i64 n3)(h:T103_2 prog K n3):W prog d c103_1 σ st Q:=
 q_ rfl (m_ (m_ (e_ (rt_ (hQ _ _ _ H3 h)))))
theorem w103_1 {n3 i4:Int}{m0:Val}{P0:Int→Int→Val→Prop} (kP0 :∀(n3:Int)(i4:Int)(m0:Val),P0 n3 i4 m0→I103_0 prog d Q n3 i4 m0){v0:Nat}(H1:σ 1 = .p (d,0) v0 0)(H3:σ 3 = .i .i64 n3)(H4:σ 4 = .i .i64 i4)(B0:lk st.bx (d,0) = some (v0,[.i .u8 m0.kind,.i .i64 m0.int,.s m0.text,.sl .ext (List.map Val.row m0.list),.b m0.cut]))(h:T103_1 prog K P0 n3 i4 m0):W prog d l103_0 σ st (thenW prog d (.loop l103_0) (blockW 0 (thenW prog d c103_1 Q))):=
 sq_ (q_ rfl (s_mvI H4 (f_ H1 (l_ rfl B0 rfl rfl (ll_ rfl (b_ rfl rfl lss_ (s_mvB rfl (em_ (g:=10) rfl (fun g'1=>gy_ rfl (s_mvI H3 (gy_ rfl (b_ rfl rfl leq_ (pt_ rfl rfl (e_ (cs_ rfl (fun g'2=>sk_ (sq_ (bk_ (W.reg0 rfl fun _ _=>m_ (f_ H1 (l_ rfl B0 rfl rfl (m_ (((h.1 g'1).1 g'2).2.elim fun c'3 e'4=>ia_ rfl H4 ((h.1 g'1).1 g'2).1 e'4.1 (Val.row_eq c'3) rfl (lf_ rfl rfl rfl (e'4.2.elim fun r'5 e'6=>ca_ (sc rfl rfl sn) e'6.1 (b_ H3 rfl add_ (m_ (e_ (W.reg0 rfl fun _ _=>m_ (b_ H4 rfl add_ (m_ (e_ (kP0 _ _ _ e'6.2 _ _ _ H1 rfl rfl B0)))))))))))))))))) (fun g'2=>ex_ (w103_2 hQ H3 ((h.1 g'1).2 g'2)))))))))) (fun g'1=>gn_ (b:=false) rfl rfl (gn_ (b:=false) rfl rfl (pf_ rfl rfl (e_ (cf_ rfl (ex_ (w103_2 hQ H3 (h.2 g'1))))))))))))))))
theorem w103_0 {v0:Val}(H0:σ 0 = v0.av)(h:T103_0 prog K v0):W prog d (.seq (.reg 0 r103_0) (.seq (.reg 1 r103_1) (.seq (.seq (.reg 2 r103_2) (.block 0 (.loop l103_0))) c103_1))) σ st Q:=
 q_ rfl (s_box H0 rfl (m_ (e_ (q_ rfl (m_ (e_ (sq_ (q_ rfl (m_ (e_ (bk_ (h (I103_0 prog d Q ) (fun _ _ _ hb _ _ _ H1 H3 H4 B0=>W.loop (w103_1 hQ (fun _ _ _ x=>x) H1 H3 H4 B0 hb)) _ _ _ rfl rfl rfl lk_here))))))))))))
end
theorem p103 {prog:Prog}(hf:prog.fn 103 = some pf103){v0:Val}{K:Int→Prop}(h:T103_0 prog K v0) :∃res0:Int,K res0∧Pus prog 103 [v0.av] (.i .i64 res0):=by
  obtain ⟨v,hv,res0,hk,rfl⟩:=Pus.of (K:=fun v=>∃res0:Int,K res0∧v = .i .i64 res0) hf rfl (w103_0 (σ:=sl0 [v0.av]) (fun σ st   res0 H2 hk=>⟨.i .i64 res0,by simp only [pf103,ares,aresL,H2,ares1,Option.map_some],_,rfl,res0,hk,rfl⟩) rfl h)
  exact ⟨res0,hk,hv⟩
def r104_0:List AI:=[oO 3 (.box 5 (.t 1)),
 oC 4 (.i .i64 0)]
def r104_1:List AI:=[oO 11 (.build [.s [],.s [],.s [],.s [],.s [],.s [],.s [],.s []] [(5,1,(.c (.s [123,125]))),(6,1,(.c (.s [91,93]))),(7,1,(.c (.s [60,62])))]),
 oF 12 0 3,
 oL 13 12,
 oO 14 (.ixA 8 1 false (.t 11) (.t 13)),
 oM 5 14]
def r104_2:List AI:=[oF 43 0 3,
 oL 44 43,
 oB 45 .eql (.t 44) (.c (.i .u8 1)),
 oM 46 45,
 oG 47 (.fad 1 (.t 3)) 46 true,
 oG 48 (.load 1 false (.t 47)) 46 true,
 oG 49 (.bin .eql (.t 48) (.c (.i .i64 1))) 46 true,
 oO 50 (.pick (.t 46) (.t 49) (.c (.b false))),
 oM 42 50]
def r104_3:List AI:=[oM 51 0,
 oO 52 (.call true 126 [(.t 51),(.c (.s [116,114,117,101]))])]
def r104_4:List AI:=[oF 54 0 3,
 oL 55 54,
 oB 56 .eql (.t 55) (.c (.i .u8 1)),
 oM 53 56]
def r104_5:List AI:=[oM 57 0,
 oO 58 (.call true 126 [(.t 57),(.c (.s [102,97,108,115,101]))])]
def r104_6:List AI:=[oF 60 0 3,
 oL 61 60,
 oB 62 .eql (.t 61) (.c (.i .u8 2)),
 oM 59 62]
def r104_7:List AI:=[oM 63 0,
 oF 64 1 3,
 oL 65 64,
 oO 66 (.call false 15 [(.t 65)]),
 oO 67 (.call true 126 [(.t 63),(.t 66)])]
def r104_8:List AI:=[oF 69 0 3,
 oL 70 69,
 oB 71 .eql (.t 70) (.c (.i .u8 3)),
 oM 68 71]
def r104_9:List AI:=[oF 73 2 3,
 oL 74 73,
 oO 75 (.call false 11 [(.t 74)]),
 oM 72 75,
 oE 76 0 72,
 oE 77 1 72,
 oM 6 76,
 oM 7 77]
def r104_10:List AI:=[oM 78 0,
 oM 79 6,
 oO 80 (.call true 126 [(.t 78),(.t 79)])]
def r104_11:List AI:=[oM 81 7,
 oM 4 81]
def r104_12:List AI:=[oF 83 0 3,
 oL 84 83,
 oB 85 .eql (.t 84) (.c (.i .u8 4)),
 oM 86 85,
 oG 87 (.fad 4 (.t 3)) 86 true,
 oG 88 (.load 1 false (.t 87)) 86 true,
 oO 89 (.pick (.t 86) (.t 88) (.c (.b false))),
 oM 82 89]
def r104_13:List AI:=[oM 90 0,
 oO 91 (.call true 126 [(.t 90),(.c (.s [38,46,46,46]))])]
def r104_14:List AI:=[oF 93 0 3,
 oL 94 93,
 oB 95 .eql (.t 94) (.c (.i .u8 4)),
 oM 96 95,
 oG 97 (.fad 3 (.t 3)) 96 true,
 oG 98 (.load 1 false (.t 97)) 96 true,
 oG 99 (.len false (.t 98)) 96 true,
 oG 100 (.bin .eql (.t 99) (.c (.i .i64 0))) 96 true,
 oO 101 (.pick (.t 96) (.t 100) (.c (.b false))),
 oM 92 101]
def r104_15:List AI:=[oM 102 0,
 oO 103 (.call true 126 [(.t 102),(.c (.s [110,105,108]))])]
def r104_16:List AI:=[oF 105 0 3,
 oL 106 105,
 oB 107 .eql (.t 106) (.c (.i .u8 4)),
 oM 104 107]
def r104_17:List AI:=[oM 108 0,
 oO 109 (.call true 126 [(.t 108),(.c (.s [38]))])]
def r104_18:List AI:=[oM 110 0,
 oF 111 3 3,
 oL 112 111,
 oO 113 (.iaL 5 (.t 112) (.c (.i .i64 0))),
 oO 114 (.load 5 true (.t 113)),
 oO 115 (.call true 104 [(.t 110),(.t 114)]),
 oM 4 115]
def r104_19:List AI:=[oF 117 4 3,
 oL 118 117,
 oM 116 118]
def r104_20:List AI:=[oM 119 0,
 oO 120 (.call true 126 [(.t 119),(.c (.s [60,46,46,46,62]))])]
def r104_21:List AI:=[oM 15 0,
 oM 16 5,
 oO 17 (.slS (.t 16) none (some (.c (.i .i64 1)))),
 oO 18 (.call true 126 [(.t 15),(.t 17)])]
def r104_22:List AI:=[oF 19 3 3,
 oL 20 19,
 oO 21 (.len false (.t 20)),
 oC 22 (.i .i64 0)]
def r104_23:List AI:=[oB 23 .lss (.t 22) (.t 21)]
def r104_24:List AI:=[oM 24 22,
 oO 25 (.iaL 5 (.t 20) (.t 22)),
 oO 26 (.load 5 true (.t 25)),
 oO 9 (.alloc [.i .u8 0,.i .i64 0,.s [],.sl .full [],.b false]),
 oM 8 24,
 oS 5 9 26]
def r104_25:List AI:=[oM 27 8,
 oB 28 .gtr (.t 27) (.c (.i .i64 0))]
def r104_26:List AI:=[oM 29 0,
 oO 30 (.call true 126 [(.t 29),(.c (.s [44,32]))])]
def r104_27:List AI:=[oM 31 0,
 oO 32 (.load 5 true (.t 9)),
 oO 33 (.call true 104 [(.t 31),(.t 32)]),
 oM 10 33]
def r104_28:List AI:=[oM 34 10,
 oB 35 .neq (.t 34) (.c (.i .i64 0))]
def r104_29:List AI:=[oM 36 10,
 oM 4 36]
def r104_30:List AI:=[oB 37 .add (.t 22) (.c (.i .i64 1)),
 oM 22 37]
def r104_31:List AI:=[oM 38 0,
 oM 39 5,
 oO 40 (.slS (.t 39) (some (.c (.i .i64 1))) none),
 oO 41 (.call true 126 [(.t 38),(.t 40)])]
def r104_32:List AI:=[oC 4 (.i .i64 0)]
abbrev c104_0:AC:=(.seq (.reg 8 r104_27) (.seq (.reg 9 r104_28) (.cond (.t 35) (.seq (.reg 10 r104_29) .ret) .skip)))
abbrev l104_0:AC:=(.seq (.reg 4 r104_23) (.seq (.cond (.t 23) .skip (.exit 1)) (.seq (.block 2 (.seq (.reg 5 r104_24) (.seq (.seq (.reg 6 r104_25) (.cond (.t 28) (.reg 7 r104_26) .skip)) c104_0))) (.reg 11 r104_30))))
abbrev c104_2:AC:=(.reg 12 r104_31)
abbrev c104_3:AC:=(.cond (.t 82) (.reg 24 r104_13) (.seq (.reg 25 r104_14) (.cond (.t 92) (.reg 26 r104_15) (.seq (.reg 27 r104_16) (.cond (.t 104) (.seq (.reg 28 r104_17) (.seq (.reg 29 r104_18) .ret)) (.seq (.reg 30 r104_19) (.cond (.t 116) (.reg 31 r104_20) (.seq (.reg 2 r104_21) (.seq (.seq (.reg 3 r104_22) (.block 1 (.loop l104_0))) c104_2)))))))))
abbrev c104_4:AC:=(.cond (.t 68) (.seq (.reg 20 r104_9) (.seq (.reg 21 r104_10) (.seq (.reg 22 r104_11) .ret))) (.seq (.reg 23 r104_12) c104_3))
abbrev c104_5:AC:=(.cond (.t 59) (.reg 18 r104_7) (.seq (.reg 19 r104_8) c104_4))
abbrev c104_6:AC:=(.cond (.t 53) (.reg 16 r104_5) (.seq (.reg 17 r104_6) c104_5))
abbrev c104_7:AC:=(.cond (.t 42) (.reg 14 r104_3) (.seq (.reg 15 r104_4) c104_6))
abbrev c104_8:AC:=(.seq (.reg 32 r104_32) .ret)
abbrev c104_9:AC:=(.seq (.block 0 (.seq (.reg 13 r104_2) c104_7)) c104_8)
abbrev c104_10:AC:=(.seq (.reg 1 r104_1) c104_9)
abbrev b104:AC:=(.seq (.reg 0 r104_0) c104_10)
def pf104:AF:={ nt:=121,res:=[.tmp 4],body:=b104 }
abbrev H104 (d:Nat)(st0:St)(kp:Key)(vp:Nat)(Q:AE→Sl→St→Prop)(K:Int→List UInt8→Prop):Prop:=∀(σ:Sl)(st:St)(res0:Int)(b_:List UInt8),σ 4 = .i .i64 res0→Bl b_ st.bx st.ow kp vp→Fr d kp st0.bx st0.ow st.bx st.ow→K res0 b_→Q .ret σ st
def T104_4 (prog:Prog)(K:Int→List UInt8→Prop)(mP:List UInt8):Prop:=
  K 0 mP
abbrev I104_0 (prog:Prog)(d:Nat)(Q:AE→Sl→St→Prop)(st0:St)(kp:Key)(vp:Nat)(ends5:List UInt8)(t20:List Val)(t21:Int)(t22:Int)(mP:List UInt8):Prop:=
  ∀(σ:Sl)(st:St)(o_t20:Own),σ 0 = .p kp vp 0→σ 5 = .s ends5→σ 20 = .sl o_t20 (List.map Val.row t20)→σ 21 = .i .i64 t21→σ 22 = .i .i64 t22→Bl mP st.bx st.ow kp vp→Fr d kp st0.bx st0.ow st.bx st.ow→W prog d (.loop l104_0) σ st (blockW 1 (thenW prog d c104_2 (blockW 0 (thenW prog d c104_8 Q))))
def T104_10 (prog:Prog)(K:Int→List UInt8→Prop)(P0:Int→List UInt8→Prop)(ends5:List UInt8)(t20:List Val)(t21:Int)(t22:Int)(m20483:Val)(mP:List UInt8):Prop:=
  ∃r'1:Int,∃b'7:List UInt8,PuX prog 104 (Bl mP) [m20483.av] (fun r=>r = .i .i64 r'1) ((Bl b'7))∧(r'1≠0→K r'1 b'7)∧(¬(r'1≠0)→P0 (IntKind.i64.wrap (t22 + 1)) b'7)
def T104_11 (prog:Prog)(K:Int→List UInt8→Prop)(ends5:List UInt8)(mP:List UInt8):Prop:=
  1≤ends5.length∧∃r'1:Int,∃b'7:List UInt8,PuX prog 126 (Bl mP) [.s (ends5.drop 1)] (fun r=>r = .tup [.i .i64 r'1,.ni]) ((Bl b'7))∧T104_4 prog K b'7
def T104_9 (prog:Prog)(K:Int→List UInt8→Prop)(P0:Int→List UInt8→Prop)(ends5:List UInt8)(t20:List Val)(t21:Int)(t22:Int)(mP:List UInt8):Prop:=
  (t22 < t21→0≤t22∧∃c'2:Val,t20[(t22).toNat]? = some c'2∧(t22 > 0→∃r'5:Int,∃b'11:List UInt8,PuX prog 126 (Bl mP) [.s ([44,32]:List UInt8)] (fun r=>r = .tup [.i .i64 r'5,.ni]) ((Bl b'11))∧T104_10 prog K P0 ends5 t20 t21 t22 c'2 b'11)∧(¬(t22 > 0)→T104_10 prog K P0 ends5 t20 t21 t22 c'2 mP))∧(¬(t22 < t21)→T104_11 prog K ends5 mP)
def T104_8 (prog:Prog)(K:Int→List UInt8→Prop)(ends5:List UInt8)(t82:Bool)(m0:Val)(mP:List UInt8):Prop:=
  (t82 = true→∃r'2:Int,∃b'8:List UInt8,PuX prog 126 (Bl mP) [.s ([38,46,46,46]:List UInt8)] (fun r=>r = .tup [.i .i64 r'2,.ni]) ((Bl b'8))∧T104_4 prog K b'8)∧(t82 = false→(m0.kind = 4→((m0.list.length:Int) = 0→∃r'12:Int,∃b'18:List UInt8,PuX prog 126 (Bl mP) [.s ([110,105,108]:List UInt8)] (fun r=>r = .tup [.i .i64 r'12,.ni]) ((Bl b'18))∧T104_4 prog K b'18)∧(¬((m0.list.length:Int) = 0)→(m0.kind = 4→∃r'21:Int,∃b'27:List UInt8,PuX prog 126 (Bl mP) [.s ([38]:List UInt8)] (fun r=>r = .tup [.i .i64 r'21,.ni]) ((Bl b'27))∧∃c'28:Val,m0.list[0]? = some c'28∧∃r'30:Int,∃b'36:List UInt8,PuX prog 104 (Bl b'27) [c'28.av] (fun r=>r = .i .i64 r'30) ((Bl b'36))∧K r'30 b'36)∧(¬(m0.kind = 4)→(m0.cut = true→∃r'40:Int,∃b'46:List UInt8,PuX prog 126 (Bl mP) [.s ([60,46,46,46,62]:List UInt8)] (fun r=>r = .tup [.i .i64 r'40,.ni]) ((Bl b'46))∧T104_4 prog K b'46)∧(m0.cut = false→1≤ends5.length∧∃r'48:Int,∃b'54:List UInt8,PuX prog 126 (Bl mP) [.s (ends5.take 1)] (fun r=>r = .tup [.i .i64 r'48,.ni]) ((Bl b'54))∧∀P0:Int→List UInt8→Prop,(∀(t22:Int)(mP:List UInt8),T104_9 prog K P0 ends5 m0.list (m0.list.length:Int) t22 mP→P0 t22 mP)→P0 0 b'54))))∧(¬(m0.kind = 4)→(m0.kind = 4→∃r'57:Int,∃b'63:List UInt8,PuX prog 126 (Bl mP) [.s ([38]:List UInt8)] (fun r=>r = .tup [.i .i64 r'57,.ni]) ((Bl b'63))∧∃c'64:Val,m0.list[0]? = some c'64∧∃r'66:Int,∃b'72:List UInt8,PuX prog 104 (Bl b'63) [c'64.av] (fun r=>r = .i .i64 r'66) ((Bl b'72))∧K r'66 b'72)∧(¬(m0.kind = 4)→(m0.cut = true→∃r'76:Int,∃b'82:List UInt8,PuX prog 126 (Bl mP) [.s ([60,46,46,46,62]:List UInt8)] (fun r=>r = .tup [.i .i64 r'76,.ni]) ((Bl b'82))∧T104_4 prog K b'82)∧(m0.cut = false→1≤ends5.length∧∃r'84:Int,∃b'90:List UInt8,PuX prog 126 (Bl mP) [.s (ends5.take 1)] (fun r=>r = .tup [.i .i64 r'84,.ni]) ((Bl b'90))∧∀P0:Int→List UInt8→Prop,(∀(t22:Int)(mP:List UInt8),T104_9 prog K P0 ends5 m0.list (m0.list.length:Int) t22 mP→P0 t22 mP)→P0 0 b'90))))
def T104_7 (prog:Prog)(K:Int→List UInt8→Prop)(ends5:List UInt8)(t68:Bool)(m0:Val)(mP:List UInt8):Prop:=
  (t68 = true→∃r'2:List UInt8,∃r'3:Int,Pus prog 11 [.s m0.text] (.tup [.s r'2,.i .i64 r'3])∧∃r'5:Int,∃b'11:List UInt8,PuX prog 126 (Bl mP) [.s r'2] (fun r=>r = .tup [.i .i64 r'5,.ni]) ((Bl b'11))∧K r'3 b'11)∧(t68 = false→(m0.kind = 4→T104_8 prog K ends5 m0.cut m0 mP)∧(¬(m0.kind = 4)→T104_8 prog K ends5 false m0 mP))
def T104_6 (prog:Prog)(K:Int→List UInt8→Prop)(ends5:List UInt8)(t59:Bool)(m0:Val)(mP:List UInt8):Prop:=
  (t59 = true→∃r'2:List UInt8,Pus prog 15 [.i .i64 m0.int] (.s r'2)∧∃r'4:Int,∃b'10:List UInt8,PuX prog 126 (Bl mP) [.s r'2] (fun r=>r = .tup [.i .i64 r'4,.ni]) ((Bl b'10))∧T104_4 prog K b'10)∧(t59 = false→T104_7 prog K ends5 (decide (m0.kind = 3)) m0 mP)
def T104_5 (prog:Prog)(K:Int→List UInt8→Prop)(ends5:List UInt8)(t53:Bool)(m0:Val)(mP:List UInt8):Prop:=
  (t53 = true→∃r'2:Int,∃b'8:List UInt8,PuX prog 126 (Bl mP) [.s ([102,97,108,115,101]:List UInt8)] (fun r=>r = .tup [.i .i64 r'2,.ni]) ((Bl b'8))∧T104_4 prog K b'8)∧(t53 = false→T104_6 prog K ends5 (decide (m0.kind = 2)) m0 mP)
def T104_3 (prog:Prog)(K:Int→List UInt8→Prop)(ends5:List UInt8)(t42:Bool)(m0:Val)(mP:List UInt8):Prop:=
  (t42 = true→∃r'2:Int,∃b'8:List UInt8,PuX prog 126 (Bl mP) [.s ([116,114,117,101]:List UInt8)] (fun r=>r = .tup [.i .i64 r'2,.ni]) ((Bl b'8))∧T104_4 prog K b'8)∧(t42 = false→T104_5 prog K ends5 (decide (m0.kind = 1)) m0 mP)
def T104_2 (prog:Prog)(K:Int→List UInt8→Prop)(ends5:List UInt8)(m0:Val)(mP:List UInt8):Prop:=
  (m0.kind = 1→T104_3 prog K ends5 (decide (m0.int = 1)) m0 mP)∧(¬(m0.kind = 1)→T104_3 prog K ends5 false m0 mP)
def T104_1 (prog:Prog)(K:Int→List UInt8→Prop)(m0:Val)(mP:List UInt8):Prop:=
  0≤m0.kind∧∃c'1:List UInt8,([[],[],[],[],[],([123,125]:List UInt8),([91,93]:List UInt8),([60,62]:List UInt8)]:List (List UInt8))[(m0.kind).toNat]? = some c'1∧T104_2 prog K c'1 m0 mP
def T104_0 (prog:Prog)(K:Int→List UInt8→Prop)(v1:Val)(mP:List UInt8):Prop:=
  T104_1 prog K v1 mP
section
variable {prog:Prog}{d:Nat}{Q:AE→Sl→St→Prop}{K:Int→List UInt8→Prop}{st0:St}{kp:Key}{vp:Nat}(hQ:H104 d st0 kp vp Q K)(hkp:kp.1 < d){σ:Sl}{st:St}
include hQ hkp
theorem w104_4 {mP:List UInt8}(BP:Bl mP st.bx st.ow kp vp)(FR:Fr d kp st0.bx st0.ow st.bx st.ow)(h:T104_4 prog K mP):W prog d c104_8 σ st Q:=
 q_ rfl (m_ (e_ (rt_ (hQ _ _ _ _ rfl BP FR h))))
theorem w104_10 {ends5:List UInt8}{t20:List Val}{t21 t22:Int}{m20483:Val}{mP:List UInt8}{P0:Int→List UInt8→Prop} (kP0 :∀(t22:Int)(mP:List UInt8),P0 t22 mP→I104_0 prog d Q st0 kp vp ends5 t20 t21 t22 mP){o_t20:Own}{v20483:Nat}(H0:σ 0 = .p kp vp 0)(H5:σ 5 = .s ends5)(H9:σ 9 = .p (d,20483) v20483 0)(H20:σ 20 = .sl o_t20 (List.map Val.row t20))(H21:σ 21 = .i .i64 t21)(H22:σ 22 = .i .i64 t22)(B20483:lk st.bx (d,20483) = some (v20483,[.i .u8 m20483.kind,.i .i64 m20483.int,.s m20483.text,.sl .ext (List.map Val.row m20483.list),.b m20483.cut]))(BP:Bl mP st.bx st.ow kp vp)(FR:Fr d kp st0.bx st0.ow st.bx st.ow)(h:T104_10 prog K P0 ends5 t20 t21 t22 m20483 mP):W prog d c104_0 σ st (blockW 2 (thenW prog d (.reg 11 r104_30) (thenW prog d (.loop l104_0) (blockW 1 (thenW prog d c104_2 (blockW 0 (thenW prog d c104_8 Q))))))):=
 q_ rfl (m_ (l_ H9 B20483 rfl rfl (h.elim fun r'1 e'9=>e'9.elim fun b'7 e'3=>cX_ (sec H0 (sec rfl sen)) e'3.1 (Nat.lt_succ_of_lt hkp) BP (fun st'4 hb'5 hf'6=>m_ (e_ (q_ rfl (m_ (b_ rfl rfl neq_ (e_ (cs_ rfl (fun g'8=>q_ rfl (m_ (m_ (e_ (rt_ (hQ _ _ _ _ rfl hb'5 (Fr.pass FR hf'6) (e'3.2.1 g'8))))))) (fun g'8=>sk_ (W.reg0 rfl fun _ _=>b_ H22 rfl add_ (m_ (e_ (kP0 _ _ (e'3.2.2 g'8) _ _ _ H0 H5 H20 H21 rfl hb'5 (Fr.pass FR hf'6))))))))))))))))
theorem w104_11 {ends5 mP:List UInt8}(H0:σ 0 = .p kp vp 0)(H5:σ 5 = .s ends5)(BP:Bl mP st.bx st.ow kp vp)(FR:Fr d kp st0.bx st0.ow st.bx st.ow)(h:T104_11 prog K ends5 mP):W prog d c104_2 σ st (blockW 0 (thenW prog d c104_8 Q)):=
 W.reg0 rfl fun _ _=>m_ (m_ (s_slS_lo H5 rfl (by decide) h.1 (h.2.elim fun r'1 e'8=>e'8.elim fun b'7 e'3=>cX_ (sec H0 (sec rfl sen)) e'3.1 (Nat.lt_succ_of_lt hkp) BP (fun st'4 hb'5 hf'6=>e_ (w104_4 hQ hkp hb'5 (Fr.pass FR hf'6) e'3.2)))))
theorem w104_9 {ends5:List UInt8}{t20:List Val}{t21 t22:Int}{mP:List UInt8}{P0:Int→List UInt8→Prop} (kP0 :∀(t22:Int)(mP:List UInt8),P0 t22 mP→I104_0 prog d Q st0 kp vp ends5 t20 t21 t22 mP){o_t20:Own}(H0:σ 0 = .p kp vp 0)(H5:σ 5 = .s ends5)(H20:σ 20 = .sl o_t20 (List.map Val.row t20))(H21:σ 21 = .i .i64 t21)(H22:σ 22 = .i .i64 t22)(BP:Bl mP st.bx st.ow kp vp)(FR:Fr d kp st0.bx st0.ow st.bx st.ow)(h:T104_9 prog K P0 ends5 t20 t21 t22 mP):W prog d l104_0 σ st (thenW prog d (.loop l104_0) (blockW 1 (thenW prog d c104_2 (blockW 0 (thenW prog d c104_8 Q))))):=
 q_ rfl (b_ H22 H21 lss_ (e_ (sq_ (cs_ rfl (fun g'1=>sk_ (sq_ (bk_ (sq_ (W.reg (m_ ((h.1 g'1).2.elim fun c'2 e'3=>ia_ H20 H22 (h.1 g'1).1 e'3.1 (Val.row_eq c'2) rfl (lf_ rfl rfl rfl (s_alloc (m_ (so_ rfl (show lk _ (d,20483) = some (_,([.i .u8 0,.i .i64 0,.s [],.sl .full (List.map Val.row ([]:List Val)),.b false]:List AV)) from lk_here) rfl rfl rfl (e_ (sq_ (q_ rfl (m_ (b_ H22 rfl gtr_ (e_ (cs_ rfl (fun g'4=>W.reg0 rfl fun _ _=>m_ ((e'3.2.1 g'4).elim fun r'5 e'12=>e'12.elim fun b'11 e'7=>cX_ (sec H0 (sec rfl sen)) e'7.1 (Nat.lt_succ_of_lt hkp) (Bl.other (key_LP hkp) (Bl.other (key_LP hkp) BP)) (fun st'8 hb'9 hf'10=>e_ (w104_10 hQ hkp kP0 H0 H5 rfl H20 H21 H22 ((hf'10.1 (d,20483) (Nat.lt_succ_self d) (key_LP hkp)).trans lk_here) hb'9 (Fr.pass (Fr.box (Fr.box FR)) hf'10) e'7.2)))) (fun g'4=>sk_ (w104_10 hQ hkp kP0 H0 H5 rfl H20 H21 H22 lk_here (Bl.other (key_LP hkp) (Bl.other (key_LP hkp) BP)) (Fr.box (Fr.box FR)) (e'3.2.2 g'4))))))))))))))))))))) (fun g'1=>ex_ (w104_11 hQ hkp H0 H5 BP FR (h.2 g'1)))))))
theorem w104_8 {ends5:List UInt8}{t82:Bool}{m0:Val}{mP:List UInt8}{v0:Nat}(H0:σ 0 = .p kp vp 0)(H3:σ 3 = .p (d,0) v0 0)(H5:σ 5 = .s ends5)(H82:σ 82 = .b t82)(B0:lk st.bx (d,0) = some (v0,[.i .u8 m0.kind,.i .i64 m0.int,.s m0.text,.sl .ext (List.map Val.row m0.list),.b m0.cut]))(BP:Bl mP st.bx st.ow kp vp)(FR:Fr d kp st0.bx st0.ow st.bx st.ow)(h:T104_8 prog K ends5 t82 m0 mP):W prog d c104_3 σ st (blockW 0 (thenW prog d c104_8 Q)):=
 cb_ H82 (fun g'1=>W.reg0 rfl fun _ _=>m_ ((h.1 g'1).elim fun r'2 e'9=>e'9.elim fun b'8 e'4=>cX_ (sec H0 (sec rfl sen)) e'4.1 (Nat.lt_succ_of_lt hkp) BP (fun st'5 hb'6 hf'7=>e_ (w104_4 hQ hkp hb'6 (Fr.pass FR hf'7) e'4.2)))) (fun g'1=>q_ rfl (f_ H3 (l_ rfl B0 rfl rfl (b_ rfl rfl eql_ (s_mvB rfl (em_ (g:=96) rfl (fun g'10=>gy_ rfl (f_ H3 (gy_ rfl (l_ rfl B0 rfl rfl (gy_ rfl (ll_ rfl (gy_ rfl (b_ rfl rfl eql_ (pt_ rfl rfl (s_mvB rfl (e_ (cs_ rfl (fun g'11=>W.reg0 rfl fun _ _=>m_ ((((h.2 g'1).1 g'10).1 g'11).elim fun r'12 e'19=>e'19.elim fun b'18 e'14=>cX_ (sec H0 (sec rfl sen)) e'14.1 (Nat.lt_succ_of_lt hkp) BP (fun st'15 hb'16 hf'17=>e_ (w104_4 hQ hkp hb'16 (Fr.pass FR hf'17) e'14.2)))) (fun g'11=>q_ rfl (f_ H3 (l_ rfl B0 rfl rfl (b_ rfl rfl eql_ (m_ (e_ (cs_ rfl (fun g'20=>q_ rfl (m_ (((((h.2 g'1).1 g'10).2 g'11).1 g'20).elim fun r'21 e'38=>e'38.elim fun b'27 e'23=>cX_ (sec H0 (sec rfl sen)) e'23.1 (Nat.lt_succ_of_lt hkp) BP (fun st'24 hb'25 hf'26=>e_ (q_ rfl (m_ (f_ H3 (l_ rfl ((hf'26.1 (d,0) (Nat.lt_succ_self d) (key_LP hkp)).trans B0) rfl rfl (e'23.2.elim fun c'28 e'29=>ia_ rfl rfl (by decide) e'29.1 (Val.row_eq c'28) rfl (lf_ rfl rfl rfl (e'29.2.elim fun r'30 e'37=>e'37.elim fun b'36 e'32=>cX_ (sec H0 (sec rfl sen)) e'32.1 (Nat.lt_succ_of_lt hkp) hb'25 (fun st'33 hb'34 hf'35=>m_ (e_ (rt_ (hQ _ _ _ _ rfl hb'34 (Fr.pass (Fr.pass FR hf'26) hf'35) e'32.2))))))))))))))) (fun g'20=>q_ rfl (f_ H3 (l_ rfl B0 rfl rfl (m_ (e_ (cb_ rfl (fun g'39=>W.reg0 rfl fun _ _=>m_ ((((((h.2 g'1).1 g'10).2 g'11).2 g'20).1 g'39).elim fun r'40 e'47=>e'47.elim fun b'46 e'42=>cX_ (sec H0 (sec rfl sen)) e'42.1 (Nat.lt_succ_of_lt hkp) BP (fun st'43 hb'44 hf'45=>e_ (w104_4 hQ hkp hb'44 (Fr.pass FR hf'45) e'42.2)))) (fun g'39=>q_ rfl (m_ (m_ (s_slS_hi H5 rfl (by decide) (((((h.2 g'1).1 g'10).2 g'11).2 g'20).2 g'39).1 ((((((h.2 g'1).1 g'10).2 g'11).2 g'20).2 g'39).2.elim fun r'48 e'55=>e'55.elim fun b'54 e'50=>cX_ (sec H0 (sec rfl sen)) e'50.1 (Nat.lt_succ_of_lt hkp) BP (fun st'51 hb'52 hf'53=>e_ (sq_ (q_ rfl (f_ H3 (l_ rfl ((hf'53.1 (d,0) (Nat.lt_succ_self d) (key_LP hkp)).trans B0) rfl rfl (ll_ rfl (m_ (e_ (bk_ (e'50.2 (I104_0 prog d Q st0 kp vp ends5 m0.list (m0.list.length:Int)) (fun _ _ hb _ _ _ H0 H5 H20 H21 H22 BP FR=>W.loop (w104_9 hQ hkp (fun _ _ x=>x) H0 H5 H20 H21 H22 BP FR hb)) _ _ _ H0 H5 rfl rfl rfl hb'52 (Fr.pass FR hf'53))))))))))))))))))))))))))))))))))))))))) (fun g'10=>gn_ (b:=false) rfl rfl (gn_ (b:=false) rfl rfl (gn_ (b:=false) rfl rfl (gn_ (b:=false) rfl rfl (pf_ rfl rfl (s_mvB rfl (e_ (cf_ rfl (q_ rfl (f_ H3 (l_ rfl B0 rfl rfl (b_ rfl rfl eql_ (m_ (e_ (cs_ rfl (fun g'56=>q_ rfl (m_ ((((h.2 g'1).2 g'10).1 g'56).elim fun r'57 e'74=>e'74.elim fun b'63 e'59=>cX_ (sec H0 (sec rfl sen)) e'59.1 (Nat.lt_succ_of_lt hkp) BP (fun st'60 hb'61 hf'62=>e_ (q_ rfl (m_ (f_ H3 (l_ rfl ((hf'62.1 (d,0) (Nat.lt_succ_self d) (key_LP hkp)).trans B0) rfl rfl (e'59.2.elim fun c'64 e'65=>ia_ rfl rfl (by decide) e'65.1 (Val.row_eq c'64) rfl (lf_ rfl rfl rfl (e'65.2.elim fun r'66 e'73=>e'73.elim fun b'72 e'68=>cX_ (sec H0 (sec rfl sen)) e'68.1 (Nat.lt_succ_of_lt hkp) hb'61 (fun st'69 hb'70 hf'71=>m_ (e_ (rt_ (hQ _ _ _ _ rfl hb'70 (Fr.pass (Fr.pass FR hf'62) hf'71) e'68.2))))))))))))))) (fun g'56=>q_ rfl (f_ H3 (l_ rfl B0 rfl rfl (m_ (e_ (cb_ rfl (fun g'75=>W.reg0 rfl fun _ _=>m_ (((((h.2 g'1).2 g'10).2 g'56).1 g'75).elim fun r'76 e'83=>e'83.elim fun b'82 e'78=>cX_ (sec H0 (sec rfl sen)) e'78.1 (Nat.lt_succ_of_lt hkp) BP (fun st'79 hb'80 hf'81=>e_ (w104_4 hQ hkp hb'80 (Fr.pass FR hf'81) e'78.2)))) (fun g'75=>q_ rfl (m_ (m_ (s_slS_hi H5 rfl (by decide) ((((h.2 g'1).2 g'10).2 g'56).2 g'75).1 (((((h.2 g'1).2 g'10).2 g'56).2 g'75).2.elim fun r'84 e'91=>e'91.elim fun b'90 e'86=>cX_ (sec H0 (sec rfl sen)) e'86.1 (Nat.lt_succ_of_lt hkp) BP (fun st'87 hb'88 hf'89=>e_ (sq_ (q_ rfl (f_ H3 (l_ rfl ((hf'89.1 (d,0) (Nat.lt_succ_self d) (key_LP hkp)).trans B0) rfl rfl (ll_ rfl (m_ (e_ (bk_ (e'86.2 (I104_0 prog d Q st0 kp vp ends5 m0.list (m0.list.length:Int)) (fun _ _ hb _ _ _ H0 H5 H20 H21 H22 BP FR=>W.loop (w104_9 hQ hkp (fun _ _ x=>x) H0 H5 H20 H21 H22 BP FR hb)) _ _ _ H0 H5 rfl rfl rfl hb'88 (Fr.pass FR hf'89)))))))))))))))))))))))))))))))))))))))))))
theorem w104_7 {ends5:List UInt8}{t68:Bool}{m0:Val}{mP:List UInt8}{v0:Nat}(H0:σ 0 = .p kp vp 0)(H3:σ 3 = .p (d,0) v0 0)(H5:σ 5 = .s ends5)(H68:σ 68 = .b t68)(B0:lk st.bx (d,0) = some (v0,[.i .u8 m0.kind,.i .i64 m0.int,.s m0.text,.sl .ext (List.map Val.row m0.list),.b m0.cut]))(BP:Bl mP st.bx st.ow kp vp)(FR:Fr d kp st0.bx st0.ow st.bx st.ow)(h:T104_7 prog K ends5 t68 m0 mP):W prog d c104_4 σ st (blockW 0 (thenW prog d c104_8 Q)):=
 cb_ H68 (fun g'1=>q_ rfl (f_ H3 (l_ rfl B0 rfl rfl ((h.1 g'1).elim fun r'2 e'13=>e'13.elim fun r'3 e'4=>ca_ (sc rfl rfl sn) e'4.1 (m_ (x_ rfl rfl (x_ rfl rfl (m_ (m_ (e_ (q_ rfl (m_ (m_ (e'4.2.elim fun r'5 e'12=>e'12.elim fun b'11 e'7=>cX_ (sec H0 (sec rfl sen)) e'7.1 (Nat.lt_succ_of_lt hkp) BP (fun st'8 hb'9 hf'10=>e_ (q_ rfl (m_ (m_ (e_ (rt_ (hQ _ _ _ _ rfl hb'9 (Fr.pass FR hf'10) e'7.2))))))))))))))))))))) (fun g'1=>q_ rfl (f_ H3 (l_ rfl B0 rfl rfl (b_ rfl rfl eql_ (s_mvB rfl (em_ (g:=86) rfl (fun g'14=>gy_ rfl (f_ H3 (gy_ rfl (l_ rfl B0 rfl rfl (pt_ rfl rfl (s_mvB rfl (e_ (w104_8 hQ hkp H0 H3 H5 rfl B0 BP FR ((h.2 g'1).1 g'14))))))))) (fun g'14=>gn_ (b:=false) rfl rfl (gn_ (b:=false) rfl rfl (pf_ rfl rfl (s_mvB rfl (e_ (w104_8 hQ hkp H0 H3 H5 rfl B0 BP FR ((h.2 g'1).2 g'14)))))))))))))
theorem w104_6 {ends5:List UInt8}{t59:Bool}{m0:Val}{mP:List UInt8}{v0:Nat}(H0:σ 0 = .p kp vp 0)(H3:σ 3 = .p (d,0) v0 0)(H5:σ 5 = .s ends5)(H59:σ 59 = .b t59)(B0:lk st.bx (d,0) = some (v0,[.i .u8 m0.kind,.i .i64 m0.int,.s m0.text,.sl .ext (List.map Val.row m0.list),.b m0.cut]))(BP:Bl mP st.bx st.ow kp vp)(FR:Fr d kp st0.bx st0.ow st.bx st.ow)(h:T104_6 prog K ends5 t59 m0 mP):W prog d c104_5 σ st (blockW 0 (thenW prog d c104_8 Q)):=
 cb_ H59 (fun g'1=>W.reg0 rfl fun _ _=>m_ (f_ H3 (l_ rfl B0 rfl rfl ((h.1 g'1).elim fun r'2 e'3=>ca_ (sc rfl rfl sn) e'3.1 (e'3.2.elim fun r'4 e'11=>e'11.elim fun b'10 e'6=>cX_ (sec H0 (sec rfl sen)) e'6.1 (Nat.lt_succ_of_lt hkp) BP (fun st'7 hb'8 hf'9=>e_ (w104_4 hQ hkp hb'8 (Fr.pass FR hf'9) e'6.2))))))) (fun g'1=>q_ rfl (f_ H3 (l_ rfl B0 rfl rfl (b_ rfl rfl eql_ (m_ (e_ (w104_7 hQ hkp H0 H3 H5 rfl B0 BP FR (h.2 g'1))))))))
theorem w104_5 {ends5:List UInt8}{t53:Bool}{m0:Val}{mP:List UInt8}{v0:Nat}(H0:σ 0 = .p kp vp 0)(H3:σ 3 = .p (d,0) v0 0)(H5:σ 5 = .s ends5)(H53:σ 53 = .b t53)(B0:lk st.bx (d,0) = some (v0,[.i .u8 m0.kind,.i .i64 m0.int,.s m0.text,.sl .ext (List.map Val.row m0.list),.b m0.cut]))(BP:Bl mP st.bx st.ow kp vp)(FR:Fr d kp st0.bx st0.ow st.bx st.ow)(h:T104_5 prog K ends5 t53 m0 mP):W prog d c104_6 σ st (blockW 0 (thenW prog d c104_8 Q)):=
 cb_ H53 (fun g'1=>W.reg0 rfl fun _ _=>m_ ((h.1 g'1).elim fun r'2 e'9=>e'9.elim fun b'8 e'4=>cX_ (sec H0 (sec rfl sen)) e'4.1 (Nat.lt_succ_of_lt hkp) BP (fun st'5 hb'6 hf'7=>e_ (w104_4 hQ hkp hb'6 (Fr.pass FR hf'7) e'4.2)))) (fun g'1=>q_ rfl (f_ H3 (l_ rfl B0 rfl rfl (b_ rfl rfl eql_ (m_ (e_ (w104_6 hQ hkp H0 H3 H5 rfl B0 BP FR (h.2 g'1))))))))
theorem w104_3 {ends5:List UInt8}{t42:Bool}{m0:Val}{mP:List UInt8}{v0:Nat}(H0:σ 0 = .p kp vp 0)(H3:σ 3 = .p (d,0) v0 0)(H5:σ 5 = .s ends5)(H42:σ 42 = .b t42)(B0:lk st.bx (d,0) = some (v0,[.i .u8 m0.kind,.i .i64 m0.int,.s m0.text,.sl .ext (List.map Val.row m0.list),.b m0.cut]))(BP:Bl mP st.bx st.ow kp vp)(FR:Fr d kp st0.bx st0.ow st.bx st.ow)(h:T104_3 prog K ends5 t42 m0 mP):W prog d c104_7 σ st (blockW 0 (thenW prog d c104_8 Q)):=
 cb_ H42 (fun g'1=>W.reg0 rfl fun _ _=>m_ ((h.1 g'1).elim fun r'2 e'9=>e'9.elim fun b'8 e'4=>cX_ (sec H0 (sec rfl sen)) e'4.1 (Nat.lt_succ_of_lt hkp) BP (fun st'5 hb'6 hf'7=>e_ (w104_4 hQ hkp hb'6 (Fr.pass FR hf'7) e'4.2)))) (fun g'1=>q_ rfl (f_ H3 (l_ rfl B0 rfl rfl (b_ rfl rfl eql_ (m_ (e_ (w104_5 hQ hkp H0 H3 H5 rfl B0 BP FR (h.2 g'1))))))))
theorem w104_2 {ends5:List UInt8}{m0:Val}{mP:List UInt8}{v0:Nat}(H0:σ 0 = .p kp vp 0)(H3:σ 3 = .p (d,0) v0 0)(H5:σ 5 = .s ends5)(B0:lk st.bx (d,0) = some (v0,[.i .u8 m0.kind,.i .i64 m0.int,.s m0.text,.sl .ext (List.map Val.row m0.list),.b m0.cut]))(BP:Bl mP st.bx st.ow kp vp)(FR:Fr d kp st0.bx st0.ow st.bx st.ow)(h:T104_2 prog K ends5 m0 mP):W prog d c104_9 σ st Q:=
 sq_ (bk_ (q_ rfl (f_ H3 (l_ rfl B0 rfl rfl (b_ rfl rfl eql_ (s_mvB rfl (em_ (g:=46) rfl (fun g'1=>gy_ rfl (f_ H3 (gy_ rfl (l_ rfl B0 rfl rfl (gy_ rfl (b_ rfl rfl eql_ (pt_ rfl rfl (s_mvB rfl (e_ (w104_3 hQ hkp H0 H3 H5 rfl B0 BP FR (h.1 g'1))))))))))) (fun g'1=>gn_ (b:=false) rfl rfl (gn_ (b:=false) rfl rfl (gn_ (b:=false) rfl rfl (pf_ rfl rfl (s_mvB rfl (e_ (w104_3 hQ hkp H0 H3 H5 rfl B0 BP FR (h.2 g'1)))))))))))))))
theorem w104_1 {m0:Val}{mP:List UInt8}{v0:Nat}(H0:σ 0 = .p kp vp 0)(H3:σ 3 = .p (d,0) v0 0)(B0:lk st.bx (d,0) = some (v0,[.i .u8 m0.kind,.i .i64 m0.int,.s m0.text,.sl .ext (List.map Val.row m0.list),.b m0.cut]))(BP:Bl mP st.bx st.ow kp vp)(FR:Fr d kp st0.bx st0.ow st.bx st.ow)(h:T104_1 prog K m0 mP):W prog d c104_10 σ st Q:=
 q_ rfl (s_buildM (f:=AV.s) (l:=[[],[],[],[],[],([123,125]:List UInt8),([91,93]:List UInt8),([60,62]:List UInt8)]) (f_cons rfl rfl (f_cons rfl rfl (f_cons rfl rfl f_nil))) rfl (f_ H3 (l_ rfl B0 rfl rfl (h.2.elim fun c'1 e'2=>s_ixA (f:=AV.s) rfl rfl rfl h.1 e'2.1 (m_ (e_ (w104_2 hQ hkp H0 H3 rfl B0 BP FR e'2.2)))))))
theorem w104_0 {v1:Val}{mP:List UInt8}(H0:σ 0 = .p kp vp 0)(H1:σ 1 = v1.av)(BP:Bl mP st.bx st.ow kp vp)(FR:Fr d kp st0.bx st0.ow st.bx st.ow)(h:T104_0 prog K v1 mP):W prog d (.seq (.reg 0 r104_0) c104_10) σ st Q:=
 q_ rfl (s_box H1 rfl (m_ (e_ (w104_1 hQ hkp H0 rfl lk_here (Bl.other (key_LP hkp) BP) (Fr.box FR) h))))
end
theorem p104 {prog:Prog}(hf:prog.fn 104 = some pf104){v1:Val}{mP:List UInt8}{K:Int→List UInt8→Prop}(h:T104_0 prog K v1 mP):PuXK prog 104 (Bl mP) [v1.av] (fun r (b_:List UInt8)=>∃res0:Int,(r = .i .i64 res0)∧K res0 b_) (fun b_=>(Bl b_)):=
  PuXK.of hf rfl (fun _=>Bl.out) fun d st kp vp hkp hB=>w104_0 (st0:=st) (Q:=fun e σ st'=>(e = .normal∨e = .ret)∧∃r b_,ares σ st' pf104.res = some r∧_∧_∧Fr d kp st.bx st.ow st'.bx st'.ow) (fun σ st'   res0 b_ H4 hb hf hk=>⟨.inr rfl,.i .i64 res0,b_,by simp only [pf104,ares,aresL,H4,ares1,Option.map_some,H4],⟨res0,rfl,hk⟩,hb,hf⟩) hkp (σ:=sl0 [.p kp vp 0,v1.av]) rfl rfl hB Fr.refl h
def r106_0:List AI:=[oO 1 (.box 5 (.t 0)),
 oC 2 (.s [])]
def r106_1:List AI:=[oF 3 0 1,
 oL 4 3]
def r106_2:List AI:=[oB 6 .eql (.t 4) (.c (.i .u8 1)),
 oM 5 6]
def r106_3:List AI:=[oF 7 1 1,
 oL 8 7,
 oB 9 .eql (.t 8) (.c (.i .i64 1))]
def r106_4:List AI:=[oC 2 (.s [116,114,117,101])]
def r106_5:List AI:=[oC 2 (.s [102,97,108,115,101])]
def r106_6:List AI:=[oB 11 .eql (.t 4) (.c (.i .u8 2)),
 oM 10 11]
def r106_7:List AI:=[oF 12 1 1,
 oL 13 12,
 oO 14 (.call false 16 [(.t 13)]),
 oM 2 14]
def r106_8:List AI:=[oB 16 .eql (.t 4) (.c (.i .u8 3)),
 oM 15 16]
def r106_9:List AI:=[oF 17 2 1,
 oL 18 17,
 oO 19 (.call false 31 [(.t 18)]),
 oM 2 19]
def r106_10:List AI:=[oB 21 .eql (.t 4) (.c (.i .u8 5)),
 oM 20 21]
def r106_11:List AI:=[oF 22 3 1,
 oL 23 22,
 oO 24 (.call false 127 [(.t 23)]),
 oB 25 .add (.c (.s [123])) (.t 24),
 oB 26 .add (.t 25) (.c (.s [125])),
 oM 2 26]
def r106_12:List AI:=[oB 28 .eql (.t 4) (.c (.i .u8 6)),
 oM 27 28]
def r106_13:List AI:=[oF 29 3 1,
 oL 30 29,
 oO 31 (.call false 127 [(.t 30)]),
 oB 32 .add (.c (.s [91])) (.t 31),
 oB 33 .add (.t 32) (.c (.s [93])),
 oM 2 33]
def r106_14:List AI:=[oB 35 .eql (.t 4) (.c (.i .u8 7)),
 oM 34 35]
def r106_15:List AI:=[oF 36 4 1,
 oL 37 36]
def r106_16:List AI:=[oC 2 (.s [60,46,46,46,62])]
def r106_17:List AI:=[oF 38 3 1,
 oL 39 38,
 oO 40 (.call false 127 [(.t 39)]),
 oB 41 .add (.c (.s [60])) (.t 40),
 oB 42 .add (.t 41) (.c (.s [62])),
 oM 2 42]
def r106_18:List AI:=[oF 43 4 1,
 oL 44 43]
def r106_19:List AI:=[oC 2 (.s [38,46,46,46])]
def r106_20:List AI:=[oF 45 3 1,
 oL 46 45,
 oO 47 (.len false (.t 46)),
 oB 48 .eql (.t 47) (.c (.i .i64 0))]
def r106_21:List AI:=[oC 2 (.s [110,105,108])]
def r106_22:List AI:=[oF 49 3 1,
 oL 50 49,
 oO 51 (.iaL 5 (.t 50) (.c (.i .i64 0))),
 oO 52 (.load 5 true (.t 51)),
 oO 53 (.call false 106 [(.t 52)]),
 oB 54 .add (.c (.s [38])) (.t 53),
 oM 2 54]
abbrev c106_0:AC:=(.seq (.seq (.reg 1 r106_1) (.block 0 (.seq (.reg 2 r106_2) (.cond (.t 5) (.seq (.seq (.reg 3 r106_3) (.cond (.t 9) (.seq (.reg 4 r106_4) .ret) .skip)) (.seq (.reg 5 r106_5) .ret)) (.seq (.reg 6 r106_6) (.cond (.t 10) (.seq (.reg 7 r106_7) .ret) (.seq (.reg 8 r106_8) (.cond (.t 15) (.seq (.reg 9 r106_9) .ret) (.seq (.reg 10 r106_10) (.cond (.t 20) (.seq (.reg 11 r106_11) .ret) (.seq (.reg 12 r106_12) (.cond (.t 27) (.seq (.reg 13 r106_13) .ret) (.seq (.reg 14 r106_14) (.cond (.t 34) (.seq (.seq (.reg 15 r106_15) (.cond (.t 37) (.seq (.reg 16 r106_16) .ret) .skip)) (.seq (.reg 17 r106_17) .ret)) .skip)))))))))))))) (.seq (.seq (.reg 18 r106_18) (.cond (.t 44) (.seq (.reg 19 r106_19) .ret) .skip)) (.seq (.seq (.reg 20 r106_20) (.cond (.t 48) (.seq (.reg 21 r106_21) .ret) .skip)) (.seq (.reg 22 r106_22) .ret))))
abbrev b106:AC:=(.seq (.reg 0 r106_0) c106_0)
def pf106:AF:={ nt:=55,res:=[.tmp 2],body:=b106 }
abbrev H106 (Q:AE→Sl→St→Prop)(K:List UInt8→Prop):Prop:=∀(σ:Sl)(st:St)(res0:List UInt8),σ 2 = .s res0→K res0→Q .ret σ st
def T106_1 (prog:Prog)(K:List UInt8→Prop)(m0:Val):Prop:=
  (m0.kind = 1→(m0.int = 1→K ([116,114,117,101]:List UInt8))∧(¬(m0.int = 1)→K ([102,97,108,115,101]:List UInt8)))∧(¬(m0.kind = 1)→(m0.kind = 2→∃r'4:List UInt8,Pus prog 16 [.i .i64 m0.int] (.s r'4)∧K r'4)∧(¬(m0.kind = 2)→(m0.kind = 3→∃r'7:List UInt8,Pus prog 31 [.s m0.text] (.s r'7)∧K r'7)∧(¬(m0.kind = 3)→(m0.kind = 5→∃r'10:List UInt8,Pus prog 127 [.sl .ext (List.map Val.row m0.list)] (.s r'10)∧([123]:List UInt8).length + r'10.length≤maxStr∧(([123]:List UInt8) ++ r'10).length + ([125]:List UInt8).length≤maxStr∧K ((([123]:List UInt8) ++ r'10) ++ ([125]:List UInt8)))∧(¬(m0.kind = 5)→(m0.kind = 6→∃r'13:List UInt8,Pus prog 127 [.sl .ext (List.map Val.row m0.list)] (.s r'13)∧([91]:List UInt8).length + r'13.length≤maxStr∧(([91]:List UInt8) ++ r'13).length + ([93]:List UInt8).length≤maxStr∧K ((([91]:List UInt8) ++ r'13) ++ ([93]:List UInt8)))∧(¬(m0.kind = 6)→(m0.kind = 7→(m0.cut = true→K ([60,46,46,46,62]:List UInt8))∧(m0.cut = false→∃r'17:List UInt8,Pus prog 127 [.sl .ext (List.map Val.row m0.list)] (.s r'17)∧([60]:List UInt8).length + r'17.length≤maxStr∧(([60]:List UInt8) ++ r'17).length + ([62]:List UInt8).length≤maxStr∧K ((([60]:List UInt8) ++ r'17) ++ ([62]:List UInt8))))∧(¬(m0.kind = 7)→(m0.cut = true→K ([38,46,46,46]:List UInt8))∧(m0.cut = false→((m0.list.length:Int) = 0→K ([110,105,108]:List UInt8))∧(¬((m0.list.length:Int) = 0)→∃c'21:Val,m0.list[0]? = some c'21∧∃r'23:List UInt8,Pus prog 106 [c'21.av] (.s r'23)∧([38]:List UInt8).length + r'23.length≤maxStr∧K (([38]:List UInt8) ++ r'23)))))))))
def T106_0 (prog:Prog)(K:List UInt8→Prop)(v0:Val):Prop:=
  T106_1 prog K v0
section
variable {prog:Prog}{d:Nat}{Q:AE→Sl→St→Prop}{K:List UInt8→Prop}(hQ:H106 Q K){σ:Sl}{st:St}
include hQ
theorem w106_1 {m0:Val}{v0:Nat}(H1:σ 1 = .p (d,0) v0 0)(B0:lk st.bx (d,0) = some (v0,[.i .u8 m0.kind,.i .i64 m0.int,.s m0.text,.sl .ext (List.map Val.row m0.list),.b m0.cut]))(h:T106_1 prog K m0):W prog d c106_0 σ st Q:=
 sq_ (q_ rfl (f_ H1 (l_ rfl B0 rfl rfl (e_ (bk_ (q_ rfl (b_ rfl rfl eql_ (m_ (e_ (cs_ rfl (fun g'1=>sq_ (q_ rfl (f_ H1 (l_ rfl B0 rfl rfl (b_ rfl rfl eql_ (e_ (cs_ rfl (fun g'2=>q_ rfl (m_ (e_ (rt_ (hQ _ _ _ rfl ((h.1 g'1).1 g'2)))))) (fun g'2=>sk_ (q_ rfl (m_ (e_ (rt_ (hQ _ _ _ rfl ((h.1 g'1).2 g'2)))))))))))))) (fun g'1=>q_ rfl (b_ rfl rfl eql_ (m_ (e_ (cs_ rfl (fun g'3=>q_ rfl (f_ H1 (l_ rfl B0 rfl rfl (((h.2 g'1).1 g'3).elim fun r'4 e'5=>ca_ (sc rfl rfl sn) e'5.1 (m_ (e_ (rt_ (hQ _ _ _ rfl e'5.2)))))))) (fun g'3=>q_ rfl (b_ rfl rfl eql_ (m_ (e_ (cs_ rfl (fun g'6=>q_ rfl (f_ H1 (l_ rfl B0 rfl rfl ((((h.2 g'1).2 g'3).1 g'6).elim fun r'7 e'8=>ca_ (sc rfl rfl sn) e'8.1 (m_ (e_ (rt_ (hQ _ _ _ rfl e'8.2)))))))) (fun g'6=>q_ rfl (b_ rfl rfl eql_ (m_ (e_ (cs_ rfl (fun g'9=>q_ rfl (f_ H1 (l_ rfl B0 rfl rfl (((((h.2 g'1).2 g'3).2 g'6).1 g'9).elim fun r'10 e'11=>ca_ (sc rfl rfl sn) e'11.1 (b_ rfl rfl (abin_cat' e'11.2.1) (b_ rfl rfl (abin_cat' e'11.2.2.1) (m_ (e_ (rt_ (hQ _ _ _ rfl e'11.2.2.2)))))))))) (fun g'9=>q_ rfl (b_ rfl rfl eql_ (m_ (e_ (cs_ rfl (fun g'12=>q_ rfl (f_ H1 (l_ rfl B0 rfl rfl ((((((h.2 g'1).2 g'3).2 g'6).2 g'9).1 g'12).elim fun r'13 e'14=>ca_ (sc rfl rfl sn) e'14.1 (b_ rfl rfl (abin_cat' e'14.2.1) (b_ rfl rfl (abin_cat' e'14.2.2.1) (m_ (e_ (rt_ (hQ _ _ _ rfl e'14.2.2.2)))))))))) (fun g'12=>q_ rfl (b_ rfl rfl eql_ (m_ (e_ (cs_ rfl (fun g'15=>sq_ (q_ rfl (f_ H1 (l_ rfl B0 rfl rfl (e_ (cb_ rfl (fun g'16=>q_ rfl (m_ (e_ (rt_ (hQ _ _ _ rfl (((((((h.2 g'1).2 g'3).2 g'6).2 g'9).2 g'12).1 g'15).1 g'16)))))) (fun g'16=>sk_ (q_ rfl (f_ H1 (l_ rfl B0 rfl rfl ((((((((h.2 g'1).2 g'3).2 g'6).2 g'9).2 g'12).1 g'15).2 g'16).elim fun r'17 e'18=>ca_ (sc rfl rfl sn) e'18.1 (b_ rfl rfl (abin_cat' e'18.2.1) (b_ rfl rfl (abin_cat' e'18.2.2.1) (m_ (e_ (rt_ (hQ _ _ _ rfl e'18.2.2.2))))))))))))))))) (fun g'15=>sk_ (sq_ (q_ rfl (f_ H1 (l_ rfl B0 rfl rfl (e_ (cb_ rfl (fun g'19=>q_ rfl (m_ (e_ (rt_ (hQ _ _ _ rfl (((((((h.2 g'1).2 g'3).2 g'6).2 g'9).2 g'12).2 g'15).1 g'19)))))) (fun g'19=>sk_ (sq_ (q_ rfl (f_ H1 (l_ rfl B0 rfl rfl (ll_ rfl (b_ rfl rfl eql_ (e_ (cs_ rfl (fun g'20=>q_ rfl (m_ (e_ (rt_ (hQ _ _ _ rfl ((((((((h.2 g'1).2 g'3).2 g'6).2 g'9).2 g'12).2 g'15).2 g'19).1 g'20)))))) (fun g'20=>sk_ (q_ rfl (f_ H1 (l_ rfl B0 rfl rfl (((((((((h.2 g'1).2 g'3).2 g'6).2 g'9).2 g'12).2 g'15).2 g'19).2 g'20).elim fun c'21 e'22=>ia_ rfl rfl (by decide) e'22.1 (Val.row_eq c'21) rfl (lf_ rfl rfl rfl (e'22.2.elim fun r'23 e'24=>ca_ (sc rfl rfl sn) e'24.1 (b_ rfl rfl (abin_cat' e'24.2.1) (m_ (e_ (rt_ (hQ _ _ _ rfl e'24.2.2)))))))))))))))))))))))))))))))))))))))))))))))))))))))))))))))
theorem w106_0 {v0:Val}(H0:σ 0 = v0.av)(h:T106_0 prog K v0):W prog d (.seq (.reg 0 r106_0) c106_0) σ st Q:=
 q_ rfl (s_box H0 rfl (m_ (e_ (w106_1 hQ rfl lk_here h))))
end
theorem p106 {prog:Prog}(hf:prog.fn 106 = some pf106){v0:Val}{K:List UInt8→Prop}(h:T106_0 prog K v0) :∃res0:List UInt8,K res0∧Pus prog 106 [v0.av] (.s res0):=by
  obtain ⟨v,hv,res0,hk,rfl⟩:=Pus.of (K:=fun v=>∃res0:List UInt8,K res0∧v = .s res0) hf rfl (w106_0 (σ:=sl0 [v0.av]) (fun σ st   res0 H2 hk=>⟨.s res0,by simp only [pf106,ares,aresL,H2,ares1,Option.map_some],_,rfl,res0,hk,rfl⟩) rfl h)
  exact ⟨res0,hk,hv⟩
def r109_0:List AI:=[oO 2 (.box 5 (.t 0)),
 oC 4 (.i .i64 0),
 oC 5 (.b false)]
def r109_1:List AI:=[oF 15 0 2,
 oL 16 15,
 oO 17 (.build [.i .u8 0,.i .i64 0,.s [],.sl .full [],.b false] [(0,1,(.t 16))]),
 oO 6 (.alloc [.i .u8 0,.i .i64 0,.s [],.sl .full [],.b false]),
 oS 5 6 17,
 oC 7 (.i .i64 0),
 oC 8 (.i .i64 0)]
def r109_2:List AI:=[oF 18 0 2,
 oL 19 18]
def r109_3:List AI:=[oB 21 .eql (.t 19) (.c (.i .u8 1)),
 oM 20 21]
def r109_4:List AI:=[oF 22 1 2,
 oL 23 22,
 oB 24 .and (.t 23) (.c (.i .i64 1)),
 oF 25 1 6,
 oS 1 25 24]
def r109_5:List AI:=[oB 27 .eql (.t 19) (.c (.i .u8 2)),
 oM 26 27]
def r109_6:List AI:=[oF 28 1 2,
 oL 29 28,
 oF 30 1 6,
 oS 1 30 29]
def r109_7:List AI:=[oB 32 .eql (.t 19) (.c (.i .u8 3)),
 oM 31 32]
def r109_8:List AI:=[oF 33 2 2,
 oL 34 33,
 oF 35 2 6,
 oS 1 35 34]
def r109_9:List AI:=[oB 37 .eql (.t 19) (.c (.i .u8 4)),
 oM 36 37]
def r109_10:List AI:=[oF 38 4 2,
 oL 39 38,
 oF 40 4 6,
 oS 1 40 39,
 oC 7 (.i .i64 1)]
def r109_11:List AI:=[oB 42 .eql (.t 19) (.c (.i .u8 5)),
 oM 41 42]
def r109_12:List AI:=[oC 7 (.i .i64 8)]
def r109_13:List AI:=[oB 44 .eql (.t 19) (.c (.i .u8 6)),
 oM 43 44]
def r109_14:List AI:=[oC 7 (.i .i64 16),
 oC 8 (.i .i64 1)]
def r109_15:List AI:=[oB 46 .eql (.t 19) (.c (.i .u8 7)),
 oM 45 46]
def r109_16:List AI:=[oF 47 4 2,
 oL 48 47,
 oF 49 4 6,
 oS 1 49 48,
 oC 7 (.i .i64 16)]
def r109_17:List AI:=[oC 4 (.i .i64 0),
 oC 5 (.b false)]
def r109_18:List AI:=[oF 50 3 2,
 oL 51 50,
 oO 52 (.len false (.t 51)),
 oM 9 52]
def r109_19:List AI:=[oM 53 1,
 oB 54 .eql (.t 53) (.c (.i .i64 0)),
 oM 55 54,
 oG 56 (.fad 1 (.t 6)) 55 false,
 oG 57 (.load 1 false (.t 56)) 55 false,
 oG 58 (.fad 1 (.t 2)) 55 false,
 oG 59 (.load 1 false (.t 58)) 55 false,
 oG 60 (.bin .neq (.t 57) (.t 59)) 55 false,
 oO 61 (.pick (.t 55) (.c (.b true)) (.t 60)),
 oM 62 61,
 oG 63 (.fad 2 (.t 6)) 62 false,
 oG 64 (.load 1 false (.t 63)) 62 false,
 oG 65 (.fad 2 (.t 2)) 62 false,
 oG 66 (.load 1 false (.t 65)) 62 false,
 oG 67 (.bin .neq (.t 64) (.t 66)) 62 false,
 oO 68 (.pick (.t 62) (.c (.b true)) (.t 67)),
 oM 69 68,
 oG 70 (.fad 2 (.t 2)) 69 false,
 oG 71 (.load 1 false (.t 70)) 69 false,
 oG 72 (.len true (.t 71)) 69 false,
 oG 73 (.bin .gtr (.t 72) (.c (.i .i64 64))) 69 false,
 oO 74 (.pick (.t 69) (.c (.b true)) (.t 73)),
 oM 75 74,
 oG 76 (.fad 4 (.t 6)) 75 false,
 oG 77 (.load 1 false (.t 76)) 75 false,
 oG 78 (.fad 4 (.t 2)) 75 false,
 oG 79 (.load 1 false (.t 78)) 75 false,
 oG 80 (.beq true (.t 77) (.t 79)) 75 false,
 oO 81 (.pick (.t 75) (.c (.b true)) (.t 80)),
 oM 82 81,
 oG 83 (.fad 4 (.t 2)) 82 false,
 oG 84 (.load 1 false (.t 83)) 82 false,
 oG 85 (.mv (.t 84)) 82 false,
 oG 86 (.mv (.t 9)) 85 true,
 oG 87 (.bin .gtr (.t 86) (.c (.i .i64 0))) 85 true,
 oG 88 (.pick (.t 85) (.t 87) (.c (.b false))) 82 false,
 oO 89 (.pick (.t 82) (.c (.b true)) (.t 88)),
 oM 90 89,
 oG 91 (.mv (.t 9)) 90 false,
 oG 92 (.mv (.t 7)) 90 false,
 oG 93 (.bin .gtr (.t 91) (.t 92)) 90 false,
 oO 94 (.pick (.t 90) (.c (.b true)) (.t 93)),
 oM 95 94,
 oG 96 (.mv (.t 9)) 95 false,
 oG 97 (.mv (.t 8)) 95 false,
 oG 98 (.bin .lss (.t 96) (.t 97)) 95 false,
 oO 99 (.pick (.t 95) (.c (.b true)) (.t 98))]
def r109_20:List AI:=[oC 4 (.i .i64 0),
 oC 5 (.b false)]
def r109_21:List AI:=[oC 10 (.i .i64 1)]
def r109_22:List AI:=[oF 100 3 2,
 oL 101 100,
 oO 102 (.len false (.t 101)),
 oC 103 (.i .i64 0)]
def r109_23:List AI:=[oB 104 .lss (.t 103) (.t 102)]
def r109_24:List AI:=[oO 105 (.iaL 5 (.t 101) (.t 103)),
 oO 106 (.load 5 true (.t 105)),
 oO 12 (.alloc [.i .u8 0,.i .i64 0,.s [],.sl .full [],.b false]),
 oS 5 12 106]
def r109_25:List AI:=[oO 108 (.load 5 true (.t 12)),
 oM 109 1,
 oB 110 .sub (.t 109) (.c (.i .i64 1)),
 oO 111 (.call false 109 [(.t 108),(.t 110)]),
 oM 107 111,
 oE 112 0 107,
 oE 113 1 107,
 oM 13 112,
 oM 14 113]
def r109_26:List AI:=[oM 114 10,
 oM 115 13,
 oB 116 .add (.t 114) (.t 115),
 oM 10 116]
def r109_27:List AI:=[oM 117 14,
 oO 118 (.un .not (.t 117)),
 oM 119 118,
 oG 120 (.mv (.t 10)) 119 false,
 oG 121 (.bin .gtr (.t 120) (.c (.i .i64 5000))) 119 false,
 oO 122 (.pick (.t 119) (.c (.b true)) (.t 121))]
def r109_28:List AI:=[oC 4 (.i .i64 0),
 oC 5 (.b false)]
def r109_29:List AI:=[oB 123 .add (.t 103) (.c (.i .i64 1)),
 oM 103 123]
def r109_30:List AI:=[oM 124 10,
 oM 4 124,
 oC 5 (.b true)]
abbrev l109_0:AC:=(.seq (.reg 23 r109_23) (.seq (.cond (.t 104) .skip (.exit 1)) (.seq (.block 2 (.seq (.reg 24 r109_24) (.seq (.reg 25 r109_25) (.seq (.reg 26 r109_26) (.seq (.reg 27 r109_27) (.cond (.t 122) (.seq (.reg 28 r109_28) .ret) .skip)))))) (.reg 29 r109_29))))
abbrev c109_1:AC:=(.seq (.reg 30 r109_30) .ret)
abbrev c109_2:AC:=(.seq (.seq (.reg 19 r109_19) (.cond (.t 99) (.seq (.reg 20 r109_20) .ret) .skip)) (.seq (.reg 21 r109_21) (.seq (.seq (.reg 22 r109_22) (.block 1 (.loop l109_0))) c109_1)))
abbrev c109_3:AC:=(.seq (.reg 18 r109_18) c109_2)
abbrev c109_4:AC:=(.seq (.seq (.reg 2 r109_2) (.block 0 (.seq (.reg 4 r109_3) (.cond (.t 20) (.reg 5 r109_4) (.seq (.reg 6 r109_5) (.cond (.t 26) (.reg 7 r109_6) (.seq (.reg 8 r109_7) (.cond (.t 31) (.reg 9 r109_8) (.seq (.reg 10 r109_9) (.cond (.t 36) (.reg 11 r109_10) (.seq (.reg 12 r109_11) (.cond (.t 41) (.reg 13 r109_12) (.seq (.reg 14 r109_13) (.cond (.t 43) (.reg 15 r109_14) (.seq (.reg 16 r109_15) (.cond (.t 45) (.reg 17 r109_16) (.seq (.reg 3 r109_17) .ret))))))))))))))))) c109_3)
abbrev c109_5:AC:=(.seq (.reg 1 r109_1) c109_4)
abbrev b109:AC:=(.seq (.reg 0 r109_0) c109_5)
def pf109:AF:={ nt:=125,res:=[.tmp 4,.tmp 5],body:=b109 }
abbrev H109 (Q:AE→Sl→St→Prop)(K:Int→Bool→Prop):Prop:=∀(σ:Sl)(st:St)(res0:Int)(res1:Bool),σ 4 = .i .i64 res0→σ 5 = .b res1→K res0 res1→Q .ret σ st
abbrev I109_0 (prog:Prog)(d:Nat)(Q:AE→Sl→St→Prop)(nest1:Int)(t101:List Val)(t102:Int)(sum10:Int)(t103:Int):Prop:=
  ∀(σ:Sl)(st:St)(o_t101:Own),σ 1 = .i .i64 nest1→σ 10 = .i .i64 sum10→σ 101 = .sl o_t101 (List.map Val.row t101)→σ 102 = .i .i64 t102→σ 103 = .i .i64 t103→W prog d (.loop l109_0) σ st (blockW 1 (thenW prog d c109_1 Q))
def T109_6 (prog:Prog)(K:Int→Bool→Prop)(sum10:Int):Prop:=
  K sum10 true
def T109_5 (prog:Prog)(K:Int→Bool→Prop)(P0:Int→Int→Prop)(nest1:Int)(sum10:Int)(t101:List Val)(t102:Int)(t103:Int):Prop:=
  (t103 < t102→0≤t103∧∃c'2:Val,t101[(t103).toNat]? = some c'2∧∃r'4:Int,∃r'5:Bool,Pus prog 109 [c'2.av,.i .i64 (IntKind.i64.wrap (nest1 - 1))] (.tup [.i .i64 r'4,.b r'5])∧((!r'5) = true→K 0 false)∧((!r'5) = false→((IntKind.i64.wrap (sum10 + r'4)) > 5000→K 0 false)∧(¬((IntKind.i64.wrap (sum10 + r'4)) > 5000)→P0 (IntKind.i64.wrap (sum10 + r'4)) (IntKind.i64.wrap (t103 + 1)))))∧(¬(t103 < t102)→T109_6 prog K sum10)
def T109_4 (prog:Prog)(K:Int→Bool→Prop)(nest1:Int)(most7:Int)(least8:Int)(n9:Int)(m0:Val)(m4099:Val):Prop:=
  (nest1 = 0→K 0 false)∧(¬(nest1 = 0)→(m4099.int≠m0.int→K 0 false)∧(¬(m4099.int≠m0.int)→(m4099.text≠m0.text→K 0 false)∧(¬(m4099.text≠m0.text)→((m0.text.length:Int) > 64→K 0 false)∧(¬((m0.text.length:Int) > 64)→(m4099.cut≠m0.cut→K 0 false)∧(¬(m4099.cut≠m0.cut)→(m0.cut = true→(n9 > 0→K 0 false)∧(¬(n9 > 0)→(n9 > most7→K 0 false)∧(¬(n9 > most7)→(n9 < least8→K 0 false)∧(¬(n9 < least8)→∀P0:Int→Int→Prop,(∀(sum10:Int)(t103:Int),T109_5 prog K P0 nest1 sum10 m0.list (m0.list.length:Int) t103→P0 sum10 t103)→P0 1 0))))∧(m0.cut = false→(n9 > most7→K 0 false)∧(¬(n9 > most7)→(n9 < least8→K 0 false)∧(¬(n9 < least8)→∀P0:Int→Int→Prop,(∀(sum10:Int)(t103:Int),T109_5 prog K P0 nest1 sum10 m0.list (m0.list.length:Int) t103→P0 sum10 t103)→P0 1 0))))))))
def T109_3 (prog:Prog)(K:Int→Bool→Prop)(nest1:Int)(most7:Int)(least8:Int)(m0:Val)(m4099:Val):Prop:=
  T109_4 prog K nest1 most7 least8 (m0.list.length:Int) m0 m4099
def T109_2 (prog:Prog)(K:Int→Bool→Prop)(nest1:Int)(most7:Int)(least8:Int)(m0:Val)(m4099:Val):Prop:=
  (m0.kind = 1→T109_3 prog K nest1 most7 least8 m0 (Val.mk m4099.kind (bAnd .i64 m0.int 1) m4099.text m4099.list m4099.cut))∧(¬(m0.kind = 1)→(m0.kind = 2→T109_3 prog K nest1 most7 least8 m0 (Val.mk m4099.kind m0.int m4099.text m4099.list m4099.cut))∧(¬(m0.kind = 2)→(m0.kind = 3→T109_3 prog K nest1 most7 least8 m0 (Val.mk m4099.kind m4099.int m0.text m4099.list m4099.cut))∧(¬(m0.kind = 3)→(m0.kind = 4→T109_3 prog K nest1 1 least8 m0 (Val.mk m4099.kind m4099.int m4099.text m4099.list m0.cut))∧(¬(m0.kind = 4)→(m0.kind = 5→T109_3 prog K nest1 8 least8 m0 m4099)∧(¬(m0.kind = 5)→(m0.kind = 6→T109_3 prog K nest1 16 1 m0 m4099)∧(¬(m0.kind = 6)→(m0.kind = 7→T109_3 prog K nest1 16 least8 m0 (Val.mk m4099.kind m4099.int m4099.text m4099.list m0.cut))∧(¬(m0.kind = 7)→K 0 false)))))))
def T109_1 (prog:Prog)(K:Int→Bool→Prop)(nest1:Int)(m0:Val):Prop:=
  T109_2 prog K nest1 0 0 m0 (Val.mk m0.kind 0 [] ([]:List Val) false)
def T109_0 (prog:Prog)(K:Int→Bool→Prop)(v0:Val)(nest1:Int):Prop:=
  T109_1 prog K nest1 v0
section
variable {prog:Prog}{d:Nat}{Q:AE→Sl→St→Prop}{K:Int→Bool→Prop}(hQ:H109 Q K){σ:Sl}{st:St}
include hQ
theorem w109_6 {sum10:Int}(H10:σ 10 = .i .i64 sum10)(h:T109_6 prog K sum10):W prog d c109_1 σ st Q:=
 q_ rfl (m_ (m_ (m_ (e_ (rt_ (hQ _ _ _ _ H10 rfl h))))))
theorem w109_5 {nest1 sum10:Int}{t101:List Val}{t102 t103:Int}{P0:Int→Int→Prop} (kP0 :∀(sum10:Int)(t103:Int),P0 sum10 t103→I109_0 prog d Q nest1 t101 t102 sum10 t103){o_t101:Own}(H1:σ 1 = .i .i64 nest1)(H10:σ 10 = .i .i64 sum10)(H101:σ 101 = .sl o_t101 (List.map Val.row t101))(H102:σ 102 = .i .i64 t102)(H103:σ 103 = .i .i64 t103)(h:T109_5 prog K P0 nest1 sum10 t101 t102 t103):W prog d l109_0 σ st (thenW prog d (.loop l109_0) (blockW 1 (thenW prog d c109_1 Q))):=
 q_ rfl (b_ H103 H102 lss_ (e_ (sq_ (cs_ rfl (fun g'1=>sk_ (sq_ (bk_ (sq_ (W.reg ((h.1 g'1).2.elim fun c'2 e'3=>ia_ H101 H103 (h.1 g'1).1 e'3.1 (Val.row_eq c'2) rfl (lf_ rfl rfl rfl (s_alloc (so_ rfl (show lk _ (d,98306) = some (_,([.i .u8 0,.i .i64 0,.s [],.sl .full (List.map Val.row ([]:List Val)),.b false]:List AV)) from lk_here) rfl rfl rfl (e_ (q_ rfl (l_ rfl lk_here rfl rfl (m_ (b_ H1 rfl sub_ (e'3.2.elim fun r'4 e'9=>e'9.elim fun r'5 e'6=>ca_ (sc rfl rfl (sc rfl rfl sn)) e'6.1 (m_ (x_ rfl rfl (x_ rfl rfl (m_ (m_ (e_ (q_ rfl (m_ (m_ (b_ H10 rfl add_ (m_ (e_ (q_ rfl (s_mvB rfl (nt_ rfl (s_mvB rfl (eb_ (g:=119) rfl (fun g'7=>gn_ (b:=true) rfl rfl (gn_ (b:=true) rfl rfl (pt_ rfl rfl (e_ (ct_ rfl (q_ rfl (m_ (m_ (e_ (rt_ (hQ _ _ _ _ rfl rfl (e'6.2.1 g'7)))))))))))) (fun g'7=>gy_ rfl (s_mvI rfl (gy_ rfl (b_ rfl rfl gtr_ (pf_ rfl rfl (e_ (cs_ rfl (fun g'8=>q_ rfl (m_ (m_ (e_ (rt_ (hQ _ _ _ _ rfl rfl ((e'6.2.2 g'7).1 g'8))))))) (fun g'8=>sk_ (W.reg0 rfl fun _ _=>b_ H103 rfl add_ (m_ (e_ (kP0 _ _ ((e'6.2.2 g'7).2 g'8) _ _ _ H1 rfl H101 H102 rfl)))))))))))))))))))))))))))))))))))))))))))) (fun g'1=>ex_ (w109_6 hQ H10 (h.2 g'1)))))))
theorem w109_4 {nest1 most7 least8 n9:Int}{m0 m4099:Val}{o_m4099_3:Own}{v0:Nat}{v4099:Nat}(H1:σ 1 = .i .i64 nest1)(H2:σ 2 = .p (d,0) v0 0)(H6:σ 6 = .p (d,4099) v4099 0)(H7:σ 7 = .i .i64 most7)(H8:σ 8 = .i .i64 least8)(H9:σ 9 = .i .i64 n9)(Ab4099:ApM d st.ow o_m4099_3 m4099.list.length)(B0:lk st.bx (d,0) = some (v0,[.i .u8 m0.kind,.i .i64 m0.int,.s m0.text,.sl .ext (List.map Val.row m0.list),.b m0.cut]))(B4099:lk st.bx (d,4099) = some (v4099,[.i .u8 m4099.kind,.i .i64 m4099.int,.s m4099.text,.sl o_m4099_3 (List.map Val.row m4099.list),.b m4099.cut]))(h:T109_4 prog K nest1 most7 least8 n9 m0 m4099):W prog d c109_2 σ st Q:=
 sq_ (q_ rfl (s_mvI H1 (b_ rfl rfl eql_ (s_mvB rfl (em_ (g:=55) rfl (fun g'1=>gn_ (b:=true) rfl rfl (gn_ (b:=true) rfl rfl (gn_ (b:=true) rfl rfl (gn_ (b:=true) rfl rfl (gn_ (b:=true) rfl rfl (pt_ rfl rfl (s_mvB rfl (gn_ (b:=true) rfl rfl (gn_ (b:=true) rfl rfl (gn_ (b:=true) rfl rfl (gn_ (b:=true) rfl rfl (gn_ (b:=true) rfl rfl (pt_ rfl rfl (s_mvB rfl (gn_ (b:=true) rfl rfl (gn_ (b:=true) rfl rfl (gn_ (b:=true) rfl rfl (gn_ (b:=true) rfl rfl (pt_ rfl rfl (s_mvB rfl (gn_ (b:=true) rfl rfl (gn_ (b:=true) rfl rfl (gn_ (b:=true) rfl rfl (gn_ (b:=true) rfl rfl (gn_ (b:=true) rfl rfl (pt_ rfl rfl (s_mvB rfl (gn_ (b:=true) rfl rfl (gn_ (b:=true) rfl rfl (gn_ (b:=true) rfl rfl (gt_ rfl (gt_ rfl (gn_ (b:=true) rfl rfl (pt_ rfl rfl (s_mvB rfl (gn_ (b:=true) rfl rfl (gn_ (b:=true) rfl rfl (gn_ (b:=true) rfl rfl (pt_ rfl rfl (s_mvB rfl (gn_ (b:=true) rfl rfl (gn_ (b:=true) rfl rfl (gn_ (b:=true) rfl rfl (pt_ rfl rfl (e_ (ct_ rfl (q_ rfl (m_ (m_ (e_ (rt_ (hQ _ _ _ _ rfl rfl (h.1 g'1))))))))))))))))))))))))))))))))))))))))))))))))))))) (fun g'1=>gy_ rfl (f_ H6 (gy_ rfl (l_ rfl B4099 rfl rfl (gy_ rfl (f_ H2 (gy_ rfl (l_ rfl B0 rfl rfl (gy_ rfl (b_ rfl rfl neq_ (pf_ rfl rfl (s_mvB rfl (em_ (g:=62) rfl (fun g'2=>gn_ (b:=true) rfl rfl (gn_ (b:=true) rfl rfl (gn_ (b:=true) rfl rfl (gn_ (b:=true) rfl rfl (gn_ (b:=true) rfl rfl (pt_ rfl rfl (s_mvB rfl (gn_ (b:=true) rfl rfl (gn_ (b:=true) rfl rfl (gn_ (b:=true) rfl rfl (gn_ (b:=true) rfl rfl (pt_ rfl rfl (s_mvB rfl (gn_ (b:=true) rfl rfl (gn_ (b:=true) rfl rfl (gn_ (b:=true) rfl rfl (gn_ (b:=true) rfl rfl (gn_ (b:=true) rfl rfl (pt_ rfl rfl (s_mvB rfl (gn_ (b:=true) rfl rfl (gn_ (b:=true) rfl rfl (gn_ (b:=true) rfl rfl (gt_ rfl (gt_ rfl (gn_ (b:=true) rfl rfl (pt_ rfl rfl (s_mvB rfl (gn_ (b:=true) rfl rfl (gn_ (b:=true) rfl rfl (gn_ (b:=true) rfl rfl (pt_ rfl rfl (s_mvB rfl (gn_ (b:=true) rfl rfl (gn_ (b:=true) rfl rfl (gn_ (b:=true) rfl rfl (pt_ rfl rfl (e_ (ct_ rfl (q_ rfl (m_ (m_ (e_ (rt_ (hQ _ _ _ _ rfl rfl ((h.2 g'1).1 g'2)))))))))))))))))))))))))))))))))))))))))))))) (fun g'2=>gy_ rfl (f_ H6 (gy_ rfl (l_ rfl B4099 rfl rfl (gy_ rfl (f_ H2 (gy_ rfl (l_ rfl B0 rfl rfl (gy_ rfl (b_ rfl rfl sne_ (pf_ rfl rfl (s_mvB rfl (em_ (g:=69) rfl (fun g'3=>gn_ (b:=true) rfl rfl (gn_ (b:=true) rfl rfl (gn_ (b:=true) rfl rfl (gn_ (b:=true) rfl rfl (pt_ rfl rfl (s_mvB rfl (gn_ (b:=true) rfl rfl (gn_ (b:=true) rfl rfl (gn_ (b:=true) rfl rfl (gn_ (b:=true) rfl rfl (gn_ (b:=true) rfl rfl (pt_ rfl rfl (s_mvB rfl (gn_ (b:=true) rfl rfl (gn_ (b:=true) rfl rfl (gn_ (b:=true) rfl rfl (gt_ rfl (gt_ rfl (gn_ (b:=true) rfl rfl (pt_ rfl rfl (s_mvB rfl (gn_ (b:=true) rfl rfl (gn_ (b:=true) rfl rfl (gn_ (b:=true) rfl rfl (pt_ rfl rfl (s_mvB rfl (gn_ (b:=true) rfl rfl (gn_ (b:=true) rfl rfl (gn_ (b:=true) rfl rfl (pt_ rfl rfl (e_ (ct_ rfl (q_ rfl (m_ (m_ (e_ (rt_ (hQ _ _ _ _ rfl rfl (((h.2 g'1).2 g'2).1 g'3))))))))))))))))))))))))))))))))))))))) (fun g'3=>gy_ rfl (f_ H2 (gy_ rfl (l_ rfl B0 rfl rfl (gy_ rfl (ln_ rfl (gy_ rfl (b_ rfl rfl gtr_ (pf_ rfl rfl (s_mvB rfl (em_ (g:=75) rfl (fun g'4=>gn_ (b:=true) rfl rfl (gn_ (b:=true) rfl rfl (gn_ (b:=true) rfl rfl (gn_ (b:=true) rfl rfl (gn_ (b:=true) rfl rfl (pt_ rfl rfl (s_mvB rfl (gn_ (b:=true) rfl rfl (gn_ (b:=true) rfl rfl (gn_ (b:=true) rfl rfl (gt_ rfl (gt_ rfl (gn_ (b:=true) rfl rfl (pt_ rfl rfl (s_mvB rfl (gn_ (b:=true) rfl rfl (gn_ (b:=true) rfl rfl (gn_ (b:=true) rfl rfl (pt_ rfl rfl (s_mvB rfl (gn_ (b:=true) rfl rfl (gn_ (b:=true) rfl rfl (gn_ (b:=true) rfl rfl (pt_ rfl rfl (e_ (ct_ rfl (q_ rfl (m_ (m_ (e_ (rt_ (hQ _ _ _ _ rfl rfl ((((h.2 g'1).2 g'2).2 g'3).1 g'4))))))))))))))))))))))))))))))))) (fun g'4=>gy_ rfl (f_ H6 (gy_ rfl (l_ rfl B4099 rfl rfl (gy_ rfl (f_ H2 (gy_ rfl (l_ rfl B0 rfl rfl (gy_ rfl (s_bne rfl rfl (pf_ rfl rfl (s_mvB rfl (em_ (g:=82) rfl (fun g'5=>gn_ (b:=true) rfl rfl (gn_ (b:=true) rfl rfl (gn_ (b:=true) rfl rfl (gt_ rfl (gt_ rfl (gn_ (b:=true) rfl rfl (pt_ rfl rfl (s_mvB rfl (gn_ (b:=true) rfl rfl (gn_ (b:=true) rfl rfl (gn_ (b:=true) rfl rfl (pt_ rfl rfl (s_mvB rfl (gn_ (b:=true) rfl rfl (gn_ (b:=true) rfl rfl (gn_ (b:=true) rfl rfl (pt_ rfl rfl (e_ (ct_ rfl (q_ rfl (m_ (m_ (e_ (rt_ (hQ _ _ _ _ rfl rfl (((((h.2 g'1).2 g'2).2 g'3).2 g'4).1 g'5)))))))))))))))))))))))))) (fun g'5=>gy_ rfl (f_ H2 (gy_ rfl (l_ rfl B0 rfl rfl (gy_ rfl (s_mvB rfl (eb_ (g:=85) rfl (fun g'6=>gy_ rfl (s_mvI H9 (gy_ rfl (b_ rfl rfl gtr_ (gy_ rfl (pt_ rfl rfl (pf_ rfl rfl (s_mvB rfl (em_ (g:=90) rfl (fun g'7=>gn_ (b:=true) rfl rfl (gn_ (b:=true) rfl rfl (gn_ (b:=true) rfl rfl (pt_ rfl rfl (s_mvB rfl (gn_ (b:=true) rfl rfl (gn_ (b:=true) rfl rfl (gn_ (b:=true) rfl rfl (pt_ rfl rfl (e_ (ct_ rfl (q_ rfl (m_ (m_ (e_ (rt_ (hQ _ _ _ _ rfl rfl (((((((h.2 g'1).2 g'2).2 g'3).2 g'4).2 g'5).1 g'6).1 g'7)))))))))))))))))) (fun g'7=>gy_ rfl (s_mvI H9 (gy_ rfl (s_mvI H7 (gy_ rfl (b_ rfl rfl gtr_ (pf_ rfl rfl (s_mvB rfl (em_ (g:=95) rfl (fun g'8=>gn_ (b:=true) rfl rfl (gn_ (b:=true) rfl rfl (gn_ (b:=true) rfl rfl (pt_ rfl rfl (e_ (ct_ rfl (q_ rfl (m_ (m_ (e_ (rt_ (hQ _ _ _ _ rfl rfl ((((((((h.2 g'1).2 g'2).2 g'3).2 g'4).2 g'5).1 g'6).2 g'7).1 g'8))))))))))))) (fun g'8=>gy_ rfl (s_mvI H9 (gy_ rfl (s_mvI H8 (gy_ rfl (b_ rfl rfl lss_ (pf_ rfl rfl (e_ (cs_ rfl (fun g'9=>q_ rfl (m_ (m_ (e_ (rt_ (hQ _ _ _ _ rfl rfl (((((((((h.2 g'1).2 g'2).2 g'3).2 g'4).2 g'5).1 g'6).2 g'7).2 g'8).1 g'9))))))) (fun g'9=>sk_ (q_ rfl (m_ (e_ (sq_ (q_ rfl (f_ H2 (l_ rfl B0 rfl rfl (ll_ rfl (m_ (e_ (bk_ ((((((((((h.2 g'1).2 g'2).2 g'3).2 g'4).2 g'5).1 g'6).2 g'7).2 g'8).2 g'9) (I109_0 prog d Q nest1 m0.list (m0.list.length:Int)) (fun _ _ hb _ _ _ H1 H10 H101 H102 H103=>W.loop (w109_5 hQ (fun _ _ x=>x) H1 H10 H101 H102 H103 hb)) _ _ _ H1 rfl rfl rfl rfl)))))))))))))))))))))))))))))))))))))))) (fun g'6=>gn_ (b:=false) rfl rfl (gn_ (b:=false) rfl rfl (gy_ rfl (pf_ rfl rfl (pf_ rfl rfl (s_mvB rfl (gy_ rfl (s_mvI H9 (gy_ rfl (s_mvI H7 (gy_ rfl (b_ rfl rfl gtr_ (pf_ rfl rfl (s_mvB rfl (em_ (g:=95) rfl (fun g'10=>gn_ (b:=true) rfl rfl (gn_ (b:=true) rfl rfl (gn_ (b:=true) rfl rfl (pt_ rfl rfl (e_ (ct_ rfl (q_ rfl (m_ (m_ (e_ (rt_ (hQ _ _ _ _ rfl rfl (((((((h.2 g'1).2 g'2).2 g'3).2 g'4).2 g'5).2 g'6).1 g'10))))))))))))) (fun g'10=>gy_ rfl (s_mvI H9 (gy_ rfl (s_mvI H8 (gy_ rfl (b_ rfl rfl lss_ (pf_ rfl rfl (e_ (cs_ rfl (fun g'11=>q_ rfl (m_ (m_ (e_ (rt_ (hQ _ _ _ _ rfl rfl ((((((((h.2 g'1).2 g'2).2 g'3).2 g'4).2 g'5).2 g'6).2 g'10).1 g'11))))))) (fun g'11=>sk_ (q_ rfl (m_ (e_ (sq_ (q_ rfl (f_ H2 (l_ rfl B0 rfl rfl (ll_ rfl (m_ (e_ (bk_ (((((((((h.2 g'1).2 g'2).2 g'3).2 g'4).2 g'5).2 g'6).2 g'10).2 g'11) (I109_0 prog d Q nest1 m0.list (m0.list.length:Int)) (fun _ _ hb _ _ _ H1 H10 H101 H102 H103=>W.loop (w109_5 hQ (fun _ _ x=>x) H1 H10 H101 H102 H103 hb)) _ _ _ H1 rfl rfl rfl rfl)))))))))))))))))))))))))))))))))))))))))))))))))))))))))))))))))))))))))))))))))))))))))))))))))))
theorem w109_3 {nest1 most7 least8:Int}{m0 m4099:Val}{o_m4099_3:Own}{v0:Nat}{v4099:Nat}(H1:σ 1 = .i .i64 nest1)(H2:σ 2 = .p (d,0) v0 0)(H6:σ 6 = .p (d,4099) v4099 0)(H7:σ 7 = .i .i64 most7)(H8:σ 8 = .i .i64 least8)(Ab4099:ApM d st.ow o_m4099_3 m4099.list.length)(B0:lk st.bx (d,0) = some (v0,[.i .u8 m0.kind,.i .i64 m0.int,.s m0.text,.sl .ext (List.map Val.row m0.list),.b m0.cut]))(B4099:lk st.bx (d,4099) = some (v4099,[.i .u8 m4099.kind,.i .i64 m4099.int,.s m4099.text,.sl o_m4099_3 (List.map Val.row m4099.list),.b m4099.cut]))(h:T109_3 prog K nest1 most7 least8 m0 m4099):W prog d c109_3 σ st Q:=
 q_ rfl (f_ H2 (l_ rfl B0 rfl rfl (ll_ rfl (m_ (e_ (w109_4 hQ H1 H2 H6 H7 H8 rfl Ab4099 B0 B4099 h))))))
theorem w109_2 {nest1 most7 least8:Int}{m0 m4099:Val}{o_m4099_3:Own}{v0:Nat}{v4099:Nat}(H1:σ 1 = .i .i64 nest1)(H2:σ 2 = .p (d,0) v0 0)(H6:σ 6 = .p (d,4099) v4099 0)(H7:σ 7 = .i .i64 most7)(H8:σ 8 = .i .i64 least8)(Ab4099:ApM d st.ow o_m4099_3 m4099.list.length)(B0:lk st.bx (d,0) = some (v0,[.i .u8 m0.kind,.i .i64 m0.int,.s m0.text,.sl .ext (List.map Val.row m0.list),.b m0.cut]))(B4099:lk st.bx (d,4099) = some (v4099,[.i .u8 m4099.kind,.i .i64 m4099.int,.s m4099.text,.sl o_m4099_3 (List.map Val.row m4099.list),.b m4099.cut]))(h:T109_2 prog K nest1 most7 least8 m0 m4099):W prog d c109_4 σ st Q:=
 sq_ (q_ rfl (f_ H2 (l_ rfl B0 rfl rfl (e_ (bk_ (q_ rfl (b_ rfl rfl eql_ (m_ (e_ (cs_ rfl (fun g'1=>W.reg0 rfl fun _ _=>f_ H2 (l_ rfl B0 rfl rfl (b_ rfl rfl (abin_and _ _ _) (f_ H6 (so_ rfl B4099 rfl rfl rfl (e_ (w109_3 (m4099:=(Val.mk m4099.kind (bAnd .i64 m0.int 1) m4099.text m4099.list m4099.cut)) hQ H1 H2 H6 H7 H8 Ab4099 (lk_other rfl B0) lk_here (h.1 g'1)))))))) (fun g'1=>q_ rfl (b_ rfl rfl eql_ (m_ (e_ (cs_ rfl (fun g'2=>W.reg0 rfl fun _ _=>f_ H2 (l_ rfl B0 rfl rfl (f_ H6 (so_ rfl B4099 rfl rfl rfl (e_ (w109_3 (m4099:=(Val.mk m4099.kind m0.int m4099.text m4099.list m4099.cut)) hQ H1 H2 H6 H7 H8 Ab4099 (lk_other rfl B0) lk_here ((h.2 g'1).1 g'2))))))) (fun g'2=>q_ rfl (b_ rfl rfl eql_ (m_ (e_ (cs_ rfl (fun g'3=>W.reg0 rfl fun _ _=>f_ H2 (l_ rfl B0 rfl rfl (f_ H6 (so_ rfl B4099 rfl rfl rfl (e_ (w109_3 (m4099:=(Val.mk m4099.kind m4099.int m0.text m4099.list m4099.cut)) hQ H1 H2 H6 H7 H8 Ab4099 (lk_other rfl B0) lk_here (((h.2 g'1).2 g'2).1 g'3))))))) (fun g'3=>q_ rfl (b_ rfl rfl eql_ (m_ (e_ (cs_ rfl (fun g'4=>W.reg0 rfl fun _ _=>f_ H2 (l_ rfl B0 rfl rfl (f_ H6 (so_ rfl B4099 rfl rfl rfl (m_ (e_ (w109_3 (m4099:=(Val.mk m4099.kind m4099.int m4099.text m4099.list m0.cut)) hQ H1 H2 H6 rfl H8 Ab4099 (lk_other rfl B0) lk_here ((((h.2 g'1).2 g'2).2 g'3).1 g'4)))))))) (fun g'4=>q_ rfl (b_ rfl rfl eql_ (m_ (e_ (cs_ rfl (fun g'5=>W.reg0 rfl fun _ _=>m_ (e_ (w109_3 hQ H1 H2 H6 rfl H8 Ab4099 B0 B4099 (((((h.2 g'1).2 g'2).2 g'3).2 g'4).1 g'5)))) (fun g'5=>q_ rfl (b_ rfl rfl eql_ (m_ (e_ (cs_ rfl (fun g'6=>W.reg0 rfl fun _ _=>m_ (m_ (e_ (w109_3 hQ H1 H2 H6 rfl rfl Ab4099 B0 B4099 ((((((h.2 g'1).2 g'2).2 g'3).2 g'4).2 g'5).1 g'6))))) (fun g'6=>q_ rfl (b_ rfl rfl eql_ (m_ (e_ (cs_ rfl (fun g'7=>W.reg0 rfl fun _ _=>f_ H2 (l_ rfl B0 rfl rfl (f_ H6 (so_ rfl B4099 rfl rfl rfl (m_ (e_ (w109_3 (m4099:=(Val.mk m4099.kind m4099.int m4099.text m4099.list m0.cut)) hQ H1 H2 H6 rfl H8 Ab4099 (lk_other rfl B0) lk_here (((((((h.2 g'1).2 g'2).2 g'3).2 g'4).2 g'5).2 g'6).1 g'7)))))))) (fun g'7=>q_ rfl (m_ (m_ (e_ (rt_ (hQ _ _ _ _ rfl rfl (((((((h.2 g'1).2 g'2).2 g'3).2 g'4).2 g'5).2 g'6).2 g'7)))))))))))))))))))))))))))))))))))))))))))))))
theorem w109_1 {nest1:Int}{m0:Val}{v0:Nat}(H1:σ 1 = .i .i64 nest1)(H2:σ 2 = .p (d,0) v0 0)(B0:lk st.bx (d,0) = some (v0,[.i .u8 m0.kind,.i .i64 m0.int,.s m0.text,.sl .ext (List.map Val.row m0.list),.b m0.cut]))(h:T109_1 prog K nest1 m0):W prog d c109_5 σ st Q:=
 sq_ (W.reg (f_ H2 (l_ rfl (lk_other rfl B0) rfl rfl (s_build (f_cons rfl rfl f_nil) (s_alloc (so_ rfl (show lk _ (d,4099) = some (_,([.i .u8 0,.i .i64 0,.s [],.sl .full (List.map Val.row ([]:List Val)),.b false]:List AV)) from lk_here) rfl rfl rfl (m_ (m_ (e_ (w109_2 (m4099:=(Val.mk m0.kind 0 [] ([]:List Val) false)) hQ H1 H2 rfl rfl rfl ApM.full (lk_other rfl (lk_other rfl B0)) lk_here h))))))))))
theorem w109_0 {v0:Val}{nest1:Int}(H0:σ 0 = v0.av)(H1:σ 1 = .i .i64 nest1)(h:T109_0 prog K v0 nest1):W prog d (.seq (.reg 0 r109_0) c109_5) σ st Q:=
 q_ rfl (s_box H0 rfl (m_ (m_ (e_ (w109_1 hQ H1 rfl lk_here h)))))
end
theorem p109 {prog:Prog}(hf:prog.fn 109 = some pf109){v0:Val}{nest1:Int}{K:Int→Bool→Prop}(h:T109_0 prog K v0 nest1) :∃res0:Int,∃res1:Bool,K res0 res1∧Pus prog 109 [v0.av,.i .i64 nest1] (.tup [.i .i64 res0,.b res1]):=by
  obtain ⟨v,hv,res0,res1,hk,rfl⟩:=Pus.of (K:=fun v=>∃res0:Int,∃res1:Bool,K res0 res1∧v = .tup [.i .i64 res0,.b res1]) hf rfl (w109_0 (σ:=sl0 [v0.av,.i .i64 nest1]) (fun σ st   res0 res1 H4 H5 hk=>⟨.tup [.i .i64 res0,.b res1],by simp only [pf109,ares,aresL,H4,H5,ares1,Option.map_some],_,rfl,res0,res1,hk,rfl⟩) rfl rfl h)
  exact ⟨res0,res1,hk,hv⟩
def r110_0:List AI:=[oO 2 (.box 5 (.t 0)),
 oC 4 (.b false)]
def r110_1:List AI:=[oM 7 1,
 oB 8 .eql (.t 7) (.c (.i .i64 0))]
def r110_2:List AI:=[oC 4 (.b false)]
def r110_3:List AI:=[oF 9 0 2,
 oL 10 9]
def r110_4:List AI:=[oB 12 .eql (.t 10) (.c (.i .u8 1)),
 oM 11 12]
def r110_5:List AI:=[oO 13 (.load 5 true (.t 2)),
 oO 14 (.call false 136 [(.t 13)]),
 oM 15 14,
 oG 16 (.fad 2 (.t 2)) 15 true,
 oG 17 (.load 1 false (.t 16)) 15 true,
 oG 18 (.bin .eql (.t 17) (.c (.s []))) 15 true,
 oO 19 (.pick (.t 15) (.t 18) (.c (.b false))),
 oM 20 19,
 oG 21 (.fad 1 (.t 2)) 20 true,
 oG 22 (.load 1 false (.t 21)) 20 true,
 oG 23 (.bin .eql (.t 22) (.c (.i .i64 0))) 20 true,
 oG 24 (.mv (.t 23)) 20 true,
 oG 25 (.fad 1 (.t 2)) 24 false,
 oG 26 (.load 1 false (.t 25)) 24 false,
 oG 27 (.bin .eql (.t 26) (.c (.i .i64 1))) 24 false,
 oG 28 (.pick (.t 24) (.c (.b true)) (.t 27)) 20 true,
 oO 29 (.pick (.t 20) (.t 28) (.c (.b false))),
 oM 4 29]
def r110_6:List AI:=[oB 31 .eql (.t 10) (.c (.i .u8 2)),
 oM 30 31]
def r110_7:List AI:=[oO 32 (.load 5 true (.t 2)),
 oO 33 (.call false 136 [(.t 32)]),
 oM 34 33,
 oG 35 (.fad 2 (.t 2)) 34 true,
 oG 36 (.load 1 false (.t 35)) 34 true,
 oG 37 (.bin .eql (.t 36) (.c (.s []))) 34 true,
 oO 38 (.pick (.t 34) (.t 37) (.c (.b false))),
 oM 4 38]
def r110_8:List AI:=[oB 40 .eql (.t 10) (.c (.i .u8 3)),
 oM 39 40]
def r110_9:List AI:=[oO 41 (.load 5 true (.t 2)),
 oO 42 (.call false 136 [(.t 41)]),
 oM 43 42,
 oG 44 (.fad 1 (.t 2)) 43 true,
 oG 45 (.load 1 false (.t 44)) 43 true,
 oG 46 (.bin .eql (.t 45) (.c (.i .i64 0))) 43 true,
 oO 47 (.pick (.t 43) (.t 46) (.c (.b false))),
 oM 48 47,
 oG 49 (.fad 2 (.t 2)) 48 true,
 oG 50 (.load 1 false (.t 49)) 48 true,
 oG 51 (.len true (.t 50)) 48 true,
 oG 52 (.bin .leq (.t 51) (.c (.i .i64 64))) 48 true,
 oO 53 (.pick (.t 48) (.t 52) (.c (.b false))),
 oM 4 53]
def r110_10:List AI:=[oF 54 0 2,
 oL 55 54,
 oB 56 .lss (.t 55) (.c (.i .u8 4)),
 oM 57 56,
 oG 58 (.fad 0 (.t 2)) 57 false,
 oG 59 (.load 1 false (.t 58)) 57 false,
 oG 60 (.bin .gtr (.t 59) (.c (.i .u8 7))) 57 false,
 oO 61 (.pick (.t 57) (.c (.b true)) (.t 60)),
 oM 62 61,
 oG 63 (.fad 1 (.t 2)) 62 false,
 oG 64 (.load 1 false (.t 63)) 62 false,
 oG 65 (.bin .neq (.t 64) (.c (.i .i64 0))) 62 false,
 oO 66 (.pick (.t 62) (.c (.b true)) (.t 65)),
 oM 67 66,
 oG 68 (.fad 2 (.t 2)) 67 false,
 oG 69 (.load 1 false (.t 68)) 67 false,
 oG 70 (.bin .neq (.t 69) (.c (.s []))) 67 false,
 oO 71 (.pick (.t 67) (.c (.b true)) (.t 70))]
def r110_11:List AI:=[oC 4 (.b false)]
def r110_12:List AI:=[oC 5 (.i .i64 16)]
def r110_13:List AI:=[oF 72 0 2,
 oL 73 72,
 oB 74 .eql (.t 73) (.c (.i .u8 4))]
def r110_14:List AI:=[oC 5 (.i .i64 1)]
def r110_15:List AI:=[oF 75 0 2,
 oL 76 75,
 oB 77 .eql (.t 76) (.c (.i .u8 5))]
def r110_16:List AI:=[oC 5 (.i .i64 8)]
def r110_17:List AI:=[oF 78 3 2,
 oL 79 78,
 oO 80 (.len false (.t 79)),
 oM 81 5,
 oB 82 .gtr (.t 80) (.t 81),
 oM 83 82,
 oG 84 (.fad 0 (.t 2)) 83 false,
 oG 85 (.load 1 false (.t 84)) 83 false,
 oG 86 (.bin .eql (.t 85) (.c (.i .u8 6))) 83 false,
 oG 87 (.mv (.t 86)) 83 false,
 oG 88 (.fad 3 (.t 2)) 87 true,
 oG 89 (.load 1 false (.t 88)) 87 true,
 oG 90 (.len false (.t 89)) 87 true,
 oG 91 (.bin .eql (.t 90) (.c (.i .i64 0))) 87 true,
 oG 92 (.pick (.t 87) (.t 91) (.c (.b false))) 83 false,
 oO 93 (.pick (.t 83) (.c (.b true)) (.t 92))]
def r110_18:List AI:=[oC 4 (.b false)]
def r110_19:List AI:=[oF 94 4 2,
 oL 95 94,
 oM 96 95,
 oG 97 (.fad 3 (.t 2)) 96 true,
 oG 98 (.load 1 false (.t 97)) 96 true,
 oG 99 (.len false (.t 98)) 96 true,
 oG 100 (.bin .gtr (.t 99) (.c (.i .i64 0))) 96 true,
 oG 101 (.mv (.t 100)) 96 true,
 oG 102 (.fad 0 (.t 2)) 101 false,
 oG 103 (.load 1 false (.t 102)) 101 false,
 oG 104 (.bin .neq (.t 103) (.c (.i .u8 4))) 101 false,
 oG 105 (.mv (.t 104)) 101 false,
 oG 106 (.fad 0 (.t 2)) 105 true,
 oG 107 (.load 1 false (.t 106)) 105 true,
 oG 108 (.bin .neq (.t 107) (.c (.i .u8 7))) 105 true,
 oG 109 (.pick (.t 105) (.t 108) (.c (.b false))) 101 false,
 oG 110 (.pick (.t 101) (.c (.b true)) (.t 109)) 96 true,
 oO 111 (.pick (.t 96) (.t 110) (.c (.b false)))]
def r110_20:List AI:=[oC 4 (.b false)]
def r110_21:List AI:=[oC 6 (.i .i64 0)]
def r110_22:List AI:=[oM 112 6,
 oF 113 3 2,
 oL 114 113,
 oO 115 (.len false (.t 114)),
 oB 116 .lss (.t 112) (.t 115)]
def r110_23:List AI:=[oF 119 3 2,
 oL 120 119,
 oM 121 6,
 oO 122 (.iaL 5 (.t 120) (.t 121)),
 oO 123 (.load 5 true (.t 122)),
 oM 124 1,
 oB 125 .sub (.t 124) (.c (.i .i64 1)),
 oO 126 (.call false 110 [(.t 123),(.t 125)]),
 oO 127 (.un .not (.t 126))]
def r110_24:List AI:=[oC 4 (.b false)]
def r110_25:List AI:=[oM 117 6,
 oB 118 .add (.t 117) (.c (.i .i64 1)),
 oM 6 118]
def r110_26:List AI:=[oC 4 (.b true)]
abbrev l110_0:AC:=(.seq (.seq (.reg 22 r110_22) (.cond (.t 116) .skip (.exit 1))) (.seq (.block 2 (.seq (.reg 24 r110_23) (.cond (.t 127) (.seq (.reg 25 r110_24) .ret) .skip))) (.reg 23 r110_25)))
abbrev c110_1:AC:=(.seq (.reg 26 r110_26) .ret)
abbrev c110_2:AC:=(.seq (.seq (.reg 17 r110_17) (.cond (.t 93) (.seq (.reg 18 r110_18) .ret) .skip)) (.seq (.seq (.reg 19 r110_19) (.cond (.t 111) (.seq (.reg 20 r110_20) .ret) .skip)) (.seq (.seq (.reg 21 r110_21) (.block 1 (.loop l110_0))) c110_1)))
abbrev c110_3:AC:=(.seq (.seq (.reg 15 r110_15) (.cond (.t 77) (.reg 16 r110_16) .skip)) c110_2)
abbrev c110_4:AC:=(.seq (.seq (.reg 13 r110_13) (.cond (.t 74) (.reg 14 r110_14) .skip)) c110_3)
abbrev c110_5:AC:=(.seq (.reg 12 r110_12) c110_4)
abbrev c110_6:AC:=(.seq (.seq (.reg 10 r110_10) (.cond (.t 71) (.seq (.reg 11 r110_11) .ret) .skip)) c110_5)
abbrev c110_7:AC:=(.seq (.seq (.reg 3 r110_3) (.block 0 (.seq (.reg 4 r110_4) (.cond (.t 11) (.seq (.reg 5 r110_5) .ret) (.seq (.reg 6 r110_6) (.cond (.t 30) (.seq (.reg 7 r110_7) .ret) (.seq (.reg 8 r110_8) (.cond (.t 39) (.seq (.reg 9 r110_9) .ret) .skip)))))))) c110_6)
abbrev c110_8:AC:=(.seq (.seq (.reg 1 r110_1) (.cond (.t 8) (.seq (.reg 2 r110_2) .ret) .skip)) c110_7)
abbrev b110:AC:=(.seq (.reg 0 r110_0) c110_8)
def pf110:AF:={ nt:=128,res:=[.tmp 4],body:=b110 }
abbrev H110 (Q:AE→Sl→St→Prop)(K:Bool→Prop):Prop:=∀(σ:Sl)(st:St)(res0:Bool),σ 4 = .b res0→K res0→Q .ret σ st
abbrev I110_0 (prog:Prog)(d:Nat)(Q:AE→Sl→St→Prop)(deep1:Int)(i6:Int)(m0:Val):Prop:=
  ∀(σ:Sl)(st:St)(v0:Nat),σ 1 = .i .i64 deep1→σ 2 = .p (d,0) v0 0→σ 6 = .i .i64 i6→lk st.bx (d,0) = some (v0,[.i .u8 m0.kind,.i .i64 m0.int,.s m0.text,.sl .ext (List.map Val.row m0.list),.b m0.cut])→W prog d (.loop l110_0) σ st (blockW 1 (thenW prog d c110_1 Q))
def T110_9 (prog:Prog)(K:Bool→Prop) :Prop:=
  K true
def T110_8 (prog:Prog)(K:Bool→Prop)(P0:Int→Val→Prop)(deep1:Int)(i6:Int)(m0:Val):Prop:=
  (i6 < (m0.list.length:Int)→0≤i6∧∃c'2:Val,m0.list[(i6).toNat]? = some c'2∧∃r'4:Bool,Pus prog 110 [c'2.av,.i .i64 (IntKind.i64.wrap (deep1 - 1))] (.b r'4)∧((!r'4) = true→K false)∧((!r'4) = false→P0 (IntKind.i64.wrap (i6 + 1)) m0))∧(¬(i6 < (m0.list.length:Int))→T110_9 prog K )
def T110_7 (prog:Prog)(K:Bool→Prop)(deep1:Int)(most5:Int)(m0:Val):Prop:=
  ((m0.list.length:Int) > most5→K false)∧(¬((m0.list.length:Int) > most5)→(m0.kind = 6→((m0.list.length:Int) = 0→K false)∧(¬((m0.list.length:Int) = 0)→(m0.cut = true→((m0.list.length:Int) > 0→K false)∧(¬((m0.list.length:Int) > 0)→(m0.kind≠4→(m0.kind≠7→K false)∧(¬(m0.kind≠7)→∀P0:Int→Val→Prop,(∀(i6:Int)(m0:Val),T110_8 prog K P0 deep1 i6 m0→P0 i6 m0)→P0 0 m0))∧(¬(m0.kind≠4)→∀P0:Int→Val→Prop,(∀(i6:Int)(m0:Val),T110_8 prog K P0 deep1 i6 m0→P0 i6 m0)→P0 0 m0)))∧(m0.cut = false→∀P0:Int→Val→Prop,(∀(i6:Int)(m0:Val),T110_8 prog K P0 deep1 i6 m0→P0 i6 m0)→P0 0 m0)))∧(¬(m0.kind = 6)→(m0.cut = true→((m0.list.length:Int) > 0→K false)∧(¬((m0.list.length:Int) > 0)→(m0.kind≠4→(m0.kind≠7→K false)∧(¬(m0.kind≠7)→∀P0:Int→Val→Prop,(∀(i6:Int)(m0:Val),T110_8 prog K P0 deep1 i6 m0→P0 i6 m0)→P0 0 m0))∧(¬(m0.kind≠4)→∀P0:Int→Val→Prop,(∀(i6:Int)(m0:Val),T110_8 prog K P0 deep1 i6 m0→P0 i6 m0)→P0 0 m0)))∧(m0.cut = false→∀P0:Int→Val→Prop,(∀(i6:Int)(m0:Val),T110_8 prog K P0 deep1 i6 m0→P0 i6 m0)→P0 0 m0)))
def T110_6 (prog:Prog)(K:Bool→Prop)(deep1:Int)(most5:Int)(m0:Val):Prop:=
  (m0.kind = 5→T110_7 prog K deep1 8 m0)∧(¬(m0.kind = 5)→T110_7 prog K deep1 most5 m0)
def T110_5 (prog:Prog)(K:Bool→Prop)(deep1:Int)(most5:Int)(m0:Val):Prop:=
  (m0.kind = 4→T110_6 prog K deep1 1 m0)∧(¬(m0.kind = 4)→T110_6 prog K deep1 most5 m0)
def T110_4 (prog:Prog)(K:Bool→Prop)(deep1:Int)(m0:Val):Prop:=
  T110_5 prog K deep1 16 m0
def T110_3 (prog:Prog)(K:Bool→Prop)(deep1:Int)(m0:Val):Prop:=
  (m0.kind < 4→K false)∧(¬(m0.kind < 4)→(m0.kind > 7→K false)∧(¬(m0.kind > 7)→(m0.int≠0→K false)∧(¬(m0.int≠0)→(m0.text≠([]:List UInt8)→K false)∧(¬(m0.text≠([]:List UInt8))→T110_4 prog K deep1 m0))))
def T110_2 (prog:Prog)(K:Bool→Prop)(deep1:Int)(m0:Val):Prop:=
  (m0.kind = 1→∃r'2:Bool,Pus prog 136 [m0.av] (.b r'2)∧(r'2 = true→(m0.text = ([]:List UInt8)→(m0.int = 0→K true)∧(¬(m0.int = 0)→K (decide (m0.int = 1))))∧(¬(m0.text = ([]:List UInt8))→K false))∧(r'2 = false→K false))∧(¬(m0.kind = 1)→(m0.kind = 2→∃r'8:Bool,Pus prog 136 [m0.av] (.b r'8)∧(r'8 = true→K (decide (m0.text = ([]:List UInt8))))∧(r'8 = false→K false))∧(¬(m0.kind = 2)→(m0.kind = 3→∃r'12:Bool,Pus prog 136 [m0.av] (.b r'12)∧(r'12 = true→(m0.int = 0→K (decide ((m0.text.length:Int)≤64)))∧(¬(m0.int = 0)→K false))∧(r'12 = false→K false))∧(¬(m0.kind = 3)→T110_3 prog K deep1 m0)))
def T110_1 (prog:Prog)(K:Bool→Prop)(deep1:Int)(m0:Val):Prop:=
  (deep1 = 0→K false)∧(¬(deep1 = 0)→T110_2 prog K deep1 m0)
def T110_0 (prog:Prog)(K:Bool→Prop)(v0:Val)(deep1:Int):Prop:=
  T110_1 prog K deep1 v0
section
variable {prog:Prog}{d:Nat}{Q:AE→Sl→St→Prop}{K:Bool→Prop}(hQ:H110 Q K){σ:Sl}{st:St}
include hQ
theorem w110_9 (h:T110_9 prog K ):W prog d c110_1 σ st Q:=
 q_ rfl (m_ (e_ (rt_ (hQ _ _ _ rfl h))))
theorem w110_8 {deep1 i6:Int}{m0:Val}{P0:Int→Val→Prop} (kP0 :∀(i6:Int)(m0:Val),P0 i6 m0→I110_0 prog d Q deep1 i6 m0){v0:Nat}(H1:σ 1 = .i .i64 deep1)(H2:σ 2 = .p (d,0) v0 0)(H6:σ 6 = .i .i64 i6)(B0:lk st.bx (d,0) = some (v0,[.i .u8 m0.kind,.i .i64 m0.int,.s m0.text,.sl .ext (List.map Val.row m0.list),.b m0.cut]))(h:T110_8 prog K P0 deep1 i6 m0):W prog d l110_0 σ st (thenW prog d (.loop l110_0) (blockW 1 (thenW prog d c110_1 Q))):=
 sq_ (q_ rfl (m_ (f_ H2 (l_ rfl B0 rfl rfl (ll_ rfl (b_ H6 rfl lss_ (e_ (cs_ rfl (fun g'1=>sk_ (sq_ (bk_ (q_ rfl (f_ H2 (l_ rfl B0 rfl rfl (m_ ((h.1 g'1).2.elim fun c'2 e'3=>ia_ rfl H6 (h.1 g'1).1 e'3.1 (Val.row_eq c'2) rfl (lf_ rfl rfl rfl (m_ (b_ H1 rfl sub_ (e'3.2.elim fun r'4 e'5=>ca_ (sc rfl rfl (sc rfl rfl sn)) e'5.1 (nt_ rfl (e_ (cb_ rfl (fun g'6=>q_ rfl (m_ (e_ (rt_ (hQ _ _ _ rfl (e'5.2.1 g'6)))))) (fun g'6=>sk_ (W.reg0 rfl fun _ _=>m_ (b_ H6 rfl add_ (m_ (e_ (kP0 _ _ (e'5.2.2 g'6) _ _ _ H1 H2 rfl B0))))))))))))))))))))) (fun g'1=>ex_ (w110_9 hQ (h.2 g'1)))))))))))
theorem w110_7 {deep1 most5:Int}{m0:Val}{v0:Nat}(H1:σ 1 = .i .i64 deep1)(H2:σ 2 = .p (d,0) v0 0)(H5:σ 5 = .i .i64 most5)(B0:lk st.bx (d,0) = some (v0,[.i .u8 m0.kind,.i .i64 m0.int,.s m0.text,.sl .ext (List.map Val.row m0.list),.b m0.cut]))(h:T110_7 prog K deep1 most5 m0):W prog d c110_2 σ st Q:=
 sq_ (q_ rfl (f_ H2 (l_ rfl B0 rfl rfl (ll_ rfl (s_mvI H5 (b_ rfl rfl gtr_ (s_mvB rfl (em_ (g:=83) rfl (fun g'1=>gn_ (b:=true) rfl rfl (gn_ (b:=true) rfl rfl (gn_ (b:=true) rfl rfl (gn_ (b:=true) rfl rfl (gt_ rfl (gt_ rfl (gt_ rfl (gt_ rfl (gn_ (b:=true) rfl rfl (pt_ rfl rfl (e_ (ct_ rfl (q_ rfl (m_ (e_ (rt_ (hQ _ _ _ rfl (h.1 g'1)))))))))))))))))) (fun g'1=>gy_ rfl (f_ H2 (gy_ rfl (l_ rfl B0 rfl rfl (gy_ rfl (b_ rfl rfl eql_ (gy_ rfl (s_mvB rfl (em_ (g:=87) rfl (fun g'2=>gy_ rfl (f_ H2 (gy_ rfl (l_ rfl B0 rfl rfl (gy_ rfl (ll_ rfl (gy_ rfl (b_ rfl rfl eql_ (gy_ rfl (pt_ rfl rfl (pf_ rfl rfl (e_ (cs_ rfl (fun g'3=>q_ rfl (m_ (e_ (rt_ (hQ _ _ _ rfl (((h.2 g'1).1 g'2).1 g'3)))))) (fun g'3=>sk_ (sq_ (q_ rfl (f_ H2 (l_ rfl B0 rfl rfl (s_mvB rfl (eb_ (g:=96) rfl (fun g'4=>gy_ rfl (f_ H2 (gy_ rfl (l_ rfl B0 rfl rfl (gy_ rfl (ll_ rfl (gy_ rfl (b_ rfl rfl gtr_ (gy_ rfl (s_mvB rfl (em_ (g:=101) rfl (fun g'5=>gn_ (b:=true) rfl rfl (gn_ (b:=true) rfl rfl (gn_ (b:=true) rfl rfl (gn_ (b:=true) rfl rfl (gt_ rfl (gt_ rfl (gt_ rfl (gn_ (b:=true) rfl rfl (gy_ rfl (pt_ rfl rfl (pt_ rfl rfl (e_ (ct_ rfl (q_ rfl (m_ (e_ (rt_ (hQ _ _ _ rfl (((((h.2 g'1).1 g'2).2 g'3).1 g'4).1 g'5))))))))))))))))))) (fun g'5=>gy_ rfl (f_ H2 (gy_ rfl (l_ rfl B0 rfl rfl (gy_ rfl (b_ rfl rfl neq_ (gy_ rfl (s_mvB rfl (em_ (g:=105) rfl (fun g'6=>gy_ rfl (f_ H2 (gy_ rfl (l_ rfl B0 rfl rfl (gy_ rfl (b_ rfl rfl neq_ (gy_ rfl (pt_ rfl rfl (gy_ rfl (pf_ rfl rfl (pt_ rfl rfl (e_ (cs_ rfl (fun g'7=>q_ rfl (m_ (e_ (rt_ (hQ _ _ _ rfl (((((((h.2 g'1).1 g'2).2 g'3).1 g'4).2 g'5).1 g'6).1 g'7)))))) (fun g'7=>sk_ (sq_ (q_ rfl (m_ (e_ (bk_ ((((((((h.2 g'1).1 g'2).2 g'3).1 g'4).2 g'5).1 g'6).2 g'7) (I110_0 prog d Q deep1) (fun _ _ hb _ _ _ H1 H2 H6 B0=>W.loop (w110_8 hQ (fun _ _ x=>x) H1 H2 H6 B0 hb)) _ _ _ H1 H2 rfl B0)))))))))))))))))))) (fun g'6=>gn_ (b:=false) rfl rfl (gn_ (b:=false) rfl rfl (gn_ (b:=false) rfl rfl (gy_ rfl (pf_ rfl rfl (gy_ rfl (pf_ rfl rfl (pt_ rfl rfl (e_ (cf_ rfl (sk_ (sq_ (q_ rfl (m_ (e_ (bk_ (((((((h.2 g'1).1 g'2).2 g'3).1 g'4).2 g'5).2 g'6) (I110_0 prog d Q deep1) (fun _ _ hb _ _ _ H1 H2 H6 B0=>W.loop (w110_8 hQ (fun _ _ x=>x) H1 H2 H6 B0 hb)) _ _ _ H1 H2 rfl B0))))))))))))))))))))))))))))))))))))) (fun g'4=>gn_ (b:=false) rfl rfl (gn_ (b:=false) rfl rfl (gn_ (b:=false) rfl rfl (gn_ (b:=false) rfl rfl (gn_ (b:=false) rfl rfl (gt_ rfl (gt_ rfl (gt_ rfl (gt_ rfl (gt_ rfl (gt_ rfl (gt_ rfl (gt_ rfl (gn_ (b:=false) rfl rfl (pf_ rfl rfl (e_ (cf_ rfl (sk_ (sq_ (q_ rfl (m_ (e_ (bk_ (((((h.2 g'1).1 g'2).2 g'3).2 g'4) (I110_0 prog d Q deep1) (fun _ _ hb _ _ _ H1 H2 H6 B0=>W.loop (w110_8 hQ (fun _ _ x=>x) H1 H2 H6 B0 hb)) _ _ _ H1 H2 rfl B0)))))))))))))))))))))))))))))))))))))))))))) (fun g'2=>gn_ (b:=false) rfl rfl (gn_ (b:=false) rfl rfl (gn_ (b:=false) rfl rfl (gn_ (b:=false) rfl rfl (gy_ rfl (pf_ rfl rfl (pf_ rfl rfl (e_ (cf_ rfl (sk_ (sq_ (q_ rfl (f_ H2 (l_ rfl B0 rfl rfl (s_mvB rfl (eb_ (g:=96) rfl (fun g'8=>gy_ rfl (f_ H2 (gy_ rfl (l_ rfl B0 rfl rfl (gy_ rfl (ll_ rfl (gy_ rfl (b_ rfl rfl gtr_ (gy_ rfl (s_mvB rfl (em_ (g:=101) rfl (fun g'9=>gn_ (b:=true) rfl rfl (gn_ (b:=true) rfl rfl (gn_ (b:=true) rfl rfl (gn_ (b:=true) rfl rfl (gt_ rfl (gt_ rfl (gt_ rfl (gn_ (b:=true) rfl rfl (gy_ rfl (pt_ rfl rfl (pt_ rfl rfl (e_ (ct_ rfl (q_ rfl (m_ (e_ (rt_ (hQ _ _ _ rfl ((((h.2 g'1).2 g'2).1 g'8).1 g'9))))))))))))))))))) (fun g'9=>gy_ rfl (f_ H2 (gy_ rfl (l_ rfl B0 rfl rfl (gy_ rfl (b_ rfl rfl neq_ (gy_ rfl (s_mvB rfl (em_ (g:=105) rfl (fun g'10=>gy_ rfl (f_ H2 (gy_ rfl (l_ rfl B0 rfl rfl (gy_ rfl (b_ rfl rfl neq_ (gy_ rfl (pt_ rfl rfl (gy_ rfl (pf_ rfl rfl (pt_ rfl rfl (e_ (cs_ rfl (fun g'11=>q_ rfl (m_ (e_ (rt_ (hQ _ _ _ rfl ((((((h.2 g'1).2 g'2).1 g'8).2 g'9).1 g'10).1 g'11)))))) (fun g'11=>sk_ (sq_ (q_ rfl (m_ (e_ (bk_ (((((((h.2 g'1).2 g'2).1 g'8).2 g'9).1 g'10).2 g'11) (I110_0 prog d Q deep1) (fun _ _ hb _ _ _ H1 H2 H6 B0=>W.loop (w110_8 hQ (fun _ _ x=>x) H1 H2 H6 B0 hb)) _ _ _ H1 H2 rfl B0)))))))))))))))))))) (fun g'10=>gn_ (b:=false) rfl rfl (gn_ (b:=false) rfl rfl (gn_ (b:=false) rfl rfl (gy_ rfl (pf_ rfl rfl (gy_ rfl (pf_ rfl rfl (pt_ rfl rfl (e_ (cf_ rfl (sk_ (sq_ (q_ rfl (m_ (e_ (bk_ ((((((h.2 g'1).2 g'2).1 g'8).2 g'9).2 g'10) (I110_0 prog d Q deep1) (fun _ _ hb _ _ _ H1 H2 H6 B0=>W.loop (w110_8 hQ (fun _ _ x=>x) H1 H2 H6 B0 hb)) _ _ _ H1 H2 rfl B0))))))))))))))))))))))))))))))))))))) (fun g'8=>gn_ (b:=false) rfl rfl (gn_ (b:=false) rfl rfl (gn_ (b:=false) rfl rfl (gn_ (b:=false) rfl rfl (gn_ (b:=false) rfl rfl (gt_ rfl (gt_ rfl (gt_ rfl (gt_ rfl (gt_ rfl (gt_ rfl (gt_ rfl (gt_ rfl (gn_ (b:=false) rfl rfl (pf_ rfl rfl (e_ (cf_ rfl (sk_ (sq_ (q_ rfl (m_ (e_ (bk_ ((((h.2 g'1).2 g'2).2 g'8) (I110_0 prog d Q deep1) (fun _ _ hb _ _ _ H1 H2 H6 B0=>W.loop (w110_8 hQ (fun _ _ x=>x) H1 H2 H6 B0 hb)) _ _ _ H1 H2 rfl B0)))))))))))))))))))))))))))))))))))))))))))))))))))))))))
theorem w110_6 {deep1 most5:Int}{m0:Val}{v0:Nat}(H1:σ 1 = .i .i64 deep1)(H2:σ 2 = .p (d,0) v0 0)(H5:σ 5 = .i .i64 most5)(B0:lk st.bx (d,0) = some (v0,[.i .u8 m0.kind,.i .i64 m0.int,.s m0.text,.sl .ext (List.map Val.row m0.list),.b m0.cut]))(h:T110_6 prog K deep1 most5 m0):W prog d c110_3 σ st Q:=
 sq_ (q_ rfl (f_ H2 (l_ rfl B0 rfl rfl (b_ rfl rfl eql_ (e_ (cs_ rfl (fun g'1=>W.reg0 rfl fun _ _=>m_ (e_ (w110_7 hQ H1 H2 rfl B0 (h.1 g'1)))) (fun g'1=>sk_ (w110_7 hQ H1 H2 H5 B0 (h.2 g'1)))))))))
theorem w110_5 {deep1 most5:Int}{m0:Val}{v0:Nat}(H1:σ 1 = .i .i64 deep1)(H2:σ 2 = .p (d,0) v0 0)(H5:σ 5 = .i .i64 most5)(B0:lk st.bx (d,0) = some (v0,[.i .u8 m0.kind,.i .i64 m0.int,.s m0.text,.sl .ext (List.map Val.row m0.list),.b m0.cut]))(h:T110_5 prog K deep1 most5 m0):W prog d c110_4 σ st Q:=
 sq_ (q_ rfl (f_ H2 (l_ rfl B0 rfl rfl (b_ rfl rfl eql_ (e_ (cs_ rfl (fun g'1=>W.reg0 rfl fun _ _=>m_ (e_ (w110_6 hQ H1 H2 rfl B0 (h.1 g'1)))) (fun g'1=>sk_ (w110_6 hQ H1 H2 H5 B0 (h.2 g'1)))))))))
theorem w110_4 {deep1:Int}{m0:Val}{v0:Nat}(H1:σ 1 = .i .i64 deep1)(H2:σ 2 = .p (d,0) v0 0)(B0:lk st.bx (d,0) = some (v0,[.i .u8 m0.kind,.i .i64 m0.int,.s m0.text,.sl .ext (List.map Val.row m0.list),.b m0.cut]))(h:T110_4 prog K deep1 m0):W prog d c110_5 σ st Q:=
 q_ rfl (m_ (e_ (w110_5 hQ H1 H2 rfl B0 h)))
theorem w110_3 {deep1:Int}{m0:Val}{v0:Nat}(H1:σ 1 = .i .i64 deep1)(H2:σ 2 = .p (d,0) v0 0)(B0:lk st.bx (d,0) = some (v0,[.i .u8 m0.kind,.i .i64 m0.int,.s m0.text,.sl .ext (List.map Val.row m0.list),.b m0.cut]))(h:T110_3 prog K deep1 m0):W prog d c110_6 σ st Q:=
 sq_ (q_ rfl (f_ H2 (l_ rfl B0 rfl rfl (b_ rfl rfl lss_ (s_mvB rfl (em_ (g:=57) rfl (fun g'1=>gn_ (b:=true) rfl rfl (gn_ (b:=true) rfl rfl (gn_ (b:=true) rfl rfl (pt_ rfl rfl (s_mvB rfl (gn_ (b:=true) rfl rfl (gn_ (b:=true) rfl rfl (gn_ (b:=true) rfl rfl (pt_ rfl rfl (s_mvB rfl (gn_ (b:=true) rfl rfl (gn_ (b:=true) rfl rfl (gn_ (b:=true) rfl rfl (pt_ rfl rfl (e_ (ct_ rfl (q_ rfl (m_ (e_ (rt_ (hQ _ _ _ rfl (h.1 g'1)))))))))))))))))))))) (fun g'1=>gy_ rfl (f_ H2 (gy_ rfl (l_ rfl B0 rfl rfl (gy_ rfl (b_ rfl rfl gtr_ (pf_ rfl rfl (s_mvB rfl (em_ (g:=62) rfl (fun g'2=>gn_ (b:=true) rfl rfl (gn_ (b:=true) rfl rfl (gn_ (b:=true) rfl rfl (pt_ rfl rfl (s_mvB rfl (gn_ (b:=true) rfl rfl (gn_ (b:=true) rfl rfl (gn_ (b:=true) rfl rfl (pt_ rfl rfl (e_ (ct_ rfl (q_ rfl (m_ (e_ (rt_ (hQ _ _ _ rfl ((h.2 g'1).1 g'2))))))))))))))))) (fun g'2=>gy_ rfl (f_ H2 (gy_ rfl (l_ rfl B0 rfl rfl (gy_ rfl (b_ rfl rfl neq_ (pf_ rfl rfl (s_mvB rfl (em_ (g:=67) rfl (fun g'3=>gn_ (b:=true) rfl rfl (gn_ (b:=true) rfl rfl (gn_ (b:=true) rfl rfl (pt_ rfl rfl (e_ (ct_ rfl (q_ rfl (m_ (e_ (rt_ (hQ _ _ _ rfl (((h.2 g'1).2 g'2).1 g'3)))))))))))) (fun g'3=>gy_ rfl (f_ H2 (gy_ rfl (l_ rfl B0 rfl rfl (gy_ rfl (b_ rfl rfl sne_ (pf_ rfl rfl (e_ (cs_ rfl (fun g'4=>q_ rfl (m_ (e_ (rt_ (hQ _ _ _ rfl ((((h.2 g'1).2 g'2).2 g'3).1 g'4)))))) (fun g'4=>sk_ (w110_4 hQ H1 H2 B0 ((((h.2 g'1).2 g'2).2 g'3).2 g'4))))))))))))))))))))))))))))))))))))
theorem w110_2 {deep1:Int}{m0:Val}{v0:Nat}(H1:σ 1 = .i .i64 deep1)(H2:σ 2 = .p (d,0) v0 0)(B0:lk st.bx (d,0) = some (v0,[.i .u8 m0.kind,.i .i64 m0.int,.s m0.text,.sl .ext (List.map Val.row m0.list),.b m0.cut]))(h:T110_2 prog K deep1 m0):W prog d c110_7 σ st Q:=
 sq_ (q_ rfl (f_ H2 (l_ rfl B0 rfl rfl (e_ (bk_ (q_ rfl (b_ rfl rfl eql_ (m_ (e_ (cs_ rfl (fun g'1=>q_ rfl (l_ H2 B0 rfl rfl ((h.1 g'1).elim fun r'2 e'3=>ca_ (sc rfl rfl sn) e'3.1 (s_mvB rfl (eb_ (g:=15) rfl (fun g'4=>gy_ rfl (f_ H2 (gy_ rfl (l_ rfl B0 rfl rfl (gy_ rfl (b_ rfl rfl seq_ (pt_ rfl rfl (s_mvB rfl (em_ (g:=20) rfl (fun g'5=>gy_ rfl (f_ H2 (gy_ rfl (l_ rfl B0 rfl rfl (gy_ rfl (b_ rfl rfl eql_ (gy_ rfl (s_mvB rfl (em_ (g:=24) rfl (fun g'6=>gn_ (b:=true) rfl rfl (gn_ (b:=true) rfl rfl (gn_ (b:=true) rfl rfl (gy_ rfl (pt_ rfl rfl (pt_ rfl rfl (s_mvB rfl (e_ (rt_ (hQ _ _ _ rfl (((e'3.2.1 g'4).1 g'5).1 g'6))))))))))) (fun g'6=>gy_ rfl (f_ H2 (gy_ rfl (l_ rfl B0 rfl rfl (gy_ rfl (b_ rfl rfl eql_ (gy_ rfl (pf_ rfl rfl (pt_ rfl rfl (s_mvB rfl (e_ (rt_ (hQ _ _ _ rfl (((e'3.2.1 g'4).1 g'5).2 g'6))))))))))))))))))))))) (fun g'5=>gn_ (b:=false) rfl rfl (gn_ (b:=false) rfl rfl (gn_ (b:=false) rfl rfl (gn_ (b:=false) rfl rfl (gt_ rfl (gt_ rfl (gt_ rfl (gn_ (b:=false) rfl rfl (pf_ rfl rfl (s_mvB rfl (e_ (rt_ (hQ _ _ _ rfl ((e'3.2.1 g'4).2 g'5))))))))))))))))))))))) (fun g'4=>gn_ (b:=false) rfl rfl (gn_ (b:=false) rfl rfl (gn_ (b:=false) rfl rfl (pf_ rfl rfl (s_mvB rfl (gn_ (b:=false) rfl rfl (gn_ (b:=false) rfl rfl (gn_ (b:=false) rfl rfl (gn_ (b:=false) rfl rfl (gt_ rfl (gt_ rfl (gt_ rfl (gn_ (b:=false) rfl rfl (pf_ rfl rfl (s_mvB rfl (e_ (rt_ (hQ _ _ _ rfl (e'3.2.2 g'4)))))))))))))))))))))))) (fun g'1=>q_ rfl (b_ rfl rfl eql_ (m_ (e_ (cs_ rfl (fun g'7=>q_ rfl (l_ H2 B0 rfl rfl (((h.2 g'1).1 g'7).elim fun r'8 e'9=>ca_ (sc rfl rfl sn) e'9.1 (s_mvB rfl (eb_ (g:=34) rfl (fun g'10=>gy_ rfl (f_ H2 (gy_ rfl (l_ rfl B0 rfl rfl (gy_ rfl (b_ rfl rfl seq_ (pt_ rfl rfl (s_mvB rfl (e_ (rt_ (hQ _ _ _ rfl (e'9.2.1 g'10)))))))))))) (fun g'10=>gn_ (b:=false) rfl rfl (gn_ (b:=false) rfl rfl (gn_ (b:=false) rfl rfl (pf_ rfl rfl (s_mvB rfl (e_ (rt_ (hQ _ _ _ rfl (e'9.2.2 g'10)))))))))))))) (fun g'7=>q_ rfl (b_ rfl rfl eql_ (m_ (e_ (cs_ rfl (fun g'11=>q_ rfl (l_ H2 B0 rfl rfl ((((h.2 g'1).2 g'7).1 g'11).elim fun r'12 e'13=>ca_ (sc rfl rfl sn) e'13.1 (s_mvB rfl (eb_ (g:=43) rfl (fun g'14=>gy_ rfl (f_ H2 (gy_ rfl (l_ rfl B0 rfl rfl (gy_ rfl (b_ rfl rfl eql_ (pt_ rfl rfl (s_mvB rfl (em_ (g:=48) rfl (fun g'15=>gy_ rfl (f_ H2 (gy_ rfl (l_ rfl B0 rfl rfl (gy_ rfl (ln_ rfl (gy_ rfl (b_ rfl rfl leq_ (pt_ rfl rfl (s_mvB rfl (e_ (rt_ (hQ _ _ _ rfl ((e'13.2.1 g'14).1 g'15)))))))))))))) (fun g'15=>gn_ (b:=false) rfl rfl (gn_ (b:=false) rfl rfl (gn_ (b:=false) rfl rfl (gn_ (b:=false) rfl rfl (pf_ rfl rfl (s_mvB rfl (e_ (rt_ (hQ _ _ _ rfl ((e'13.2.1 g'14).2 g'15))))))))))))))))))) (fun g'14=>gn_ (b:=false) rfl rfl (gn_ (b:=false) rfl rfl (gn_ (b:=false) rfl rfl (pf_ rfl rfl (s_mvB rfl (gn_ (b:=false) rfl rfl (gn_ (b:=false) rfl rfl (gn_ (b:=false) rfl rfl (gn_ (b:=false) rfl rfl (pf_ rfl rfl (s_mvB rfl (e_ (rt_ (hQ _ _ _ rfl (e'13.2.2 g'14)))))))))))))))))))) (fun g'11=>sk_ (w110_3 hQ H1 H2 B0 (((h.2 g'1).2 g'7).2 g'11)))))))))))))))))))))))
theorem w110_1 {deep1:Int}{m0:Val}{v0:Nat}(H1:σ 1 = .i .i64 deep1)(H2:σ 2 = .p (d,0) v0 0)(B0:lk st.bx (d,0) = some (v0,[.i .u8 m0.kind,.i .i64 m0.int,.s m0.text,.sl .ext (List.map Val.row m0.list),.b m0.cut]))(h:T110_1 prog K deep1 m0):W prog d c110_8 σ st Q:=
 sq_ (q_ rfl (m_ (b_ H1 rfl eql_ (e_ (cs_ rfl (fun g'1=>q_ rfl (m_ (e_ (rt_ (hQ _ _ _ rfl (h.1 g'1)))))) (fun g'1=>sk_ (w110_2 hQ H1 H2 B0 (h.2 g'1))))))))
theorem w110_0 {v0:Val}{deep1:Int}(H0:σ 0 = v0.av)(H1:σ 1 = .i .i64 deep1)(h:T110_0 prog K v0 deep1):W prog d (.seq (.reg 0 r110_0) c110_8) σ st Q:=
 q_ rfl (s_box H0 rfl (m_ (e_ (w110_1 hQ H1 rfl lk_here h))))
end
theorem p110 {prog:Prog}(hf:prog.fn 110 = some pf110){v0:Val}{deep1:Int}{K:Bool→Prop}(h:T110_0 prog K v0 deep1) :∃res0:Bool,K res0∧Pus prog 110 [v0.av,.i .i64 deep1] (.b res0):=by
  obtain ⟨v,hv,res0,hk,rfl⟩:=Pus.of (K:=fun v=>∃res0:Bool,K res0∧v = .b res0) hf rfl (w110_0 (σ:=sl0 [v0.av,.i .i64 deep1]) (fun σ st   res0 H4 hk=>⟨.b res0,by simp only [pf110,ares,aresL,H4,ares1,Option.map_some],_,rfl,res0,hk,rfl⟩) rfl rfl h)
  exact ⟨res0,hk,hv⟩
def r127_0:List AI:=[oC 2 (.s [])]
def r127_1:List AI:=[oC 3 (.s [])]
def r127_2:List AI:=[oC 4 (.i .i64 0)]
def r127_3:List AI:=[oM 5 4,
 oM 6 0,
 oO 7 (.len false (.t 6)),
 oB 8 .lss (.t 5) (.t 7)]
def r127_4:List AI:=[oM 11 4,
 oB 12 .gtr (.t 11) (.c (.i .i64 0))]
def r127_5:List AI:=[oM 13 3,
 oB 14 .add (.t 13) (.c (.s [44,32])),
 oM 3 14]
def r127_6:List AI:=[oM 15 3,
 oM 16 0,
 oM 17 4,
 oO 18 (.iaL 5 (.t 16) (.t 17)),
 oO 19 (.load 5 true (.t 18)),
 oO 20 (.call false 106 [(.t 19)]),
 oB 21 .add (.t 15) (.t 20),
 oM 3 21]
def r127_7:List AI:=[oM 9 4,
 oB 10 .add (.t 9) (.c (.i .i64 1)),
 oM 4 10]
def r127_8:List AI:=[oM 22 3,
 oM 2 22]
abbrev c127_0:AC:=(.reg 7 r127_6)
abbrev l127_0:AC:=(.seq (.seq (.reg 3 r127_3) (.cond (.t 8) .skip (.exit 0))) (.seq (.block 1 (.seq (.seq (.reg 5 r127_4) (.cond (.t 12) (.reg 6 r127_5) .skip)) c127_0)) (.reg 4 r127_7)))
abbrev c127_2:AC:=(.seq (.reg 8 r127_8) .ret)
abbrev b127:AC:=(.seq (.reg 0 r127_0) (.seq (.reg 1 r127_1) (.seq (.seq (.reg 2 r127_2) (.block 0 (.loop l127_0))) c127_2)))
def pf127:AF:={ nt:=23,res:=[.tmp 2],body:=b127 }
abbrev H127 (Q:AE→Sl→St→Prop)(K:List UInt8→Prop):Prop:=∀(σ:Sl)(st:St)(res0:List UInt8),σ 2 = .s res0→K res0→Q .ret σ st
abbrev I127_0 (prog:Prog)(d:Nat)(Q:AE→Sl→St→Prop)(l0:List Val)(s3:List UInt8)(i4:Int):Prop:=
  ∀(σ:Sl)(st:St)(o_l0:Own),σ 0 = .sl o_l0 (List.map Val.row l0)→σ 3 = .s s3→σ 4 = .i .i64 i4→W prog d (.loop l127_0) σ st (blockW 0 (thenW prog d c127_2 Q))
def T127_2 (prog:Prog)(K:List UInt8→Prop)(P0:List UInt8→Int→Prop)(l0:List Val)(s3:List UInt8)(i4:Int):Prop:=
  0≤i4∧∃c'1:Val,l0[(i4).toNat]? = some c'1∧∃r'3:List UInt8,Pus prog 106 [c'1.av] (.s r'3)∧s3.length + r'3.length≤maxStr∧P0 (s3 ++ r'3) (IntKind.i64.wrap (i4 + 1))
def T127_3 (prog:Prog)(K:List UInt8→Prop)(s3:List UInt8):Prop:=
  K s3
def T127_1 (prog:Prog)(K:List UInt8→Prop)(P0:List UInt8→Int→Prop)(l0:List Val)(s3:List UInt8)(i4:Int):Prop:=
  (i4 < (l0.length:Int)→(i4 > 0→s3.length + ([44,32]:List UInt8).length≤maxStr∧T127_2 prog K P0 l0 (s3 ++ ([44,32]:List UInt8)) i4)∧(¬(i4 > 0)→T127_2 prog K P0 l0 s3 i4))∧(¬(i4 < (l0.length:Int))→T127_3 prog K s3)
def T127_0 (prog:Prog)(K:List UInt8→Prop)(l0:List Val):Prop:=
  ∀P0:List UInt8→Int→Prop,(∀(s3:List UInt8)(i4:Int),T127_1 prog K P0 l0 s3 i4→P0 s3 i4)→P0 ([]:List UInt8) 0
section
variable {prog:Prog}{d:Nat}{Q:AE→Sl→St→Prop}{K:List UInt8→Prop}(hQ:H127 Q K){σ:Sl}{st:St}
include hQ
theorem w127_2 {l0:List Val}{s3:List UInt8}{i4:Int}{P0:List UInt8→Int→Prop} (kP0 :∀(s3:List UInt8)(i4:Int),P0 s3 i4→I127_0 prog d Q l0 s3 i4){o_l0:Own}(H0:σ 0 = .sl o_l0 (List.map Val.row l0))(H3:σ 3 = .s s3)(H4:σ 4 = .i .i64 i4)(h:T127_2 prog K P0 l0 s3 i4):W prog d c127_0 σ st (blockW 1 (thenW prog d (.reg 4 r127_7) (thenW prog d (.loop l127_0) (blockW 0 (thenW prog d c127_2 Q))))):=
 W.reg0 rfl fun _ _=>m_ (s_mvL H0 (m_ (h.2.elim fun c'1 e'2=>ia_ rfl H4 h.1 e'2.1 (Val.row_eq c'1) rfl (lf_ rfl rfl rfl (e'2.2.elim fun r'3 e'4=>ca_ (sc rfl rfl sn) e'4.1 (b_ H3 rfl (abin_cat' e'4.2.1) (m_ (e_ (W.reg0 rfl fun _ _=>m_ (b_ H4 rfl add_ (m_ (e_ (kP0 _ _ e'4.2.2 _ _ _ H0 rfl rfl)))))))))))))
theorem w127_3 {s3:List UInt8}(H3:σ 3 = .s s3)(h:T127_3 prog K s3):W prog d c127_2 σ st Q:=
 q_ rfl (m_ (m_ (e_ (rt_ (hQ _ _ _ H3 h)))))
theorem w127_1 {l0:List Val}{s3:List UInt8}{i4:Int}{P0:List UInt8→Int→Prop} (kP0 :∀(s3:List UInt8)(i4:Int),P0 s3 i4→I127_0 prog d Q l0 s3 i4){o_l0:Own}(H0:σ 0 = .sl o_l0 (List.map Val.row l0))(H3:σ 3 = .s s3)(H4:σ 4 = .i .i64 i4)(h:T127_1 prog K P0 l0 s3 i4):W prog d l127_0 σ st (thenW prog d (.loop l127_0) (blockW 0 (thenW prog d c127_2 Q))):=
 sq_ (q_ rfl (m_ (s_mvL H0 (ll_ rfl (b_ H4 rfl lss_ (e_ (cs_ rfl (fun g'1=>sk_ (sq_ (bk_ (sq_ (q_ rfl (m_ (b_ H4 rfl gtr_ (e_ (cs_ rfl (fun g'2=>W.reg0 rfl fun _ _=>m_ (b_ H3 rfl (abin_cat' ((h.1 g'1).1 g'2).1) (m_ (e_ (w127_2 hQ kP0 H0 rfl H4 ((h.1 g'1).1 g'2).2))))) (fun g'2=>sk_ (w127_2 hQ kP0 H0 H3 H4 ((h.1 g'1).2 g'2)))))))))))) (fun g'1=>ex_ (w127_3 hQ H3 (h.2 g'1))))))))))
theorem w127_0 {l0:List Val}{o_l0:Own}(H0:σ 0 = .sl o_l0 (List.map Val.row l0))(h:T127_0 prog K l0):W prog d (.seq (.reg 0 r127_0) (.seq (.reg 1 r127_1) (.seq (.seq (.reg 2 r127_2) (.block 0 (.loop l127_0))) c127_2))) σ st Q:=
 q_ rfl (m_ (e_ (q_ rfl (m_ (e_ (sq_ (q_ rfl (m_ (e_ (bk_ (h (I127_0 prog d Q l0) (fun _ _ hb _ _ _ H0 H3 H4=>W.loop (w127_1 hQ (fun _ _ x=>x) H0 H3 H4 hb)) _ _ _ H0 rfl rfl)))))))))))
end
theorem p127 {prog:Prog}(hf:prog.fn 127 = some pf127){l0:List Val}{K:List UInt8→Prop}(h:T127_0 prog K l0) :∃res0:List UInt8,K res0∧Pus prog 127 [.sl .ext (List.map Val.row l0)] (.s res0):=by
  obtain ⟨v,hv,res0,hk,rfl⟩:=Pus.of (K:=fun v=>∃res0:List UInt8,K res0∧v = .s res0) hf rfl (w127_0 (σ:=sl0 [.sl .ext (List.map Val.row l0)]) (fun σ st   res0 H2 hk=>⟨.s res0,by simp only [pf127,ares,aresL,H2,ares1,Option.map_some],_,rfl,res0,hk,rfl⟩) rfl h)
  exact ⟨res0,hk,hv⟩
def r136_0:List AI:=[oO 1 (.box 5 (.t 0)),
 oC 2 (.b false)]
def r136_1:List AI:=[oF 3 3 1,
 oL 4 3,
 oO 5 (.len false (.t 4)),
 oB 6 .eql (.t 5) (.c (.i .i64 0)),
 oM 7 6,
 oG 8 (.fad 4 (.t 1)) 7 true,
 oG 9 (.load 1 false (.t 8)) 7 true,
 oG 10 (.un .not (.t 9)) 7 true,
 oO 11 (.pick (.t 7) (.t 10) (.c (.b false))),
 oM 2 11]
abbrev b136:AC:=(.seq (.reg 0 r136_0) (.seq (.reg 1 r136_1) .ret))
def pf136:AF:={ nt:=12,res:=[.tmp 2],body:=b136 }
abbrev H136 (Q:AE→Sl→St→Prop)(K:Bool→Prop):Prop:=∀(σ:Sl)(st:St)(res0:Bool),σ 2 = .b res0→K res0→Q .ret σ st
def T136_0 (prog:Prog)(K:Bool→Prop)(v0:Val):Prop:=
  ((v0.list.length:Int) = 0→K (!v0.cut))∧(¬((v0.list.length:Int) = 0)→K false)
section
variable {prog:Prog}{d:Nat}{Q:AE→Sl→St→Prop}{K:Bool→Prop}(hQ:H136 Q K){σ:Sl}{st:St}
include hQ
theorem w136_0 {v0:Val}(H0:σ 0 = v0.av)(h:T136_0 prog K v0):W prog d (.seq (.reg 0 r136_0) (.seq (.reg 1 r136_1) .ret)) σ st Q:=
 q_ rfl (s_box H0 rfl (m_ (e_ (q_ rfl (f_ rfl (l_ rfl lk_here rfl rfl (ll_ rfl (b_ rfl rfl eql_ (s_mvB rfl (em_ (g:=7) rfl (fun g'1=>gy_ rfl (f_ rfl (gy_ rfl (l_ rfl lk_here rfl rfl (gy_ rfl (nt_ rfl (pt_ rfl rfl (s_mvB rfl (e_ (rt_ (hQ _ _ _ rfl (h.1 g'1)))))))))))) (fun g'1=>gn_ (b:=false) rfl rfl (gn_ (b:=false) rfl rfl (gn_ (b:=false) rfl rfl (pf_ rfl rfl (s_mvB rfl (e_ (rt_ (hQ _ _ _ rfl (h.2 g'1)))))))))))))))))))
end
theorem p136 {prog:Prog}(hf:prog.fn 136 = some pf136){v0:Val}{K:Bool→Prop}(h:T136_0 prog K v0) :∃res0:Bool,K res0∧Pus prog 136 [v0.av] (.b res0):=by
  obtain ⟨v,hv,res0,hk,rfl⟩:=Pus.of (K:=fun v=>∃res0:Bool,K res0∧v = .b res0) hf rfl (w136_0 (σ:=sl0 [v0.av]) (fun σ st   res0 H2 hk=>⟨.b res0,by simp only [pf136,ares,aresL,H2,ares1,Option.map_some],_,rfl,res0,hk,rfl⟩) rfl h)
  exact ⟨res0,hk,hv⟩
end Go.AM
