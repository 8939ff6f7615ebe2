/- Parts of the proof: U39c, U39d, U39e, Rf, Rg, C30, C30b, V38b, V38c, V39, V39b, C38, C38b, C38c. -/
import Derived.Test.YtffbkdcgkhbpoaaG2
import Derived.Test.YtffbkdcgkhbpoaaG1
import Derived.RangeFuncNested
import Derived.RangeFuncCalls
import Derived.Test.YtffbkdcgkhbpoaaG3
import Derived.Test.YtffbkdcgkhbpoaaG4
set_option linter.all false
namespace Go.AM
open Go
set_option linter.unusedVariables false
set_option linter.unusedSimpArgs false
set_option maxRecDepth 4000
attribute [local irreducible] WO fillCells fillRows
def r185_0:List AI:=[oC 2 (.i .i64 0)]
def r185_1:List AI:=[oM 6 0,
 oO 7 (.len false (.t 6)),
 oB 8 .gtr (.t 7) (.c (.i .i64 410))]
def r185_2:List AI:=[oC 2 (.i .i64 4)]
def r185_3:List AI:=[oM 9 0,
 oO 10 (.len false (.t 9)),
 oC 11 (.i .i64 0)]
def r185_4:List AI:=[oB 12 .lss (.t 11) (.t 10)]
def r185_5:List AI:=[oO 13 (.iaL 7 (.t 9) (.t 11)),
 oO 14 (.load 7 true (.t 13)),
 oO 4 (.alloc [.i .u64 0,.i .u8 0,.i .i64 0,.s [],.sl .full [],.b false,.i .u64 0]),
 oS 7 4 14]
def r185_6:List AI:=[oO 15 (.load 7 true (.t 4)),
 oO 16 (.call false 158 [(.t 15)]),
 oM 5 16]
def r185_7:List AI:=[oM 17 5,
 oB 18 .neq (.t 17) (.c (.i .i64 0))]
def r185_8:List AI:=[oM 19 5,
 oM 2 19]
def r185_9:List AI:=[oB 20 .add (.t 11) (.c (.i .i64 1)),
 oM 11 20]
def r185_10:List AI:=[oC 2 (.i .i64 0)]
abbrev l185_0:AC:=(.seq (.reg 4 r185_4) (.seq (.cond (.t 12) .skip (.exit 0)) (.seq (.block 1 (.seq (.reg 5 r185_5) (.seq (.reg 6 r185_6) (.seq (.reg 7 r185_7) (.cond (.t 18) (.seq (.reg 8 r185_8) .ret) .skip))))) (.reg 9 r185_9))))
abbrev c185_1:AC:=(.seq (.reg 10 r185_10) .ret)
abbrev b185:AC:=(.seq (.reg 0 r185_0) (.seq (.seq (.reg 1 r185_1) (.cond (.t 8) (.seq (.reg 2 r185_2) .ret) .skip)) (.seq (.seq (.reg 3 r185_3) (.block 0 (.loop l185_0))) c185_1)))
def pf185:AF:={ nt:=21,res:=[.tmp 2],body:=b185 }
abbrev H185 (Q:AE→Sl→St→Prop)(K:Int→Prop):Prop:=∀(σ:Sl)(st:St)(res0:Int),σ 2 = .i .i64 res0→K res0→Q .ret σ st
abbrev I185_0 (prog:Prog)(d:Nat)(Q:AE→Sl→St→Prop)(t9:List Pan)(t10:Int)(t11:Int):Prop:=
  ∀(σ:Sl)(st:St)(o_t9:Own),σ 9 = .sl o_t9 (List.map Pan.row t9)→σ 10 = .i .i64 t10→σ 11 = .i .i64 t11→W prog d (.loop l185_0) σ st (blockW 0 (thenW prog d c185_1 Q))
def T185_2 (prog:Prog)(K:Int→Prop) :Prop:=
  K 0
def T185_1 (prog:Prog)(K:Int→Prop)(P0:Int→Prop)(t9:List Pan)(t10:Int)(t11:Int):Prop:=
  (t11 < t10→0≤t11∧∃c'2:Pan,t9[(t11).toNat]? = some c'2∧∃r'4:Int,Pus prog 158 [c'2.av] (.i .i64 r'4)∧(r'4≠0→K r'4)∧(¬(r'4≠0)→P0 (IntKind.i64.wrap (t11 + 1))))∧(¬(t11 < t10)→T185_2 prog K )
def T185_0 (prog:Prog)(K:Int→Prop)(l0:List Pan):Prop:=
  ((l0.length:Int) > 410→K 4)∧(¬((l0.length:Int) > 410)→∀P0:Int→Prop,(∀(t11:Int),T185_1 prog K P0 l0 (l0.length:Int) t11→P0 t11)→P0 0)
section
variable {prog:Prog}{d:Nat}{Q:AE→Sl→St→Prop}{K:Int→Prop}(hQ:H185 Q K){σ:Sl}{st:St}
include hQ
theorem w185_2 (h:T185_2 prog K ):W prog d c185_1 σ st Q:=
 q_ rfl (m_ (e_ (rt_ (hQ _ _ _ rfl h))))
theorem w185_1 {t9:List Pan}{t10 t11:Int}{P0:Int→Prop} (kP0 :∀(t11:Int),P0 t11→I185_0 prog d Q t9 t10 t11){o_t9:Own}(H9:σ 9 = .sl o_t9 (List.map Pan.row t9))(H10:σ 10 = .i .i64 t10)(H11:σ 11 = .i .i64 t11)(h:T185_1 prog K P0 t9 t10 t11):W prog d l185_0 σ st (thenW prog d (.loop l185_0) (blockW 0 (thenW prog d c185_1 Q))):=
 q_ rfl (b_ H11 H10 lss_ (e_ (sq_ (cs_ rfl (fun g'1=>sk_ (sq_ (bk_ (sq_ (W.reg ((h.1 g'1).2.elim fun c'2 e'3=>ia_ H9 H11 (h.1 g'1).1 e'3.1 (Pan.row_eq c'2) rfl (lf_ rfl rfl rfl (s_alloc (so_ rfl (show lk _ (d,20482) = some (_,([.i .u64 0,.i .u8 0,.i .i64 0,.s [],.sl .full (List.map Val.row ([]:List Val)),.b false,.i .u64 0]:List AV)) from lk_here) rfl rfl rfl (e_ (q_ rfl (l_ rfl lk_here rfl rfl (e'3.2.elim fun r'4 e'5=>ca_ (sc rfl rfl sn) e'5.1 (m_ (e_ (q_ rfl (m_ (b_ rfl rfl neq_ (e_ (cs_ rfl (fun g'6=>q_ rfl (m_ (m_ (e_ (rt_ (hQ _ _ _ rfl (e'5.2.1 g'6))))))) (fun g'6=>sk_ (W.reg0 rfl fun _ _=>b_ H11 rfl add_ (m_ (e_ (kP0 _ (e'5.2.2 g'6) _ _ _ H9 H10 rfl))))))))))))))))))))))))) (fun g'1=>ex_ (w185_2 hQ (h.2 g'1)))))))
theorem w185_0 {l0:List Pan}{o_l0:Own}(H0:σ 0 = .sl o_l0 (List.map Pan.row l0))(h:T185_0 prog K l0):W prog d (.seq (.reg 0 r185_0) (.seq (.seq (.reg 1 r185_1) (.cond (.t 8) (.seq (.reg 2 r185_2) .ret) .skip)) (.seq (.seq (.reg 3 r185_3) (.block 0 (.loop l185_0))) c185_1))) σ st Q:=
 q_ rfl (m_ (e_ (sq_ (q_ rfl (s_mvL H0 (ll_ rfl (b_ rfl rfl gtr_ (e_ (cs_ rfl (fun g'1=>q_ rfl (m_ (e_ (rt_ (hQ _ _ _ rfl (h.1 g'1)))))) (fun g'1=>sk_ (sq_ (q_ rfl (s_mvL H0 (ll_ rfl (m_ (e_ (bk_ ((h.2 g'1) (I185_0 prog d Q l0 (l0.length:Int)) (fun _ hb _ _ _ H9 H10 H11=>W.loop (w185_1 hQ (fun _ x=>x) H9 H10 H11 hb)) _ _ _ rfl rfl rfl))))))))))))))))))
end
theorem p185 {prog:Prog}(hf:prog.fn 185 = some pf185){l0:List Pan}{K:Int→Prop}(h:T185_0 prog K l0) :∃res0:Int,K res0∧Pus prog 185 [.sl .ext (List.map Pan.row l0)] (.i .i64 res0):=by
  obtain ⟨v,hv,res0,hk,rfl⟩:=Pus.of (K:=fun v=>∃res0:Int,K res0∧v = .i .i64 res0) hf rfl (w185_0 (σ:=sl0 [.sl .ext (List.map Pan.row l0)]) (fun σ st   res0 H2 hk=>⟨.i .i64 res0,by simp only [pf185,ares,aresL,H2,ares1,Option.map_some],_,rfl,res0,hk,rfl⟩) rfl h)
  exact ⟨res0,hk,hv⟩
def r163_0:List AI:=[oC 2 (.i .i64 0)]
def r163_1:List AI:=[oM 5 0,
 oO 6 (.len false (.t 5)),
 oB 7 .gtr (.t 6) (.c (.i .i64 410))]
def r163_2:List AI:=[oC 2 (.i .i64 4)]
def r163_3:List AI:=[oC 3 (.i .i64 0)]
def r163_4:List AI:=[oM 8 3,
 oM 9 0,
 oO 10 (.len false (.t 9)),
 oB 11 .lss (.t 8) (.t 10)]
def r163_5:List AI:=[oM 14 0,
 oM 15 3,
 oO 16 (.iaL 7 (.t 14) (.t 15)),
 oO 17 (.load 7 true (.t 16)),
 oO 18 (.call false 159 [(.t 17)]),
 oM 4 18]
def r163_6:List AI:=[oM 19 4,
 oB 20 .neq (.t 19) (.c (.i .i64 0))]
def r163_7:List AI:=[oM 21 4,
 oM 2 21]
def r163_8:List AI:=[oM 12 3,
 oB 13 .add (.t 12) (.c (.i .i64 1)),
 oM 3 13]
def r163_9:List AI:=[oC 2 (.i .i64 0)]
abbrev l163_0:AC:=(.seq (.seq (.reg 4 r163_4) (.cond (.t 11) .skip (.exit 0))) (.seq (.block 1 (.seq (.reg 6 r163_5) (.seq (.reg 7 r163_6) (.cond (.t 20) (.seq (.reg 8 r163_7) .ret) .skip)))) (.reg 5 r163_8)))
abbrev c163_1:AC:=(.seq (.reg 9 r163_9) .ret)
abbrev b163:AC:=(.seq (.reg 0 r163_0) (.seq (.seq (.reg 1 r163_1) (.cond (.t 7) (.seq (.reg 2 r163_2) .ret) .skip)) (.seq (.seq (.reg 3 r163_3) (.block 0 (.loop l163_0))) c163_1)))
def pf163:AF:={ nt:=22,res:=[.tmp 2],body:=b163 }
abbrev H163 (Q:AE→Sl→St→Prop)(K:Int→Prop):Prop:=∀(σ:Sl)(st:St)(res0:Int),σ 2 = .i .i64 res0→K res0→Q .ret σ st
abbrev I163_0 (prog:Prog)(d:Nat)(Q:AE→Sl→St→Prop)(l0:List Pan)(i3:Int):Prop:=
  ∀(σ:Sl)(st:St)(o_l0:Own),σ 0 = .sl o_l0 (List.map Pan.row l0)→σ 3 = .i .i64 i3→W prog d (.loop l163_0) σ st (blockW 0 (thenW prog d c163_1 Q))
def T163_2 (prog:Prog)(K:Int→Prop) :Prop:=
  K 0
def T163_1 (prog:Prog)(K:Int→Prop)(P0:Int→Prop)(l0:List Pan)(i3:Int):Prop:=
  (i3 < (l0.length:Int)→0≤i3∧∃c'2:Pan,l0[(i3).toNat]? = some c'2∧∃r'4:Int,Pus prog 159 [c'2.av] (.i .i64 r'4)∧(r'4≠0→K r'4)∧(¬(r'4≠0)→P0 (IntKind.i64.wrap (i3 + 1))))∧(¬(i3 < (l0.length:Int))→T163_2 prog K )
def T163_0 (prog:Prog)(K:Int→Prop)(l0:List Pan):Prop:=
  ((l0.length:Int) > 410→K 4)∧(¬((l0.length:Int) > 410)→∀P0:Int→Prop,(∀(i3:Int),T163_1 prog K P0 l0 i3→P0 i3)→P0 0)
section
variable {prog:Prog}{d:Nat}{Q:AE→Sl→St→Prop}{K:Int→Prop}(hQ:H163 Q K){σ:Sl}{st:St}
include hQ
theorem w163_2 (h:T163_2 prog K ):W prog d c163_1 σ st Q:=
 q_ rfl (m_ (e_ (rt_ (hQ _ _ _ rfl h))))
theorem w163_1 {l0:List Pan}{i3:Int}{P0:Int→Prop} (kP0 :∀(i3:Int),P0 i3→I163_0 prog d Q l0 i3){o_l0:Own}(H0:σ 0 = .sl o_l0 (List.map Pan.row l0))(H3:σ 3 = .i .i64 i3)(h:T163_1 prog K P0 l0 i3):W prog d l163_0 σ st (thenW prog d (.loop l163_0) (blockW 0 (thenW prog d c163_1 Q))):=
 sq_ (q_ rfl (m_ (s_mvL H0 (ll_ rfl (b_ H3 rfl lss_ (e_ (cs_ rfl (fun g'1=>sk_ (sq_ (bk_ (q_ rfl (s_mvL H0 (m_ ((h.1 g'1).2.elim fun c'2 e'3=>ia_ rfl H3 (h.1 g'1).1 e'3.1 (Pan.row_eq c'2) rfl (lf_ rfl rfl rfl (e'3.2.elim fun r'4 e'5=>ca_ (sc rfl rfl sn) e'5.1 (m_ (e_ (q_ rfl (m_ (b_ rfl rfl neq_ (e_ (cs_ rfl (fun g'6=>q_ rfl (m_ (m_ (e_ (rt_ (hQ _ _ _ rfl (e'5.2.1 g'6))))))) (fun g'6=>sk_ (W.reg0 rfl fun _ _=>m_ (b_ H3 rfl add_ (m_ (e_ (kP0 _ (e'5.2.2 g'6) _ _ _ H0 rfl)))))))))))))))))))))) (fun g'1=>ex_ (w163_2 hQ (h.2 g'1))))))))))
theorem w163_0 {l0:List Pan}{o_l0:Own}(H0:σ 0 = .sl o_l0 (List.map Pan.row l0))(h:T163_0 prog K l0):W prog d (.seq (.reg 0 r163_0) (.seq (.seq (.reg 1 r163_1) (.cond (.t 7) (.seq (.reg 2 r163_2) .ret) .skip)) (.seq (.seq (.reg 3 r163_3) (.block 0 (.loop l163_0))) c163_1))) σ st Q:=
 q_ rfl (m_ (e_ (sq_ (q_ rfl (s_mvL H0 (ll_ rfl (b_ rfl rfl gtr_ (e_ (cs_ rfl (fun g'1=>q_ rfl (m_ (e_ (rt_ (hQ _ _ _ rfl (h.1 g'1)))))) (fun g'1=>sk_ (sq_ (q_ rfl (m_ (e_ (bk_ ((h.2 g'1) (I163_0 prog d Q l0) (fun _ hb _ _ _ H0 H3=>W.loop (w163_1 hQ (fun _ x=>x) H0 H3 hb)) _ _ _ H0 rfl))))))))))))))))
end
theorem p163 {prog:Prog}(hf:prog.fn 163 = some pf163){l0:List Pan}{K:Int→Prop}(h:T163_0 prog K l0) :∃res0:Int,K res0∧Pus prog 163 [.sl .ext (List.map Pan.row l0)] (.i .i64 res0):=by
  obtain ⟨v,hv,res0,hk,rfl⟩:=Pus.of (K:=fun v=>∃res0:Int,K res0∧v = .i .i64 res0) hf rfl (w163_0 (σ:=sl0 [.sl .ext (List.map Pan.row l0)]) (fun σ st   res0 H2 hk=>⟨.i .i64 res0,by simp only [pf163,ares,aresL,H2,ares1,Option.map_some],_,rfl,res0,hk,rfl⟩) rfl h)
  exact ⟨res0,hk,hv⟩
def r165_0:List AI:=[oC 2 (.i .i64 0),
 oC 3 (.i .i64 0)]
def r165_1:List AI:=[oM 7 0,
 oO 8 (.call false 185 [(.t 7)]),
 oM 4 8]
def r165_2:List AI:=[oM 9 4,
 oB 10 .neq (.t 9) (.c (.i .i64 0))]
def r165_3:List AI:=[oM 11 4,
 oC 2 (.i .i64 0),
 oM 3 11]
def r165_4:List AI:=[oM 12 0,
 oO 13 (.len false (.t 12)),
 oC 14 (.i .i64 0)]
def r165_5:List AI:=[oB 15 .lss (.t 14) (.t 13)]
def r165_6:List AI:=[oM 16 14,
 oO 17 (.iaL 7 (.t 12) (.t 14)),
 oO 18 (.load 7 true (.t 17)),
 oO 6 (.alloc [.i .u64 0,.i .u8 0,.i .i64 0,.s [],.sl .full [],.b false,.i .u64 0]),
 oM 5 16,
 oS 7 6 18]
def r165_7:List AI:=[oF 19 6 6,
 oL 20 19,
 oB 21 .eql (.t 20) (.c (.i .u64 0))]
def r165_8:List AI:=[oM 22 5,
 oM 2 22,
 oC 3 (.i .i64 0)]
def r165_9:List AI:=[oB 23 .add (.t 14) (.c (.i .i64 1)),
 oM 14 23]
def r165_10:List AI:=[oC 2 (.i .i64 0),
 oC 3 (.i .i64 6)]
abbrev l165_0:AC:=(.seq (.reg 5 r165_5) (.seq (.cond (.t 15) .skip (.exit 0)) (.seq (.block 1 (.seq (.reg 6 r165_6) (.seq (.reg 7 r165_7) (.cond (.t 21) (.seq (.reg 8 r165_8) .ret) .skip)))) (.reg 9 r165_9))))
abbrev c165_1:AC:=(.seq (.reg 10 r165_10) .ret)
abbrev b165:AC:=(.seq (.reg 0 r165_0) (.seq (.seq (.reg 1 r165_1) (.seq (.reg 2 r165_2) (.cond (.t 10) (.seq (.reg 3 r165_3) .ret) .skip))) (.seq (.seq (.reg 4 r165_4) (.block 0 (.loop l165_0))) c165_1)))
def pf165:AF:={ nt:=24,res:=[.tmp 2,.tmp 3],body:=b165 }
abbrev H165 (Q:AE→Sl→St→Prop)(K:Int→Int→Prop):Prop:=∀(σ:Sl)(st:St)(res0:Int)(res1:Int),σ 2 = .i .i64 res0→σ 3 = .i .i64 res1→K res0 res1→Q .ret σ st
abbrev I165_0 (prog:Prog)(d:Nat)(Q:AE→Sl→St→Prop)(t12:List Pan)(t13:Int)(t14:Int):Prop:=
  ∀(σ:Sl)(st:St)(o_t12:Own),σ 12 = .sl o_t12 (List.map Pan.row t12)→σ 13 = .i .i64 t13→σ 14 = .i .i64 t14→W prog d (.loop l165_0) σ st (blockW 0 (thenW prog d c165_1 Q))
def T165_2 (prog:Prog)(K:Int→Int→Prop) :Prop:=
  K 0 6
def T165_1 (prog:Prog)(K:Int→Int→Prop)(P0:Int→Prop)(t12:List Pan)(t13:Int)(t14:Int):Prop:=
  (t14 < t13→0≤t14∧∃c'2:Pan,t12[(t14).toNat]? = some c'2∧(c'2.flags = 0→K t14 0)∧(¬(c'2.flags = 0)→P0 (IntKind.i64.wrap (t14 + 1))))∧(¬(t14 < t13)→T165_2 prog K )
def T165_0 (prog:Prog)(K:Int→Int→Prop)(l0:List Pan):Prop:=
  ∃r'1:Int,Pus prog 185 [.sl .ext (List.map Pan.row l0)] (.i .i64 r'1)∧(r'1≠0→K 0 r'1)∧(¬(r'1≠0)→∀P0:Int→Prop,(∀(t14:Int),T165_1 prog K P0 l0 (l0.length:Int) t14→P0 t14)→P0 0)
section
variable {prog:Prog}{d:Nat}{Q:AE→Sl→St→Prop}{K:Int→Int→Prop}(hQ:H165 Q K){σ:Sl}{st:St}
include hQ
theorem w165_2 (h:T165_2 prog K ):W prog d c165_1 σ st Q:=
 q_ rfl (m_ (m_ (e_ (rt_ (hQ _ _ _ _ rfl rfl h)))))
theorem w165_1 {t12:List Pan}{t13 t14:Int}{P0:Int→Prop} (kP0 :∀(t14:Int),P0 t14→I165_0 prog d Q t12 t13 t14){o_t12:Own}(H12:σ 12 = .sl o_t12 (List.map Pan.row t12))(H13:σ 13 = .i .i64 t13)(H14:σ 14 = .i .i64 t14)(h:T165_1 prog K P0 t12 t13 t14):W prog d l165_0 σ st (thenW prog d (.loop l165_0) (blockW 0 (thenW prog d c165_1 Q))):=
 q_ rfl (b_ H14 H13 lss_ (e_ (sq_ (cs_ rfl (fun g'1=>sk_ (sq_ (bk_ (sq_ (W.reg (m_ ((h.1 g'1).2.elim fun c'2 e'3=>ia_ H12 H14 (h.1 g'1).1 e'3.1 (Pan.row_eq c'2) rfl (lf_ rfl rfl rfl (s_alloc (m_ (so_ rfl (show lk _ (d,24579) = some (_,([.i .u64 0,.i .u8 0,.i .i64 0,.s [],.sl .full (List.map Val.row ([]:List Val)),.b false,.i .u64 0]:List AV)) from lk_here) rfl rfl rfl (e_ (q_ rfl (f_ rfl (l_ rfl lk_here rfl rfl (b_ rfl rfl eql_ (e_ (cs_ rfl (fun g'4=>q_ rfl (m_ (m_ (m_ (e_ (rt_ (hQ _ _ _ _ H14 rfl (e'3.2.1 g'4)))))))) (fun g'4=>sk_ (W.reg0 rfl fun _ _=>b_ H14 rfl add_ (m_ (e_ (kP0 _ (e'3.2.2 g'4) _ _ _ H12 H13 rfl))))))))))))))))))))))) (fun g'1=>ex_ (w165_2 hQ (h.2 g'1)))))))
theorem w165_0 {l0:List Pan}{o_l0:Own}(H0:σ 0 = .sl o_l0 (List.map Pan.row l0))(h:T165_0 prog K l0):W prog d (.seq (.reg 0 r165_0) (.seq (.seq (.reg 1 r165_1) (.seq (.reg 2 r165_2) (.cond (.t 10) (.seq (.reg 3 r165_3) .ret) .skip))) (.seq (.seq (.reg 4 r165_4) (.block 0 (.loop l165_0))) c165_1))) σ st Q:=
 q_ rfl (m_ (m_ (e_ (sq_ (q_ rfl (s_mvL H0 (h.elim fun r'1 e'2=>ca_ (sc rfl rfl sn) e'2.1 (m_ (e_ (q_ rfl (m_ (b_ rfl rfl neq_ (e_ (cs_ rfl (fun g'3=>q_ rfl (m_ (m_ (m_ (e_ (rt_ (hQ _ _ _ _ rfl rfl (e'2.2.1 g'3)))))))) (fun g'3=>sk_ (sq_ (q_ rfl (s_mvL H0 (ll_ rfl (m_ (e_ (bk_ ((e'2.2.2 g'3) (I165_0 prog d Q l0 (l0.length:Int)) (fun _ hb _ _ _ H12 H13 H14=>W.loop (w165_1 hQ (fun _ x=>x) H12 H13 H14 hb)) _ _ _ rfl rfl rfl)))))))))))))))))))))))
end
theorem p165 {prog:Prog}(hf:prog.fn 165 = some pf165){l0:List Pan}{K:Int→Int→Prop}(h:T165_0 prog K l0) :∃res0:Int,∃res1:Int,K res0 res1∧Pus prog 165 [.sl .ext (List.map Pan.row l0)] (.tup [.i .i64 res0,.i .i64 res1]):=by
  obtain ⟨v,hv,res0,res1,hk,rfl⟩:=Pus.of (K:=fun v=>∃res0:Int,∃res1:Int,K res0 res1∧v = .tup [.i .i64 res0,.i .i64 res1]) hf rfl (w165_0 (σ:=sl0 [.sl .ext (List.map Pan.row l0)]) (fun σ st   res0 res1 H2 H3 hk=>⟨.tup [.i .i64 res0,.i .i64 res1],by simp only [pf165,ares,aresL,H2,H3,ares1,Option.map_some],_,rfl,res0,res1,hk,rfl⟩) rfl h)
  exact ⟨res0,res1,hk,hv⟩
def r169_0:List AI:=[oC 2 (.i .i64 0),
 oC 3 (.i .i64 0)]
def r169_1:List AI:=[oM 6 0,
 oO 7 (.call false 163 [(.t 6)]),
 oM 4 7]
def r169_2:List AI:=[oM 8 4,
 oB 9 .neq (.t 8) (.c (.i .i64 0))]
def r169_3:List AI:=[oM 10 4,
 oC 2 (.i .i64 0),
 oM 3 10]
def r169_4:List AI:=[oC 5 (.i .i64 0)]
def r169_5:List AI:=[oM 11 5,
 oM 12 0,
 oO 13 (.len false (.t 12)),
 oB 14 .lss (.t 11) (.t 13)]
def r169_6:List AI:=[oM 17 0,
 oM 18 5,
 oO 19 (.iaL 7 (.t 17) (.t 18)),
 oF 20 6 19,
 oL 21 20,
 oB 22 .eql (.t 21) (.c (.i .u64 0))]
def r169_7:List AI:=[oM 23 5,
 oM 2 23,
 oC 3 (.i .i64 0)]
def r169_8:List AI:=[oM 15 5,
 oB 16 .add (.t 15) (.c (.i .i64 1)),
 oM 5 16]
def r169_9:List AI:=[oC 2 (.i .i64 0),
 oC 3 (.i .i64 6)]
abbrev l169_0:AC:=(.seq (.seq (.reg 5 r169_5) (.cond (.t 14) .skip (.exit 0))) (.seq (.block 1 (.seq (.reg 7 r169_6) (.cond (.t 22) (.seq (.reg 8 r169_7) .ret) .skip))) (.reg 6 r169_8)))
abbrev c169_1:AC:=(.seq (.reg 9 r169_9) .ret)
abbrev b169:AC:=(.seq (.reg 0 r169_0) (.seq (.seq (.reg 1 r169_1) (.seq (.reg 2 r169_2) (.cond (.t 9) (.seq (.reg 3 r169_3) .ret) .skip))) (.seq (.seq (.reg 4 r169_4) (.block 0 (.loop l169_0))) c169_1)))
def pf169:AF:={ nt:=24,res:=[.tmp 2,.tmp 3],body:=b169 }
abbrev H169 (Q:AE→Sl→St→Prop)(K:Int→Int→Prop):Prop:=∀(σ:Sl)(st:St)(res0:Int)(res1:Int),σ 2 = .i .i64 res0→σ 3 = .i .i64 res1→K res0 res1→Q .ret σ st
section
variable {prog:Prog}{d:Nat}{Q:AE→Sl→St→Prop}{K:Int→Int→Prop}(hQ:H169 Q K){σ:Sl}{st:St}
include hQ
end
def r170_0:List AI:=[oC 4 (.b false)]
def r170_1:List AI:=[oM 6 0,
 oO 7 (.len false (.t 6)),
 oM 8 1,
 oO 9 (.len false (.t 8)),
 oB 10 .neq (.t 7) (.t 9)]
def r170_2:List AI:=[oC 4 (.b false)]
def r170_3:List AI:=[oC 5 (.i .i64 0)]
def r170_4:List AI:=[oM 11 5,
 oM 12 0,
 oO 13 (.len false (.t 12)),
 oB 14 .lss (.t 11) (.t 13)]
def r170_5:List AI:=[oM 17 0,
 oM 18 5,
 oO 19 (.iaL 7 (.t 17) (.t 18)),
 oO 20 (.load 7 true (.t 19)),
 oM 21 1,
 oM 22 5,
 oO 23 (.iaL 7 (.t 21) (.t 22)),
 oO 24 (.load 7 true (.t 23)),
 oO 25 (.call false 160 [(.t 20),(.t 24)]),
 oO 26 (.un .not (.t 25))]
def r170_6:List AI:=[oC 4 (.b false)]
def r170_7:List AI:=[oM 15 5,
 oB 16 .add (.t 15) (.c (.i .i64 1)),
 oM 5 16]
def r170_8:List AI:=[oC 4 (.b true)]
abbrev l170_0:AC:=(.seq (.seq (.reg 4 r170_4) (.cond (.t 14) .skip (.exit 0))) (.seq (.block 1 (.seq (.reg 6 r170_5) (.cond (.t 26) (.seq (.reg 7 r170_6) .ret) .skip))) (.reg 5 r170_7)))
abbrev c170_1:AC:=(.seq (.reg 8 r170_8) .ret)
abbrev b170:AC:=(.seq (.reg 0 r170_0) (.seq (.seq (.reg 1 r170_1) (.cond (.t 10) (.seq (.reg 2 r170_2) .ret) .skip)) (.seq (.seq (.reg 3 r170_3) (.block 0 (.loop l170_0))) c170_1)))
def pf170:AF:={ nt:=27,res:=[.tmp 4],body:=b170 }
abbrev H170 (Q:AE→Sl→St→Prop)(K:Bool→Prop):Prop:=∀(σ:Sl)(st:St)(res0:Bool),σ 4 = .b res0→K res0→Q .ret σ st
abbrev I170_0 (prog:Prog)(d:Nat)(Q:AE→Sl→St→Prop)(a0:List Pan)(b1:List Pan)(i5:Int):Prop:=
  ∀(σ:Sl)(st:St) (o_a0 o_b1:Own),σ 0 = .sl o_a0 (List.map Pan.row a0)→σ 1 = .sl o_b1 (List.map Pan.row b1)→σ 5 = .i .i64 i5→W prog d (.loop l170_0) σ st (blockW 0 (thenW prog d c170_1 Q))
def T170_2 (prog:Prog)(K:Bool→Prop) :Prop:=
  K true
def T170_1 (prog:Prog)(K:Bool→Prop)(P0:Int→Prop)(a0:List Pan)(b1:List Pan)(i5:Int):Prop:=
  (i5 < (a0.length:Int)→0≤i5∧∃c'2:Pan,a0[(i5).toNat]? = some c'2∧0≤i5∧∃c'4:Pan,b1[(i5).toNat]? = some c'4∧∃r'6:Bool,Pus prog 160 [c'2.av,c'4.av] (.b r'6)∧((!r'6) = true→K false)∧((!r'6) = false→P0 (IntKind.i64.wrap (i5 + 1))))∧(¬(i5 < (a0.length:Int))→T170_2 prog K )
def T170_0 (prog:Prog)(K:Bool→Prop)(a0:List Pan)(b1:List Pan):Prop:=
  ((a0.length:Int)≠(b1.length:Int)→K false)∧(¬((a0.length:Int)≠(b1.length:Int))→∀P0:Int→Prop,(∀(i5:Int),T170_1 prog K P0 a0 b1 i5→P0 i5)→P0 0)
section
variable {prog:Prog}{d:Nat}{Q:AE→Sl→St→Prop}{K:Bool→Prop}(hQ:H170 Q K){σ:Sl}{st:St}
include hQ
theorem w170_2 (h:T170_2 prog K ):W prog d c170_1 σ st Q:=
 q_ rfl (m_ (e_ (rt_ (hQ _ _ _ rfl h))))
theorem w170_1 {a0 b1:List Pan}{i5:Int}{P0:Int→Prop} (kP0 :∀(i5:Int),P0 i5→I170_0 prog d Q a0 b1 i5){o_a0 o_b1:Own}(H0:σ 0 = .sl o_a0 (List.map Pan.row a0))(H1:σ 1 = .sl o_b1 (List.map Pan.row b1))(H5:σ 5 = .i .i64 i5)(h:T170_1 prog K P0 a0 b1 i5):W prog d l170_0 σ st (thenW prog d (.loop l170_0) (blockW 0 (thenW prog d c170_1 Q))):=
 sq_ (q_ rfl (m_ (s_mvL H0 (ll_ rfl (b_ H5 rfl lss_ (e_ (cs_ rfl (fun g'1=>sk_ (sq_ (bk_ (q_ rfl (s_mvL H0 (m_ ((h.1 g'1).2.elim fun c'2 e'3=>ia_ rfl H5 (h.1 g'1).1 e'3.1 (Pan.row_eq c'2) rfl (lf_ rfl rfl rfl (s_mvL H1 (m_ (e'3.2.2.elim fun c'4 e'5=>ia_ rfl H5 e'3.2.1 e'5.1 (Pan.row_eq c'4) rfl (lf_ rfl rfl rfl (e'5.2.elim fun r'6 e'7=>ca_ (sc rfl rfl (sc rfl rfl sn)) e'7.1 (nt_ rfl (e_ (cb_ rfl (fun g'8=>q_ rfl (m_ (e_ (rt_ (hQ _ _ _ rfl (e'7.2.1 g'8)))))) (fun g'8=>sk_ (W.reg0 rfl fun _ _=>m_ (b_ H5 rfl add_ (m_ (e_ (kP0 _ (e'7.2.2 g'8) _ _ _ _ H0 H1 rfl)))))))))))))))))))))) (fun g'1=>ex_ (w170_2 hQ (h.2 g'1))))))))))
theorem w170_0 {a0 b1:List Pan}{o_a0 o_b1:Own}(H0:σ 0 = .sl o_a0 (List.map Pan.row a0))(H1:σ 1 = .sl o_b1 (List.map Pan.row b1))(h:T170_0 prog K a0 b1):W prog d (.seq (.reg 0 r170_0) (.seq (.seq (.reg 1 r170_1) (.cond (.t 10) (.seq (.reg 2 r170_2) .ret) .skip)) (.seq (.seq (.reg 3 r170_3) (.block 0 (.loop l170_0))) c170_1))) σ st Q:=
 q_ rfl (m_ (e_ (sq_ (q_ rfl (s_mvL H0 (ll_ rfl (s_mvL H1 (ll_ rfl (b_ rfl rfl neq_ (e_ (cs_ rfl (fun g'1=>q_ rfl (m_ (e_ (rt_ (hQ _ _ _ rfl (h.1 g'1)))))) (fun g'1=>sk_ (sq_ (q_ rfl (m_ (e_ (bk_ ((h.2 g'1) (I170_0 prog d Q a0 b1) (fun _ hb _ _ _ _ H0 H1 H5=>W.loop (w170_1 hQ (fun _ x=>x) H0 H1 H5 hb)) _ _ _ _ H0 H1 rfl))))))))))))))))))
end
theorem p170 {prog:Prog}(hf:prog.fn 170 = some pf170){a0:List Pan}{b1:List Pan}{K:Bool→Prop}(h:T170_0 prog K a0 b1) :∃res0:Bool,K res0∧Pus prog 170 [.sl .ext (List.map Pan.row a0),.sl .ext (List.map Pan.row b1)] (.b res0):=by
  obtain ⟨v,hv,res0,hk,rfl⟩:=Pus.of (K:=fun v=>∃res0:Bool,K res0∧v = .b res0) hf rfl (w170_0 (σ:=sl0 [.sl .ext (List.map Pan.row a0),.sl .ext (List.map Pan.row b1)]) (fun σ st   res0 H4 hk=>⟨.b res0,by simp only [pf170,ares,aresL,H4,ares1,Option.map_some],_,rfl,res0,hk,rfl⟩) rfl rfl h)
  exact ⟨res0,hk,hv⟩
def r162_0:List AI:=[oC 2 (.b false)]
def r162_1:List AI:=[oM 4 0,
 oO 5 (.len false (.t 4)),
 oB 6 .gtr (.t 5) (.c (.i .i64 20)),
 oM 7 6,
 oG 8 (.mv (.t 0)) 7 true,
 oG 9 (.len false (.t 8)) 7 true,
 oG 10 (.bin .leq (.t 9) (.c (.i .i64 410))) 7 true,
 oO 11 (.pick (.t 7) (.t 10) (.c (.b false))),
 oM 12 11,
 oG 13 (.mv (.t 0)) 12 false,
 oG 14 (.len false (.t 13)) 12 false,
 oG 15 (.bin .gtr (.t 14) (.c (.i .i64 420))) 12 false,
 oO 16 (.pick (.t 12) (.c (.b true)) (.t 15))]
def r162_2:List AI:=[oC 2 (.b true)]
def r162_3:List AI:=[oC 3 (.i .i64 0)]
def r162_4:List AI:=[oM 17 3,
 oM 18 0,
 oO 19 (.len false (.t 18)),
 oB 20 .lss (.t 17) (.t 19)]
def r162_5:List AI:=[oM 23 0,
 oM 24 3,
 oO 25 (.iaL 7 (.t 23) (.t 24)),
 oF 26 1 25,
 oO 27 (.load 5 true (.t 26)),
 oO 28 (.call false 71 [(.t 27)])]
def r162_6:List AI:=[oC 2 (.b true)]
def r162_7:List AI:=[oM 21 3,
 oB 22 .add (.t 21) (.c (.i .i64 1)),
 oM 3 22]
def r162_8:List AI:=[oC 2 (.b false)]
abbrev l162_0:AC:=(.seq (.seq (.reg 4 r162_4) (.cond (.t 20) .skip (.exit 0))) (.seq (.block 1 (.seq (.reg 6 r162_5) (.cond (.t 28) (.seq (.reg 7 r162_6) .ret) .skip))) (.reg 5 r162_7)))
abbrev c162_1:AC:=(.seq (.reg 8 r162_8) .ret)
abbrev c162_2:AC:=(.seq (.seq (.reg 3 r162_3) (.block 0 (.loop l162_0))) c162_1)
abbrev b162:AC:=(.seq (.reg 0 r162_0) (.seq (.seq (.reg 1 r162_1) (.cond (.t 16) (.seq (.reg 2 r162_2) .ret) .skip)) c162_2))
def pf162:AF:={ nt:=29,res:=[.tmp 2],body:=b162 }
abbrev H162 (Q:AE→Sl→St→Prop)(K:Bool→Prop):Prop:=∀(σ:Sl)(st:St)(res0:Bool),σ 2 = .b res0→K res0→Q .ret σ st
abbrev I162_0 (prog:Prog)(d:Nat)(Q:AE→Sl→St→Prop)(l0:List Pan)(i3:Int):Prop:=
  ∀(σ:Sl)(st:St)(o_l0:Own),σ 0 = .sl o_l0 (List.map Pan.row l0)→σ 3 = .i .i64 i3→W prog d (.loop l162_0) σ st (blockW 0 (thenW prog d c162_1 Q))
def T162_3 (prog:Prog)(K:Bool→Prop) :Prop:=
  K false
def T162_2 (prog:Prog)(K:Bool→Prop)(P0:Int→Prop)(l0:List Pan)(i3:Int):Prop:=
  (i3 < (l0.length:Int)→0≤i3∧∃c'2:Pan,l0[(i3).toNat]? = some c'2∧∃r'4:Bool,Pus prog 71 [c'2.value.av] (.b r'4)∧(r'4 = true→K true)∧(r'4 = false→P0 (IntKind.i64.wrap (i3 + 1))))∧(¬(i3 < (l0.length:Int))→T162_3 prog K )
def T162_1 (prog:Prog)(K:Bool→Prop)(l0:List Pan):Prop:=
  ∀P0:Int→Prop,(∀(i3:Int),T162_2 prog K P0 l0 i3→P0 i3)→P0 0
def T162_0 (prog:Prog)(K:Bool→Prop)(l0:List Pan):Prop:=
  ((l0.length:Int) > 20→((l0.length:Int)≤410→K true)∧(¬((l0.length:Int)≤410)→((l0.length:Int) > 420→K true)∧(¬((l0.length:Int) > 420)→T162_1 prog K l0)))∧(¬((l0.length:Int) > 20)→((l0.length:Int) > 420→K true)∧(¬((l0.length:Int) > 420)→T162_1 prog K l0))
section
variable {prog:Prog}{d:Nat}{Q:AE→Sl→St→Prop}{K:Bool→Prop}(hQ:H162 Q K){σ:Sl}{st:St}
include hQ
theorem w162_3 (h:T162_3 prog K ):W prog d c162_1 σ st Q:=
 q_ rfl (m_ (e_ (rt_ (hQ _ _ _ rfl h))))
theorem w162_2 {l0:List Pan}{i3:Int}{P0:Int→Prop} (kP0 :∀(i3:Int),P0 i3→I162_0 prog d Q l0 i3){o_l0:Own}(H0:σ 0 = .sl o_l0 (List.map Pan.row l0))(H3:σ 3 = .i .i64 i3)(h:T162_2 prog K P0 l0 i3):W prog d l162_0 σ st (thenW prog d (.loop l162_0) (blockW 0 (thenW prog d c162_1 Q))):=
 sq_ (q_ rfl (m_ (s_mvL H0 (ll_ rfl (b_ H3 rfl lss_ (e_ (cs_ rfl (fun g'1=>sk_ (sq_ (bk_ (q_ rfl (s_mvL H0 (m_ ((h.1 g'1).2.elim fun c'2 e'3=>ia_ rfl H3 (h.1 g'1).1 e'3.1 (Pan.row_eq c'2) rfl (ff_ rfl (lf_ rfl rfl rfl (e'3.2.elim fun r'4 e'5=>ca_ (sc rfl rfl sn) e'5.1 (e_ (cb_ rfl (fun g'6=>q_ rfl (m_ (e_ (rt_ (hQ _ _ _ rfl (e'5.2.1 g'6)))))) (fun g'6=>sk_ (W.reg0 rfl fun _ _=>m_ (b_ H3 rfl add_ (m_ (e_ (kP0 _ (e'5.2.2 g'6) _ _ _ H0 rfl)))))))))))))))))) (fun g'1=>ex_ (w162_3 hQ (h.2 g'1))))))))))
theorem w162_1 {l0:List Pan}{o_l0:Own}(H0:σ 0 = .sl o_l0 (List.map Pan.row l0))(h:T162_1 prog K l0):W prog d c162_2 σ st Q:=
 sq_ (q_ rfl (m_ (e_ (bk_ (h (I162_0 prog d Q l0) (fun _ hb _ _ _ H0 H3=>W.loop (w162_2 hQ (fun _ x=>x) H0 H3 hb)) _ _ _ H0 rfl)))))
theorem w162_0 {l0:List Pan}{o_l0:Own}(H0:σ 0 = .sl o_l0 (List.map Pan.row l0))(h:T162_0 prog K l0):W prog d (.seq (.reg 0 r162_0) (.seq (.seq (.reg 1 r162_1) (.cond (.t 16) (.seq (.reg 2 r162_2) .ret) .skip)) c162_2)) σ st Q:=
 q_ rfl (m_ (e_ (sq_ (q_ rfl (s_mvL H0 (ll_ rfl (b_ rfl rfl gtr_ (s_mvB rfl (em_ (g:=7) rfl (fun g'1=>gy_ rfl (s_mvL H0 (gy_ rfl (ll_ rfl (gy_ rfl (b_ rfl rfl leq_ (pt_ rfl rfl (s_mvB rfl (em_ (g:=12) rfl (fun g'2=>gn_ (b:=true) rfl rfl (gn_ (b:=true) rfl rfl (gn_ (b:=true) rfl rfl (pt_ rfl rfl (e_ (ct_ rfl (q_ rfl (m_ (e_ (rt_ (hQ _ _ _ rfl ((h.1 g'1).1 g'2)))))))))))) (fun g'2=>gy_ rfl (s_mvL H0 (gy_ rfl (ll_ rfl (gy_ rfl (b_ rfl rfl gtr_ (pf_ rfl rfl (e_ (cs_ rfl (fun g'3=>q_ rfl (m_ (e_ (rt_ (hQ _ _ _ rfl (((h.1 g'1).2 g'2).1 g'3)))))) (fun g'3=>sk_ (w162_1 hQ H0 (((h.1 g'1).2 g'2).2 g'3))))))))))))))))))))) (fun g'1=>gn_ (b:=false) rfl rfl (gn_ (b:=false) rfl rfl (gn_ (b:=false) rfl rfl (pf_ rfl rfl (s_mvB rfl (gy_ rfl (s_mvL H0 (gy_ rfl (ll_ rfl (gy_ rfl (b_ rfl rfl gtr_ (pf_ rfl rfl (e_ (cs_ rfl (fun g'4=>q_ rfl (m_ (e_ (rt_ (hQ _ _ _ rfl ((h.2 g'1).1 g'4)))))) (fun g'4=>sk_ (w162_1 hQ H0 ((h.2 g'1).2 g'4))))))))))))))))))))))))))
end
theorem p162 {prog:Prog}(hf:prog.fn 162 = some pf162){l0:List Pan}{K:Bool→Prop}(h:T162_0 prog K l0) :∃res0:Bool,K res0∧Pus prog 162 [.sl .ext (List.map Pan.row l0)] (.b res0):=by
  obtain ⟨v,hv,res0,hk,rfl⟩:=Pus.of (K:=fun v=>∃res0:Bool,K res0∧v = .b res0) hf rfl (w162_0 (σ:=sl0 [.sl .ext (List.map Pan.row l0)]) (fun σ st   res0 H2 hk=>⟨.b res0,by simp only [pf162,ares,aresL,H2,ares1,Option.map_some],_,rfl,res0,hk,rfl⟩) rfl h)
  exact ⟨res0,hk,hv⟩
def r164_0:List AI:=[oC 2 (.s []),
 oC 3 (.i .i64 0)]
def r164_1:List AI:=[oM 10 0,
 oO 11 (.call false 185 [(.t 10)]),
 oM 4 11]
def r164_2:List AI:=[oM 12 4,
 oB 13 .neq (.t 12) (.c (.i .i64 0))]
def r164_3:List AI:=[oM 14 4,
 oC 2 (.s []),
 oM 3 14]
def r164_4:List AI:=[oO 5 (.alloc [.np,.sl .full []])]
def r164_5:List AI:=[oM 15 0,
 oO 16 (.len false (.t 15)),
 oC 17 (.i .i64 0)]
def r164_6:List AI:=[oB 18 .lss (.t 17) (.t 16)]
def r164_7:List AI:=[oO 19 (.iaL 7 (.t 15) (.t 17)),
 oO 20 (.load 7 true (.t 19)),
 oO 7 (.alloc [.i .u64 0,.i .u8 0,.i .i64 0,.s [],.sl .full [],.b false,.i .u64 0]),
 oS 7 7 20]
def r164_8:List AI:=[oO 22 (.load 7 true (.t 7)),
 oO 23 (.call false 154 [(.t 22)]),
 oM 21 23,
 oE 24 0 21,
 oE 25 1 21,
 oM 8 24,
 oM 9 25]
def r164_9:List AI:=[oM 26 9,
 oB 27 .neq (.t 26) (.c (.i .i64 0))]
def r164_10:List AI:=[oM 28 9,
 oC 2 (.s []),
 oM 3 28]
def r164_11:List AI:=[oM 29 8,
 oB 30 .add (.t 29) (.c (.s [10])),
 oO 31 (.call true 126 [(.t 5),(.t 30)])]
def r164_12:List AI:=[oB 32 .add (.t 17) (.c (.i .i64 1)),
 oM 17 32]
def r164_13:List AI:=[oO 33 (.call true 105 [(.t 5)]),
 oM 2 33,
 oC 3 (.i .i64 0)]
abbrev l164_0:AC:=(.seq (.reg 6 r164_6) (.seq (.cond (.t 18) .skip (.exit 0)) (.seq (.block 1 (.seq (.reg 7 r164_7) (.seq (.reg 8 r164_8) (.seq (.seq (.reg 9 r164_9) (.cond (.t 27) (.seq (.reg 10 r164_10) .ret) .skip)) (.reg 11 r164_11))))) (.reg 12 r164_12))))
abbrev c164_1:AC:=(.seq (.reg 13 r164_13) .ret)
abbrev b164:AC:=(.seq (.reg 0 r164_0) (.seq (.seq (.reg 1 r164_1) (.seq (.reg 2 r164_2) (.cond (.t 13) (.seq (.reg 3 r164_3) .ret) .skip))) (.seq (.reg 1000004 r164_4) (.seq (.seq (.reg 5 r164_5) (.block 0 (.loop l164_0))) c164_1))))
def pf164:AF:={ nt:=34,res:=[.tmp 2,.tmp 3],body:=b164 }
abbrev H164 (Q:AE→Sl→St→Prop)(K:List UInt8→Int→Prop):Prop:=∀(σ:Sl)(st:St)(res0:List UInt8)(res1:Int),σ 2 = .s res0→σ 3 = .i .i64 res1→K res0 res1→Q .ret σ st
abbrev I164_0 (prog:Prog)(d:Nat)(Q:AE→Sl→St→Prop)(t15:List Pan)(t16:Int)(t17:Int)(m4096016384:List UInt8):Prop:=
  ∀(σ:Sl)(st:St)(o_t15:Own)(v4096016384:Nat),σ 5 = .p (d,1000004 * 4096 + 0) v4096016384 0→σ 15 = .sl o_t15 (List.map Pan.row t15)→σ 16 = .i .i64 t16→σ 17 = .i .i64 t17→Bl m4096016384 st.bx st.ow (d,1000004 * 4096 + 0) v4096016384→W prog d (.loop l164_0) σ st (blockW 0 (thenW prog d c164_1 Q))
def T164_2 (prog:Prog)(K:List UInt8→Int→Prop)(m4096016384:List UInt8):Prop:=
  ∃r'1:List UInt8,PuX prog 105 (Bl m4096016384) [] (fun r=>r = .s r'1) (fun _ _ _ _=>True)∧K r'1 0
def T164_1 (prog:Prog)(K:List UInt8→Int→Prop)(P0:Int→List UInt8→Prop)(t15:List Pan)(t16:Int)(t17:Int)(m4096016384:List UInt8):Prop:=
  (t17 < t16→0≤t17∧∃c'2:Pan,t15[(t17).toNat]? = some c'2∧∃r'4:List UInt8,∃r'5:Int,Pus prog 154 [c'2.av] (.tup [.s r'4,.i .i64 r'5])∧(r'5≠0→K ([]:List UInt8) r'5)∧(¬(r'5≠0)→r'4.length + ([10]:List UInt8).length≤maxStr∧∃r'8:Int,∃b'14:List UInt8,PuX prog 126 (Bl m4096016384) [.s (r'4 ++ ([10]:List UInt8))] (fun r=>r = .tup [.i .i64 r'8,.ni]) ((Bl b'14))∧P0 (IntKind.i64.wrap (t17 + 1)) b'14))∧(¬(t17 < t16)→T164_2 prog K m4096016384)
def T164_0 (prog:Prog)(K:List UInt8→Int→Prop)(l0:List Pan):Prop:=
  ∃r'1:Int,Pus prog 185 [.sl .ext (List.map Pan.row l0)] (.i .i64 r'1)∧(r'1≠0→K ([]:List UInt8) r'1)∧(¬(r'1≠0)→∀P0:Int→List UInt8→Prop,(∀(t17:Int)(m4096016384:List UInt8),T164_1 prog K P0 l0 (l0.length:Int) t17 m4096016384→P0 t17 m4096016384)→P0 0 ([]:List UInt8))
section
variable {prog:Prog}{d:Nat}{Q:AE→Sl→St→Prop}{K:List UInt8→Int→Prop}(hQ:H164 Q K){σ:Sl}{st:St}
include hQ
theorem w164_2 {m4096016384:List UInt8}{v4096016384:Nat}(H5:σ 5 = .p (d,1000004 * 4096 + 0) v4096016384 0)(B4096016384:Bl m4096016384 st.bx st.ow (d,1000004 * 4096 + 0) v4096016384)(h:T164_2 prog K m4096016384):W prog d c164_1 σ st Q:=
 q_ rfl (h.elim fun r'1 e'3=>cX_ (sec H5 sen) e'3.1 (Nat.lt_succ_self d) B4096016384 (fun st'4 hb'5 hf'6=>m_ (m_ (e_ (rt_ (hQ _ _ _ _ rfl rfl e'3.2))))))
theorem w164_1 {t15:List Pan}{t16 t17:Int}{m4096016384:List UInt8}{P0:Int→List UInt8→Prop} (kP0 :∀(t17:Int)(m4096016384:List UInt8),P0 t17 m4096016384→I164_0 prog d Q t15 t16 t17 m4096016384){o_t15:Own}{v4096016384:Nat}(H5:σ 5 = .p (d,1000004 * 4096 + 0) v4096016384 0)(H15:σ 15 = .sl o_t15 (List.map Pan.row t15))(H16:σ 16 = .i .i64 t16)(H17:σ 17 = .i .i64 t17)(B4096016384:Bl m4096016384 st.bx st.ow (d,1000004 * 4096 + 0) v4096016384)(h:T164_1 prog K P0 t15 t16 t17 m4096016384):W prog d l164_0 σ st (thenW prog d (.loop l164_0) (blockW 0 (thenW prog d c164_1 Q))):=
 q_ rfl (b_ H17 H16 lss_ (e_ (sq_ (cs_ rfl (fun g'1=>sk_ (sq_ (bk_ (sq_ (W.reg ((h.1 g'1).2.elim fun c'2 e'3=>ia_ H15 H17 (h.1 g'1).1 e'3.1 (Pan.row_eq c'2) rfl (lf_ rfl rfl rfl (s_alloc (so_ rfl (show lk _ (d,28674) = some (_,([.i .u64 0,.i .u8 0,.i .i64 0,.s [],.sl .full (List.map Val.row ([]:List Val)),.b false,.i .u64 0]:List AV)) from lk_here) rfl rfl rfl (e_ (q_ rfl (l_ rfl lk_here rfl rfl (e'3.2.elim fun r'4 e'16=>e'16.elim fun r'5 e'6=>ca_ (sc rfl rfl sn) e'6.1 (m_ (x_ rfl rfl (x_ rfl rfl (m_ (m_ (e_ (sq_ (q_ rfl (m_ (b_ rfl rfl neq_ (e_ (cs_ rfl (fun g'7=>q_ rfl (m_ (m_ (m_ (e_ (rt_ (hQ _ _ _ _ rfl rfl (e'6.2.1 g'7)))))))) (fun g'7=>sk_ (W.reg0 rfl fun _ _=>m_ (b_ rfl rfl (abin_cat' (e'6.2.2 g'7).1) ((e'6.2.2 g'7).2.elim fun r'8 e'15=>e'15.elim fun b'14 e'10=>cX_ (sec H5 (sec rfl sen)) e'10.1 (Nat.lt_succ_self d) (Bl.other (key_LL rfl) (Bl.other (key_LL rfl) B4096016384)) (fun st'11 hb'12 hf'13=>e_ (W.reg0 rfl fun _ _=>b_ H17 rfl add_ (m_ (e_ (kP0 _ _ e'10.2 _ _ _ _ H5 H15 H16 rfl hb'12)))))))))))))))))))))))))))))))))) (fun g'1=>ex_ (w164_2 hQ H5 B4096016384 (h.2 g'1)))))))
theorem w164_0 {l0:List Pan}{o_l0:Own}(H0:σ 0 = .sl o_l0 (List.map Pan.row l0))(h:T164_0 prog K l0):W prog d (.seq (.reg 0 r164_0) (.seq (.seq (.reg 1 r164_1) (.seq (.reg 2 r164_2) (.cond (.t 13) (.seq (.reg 3 r164_3) .ret) .skip))) (.seq (.reg 1000004 r164_4) (.seq (.seq (.reg 5 r164_5) (.block 0 (.loop l164_0))) c164_1)))) σ st Q:=
 q_ rfl (m_ (m_ (e_ (sq_ (q_ rfl (s_mvL H0 (h.elim fun r'1 e'2=>ca_ (sc rfl rfl sn) e'2.1 (m_ (e_ (q_ rfl (m_ (b_ rfl rfl neq_ (e_ (cs_ rfl (fun g'3=>q_ rfl (m_ (m_ (m_ (e_ (rt_ (hQ _ _ _ _ rfl rfl (e'2.2.1 g'3)))))))) (fun g'3=>sk_ (sq_ (W.regB rfl (fun nx'6 v'7 bx'8 hb'4 hx'5=>sq_ (q_ rfl (s_mvL H0 (ll_ rfl (m_ (e_ (bk_ ((e'2.2.2 g'3) (I164_0 prog d Q l0 (l0.length:Int)) (fun _ _ hb _ _ _ _ H5 H15 H16 H17 B4096016384=>W.loop (w164_1 hQ (fun _ _ x=>x) H5 H15 H16 H17 B4096016384 hb)) _ _ _ _ rfl rfl rfl rfl hb'4)))))))))))))))))))))))))
end
theorem p164 {prog:Prog}(hf:prog.fn 164 = some pf164){l0:List Pan}{K:List UInt8→Int→Prop}(h:T164_0 prog K l0) :∃res0:List UInt8,∃res1:Int,K res0 res1∧Pus prog 164 [.sl .ext (List.map Pan.row l0)] (.tup [.s res0,.i .i64 res1]):=by
  obtain ⟨v,hv,res0,res1,hk,rfl⟩:=Pus.of (K:=fun v=>∃res0:List UInt8,∃res1:Int,K res0 res1∧v = .tup [.s res0,.i .i64 res1]) hf rfl (w164_0 (σ:=sl0 [.sl .ext (List.map Pan.row l0)]) (fun σ st   res0 res1 H2 H3 hk=>⟨.tup [.s res0,.i .i64 res1],by simp only [pf164,ares,aresL,H2,H3,ares1,Option.map_some],_,rfl,res0,res1,hk,rfl⟩) rfl h)
  exact ⟨res0,res1,hk,hv⟩
abbrev H166 (Q:AE→Sl→St→Prop)(K:List UInt8→Int→Prop):Prop:=∀(σ:Sl)(st:St)(res0:List UInt8)(res1:Int),σ 2 = .s res0→σ 3 = .i .i64 res1→K res0 res1→Q .ret σ st
section
variable {prog:Prog}{d:Nat}{Q:AE→Sl→St→Prop}{K:List UInt8→Int→Prop}(hQ:H166 Q K){σ:Sl}{st:St}
include hQ
end
def r171_0:List AI:=[oO 2 (.box 7 (.t 0)),
 oC 4 (.b false)]
def r171_1:List AI:=[oO 10 (.load 7 true (.t 2)),
 oO 11 (.call false 154 [(.t 10)]),
 oM 9 11,
 oE 12 0 9,
 oE 13 1 9,
 oM 5 12,
 oM 6 13]
def r171_2:List AI:=[oM 15 1,
 oO 16 (.call false 156 [(.t 15)]),
 oM 14 16,
 oE 17 0 14,
 oE 18 1 14,
 oO 7 (.alloc [.i .u64 0,.i .u8 0,.i .i64 0,.s [],.sl .full [],.b false,.i .u64 0]),
 oS 7 7 17,
 oM 8 18]
def r171_3:List AI:=[oM 19 6,
 oB 20 .eql (.t 19) (.c (.i .i64 0)),
 oM 21 20,
 oG 22 (.mv (.t 5)) 21 true,
 oG 23 (.mv (.t 1)) 21 true,
 oG 24 (.bin .eql (.t 22) (.t 23)) 21 true,
 oO 25 (.pick (.t 21) (.t 24) (.c (.b false))),
 oM 26 25,
 oG 27 (.mv (.t 8)) 26 true,
 oG 28 (.bin .eql (.t 27) (.c (.i .i64 0))) 26 true,
 oO 29 (.pick (.t 26) (.t 28) (.c (.b false))),
 oM 30 29,
 oG 31 (.load 7 true (.t 2)) 30 true,
 oG 32 (.load 7 true (.t 7)) 30 true,
 oG 33 (.call false 160 [(.t 31),(.t 32)]) 30 true,
 oO 34 (.pick (.t 30) (.t 33) (.c (.b false))),
 oM 4 34]
abbrev b171:AC:=(.seq (.reg 0 r171_0) (.seq (.reg 1 r171_1) (.seq (.reg 2 r171_2) (.seq (.reg 3 r171_3) .ret))))
def pf171:AF:={ nt:=35,res:=[.tmp 4],body:=b171 }
abbrev H171 (Q:AE→Sl→St→Prop)(K:Bool→Prop):Prop:=∀(σ:Sl)(st:St)(res0:Bool),σ 4 = .b res0→K res0→Q .ret σ st
def T171_0 (prog:Prog)(K:Bool→Prop)(p0:Pan)(want1:List UInt8):Prop:=
  ∃r'1:List UInt8,∃r'2:Int,Pus prog 154 [p0.av] (.tup [.s r'1,.i .i64 r'2])∧∃r'4:Pan,∃r'5:Int,Pus prog 156 [.s want1] (.tup [r'4.av,.i .i64 r'5])∧(r'2 = 0→(r'1 = want1→(r'5 = 0→∃r'10:Bool,Pus prog 160 [p0.av,r'4.av] (.b r'10)∧K r'10)∧(¬(r'5 = 0)→K false))∧(¬(r'1 = want1)→K false))∧(¬(r'2 = 0)→K false)
section
variable {prog:Prog}{d:Nat}{Q:AE→Sl→St→Prop}{K:Bool→Prop}(hQ:H171 Q K){σ:Sl}{st:St}
include hQ
theorem w171_0 {p0:Pan}{want1:List UInt8}(H0:σ 0 = p0.av)(H1:σ 1 = .s want1)(h:T171_0 prog K p0 want1):W prog d (.seq (.reg 0 r171_0) (.seq (.reg 1 r171_1) (.seq (.reg 2 r171_2) (.seq (.reg 3 r171_3) .ret)))) σ st Q:=
 q_ rfl (s_box H0 rfl (m_ (e_ (q_ rfl (l_ rfl lk_here rfl rfl (h.elim fun r'1 e'13=>e'13.elim fun r'2 e'3=>ca_ (sc rfl rfl sn) e'3.1 (m_ (x_ rfl rfl (x_ rfl rfl (m_ (m_ (e_ (sq_ (W.reg (m_ (e'3.2.elim fun r'4 e'12=>e'12.elim fun r'5 e'6=>ca_ (sc H1 rfl sn) e'6.1 (m_ (x_ rfl rfl (x_ rfl rfl (s_alloc (so_ rfl (show lk _ (d,8197) = some (_,([.i .u64 0,.i .u8 0,.i .i64 0,.s [],.sl .full (List.map Val.row ([]:List Val)),.b false,.i .u64 0]:List AV)) from lk_here) rfl rfl rfl (m_ (e_ (q_ rfl (s_mvI rfl (b_ rfl rfl eql_ (s_mvB rfl (em_ (g:=21) rfl (fun g'7=>gy_ rfl (s_mvS rfl (gy_ rfl (s_mvS H1 (gy_ rfl (b_ rfl rfl seq_ (pt_ rfl rfl (s_mvB rfl (em_ (g:=26) rfl (fun g'8=>gy_ rfl (s_mvI rfl (gy_ rfl (b_ rfl rfl eql_ (pt_ rfl rfl (s_mvB rfl (em_ (g:=30) rfl (fun g'9=>gy_ rfl (l_ rfl (lk_other rfl (lk_other rfl lk_here)) rfl rfl (gy_ rfl (l_ rfl lk_here rfl rfl (gy_ rfl ((((e'6.2.1 g'7).1 g'8).1 g'9).elim fun r'10 e'11=>ca_ (sc rfl rfl (sc rfl rfl sn)) e'11.1 (pt_ rfl rfl (s_mvB rfl (e_ (rt_ (hQ _ _ _ rfl e'11.2))))))))))) (fun g'9=>gn_ (b:=false) rfl rfl (gn_ (b:=false) rfl rfl (gn_ (b:=false) rfl rfl (pf_ rfl rfl (s_mvB rfl (e_ (rt_ (hQ _ _ _ rfl (((e'6.2.1 g'7).1 g'8).2 g'9)))))))))))))))) (fun g'8=>gn_ (b:=false) rfl rfl (gn_ (b:=false) rfl rfl (pf_ rfl rfl (s_mvB rfl (gn_ (b:=false) rfl rfl (gn_ (b:=false) rfl rfl (gn_ (b:=false) rfl rfl (pf_ rfl rfl (s_mvB rfl (e_ (rt_ (hQ _ _ _ rfl ((e'6.2.1 g'7).2 g'8)))))))))))))))))))))) (fun g'7=>gn_ (b:=false) rfl rfl (gn_ (b:=false) rfl rfl (gn_ (b:=false) rfl rfl (pf_ rfl rfl (s_mvB rfl (gn_ (b:=false) rfl rfl (gn_ (b:=false) rfl rfl (pf_ rfl rfl (s_mvB rfl (gn_ (b:=false) rfl rfl (gn_ (b:=false) rfl rfl (gn_ (b:=false) rfl rfl (pf_ rfl rfl (s_mvB rfl (e_ (rt_ (hQ _ _ _ rfl (e'6.2.2 g'7))))))))))))))))))))))))))))))))))))))))))))))
end
theorem p171 {prog:Prog}(hf:prog.fn 171 = some pf171){p0:Pan}{want1:List UInt8}{K:Bool→Prop}(h:T171_0 prog K p0 want1) :∃res0:Bool,K res0∧Pus prog 171 [p0.av,.s want1] (.b res0):=by
  obtain ⟨v,hv,res0,hk,rfl⟩:=Pus.of (K:=fun v=>∃res0:Bool,K res0∧v = .b res0) hf rfl (w171_0 (σ:=sl0 [p0.av,.s want1]) (fun σ st   res0 H4 hk=>⟨.b res0,by simp only [pf171,ares,aresL,H4,ares1,Option.map_some],_,rfl,res0,hk,rfl⟩) rfl rfl h)
  exact ⟨res0,hk,hv⟩
def r172_0:List AI:=[oO 2 (.alloc [.i .u8 0,.i .i64 0,.s [],.sl .full [],.b false])]
def r172_1:List AI:=[oM 3 0,
 oO 4 (.build [.i .u8 0,.i .i64 0,.s [],.sl .full [],.b false] [(0,1,(.c (.i .u8 2))),(1,1,(.t 3))]),
 oS 5 2 4]
abbrev b172:AC:=(.seq (.reg 0 r172_0) (.seq (.reg 1 r172_1) .ret))
def pf172:AF:={ nt:=5,res:=[.cell 2 5 true],body:=b172 }
abbrev H172 (Q:AE→Sl→St→Prop)(K:Val→Prop):Prop:=∀(σ:Sl)(st:St)(k0:Key)(v0:Nat)(o0_0:Own)(res0:Val),σ 2 = .p k0 v0 0→lk st.bx k0 = some (v0,[.i .u8 res0.kind,.i .i64 res0.int,.s res0.text,.sl o0_0 (List.map Val.row res0.list),.b res0.cut])→K res0→Q .ret σ st
def T172_0 (prog:Prog)(K:Val→Prop)(n0:Int):Prop:=
  K (Val.mk 2 n0 [] ([]:List Val) false)
section
variable {prog:Prog}{d:Nat}{Q:AE→Sl→St→Prop}{K:Val→Prop}(hQ:H172 Q K){σ:Sl}{st:St}
include hQ
theorem w172_0 {n0:Int}(H0:σ 0 = .i .i64 n0)(h:T172_0 prog K n0):W prog d (.seq (.reg 0 r172_0) (.seq (.reg 1 r172_1) .ret)) σ st Q:=
 sq_ (W.reg (s_alloc (e_ (q_ rfl (m_ (s_build (f_cons rfl rfl (f_cons H0 rfl f_nil)) (so_ rfl (show lk _ (d,0) = some (_,([.i .u8 0,.i .i64 0,.s [],.sl .full (List.map Val.row ([]:List Val)),.b false]:List AV)) from lk_here) rfl rfl rfl (e_ (rt_ (hQ _ _ _ _ _ _ rfl lk_here h))))))))))
end
theorem p172 {prog:Prog}(hf:prog.fn 172 = some pf172){n0:Int}{K:Val→Prop}(h:T172_0 prog K n0) :∃res0:Val,K res0∧Pus prog 172 [.i .i64 n0] (res0.av):=by
  obtain ⟨v,hv,res0,hk,rfl⟩:=Pus.of (K:=fun v=>∃res0:Val,K res0∧v = res0.av) hf rfl (w172_0 (σ:=sl0 [.i .i64 n0]) (fun σ st k0 v0 o0_0 res0 H2 HB2 hk=>⟨res0.avo o0_0,by simp only [pf172,ares,aresL,ares_cellA (n:=5) H2 HB2 rfl,ares_tmp,Option.map_some],_,rfl,res0,hk,rfl⟩) rfl h)
  exact ⟨res0,hk,hv⟩
abbrev H173 (Q:AE→Sl→St→Prop)(K:Val→Prop):Prop:=∀(σ:Sl)(st:St)(k0:Key)(v0:Nat)(o0_0:Own)(res0:Val),σ 0 = .p k0 v0 0→lk st.bx k0 = some (v0,[.i .u8 res0.kind,.i .i64 res0.int,.s res0.text,.sl o0_0 (List.map Val.row res0.list),.b res0.cut])→K res0→Q .ret σ st
section
variable {prog:Prog}{d:Nat}{Q:AE→Sl→St→Prop}{K:Val→Prop}(hQ:H173 Q K){σ:Sl}{st:St}
include hQ
end
def r174_0:List AI:=[oO 2 (.alloc [.i .u8 0,.i .i64 0,.s [],.sl .full [],.b false])]
def r174_1:List AI:=[oM 3 0,
 oO 4 (.build [.i .u8 0,.i .i64 0,.s [],.sl .full [],.b false] [(0,1,(.c (.i .u8 3))),(2,1,(.t 3))]),
 oS 5 2 4]
abbrev b174:AC:=(.seq (.reg 0 r174_0) (.seq (.reg 1 r174_1) .ret))
def pf174:AF:={ nt:=5,res:=[.cell 2 5 true],body:=b174 }
abbrev H174 (Q:AE→Sl→St→Prop)(K:Val→Prop):Prop:=∀(σ:Sl)(st:St)(k0:Key)(v0:Nat)(o0_0:Own)(res0:Val),σ 2 = .p k0 v0 0→lk st.bx k0 = some (v0,[.i .u8 res0.kind,.i .i64 res0.int,.s res0.text,.sl o0_0 (List.map Val.row res0.list),.b res0.cut])→K res0→Q .ret σ st
def T174_0 (prog:Prog)(K:Val→Prop)(s0:List UInt8):Prop:=
  K (Val.mk 3 0 s0 ([]:List Val) false)
section
variable {prog:Prog}{d:Nat}{Q:AE→Sl→St→Prop}{K:Val→Prop}(hQ:H174 Q K){σ:Sl}{st:St}
include hQ
theorem w174_0 {s0:List UInt8}(H0:σ 0 = .s s0)(h:T174_0 prog K s0):W prog d (.seq (.reg 0 r174_0) (.seq (.reg 1 r174_1) .ret)) σ st Q:=
 sq_ (W.reg (s_alloc (e_ (q_ rfl (m_ (s_build (f_cons rfl rfl (f_cons H0 rfl f_nil)) (so_ rfl (show lk _ (d,0) = some (_,([.i .u8 0,.i .i64 0,.s [],.sl .full (List.map Val.row ([]:List Val)),.b false]:List AV)) from lk_here) rfl rfl rfl (e_ (rt_ (hQ _ _ _ _ _ _ rfl lk_here h))))))))))
end
theorem p174 {prog:Prog}(hf:prog.fn 174 = some pf174){s0:List UInt8}{K:Val→Prop}(h:T174_0 prog K s0) :∃res0:Val,K res0∧Pus prog 174 [.s s0] (res0.av):=by
  obtain ⟨v,hv,res0,hk,rfl⟩:=Pus.of (K:=fun v=>∃res0:Val,K res0∧v = res0.av) hf rfl (w174_0 (σ:=sl0 [.s s0]) (fun σ st k0 v0 o0_0 res0 H2 HB2 hk=>⟨res0.avo o0_0,by simp only [pf174,ares,aresL,ares_cellA (n:=5) H2 HB2 rfl,ares_tmp,Option.map_some],_,rfl,res0,hk,rfl⟩) rfl h)
  exact ⟨res0,hk,hv⟩
def r176_0:List AI:=[oC 2 (.b false)]
def r176_1:List AI:=[oM 6 0,
 oO 7 (.call false 156 [(.t 6)]),
 oM 5 7,
 oE 8 0 5,
 oE 9 1 5,
 oO 3 (.alloc [.i .u64 0,.i .u8 0,.i .i64 0,.s [],.sl .full [],.b false,.i .u64 0]),
 oS 7 3 8,
 oM 4 9]
def r176_2:List AI:=[oM 10 4,
 oB 11 .eql (.t 10) (.c (.i .i64 12)),
 oM 12 11,
 oG 13 (.load 7 true (.t 3)) 12 true,
 oG 14 (.build [.i .u64 0,.i .u8 0,.i .i64 0,.s [],.sl .full [],.b false,.i .u64 0] []) 12 true,
 oG 15 (.call false 160 [(.t 13),(.t 14)]) 12 true,
 oO 16 (.pick (.t 12) (.t 15) (.c (.b false))),
 oM 2 16]
abbrev b176:AC:=(.seq (.reg 0 r176_0) (.seq (.reg 1 r176_1) (.seq (.reg 2 r176_2) .ret)))
def pf176:AF:={ nt:=17,res:=[.tmp 2],body:=b176 }
abbrev H176 (Q:AE→Sl→St→Prop)(K:Bool→Prop):Prop:=∀(σ:Sl)(st:St)(res0:Bool),σ 2 = .b res0→K res0→Q .ret σ st
def T176_0 (prog:Prog)(K:Bool→Prop)(s0:List UInt8):Prop:=
  ∃r'1:Pan,∃r'2:Int,Pus prog 156 [.s s0] (.tup [r'1.av,.i .i64 r'2])∧(r'2 = 12→∃r'5:Bool,Pus prog 160 [r'1.av,.ag [.i .u64 0,.i .u8 0,.i .i64 0,.s [],.sl .ext (List.map Val.row ([]:List Val)),.b false,.i .u64 0]] (.b r'5)∧K r'5)∧(¬(r'2 = 12)→K false)
section
variable {prog:Prog}{d:Nat}{Q:AE→Sl→St→Prop}{K:Bool→Prop}(hQ:H176 Q K){σ:Sl}{st:St}
include hQ
theorem w176_0 {s0:List UInt8}(H0:σ 0 = .s s0)(h:T176_0 prog K s0):W prog d (.seq (.reg 0 r176_0) (.seq (.reg 1 r176_1) (.seq (.reg 2 r176_2) .ret))) σ st Q:=
 q_ rfl (m_ (e_ (sq_ (W.reg (m_ (h.elim fun r'1 e'7=>e'7.elim fun r'2 e'3=>ca_ (sc H0 rfl sn) e'3.1 (m_ (x_ rfl rfl (x_ rfl rfl (s_alloc (so_ rfl (show lk _ (d,4101) = some (_,([.i .u64 0,.i .u8 0,.i .i64 0,.s [],.sl .full (List.map Val.row ([]:List Val)),.b false,.i .u64 0]:List AV)) from lk_here) rfl rfl rfl (m_ (e_ (q_ rfl (s_mvI rfl (b_ rfl rfl eql_ (s_mvB rfl (em_ (g:=12) rfl (fun g'4=>gy_ rfl (l_ rfl lk_here rfl rfl (gy_ rfl (s_build f_nil (gy_ rfl ((e'3.2.1 g'4).elim fun r'5 e'6=>ca_ (sc rfl rfl (sc rfl rfl sn)) e'6.1 (pt_ rfl rfl (s_mvB rfl (e_ (rt_ (hQ _ _ _ rfl e'6.2))))))))))) (fun g'4=>gn_ (b:=false) rfl rfl (gn_ (b:=false) rfl rfl (gn_ (b:=false) rfl rfl (pf_ rfl rfl (s_mvB rfl (e_ (rt_ (hQ _ _ _ rfl (e'3.2.2 g'4)))))))))))))))))))))))))))
end
theorem p176 {prog:Prog}(hf:prog.fn 176 = some pf176){s0:List UInt8}{K:Bool→Prop}(h:T176_0 prog K s0) :∃res0:Bool,K res0∧Pus prog 176 [.s s0] (.b res0):=by
  obtain ⟨v,hv,res0,hk,rfl⟩:=Pus.of (K:=fun v=>∃res0:Bool,K res0∧v = .b res0) hf rfl (w176_0 (σ:=sl0 [.s s0]) (fun σ st   res0 H2 hk=>⟨.b res0,by simp only [pf176,ares,aresL,H2,ares1,Option.map_some],_,rfl,res0,hk,rfl⟩) rfl h)
  exact ⟨res0,hk,hv⟩
def r184_0:List AI:=[oC 0 (.sl .full [])]
def r184_1:List AI:=[oO 1 (.call false 174 [(.c (.s [97,32,98]))]),
 oO 2 (.build [.i .u64 0,.i .u8 0,.i .i64 0,.s [],.sl .full [],.b false,.i .u64 0] [(0,1,(.c (.i .u64 3))),(1,5,(.t 1)),(6,1,(.c (.i .u64 1)))]),
 oO 3 (.call false 172 [(.c (.i .i64 1))]),
 oO 4 (.build [.i .u64 0,.i .u8 0,.i .i64 0,.s [],.sl .full [],.b false,.i .u64 0] [(0,1,(.c (.i .u64 4))),(1,5,(.t 3)),(6,1,(.c (.i .u64 4)))]),
 oO 5 (.build [.i .u64 0,.i .u8 0,.i .i64 0,.s [],.sl .full [],.b false,.i .u64 0] [(6,1,(.c (.i .u64 2)))]),
 oO 6 (.bslice [.i .u64 0,.i .u8 0,.i .i64 0,.s [],.sl .full [],.b false,.i .u64 0] 3 [(0,(.t 2)),(1,(.t 4)),(2,(.t 5))]),
 oM 0 6]
abbrev b184:AC:=(.seq (.reg 0 r184_0) (.seq (.reg 1 r184_1) .ret))
def pf184:AF:={ nt:=7,res:=[.tmp 0],body:=b184 }
abbrev H184 (d:Nat)(st0:St)(Q:AE→Sl→St→Prop)(K:List Pan→Prop):Prop:=∀(σ:Sl)(st:St)(res0:List Pan),σ 0 = .sl .full (List.map Pan.row res0)→Fr d (d,0) st0.bx st0.ow st.bx st.ow→K res0→Q .ret σ st
def T184_0 (prog:Prog)(K:List Pan→Prop) :Prop:=
  ∃r'1:Val,Pus prog 174 [.s ([97,32,98]:List UInt8)] (r'1.av)∧∃r'3:Val,Pus prog 172 [.i .i64 1] (r'3.av)∧K [(Pan.mk 3 r'1 1),(Pan.mk 4 r'3 4),(Pan.mk 0 (Val.mk 0 0 [] ([]:List Val) false) 2)]
section
variable {prog:Prog}{d:Nat}{Q:AE→Sl→St→Prop}{K:List Pan→Prop}{st0:St}(hQ:H184 d st0 Q K){σ:Sl}{st:St}
include hQ
theorem w184_0 (FR:Fr d (d,0) st0.bx st0.ow st.bx st.ow)(h:T184_0 prog K ):W prog d (.seq (.reg 0 r184_0) (.seq (.reg 1 r184_1) .ret)) σ st Q:=
 q_ rfl (s_mvL (f:=Pan.row) (l:=[]) rfl (e_ (q_ rfl (h.elim fun r'1 e'2=>ca_ (sc rfl rfl sn) e'2.1 (s_build (f_cons rfl rfl (f_cons rfl rfl (f_cons rfl rfl f_nil))) (e'2.2.elim fun r'3 e'4=>ca_ (sc rfl rfl sn) e'4.1 (s_build (f_cons rfl rfl (f_cons rfl rfl (f_cons rfl rfl f_nil))) (s_build (f_cons rfl rfl f_nil) (s_bslM (f:=Pan.row) (l:=[(Pan.mk 3 r'1 1),(Pan.mk 4 r'3 4),(Pan.mk 0 (Val.mk 0 0 [] ([]:List Val) false) 2)]) rfl rfl (g_cons rfl rfl rfl (g_cons rfl rfl rfl (g_cons rfl rfl rfl g_nil))) (by simp only [List.map_cons,List.map_nil,Pan.row_eq]; rfl) (s_mvL rfl (e_ (rt_ (hQ _ _ _ rfl FR e'4.2)))))))))))))
end
theorem p184 {prog:Prog}(hf:prog.fn 184 = some pf184)  {K:List Pan→Prop}(h:T184_0 prog K ):PuN prog 184 [] (fun r=>∃res0:List Pan,(r = .sl .full (List.map Pan.row res0))∧K res0):=
  PuN.of hf rfl fun d st=>w184_0 (st0:=st) (Q:=fun e σ st'=>(e = .normal∨e = .ret)∧∃r,ares σ st' pf184.res = some r∧_∧Fr d (d,0) st.bx st.ow st'.bx st'.ow) (fun σ st'   res0 H0 hf hk=>⟨.inr rfl,.sl .full (List.map Pan.row res0),by simp only [pf184,ares,aresL,H0,ares1,Option.map_some,H0],⟨res0,rfl,hk⟩,hf⟩) (σ:=sl0 []) Fr.refl h
def r161_0:List AI:=[oC 0 (.b false)]
def r161_1:List AI:=[oO 8 (.call true 184 []),
 oO 9 (.call false 165 [(.t 8)]),
 oM 7 9,
 oE 10 0 7,
 oE 11 1 7,
 oM 1 10,
 oM 2 11]
def r161_2:List AI:=[oO 13 (.call true 184 []),
 oO 14 (.call false 172 [(.c (.i .i64 (-1)))]),
 oO 15 (.build [.i .u64 0,.i .u8 0,.i .i64 0,.s [],.sl .full [],.b false,.i .u64 0] [(0,1,(.c (.i .u64 1))),(1,5,(.t 14))]),
 oO 16 (.bslice [.i .u64 0,.i .u8 0,.i .i64 0,.s [],.sl .full [],.b false,.i .u64 0] 1 [(0,(.t 15))]),
 oO 17 (.app 7 80 (.t 13) (.t 16)),
 oO 18 (.call false 165 [(.t 17)]),
 oM 12 18,
 oE 19 0 12,
 oE 20 1 12,
 oM 3 19,
 oM 4 20]
def r161_3:List AI:=[oO 22 (.call true 184 []),
 oO 23 (.call false 164 [(.t 22)]),
 oM 21 23,
 oE 24 0 21,
 oE 25 1 21,
 oM 5 24,
 oM 6 25]
def r161_4:List AI:=[oO 26 (.call true 184 []),
 oO 27 (.iaL 7 (.t 26) (.c (.i .i64 0))),
 oO 28 (.load 7 true (.t 27)),
 oO 29 (.call false 171 [(.t 28),(.c (.s [112,97,110,105,99,32,34,97,32,98,34,32,114,101,99,111,118,101,114,101,100]))]),
 oM 30 29,
 oG 31 (.call true 184 []) 30 true,
 oG 32 (.iaL 7 (.t 31) (.c (.i .i64 1))) 30 true,
 oG 33 (.load 7 true (.t 32)) 30 true,
 oG 34 (.call false 171 [(.t 33),(.c (.s [102,97,117,108,116,32,49,58,32,100,105,118,105,115,105,111,110,32,98,121,32,122,101,114,111,32,97,98,111,114,116,101,100]))]) 30 true,
 oO 35 (.pick (.t 30) (.t 34) (.c (.b false))),
 oM 36 35,
 oG 37 (.call true 184 []) 36 true,
 oG 38 (.iaL 7 (.t 37) (.c (.i .i64 2))) 36 true,
 oG 39 (.load 7 true (.t 38)) 36 true,
 oG 40 (.call false 171 [(.t 39),(.c (.s [101,120,105,116]))]) 36 true,
 oO 41 (.pick (.t 36) (.t 40) (.c (.b false))),
 oM 42 41,
 oG 43 (.mv (.t 2)) 42 true,
 oG 44 (.bin .eql (.t 43) (.c (.i .i64 6))) 42 true,
 oO 45 (.pick (.t 42) (.t 44) (.c (.b false))),
 oM 46 45,
 oG 47 (.mv (.t 4)) 46 true,
 oG 48 (.bin .eql (.t 47) (.c (.i .i64 0))) 46 true,
 oO 49 (.pick (.t 46) (.t 48) (.c (.b false))),
 oM 50 49,
 oG 51 (.mv (.t 3)) 50 true,
 oG 52 (.bin .eql (.t 51) (.c (.i .i64 3))) 50 true,
 oO 53 (.pick (.t 50) (.t 52) (.c (.b false))),
 oM 54 53,
 oG 55 (.call false 176 [(.c (.s [112,97,110,105,99,32,110,105,108]))]) 54 true,
 oO 56 (.pick (.t 54) (.t 55) (.c (.b false))),
 oM 57 56,
 oG 58 (.call false 176 [(.c (.s [101,120,105,116,32,114,101,99,111,118,101,114,101,100]))]) 57 true,
 oO 59 (.pick (.t 57) (.t 58) (.c (.b false))),
 oM 60 59,
 oG 61 (.mv (.t 6)) 60 true,
 oG 62 (.bin .eql (.t 61) (.c (.i .i64 0))) 60 true,
 oO 63 (.pick (.t 60) (.t 62) (.c (.b false))),
 oM 64 63,
 oG 65 (.mv (.t 5)) 64 true,
 oG 66 (.bin .eql (.t 65) (.c (.s [112,97,110,105,99,32,34,97,32,98,34,32,114,101,99,111,118,101,114,101,100,10,102,97,117,108,116,32,49,58,32,100,105,118,105,115,105,111,110,32,98,121,32,122,101,114,111,32,97,98,111,114,116,101,100,10,101,120,105,116,10]))) 64 true,
 oO 67 (.pick (.t 64) (.t 66) (.c (.b false))),
 oM 0 67]
abbrev c161_0:AC:=(.seq (.reg 2 r161_2) (.seq (.reg 3 r161_3) (.seq (.reg 4 r161_4) .ret)))
abbrev c161_1:AC:=(.seq (.reg 1 r161_1) c161_0)
abbrev b161:AC:=(.seq (.reg 0 r161_0) c161_1)
def pf161:AF:={ nt:=68,res:=[.tmp 0],body:=b161 }
abbrev H161 (Q:AE→Sl→St→Prop)(K:Bool→Prop):Prop:=∀(σ:Sl)(st:St)(res0:Bool),σ 0 = .b res0→K res0→Q .ret σ st
def T161_2 (prog:Prog)(K:Bool→Prop)(e2:Int):Prop:=
  ∃r'1:List Pan,(PuN prog 184 [] (fun r=>r = .sl .full (List.map Pan.row r'1)))∧∃r'5:Val,Pus prog 172 [.i .i64 (-1)] (r'5.av)∧Fit (r'1.length + [(Pan.mk 1 r'5 0)].length) 80∧∃r'12:Int,∃r'13:Int,Pus prog 165 [.sl .ext (List.map Pan.row (r'1 ++ [(Pan.mk 1 r'5 0)]))] (.tup [.i .i64 r'12,.i .i64 r'13])∧∃r'15:List Pan,(PuN prog 184 [] (fun r=>r = .sl .full (List.map Pan.row r'15)))∧∃r'19:List UInt8,∃r'20:Int,Pus prog 164 [.sl .ext (List.map Pan.row r'15)] (.tup [.s r'19,.i .i64 r'20])∧∃r'22:List Pan,(PuN prog 184 [] (fun r=>r = .sl .full (List.map Pan.row r'22)))∧∃c'26:Pan,r'22[0]? = some c'26∧∃r'28:Bool,Pus prog 171 [c'26.av,.s ([112,97,110,105,99,32,34,97,32,98,34,32,114,101,99,111,118,101,114,101,100]:List UInt8)] (.b r'28)∧(r'28 = true→∃r'31:List Pan,(PuN prog 184 [] (fun r=>r = .sl .full (List.map Pan.row r'31)))∧∃c'35:Pan,r'31[1]? = some c'35∧∃r'37:Bool,Pus prog 171 [c'35.av,.s ([102,97,117,108,116,32,49,58,32,100,105,118,105,115,105,111,110,32,98,121,32,122,101,114,111,32,97,98,111,114,116,101,100]:List UInt8)] (.b r'37)∧(r'37 = true→∃r'40:List Pan,(PuN prog 184 [] (fun r=>r = .sl .full (List.map Pan.row r'40)))∧∃c'44:Pan,r'40[2]? = some c'44∧∃r'46:Bool,Pus prog 171 [c'44.av,.s ([101,120,105,116]:List UInt8)] (.b r'46)∧(r'46 = true→(e2 = 6→(r'13 = 0→(r'12 = 3→∃r'52:Bool,Pus prog 176 [.s ([112,97,110,105,99,32,110,105,108]:List UInt8)] (.b r'52)∧(r'52 = true→∃r'55:Bool,Pus prog 176 [.s ([101,120,105,116,32,114,101,99,111,118,101,114,101,100]:List UInt8)] (.b r'55)∧(r'55 = true→(r'20 = 0→K (decide (r'19 = ([112,97,110,105,99,32,34,97,32,98,34,32,114,101,99,111,118,101,114,101,100,10,102,97,117,108,116,32,49,58,32,100,105,118,105,115,105,111,110,32,98,121,32,122,101,114,111,32,97,98,111,114,116,101,100,10,101,120,105,116,10]:List UInt8))))∧(¬(r'20 = 0)→K false))∧(r'55 = false→K false))∧(r'52 = false→K false))∧(¬(r'12 = 3)→K false))∧(¬(r'13 = 0)→K false))∧(¬(e2 = 6)→K false))∧(r'46 = false→K false))∧(r'37 = false→K false))∧(r'28 = false→K false)
def T161_1 (prog:Prog)(K:Bool→Prop) :Prop:=
  ∃r'1:List Pan,(PuN prog 184 [] (fun r=>r = .sl .full (List.map Pan.row r'1)))∧∃r'5:Int,∃r'6:Int,Pus prog 165 [.sl .ext (List.map Pan.row r'1)] (.tup [.i .i64 r'5,.i .i64 r'6])∧T161_2 prog K r'6
def T161_0 (prog:Prog)(K:Bool→Prop) :Prop:=
  T161_1 prog K 
section
variable {prog:Prog}{d:Nat}{Q:AE→Sl→St→Prop}{K:Bool→Prop}(hQ:H161 Q K){σ:Sl}{st:St}
include hQ
theorem w161_2 {e2:Int}(H2:σ 2 = .i .i64 e2)(h:T161_2 prog K e2):W prog d c161_0 σ st Q:=
 q_ rfl (h.elim fun r'1 e'2=>s_callN sen (e'2.1) (fun st'3 hf'4=>e'2.2.elim fun r'5 e'6=>ca_ (sc rfl rfl sn) e'6.1 (s_build (f_cons rfl rfl (f_cons rfl rfl f_nil)) (s_bslM (f:=Pan.row) (l:=[(Pan.mk 1 r'5 0)]) rfl rfl (g_cons rfl rfl rfl g_nil) (by simp only [List.map_cons,List.map_nil,Pan.row_eq]; rfl) (s_app Pan.row_len rfl rfl rfl App.full e'6.2.1 rfl (fun o'7 ow'10 a'8 fr'9 on'11=>e'6.2.2.elim fun r'12 e'60=>e'60.elim fun r'13 e'14=>ca_ (sc rfl rfl sn) e'14.1 (m_ (x_ rfl rfl (x_ rfl rfl (m_ (m_ (e_ (q_ rfl (e'14.2.elim fun r'15 e'16=>s_callN sen (e'16.1) (fun st'17 hf'18=>e'16.2.elim fun r'19 e'59=>e'59.elim fun r'20 e'21=>ca_ (sc rfl rfl sn) e'21.1 (m_ (x_ rfl rfl (x_ rfl rfl (m_ (m_ (e_ (q_ rfl (e'21.2.elim fun r'22 e'23=>s_callN sen (e'23.1) (fun st'24 hf'25=>e'23.2.elim fun c'26 e'27=>ia_ rfl rfl (by decide) e'27.1 (Pan.row_eq c'26) rfl (lf_ rfl rfl rfl (e'27.2.elim fun r'28 e'29=>ca_ (sc rfl rfl (sc rfl rfl sn)) e'29.1 (s_mvB rfl (eb_ (g:=30) rfl (fun g'30=>gy_ rfl ((e'29.2.1 g'30).elim fun r'31 e'32=>s_callN sen (e'32.1) (fun st'33 hf'34=>gy_ rfl (e'32.2.elim fun c'35 e'36=>ia_ rfl rfl (by decide) e'36.1 (Pan.row_eq c'35) rfl (gy_ rfl (lf_ rfl rfl rfl (gy_ rfl (e'36.2.elim fun r'37 e'38=>ca_ (sc rfl rfl (sc rfl rfl sn)) e'38.1 (pt_ rfl rfl (s_mvB rfl (eb_ (g:=36) rfl (fun g'39=>gy_ rfl ((e'38.2.1 g'39).elim fun r'40 e'41=>s_callN sen (e'41.1) (fun st'42 hf'43=>gy_ rfl (e'41.2.elim fun c'44 e'45=>ia_ rfl rfl (by decide) e'45.1 (Pan.row_eq c'44) rfl (gy_ rfl (lf_ rfl rfl rfl (gy_ rfl (e'45.2.elim fun r'46 e'47=>ca_ (sc rfl rfl (sc rfl rfl sn)) e'47.1 (pt_ rfl rfl (s_mvB rfl (eb_ (g:=42) rfl (fun g'48=>gy_ rfl (s_mvI H2 (gy_ rfl (b_ rfl rfl eql_ (pt_ rfl rfl (s_mvB rfl (em_ (g:=46) rfl (fun g'49=>gy_ rfl (s_mvI rfl (gy_ rfl (b_ rfl rfl eql_ (pt_ rfl rfl (s_mvB rfl (em_ (g:=50) rfl (fun g'50=>gy_ rfl (s_mvI rfl (gy_ rfl (b_ rfl rfl eql_ (pt_ rfl rfl (s_mvB rfl (em_ (g:=54) rfl (fun g'51=>gy_ rfl (((((e'47.2.1 g'48).1 g'49).1 g'50).1 g'51).elim fun r'52 e'53=>ca_ (sc rfl rfl sn) e'53.1 (pt_ rfl rfl (s_mvB rfl (eb_ (g:=57) rfl (fun g'54=>gy_ rfl ((e'53.2.1 g'54).elim fun r'55 e'56=>ca_ (sc rfl rfl sn) e'56.1 (pt_ rfl rfl (s_mvB rfl (eb_ (g:=60) rfl (fun g'57=>gy_ rfl (s_mvI rfl (gy_ rfl (b_ rfl rfl eql_ (pt_ rfl rfl (s_mvB rfl (em_ (g:=64) rfl (fun g'58=>gy_ rfl (s_mvS rfl (gy_ rfl (b_ rfl rfl seq_ (pt_ rfl rfl (s_mvB rfl (e_ (rt_ (hQ _ _ _ rfl ((e'56.2.1 g'57).1 g'58)))))))))) (fun g'58=>gn_ (b:=false) rfl rfl (gn_ (b:=false) rfl rfl (pf_ rfl rfl (s_mvB rfl (e_ (rt_ (hQ _ _ _ rfl ((e'56.2.1 g'57).2 g'58))))))))))))))) (fun g'57=>gn_ (b:=false) rfl rfl (gn_ (b:=false) rfl rfl (pf_ rfl rfl (s_mvB rfl (gn_ (b:=false) rfl rfl (gn_ (b:=false) rfl rfl (pf_ rfl rfl (s_mvB rfl (e_ (rt_ (hQ _ _ _ rfl (e'56.2.2 g'57))))))))))))))))) (fun g'54=>gn_ (b:=false) rfl rfl (pf_ rfl rfl (s_mvB rfl (gn_ (b:=false) rfl rfl (gn_ (b:=false) rfl rfl (pf_ rfl rfl (s_mvB rfl (gn_ (b:=false) rfl rfl (gn_ (b:=false) rfl rfl (pf_ rfl rfl (s_mvB rfl (e_ (rt_ (hQ _ _ _ rfl (e'53.2.2 g'54)))))))))))))))))))) (fun g'51=>gn_ (b:=false) rfl rfl (pf_ rfl rfl (s_mvB rfl (gn_ (b:=false) rfl rfl (pf_ rfl rfl (s_mvB rfl (gn_ (b:=false) rfl rfl (gn_ (b:=false) rfl rfl (pf_ rfl rfl (s_mvB rfl (gn_ (b:=false) rfl rfl (gn_ (b:=false) rfl rfl (pf_ rfl rfl (s_mvB rfl (e_ (rt_ (hQ _ _ _ rfl ((((e'47.2.1 g'48).1 g'49).1 g'50).2 g'51))))))))))))))))))))))))) (fun g'50=>gn_ (b:=false) rfl rfl (gn_ (b:=false) rfl rfl (pf_ rfl rfl (s_mvB rfl (gn_ (b:=false) rfl rfl (pf_ rfl rfl (s_mvB rfl (gn_ (b:=false) rfl rfl (pf_ rfl rfl (s_mvB rfl (gn_ (b:=false) rfl rfl (gn_ (b:=false) rfl rfl (pf_ rfl rfl (s_mvB rfl (gn_ (b:=false) rfl rfl (gn_ (b:=false) rfl rfl (pf_ rfl rfl (s_mvB rfl (e_ (rt_ (hQ _ _ _ rfl (((e'47.2.1 g'48).1 g'49).2 g'50))))))))))))))))))))))))))))) (fun g'49=>gn_ (b:=false) rfl rfl (gn_ (b:=false) rfl rfl (pf_ rfl rfl (s_mvB rfl (gn_ (b:=false) rfl rfl (gn_ (b:=false) rfl rfl (pf_ rfl rfl (s_mvB rfl (gn_ (b:=false) rfl rfl (pf_ rfl rfl (s_mvB rfl (gn_ (b:=false) rfl rfl (pf_ rfl rfl (s_mvB rfl (gn_ (b:=false) rfl rfl (gn_ (b:=false) rfl rfl (pf_ rfl rfl (s_mvB rfl (gn_ (b:=false) rfl rfl (gn_ (b:=false) rfl rfl (pf_ rfl rfl (s_mvB rfl (e_ (rt_ (hQ _ _ _ rfl ((e'47.2.1 g'48).2 g'49))))))))))))))))))))))))))))))))) (fun g'48=>gn_ (b:=false) rfl rfl (gn_ (b:=false) rfl rfl (pf_ rfl rfl (s_mvB rfl (gn_ (b:=false) rfl rfl (gn_ (b:=false) rfl rfl (pf_ rfl rfl (s_mvB rfl (gn_ (b:=false) rfl rfl (gn_ (b:=false) rfl rfl (pf_ rfl rfl (s_mvB rfl (gn_ (b:=false) rfl rfl (pf_ rfl rfl (s_mvB rfl (gn_ (b:=false) rfl rfl (pf_ rfl rfl (s_mvB rfl (gn_ (b:=false) rfl rfl (gn_ (b:=false) rfl rfl (pf_ rfl rfl (s_mvB rfl (gn_ (b:=false) rfl rfl (gn_ (b:=false) rfl rfl (pf_ rfl rfl (s_mvB rfl (e_ (rt_ (hQ _ _ _ rfl (e'47.2.2 g'48))))))))))))))))))))))))))))))))))))))))) (fun g'39=>gn_ (b:=false) rfl rfl (gn_ (b:=false) rfl rfl (gn_ (b:=false) rfl rfl (gn_ (b:=false) rfl rfl (pf_ rfl rfl (s_mvB rfl (gn_ (b:=false) rfl rfl (gn_ (b:=false) rfl rfl (pf_ rfl rfl (s_mvB rfl (gn_ (b:=false) rfl rfl (gn_ (b:=false) rfl rfl (pf_ rfl rfl (s_mvB rfl (gn_ (b:=false) rfl rfl (gn_ (b:=false) rfl rfl (pf_ rfl rfl (s_mvB rfl (gn_ (b:=false) rfl rfl (pf_ rfl rfl (s_mvB rfl (gn_ (b:=false) rfl rfl (pf_ rfl rfl (s_mvB rfl (gn_ (b:=false) rfl rfl (gn_ (b:=false) rfl rfl (pf_ rfl rfl (s_mvB rfl (gn_ (b:=false) rfl rfl (gn_ (b:=false) rfl rfl (pf_ rfl rfl (s_mvB rfl (e_ (rt_ (hQ _ _ _ rfl (e'38.2.2 g'39))))))))))))))))))))))))))))))))))))))))))))))) (fun g'30=>gn_ (b:=false) rfl rfl (gn_ (b:=false) rfl rfl (gn_ (b:=false) rfl rfl (gn_ (b:=false) rfl rfl (pf_ rfl rfl (s_mvB rfl (gn_ (b:=false) rfl rfl (gn_ (b:=false) rfl rfl (gn_ (b:=false) rfl rfl (gn_ (b:=false) rfl rfl (pf_ rfl rfl (s_mvB rfl (gn_ (b:=false) rfl rfl (gn_ (b:=false) rfl rfl (pf_ rfl rfl (s_mvB rfl (gn_ (b:=false) rfl rfl (gn_ (b:=false) rfl rfl (pf_ rfl rfl (s_mvB rfl (gn_ (b:=false) rfl rfl (gn_ (b:=false) rfl rfl (pf_ rfl rfl (s_mvB rfl (gn_ (b:=false) rfl rfl (pf_ rfl rfl (s_mvB rfl (gn_ (b:=false) rfl rfl (pf_ rfl rfl (s_mvB rfl (gn_ (b:=false) rfl rfl (gn_ (b:=false) rfl rfl (pf_ rfl rfl (s_mvB rfl (gn_ (b:=false) rfl rfl (gn_ (b:=false) rfl rfl (pf_ rfl rfl (s_mvB rfl (e_ (rt_ (hQ _ _ _ rfl (e'29.2.2 g'30))))))))))))))))))))))))))))))))))))))))))))))))))))))))))))))))))))))
theorem w161_1 (h:T161_1 prog K ):W prog d c161_1 σ st Q:=
 q_ rfl (h.elim fun r'1 e'2=>s_callN sen (e'2.1) (fun st'3 hf'4=>e'2.2.elim fun r'5 e'8=>e'8.elim fun r'6 e'7=>ca_ (sc rfl rfl sn) e'7.1 (m_ (x_ rfl rfl (x_ rfl rfl (m_ (m_ (e_ (w161_2 hQ rfl e'7.2)))))))))
theorem w161_0 (h:T161_0 prog K ):W prog d (.seq (.reg 0 r161_0) c161_1) σ st Q:=
 q_ rfl (m_ (e_ (w161_1 hQ h)))
end
theorem p161 {prog:Prog}(hf:prog.fn 161 = some pf161)  {K:Bool→Prop}(h:T161_0 prog K ) :∃res0:Bool,K res0∧Pus prog 161 [] (.b res0):=by
  obtain ⟨v,hv,res0,hk,rfl⟩:=Pus.of (K:=fun v=>∃res0:Bool,K res0∧v = .b res0) hf rfl (w161_0 (σ:=sl0 []) (fun σ st   res0 H0 hk=>⟨.b res0,by simp only [pf161,ares,aresL,H0,ares1,Option.map_some],_,rfl,res0,hk,rfl⟩)  h)
  exact ⟨res0,hk,hv⟩
end Go.AM

namespace Go.AM
open Go
set_option linter.unusedVariables false
set_option linter.unusedSimpArgs false
set_option maxRecDepth 4000
attribute [local irreducible] WO fillCells fillRows
abbrev H149 (Q:AE→Sl→St→Prop)(K:Bool→Prop):Prop:=∀(σ:Sl)(st:St)(res0:Bool),σ 4 = .b res0→K res0→Q .ret σ st
section
variable {prog:Prog}{d:Nat}{Q:AE→Sl→St→Prop}{K:Bool→Prop}(hQ:H149 Q K){σ:Sl}{st:St}
include hQ
end
abbrev H150 (Q:AE→Sl→St→Prop)(K:Bool→Prop):Prop:=∀(σ:Sl)(st:St)(res0:Bool),σ 2 = .b res0→K res0→Q .ret σ st
section
variable {prog:Prog}{d:Nat}{Q:AE→Sl→St→Prop}{K:Bool→Prop}(hQ:H150 Q K){σ:Sl}{st:St}
include hQ
end
end Go.AM

namespace Go.AM
open Go
set_option linter.unusedVariables false
set_option linter.unusedSimpArgs false
set_option maxRecDepth 4000
attribute [local irreducible] WO fillCells fillRows
def r177_0:List AI:=[oC 2 (.sl .full []),
 oC 3 (.b false)]
def r177_1:List AI:=[oC 4 (.sl .full [])]
def r177_2:List AI:=[oC 5 (.i .i64 0)]
def r177_3:List AI:=[oC 6 (.i .i64 0)]
def r177_4:List AI:=[oM 7 6,
 oM 8 0,
 oO 9 (.len true (.t 8)),
 oB 10 .lss (.t 7) (.t 9)]
def r177_5:List AI:=[oM 13 0,
 oM 14 6,
 oO 15 (.ixS (.t 13) (.t 14)),
 oB 16 .eql (.t 15) (.c (.i .u8 10))]
def r177_6:List AI:=[oM 17 4,
 oM 18 0,
 oM 19 5,
 oM 20 6,
 oO 21 (.slS (.t 18) (some (.t 19)) (some (.t 20))),
 oO 22 (.bslice [.s []] 1 [(0,(.t 21))]),
 oO 23 (.app 1 16 (.t 17) (.t 22)),
 oM 4 23]
def r177_7:List AI:=[oM 24 6,
 oB 25 .add (.t 24) (.c (.i .i64 1)),
 oM 5 25]
def r177_8:List AI:=[oM 11 6,
 oB 12 .add (.t 11) (.c (.i .i64 1)),
 oM 6 12]
def r177_9:List AI:=[oM 26 4,
 oM 27 5,
 oM 28 0,
 oO 29 (.len true (.t 28)),
 oB 30 .eql (.t 27) (.t 29),
 oM 2 26,
 oM 3 30]
abbrev c177_0:AC:=(.reg 5 r177_8)
abbrev l177_0:AC:=(.seq (.seq (.reg 4 r177_4) (.cond (.t 10) .skip (.exit 0))) (.seq (.block 1 (.seq (.reg 6 r177_5) (.cond (.t 16) (.seq (.reg 7 r177_6) (.reg 8 r177_7)) .skip))) c177_0))
abbrev c177_2:AC:=(.seq (.reg 9 r177_9) .ret)
abbrev b177:AC:=(.seq (.reg 0 r177_0) (.seq (.reg 1 r177_1) (.seq (.reg 2 r177_2) (.seq (.seq (.reg 3 r177_3) (.block 0 (.loop l177_0))) c177_2))))
def pf177:AF:={ nt:=31,res:=[.tmp 2,.tmp 3],body:=b177 }
abbrev H177 (Q:AE→Sl→St→Prop)(K:List (List UInt8)→Bool→Prop):Prop:=∀(σ:Sl)(st:St)(o0:Own)(res0:List (List UInt8))(res1:Bool),σ 2 = .sl o0 (List.map rowS res0)→σ 3 = .b res1→K res0 res1→Q .ret σ st
abbrev I177_0 (prog:Prog)(d:Nat)(Q:AE→Sl→St→Prop)(s0:List UInt8)(out4:List (List UInt8))(from5:Int)(i6:Int):Prop:=
  ∀(σ:Sl)(st:St)(o_out4:Own),σ 0 = .s s0→σ 4 = .sl o_out4 (List.map rowS out4)→σ 5 = .i .i64 from5→σ 6 = .i .i64 i6→ApM d st.ow o_out4 out4.length→W prog d (.loop l177_0) σ st (blockW 0 (thenW prog d c177_2 Q))
def T177_2 (prog:Prog)(K:List (List UInt8)→Bool→Prop)(P0:List (List UInt8)→Int→Int→Prop)(s0:List UInt8)(out4:List (List UInt8))(from5:Int)(i6:Int):Prop:=
  P0 out4 from5 (IntKind.i64.wrap (i6 + 1))
def T177_3 (prog:Prog)(K:List (List UInt8)→Bool→Prop)(s0:List UInt8)(out4:List (List UInt8))(from5:Int):Prop:=
  K out4 (decide (from5 = (s0.length:Int)))
def T177_1 (prog:Prog)(K:List (List UInt8)→Bool→Prop)(P0:List (List UInt8)→Int→Int→Prop)(s0:List UInt8)(out4:List (List UInt8))(from5:Int)(i6:Int):Prop:=
  (i6 < (s0.length:Int)→0≤i6∧∃c'2:UInt8,s0[(i6).toNat]? = some c'2∧((c'2.toNat:Int) = 10→0≤from5∧from5≤i6∧(i6).toNat≤s0.length∧Fit (out4.length + [((s0.drop (from5).toNat).take ((i6).toNat - (from5).toNat))].length) 16∧T177_2 prog K P0 s0 (out4 ++ [((s0.drop (from5).toNat).take ((i6).toNat - (from5).toNat))]) (IntKind.i64.wrap (i6 + 1)) i6)∧(¬((c'2.toNat:Int) = 10)→T177_2 prog K P0 s0 out4 from5 i6))∧(¬(i6 < (s0.length:Int))→T177_3 prog K s0 out4 from5)
def T177_0 (prog:Prog)(K:List (List UInt8)→Bool→Prop)(s0:List UInt8):Prop:=
  ∀P0:List (List UInt8)→Int→Int→Prop,(∀(out4:List (List UInt8))(from5:Int)(i6:Int),T177_1 prog K P0 s0 out4 from5 i6→P0 out4 from5 i6)→P0 ([]:List (List UInt8)) 0 0
section
variable {prog:Prog}{d:Nat}{Q:AE→Sl→St→Prop}{K:List (List UInt8)→Bool→Prop}(hQ:H177 Q K){σ:Sl}{st:St}
include hQ
theorem w177_2 {s0:List UInt8}{out4:List (List UInt8)}{from5 i6:Int}{P0:List (List UInt8)→Int→Int→Prop} (kP0 :∀(out4:List (List UInt8))(from5:Int)(i6:Int),P0 out4 from5 i6→I177_0 prog d Q s0 out4 from5 i6){o_out4:Own}(H0:σ 0 = .s s0)(H4:σ 4 = .sl o_out4 (List.map rowS out4))(H5:σ 5 = .i .i64 from5)(H6:σ 6 = .i .i64 i6)(A4:ApM d st.ow o_out4 out4.length)(h:T177_2 prog K P0 s0 out4 from5 i6):W prog d c177_0 σ st (thenW prog d (.loop l177_0) (blockW 0 (thenW prog d c177_2 Q))):=
 W.reg0 rfl fun _ _=>m_ (b_ H6 rfl add_ (m_ (e_ (kP0 _ _ _ h _ _ _ H0 H4 H5 rfl A4))))
theorem w177_3 {s0:List UInt8}{out4:List (List UInt8)}{from5:Int}{o_out4:Own}(H0:σ 0 = .s s0)(H4:σ 4 = .sl o_out4 (List.map rowS out4))(H5:σ 5 = .i .i64 from5)(A4:ApM d st.ow o_out4 out4.length)(h:T177_3 prog K s0 out4 from5):W prog d c177_2 σ st Q:=
 q_ rfl (s_mvL H4 (m_ (m_ (ln_ H0 (b_ H5 rfl eql_ (s_mvL rfl (m_ (e_ (rt_ (hQ _ _ _ _ _ rfl rfl h))))))))))
theorem w177_1 {s0:List UInt8}{out4:List (List UInt8)}{from5 i6:Int}{P0:List (List UInt8)→Int→Int→Prop} (kP0 :∀(out4:List (List UInt8))(from5:Int)(i6:Int),P0 out4 from5 i6→I177_0 prog d Q s0 out4 from5 i6){o_out4:Own}(H0:σ 0 = .s s0)(H4:σ 4 = .sl o_out4 (List.map rowS out4))(H5:σ 5 = .i .i64 from5)(H6:σ 6 = .i .i64 i6)(A4:ApM d st.ow o_out4 out4.length)(h:T177_1 prog K P0 s0 out4 from5 i6):W prog d l177_0 σ st (thenW prog d (.loop l177_0) (blockW 0 (thenW prog d c177_2 Q))):=
 sq_ (q_ rfl (m_ (m_ (ln_ H0 (b_ H6 rfl lss_ (e_ (cs_ rfl (fun g'1=>sk_ (sq_ (bk_ (q_ rfl (m_ (m_ ((h.1 g'1).2.elim fun c'2 e'3=>s_ixS H0 H6 (h.1 g'1).1 e'3.1 (b_ rfl rfl eql_ (e_ (cs_ rfl (fun g'4=>q_ rfl (s_mvL H4 (m_ (m_ (m_ (s_slS H0 H5 H6 (e'3.2.1 g'4).1 (e'3.2.1 g'4).2.1 (e'3.2.1 g'4).2.2.1 (s_bslM (f:=rowS) (l:=[((s0.drop (from5).toNat).take ((i6).toNat - (from5).toNat))]) rfl rfl (g_cons rfl rfl rfl g_nil) rfl (s_app rowS_len rfl rfl rfl A4.1 (e'3.2.1 g'4).2.2.2.1 rfl (fun o'5 ow'8 a'6 fr'7 on'9=>s_mvL rfl (e_ (W.reg0 rfl fun _ _=>m_ (b_ H6 rfl add_ (m_ (e_ (w177_2 hQ kP0 H0 rfl rfl H6 (ApM.mk a'6 (Mine.app A4.2 rfl on'9)) (e'3.2.1 g'4).2.2.2.2))))))))))))))) (fun g'4=>sk_ (w177_2 hQ kP0 H0 H4 H5 H6 A4 (e'3.2.2 g'4))))))))))))) (fun g'1=>ex_ (w177_3 hQ H0 H4 H5 A4 (h.2 g'1))))))))))
theorem w177_0 {s0:List UInt8}(H0:σ 0 = .s s0)(h:T177_0 prog K s0):W prog d (.seq (.reg 0 r177_0) (.seq (.reg 1 r177_1) (.seq (.reg 2 r177_2) (.seq (.seq (.reg 3 r177_3) (.block 0 (.loop l177_0))) c177_2)))) σ st Q:=
 q_ rfl (s_mvL (f:=rowS) (l:=[]) rfl (m_ (e_ (q_ rfl (s_mvL (f:=rowS) (l:=[]) rfl (e_ (q_ rfl (m_ (e_ (sq_ (q_ rfl (m_ (e_ (bk_ (h (I177_0 prog d Q s0) (fun _ _ _ hb _ _ _ H0 H4 H5 H6 A4=>W.loop (w177_1 hQ (fun _ _ _ x=>x) H0 H4 H5 H6 A4 hb)) _ _ _ H0 rfl rfl rfl ApM.full)))))))))))))))
end
theorem p177 {prog:Prog}(hf:prog.fn 177 = some pf177){s0:List UInt8}{K:List (List UInt8)→Bool→Prop}(h:T177_0 prog K s0) :∃res0:List (List UInt8),∃res1:Bool,K res0 res1∧Pus prog 177 [.s s0] (.tup [.sl .ext (List.map rowS res0),.b res1]):=by
  obtain ⟨v,hv,res0,res1,hk,rfl⟩:=Pus.of (K:=fun v=>∃res0:List (List UInt8),∃res1:Bool,K res0 res1∧v = .tup [.sl .ext (List.map rowS res0),.b res1]) hf rfl (w177_0 (σ:=sl0 [.s s0]) (fun σ st  o0 res0 res1 H2 H3 hk=>⟨.tup [.sl o0 (List.map rowS res0),.b res1],by simp only [pf177,ares,aresL,H2,H3,ares1,Option.map_some],_,rfl,res0,res1,hk,rfl⟩) rfl h)
  exact ⟨res0,res1,hk,hv⟩
abbrev H168 (Q:AE→Sl→St→Prop)(K:List Pan→Int→Prop):Prop:=∀(σ:Sl)(st:St)(o0:Own)(res0:List Pan)(res1:Int),σ 2 = .sl o0 (List.map Pan.row res0)→σ 3 = .i .i64 res1→K res0 res1→Q .ret σ st
section
variable {prog:Prog}{d:Nat}{Q:AE→Sl→St→Prop}{K:List Pan→Int→Prop}(hQ:H168 Q K){σ:Sl}{st:St}
include hQ
end
def r189_0:List AI:=[oC 4 (.s [])]
def r189_1:List AI:=[oM 5 0,
 oM 6 1,
 oO 7 (.call false 196 [(.t 5),(.t 6)]),
 oM 4 7]
abbrev b189:AC:=(.seq (.reg 0 r189_0) (.seq (.reg 1 r189_1) .ret))
def pf189:AF:={ nt:=8,res:=[.tmp 4],body:=b189 }
abbrev H189 (Q:AE→Sl→St→Prop)(K:List UInt8→Prop):Prop:=∀(σ:Sl)(st:St)(res0:List UInt8),σ 4 = .s res0→K res0→Q .ret σ st
def T189_0 (prog:Prog)(K:List UInt8→Prop)(s0:List UInt8)(suffix1:List UInt8):Prop:=
  ∃r'1:List UInt8,Pus prog 196 [.s s0,.s suffix1] (.s r'1)∧K r'1
section
variable {prog:Prog}{d:Nat}{Q:AE→Sl→St→Prop}{K:List UInt8→Prop}(hQ:H189 Q K){σ:Sl}{st:St}
include hQ
theorem w189_0 {s0 suffix1:List UInt8}(H0:σ 0 = .s s0)(H1:σ 1 = .s suffix1)(h:T189_0 prog K s0 suffix1):W prog d (.seq (.reg 0 r189_0) (.seq (.reg 1 r189_1) .ret)) σ st Q:=
 q_ rfl (m_ (e_ (q_ rfl (m_ (m_ (h.elim fun r'1 e'2=>ca_ (sc H0 rfl (sc H1 rfl sn)) e'2.1 (m_ (e_ (rt_ (hQ _ _ _ rfl e'2.2))))))))))
end
theorem p189 {prog:Prog}(hf:prog.fn 189 = some pf189){s0:List UInt8}{suffix1:List UInt8}{K:List UInt8→Prop}(h:T189_0 prog K s0 suffix1) :∃res0:List UInt8,K res0∧Pus prog 189 [.s s0,.s suffix1] (.s res0):=by
  obtain ⟨v,hv,res0,hk,rfl⟩:=Pus.of (K:=fun v=>∃res0:List UInt8,K res0∧v = .s res0) hf rfl (w189_0 (σ:=sl0 [.s s0,.s suffix1]) (fun σ st   res0 H4 hk=>⟨.s res0,by simp only [pf189,ares,aresL,H4,ares1,Option.map_some],_,rfl,res0,hk,rfl⟩) rfl rfl h)
  exact ⟨res0,hk,hv⟩
def r196_0:List AI:=[oC 4 (.s [])]
def r196_1:List AI:=[oM 5 0,
 oM 6 1,
 oO 7 (.call false 191 [(.t 5),(.t 6)])]
def r196_2:List AI:=[oM 8 0,
 oM 9 0,
 oO 10 (.len true (.t 9)),
 oM 11 1,
 oO 12 (.len true (.t 11)),
 oB 13 .sub (.t 10) (.t 12),
 oO 14 (.slS (.t 8) none (some (.t 13))),
 oM 4 14]
def r196_3:List AI:=[oM 15 0,
 oM 4 15]
abbrev b196:AC:=(.seq (.reg 0 r196_0) (.seq (.seq (.reg 1 r196_1) (.cond (.t 7) (.seq (.reg 2 r196_2) .ret) .skip)) (.seq (.reg 3 r196_3) .ret)))
def pf196:AF:={ nt:=16,res:=[.tmp 4],body:=b196 }
abbrev H196 (Q:AE→Sl→St→Prop)(K:List UInt8→Prop):Prop:=∀(σ:Sl)(st:St)(res0:List UInt8),σ 4 = .s res0→K res0→Q .ret σ st
def T196_0 (prog:Prog)(K:List UInt8→Prop)(s0:List UInt8)(suffix1:List UInt8):Prop:=
  ∃r'1:Bool,Pus prog 191 [.s s0,.s suffix1] (.b r'1)∧(r'1 = true→0≤(IntKind.i64.wrap ((s0.length:Int) - (suffix1.length:Int)))∧(IntKind.i64.wrap ((s0.length:Int) - (suffix1.length:Int))).toNat≤s0.length∧K (s0.take (IntKind.i64.wrap ((s0.length:Int) - (suffix1.length:Int))).toNat))∧(r'1 = false→K s0)
section
variable {prog:Prog}{d:Nat}{Q:AE→Sl→St→Prop}{K:List UInt8→Prop}(hQ:H196 Q K){σ:Sl}{st:St}
include hQ
theorem w196_0 {s0 suffix1:List UInt8}(H0:σ 0 = .s s0)(H1:σ 1 = .s suffix1)(h:T196_0 prog K s0 suffix1):W prog d (.seq (.reg 0 r196_0) (.seq (.seq (.reg 1 r196_1) (.cond (.t 7) (.seq (.reg 2 r196_2) .ret) .skip)) (.seq (.reg 3 r196_3) .ret))) σ st Q:=
 q_ rfl (m_ (e_ (sq_ (q_ rfl (m_ (m_ (h.elim fun r'1 e'2=>ca_ (sc H0 rfl (sc H1 rfl sn)) e'2.1 (e_ (cb_ rfl (fun g'3=>q_ rfl (m_ (m_ (ln_ H0 (m_ (ln_ H1 (b_ rfl rfl sub_ (s_slS_hi H0 rfl (e'2.2.1 g'3).1 (e'2.2.1 g'3).2.1 (m_ (e_ (rt_ (hQ _ _ _ rfl (e'2.2.1 g'3).2.2)))))))))))) (fun g'3=>sk_ (q_ rfl (m_ (m_ (e_ (rt_ (hQ _ _ _ H0 (e'2.2.2 g'3)))))))))))))))))
end
theorem p196 {prog:Prog}(hf:prog.fn 196 = some pf196){s0:List UInt8}{suffix1:List UInt8}{K:List UInt8→Prop}(h:T196_0 prog K s0 suffix1) :∃res0:List UInt8,K res0∧Pus prog 196 [.s s0,.s suffix1] (.s res0):=by
  obtain ⟨v,hv,res0,hk,rfl⟩:=Pus.of (K:=fun v=>∃res0:List UInt8,K res0∧v = .s res0) hf rfl (w196_0 (σ:=sl0 [.s s0,.s suffix1]) (fun σ st   res0 H4 hk=>⟨.s res0,by simp only [pf196,ares,aresL,H4,ares1,Option.map_some],_,rfl,res0,hk,rfl⟩) rfl rfl h)
  exact ⟨res0,hk,hv⟩
abbrev H151 (Q:AE→Sl→St→Prop)(K:Bool→Prop):Prop:=∀(σ:Sl)(st:St)(res0:Bool),σ 4 = .b res0→K res0→Q .ret σ st
section
variable {prog:Prog}{d:Nat}{Q:AE→Sl→St→Prop}{K:Bool→Prop}(hQ:H151 Q K){σ:Sl}{st:St}
include hQ
end
def r153_0:List AI:=[oC 4 (.b false)]
def r153_1:List AI:=[oO 19 (.call false 161 []),
 oM 5 19]
def r153_2:List AI:=[oM 20 0,
 oO 21 (.call false 162 [(.t 20)]),
 oM 22 21,
 oG 23 (.mv (.t 1)) 22 false,
 oG 24 (.len true (.t 23)) 22 false,
 oG 25 (.bin .gtr (.t 24) (.c (.i .i64 3000))) 22 false,
 oO 26 (.pick (.t 22) (.c (.b true)) (.t 25)),
 oM 27 26,
 oG 28 (.mv (.t 5)) 27 false,
 oG 29 (.un .not (.t 28)) 27 false,
 oO 30 (.pick (.t 27) (.c (.b true)) (.t 29))]
def r153_3:List AI:=[oM 31 5,
 oM 4 31]
def r153_4:List AI:=[oM 33 0,
 oO 34 (.call false 164 [(.t 33)]),
 oM 32 34,
 oE 35 0 32,
 oE 36 1 32,
 oM 6 35,
 oM 7 36]
def r153_5:List AI:=[oM 37 7,
 oB 38 .eql (.t 37) (.c (.i .i64 0)),
 oM 39 0,
 oO 40 (.call false 163 [(.t 39)]),
 oB 41 .eql (.t 40) (.c (.i .i64 0)),
 oO 42 (.beq true (.t 38) (.t 41))]
def r153_6:List AI:=[oC 4 (.b false)]
def r153_7:List AI:=[oM 43 7,
 oB 44 .eql (.t 43) (.c (.i .i64 0))]
def r153_8:List AI:=[oM 46 6,
 oO 47 (.call false 167 [(.t 46)]),
 oM 45 47,
 oE 48 0 45,
 oE 49 1 45,
 oM 8 48,
 oM 9 49]
def r153_9:List AI:=[oM 51 6,
 oO 52 (.call false 177 [(.t 51)]),
 oM 50 52,
 oE 53 0 50,
 oE 54 1 50,
 oM 10 53,
 oM 11 54]
def r153_10:List AI:=[oM 55 9,
 oB 56 .neq (.t 55) (.c (.i .i64 0)),
 oM 57 56,
 oG 58 (.mv (.t 8)) 57 false,
 oG 59 (.mv (.t 0)) 57 false,
 oG 60 (.call false 170 [(.t 58),(.t 59)]) 57 false,
 oG 61 (.un .not (.t 60)) 57 false,
 oO 62 (.pick (.t 57) (.c (.b true)) (.t 61)),
 oM 63 62,
 oG 64 (.mv (.t 11)) 63 false,
 oG 65 (.un .not (.t 64)) 63 false,
 oO 66 (.pick (.t 63) (.c (.b true)) (.t 65)),
 oM 67 66,
 oG 68 (.mv (.t 10)) 67 false,
 oG 69 (.len false (.t 68)) 67 false,
 oG 70 (.mv (.t 0)) 67 false,
 oG 71 (.len false (.t 70)) 67 false,
 oG 72 (.bin .neq (.t 69) (.t 71)) 67 false,
 oO 73 (.pick (.t 67) (.c (.b true)) (.t 72))]
def r153_11:List AI:=[oC 4 (.b false)]
def r153_12:List AI:=[oC 12 (.i .i64 0)]
def r153_13:List AI:=[oM 74 12,
 oM 75 0,
 oO 76 (.len false (.t 75)),
 oB 77 .lss (.t 74) (.t 76)]
def r153_14:List AI:=[oM 81 0,
 oM 82 12,
 oO 83 (.iaL 7 (.t 81) (.t 82)),
 oO 84 (.load 7 true (.t 83)),
 oO 85 (.call false 154 [(.t 84)]),
 oM 80 85,
 oE 86 0 80,
 oE 87 1 80,
 oM 13 86,
 oM 14 87]
def r153_15:List AI:=[oM 88 14,
 oB 89 .neq (.t 88) (.c (.i .i64 0)),
 oM 90 89,
 oG 91 (.mv (.t 10)) 90 false,
 oG 92 (.mv (.t 12)) 90 false,
 oG 93 (.iaL 1 (.t 91) (.t 92)) 90 false,
 oG 94 (.load 1 false (.t 93)) 90 false,
 oG 95 (.mv (.t 13)) 90 false,
 oG 96 (.bin .neq (.t 94) (.t 95)) 90 false,
 oO 97 (.pick (.t 90) (.c (.b true)) (.t 96))]
def r153_16:List AI:=[oC 4 (.b false)]
def r153_17:List AI:=[oM 78 12,
 oB 79 .add (.t 78) (.c (.i .i64 1)),
 oM 12 79]
def r153_18:List AI:=[oM 99 1,
 oO 100 (.call false 167 [(.t 99)]),
 oM 98 100,
 oE 101 0 98,
 oE 102 1 98,
 oM 15 101,
 oM 16 102]
def r153_19:List AI:=[oM 103 16,
 oB 104 .neq (.t 103) (.c (.i .i64 0))]
def r153_20:List AI:=[oM 105 5,
 oM 106 105,
 oG 107 (.mv (.t 16)) 106 true,
 oG 108 (.bin .eql (.t 107) (.c (.i .i64 12))) 106 true,
 oO 109 (.pick (.t 106) (.t 108) (.c (.b false))),
 oM 4 109]
def r153_21:List AI:=[oM 111 15,
 oO 112 (.call false 164 [(.t 111)]),
 oM 110 112,
 oE 113 0 110,
 oE 114 1 110,
 oM 17 113,
 oM 18 114]
def r153_22:List AI:=[oM 115 5,
 oM 116 115,
 oG 117 (.mv (.t 18)) 116 true,
 oG 118 (.bin .eql (.t 117) (.c (.i .i64 0))) 116 true,
 oO 119 (.pick (.t 116) (.t 118) (.c (.b false))),
 oM 120 119,
 oG 121 (.mv (.t 17)) 120 true,
 oG 122 (.mv (.t 1)) 120 true,
 oG 123 (.bin .eql (.t 121) (.t 122)) 120 true,
 oO 124 (.pick (.t 120) (.t 123) (.c (.b false))),
 oM 4 124]
abbrev l153_0:AC:=(.seq (.seq (.reg 13 r153_13) (.cond (.t 77) .skip (.exit 0))) (.seq (.block 1 (.seq (.reg 15 r153_14) (.seq (.reg 16 r153_15) (.cond (.t 97) (.seq (.reg 17 r153_16) .ret) .skip)))) (.reg 14 r153_17)))
abbrev c153_1:AC:=(.seq (.reg 12 r153_12) (.block 0 (.loop l153_0)))
abbrev c153_2:AC:=(.cond (.t 44) (.seq (.reg 8 r153_8) (.seq (.reg 9 r153_9) (.seq (.seq (.reg 10 r153_10) (.cond (.t 73) (.seq (.reg 11 r153_11) .ret) .skip)) c153_1))) .skip)
abbrev c153_3:AC:=(.seq (.reg 21 r153_21) (.seq (.reg 22 r153_22) .ret))
abbrev c153_4:AC:=(.seq (.reg 18 r153_18) (.seq (.seq (.reg 19 r153_19) (.cond (.t 104) (.seq (.reg 20 r153_20) .ret) .skip)) c153_3))
abbrev c153_5:AC:=(.seq (.seq (.reg 7 r153_7) c153_2) c153_4)
abbrev c153_6:AC:=(.seq (.seq (.reg 5 r153_5) (.cond (.t 42) (.seq (.reg 6 r153_6) .ret) .skip)) c153_5)
abbrev c153_7:AC:=(.seq (.reg 4 r153_4) c153_6)
abbrev c153_8:AC:=(.seq (.seq (.reg 2 r153_2) (.cond (.t 30) (.seq (.reg 3 r153_3) .ret) .skip)) c153_7)
abbrev c153_9:AC:=(.seq (.reg 1 r153_1) c153_8)
abbrev b153:AC:=(.seq (.reg 0 r153_0) c153_9)
def pf153:AF:={ nt:=125,res:=[.tmp 4],body:=b153 }
abbrev H153 (Q:AE→Sl→St→Prop)(K:Bool→Prop):Prop:=∀(σ:Sl)(st:St)(res0:Bool),σ 4 = .b res0→K res0→Q .ret σ st
abbrev I153_0 (prog:Prog)(d:Nat)(Q:AE→Sl→St→Prop)(l0:List Pan)(s1:List UInt8)(ok5:Bool)(parts10:List (List UInt8))(i12:Int):Prop:=
  ∀(σ:Sl)(st:St) (o_l0 o_parts10:Own),σ 0 = .sl o_l0 (List.map Pan.row l0)→σ 1 = .s s1→σ 5 = .b ok5→σ 10 = .sl o_parts10 (List.map rowS parts10)→σ 12 = .i .i64 i12→W prog d (.loop l153_0) σ st (blockW 0 (thenW prog d c153_4 Q))
def T153_10 (prog:Prog)(K:Bool→Prop)(s1:List UInt8)(ok5:Bool)(m15:List Pan):Prop:=
  ∃r'1:List UInt8,∃r'2:Int,Pus prog 164 [.sl .ext (List.map Pan.row m15)] (.tup [.s r'1,.i .i64 r'2])∧(ok5 = true→(r'2 = 0→K (decide (r'1 = s1)))∧(¬(r'2 = 0)→K false))∧(ok5 = false→K false)
def T153_9 (prog:Prog)(K:Bool→Prop)(s1:List UInt8)(ok5:Bool):Prop:=
  ∃r'1:List Pan,∃r'2:Int,Pus prog 167 [.s s1] (.tup [.sl .ext (List.map Pan.row r'1),.i .i64 r'2])∧(r'2≠0→(ok5 = true→K (decide (r'2 = 12)))∧(ok5 = false→K false))∧(¬(r'2≠0)→T153_10 prog K s1 ok5 r'1)
def T153_8 (prog:Prog)(K:Bool→Prop)(P0:Int→Prop)(l0:List Pan)(s1:List UInt8)(ok5:Bool)(parts10:List (List UInt8))(i12:Int):Prop:=
  (i12 < (l0.length:Int)→0≤i12∧∃c'2:Pan,l0[(i12).toNat]? = some c'2∧∃r'4:List UInt8,∃r'5:Int,Pus prog 154 [c'2.av] (.tup [.s r'4,.i .i64 r'5])∧(r'5≠0→K false)∧(¬(r'5≠0)→0≤i12∧∃c'8:List UInt8,parts10[(i12).toNat]? = some c'8∧(c'8≠r'4→K false)∧(¬(c'8≠r'4)→P0 (IntKind.i64.wrap (i12 + 1)))))∧(¬(i12 < (l0.length:Int))→T153_9 prog K s1 ok5)
def T153_7 (prog:Prog)(K:Bool→Prop)(l0:List Pan)(s1:List UInt8)(ok5:Bool)(parts10:List (List UInt8)):Prop:=
  ∀P0:Int→Prop,(∀(i12:Int),T153_8 prog K P0 l0 s1 ok5 parts10 i12→P0 i12)→P0 0
def T153_6 (prog:Prog)(K:Bool→Prop)(l0:List Pan)(s1:List UInt8)(ok5:Bool)(a6:List UInt8)(t44:Bool):Prop:=
  (t44 = true→∃r'2:List Pan,∃r'3:Int,Pus prog 167 [.s a6] (.tup [.sl .ext (List.map Pan.row r'2),.i .i64 r'3])∧∃r'5:List (List UInt8),∃r'6:Bool,Pus prog 177 [.s a6] (.tup [.sl .ext (List.map rowS r'5),.b r'6])∧(r'3≠0→K false)∧(¬(r'3≠0)→∃r'9:Bool,Pus prog 170 [.sl .ext (List.map Pan.row r'2),.sl .ext (List.map Pan.row l0)] (.b r'9)∧((!r'9) = true→K false)∧((!r'9) = false→((!r'6) = true→K false)∧((!r'6) = false→((r'5.length:Int)≠(l0.length:Int)→K false)∧(¬((r'5.length:Int)≠(l0.length:Int))→T153_7 prog K l0 s1 ok5 r'5)))))∧(t44 = false→T153_9 prog K s1 ok5)
def T153_5 (prog:Prog)(K:Bool→Prop)(l0:List Pan)(s1:List UInt8)(ok5:Bool)(a6:List UInt8)(e7:Int):Prop:=
  T153_6 prog K l0 s1 ok5 a6 (decide (e7 = 0))
def T153_4 (prog:Prog)(K:Bool→Prop)(l0:List Pan)(s1:List UInt8)(ok5:Bool)(a6:List UInt8)(e7:Int):Prop:=
  ∃r'1:Int,Pus prog 163 [.sl .ext (List.map Pan.row l0)] (.i .i64 r'1)∧((decide (e7 = 0))≠(decide (r'1 = 0))→K false)∧(¬((decide (e7 = 0))≠(decide (r'1 = 0)))→T153_5 prog K l0 s1 ok5 a6 e7)
def T153_3 (prog:Prog)(K:Bool→Prop)(l0:List Pan)(s1:List UInt8)(ok5:Bool):Prop:=
  ∃r'1:List UInt8,∃r'2:Int,Pus prog 164 [.sl .ext (List.map Pan.row l0)] (.tup [.s r'1,.i .i64 r'2])∧T153_4 prog K l0 s1 ok5 r'1 r'2
def T153_2 (prog:Prog)(K:Bool→Prop)(l0:List Pan)(s1:List UInt8)(ok5:Bool):Prop:=
  ∃r'1:Bool,Pus prog 162 [.sl .ext (List.map Pan.row l0)] (.b r'1)∧(r'1 = true→K ok5)∧(r'1 = false→((s1.length:Int) > 3000→K ok5)∧(¬((s1.length:Int) > 3000)→((!ok5) = true→K ok5)∧((!ok5) = false→T153_3 prog K l0 s1 ok5)))
def T153_1 (prog:Prog)(K:Bool→Prop)(l0:List Pan)(s1:List UInt8):Prop:=
  ∃r'1:Bool,Pus prog 161 [] (.b r'1)∧T153_2 prog K l0 s1 r'1
def T153_0 (prog:Prog)(K:Bool→Prop)(l0:List Pan)(s1:List UInt8):Prop:=
  T153_1 prog K l0 s1
section
variable {prog:Prog}{d:Nat}{Q:AE→Sl→St→Prop}{K:Bool→Prop}(hQ:H153 Q K){σ:Sl}{st:St}
include hQ
theorem w153_10 {s1:List UInt8}{ok5:Bool}{m15:List Pan}{o_m15:Own}(H1:σ 1 = .s s1)(H5:σ 5 = .b ok5)(H15:σ 15 = .sl o_m15 (List.map Pan.row m15))(h:T153_10 prog K s1 ok5 m15):W prog d c153_3 σ st Q:=
 q_ rfl (s_mvL H15 (h.elim fun r'1 e'6=>e'6.elim fun r'2 e'3=>ca_ (sc rfl rfl sn) e'3.1 (m_ (x_ rfl rfl (x_ rfl rfl (m_ (m_ (e_ (q_ rfl (s_mvB H5 (s_mvB rfl (eb_ (g:=116) rfl (fun g'4=>gy_ rfl (s_mvI rfl (gy_ rfl (b_ rfl rfl eql_ (pt_ rfl rfl (s_mvB rfl (em_ (g:=120) rfl (fun g'5=>gy_ rfl (s_mvS rfl (gy_ rfl (s_mvS H1 (gy_ rfl (b_ rfl rfl seq_ (pt_ rfl rfl (s_mvB rfl (e_ (rt_ (hQ _ _ _ rfl ((e'3.2.1 g'4).1 g'5)))))))))))) (fun g'5=>gn_ (b:=false) rfl rfl (gn_ (b:=false) rfl rfl (gn_ (b:=false) rfl rfl (pf_ rfl rfl (s_mvB rfl (e_ (rt_ (hQ _ _ _ rfl ((e'3.2.1 g'4).2 g'5)))))))))))))))) (fun g'4=>gn_ (b:=false) rfl rfl (gn_ (b:=false) rfl rfl (pf_ rfl rfl (s_mvB rfl (gn_ (b:=false) rfl rfl (gn_ (b:=false) rfl rfl (gn_ (b:=false) rfl rfl (pf_ rfl rfl (s_mvB rfl (e_ (rt_ (hQ _ _ _ rfl (e'3.2.2 g'4)))))))))))))))))))))))))
theorem w153_9 {s1:List UInt8}{ok5:Bool}(H1:σ 1 = .s s1)(H5:σ 5 = .b ok5)(h:T153_9 prog K s1 ok5):W prog d c153_4 σ st Q:=
 q_ rfl (m_ (h.elim fun r'1 e'6=>e'6.elim fun r'2 e'3=>ca_ (sc H1 rfl sn) e'3.1 (m_ (x_ rfl rfl (x_ rfl rfl (s_mvL rfl (m_ (e_ (sq_ (q_ rfl (m_ (b_ rfl rfl neq_ (e_ (cs_ rfl (fun g'4=>q_ rfl (s_mvB H5 (s_mvB rfl (eb_ (g:=106) rfl (fun g'5=>gy_ rfl (s_mvI rfl (gy_ rfl (b_ rfl rfl eql_ (pt_ rfl rfl (s_mvB rfl (e_ (rt_ (hQ _ _ _ rfl ((e'3.2.1 g'4).1 g'5)))))))))) (fun g'5=>gn_ (b:=false) rfl rfl (gn_ (b:=false) rfl rfl (pf_ rfl rfl (s_mvB rfl (e_ (rt_ (hQ _ _ _ rfl ((e'3.2.1 g'4).2 g'5)))))))))))) (fun g'4=>sk_ (w153_10 hQ H1 H5 rfl (e'3.2.2 g'4)))))))))))))))))
theorem w153_8 {l0:List Pan}{s1:List UInt8}{ok5:Bool}{parts10:List (List UInt8)}{i12:Int}{P0:Int→Prop} (kP0 :∀(i12:Int),P0 i12→I153_0 prog d Q l0 s1 ok5 parts10 i12){o_l0 o_parts10:Own}(H0:σ 0 = .sl o_l0 (List.map Pan.row l0))(H1:σ 1 = .s s1)(H5:σ 5 = .b ok5)(H10:σ 10 = .sl o_parts10 (List.map rowS parts10))(H12:σ 12 = .i .i64 i12)(h:T153_8 prog K P0 l0 s1 ok5 parts10 i12):W prog d l153_0 σ st (thenW prog d (.loop l153_0) (blockW 0 (thenW prog d c153_4 Q))):=
 sq_ (q_ rfl (m_ (s_mvL H0 (ll_ rfl (b_ H12 rfl lss_ (e_ (cs_ rfl (fun g'1=>sk_ (sq_ (bk_ (q_ rfl (s_mvL H0 (m_ ((h.1 g'1).2.elim fun c'2 e'3=>ia_ rfl H12 (h.1 g'1).1 e'3.1 (Pan.row_eq c'2) rfl (lf_ rfl rfl rfl (e'3.2.elim fun r'4 e'11=>e'11.elim fun r'5 e'6=>ca_ (sc rfl rfl sn) e'6.1 (m_ (x_ rfl rfl (x_ rfl rfl (m_ (m_ (e_ (q_ rfl (s_mvI rfl (b_ rfl rfl neq_ (s_mvB rfl (em_ (g:=90) rfl (fun g'7=>gn_ (b:=true) rfl rfl (gn_ (b:=true) rfl rfl (gn_ (b:=true) rfl rfl (gn_ (b:=true) rfl rfl (gn_ (b:=true) rfl rfl (gn_ (b:=true) rfl rfl (pt_ rfl rfl (e_ (ct_ rfl (q_ rfl (m_ (e_ (rt_ (hQ _ _ _ rfl (e'6.2.1 g'7))))))))))))))) (fun g'7=>gy_ rfl (s_mvL H10 (gy_ rfl (s_mvI H12 (gy_ rfl ((e'6.2.2 g'7).2.elim fun c'8 e'9=>ia_ rfl rfl (e'6.2.2 g'7).1 e'9.1 rfl rfl (gy_ rfl (lf_ rfl rfl rfl (gy_ rfl (s_mvS rfl (gy_ rfl (b_ rfl rfl sne_ (pf_ rfl rfl (e_ (cs_ rfl (fun g'10=>q_ rfl (m_ (e_ (rt_ (hQ _ _ _ rfl (e'9.2.1 g'10)))))) (fun g'10=>sk_ (W.reg0 rfl fun _ _=>m_ (b_ H12 rfl add_ (m_ (e_ (kP0 _ (e'9.2.2 g'10) _ _ _ _ H0 H1 H5 H10 rfl))))))))))))))))))))))))))))))))))))))))) (fun g'1=>ex_ (w153_9 hQ H1 H5 (h.2 g'1))))))))))
theorem w153_7 {l0:List Pan}{s1:List UInt8}{ok5:Bool}{parts10:List (List UInt8)}{o_l0 o_parts10:Own}(H0:σ 0 = .sl o_l0 (List.map Pan.row l0))(H1:σ 1 = .s s1)(H5:σ 5 = .b ok5)(H10:σ 10 = .sl o_parts10 (List.map rowS parts10))(h:T153_7 prog K l0 s1 ok5 parts10):W prog d c153_1 σ st (thenW prog d c153_4 Q):=
 q_ rfl (m_ (e_ (bk_ (h (I153_0 prog d Q l0 s1 ok5 parts10) (fun _ hb _ _ _ _ H0 H1 H5 H10 H12=>W.loop (w153_8 hQ (fun _ x=>x) H0 H1 H5 H10 H12 hb)) _ _ _ _ H0 H1 H5 H10 rfl))))
theorem w153_6 {l0:List Pan}{s1:List UInt8}{ok5:Bool}{a6:List UInt8}{t44:Bool}{o_l0:Own}(H0:σ 0 = .sl o_l0 (List.map Pan.row l0))(H1:σ 1 = .s s1)(H5:σ 5 = .b ok5)(H6:σ 6 = .s a6)(H44:σ 44 = .b t44)(h:T153_6 prog K l0 s1 ok5 a6 t44):W prog d c153_2 σ st (thenW prog d c153_4 Q):=
 cb_ H44 (fun g'1=>q_ rfl (m_ ((h.1 g'1).elim fun r'2 e'15=>e'15.elim fun r'3 e'4=>ca_ (sc H6 rfl sn) e'4.1 (m_ (x_ rfl rfl (x_ rfl rfl (s_mvL rfl (m_ (e_ (q_ rfl (m_ (e'4.2.elim fun r'5 e'14=>e'14.elim fun r'6 e'7=>ca_ (sc H6 rfl sn) e'7.1 (m_ (x_ rfl rfl (x_ rfl rfl (s_mvL rfl (m_ (e_ (sq_ (q_ rfl (s_mvI rfl (b_ rfl rfl neq_ (s_mvB rfl (em_ (g:=57) rfl (fun g'8=>gn_ (b:=true) rfl rfl (gn_ (b:=true) rfl rfl (gn_ (b:=true) rfl rfl (gn_ (b:=true) rfl rfl (pt_ rfl rfl (s_mvB rfl (gn_ (b:=true) rfl rfl (gn_ (b:=true) rfl rfl (pt_ rfl rfl (s_mvB rfl (gn_ (b:=true) rfl rfl (gn_ (b:=true) rfl rfl (gn_ (b:=true) rfl rfl (gn_ (b:=true) rfl rfl (gn_ (b:=true) rfl rfl (pt_ rfl rfl (e_ (ct_ rfl (q_ rfl (m_ (e_ (rt_ (hQ _ _ _ rfl (e'7.2.1 g'8)))))))))))))))))))))))) (fun g'8=>gy_ rfl (s_mvL rfl (gy_ rfl (s_mvL H0 (gy_ rfl ((e'7.2.2 g'8).elim fun r'9 e'10=>ca_ (sc rfl rfl (sc rfl rfl sn)) e'10.1 (gy_ rfl (nt_ rfl (pf_ rfl rfl (s_mvB rfl (eb_ (g:=63) rfl (fun g'11=>gn_ (b:=true) rfl rfl (gn_ (b:=true) rfl rfl (pt_ rfl rfl (s_mvB rfl (gn_ (b:=true) rfl rfl (gn_ (b:=true) rfl rfl (gn_ (b:=true) rfl rfl (gn_ (b:=true) rfl rfl (gn_ (b:=true) rfl rfl (pt_ rfl rfl (e_ (ct_ rfl (q_ rfl (m_ (e_ (rt_ (hQ _ _ _ rfl (e'10.2.1 g'11)))))))))))))))))) (fun g'11=>gy_ rfl (s_mvB rfl (gy_ rfl (nt_ rfl (pf_ rfl rfl (s_mvB rfl (eb_ (g:=67) rfl (fun g'12=>gn_ (b:=true) rfl rfl (gn_ (b:=true) rfl rfl (gn_ (b:=true) rfl rfl (gn_ (b:=true) rfl rfl (gn_ (b:=true) rfl rfl (pt_ rfl rfl (e_ (ct_ rfl (q_ rfl (m_ (e_ (rt_ (hQ _ _ _ rfl ((e'10.2.2 g'11).1 g'12)))))))))))))) (fun g'12=>gy_ rfl (s_mvL rfl (gy_ rfl (ll_ rfl (gy_ rfl (s_mvL H0 (gy_ rfl (ll_ rfl (gy_ rfl (b_ rfl rfl neq_ (pf_ rfl rfl (e_ (cs_ rfl (fun g'13=>q_ rfl (m_ (e_ (rt_ (hQ _ _ _ rfl (((e'10.2.2 g'11).2 g'12).1 g'13)))))) (fun g'13=>sk_ (w153_7 hQ H0 H1 H5 rfl (((e'10.2.2 g'11).2 g'12).2 g'13)))))))))))))))))))))))))))))))))))))))))))))))))))))))))) (fun g'1=>sk_ (w153_9 hQ H1 H5 (h.2 g'1)))
theorem w153_5 {l0:List Pan}{s1:List UInt8}{ok5:Bool}{a6:List UInt8}{e7:Int}{o_l0:Own}(H0:σ 0 = .sl o_l0 (List.map Pan.row l0))(H1:σ 1 = .s s1)(H5:σ 5 = .b ok5)(H6:σ 6 = .s a6)(H7:σ 7 = .i .i64 e7)(h:T153_5 prog K l0 s1 ok5 a6 e7):W prog d c153_5 σ st Q:=
 sq_ (q_ rfl (m_ (b_ H7 rfl eql_ (e_ (w153_6 hQ H0 H1 H5 H6 rfl h)))))
theorem w153_4 {l0:List Pan}{s1:List UInt8}{ok5:Bool}{a6:List UInt8}{e7:Int}{o_l0:Own}(H0:σ 0 = .sl o_l0 (List.map Pan.row l0))(H1:σ 1 = .s s1)(H5:σ 5 = .b ok5)(H6:σ 6 = .s a6)(H7:σ 7 = .i .i64 e7)(h:T153_4 prog K l0 s1 ok5 a6 e7):W prog d c153_6 σ st Q:=
 sq_ (q_ rfl (m_ (b_ H7 rfl eql_ (s_mvL H0 (h.elim fun r'1 e'2=>ca_ (sc rfl rfl sn) e'2.1 (b_ rfl rfl eql_ (s_bne rfl rfl (e_ (cs_ rfl (fun g'3=>q_ rfl (m_ (e_ (rt_ (hQ _ _ _ rfl (e'2.2.1 g'3)))))) (fun g'3=>sk_ (w153_5 hQ H0 H1 H5 H6 H7 (e'2.2.2 g'3))))))))))))
theorem w153_3 {l0:List Pan}{s1:List UInt8}{ok5:Bool}{o_l0:Own}(H0:σ 0 = .sl o_l0 (List.map Pan.row l0))(H1:σ 1 = .s s1)(H5:σ 5 = .b ok5)(h:T153_3 prog K l0 s1 ok5):W prog d c153_7 σ st Q:=
 q_ rfl (s_mvL H0 (h.elim fun r'1 e'4=>e'4.elim fun r'2 e'3=>ca_ (sc rfl rfl sn) e'3.1 (m_ (x_ rfl rfl (x_ rfl rfl (m_ (m_ (e_ (w153_4 hQ H0 H1 H5 rfl rfl e'3.2)))))))))
theorem w153_2 {l0:List Pan}{s1:List UInt8}{ok5:Bool}{o_l0:Own}(H0:σ 0 = .sl o_l0 (List.map Pan.row l0))(H1:σ 1 = .s s1)(H5:σ 5 = .b ok5)(h:T153_2 prog K l0 s1 ok5):W prog d c153_8 σ st Q:=
 sq_ (q_ rfl (s_mvL H0 (h.elim fun r'1 e'2=>ca_ (sc rfl rfl sn) e'2.1 (s_mvB rfl (eb_ (g:=22) rfl (fun g'3=>gn_ (b:=true) rfl rfl (gn_ (b:=true) rfl rfl (gn_ (b:=true) rfl rfl (pt_ rfl rfl (s_mvB rfl (gn_ (b:=true) rfl rfl (gn_ (b:=true) rfl rfl (pt_ rfl rfl (e_ (ct_ rfl (q_ rfl (m_ (m_ (e_ (rt_ (hQ _ _ _ H5 (e'2.2.1 g'3))))))))))))))))) (fun g'3=>gy_ rfl (s_mvS H1 (gy_ rfl (ln_ rfl (gy_ rfl (b_ rfl rfl gtr_ (pf_ rfl rfl (s_mvB rfl (em_ (g:=27) rfl (fun g'4=>gn_ (b:=true) rfl rfl (gn_ (b:=true) rfl rfl (pt_ rfl rfl (e_ (ct_ rfl (q_ rfl (m_ (m_ (e_ (rt_ (hQ _ _ _ H5 ((e'2.2.2 g'3).1 g'4)))))))))))) (fun g'4=>gy_ rfl (s_mvB H5 (gy_ rfl (nt_ rfl (pf_ rfl rfl (e_ (cb_ rfl (fun g'5=>q_ rfl (m_ (m_ (e_ (rt_ (hQ _ _ _ H5 (((e'2.2.2 g'3).2 g'4).1 g'5))))))) (fun g'5=>sk_ (w153_3 hQ H0 H1 H5 (((e'2.2.2 g'3).2 g'4).2 g'5))))))))))))))))))))))))
theorem w153_1 {l0:List Pan}{s1:List UInt8}{o_l0:Own}(H0:σ 0 = .sl o_l0 (List.map Pan.row l0))(H1:σ 1 = .s s1)(h:T153_1 prog K l0 s1):W prog d c153_9 σ st Q:=
 q_ rfl (h.elim fun r'1 e'2=>ca_ sn e'2.1 (m_ (e_ (w153_2 hQ H0 H1 rfl e'2.2))))
theorem w153_0 {l0:List Pan}{s1:List UInt8}{o_l0:Own}(H0:σ 0 = .sl o_l0 (List.map Pan.row l0))(H1:σ 1 = .s s1)(h:T153_0 prog K l0 s1):W prog d (.seq (.reg 0 r153_0) c153_9) σ st Q:=
 q_ rfl (m_ (e_ (w153_1 hQ H0 H1 h)))
end
theorem p153 {prog:Prog}(hf:prog.fn 153 = some pf153){l0:List Pan}{s1:List UInt8}{K:Bool→Prop}(h:T153_0 prog K l0 s1) :∃res0:Bool,K res0∧Pus prog 153 [.sl .ext (List.map Pan.row l0),.s s1] (.b res0):=by
  obtain ⟨v,hv,res0,hk,rfl⟩:=Pus.of (K:=fun v=>∃res0:Bool,K res0∧v = .b res0) hf rfl (w153_0 (σ:=sl0 [.sl .ext (List.map Pan.row l0),.s s1]) (fun σ st   res0 H4 hk=>⟨.b res0,by simp only [pf153,ares,aresL,H4,ares1,Option.map_some],_,rfl,res0,hk,rfl⟩) rfl rfl h)
  exact ⟨res0,hk,hv⟩
end Go.AM

namespace Go.AM
open Go Go.RowKit
abbrev wideR (l : Nat) : Fence := Fence.wide.inRound l
theorem rows_in {P : Program} {row : String} {args : Array Value} {w : World} {R : Value → World → Prop} (h : Rows P row args w R) (r n : Nat) : RowsIn (wideR r) n P row args w R := fun c cs _ => by
  obtain ⟨v, w', h1, h2⟩ := h c cs
  exact ⟨v, w', h1, stepsIn_wide.2 h2⟩
theorem calls_in {P : Program} {f : FuncId} {args : Array Value} {w : World} {R : Ending → World → Prop} (h : Calls P f args w R) (r n : Nat) : CallsIn (wideR r) n P f args w R := CallsIn.inRound r (callsIn_wide.2 h)
theorem oper_in {P : Program} {o : Oper} (hd : ∀ c, o.op ≠ .defer c) {a : Act} {w : World} {next next' : Act → World → Prop} {Q : Exit → Act → World → Prop} (hQ : ¬LetsOut Q) (hn : ∀ a w, next a w → next' a w) (h : o.wp P a w next Q) (r n : Nat) : o.wpIn (wideR r) n P a w next' Q := by
  refine ⟨fun _ _ => trivial, ?_⟩
  rw [Oper.semAt_eq _ _ _ hd]
  unfold Oper.wp at h
  generalize (execOp a.eval o).run P w = res at h ⊢
  cases res with
  | ok x w' =>
    cases x with
    | value v => exact hn _ _ h
    | skip => exact hn _ _ h
    | defer d => exact hn _ _ h
    | enter f args =>
      refine ⟨fun h => (by cases h), (calls_in h r (n - 1)).mono fun e w'' he => ?_⟩
      cases e with
      | returned v => exact hn _ _ he
      | panicked c => exact he
      | outgrown => exact absurd he hQ
    | row row args => exact ⟨fun h => (by cases h), (rows_in h r (n - 1)).mono fun v w'' he => hn _ _ he⟩
    | _ => exact h.elim
  | halt x w' =>
    cases x with
    | panic v => exact h
    | _ => exact h.elim
theorem ops_in {P : Program} {ops : Array Oper} {Q : Exit → Act → World → Prop} (hQ : ¬LetsOut Q) (hd : ∀ (i : Nat) o, ops[i]? = some o → ∀ c, o.op ≠ .defer c) (r n : Nat) : ∀ (l : List Nat) (a : Act) (w : World), wpOps P ops Q l a w → wpOpsIn (wideR r) n P ops Q l a w
  | [], a, w, h => h
  | i :: l, a, w, h => by
    simp only [wpOps] at h
    simp only [wpOpsIn]
    cases ho : ops[i]? with
    | none =>
      simp only [ho] at h ⊢
      exact ops_in hQ hd r n l a w h
    | some o =>
      simp only [ho] at h ⊢
      split at h
      · rename_i hw
        rw [if_pos hw]
        rcases h with h | ⟨_, h⟩
        · exact oper_in (hd i o ho) hQ (fun a w h => ops_in hQ hd r n l a w h) h r n
        · exact absurd h hQ
      · rename_i hw
        rw [if_neg hw]
        exact ⟨fun _ _ => trivial, ops_in hQ hd r n l _ w h⟩
def noDefer (ops : Array Oper) : Bool := ops.toList.all fun o => match o.op with | .defer _ => false | _ => true
theorem noDefer_get {ops : Array Oper} (h : noDefer ops = true) : ∀ (i : Nat) o, ops[i]? = some o → ∀ c, o.op ≠ .defer c := fun i o ho c hc => by
  have := List.all_eq_true.1 h o (Array.mem_toList_iff.2 (Array.mem_of_getElem? ho))
  rw [hc] at this
  cases this
variable {P : Program} {X : Cx}
theorem region_in_round {C : CallF} (hT : TTok P X.T) (hC : CallOk P X.fm C) {nt d id : Nat} {ops : Array Oper} {aops : List AI} (hc : cOpers X nt ops ops.toList = some aops) (hbig : bigOk X id ops = true) (hnd : noDefer ops = true) {σ : Sl} {st : St} {σ' : Sl} {st' : St} (h : areg C d (bigId X id ops) aops σ st = some (σ', st')) {G : Gh} {w0 w : World} {a : Act} (hfm : X.fm = G.fm) (hA : RelA G nt σ a) (hR : Rel G w0 st w)
    {Q : Exit → Act → World → Prop} (hQ : ∀ a' w' G', RelA G' nt σ' a' → Run G G' w0 st st' w' d → Q .normal a' w') (r n : Nat) : (Code.region id ops false).wpIn (wideR r) n P Q a w := by
  refine wpIn_mono (wpIn_region (ops_in (Q := fun e a w => e = .normal ∧ Q e a w) (fun h => by obtain ⟨_, _, h, _⟩ := h; cases h) (noDefer_get hnd) r n _ _ _ ?_)) fun e a w h => h.2
  have hlen0 : aops.length = ops.size := by
    have := (cOpers_get hc).1
    simpa using this.symm
  unfold areg at h
  rw [aregL_O (ops := aops) (fun j => by simp)] at h
  rw [← List.range_eq_range'] at h
  obtain ⟨h1, h2⟩ := region_in (d := d) (id := bigId X id ops) (aops := aops) hR (l := List.range ops.size)
  rw [hlen0] at h
  exact ops_ok hT hC hc (bigOk_inv hbig) (Nat.le_refl _) (fun a' w' G' h3 h4 => ⟨rfl, hQ a' w' G' h3 h4⟩) (List.range ops.size) hfm List.nodup_range hA h1 h2 (by rw [hlen0]; exact h)
end Go.AM

namespace Go.AM
open Go Go.RowKit
section
variable {P : Program} {X : Cx}
def plainR (X : Cx) (nt : Nat) : Code → Bool
  | .skip => true
  | .region _ ops draw => !draw && (cLitB X nt ops draw).isNone && noDefer ops
  | .seq a b => plainR X nt a && plainR X nt b
  | .cond _ a b => plainR X nt a && plainR X nt b
  | .block _ c => plainR X nt c
  | .exit _ => true
  | .ret => true
  | _ => false
theorem region_round {C : CallF} (hT : TTok P X.T) (hC : CallOk P X.fm C) {nt d id n : Nat} {ops : Array Oper} {draw : Bool} {ac : AC} (hp : plainR X nt (.region id ops draw) = true) (hcr : cRegion X nt id ops draw = some ac) {σ : Sl} {st : St} {e : AE} {σ' : Sl} {st' : St} (h : acode C n d ac σ st = some (e, σ', st')) {G : Gh} {w0 w : World} {a : Act} (hfm : X.fm = G.fm) (hA : RelA G nt σ a) (hR : Rel G w0 st w)
    {Q : Exit → Act → World → Prop} (hQ : ∀ a' w' G', RelA G' nt σ' a' → Run G G' w0 st st' w' d → Q (toExit e) a' w') (r m : Nat) : (Code.region id ops draw).wpIn (wideR r) m P Q a w := by
  simp only [plainR, Bool.and_eq_true, Bool.not_eq_true'] at hp
  obtain ⟨⟨hd, hl⟩, hnd⟩ := hp
  subst hd
  unfold cRegion at hcr
  split at hcr
  · rename_i aops h1
    rw [h1] at hl; cases hl
  split at hcr
  case h_2 => cases hcr
  rename_i aops hc
  split at hcr
  case isFalse => cases hcr
  rename_i hbig
  rw [if_neg (by simp)] at hcr
  cases hcr
  simp only [acode, Option.map_eq_some_iff, Prod.mk.injEq] at h
  obtain ⟨⟨σ1, st1⟩, h, rfl, rfl, rfl⟩ := h
  exact region_in_round hT hC hc hbig hnd h hfm hA hR hQ r m
theorem code_in_round {C : CallF} (hT : TTok P X.T) (hC : CallOk P X.fm C) {nt : Nat} (n d : Nat) : ∀ (c : Code), plainR X nt c = true → ∀ {ac : AC}, cCode X nt c = some ac → ∀ {σ : Sl} {st : St} {e : AE} {σ' : Sl} {st' : St}, acode C n d ac σ st = some (e, σ', st') → ∀ {G : Gh} {w0 w : World} {a : Act}, X.fm = G.fm → RelA G nt σ a → Rel G w0 st w →
    ∀ {Q : Exit → Act → World → Prop}, (∀ a' w' G', RelA G' nt σ' a' → Run G G' w0 st st' w' d → Q (toExit e) a' w') → ∀ (r m : Nat), c.wpIn (wideR r) m P Q a w := by
  intro c
  induction c with
  | skip =>
    intro _ ac hc σ st e σ' st' h G w0 w a hfm hA hR Q hQ r m
    cases hc; cases h
    exact wpIn_skip (hQ a w G hA (.refl hR))
  | exit id =>
    intro _ ac hc σ st e σ' st' h G w0 w a hfm hA hR Q hQ r m
    cases hc; cases h
    exact wpIn_exit (hQ a w G hA (.refl hR))
  | ret =>
    intro _ ac hc σ st e σ' st' h G w0 w a hfm hA hR Q hQ r m
    cases hc; cases h
    exact wpIn_ret (hQ a w G hA (.refl hR))
  | region id ops draw =>
    intro hp ac hc σ st e σ' st' h G w0 w a hfm hA hR Q hQ r m
    unfold cCode at hc
    split at hc
    · rename_i x hx; cases hc; exact region_round hT hC hp hx h hfm hA hR hQ r m
    · cases hc
      simp only [stk, acode, Opd.ev] at h
      cases h
  | seq x y ihx ihy =>
    intro hp ac hc σ st e σ' st' h G w0 w a hfm hA hR Q hQ r m
    simp only [plainR, Bool.and_eq_true] at hp
    unfold cCode at hc
    split at hc
    case h_2 => cases hc
    rename_i ax ay hx hy
    cases hc
    simp only [acode] at h
    split at h
    · rename_i σ1 st1 h1
      refine wpIn_seq (ihx hp.1 hx h1 hfm hA hR (fun a1 w1 G1 hA1 hrun1 => ?_) r m)
      exact ihy hp.2 hy h (by rw [hrun1.le.fm]; exact hfm) hA1 hrun1.rel (fun a2 w2 G2 hA2 hrun2 => hQ a2 w2 G2 hA2 (hrun1.trans hrun2)) r m
    · rename_i hne
      refine wpIn_seq (ihx hp.1 hx h hfm hA hR (fun a1 w1 G1 hA1 hrun1 => ?_) r m)
      have := hQ a1 w1 G1 hA1 hrun1
      cases e with
      | normal => exact absurd h (hne _ _)
      | exit id => exact this
      | ret => exact this
      | goto l => exact this
  | cond z x y ihx ihy =>
    intro hp ac hc σ st e σ' st' h G w0 w a hfm hA hR Q hQ r m
    simp only [plainR, Bool.and_eq_true] at hp
    unfold cCode at hc
    split at hc
    case h_2 => cases hc
    rename_i az ax ay hz hx hy
    cases hc
    simp only [acode] at h
    rw [hfm] at hz
    have hv := cOpd_ok hA hz
    unfold Same at hv
    revert hv
    split at h
    · rename_i ht
      rw [ht]
      intro hv
      exact wpIn_cond_true hv.bool_inv (ihx hp.1 hx h hfm hA hR hQ r m)
    · rename_i ht
      rw [ht]
      intro hv
      exact wpIn_cond_false hv.bool_inv (ihy hp.2 hy h hfm hA hR hQ r m)
    · cases h
  | block id c ih =>
    intro hp ac hc σ st e σ' st' h G w0 w a hfm hA hR Q hQ r m
    simp only [plainR] at hp
    unfold cCode at hc
    split at hc
    case h_2 => cases hc
    rename_i x hx
    cases hc
    simp only [acode] at h
    refine wpIn_block ?_
    split at h
    · rename_i id' σ1 st1 h1
      refine ih hp hx h1 hfm hA hR (fun a1 w1 G1 hA1 hrun1 => ?_) r m
      split at h
      · rename_i hid
        cases h
        have := hQ a1 w1 G1 hA1 hrun1
        simp only [toExit, Exit.inBlock, hid, if_true]
        exact this
      · rename_i hid
        cases h
        have := hQ a1 w1 G1 hA1 hrun1
        simp only [toExit, Exit.inBlock, hid, if_false]
        exact this
    · rename_i hne
      refine ih hp hx h hfm hA hR (fun a1 w1 G1 hA1 hrun1 => ?_) r m
      have := hQ a1 w1 G1 hA1 hrun1
      cases e with
      | normal => exact this
      | exit id' => exact absurd h (hne _ _ _)
      | ret => exact this
      | goto l => exact this
  | loop c ih => intro hp; cases hp
  | rangeFunc f ps x y ihx ihy => intro hp; cases hp
  | scope c ih => intro hp; cases hp
  | label l => intro hp; cases hp
  | goto l => intro hp; cases hp
  | refuse w => intro hp; cases hp
end
theorem obN_no {o : Obj} (h : obN o = true) (h' : o.isCells = true) : False := by cases o <;> first | (cases h; done) | (cases h'; done)
section
variable {G : Gh} {w0 w : World} {st : St}
def Gh.setM (G : Gh) (b : Nat) (x : MO) : Gh := ⟨G.H, G.ρ, G.ω, G.fm, fun b' => if b' = b then some x else G.M b'⟩
theorem Gh.setM_at (b : Nat) (x : MO) : (G.setM b x).M b = some x := if_pos rfl
theorem Gh.setM_ne {b b' : Nat} (x : MO) (h : b' ≠ b) : (G.setM b x).M b' = G.M b' := if_neg h
theorem Gh.setM_le {b : Nat} {x : MO} (h : ∀ l, G.M b ≠ some (.mp l)) : G.LeR (G.setM b x) := ⟨fun _ _ _ h => h, fun _ _ _ h => h, fun _ _ _ h => h, rfl, fun b' l h' => by
  show (if b' = b then some x else G.M b') = _
  rw [if_neg (by rintro rfl; exact h l h')]
  exact h'⟩
theorem Gh.setM_leM {b : Nat} {x : MO} (h : G.M b = none) : G.Le (G.setM b x) := ⟨fun _ _ _ h => h, fun _ _ _ h => h, fun _ _ _ h => h, rfl, fun b' l h' => by
  show (if b' = b then some x else G.M b') = _
  rw [if_neg (by rintro rfl; rw [h] at h'; cases h')]
  exact h'⟩
theorem Rel.putOb (hR : Rel G w0 st w) {b : Nat} {o o' : Obj} (hb : w.heap[b]? = some o) (ho : obN o = true) (ho2 : obN o' = true) (hge : w0.heap.size ≤ b) (hn : ∀ l, G.M b ≠ some (.mp l)) : Rel (G.setM b (.ob o')) w0 st (w.putObj b o') := by
  have hlt := block_lt hb
  have hle := Gh.setM_le (G := G) (x := .ob o') hn
  have hh : ∀ i, i ≠ b → (w.putObj b o').heap[i]? = w.heap[i]? := fun i hi => World.putObj_heap_other hi
  have hcell : ∀ {g : Nat} {cs : Array Value} {e : TypeId} {z : Nat × Nat}, w.heap[g]? = some (.cells cs e z) → g ≠ b := by
    rintro g cs e z h rfl
    rw [hb] at h
    cases h
    cases ho
  have hbel : Below w0.heap.size w (w.putObj b o') := (Below.refl _ w).grown (grownBy_putObj' w b o') hR.bel.size (fun k e => by cases e; exact hge)
  refine ⟨hR.bel.trans hbel, fun g o v h => ?_, fun k ver cs g h1 h2 => ?_, hR.inj, fun k ver n h => ?_, hR.owinj, hR.fresh, fun k ver cs g h0 h1 h2 => ?_, fun k ver n h0 h1 g cap size h2 => ?_, fun b' x hx => ?_⟩
  · obtain ⟨h1, h2⟩ := hR.ext g o v h
    refine ⟨?_, h2⟩
    obtain ⟨ob, h3, h4⟩ := cells_of_cell h1
    have hne : g ≠ b := by
      rintro rfl
      rw [hb] at h3
      cases h3
      exact obN_no ho h4
    exact (World.cell?_of_block (w := w) (hh g hne)).trans h1
  · obtain ⟨us, e, a1, a2, a3, a4, a5⟩ := hR.bx k ver cs g h1 h2
    exact ⟨us, e, a1, (hh g (hcell a2)).trans a2, a3.monoR hle, a4, a5⟩
  · obtain ⟨g, cap, size, h1, ⟨cur, e, a1, a2, a3⟩, h2⟩ := hR.ow k ver n h
    exact ⟨g, cap, size, h1, ⟨cur, e, a1, (hh g (hcell a2)).trans a2, a3⟩, h2⟩
  · obtain ⟨us, a1, a2⟩ := hR.bxT k ver cs g h0 h1 h2
    exact ⟨us, (hh g (hcell a1)).trans a1, a2⟩
  · obtain ⟨us, a1⟩ := hR.owT k ver n h0 h1 g cap size h2
    exact ⟨us, (hh g (hcell a1)).trans a1⟩
  · by_cases e : b' = b
    · subst e
      rw [Gh.setM_at] at hx
      cases hx
      exact ⟨World.putObj_heap_same hlt, ho2⟩
    · rw [Gh.setM_ne _ e] at hx
      exact (hR.mp b' x hx).keep fun o _ _ => hh b' e
theorem Rel.newOb (hR : Rel G w0 st w) {o : Obj} (ho : obN o = true) : G.M w.heap.size = none ∧ Rel (G.setM w.heap.size (.ob o)) w0 st (w.alloc o) := by
  have hb : Below w.heap.size w (w.alloc o) := (Below.refl _ w).alloc (Nat.le_refl _) o
  have hn : G.M w.heap.size = none := by
    cases h : G.M w.heap.size with
    | none => rfl
    | some x =>
      exfalso
      have := hR.mp _ x h
      cases x with
      | mp l => obtain ⟨_, _, h1, _⟩ := this; exact Nat.lt_irrefl _ (block_lt h1)
      | ob o => exact Nat.lt_irrefl _ (block_lt this.1)
  refine ⟨hn, (hR.below hb).setM (Gh.setM_leM (x := .ob o) hn).M fun b x (hx : (G.setM w.heap.size (.ob o)).M b = some x) => ?_⟩
  by_cases h : b = w.heap.size
  · subst h
    rw [Gh.setM_at] at hx
    cases hx
    exact ⟨World.alloc_heap_new w o, ho⟩
  · rw [Gh.setM_ne _ h] at hx
    exact (hR.below hb).mp b x hx
end
end Go.AM

namespace Go.AM
open Go
structure Has03 (prog : Prog) : Prop where
  f42 : prog.fn 42 = some pf42
  f46 : prog.fn 46 = some pf46
  f36 : prog.fn 36 = some pf36
  f43 : prog.fn 43 = some pf43
  f47 : prog.fn 47 = some pf47
  f11 : prog.fn 11 = some pf11
  f15 : prog.fn 15 = some pf15
  f21 : prog.fn 21 = some pf21
  f25 : prog.fn 25 = some pf25
  f30 : prog.fn 30 = some pf30
  f34 : prog.fn 34 = some pf34
  f37 : prog.fn 37 = some pf37
  f39 : prog.fn 39 = some pf39
  f45 : prog.fn 45 = some pf45
  f48 : prog.fn 48 = none
  o48 : ∀ (s : Bytes) (c : UInt8), prog.orac 48 [.s s, .i .u8 (c.toNat : Int)] = some (.i .i64 (Lib.indexByte s c))
section
variable {prog : Prog} (H : Has03 prog)
include H
theorem c30 {s b : Bytes} (hs : s.length ≤ 10000000) (hb : b.length ≤ 1000000000) : PuA prog 30 (b.map row8) [.s s] ((b ++ quo s).map row8) := by
  refine PuAK.to ?_
  have hp := p30 H.f30 (b0 := b) (s1 := s) (K := fun x => x = b ++ quo s) (by
    unfold T30_0 T30_1
    refine ⟨⟨by simp only [List.length_cons, List.length_nil, maxBytes_eq]; omega, by simp only [List.length_cons, List.length_nil, maxBytes_eq]; omega⟩, fun P hP => ?_⟩
    refine loop_up (fun i => b ++ 34 :: chrs (s.take i)) s.length ?_ ?_
    · apply hP
      unfold T30_2 T30_4
      have h1 := chrs_len (s.take s.length)
      simp only [List.take_length] at h1 ⊢
      refine ⟨fun h => absurd h (by omega), fun _ => ⟨⟨?_, ?_⟩, ?_⟩⟩
      · simp only [List.length_append, List.length_cons, List.length_nil, maxBytes_eq]; omega
      · simp only [List.length_append, List.length_cons, List.length_nil, maxBytes_eq]; omega
      · simp only [quo, List.append_assoc, List.cons_append]
    · intro i hi ih
      apply hP
      have h1 := chrs_len (s.take i)
      have hc := s[i].toNat_lt
      rw [chrs_take hi] at ih
      rw [← List.cons_append, ← List.append_assoc] at ih
      generalize hx : s[i] = c at ih hc
      have w1 : bShr .u8 (c.toNat : Int) 4 = ((c.toNat / 16 : Nat) : Int) := by
        show (c.toNat : Int).fdiv 16 = _
        rw [Int.fdiv_eq_ediv_of_nonneg _ (by omega)]; omega
      have w2 : bAnd .u8 (c.toNat : Int) 15 = ((c.toNat % 16 : Nat) : Int) := by
        unfold bAnd
        have hx : (BitVec.ofInt IntKind.u8.bits (c.toNat : Int) &&& BitVec.ofInt IntKind.u8.bits 15).toNat = c.toNat % 16 := by
          show (BitVec.ofInt 8 (c.toNat : Int) &&& BitVec.ofInt 8 15).toNat = c.toNat % 16
          rw [BitVec.toNat_and]
          have h1 : (BitVec.ofInt 8 (c.toNat : Int)).toNat = c.toNat := by
            simp
          rw [h1]
          exact Nat.and_two_pow_sub_one_eq_mod c.toNat 4
        rw [hx]
        exact wr_u8 (by omega) (by omega)
      have fit : ∀ x : Bytes, x.length ≤ 4 → Fit ((b ++ 34 :: chrs (s.take i)).length + x.length) 1 := by
        intro x hx
        simp only [List.length_take] at h1
        refine ⟨?_, ?_⟩ <;> (simp only [List.length_append, List.length_cons, maxBytes_eq]; omega)
      unfold T30_2 T30_3
      rw [wr_succ (by omega)]
      refine ⟨fun _ => ⟨by omega, c, by rw [toNat_cast, List.getElem?_eq_getElem hi, hx], ?_⟩, fun h => absurd (show (i : Int) < s.length by omega) h⟩
      simp only [w1, w2, toNat_cast, hexd_get (show c.toNat / 16 < 16 by omega), hexd_get (show c.toNat % 16 < 16 by omega), Option.some.injEq, exists_eq_left']
      unfold chr at ih
      refine ⟨fun h2 => ⟨fit _ (by simp), ?_⟩, fun h2 => ⟨fun h3 => ⟨fit _ (by simp), ?_⟩, fun h3 => ⟨fun h4 => ⟨fit _ (by simp), ?_⟩, fun h4 => ⟨fun h5 => ⟨by omega, by omega, fit _ (by simp), ?_⟩, fun h5 => ⟨fun h6 => ⟨by omega, by omega, fit _ (by simp), ?_⟩, fun h6 => ⟨fit _ (by simp), ?_⟩⟩⟩⟩⟩⟩
      · rwa [if_pos (by omega)] at ih
      · rwa [if_pos (by omega)] at ih
      · rwa [if_neg (by omega), if_pos (by omega)] at ih
      · rwa [if_neg (by omega), if_neg (by omega), if_pos (by omega)] at ih
      · rwa [if_neg (by omega), if_neg (by omega), if_pos (by omega)] at ih
      · rwa [if_neg (by omega), if_neg (by omega), if_neg (by omega)] at ih)
  intro d st o ha
  obtain ⟨o', st', rows', ⟨x, rfl, rfl⟩, h1, h2⟩ := hp d st o ha
  exact ⟨o', st', _, rfl, h1, h2⟩
theorem c11 (s : Bytes) : Pus prog 11 [.s s] (.tup [.s (quoR s).1, .i .i64 (quoR s).2]) := by
  obtain ⟨x, y, ⟨rfl, rfl⟩, h⟩ := p11 H.f11 (s0 := s) (K := fun x y => x = (quoR s).1 ∧ y = (quoR s).2) (by
    unfold T11_0 quoR
    refine ⟨fun h => ?_, fun h => ⟨_, c30 H (b := []) (s := s) (by omega) (by simp), ?_⟩⟩
    · rw [if_pos (by omega)]; exact ⟨rfl, rfl⟩
    · rw [if_neg (by omega)]; exact ⟨rfl, rfl⟩)
  exact h
theorem c34 {n b : Nat} (hb : 2 ≤ b) (hb' : b ≤ 16) (hn : n < 18446744073709551616) : Pus prog 34 [.i .u64 (n : Int), .i .u64 (b : Int)] (.s (digs b n)) := by
  obtain ⟨x, rfl, h⟩ := p34 H.f34 (n0 := (n : Int)) (base1 := (b : Int)) (K := fun x => x = digs b n) (by
    unfold T34_0
    intro P hP
    have key : ∀ f n', n' < b ^ f → 0 < f → n' < 18446744073709551616 → ∀ a : Nat, f ≤ a → a ≤ 64 → ∀ m : Bytes, m.length = 64 → (ds b f n' ++ m.drop a = digs b n) → P (n' : Int) (a : Int) m := by
      intro f
      induction f with
      | zero => intro _ _ h; exact absurd h (Nat.lt_irrefl _)
      | succ f ih =>
        intro n' hf _ hn' a ha ha' m hm hd
        apply hP
        have e1 : (n' : Int).tmod (b : Int) = ((n' % b : Nat) : Int) := by rw [Int.tmod_eq_emod_of_nonneg (by omega)]; omega
        have e2 : (n' : Int).tdiv (b : Int) = ((n' / b : Nat) : Int) := by rw [Int.tdiv_eq_ediv_of_nonneg (by omega)]; omega
        have e3 : IntKind.i64.wrap ((a : Int) - 1) = ((a - 1 : Nat) : Int) := by rw [wr_i64 (by omega) (by omega)]; omega
        have hq : n' / b ≤ n' := Nat.div_le_self _ _
        have hr : n' % b < b := Nat.mod_lt _ (by omega)
        have e4 : IntKind.u64.wrap ((n' / b : Nat) : Int) = ((n' / b : Nat) : Int) := wr_u64_nat (by omega)
        have hset : ∀ c : UInt8, (m.set (a - 1) c).drop (a - 1) = c :: m.drop a := by
          intro c
          rw [List.drop_eq_getElem_cons (by simp; omega), List.getElem_set_self, List.drop_set_of_lt (by omega), show a - 1 + 1 = a by omega]
        unfold T34_1
        simp only [e1, e2, e3, e4, toNat_cast, hset]
        refine ⟨by omega, by omega, hexd (n' % b), hexd_get (by omega), by omega, by omega, by omega, by omega, fun h => ⟨by simp [hm], by omega, by omega, ?_⟩, fun h => ?_⟩
        · rw [← hd]
          unfold ds
          have hz : n' / b = 0 := by omega
          have hlt : n' < b := by
            rcases Nat.lt_or_ge n' b with h | h
            · exact h
            · have := Nat.div_pos h (by omega); omega
          rw [if_pos hlt, Nat.mod_eq_of_lt hlt]
          rfl
        · have hz : n' / b ≠ 0 := by omega
          have hlt : ¬ n' < b := fun h => hz (Nat.div_eq_of_lt h)
          have h1 : n' / b < b ^ f := by
            rw [Nat.div_lt_iff_lt_mul (by omega)]
            rw [Nat.pow_succ] at hf
            exact hf
          have h2 : 0 < f := by
            rcases Nat.eq_zero_or_pos f with rfl | h
            · simp at h1; omega
            · exact h
          refine ih (n' / b) h1 h2 (by omega) (a - 1) (by omega) (by omega) _ (by simp [hm]) ?_
          rw [hset, ← hd]
          conv => rhs; unfold ds
          rw [if_neg hlt, List.append_assoc]
          rfl
    refine key 64 n ?_ (by omega) hn 64 (by omega) (by omega) _ (by simp) ?_
    · calc n < 2 ^ 64 := hn
        _ ≤ b ^ 64 := Nat.pow_le_pow_left hb 64
    · simp [digs])
  exact h
theorem c15 {n : Int} (h1 : -9223372036854775808 ≤ n) (h2 : n < 9223372036854775808) : Pus prog 15 [.i .i64 n] (.s (num n)) := by
  obtain ⟨x, rfl, h⟩ := p15 H.f15 (n0 := n) (K := fun x => x = num n) (by
    unfold T15_0
    refine ⟨fun h => ?_, fun h => ?_⟩
    · have e : IntKind.u64.wrap (0 - (IntKind.u64.wrap n)) = (((-n).toNat : Nat) : Int) := by rw [IntKind.wrap_u64, IntKind.wrap_u64]; omega
      rw [e]
      refine ⟨_, c34 H (b := 10) (by omega) (by omega) (by omega), ?_, ?_⟩
      · have := ds_len 10 64 (-n).toNat
        simp only [digs, List.length_cons, List.length_nil, maxStr_eq]; omega
      · unfold num; rw [if_pos h]; rfl
    · have e : IntKind.u64.wrap n = ((n.toNat : Nat) : Int) := by rw [IntKind.wrap_u64]; omega
      rw [e]
      refine ⟨_, c34 H (b := 10) (by omega) (by omega) (by omega), ?_⟩
      unfold num; rw [if_neg h])
  exact h
end
end Go.AM

namespace Go.AM
open Go
def cutp (p s : Bytes) : Bytes × Bool := if s.take p.length = p then (s.drop p.length, true) else (s, false)
def EscK (s : Bytes) (c : Int) (r : Bytes) (ok : Bool) : Prop := match esc s with | some (x, y) => c = (x.toNat : Int) ∧ r = y ∧ ok = true | none => ok = false
theorem EscK.yes {s : Bytes} {x : UInt8} {y : Bytes} {c : Int} (h : esc s = some (x, y)) (hc : c = (x.toNat : Int)) : EscK s c y true := by
  unfold EscK; rw [h]; exact ⟨hc, rfl, rfl⟩
theorem EscK.no {s : Bytes} {c : Int} {y : Bytes} (h : esc s = none) : EscK s c y false := by
  unfold EscK; rw [h]
section
variable {prog : Prog} (H : Has03 prog)
include H
theorem c46 (s p : Bytes) : Pus prog 46 [.s s, .s p] (.b (decide (s.take p.length = p))) := by
  obtain ⟨x, rfl, h⟩ := p46 H.f46 (s0 := s) (prefix1 := p) (K := fun x => x = decide (s.take p.length = p)) (by
    unfold T46_0
    refine ⟨fun h => ⟨by omega, by omega, rfl⟩, fun h => ?_⟩
    refine (decide_eq_false fun h1 => ?_).symm
    have := congrArg List.length h1
    simp only [List.length_take] at this
    omega)
  exact h
theorem c42 (s p : Bytes) : Pus prog 42 [.s s, .s p] (.tup [.s (cutp p s).1, .b (cutp p s).2]) := by
  obtain ⟨x, y, ⟨rfl, rfl⟩, h⟩ := p42 H.f42 (s0 := s) (prefix1 := p) (K := fun x y => x = (cutp p s).1 ∧ y = (cutp p s).2) (by
    unfold T42_0 cutp
    refine ⟨_, c46 H s p, fun h => ?_, fun h => ?_⟩
    · have h1 : ¬ s.take p.length = p := by simpa using h
      rw [if_neg h1]; exact ⟨rfl, rfl⟩
    · have h1 : s.take p.length = p := by simpa using h
      have h2 := congrArg List.length h1
      simp only [List.length_take] at h2
      rw [if_pos h1]; exact ⟨by omega, by omega, rfl, rfl⟩)
  exact h
theorem c36 (s p : Bytes) : Pus prog 36 [.s s, .s p] (.tup [.s (cutp p s).1, .b (cutp p s).2]) := by
  obtain ⟨x, y, ⟨rfl, rfl⟩, h⟩ := p36 H.f36 (s0 := s) (prefix1 := p) (K := fun x y => x = (cutp p s).1 ∧ y = (cutp p s).2) (by
    unfold T36_0
    exact ⟨_, _, c42 H s p, rfl, rfl⟩)
  exact h
theorem c47 (s : Bytes) (c : UInt8) : Pus prog 47 [.s s, .i .u8 (c.toNat : Int)] (.i .i64 (Lib.indexByte s c)) := by
  obtain ⟨x, rfl, h⟩ := p47 H.f47 (s0 := s) (c1 := (c.toNat : Int)) (K := fun x => x = Lib.indexByte s c) (by
    unfold T47_0
    exact ⟨_, Pus.orac H.f48 (H.o48 s c) rfl, rfl⟩)
  exact h
theorem c43 (s : Bytes) (c : UInt8) : Pus prog 43 [.s s, .i .u8 (c.toNat : Int)] (.i .i64 (Lib.indexByte s c)) := by
  obtain ⟨x, rfl, h⟩ := p43 H.f43 (s0 := s) (c1 := (c.toNat : Int)) (K := fun x => x = Lib.indexByte s c) (by
    unfold T43_0
    exact ⟨_, c47 H s c, rfl⟩)
  exact h
theorem c37 {b most : Nat} (hb : 2 ≤ b) (hb' : b ≤ 16) (hm : 16 ≤ most) (hm' : most < 18446744073709551616) {s : Bytes} (hs : s.length ≤ 10000000) : Pus prog 37 [.s s, .i .u64 (b : Int), .i .u64 (most : Int)] (.tup [.i .u64 ((rd b most s).1 : Int), .i .i64 (rd b most s).2]) := by
  obtain ⟨x, y, ⟨rfl, rfl⟩, h⟩ := p37 H.f37 (s0 := s) (base1 := (b : Int)) (most2 := (most : Int)) (K := fun x y => x = ((rd b most s).1 : Int) ∧ y = (rd b most s).2) (by
    unfold T37_0 T37_1 T37_2
    intro P hP
    have key : ∀ m i : Nat, i + m = s.length → okd b (s.take i) = true → (2 ≤ i → s.head? ≠ some 48) → ∀ (n : Nat) (far : Bool), (far = false → n = vals b (s.take i) ∧ n ≤ most) → (far = true → most < vals b (s.take i)) → P (n : Int) far (i : Int) := by
      intro m
      induction m with
      | zero =>
        intro i hi ho h48 n far h0 h1
        simp only [Nat.add_zero] at hi
        subst hi
        rw [List.take_length] at ho h0 h1
        apply hP
        unfold T37_3 T37_5
        refine ⟨fun h => absurd h (by omega), fun _ => ⟨fun h => ?_, fun h => ?_⟩⟩
        · subst h; exact ⟨rfl, rfl⟩
        · have hbad : badn b s = false := by
            unfold badn
            rw [decide_eq_false h, ho]
            simp only [Bool.false_or, Bool.not_true]
            by_cases h2 : 1 < s.length
            · rw [decide_eq_false (h48 h2), Bool.and_false]
            · rw [decide_eq_false h2, Bool.false_and]
          refine ⟨fun hf => ?_, fun hf => ?_⟩
          · unfold rd
            rw [if_neg (by rw [hbad]; decide), if_pos (h1 hf)]
            exact ⟨rfl, rfl⟩
          · obtain ⟨h2, h3⟩ := h0 hf
            unfold rd
            rw [if_neg (by rw [hbad]; decide), if_neg (by omega), h2]
            exact ⟨rfl, rfl⟩
      | succ m ih =>
        intro i hi ho h48 n far h0 h1
        have hil : i < s.length := by omega
        have hd := dv_lt hb' s[i]
        have hv := vals_take (b := b) hil
        have hk := okd_take (b := b) hil
        have bad12 : badn b s = true → (0 : Int) = ((rd b most s).1 : Int) ∧ (12 : Int) = (rd b most s).2 := by
          intro h
          unfold rd
          rw [if_pos h]
          exact ⟨rfl, rfl⟩
        apply hP
        unfold T37_3 T37_4
        refine ⟨fun _ => ⟨by omega, by rw [toNat_cast]; exact hb', by omega, s[i], by rw [toNat_cast, List.getElem?_eq_getElem hil], dv b s[i], c43 H _ _, fun h => ?_, fun h => ?_⟩, fun h => absurd h (by omega)⟩
        · refine bad12 ?_
          unfold badn
          rw [okd_of hil h]
          simp
        · have hd0 : 0 ≤ dv b s[i] := by omega
          rw [ho, decide_eq_true hd0, Bool.and_true] at hk
          generalize hdd : (dv b s[i]).toNat = d at hv
          have hdi : dv b s[i] = (d : Int) := by omega
          have e1 : IntKind.u64.wrap (dv b s[i]) = (d : Int) := by rw [hdi]; exact wr_u64_nat (by omega)
          have e2 : IntKind.u64.wrap ((most : Int) - (d : Int)) = ((most - d : Nat) : Int) := by rw [wr_u64 (by omega) (by omega)]; omega
          have e3 : (((most - d : Nat) : Int)).tdiv (b : Int) = (((most - d) / b : Nat) : Int) := by rw [Int.tdiv_eq_ediv_of_nonneg (by omega)]; omega
          have hq : (most - d) / b ≤ most - d := Nat.div_le_self _ _
          have e4 : IntKind.u64.wrap (((most - d) / b : Nat) : Int) = (((most - d) / b : Nat) : Int) := wr_u64_nat (by omega)
          have hfi := far_iff (n := n) (show 0 < b by omega) (show d ≤ most by omega)
          rw [wr_succ (by omega)]
          simp only [e1, e2, e3, e4]
          have go : (2 ≤ i + 1 → s.head? ≠ some 48) → (far = true → P (n : Int) true ((i + 1 : Nat) : Int)) ∧ (far = false → (b : Int) ≠ 0 ∧ (¬((n : Int) > (((most - d) / b : Nat) : Int)) → P (IntKind.u64.wrap ((IntKind.u64.wrap ((n : Int) * (b : Int))) + (d : Int))) (decide ((n : Int) > (((most - d) / b : Nat) : Int))) ((i + 1 : Nat) : Int)) ∧ (¬(¬((n : Int) > (((most - d) / b : Nat) : Int))) → P (n : Int) (decide ((n : Int) > (((most - d) / b : Nat) : Int))) ((i + 1 : Nat) : Int))) := by
            intro h2
            refine ⟨fun hf => ?_, fun hf => ⟨by omega, fun h3 => ?_, fun h3 => ?_⟩⟩
            · refine ih (i + 1) (by omega) hk h2 n true (fun h => by cases h) fun _ => ?_
              rw [hv]
              have h4 := h1 hf
              have : vals b (s.take i) ≤ vals b (s.take i) * b := Nat.le_mul_of_pos_right _ (by omega)
              omega
            · obtain ⟨h4, h5⟩ := h0 hf
              have h6 : n * b + d ≤ most := by
                have : ¬ (most - d) / b < n := by omega
                rw [hfi] at this
                omega
              have hnb : (n : Int) * (b : Int) = ((n * b : Nat) : Int) := by rw [Int.natCast_mul]
              have e5 : IntKind.u64.wrap ((n : Int) * (b : Int)) = ((n * b : Nat) : Int) := by rw [hnb]; exact wr_u64_nat (by omega)
              have e6 : IntKind.u64.wrap (((n * b : Nat) : Int) + (d : Int)) = ((n * b + d : Nat) : Int) := by rw [wr_u64 (by omega) (by omega)]; omega
              rw [e5, e6, decide_eq_false h3]
              refine ih (i + 1) (by omega) hk h2 _ false (fun _ => ⟨?_, h6⟩) fun h => by cases h
              rw [hv, h4]
            · have h3' : (n : Int) > (((most - d) / b : Nat) : Int) := by omega
              obtain ⟨h4, h5⟩ := h0 hf
              rw [decide_eq_true h3']
              refine ih (i + 1) (by omega) hk h2 n true (fun h => by cases h) fun _ => ?_
              rw [hv, ← h4]
              exact hfi.1 (Int.ofNat_lt.1 h3')
          have hd0 : s.head? = s[0]? := List.head?_eq_getElem?
          refine ⟨fun hi1 => ?_, fun hi1 => ?_⟩
          · have h0s : s[0]? = some s[0] := List.getElem?_eq_getElem (by omega)
            refine ⟨s[0], h0s, fun h2 => ?_, fun h2 => ?_⟩
            · refine bad12 ?_
              have h3 : s[0] = 48 := u8_eq (by have e : (48 : UInt8).toNat = 48 := rfl; omega)
              unfold badn
              rw [decide_eq_true (show 1 < s.length by omega), decide_eq_true (show s.head? = some 48 by rw [hd0, h0s, h3])]
              simp
            · refine go fun _ => ?_
              rw [hd0, h0s]
              intro h3
              injection h3 with h3
              exact h2 (by rw [h3]; rfl)
          · refine go fun h2 => ?_
            have h3 : i ≠ 1 := by omega
            have h4 : i ≠ 0 := by omega
            exact h48 (by omega)
    exact key s.length 0 (by omega) rfl (by omega) 0 false (fun _ => ⟨rfl, by omega⟩) fun h => by cases h)
  exact h
theorem c21 (s : Bytes) : Pus prog 21 [.s s] (.tup [.i .i64 (unnum s).1, .i .i64 (unnum s).2]) := by
  obtain ⟨x, y, ⟨rfl, rfl⟩, h⟩ := p21 H.f21 (s0 := s) (K := fun x y => x = (unnum s).1 ∧ y = (unnum s).2) (by
    unfold T21_0 T21_1
    refine ⟨fun h => by unfold unnum; rw [if_pos (by omega)]; exact ⟨rfl, rfl⟩, fun hs => ⟨_, _, c36 H s [45], ?_⟩⟩
    unfold unnum
    rw [if_neg (by omega)]
    by_cases hm : s.take 1 = [45]
    · have ec : cutp [45] s = (s.drop 1, true) := by unfold cutp; rw [if_pos (by exact hm)]; rfl
      rw [ec, if_pos hm]
      refine ⟨fun h => by simp at h, fun _ => ?_⟩
      have hl := rd_le 10 9223372036854775808 (s.drop 1)
      refine ⟨_, _, c37 H (b := 10) (most := 9223372036854775808) (by omega) (by omega) (by omega) (by omega) (s := s.drop 1) (by simp; omega), fun h => ⟨fun h0 => ?_, fun h0 => ?_⟩, fun h => ?_⟩
      · have e : (rd 10 9223372036854775808 (s.drop 1)).1 = 0 := by omega
        rw [if_pos ⟨h, e⟩, e]
        exact ⟨rfl, rfl⟩
      · rw [if_neg (fun hh => h0 (by rw [hh.2]; rfl))]
        refine ⟨?_, rfl⟩
        rw [IntKind.wrap_u64, IntKind.wrap_i64]
        simp only
        omega
      · have e := rd_err h
        rw [if_neg (fun hh => h hh.1), e]
        exact ⟨rfl, rfl⟩
    · have ec : cutp [45] s = (s, false) := by unfold cutp; rw [if_neg (by exact hm)]
      rw [ec, if_neg hm]
      refine ⟨fun _ => ?_, fun h => by simp at h⟩
      have hl := rd_le 10 9223372036854775807 s
      exact ⟨_, _, c37 H (b := 10) (most := 9223372036854775807) (by omega) (by omega) (by omega) (by omega) (s := s) (by omega), wr_i64 (by omega) (by omega), rfl⟩)
  exact h
theorem c45 (s : Bytes) : ∃ c r ok, EscK s c r ok ∧ Pus prog 45 [.s s] (.tup [.i .u8 c, .s r, .b ok]) := by
  refine p45 H.f45 (s0 := s) (K := EscK s) ?_
  unfold T45_0 T45_1
  refine ⟨fun h => by subst h; exact EscK.no rfl, fun h => ?_⟩
  cases s with
  | nil => exact absurd rfl h
  | cons c r =>
    have lit : ∀ {n : Nat} (_ : n < 256), (UInt8.ofNat n).toNat = n := by intro n hn; simp; omega
    unfold T45_2
    refine ⟨c, rfl, ?_⟩
    have t4 : T45_4 prog (EscK (c :: r)) (c :: r) (c.toNat : Int) (decide (c.toNat = 34 ∨ c.toNat = 92)) := by
      unfold T45_4
      refine ⟨fun h1 => ⟨c, rfl, by simp, ?_⟩, fun h1 => ?_⟩
      · have h1 := of_decide_eq_true h1
        exact EscK.yes (show (if c.toNat = 34 ∨ c.toNat = 92 then some (c, r) else _) = some (c, r) from if_pos h1) rfl
      · have h1 := of_decide_eq_false h1
        have e0 : esc (c :: r) = if c.toNat = 110 then some (10, r) else if c.toNat = 120 then esx r else none := by
          show (if c.toNat = 34 ∨ c.toNat = 92 then some (c, r) else if c.toNat = 110 then some (10, r) else if c.toNat = 120 then esx r else none) = _
          rw [if_neg h1]
        refine ⟨fun h2 => ⟨by simp, ?_⟩, fun h2 => ⟨fun h3 => ?_, fun h3 => ?_⟩⟩
        · exact EscK.yes (by rw [e0, if_pos (by omega)]; rfl) rfl
        · have e : esc (c :: r) = esx r := by rw [e0, if_neg (by omega), if_pos (by omega)]
          refine ⟨fun h4 => ?_, fun h4 => ?_⟩
          · refine EscK.no ?_
            rw [e]
            match r, h4 with
            | [], _ => rfl
            | [a], _ => rfl
            | a :: b :: r', h4 => simp at h4; omega
          · match r, h4, e with
            | [], h4, _ => exact absurd (by simp) h4
            | [a], h4, _ => exact absurd (by simp) h4
            | a :: b :: r', _, e =>
              have la := dv_lt (b := 16) (by omega) a
              have lb := dv_lt (b := 16) (by omega) b
              have ca : Pus prog 43 [.s DIG, .i .u8 (a.toNat : Int)] (.i .i64 (dv 16 a)) := c43 H DIG a
              have cb : Pus prog 43 [.s DIG, .i .u8 (b.toNat : Int)] (.i .i64 (dv 16 b)) := c43 H DIG b
              refine ⟨a, rfl, _, ca, b, rfl, _, cb, by simp, ?_⟩
              simp only [esx] at e
              by_cases hv : 0 ≤ dv 16 a ∧ 0 ≤ dv 16 b
              · have hw : IntKind.u8.wrap (IntKind.i64.wrap ((IntKind.i64.wrap (16 * dv 16 a)) + dv 16 b)) = 16 * dv 16 a + dv 16 b := by
                  rw [wr_i64 (z := 16 * dv 16 a) (by omega) (by omega), wr_i64 (by omega) (by omega), wr_u8 (by omega) (by omega)]
                have en := lit (n := (16 * dv 16 a + dv 16 b).toNat) (by omega)
                rw [hw]
                refine ⟨fun _ => ⟨fun _ => ⟨fun h5 => ⟨fun h6 => ?_, fun h6 => ?_⟩, fun h5 => ?_⟩, fun h5 => absurd hv.2 h5⟩, fun h5 => absurd hv.1 h5⟩
                · rw [if_pos ⟨hv.1, hv.2, by omega, by omega⟩] at e
                  exact EscK.yes e (by rw [en]; omega)
                · by_cases h7 : 126 < 16 * dv 16 a + dv 16 b
                  · rw [if_pos ⟨hv.1, hv.2, by omega, by omega⟩] at e
                    rw [decide_eq_true h7]
                    exact EscK.yes e (by rw [en]; omega)
                  · rw [if_neg (by omega)] at e
                    rw [decide_eq_false h7]
                    exact EscK.no e
                · rw [if_neg (by omega)] at e
                  exact EscK.no e
              · rw [if_neg (by omega)] at e
                exact ⟨fun h5 => ⟨fun h6 => absurd ⟨h5, h6⟩ hv, fun _ => EscK.no e⟩, fun _ => EscK.no e⟩
        · exact EscK.no (by rw [e0, if_neg (by omega), if_neg (by omega)])
    unfold T45_3
    refine ⟨fun h1 => ?_, fun h1 => ?_⟩
    · rw [show decide ((c.toNat : Int) = 34) = decide (c.toNat = 34 ∨ c.toNat = 92) from decide_eq_decide.2 (by omega)]
      exact t4
    · rw [show decide ((c.toNat : Int) = 92) = decide (c.toNat = 34 ∨ c.toNat = 92) from decide_eq_decide.2 (by omega)]
      exact t4
theorem c39 {s : Bytes} (hs : s.length ≤ 10000000) : Pus prog 39 [.s s] (.tup [.s (nxtR s).1, .s (nxtR s).2.1, .b (nxtR s).2.2]) := by
  obtain ⟨x, y, z, ⟨rfl, rfl, rfl⟩, h⟩ := p39 H.f39 (s0 := s) (K := fun x y z => x = (nxtR s).1 ∧ y = (nxtR s).2.1 ∧ z = (nxtR s).2.2) (by
    have no : nxt s = none → ([] : Bytes) = (nxtR s).1 ∧ ([] : Bytes) = (nxtR s).2.1 ∧ false = (nxtR s).2.2 := by
      intro h
      unfold nxtR
      rw [h]
      exact ⟨rfl, rfl, rfl⟩
    unfold T39_0 T39_1
    refine ⟨_, _, c36 H s [34], ?_⟩
    cases s with
    | nil =>
      rw [show cutp [34] [] = ([], false) from rfl]
      exact ⟨fun _ => no rfl, fun h => by simp at h⟩
    | cons q s =>
      by_cases hq : q.toNat = 34
      · have hq' : q = 34 := u8_eq hq
        subst hq'
        have ec : cutp [34] (34 :: s) = (s, true) := by unfold cutp; rw [if_pos (show List.take ([34] : Bytes).length (34 :: s) = [34] from rfl)]; rfl
        rw [ec]
        refine ⟨fun h => by simp at h, fun _ P hP => ?_⟩
        have hn : nxt (34 :: s) = nxtB (s.length + 1) [] s := by
          simp only [nxt]
          rw [if_pos hq]
        have key : ∀ n b r, r.length < n → b.length + r.length ≤ 10000000 → nxtB n b r = nxt (34 :: s) → P r b := by
          intro n
          induction n with
          | zero => intro b r h; exact absurd h (Nat.not_lt_zero _)
          | succ n ih =>
            intro b r hr hb hx
            apply hP
            unfold T39_2
            cases r with
            | nil => exact ⟨fun h => absurd rfl h, fun _ => no (by rw [← hx]; rfl)⟩
            | cons c r =>
              simp only [nxtB] at hx
              refine ⟨fun _ => ⟨c, rfl, by simp, fun h1 => ?_, fun h1 => ⟨fun h2 => ?_, fun h2 => ⟨fun h3 => ?_, fun h3 => ⟨fun h4 => ?_, fun h4 => ?_⟩⟩⟩⟩, fun h => absurd (by simp) h⟩
              · rw [if_pos (by omega)] at hx
                unfold nxtR
                rw [← hx]
                exact ⟨rfl, rfl, rfl⟩
              · refine no ?_
                rw [← hx, if_neg (by omega), show one (c :: r) = none by simp only [one]; rw [if_pos (by omega)]]
              · refine no ?_
                rw [← hx, if_neg (by omega), show one (c :: r) = none by simp only [one]; rw [if_pos (by omega)]]
              · rw [if_neg (by omega), show one (c :: r) = esc r by simp only [one]; rw [if_neg (by omega), if_pos (by omega)]] at hx
                obtain ⟨a, r', ok, hk, hp⟩ := c45 H r
                refine ⟨a, r', ok, hp, fun h5 => ?_, fun h5 => ?_⟩
                · unfold EscK at hk
                  cases he : esc r with
                  | none => rw [he] at hx; exact no hx.symm
                  | some p =>
                    rw [he] at hk
                    obtain ⟨_, _, hk⟩ := hk
                    rw [hk] at h5
                    exact absurd h5 (by decide)
                · unfold EscK at hk
                  cases he : esc r with
                  | none =>
                    rw [he] at hk
                    simp only at hk
                    rw [hk] at h5
                    exact absurd h5 (by decide)
                  | some p =>
                    obtain ⟨u, v⟩ := p
                    rw [he] at hk hx
                    obtain ⟨h6, h7, h8⟩ := hk
                    simp only at hx h6 h7
                    subst h6; subst h7
                    have hl : r'.length < (c :: r).length := one_len (c := u) (by simp only [one]; rw [if_neg (by omega), if_pos (by omega)]; exact he)
                    simp only [List.length_cons] at hl hb hr
                    unfold T39_3
                    refine ⟨u, rfl, ⟨?_, ?_⟩, ih _ _ (by omega) ?_ hx⟩
                    · simp only [List.length_cons, List.length_nil, maxBytes_eq]; omega
                    · simp only [List.length_cons, List.length_nil, maxBytes_eq]; omega
                    · simp only [List.length_append, List.length_cons, List.length_nil]; omega
              · rw [if_neg (by omega), show one (c :: r) = some (c, r) by simp only [one]; rw [if_neg (by omega), if_neg (by omega)]] at hx
                simp only [List.length_cons] at hb hr
                unfold T39_3
                refine ⟨c, rfl, ⟨?_, ?_⟩, ih _ _ (show r.length < n by omega) ?_ hx⟩
                · simp only [List.length_cons, List.length_nil, maxBytes_eq]; omega
                · simp only [List.length_cons, List.length_nil, maxBytes_eq]; omega
                · simp only [List.drop_succ_cons, List.drop_zero, List.length_append, List.length_cons, List.length_nil]; omega
        exact key (s.length + 1) [] s (by omega) (by simp at hs ⊢; omega) hn.symm
      · have ec : cutp [34] (q :: s) = (q :: s, false) := by
          unfold cutp
          rw [if_neg ?_]
          intro h
          injection h with h
          exact hq (by rw [h]; rfl)
        rw [ec]
        refine ⟨fun _ => no ?_, fun h => by simp at h⟩
        simp only [nxt]
        rw [if_neg hq])
  exact h
theorem c25 (s : Bytes) : Pus prog 25 [.s s] (.tup [.s (unquo s).1, .i .i64 (unquo s).2]) := by
  obtain ⟨x, y, ⟨rfl, rfl⟩, h⟩ := p25 H.f25 (s0 := s) (K := fun x y => x = (unquo s).1 ∧ y = (unquo s).2) (by
    unfold T25_0 unquo
    refine ⟨fun h => by rw [if_pos (by omega)]; exact ⟨rfl, rfl⟩, fun hs => ⟨_, _, _, c39 H (by omega), ?_⟩⟩
    rw [if_neg (by omega)]
    unfold nxtR
    cases nxt s with
    | none => exact ⟨fun _ => ⟨rfl, rfl⟩, fun h => by simp at h⟩
    | some p =>
      obtain ⟨x, r⟩ := p
      refine ⟨fun h => by simp at h, fun _ => ⟨fun h => ?_, fun h => ?_⟩⟩
      · cases r with
        | nil => exact absurd rfl h
        | cons c r => exact ⟨rfl, rfl⟩
      · have h : r = [] := Classical.not_not.1 h
        subst h
        refine ⟨fun h => ?_, fun h => ?_⟩
        · simp only at h ⊢
          rw [if_pos (by omega)]; exact ⟨rfl, rfl⟩
        · simp only at h ⊢
          rw [if_neg (by omega)]; exact ⟨rfl, rfl⟩)
  exact h
end
end Go.AM

namespace Go.AM
open Go
def isD (c : UInt8) : Bool := decide (48 ≤ c.toNat) && decide (c.toNat ≤ 57)
def digN : Bytes → Nat
  | [] => 0
  | c :: s => if isD c = true then 1 + digN s else 0
def numN (s : Bytes) : Nat := if s.head? = some 45 then 1 + digN (s.drop 1) else digN s
theorem digN_le : ∀ s : Bytes, digN s ≤ s.length
  | [] => Nat.le_refl _
  | c :: s => by
    have := digN_le s
    rw [digN, List.length_cons]
    split <;> omega
theorem numN_le (s : Bytes) : numN s ≤ s.length := by
  unfold numN
  cases s with
  | nil => simp [digN]
  | cons c s =>
    have h1 := digN_le s
    have h2 := digN_le (c :: s)
    split
    · simp only [List.drop_succ_cons, List.drop_zero, List.length_cons]; omega
    · exact h2
def qs : Bytes → Option Nat
  | [] => none
  | c :: r => if c = 92 then (match r with | [] => none | _ :: r' => (qs r').map (· + 2)) else if c = 34 then some 1 else (qs r).map (· + 1)
def scNum (s : Bytes) : Int × Bool × Bytes := ((unnum (s.take (numN s))).1, decide ((unnum (s.take (numN s))).2 = 0), s.drop (numN s))
def scQ (s : Bytes) : Bytes × Bool × Bytes := match qs (s.drop 1) with
  | none => ([], false, s)
  | some k => ((unquo (s.take (k + 1))).1, decide ((unquo (s.take (k + 1))).2 = 0), s.drop (k + 1))
def scG (f : Bytes → Val × Bool × Bytes) (kind : Int) (stop : Bytes) : Nat → List Val → Bytes → Val × Bool × Bytes
  | 0, acc, s => (Val.mk kind 0 [] acc false, false, s)
  | k + 1, acc, s => if (f s).2.1 = false then (Val.mk kind 0 [] acc false, false, (f s).2.2) else
      if (cutp stop (f s).2.2).2 = true then (Val.mk kind 0 [] (acc ++ [(f s).1]) false, true, (cutp stop (f s).2.2).1) else
      if (cutp [44, 32] (cutp stop (f s).2.2).1).2 = false then (Val.mk kind 0 [] (acc ++ [(f s).1]) false, false, (cutp [44, 32] (cutp stop (f s).2.2).1).1) else
      scG f kind stop k (acc ++ [(f s).1]) (cutp [44, 32] (cutp stop (f s).2.2).1).1
def scL (f : Bytes → Val × Bool × Bytes) (kind : Int) (stop s : Bytes) : Val × Bool × Bytes :=
  if (cutp stop s).2 = true then (Val.mk kind 0 [] [] false, true, (cutp stop s).1) else scG f kind stop 17 [] (cutp stop s).1
def scV : Nat → Bytes → Val × Bool × Bytes
  | 0, s => (vz, false, s)
  | d + 1, s => if s = [] then (vz, false, s) else
      if (cutp tTrue s).2 = true then (Val.mk 1 1 [] [] false, true, (cutp tTrue s).1) else
      if (cutp tFalse s).2 = true then (Val.mk 1 0 [] [] false, true, (cutp tFalse s).1) else
      if (cutp tNil s).2 = true then (Val.mk 4 0 [] [] false, true, (cutp tNil s).1) else
      if (cutp tCutP s).2 = true then (Val.mk 4 0 [] [] true, true, (cutp tCutP s).1) else
      if (cutp tCutS s).2 = true then (Val.mk 7 0 [] [] true, true, (cutp tCutS s).1) else
      if (cutp [38] s).2 = true then (Val.mk 4 0 [] [(scV d (cutp [38] s).1).1] false, (scV d (cutp [38] s).1).2) else
      if (cutp [123] s).2 = true then scL (scV d) 5 [125] (cutp [123] s).1 else
      if (cutp [91] s).2 = true then scL (scV d) 6 [93] (cutp [91] s).1 else
      if (cutp [60] s).2 = true then scL (scV d) 7 [62] (cutp [60] s).1 else
      if s.head? = some 34 then (Val.mk 3 0 (scQ s).1 [] false, (scQ s).2) else
      (Val.mk 2 (scNum s).1 [] [] false, (scNum s).2)
theorem cutp_no {p s : Bytes} (h : (cutp p s).2 = false) : (cutp p s).1 = s := by
  unfold cutp at h ⊢
  split
  · rename_i h1; rw [if_pos h1] at h; cases h
  · rfl
theorem cutp_app (p s : Bytes) : cutp p (p ++ s) = (s, true) := by
  unfold cutp
  rw [if_pos (by simp), List.drop_left]
theorem cutp_head {c d : UInt8} {p s : Bytes} (h : c ≠ d) : cutp (c :: p) (d :: s) = (d :: s, false) := by
  unfold cutp
  rw [if_neg]
  simp only [List.length_cons, List.take_succ_cons, List.cons.injEq]
  rintro ⟨rfl, _⟩
  exact h rfl
theorem cutp_cons (c : UInt8) (p s : Bytes) : cutp (c :: p) (c :: s) = if (cutp p s).2 = true then ((cutp p s).1, true) else (c :: s, false) := by
  unfold cutp
  simp only [List.length_cons, List.take_succ_cons, List.cons.injEq, true_and, List.drop_succ_cons]
  split <;> simp_all
theorem unnum_rng (s : Bytes) : -9223372036854775808 ≤ (unnum s).1 ∧ (unnum s).1 < 9223372036854775808 := by
  have h1 := rd_le 10 9223372036854775808 (s.drop 1)
  have h2 := rd_le 10 9223372036854775807 s
  unfold unnum
  split
  · exact ⟨by decide, by decide⟩
  split
  · split
    · exact ⟨by decide, by decide⟩
    · dsimp only
      omega
  · dsimp only
    omega
theorem Wf.ite {c : Prop} [Decidable c] {a b : Val × Bool × Bytes} (ha : Wf a.1) (hb : Wf b.1) : Wf (if c then a else b).1 := by
  split
  · exact ha
  · exact hb
theorem scG_wf {f : Bytes → Val × Bool × Bytes} {kind : Int} {stop : Bytes} (hk : 0 ≤ kind ∧ kind < 256) (hf : ∀ s, Wf (f s).1) : ∀ (n : Nat) (acc : List Val) (s : Bytes), n ≤ 17 → acc.length + n = 17 → (∀ x ∈ acc, Wf x) → Wf (scG f kind stop n acc s).1
  | 0, acc, s, _, hl, h => by
    rw [scG]
    exact .mk hk (by decide) (by omega) h
  | n + 1, acc, s, hn, hl, h => by
    have h1 : ∀ x ∈ acc ++ [(f s).1], Wf x := by
      intro x hx
      rcases List.mem_append.1 hx with hx | hx
      · exact h x hx
      · rw [List.mem_singleton.1 hx]; exact hf s
    rw [scG]
    split
    · exact .mk hk (by decide) (by omega) h
    · split
      · exact .mk hk (by decide) (by simp; omega) h1
      · split
        · exact .mk hk (by decide) (by simp; omega) h1
        · exact scG_wf hk hf n _ _ (by omega) (by simp; omega) h1
theorem scL_wf {f : Bytes → Val × Bool × Bytes} {kind : Int} {stop s : Bytes} (hk : 0 ≤ kind ∧ kind < 256) (hf : ∀ s, Wf (f s).1) : Wf (scL f kind stop s).1 := by
  unfold scL
  split
  · exact .mk hk (by decide) (by decide) (by simp)
  · exact scG_wf hk hf 17 [] _ (by omega) rfl (by simp)
theorem scV_wf : ∀ (d : Nat) (s : Bytes), Wf (scV d s).1
  | 0, s => Wf.zero
  | d + 1, s => by
    have w0 : ∀ (k n : Int) (c : Bool), 0 ≤ k ∧ k < 256 → -9223372036854775808 ≤ n ∧ n < 9223372036854775808 → Wf (Val.mk k n [] [] c) := fun k n c h1 h2 => .mk h1 h2 (by decide) (by simp)
    rw [scV]
    exact .ite Wf.zero (.ite (w0 _ _ _ (by decide) (by decide)) (.ite (w0 _ _ _ (by decide) (by decide)) (.ite (w0 _ _ _ (by decide) (by decide)) (.ite (w0 _ _ _ (by decide) (by decide)) (.ite (w0 _ _ _ (by decide) (by decide))
      (.ite (.mk (by decide) (by decide) (by simp) (fun x hx => by rw [List.mem_singleton.1 hx]; exact scV_wf d _)) (.ite (scL_wf (by decide) (scV_wf d)) (.ite (scL_wf (by decide) (scV_wf d)) (.ite (scL_wf (by decide) (scV_wf d))
      (.ite (.mk (by decide) (by decide) (by simp) (by simp)) (.mk (by decide) (unnum_rng _) (by simp) (by simp))))))))))))
def Stop (r : Bytes) : Prop := ∀ c, r.head? = some c → c = 44 ∨ c = 125 ∨ c = 93 ∨ c = 62
theorem Stop.notD {r : Bytes} (h : Stop r) : digN r = 0 := by
  cases r with
  | nil => rfl
  | cons c r =>
    rw [digN, if_neg]
    rcases h c rfl with rfl | rfl | rfl | rfl <;> decide
theorem digN_all : ∀ (s r : Bytes), (∀ c ∈ s, isD c = true) → digN r = 0 → digN (s ++ r) = s.length
  | [], r, _, h => h
  | c :: s, r, hs, h => by
    rw [List.cons_append, digN, if_pos (hs c List.mem_cons_self), digN_all s r (fun c hc => hs c (List.mem_cons_of_mem _ hc)) h, List.length_cons]
    omega
theorem hexd_isD : ∀ n : Fin 10, isD (hexd n.val) = true := by decide
theorem ds_isD : ∀ (f n : Nat), ∀ c ∈ ds 10 f n, isD c = true
  | 0, n, c, h => by simp [ds] at h
  | f + 1, n, c, h => by
    rw [ds] at h
    split at h
    · rename_i hn
      rw [List.mem_singleton.1 h]
      exact hexd_isD ⟨n, hn⟩
    · rcases List.mem_append.1 h with h | h
      · exact ds_isD f _ c h
      · rw [List.mem_singleton.1 h]
        exact hexd_isD ⟨n % 10, Nat.mod_lt _ (by decide)⟩
theorem isD_ne {c : UInt8} {l : List UInt8} (h : isD c = true) (hl : (l.all fun x => !isD x) = true) : c ∉ l := by
  intro hc
  have := List.all_eq_true.1 hl c hc
  rw [h] at this
  cases this
theorem num_head (n : Int) : ∃ c r, num n = c :: r ∧ (c = 45 ∨ isD c = true) := by
  have hd : ∀ n, ∃ c r, digs 10 n = c :: r ∧ isD c = true := by
    intro n
    have h1 := digs_ne 10 n
    have h2 := ds_isD 64 n
    unfold digs at *
    cases h : ds 10 64 n with
    | nil => exact absurd h h1
    | cons c r => exact ⟨c, r, rfl, h2 c (by rw [h]; exact List.mem_cons_self)⟩
  unfold num
  split
  · exact ⟨45, _, rfl, .inl rfl⟩
  · obtain ⟨c, r, h1, h2⟩ := hd n.toNat
    exact ⟨c, r, h1, .inr h2⟩
theorem numN_num {n : Int} {r : Bytes} (hr : digN r = 0) : numN (num n ++ r) = (num n).length := by
  unfold num numN
  split
  · rw [List.cons_append, List.head?_cons, if_pos rfl, List.drop_succ_cons, List.drop_zero, List.length_cons, Nat.add_comm]
    congr 1
    exact digN_all _ r (ds_isD 64 _) hr
  · obtain ⟨c, t, h1, h2⟩ := num_head n
    rw [num, if_neg (by assumption)] at h1
    rw [if_neg]
    · exact digN_all _ r (ds_isD 64 _) hr
    rw [h1, List.cons_append, List.head?_cons]
    intro e
    injection e with e
    subst e
    rcases h2 with h2 | h2
    · have := ds_isD 64 n.toNat 45 (by show (45 : UInt8) ∈ digs 10 n.toNat; rw [h1]; exact List.mem_cons_self)
      exact absurd this (by decide)
    · exact absurd h2 (by decide)
theorem scNum_num {n : Int} {r : Bytes} (h1 : -9223372036854775808 ≤ n) (h2 : n < 9223372036854775808) (hr : digN r = 0) : scNum (num n ++ r) = (n, true, r) := by
  unfold scNum
  rw [numN_num hr, List.take_left, List.drop_left, unnum_num h1 h2]
  rfl
theorem qs_chrs : ∀ (s r : Bytes), qs (chrs s ++ 34 :: r) = some ((chrs s).length + 1)
  | [], r => by
    show qs (34 :: r) = some 1
    rw [qs.eq_def]
    simp
  | c :: s, r => by
    have ih := qs_chrs s r
    have e : chrs (c :: s) = chr c ++ chrs s := rfl
    have hx : ∀ k : Fin 16, hexd k.val ≠ 92 ∧ hexd k.val ≠ 34 := by decide
    rw [e, List.append_assoc]
    unfold chr
    split
    · rw [List.cons_append, List.cons_append, List.nil_append, qs.eq_def]
      simp only [if_true, ih, Option.map_some, List.length_append, List.length_cons, List.length_nil]
      congr 1
      omega
    · rename_i h1
      split
      · rw [List.cons_append, List.cons_append, List.nil_append, qs.eq_def]
        simp only [if_true, ih, Option.map_some, List.length_append, List.length_cons, List.length_nil]
        congr 1
        omega
      · split
        · have hc := c.toNat_lt
          obtain ⟨a1, a2⟩ := hx ⟨c.toNat / 16, by omega⟩
          obtain ⟨b1, b2⟩ := hx ⟨c.toNat % 16, by omega⟩
          simp only at a1 a2 b1 b2
          rw [List.cons_append, List.cons_append, List.cons_append, List.cons_append, List.nil_append, qs.eq_def]
          simp only [if_true]
          rw [qs.eq_def]
          simp only [if_neg a1, if_neg a2]
          rw [qs.eq_def]
          simp only [if_neg b1, if_neg b2, ih, Option.map_some, List.length_append, List.length_cons, List.length_nil]
          congr 1
          omega
        · have c1 : c ≠ 92 := by rintro rfl; exact h1 (.inr rfl)
          have c2 : c ≠ 34 := by rintro rfl; exact h1 (.inl rfl)
          rw [List.cons_append, List.nil_append, qs.eq_def]
          simp only [if_neg c1, if_neg c2, ih, Option.map_some, List.length_append, List.length_cons, List.length_nil]
          congr 1
          omega
theorem scQ_quo {s r : Bytes} (h : s.length ≤ 400) : scQ (quo s ++ r) = (s, true, r) := by
  have e : quo s ++ r = 34 :: (chrs s ++ 34 :: r) := by simp [quo]
  have e2 : (quo s).length = (chrs s).length + 1 + 1 := by simp [quo]
  unfold scQ
  rw [show (quo s ++ r).drop 1 = chrs s ++ 34 :: r by rw [e]; rfl, qs_chrs]
  simp only
  rw [← e2, List.take_left, List.drop_left, unquo_quo h]
  rfl
end Go.AM

namespace Go.AM
open Go
theorem txt_head (v : Val) : ∃ c t, txt v = c :: t ∧ (c ∈ ([116, 102, 110, 38, 60, 123, 91, 34, 45] : Bytes) ∨ isD c = true) := by
  rw [txt_eq]
  have h1 := num_head v.int
  repeat' split
  all_goals first
    | (obtain ⟨c, t, h2, h3⟩ := h1
       refine ⟨c, t, h2, ?_⟩
       rcases h3 with rfl | h3
       · exact .inl (by decide)
       · exact .inr h3)
    | exact ⟨_, _, rfl, .inl (by decide)⟩
theorem txt_head_ne {v : Val} {e : UInt8} (he : (e = 46 ∨ e = 125 ∨ e = 93 ∨ e = 62 ∨ e = 44)) (p r : Bytes) : (cutp (e :: p) (txt v ++ r)) = (txt v ++ r, false) := by
  obtain ⟨c, t, h1, h2⟩ := txt_head v
  rw [h1, List.cons_append]
  refine cutp_head ?_
  rintro rfl
  rcases h2 with h2 | h2
  · rcases he with rfl | rfl | rfl | rfl | rfl <;> exact absurd h2 (by decide)
  · rcases he with rfl | rfl | rfl | rfl | rfl <;> exact absurd h2 (by decide)
section
variable {f : Bytes → Val × Bool × Bytes} {kind : Int} {e : UInt8}
theorem scG_txts (he : e = 125 ∨ e = 93 ∨ e = 62) : ∀ (l : List Val) (x : Val) (acc : List Val) (n : Nat) (r : Bytes), (∀ y ∈ x :: l, ∀ r, Stop r → f (txt y ++ r) = (y, true, r)) → l.length < n → scG f kind [e] n acc (txts (x :: l) ++ e :: r) = (Val.mk kind 0 [] (acc ++ x :: l) false, true, r)
  | l, x, acc, 0, r, hf, hn => absurd hn (Nat.not_lt_zero _)
  | [], x, acc, n + 1, r, hf, hn => by
    have hs : Stop (e :: r) := by intro c hc; injection hc with hc; subst hc; rcases he with h | h | h <;> simp [h]
    have h1 := hf x List.mem_cons_self (e :: r) hs
    have h2 : cutp [e] (e :: r) = (r, true) := cutp_app [e] r
    rw [txts_one, scG]
    simp only [h1, h2, Bool.true_eq_false, if_false, if_true]
  | y :: l, x, acc, n + 1, r, hf, hn => by
    have e1 : txts (x :: y :: l) ++ e :: r = txt x ++ (44 :: 32 :: (txts (y :: l) ++ e :: r)) := by simp [txts, txtl]
    have hs : Stop (44 :: 32 :: (txts (y :: l) ++ e :: r)) := by intro c hc; injection hc with hc; subst hc; exact .inl rfl
    have h1 := hf x List.mem_cons_self _ hs
    have hne : e ≠ 44 := by rcases he with rfl | rfl | rfl <;> decide
    have h2 : cutp [e] (44 :: 32 :: (txts (y :: l) ++ e :: r)) = (44 :: 32 :: (txts (y :: l) ++ e :: r), false) := cutp_head hne
    have h3 : cutp [44, 32] (44 :: 32 :: (txts (y :: l) ++ e :: r)) = (txts (y :: l) ++ e :: r, true) := cutp_app [44, 32] _
    have ih := scG_txts he l y (acc ++ [x]) n r (fun z hz => hf z (List.mem_cons_of_mem _ hz)) (by simp only [List.length_cons] at hn; omega)
    rw [e1, scG]
    simp only [h1, h2, h3, Bool.true_eq_false, Bool.false_eq_true, if_false]
    rw [ih, List.append_assoc]
    rfl
theorem scL_txts (he : e = 125 ∨ e = 93 ∨ e = 62) (l : List Val) (r : Bytes) (hf : ∀ y ∈ l, ∀ r, Stop r → f (txt y ++ r) = (y, true, r)) (hn : l.length ≤ 16) : scL f kind [e] (txts l ++ e :: r) = (Val.mk kind 0 [] l false, true, r) := by
  unfold scL
  cases l with
  | nil =>
    have h2 : cutp [e] (txts [] ++ e :: r) = (r, true) := cutp_app [e] r
    simp only [h2, if_true]
  | cons x l =>
    have h2 : cutp [e] (txts (x :: l) ++ e :: r) = (txts (x :: l) ++ e :: r, false) := by
      rw [txts, List.append_assoc]
      exact txt_head_ne (by rcases he with h | h | h <;> simp [h]) _ _
    simp only [h2, Bool.false_eq_true, if_false]
    exact scG_txts he l x [] 17 r hf (by simp only [List.length_cons] at hn; omega)
end
theorem txts_head {l : List Val} {e : UInt8} {p r : Bytes} : (cutp (46 :: p) (txts l ++ 62 :: r)).2 = false := by
  cases l with
  | nil => rw [show txts [] ++ 62 :: r = 62 :: r from rfl, cutp_head (by decide)]
  | cons x l => rw [txts, List.append_assoc, txt_head_ne (.inl rfl)]
theorem len0 {α : Type} {l : List α} (h : l.length = 0) : l = [] := List.length_eq_zero_iff.1 h
theorem scV_txt : ∀ (d : Nat) (v : Val), okv d v = true → Wf v → ∀ r, Stop r → scV d (txt v ++ r) = (v, true, r)
  | 0, v, h, _, r, hr => by cases h
  | d + 1, v, h, hw, r, hr => by
    have h1 := okv_head h
    have h2 := okv_sub h
    have ih : ∀ y ∈ v.list, ∀ r, Stop r → scV d (txt y ++ r) = (y, true, r) := fun y hy => scV_txt d y (h2 y hy) (hw.e y hy)
    have hn := hw.n
    have hne : ∀ x : Bytes, ¬(txt v ++ x = []) := fun x e => txt_ne v (List.append_eq_nil_iff.1 e).1
    clear h h2 hw
    cases v with
    | mk k n s l c =>
    unfold Val.okh Okh at h1
    simp only [Val.kind_mk, Val.int_mk, Val.text_mk, Val.list_mk, Val.cut_mk] at h1 ih hn
    have ht := hne r
    rw [scV, if_neg ht]
    clear ht hne
    have nohead : ∀ {a b : UInt8} {p t : Bytes}, a ≠ b → (cutp (a :: p) (b :: t)).2 = false := fun h => by rw [cutp_head h]
    rcases h1 with ⟨rfl, a1, a2, a3, a4⟩ | ⟨rfl, a1, a2, a3⟩ | ⟨rfl, a1, a2, rfl, a4⟩ | ⟨rfl, rfl, a1, a2, a3⟩ | ⟨rfl, rfl, a1, a2, a3⟩ | ⟨rfl, rfl, a1, a2, a3, a4⟩ | ⟨rfl, rfl, a1, a2, a3⟩
    · have := len0 a1; have := len0 a3; subst l; subst s
      have : c = false := by cases c; rfl; cases a2
      subst c
      rcases a4 with rfl | rfl
      · rw [show txt (Val.mk 1 0 [] [] false) = tFalse from rfl, show tFalse ++ r = 102 :: ([97, 108, 115, 101] ++ r) from rfl, tTrue, if_neg (by rw [nohead (by decide)]; decide)]
        have := cutp_app tFalse r
        rw [show tFalse ++ r = 102 :: ([97, 108, 115, 101] ++ r) from rfl] at this
        rw [if_pos (by rw [this]), this]
      · rw [show txt (Val.mk 1 1 [] [] false) = tTrue from rfl, if_pos (by rw [cutp_app]), cutp_app]
    · have := len0 a1; have := len0 a3; subst l; subst s
      have : c = false := by cases c; rfl; cases a2
      subst c
      rw [show txt (Val.mk 2 n [] [] false) = num n from rfl]
      have hd := scNum_num (r := r) hn.1 hn.2 hr.notD
      obtain ⟨x, t, h3, h4⟩ := num_head n
      rw [h3] at hd ⊢
      rw [List.cons_append] at hd ⊢
      have hx : ∀ y : UInt8, y ∈ ([116, 102, 110, 38, 60, 123, 91, 34] : Bytes) → y ≠ x := by
        rintro y hy rfl
        rcases h4 with rfl | h4
        · exact absurd hy (by decide)
        · exact isD_ne h4 (by decide) hy
      rw [tTrue, if_neg (by rw [nohead (hx _ (by decide))]; decide), tFalse, if_neg (by rw [nohead (hx _ (by decide))]; decide), tNil, if_neg (by rw [nohead (hx _ (by decide))]; decide), tCutP, if_neg (by rw [nohead (hx _ (by decide))]; decide), tCutS, if_neg (by rw [nohead (hx _ (by decide))]; decide),
        if_neg (by rw [nohead (hx _ (by decide))]; decide), if_neg (by rw [nohead (hx _ (by decide))]; decide), if_neg (by rw [nohead (hx _ (by decide))]; decide), if_neg (by rw [nohead (hx _ (by decide))]; decide),
        if_neg (by rw [List.head?_cons]; intro e; injection e with e; exact hx 34 (by decide) e.symm), hd]
    · have := len0 a1; subst l
      have : c = false := by cases c; rfl; cases a2
      subst c
      rw [show txt (Val.mk 3 0 s [] false) = quo s from rfl]
      have hd := scQ_quo (s := s) (r := r) (by omega)
      rw [show quo s ++ r = 34 :: (chrs s ++ [34] ++ r) from rfl] at hd ⊢
      rw [tTrue, if_neg (by rw [nohead (by decide)]; decide), tFalse, if_neg (by rw [nohead (by decide)]; decide), tNil, if_neg (by rw [nohead (by decide)]; decide), tCutP, if_neg (by rw [nohead (by decide)]; decide), tCutS, if_neg (by rw [nohead (by decide)]; decide),
        if_neg (by rw [nohead (by decide)]; decide), if_neg (by rw [nohead (by decide)]; decide), if_neg (by rw [nohead (by decide)]; decide), if_neg (by rw [nohead (by decide)]; decide), List.head?_cons, if_pos rfl, hd]
    · have := len0 a1; subst s
      cases c with
      | true =>
        have := len0 (a3.resolve_left (by decide)); subst l
        have e := cutp_app tCutP r
        rw [show txt (Val.mk 4 0 [] [] true) = tCutP from rfl]
        rw [show tCutP ++ r = 38 :: ([46, 46, 46] ++ r) from rfl] at e ⊢
        rw [tTrue, if_neg (by rw [nohead (by decide)]; decide), tFalse, if_neg (by rw [nohead (by decide)]; decide), tNil, if_neg (by rw [nohead (by decide)]; decide), if_pos (by rw [e]), e]
      | false =>
        match l, a2 with
        | [], _ =>
          have e := cutp_app tNil r
          rw [show txt (Val.mk 4 0 [] [] false) = tNil from rfl]
          rw [show tNil ++ r = 110 :: ([105, 108] ++ r) from rfl] at e ⊢
          rw [tTrue, if_neg (by rw [nohead (by decide)]; decide), tFalse, if_neg (by rw [nohead (by decide)]; decide), if_pos (by rw [e]), e]
        | [w], _ =>
          rw [show txt (Val.mk 4 0 [] [w] false) = 38 :: txts [w] from rfl, txts_one, List.cons_append]
          have e : cutp [38] (38 :: (txt w ++ r)) = (txt w ++ r, true) := cutp_app [38] _
          have e2 : (cutp tCutP (38 :: (txt w ++ r))).2 = false := by rw [tCutP, cutp_cons, txt_head_ne (.inl rfl)]; rfl
          rw [tTrue, if_neg (by rw [nohead (by decide)]; decide), tFalse, if_neg (by rw [nohead (by decide)]; decide), tNil, if_neg (by rw [nohead (by decide)]; decide), if_neg (by rw [e2]; decide), tCutS, if_neg (by rw [nohead (by decide)]; decide), if_pos (by rw [e]), e]
          simp only
          rw [ih w List.mem_cons_self r hr]
    · have := len0 a1; subst s
      have : c = false := by cases c; rfl; cases a3
      subst c
      rw [show txt (Val.mk 5 0 [] l false) = 123 :: (txts l ++ [125]) from rfl]
      have e0 : 123 :: (txts l ++ [125]) ++ r = 123 :: (txts l ++ 125 :: r) := by simp
      have e : cutp [123] (123 :: (txts l ++ 125 :: r)) = (txts l ++ 125 :: r, true) := cutp_app [123] _
      rw [e0, tTrue, if_neg (by rw [nohead (by decide)]; decide), tFalse, if_neg (by rw [nohead (by decide)]; decide), tNil, if_neg (by rw [nohead (by decide)]; decide), tCutP, if_neg (by rw [nohead (by decide)]; decide), tCutS, if_neg (by rw [nohead (by decide)]; decide), if_neg (by rw [nohead (by decide)]; decide), if_pos (by rw [e]), e]
      exact scL_txts (.inl rfl) l r ih (by omega)
    · have := len0 a1; subst s
      have : c = false := by cases c; rfl; cases a4
      subst c
      rw [show txt (Val.mk 6 0 [] l false) = 91 :: (txts l ++ [93]) from rfl]
      have e0 : 91 :: (txts l ++ [93]) ++ r = 91 :: (txts l ++ 93 :: r) := by simp
      have e : cutp [91] (91 :: (txts l ++ 93 :: r)) = (txts l ++ 93 :: r, true) := cutp_app [91] _
      rw [e0, tTrue, if_neg (by rw [nohead (by decide)]; decide), tFalse, if_neg (by rw [nohead (by decide)]; decide), tNil, if_neg (by rw [nohead (by decide)]; decide), tCutP, if_neg (by rw [nohead (by decide)]; decide), tCutS, if_neg (by rw [nohead (by decide)]; decide), if_neg (by rw [nohead (by decide)]; decide), if_neg (by rw [nohead (by decide)]; decide), if_pos (by rw [e]), e]
      exact scL_txts (.inr (.inl rfl)) l r ih (by omega)
    · have := len0 a1; subst s
      cases c with
      | true =>
        have := len0 (a3.resolve_left (by decide)); subst l
        have e := cutp_app tCutS r
        rw [show txt (Val.mk 7 0 [] [] true) = tCutS from rfl]
        rw [show tCutS ++ r = 60 :: ([46, 46, 46, 62] ++ r) from rfl] at e ⊢
        rw [tTrue, if_neg (by rw [nohead (by decide)]; decide), tFalse, if_neg (by rw [nohead (by decide)]; decide), tNil, if_neg (by rw [nohead (by decide)]; decide), tCutP, if_neg (by rw [nohead (by decide)]; decide), if_pos (by rw [e]), e]
      | false =>
        rw [show txt (Val.mk 7 0 [] l false) = 60 :: (txts l ++ [62]) from rfl]
        have e0 : 60 :: (txts l ++ [62]) ++ r = 60 :: (txts l ++ 62 :: r) := by simp
        have e : cutp [60] (60 :: (txts l ++ 62 :: r)) = (txts l ++ 62 :: r, true) := cutp_app [60] _
        have e2 : (cutp tCutS (60 :: (txts l ++ 62 :: r))).2 = false := by
          have := txts_head (l := l) (e := 0) (p := [46, 46, 62]) (r := r)
          rw [tCutS, cutp_cons, if_neg (by rw [this]; decide)]
        rw [e0, tTrue, if_neg (by rw [nohead (by decide)]; decide), tFalse, if_neg (by rw [nohead (by decide)]; decide), tNil, if_neg (by rw [nohead (by decide)]; decide), tCutP, if_neg (by rw [nohead (by decide)]; decide), if_neg (by rw [e2]; decide), if_neg (by rw [nohead (by decide)]; decide), if_neg (by rw [nohead (by decide)]; decide), if_neg (by rw [nohead (by decide)]; decide), if_pos (by rw [e]), e]
        exact scL_txts (.inr (.inr rfl)) l r ih (by omega)
def rvs (s : Bytes) : Val × Int := if 1400000 < s.length then (vz, 4) else
  if (scV 130 s).2.1 = true ∧ (scV 130 s).2.2 = [] ∧ fine (scV 130 s).1 = true ∧ txt (scV 130 s).1 = s then ((scV 130 s).1, 0) else (vz, 12)
theorem fine_ok {v : Val} (h : fine v = true) : okv 130 v = true ∧ v.nodes ≤ 5000 := by
  simpa [fine] using h
theorem scV_fine {v : Val} (h : fine v = true) (hw : Wf v) : scV 130 (txt v) = (v, true, []) := by
  have := scV_txt 130 v (fine_ok h).1 hw [] (by intro c hc; cases hc)
  rwa [List.append_nil] at this
theorem rvs_txt {v : Val} (h : fine v = true) (hw : Wf v) : rvs (txt v) = (v, 0) := by
  have h1 := fine_len h
  unfold rvs
  rw [if_neg (by omega), scV_fine h hw, if_pos ⟨rfl, rfl, h, rfl⟩]
theorem rvs_inv {s : Bytes} (h : (rvs s).2 = 0) : fine (rvs s).1 = true ∧ txt (rvs s).1 = s ∧ Wf (rvs s).1 := by
  unfold rvs at h ⊢
  split
  · rename_i h1; rw [if_pos h1] at h; cases h
  · rename_i h1
    rw [if_neg h1] at h
    split
    · rename_i h2; exact ⟨h2.2.2.1, h2.2.2.2, scV_wf _ _⟩
    · rename_i h2; rw [if_neg h2] at h; cases h
noncomputable def sameV (v w : Val) : Bool := @decide (v = w) (Classical.propDecidable _)
theorem sameV_true {v w : Val} : sameV v w = true ↔ v = w := by unfold sameV; simp
theorem sameV_false {v w : Val} : sameV v w = false ↔ v ≠ w := by
  rw [← Bool.not_eq_true, sameV_true]
end Go.AM

namespace Go.AM
open Go
theorem bv_split {x m c : BitVec 64} (h : x &&& ~~~m = c) : x = c ||| (x &&& m) := by
  subst h
  apply BitVec.eq_of_getLsbD_eq
  intro i hi
  simp only [BitVec.getLsbD_or, BitVec.getLsbD_and, BitVec.getLsbD_not, hi, decide_true, Bool.true_and]
  cases x.getLsbD i <;> cases m.getLsbD i <;> rfl
theorem bv_two (x : BitVec 64) (i : Nat) : x &&& BitVec.twoPow 64 i = BitVec.twoPow 64 i ∨ x &&& BitVec.twoPow 64 i = 0#64 := by
  rw [BitVec.and_twoPow]
  split
  · exact .inl rfl
  · exact .inr rfl
theorem wrap_toNat (x : BitVec 64) : IntKind.u64.wrap (x.toNat : Int) = (x.toNat : Int) := wr_u64_nat x.isLt
theorem ofInt_toNat {f : Int} (h : 0 ≤ f ∧ f < 18446744073709551616) : f = ((BitVec.ofInt 64 f).toNat : Int) := by
  rw [BitVec.toNat_ofInt]; omega
theorem flag2 {f : Int} (h : 0 ≤ f ∧ f < 18446744073709551616) : bAndNot .u64 f 4 = 2 ↔ f = 2 ∨ f = 6 := by
  constructor
  · intro h1
    have h1 : IntKind.u64.wrap ((BitVec.ofInt 64 f &&& ~~~(BitVec.ofInt 64 4)).toNat : Int) = 2 := h1
    rw [wrap_toNat] at h1
    have h2 : BitVec.ofInt 64 f &&& ~~~(BitVec.ofInt 64 4) = 2#64 := BitVec.eq_of_toNat_eq (by rw [show (2#64).toNat = 2 from rfl]; omega)
    have h3 := bv_split h2
    rw [show BitVec.ofInt 64 4 = BitVec.twoPow 64 2 from by decide] at h3
    rcases bv_two (BitVec.ofInt 64 f) 2 with h4 | h4 <;> rw [h4] at h3 <;> have h5 := ofInt_toNat h <;> rw [h3] at h5
    · exact .inr h5
    · exact .inl h5
  · rintro (rfl | rfl) <;> decide
theorem flag0 {f : Int} (h : 0 ≤ f ∧ f < 18446744073709551616) : bAndNot .u64 f 5 = 0 ↔ f = 0 ∨ f = 1 ∨ f = 4 ∨ f = 5 := by
  constructor
  · intro h1
    have h1 : IntKind.u64.wrap ((BitVec.ofInt 64 f &&& ~~~(BitVec.ofInt 64 5)).toNat : Int) = 0 := h1
    rw [wrap_toNat] at h1
    have h2 : BitVec.ofInt 64 f &&& ~~~(BitVec.ofInt 64 5) = 0#64 := BitVec.eq_of_toNat_eq (by rw [show (0#64).toNat = 0 from rfl]; omega)
    have h3 := bv_split h2
    have e : BitVec.ofInt 64 f &&& BitVec.ofInt 64 5 = (BitVec.ofInt 64 f &&& BitVec.twoPow 64 2) ||| (BitVec.ofInt 64 f &&& BitVec.twoPow 64 0) := by
      rw [show BitVec.ofInt 64 5 = BitVec.twoPow 64 2 ||| BitVec.twoPow 64 0 from by decide]
      apply BitVec.eq_of_getLsbD_eq
      intro i hi
      simp only [BitVec.getLsbD_or, BitVec.getLsbD_and]
      cases (BitVec.ofInt 64 f).getLsbD i <;> rfl
    rw [e] at h3
    have h5 := ofInt_toNat h
    rcases bv_two (BitVec.ofInt 64 f) 2 with h4 | h4 <;> rcases bv_two (BitVec.ofInt 64 f) 0 with h6 | h6 <;> rw [h4, h6] at h3 <;> rw [h3] at h5
    · exact .inr (.inr (.inr h5))
    · exact .inr (.inr (.inl h5))
    · exact .inr (.inl h5)
    · exact .inl h5
  · rintro (rfl | rfl | rfl | rfl) <;> decide
def tExit : Bytes := [101, 120, 105, 116]
def tPan : Bytes := [112, 97, 110, 105, 99, 32]
def tRec : Bytes := [32, 114, 101, 99, 111, 118, 101, 114, 101, 100]
def tAb : Bytes := [32, 97, 98, 111, 114, 116, 101, 100]
def tF1 : Bytes := [102, 97, 117, 108, 116, 32, 49, 58, 32, 100, 105, 118, 105, 115, 105, 111, 110, 32, 98, 121, 32, 122, 101, 114, 111]
def tF2 : Bytes := [102, 97, 117, 108, 116, 32, 50, 58, 32, 110, 105, 108, 32, 112, 111, 105, 110, 116, 101, 114]
def tF3 : Bytes := [102, 97, 117, 108, 116, 32, 51, 58, 32, 111, 117, 116, 32, 111, 102, 32, 114, 97, 110, 103, 101]
def faultT (n : Int) : Bytes := if n = 1 then tF1 else if n = 2 then tF2 else if n = 3 then tF3 else []
def kindT (t : Int) : Int := if t = 1 then 2 else if t = 2 then 1 else if t = 3 then 3 else if t = 4 then 2 else 0
structure WfP (p : Pan) : Prop where
  t : 0 ≤ p.tag ∧ p.tag < 18446744073709551616
  v : Wf p.value
  f : 0 ≤ p.flags ∧ p.flags < 18446744073709551616
def isZ (v : Val) : Bool := decide (v.kind = 0) && decide (v.int = 0) && decide (v.text = []) && decide (v.list.length = 0) && !v.cut
theorem isZ_true {v : Val} : isZ v = true ↔ v = vz := by
  unfold isZ
  simp only [Bool.and_eq_true, decide_eq_true_eq, Bool.not_eq_true', and_assoc, List.length_eq_zero_iff]
  cases v with
  | mk k n s l c => simp
def okP (p : Pan) : Bool := decide (p.tag ≤ 4) && decide (p.value.kind = kindT p.tag) && (if p.tag = 0 then isZ p.value && decide (p.flags = 2 ∨ p.flags = 6)
  else decide (p.flags = 0 ∨ p.flags = 1 ∨ p.flags = 4 ∨ p.flags = 5) && decide (p.tag = 4 → 1 ≤ p.value.int ∧ p.value.int ≤ 3) && fine p.value)
def chkP (p : Pan) : Int := if okP p = true then 0 else 8
def baseP (p : Pan) : Bytes := if p.tag = 0 then tExit else if p.tag = 4 then faultT p.value.int else tPan ++ txt p.value
def sufP (f : Int) : Bytes := (if f % 2 = 1 then tRec else []) ++ (if 4 ≤ f then tAb else [])
def shown (p : Pan) : Bytes := baseP p ++ sufP p.flags
def lnP (p : Pan) : Bytes × Int := if okP p = true then (shown p, 0) else ([], 8)
def pz : Pan := ⟨0, vz, 0⟩
def cuts (p s : Bytes) : Bytes × Bool := if p.length ≤ s.length ∧ s.drop (s.length - p.length) = p then (s.take (s.length - p.length), true) else (s, false)
theorem cuts_app (p s : Bytes) : cuts p (s ++ p) = (s, true) := by
  unfold cuts
  rw [if_pos ⟨by simp, by simp⟩]
  simp
theorem cuts_yes {p s : Bytes} (h : (cuts p s).2 = true) : s = (cuts p s).1 ++ p := by
  unfold cuts at h ⊢
  split
  · rename_i h1
    have := List.take_append_drop (s.length - p.length) s
    rw [h1.2] at this
    exact this.symm
  · rename_i h1; rw [if_neg h1] at h; cases h
theorem cuts_no {p s : Bytes} (h : (cuts p s).2 = false) : (cuts p s).1 = s := by
  unfold cuts at h ⊢
  split
  · rename_i h1; rw [if_pos h1] at h; cases h
  · rfl
theorem cuts_last {p s : Bytes} {c d : UInt8} (hs : s.getLast? = some c) (hp : p.getLast? = some d) (h : c ≠ d) : cuts p s = (s, false) := by
  unfold cuts
  rw [if_neg]
  rintro ⟨h1, h2⟩
  have h3 : s.getLast? = p.getLast? := by
    rw [← List.take_append_drop (s.length - p.length) s, h2, List.getLast?_append, hp]; rfl
  rw [hs, hp] at h3
  injection h3 with h3
  exact h h3
def coreP (s : Bytes) : Option Pan := if s = tExit then some ⟨0, vz, 2⟩ else if s = tF1 then some ⟨4, Val.mk 2 1 [] [] false, 0⟩ else if s = tF2 then some ⟨4, Val.mk 2 2 [] [] false, 0⟩ else if s = tF3 then some ⟨4, Val.mk 2 3 [] [] false, 0⟩ else
  if (cutp tPan s).2 = false then none else
  if (rvs (cutp tPan s).1).2 ≠ 0 then none else
  let v := (rvs (cutp tPan s).1).1
  if v.kind = 2 then some ⟨1, v, 0⟩ else if v.kind = 1 then some ⟨2, v, 0⟩ else if v.kind = 3 then some ⟨3, v, 0⟩ else none
def rlP (s : Bytes) : Pan × Int := if 2000 < s.length then (pz, 4) else
  let a := cuts tAb s
  let r := cuts tRec a.1
  match coreP r.1 with
  | none => (pz, 12)
  | some p => let q : Pan := ⟨p.tag, p.value, p.flags + (if r.2 = true then 1 else 0) + (if a.2 = true then 4 else 0)⟩
    if okP q = true then (q, 0) else (pz, 12)
end Go.AM

namespace Go.AM
open Go
theorem cuts_long {p q b : Bytes} (h : p.length ≤ q.length) : cuts p (b ++ q) = (b ++ (cuts p q).1, (cuts p q).2) := by
  have e : (b ++ q).length - p.length = b.length + (q.length - p.length) := by simp; omega
  unfold cuts
  rw [e, List.drop_append, List.take_append]
  rw [List.drop_of_length_le (by omega), List.take_of_length_le (by omega), List.nil_append, show b.length + (q.length - p.length) - b.length = q.length - p.length by omega]
  by_cases h1 : q.drop (q.length - p.length) = p
  · rw [if_pos ⟨by simp; omega, h1⟩, if_pos ⟨h, h1⟩]
  · rw [if_neg fun h2 => h1 h2.2, if_neg fun h2 => h1 h2.2]
theorem vNum_eq {v : Val} (h : fine v = true) (hk : v.kind = 2) : v = Val.mk 2 v.int [] [] false := by
  have h1 := okv_head (fine_ok h).1
  cases v with
  | mk k n s l c =>
    simp only [Val.okh, Okh, Val.kind_mk, Val.int_mk, Val.text_mk, Val.list_mk, Val.cut_mk] at h1 hk ⊢
    subst hk
    have hl := len0 (l := l) (by omega)
    have hs := len0 (l := s) (by omega)
    subst hl; subst hs
    cases c with
    | false => rfl
    | true => simp at h1
theorem num_last (n : Int) : ∃ b c, num n = b ++ [c] ∧ c ≠ 100 := by
  have key : ∀ m : Nat, ∃ b c, digs 10 m = b ++ [c] ∧ c ≠ 100 := by
    intro m
    obtain ⟨b, c, h⟩ : ∃ b c, digs 10 m = b ++ [c] := by
      have h := digs_ne 10 m
      exact ⟨_, _, (List.dropLast_concat_getLast h).symm⟩
    refine ⟨b, c, h, fun hc => ?_⟩
    have := ds_isD 64 m c (by rw [show ds 10 64 m = digs 10 m from rfl, h]; simp)
    rw [hc] at this
    exact absurd this (by decide)
  unfold num
  split
  · obtain ⟨b, c, h, hc⟩ := key (-n).toNat
    exact ⟨45 :: b, c, by rw [h]; rfl, hc⟩
  · exact key _
theorem base_last {p : Pan} (h : okP p = true) : ∃ b c, baseP p = b ++ [c] ∧ c ≠ 100 := by
  unfold okP at h
  simp only [Bool.and_eq_true, decide_eq_true_eq] at h
  obtain ⟨⟨h1, h2⟩, h3⟩ := h
  unfold baseP
  by_cases t0 : p.tag = 0
  · rw [if_pos t0]; exact ⟨[101, 120, 105], 116, rfl, by decide⟩
  rw [if_neg t0] at h3 ⊢
  simp only [Bool.and_eq_true, decide_eq_true_eq] at h3
  obtain ⟨⟨h4, h5⟩, h6⟩ := h3
  by_cases t4 : p.tag = 4
  · rw [if_pos t4]
    have := h5 t4
    rcases (show p.value.int = 1 ∨ p.value.int = 2 ∨ p.value.int = 3 by omega) with h | h | h <;> rw [h]
    · exact ⟨tF1.dropLast, 111, rfl, by decide⟩
    · exact ⟨tF2.dropLast, 114, rfl, by decide⟩
    · exact ⟨tF3.dropLast, 101, rfl, by decide⟩
  rw [if_neg t4]
  have hk : p.value.kind = 2 ∨ p.value.kind = 1 ∨ p.value.kind = 3 := by
    rw [h2]; unfold kindT
    by_cases a1 : p.tag = 1
    · rw [if_pos a1]; exact .inl rfl
    rw [if_neg a1]
    by_cases a2 : p.tag = 2
    · rw [if_pos a2]; exact .inr (.inl rfl)
    rw [if_neg a2]
    by_cases a3 : p.tag = 3
    · rw [if_pos a3]; exact .inr (.inr rfl)
    rw [if_neg a3, if_neg t4]
    have h0 := okv_head (fine_ok h6).1
    unfold Val.okh Okh at h0
    rw [h2] at h0
    unfold kindT at h0
    rw [if_neg a1, if_neg a2, if_neg a3, if_neg t4] at h0
    omega
  have add : ∀ {x : Bytes}, (∃ b c, x = b ++ [c] ∧ c ≠ (100 : UInt8)) → ∃ b c, tPan ++ x = b ++ [c] ∧ c ≠ (100 : UInt8) := fun ⟨b, c, h, hc⟩ => ⟨tPan ++ b, c, by rw [h]; simp, hc⟩
  apply add
  rw [txt_eq]
  rcases hk with h | h | h <;> rw [h]
  · exact num_last _
  · rw [if_pos rfl]
    split
    · exact ⟨[116, 114, 117], 101, rfl, by decide⟩
    · exact ⟨[102, 97, 108, 115], 101, rfl, by decide⟩
  · exact ⟨34 :: chrs p.value.text, 34, rfl, by decide⟩
theorem okP_flags {p : Pan} (h : okP p = true) : (p.tag = 0 ∧ p.value = vz ∧ (p.flags = 2 ∨ p.flags = 6)) ∨ (p.tag ≠ 0 ∧ fine p.value = true ∧ (p.flags = 0 ∨ p.flags = 1 ∨ p.flags = 4 ∨ p.flags = 5)) := by
  unfold okP at h
  simp only [Bool.and_eq_true, decide_eq_true_eq] at h
  obtain ⟨⟨h1, h2⟩, h3⟩ := h
  by_cases t0 : p.tag = 0
  · rw [if_pos t0] at h3
    simp only [Bool.and_eq_true, decide_eq_true_eq] at h3
    exact .inl ⟨t0, isZ_true.1 h3.1, h3.2⟩
  · rw [if_neg t0] at h3
    simp only [Bool.and_eq_true, decide_eq_true_eq] at h3
    exact .inr ⟨t0, h3.2, h3.1.1⟩
theorem cut_shown {p : Pan} (h : okP p = true) : (cuts tAb (shown p)).2 = decide (4 ≤ p.flags) ∧ cuts tRec (cuts tAb (shown p)).1 = (baseP p, decide (p.flags % 2 = 1)) := by
  obtain ⟨b, c, hb, hc⟩ := base_last h
  have a1 : cuts tAb (baseP p) = (baseP p, false) := cuts_last (c := c) (d := 100) (by rw [hb]; simp) rfl hc
  have a2 : cuts tRec (baseP p) = (baseP p, false) := cuts_last (c := c) (d := 100) (by rw [hb]; simp) rfl hc
  have a3 : cuts tAb (baseP p ++ tRec) = (baseP p ++ tRec, false) := by rw [cuts_long (by decide)]; rfl
  have hf : p.flags = 0 ∨ p.flags = 1 ∨ p.flags = 2 ∨ p.flags = 4 ∨ p.flags = 5 ∨ p.flags = 6 := by rcases okP_flags h with ⟨_, _, h⟩ | ⟨_, _, h⟩ <;> omega
  unfold shown sufP
  rcases hf with h | h | h | h | h | h <;> rw [h]
  · rw [show baseP p ++ ((if (0 : Int) % 2 = 1 then tRec else []) ++ (if (4 : Int) ≤ 0 then tAb else [])) = baseP p by simp, a1]; exact ⟨rfl, a2⟩
  · rw [show baseP p ++ ((if (1 : Int) % 2 = 1 then tRec else []) ++ (if (4 : Int) ≤ 1 then tAb else [])) = baseP p ++ tRec by simp, a3]; exact ⟨rfl, cuts_app _ _⟩
  · rw [show baseP p ++ ((if (2 : Int) % 2 = 1 then tRec else []) ++ (if (4 : Int) ≤ 2 then tAb else [])) = baseP p by simp, a1]; exact ⟨rfl, a2⟩
  · rw [show baseP p ++ ((if (4 : Int) % 2 = 1 then tRec else []) ++ (if (4 : Int) ≤ 4 then tAb else [])) = baseP p ++ tAb by simp, cuts_app]; exact ⟨rfl, a2⟩
  · rw [show baseP p ++ ((if (5 : Int) % 2 = 1 then tRec else []) ++ (if (4 : Int) ≤ 5 then tAb else [])) = (baseP p ++ tRec) ++ tAb by simp, cuts_app]; exact ⟨rfl, cuts_app _ _⟩
  · rw [show baseP p ++ ((if (6 : Int) % 2 = 1 then tRec else []) ++ (if (4 : Int) ≤ 6 then tAb else [])) = baseP p ++ tAb by simp, cuts_app]; exact ⟨rfl, a2⟩
theorem core_base {p : Pan} (h : okP p = true) (hw : Wf p.value) : coreP (baseP p) = some ⟨p.tag, p.value, if p.tag = 0 then 2 else 0⟩ := by
  have h0 := okP_flags h
  unfold okP at h
  simp only [Bool.and_eq_true, decide_eq_true_eq] at h
  obtain ⟨⟨h1, h2⟩, h3⟩ := h
  obtain ⟨t, v, f⟩ := p
  simp only at h0 h1 h2 h3 hw ⊢
  unfold baseP
  rcases h0 with ⟨rfl, rfl, _⟩ | ⟨t0, hf, _⟩
  · rfl
  rw [if_neg t0] at h3
  simp only [Bool.and_eq_true, decide_eq_true_eq] at h3
  obtain ⟨⟨h4, h5⟩, h6⟩ := h3
  simp only
  rw [if_neg t0]
  by_cases t4 : t = 4
  · subst t4
    have hv := vNum_eq hf h2
    have := h5 rfl
    rw [if_pos rfl]
    rcases (show v.int = 1 ∨ v.int = 2 ∨ v.int = 3 by omega) with h | h | h <;> rw [h] at hv <;> rw [hv] <;> rfl
  rw [if_neg t4, if_neg t0]
  have ne : ∀ {x : Bytes} {c : UInt8} {r : Bytes}, x = c :: r → c ≠ 112 → tPan ++ txt v ≠ x := fun hx hc e => by
    rw [hx] at e
    injection e with e
    exact hc e.symm
  unfold coreP
  rw [if_neg (ne (x := tExit) (c := 101) rfl (by decide)), if_neg (ne (x := tF1) (c := 102) rfl (by decide)), if_neg (ne (x := tF2) (c := 102) rfl (by decide)), if_neg (ne (x := tF3) (c := 102) rfl (by decide)), cutp_app, if_neg (show ¬(true = false) by decide), rvs_txt hf hw, if_neg (show ¬((0 : Int) ≠ 0) by decide)]
  simp only
  unfold kindT at h2
  by_cases a1 : t = 1
  · subst a1
    rw [if_pos rfl] at h2
    rw [if_pos h2]
  rw [if_neg a1] at h2
  by_cases a2 : t = 2
  · subst a2
    rw [if_pos rfl] at h2
    rw [if_neg (by omega), if_pos h2]
  rw [if_neg a2] at h2
  by_cases a3 : t = 3
  · subst a3
    rw [if_pos rfl] at h2
    rw [if_neg (by omega), if_neg (by omega), if_pos h2]
  rw [if_neg a3, if_neg t4] at h2
  have h7 := okv_head (fine_ok hf).1
  unfold Val.okh Okh at h7
  omega
theorem txt_small {v : Val} (h : fine v = true) (hk : v.kind = 1 ∨ v.kind = 2 ∨ v.kind = 3) : (txt v).length ≤ 300 := by
  have h7 := okv_head (fine_ok h).1
  unfold Val.okh Okh at h7
  have h8 := num_len v.int
  have h9 := quo_len v.text
  rw [txt_eq]
  rcases hk with h | h | h <;> rw [h]
  · rw [if_pos rfl]; split <;> decide
  · show (num v.int).length ≤ 300; omega
  · show (quo v.text).length ≤ 300; omega
theorem okP_kind {p : Pan} (h : okP p = true) (h0 : p.tag ≠ 0) : p.value.kind = 1 ∨ p.value.kind = 2 ∨ p.value.kind = 3 := by
  have hf : fine p.value = true := by rcases okP_flags h with h | h; exact absurd h.1 h0; exact h.2.1
  unfold okP at h
  simp only [Bool.and_eq_true, decide_eq_true_eq] at h
  have h2 := h.1.2
  have h7 := okv_head (fine_ok hf).1
  unfold Val.okh Okh at h7
  unfold kindT at h2
  repeat' split at h2
  all_goals omega
theorem shown_len {p : Pan} (h : okP p = true) : (shown p).length ≤ 400 := by
  have hs : (sufP p.flags).length ≤ 18 := by unfold sufP; split <;> split <;> decide
  have hb : (baseP p).length ≤ 310 := by
    unfold baseP
    by_cases t0 : p.tag = 0
    · rw [if_pos t0]; decide
    rw [if_neg t0]
    split
    · unfold faultT; repeat' split
      all_goals decide
    · have hf : fine p.value = true := by rcases okP_flags h with h | h; exact absurd h.1 t0; exact h.2.1
      have := txt_small hf (okP_kind h t0)
      rw [List.length_append, show tPan.length = 6 from rfl]; omega
  unfold shown
  rw [List.length_append]; omega
theorem rlP_shown {p : Pan} (h : okP p = true) (hw : Wf p.value) : rlP (shown p) = (p, 0) := by
  have h1 := shown_len h
  obtain ⟨h2, h3⟩ := cut_shown h
  have h4 := core_base h hw
  unfold rlP
  rw [if_neg (by omega)]
  simp only [h2, h3]
  rw [h4]
  simp only
  have e : (if p.tag = 0 then (2 : Int) else 0) + (if decide (p.flags % 2 = 1) = true then 1 else 0) + (if decide (4 ≤ p.flags) = true then 4 else 0) = p.flags := by
    simp only [decide_eq_true_eq]
    rcases okP_flags h with ⟨a, _, b⟩ | ⟨a, _, b⟩
    · rw [if_pos a]; rcases b with b | b <;> rw [b] <;> decide
    · rw [if_neg a]; rcases b with b | b | b | b <;> rw [b] <;> decide
  rw [e, if_pos (show okP ⟨p.tag, p.value, p.flags⟩ = true from h)]
theorem core_wf {s : Bytes} {p : Pan} (h : coreP s = some p) : Wf p.value ∧ (p.flags = 0 ∨ p.flags = 2) ∧ 0 ≤ p.tag ∧ p.tag ≤ 4 ∧ baseP p = s := by
  have wn : ∀ n : Int, n = 1 ∨ n = 2 ∨ n = 3 → Wf (Val.mk 2 n [] [] false) := fun n hn => .mk (by decide) (by omega) (by decide) (by simp)
  unfold coreP at h
  by_cases h1 : s = tExit
  · rw [if_pos h1] at h; cases h; exact ⟨Wf.zero, .inr rfl, by decide, by decide, h1.symm⟩
  rw [if_neg h1] at h
  by_cases h2 : s = tF1
  · rw [if_pos h2] at h; cases h; exact ⟨wn 1 (by decide), .inl rfl, by decide, by decide, h2.symm⟩
  rw [if_neg h2] at h
  by_cases h3 : s = tF2
  · rw [if_pos h3] at h; cases h; exact ⟨wn 2 (by decide), .inl rfl, by decide, by decide, h3.symm⟩
  rw [if_neg h3] at h
  by_cases h4 : s = tF3
  · rw [if_pos h4] at h; cases h; exact ⟨wn 3 (by decide), .inl rfl, by decide, by decide, h4.symm⟩
  rw [if_neg h4] at h
  by_cases h5 : (cutp tPan s).2 = false
  · rw [if_pos h5] at h; cases h
  rw [if_neg h5] at h
  by_cases h6 : (rvs (cutp tPan s).1).2 ≠ 0
  · rw [if_pos h6] at h; cases h
  rw [if_neg h6] at h
  have h5 : (cutp tPan s).2 = true := by simpa using h5
  obtain ⟨g1, g2, g3⟩ := rvs_inv (Decidable.not_not.1 h6)
  have es : tPan ++ txt (rvs (cutp tPan s).1).1 = s := by
    rw [g2]
    unfold cutp at h5 ⊢
    split at h5
    · rename_i h7
      have := List.take_append_drop tPan.length s
      rw [h7] at this
      rw [if_pos h7]
      exact this
    · cases h5
  simp only at h
  split at h
  · cases h; exact ⟨g3, .inl rfl, by simp only; decide, by simp only; decide, es⟩
  split at h
  · cases h; exact ⟨g3, .inl rfl, by simp only; decide, by simp only; decide, es⟩
  split at h
  · cases h; exact ⟨g3, .inl rfl, by simp only; decide, by simp only; decide, es⟩
  · cases h
theorem suf_add {f : Int} (hf : f = 0 ∨ f = 2) (r a : Bool) : sufP (f + (if r = true then 1 else 0) + (if a = true then 4 else 0)) = (if r = true then tRec else []) ++ (if a = true then tAb else []) := by
  rcases hf with rfl | rfl <;> cases r <;> cases a <;> rfl
theorem rlP_inv {s : Bytes} (h : (rlP s).2 = 0) : okP (rlP s).1 = true ∧ WfP (rlP s).1 ∧ shown (rlP s).1 = s ∧ s.length ≤ 2000 := by
  unfold rlP at h ⊢
  by_cases hl : 2000 < s.length
  · rw [if_pos hl] at h; cases h
  rw [if_neg hl] at h ⊢
  simp only at h ⊢
  have ha1 := @cuts_yes tAb s
  have ha2 := @cuts_no tAb s
  generalize cuts tAb s = a at h ha1 ha2 ⊢
  have hr1 := @cuts_yes tRec a.1
  have hr2 := @cuts_no tRec a.1
  generalize cuts tRec a.1 = r at h hr1 hr2 ⊢
  cases hc : coreP r.1 with
  | none => rw [hc] at h; cases h
  | some p =>
    rw [hc] at h
    simp only at h ⊢
    obtain ⟨g1, g2, g3, g3', g4⟩ := core_wf hc
    by_cases ho : okP ⟨p.tag, p.value, p.flags + (if r.2 = true then 1 else 0) + (if a.2 = true then 4 else 0)⟩ = true
    · rw [if_pos ho]
      refine ⟨ho, ⟨⟨g3, by simp only; omega⟩, g1, ?_⟩, ?_, by omega⟩
      · simp only; constructor <;> (split <;> split <;> omega)
      · have e : baseP ⟨p.tag, p.value, p.flags + (if r.2 = true then 1 else 0) + (if a.2 = true then 4 else 0)⟩ = r.1 := g4
        unfold shown
        rw [e]
        simp only
        rw [suf_add g2]
        cases hr : r.2 with
        | true =>
          cases ha : a.2 with
          | true => rw [ha1 ha, hr1 hr]; simp
          | false => rw [← ha2 ha, hr1 hr]; simp
        | false =>
          cases ha : a.2 with
          | true => rw [ha1 ha, ← hr2 hr]; simp
          | false => rw [← ha2 ha, ← hr2 hr]; simp
    · rw [if_neg ho] at h; cases h
end Go.AM

namespace Go.AM
open Go
structure Has38 (prog : Prog) : Prop extends Has03 prog, HasB prog where
  f71 : prog.fn 71 = some pf71
  f72 : prog.fn 72 = some pf72
  f74 : prog.fn 74 = some pf74
  f76 : prog.fn 76 = some pf76
  f77 : prog.fn 77 = some pf77
  f78 : prog.fn 78 = some pf78
  f102 : prog.fn 102 = some pf102
  f103 : prog.fn 103 = some pf103
  f104 : prog.fn 104 = some pf104
  f107 : prog.fn 107 = some pf107
  f109 : prog.fn 109 = some pf109
  f110 : prog.fn 110 = some pf110
  f128 : prog.fn 128 = some pf128
  f129 : prog.fn 129 = some pf129
  f130 : prog.fn 130 = some pf130
  f131 : prog.fn 131 = some pf131
  f136 : prog.fn 136 = some pf136
section
variable {prog : Prog} (H : Has38 prog)
include H
theorem c136 (v : Val) : Pus prog 136 [v.av] (.b (decide (v.list.length = 0 ∧ v.cut = false))) := by
  obtain ⟨x, rfl, h⟩ := p136 H.f136 (v0 := v) (K := fun x => x = decide (v.list.length = 0 ∧ v.cut = false)) (by
    unfold T136_0
    refine ⟨fun h => ?_, fun h => ?_⟩
    · cases v.cut
      · exact (decide_eq_true ⟨by omega, rfl⟩).symm
      · exact (decide_eq_false (by rintro ⟨_, h⟩; cases h)).symm
    · exact (decide_eq_false (by rintro ⟨h1, _⟩; omega)).symm)
  exact h
theorem c102 : ∀ (d : Nat) {v : Val}, Wf v → d ≤ 1000 → Pus prog 102 [v.av, .i .i64 (d : Int)] (.b (deepv d v))
  | 0, v, hw, hd => by
    obtain ⟨x, rfl, h⟩ := p102 H.f102 (v0 := v) (most1 := ((0 : Nat) : Int)) (K := fun x => x = deepv 0 v) (by
      unfold T102_0
      exact ⟨fun _ => rfl, fun h => absurd rfl h⟩)
    exact h
  | d + 1, v, hw, hd => by
    have ih := @c102 d
    obtain ⟨x, rfl, h⟩ := p102 H.f102 (v0 := v) (most1 := ((d + 1 : Nat) : Int)) (K := fun x => x = deepv (d + 1) v) (by
      have hm : IntKind.i64.wrap (((d + 1 : Nat) : Int) - 1) = (d : Int) := by rw [wr_i64 (by omega) (by omega)]; omega
      unfold T102_0
      refine ⟨fun h => absurd h (by omega), fun _ => ⟨fun h => ?_, fun h1 => ⟨fun h => ?_, fun h2 P hP => ?_⟩⟩⟩
      · rw [deepv, decide_eq_true (show 100 < v.text.length by omega)]; rfl
      · rw [deepv, decide_eq_true (show 400 < v.list.length by omega), Bool.or_true]; rfl
      · have e : deepv (d + 1) v = v.list.any (deepv d) := by
          rw [deepv, decide_eq_false (by omega), decide_eq_false (by omega)]; rfl
        refine loop_inv (P := fun _ i => P i v) (fun _ => ()) v.list.length (fun i => (v.list.take i).any (deepv d) = false) (by simp) (fun hI => ?_) (fun i hi hI ihP => ?_)
        · apply hP
          unfold T102_1 T102_2
          refine ⟨fun h => absurd h (by omega), fun _ => ?_⟩
          rw [List.take_length] at hI
          rw [e, hI]
        · apply hP
          unfold T102_1
          refine ⟨fun _ => ⟨by omega, _, get_at hi, _, by rw [hm]; exact ih (hw.e _ (List.getElem_mem hi)) (by omega), fun h3 => ?_, fun h3 => ?_⟩, fun h => absurd (show (i : Int) < v.list.length by omega) h⟩
          · rw [e]
            exact (List.any_eq_true.2 ⟨_, List.getElem_mem hi, h3⟩).symm
          · rw [wr_succ (by omega)]
            refine ihP ?_
            rw [List.take_succ_eq_append_getElem hi, List.any_append, hI]
            simpa using h3)
    exact h
omit H in
theorem rNs_snoc {l : List Val} {i n : Nat} (hi : i < l.length) (hn : rNs (l.take i) n ≤ 5000) : rNs (l.take (i + 1)) n = rNs (l.take i) n + rN l[i] := by
  have key : ∀ (l : List Val) (v : Val) (n : Nat), rNs l n ≤ 5000 → rNs (l ++ [v]) n = rNs l n + rN v := by
    intro l
    induction l with
    | nil => intro v n h; rw [rNs] at h; simp [rNs, h]
    | cons w l ih =>
      intro v n h
      rw [rNs] at h
      by_cases hn : n ≤ 5000
      · rw [if_pos hn] at h
        simp only [List.cons_append, rNs, if_pos hn]
        exact ih v _ h
      · rw [if_neg hn] at h
        exact absurd h hn
  rw [List.take_succ_eq_append_getElem hi, key _ _ _ hn]
omit H in
theorem rNs_stop {l : List Val} {i n : Nat} (h : 5000 < rNs (l.take i) n) : rNs l n = rNs (l.take i) n := by
  have key : ∀ (l m : List Val) (n : Nat), 5000 < rNs l n → rNs (l ++ m) n = rNs l n := by
    intro l
    induction l with
    | nil =>
      intro m n h
      rw [rNs] at h
      cases m with
      | nil => rfl
      | cons w m => simp only [List.nil_append, rNs]; rw [if_neg (by omega)]
    | cons w l ih =>
      intro m n h
      rw [rNs] at h
      simp only [List.cons_append, rNs]
      split
      · rename_i hn; rw [if_pos hn] at h; exact ih m _ h
      · rfl
  have := key (l.take i) (l.drop i) n h
  rwa [List.take_append_drop] at this
theorem c103 : ∀ (d : Nat) {v : Val}, Sm d v → d ≤ 1000 → Pus prog 103 [v.av] (.i .i64 (rN v : Int))
  | 0, v, hs, hd => hs.elim
  | d + 1, v, hs, hd => by
    have ih := @c103 d
    obtain ⟨x, rfl, h⟩ := p103 H.f103 (v0 := v) (K := fun x => x = (rN v : Int)) (by
      unfold T103_0
      intro P hP
      have e := rN_eq v
      refine loop_inv (P := fun n i => P n i v) (fun i => (rNs (v.list.take i) 1 : Int)) v.list.length (fun _ => True) trivial (fun _ => ?_) (fun i hi _ ihP => ?_)
      · apply hP
        unfold T103_1 T103_2
        refine ⟨fun h => absurd h (by omega), fun _ => ?_⟩
        rw [List.take_length, e]
      · apply hP
        unfold T103_1 T103_2
        refine ⟨fun _ => ⟨fun h => ⟨by omega, _, get_at hi, _, ih (hs.2 _ (List.getElem_mem hi)) (by omega), ?_⟩, fun h => ?_⟩, fun h => absurd (show (i : Int) < v.list.length by omega) h⟩
        · have h1 := rN_le (hs.2 _ (List.getElem_mem hi))
          have h2 := hs.1
          have h3 := rNs_snoc (l := v.list) (n := 1) hi (by omega)
          have := ihP trivial
          rw [h3] at this
          rw [wr_i64 (by omega) (by omega), wr_succ (by omega)]
          simpa using this
        · rw [e, rNs_stop (i := i) (by omega)])
    exact h
theorem c71 {v : Val} (hw : Wf v) : Pus prog 71 [v.av] (.b (greatv v)) := by
  obtain ⟨x, rfl, h⟩ := p71 H.f71 (v0 := v) (K := fun x => x = greatv v) (by
    unfold T71_0 greatv
    refine ⟨_, c102 H 14 hw (by decide), fun h => by rw [h]; rfl, fun h => ⟨_, c103 H 14 (deepv_sm h) (by decide), ?_⟩⟩
    rw [h, Bool.false_or]
    exact decide_eq_decide.2 (by omega))
  exact h
end
end Go.AM

namespace Go.AM
open Go
theorem bAnd1 (n : Int) : bAnd .i64 n 1 = n % 2 := by
  unfold bAnd
  have h1 : (BitVec.ofInt IntKind.i64.bits n &&& BitVec.ofInt IntKind.i64.bits 1).toNat = (n % 2).toNat := by
    show (BitVec.ofInt 64 n &&& BitVec.ofInt 64 1).toNat = _
    rw [BitVec.toNat_and]
    have h2 : (BitVec.ofInt 64 1).toNat = 2 ^ 1 - 1 := by decide
    rw [h2, Nat.and_two_pow_sub_one_eq_mod, BitVec.toNat_ofInt]
    omega
  rw [h1, wr_i64 (by omega) (by omega)]
  omega
theorem cut_cases (v : Val) : (v.cut = true ∧ v.cut.toNat = 1) ∨ (v.cut = false ∧ v.cut.toNat = 0) := by cases v.cut <;> simp
theorem okv_succ (d : Nat) (v : Val) : okv (d + 1) v = (decide v.okh && v.list.all (okv d)) := rfl
theorem okv_no {d : Nat} {v : Val} (h : ¬v.okh) : okv (d + 1) v = false := by rw [okv_succ, decide_eq_false h]; rfl
theorem okv_yes {d : Nat} {v : Val} (h : v.okh) : okv (d + 1) v = v.list.all (okv d) := by rw [okv_succ, decide_eq_true h]; rfl
theorem okv_leaf {d : Nat} {v : Val} (h : v.list.length = 0) (p : Prop) [Decidable p] (hp : p ↔ v.okh) : decide p = okv (d + 1) v := by
  rw [okv_succ, decide_eq_decide.2 hp, show v.list.all (okv d) = true by rw [len0 h]; rfl, Bool.and_true]
section
variable {prog : Prog} (H : Has38 prog)
include H
set_option maxHeartbeats 1000000 in
theorem c110 : ∀ (d : Nat) {v : Val}, Wf v → d ≤ 1000 → Pus prog 110 [v.av, .i .i64 (d : Int)] (.b (okv d v))
  | 0, v, hw, hd => by
    obtain ⟨x, rfl, h⟩ := p110 H.f110 (v0 := v) (deep1 := ((0 : Nat) : Int)) (K := fun x => x = okv 0 v) (by
      unfold T110_0 T110_1
      exact ⟨fun _ => rfl, fun h => absurd rfl h⟩)
    exact h
  | d + 1, v, hw, hd => by
    have ih := @c110 d
    obtain ⟨x, rfl, h⟩ := p110 H.f110 (v0 := v) (deep1 := ((d + 1 : Nat) : Int)) (K := fun x => x = okv (d + 1) v) (by
      have hm : IntKind.i64.wrap (((d + 1 : Nat) : Int) - 1) = (d : Int) := by rw [wr_i64 (by omega) (by omega)]; omega
      have ht : v.text = [] ↔ v.text.length = 0 := List.length_eq_zero_iff.symm
      have no : ¬v.okh → false = okv (d + 1) v := fun h => (okv_no h).symm
      have hl := hw.l
      have lp : v.okh → ∀ P : Int → Val → Prop, (∀ (i6 : Int) (m0 : Val), T110_8 prog (fun x => x = okv (d + 1) v) P ((d + 1 : Nat) : Int) i6 m0 → P i6 m0) → P 0 v := by
        intro ho P hP
        have e := okv_yes (d := d) ho
        refine loop_inv (P := fun _ i => P i v) (fun _ => ()) v.list.length (fun i => (v.list.take i).all (okv d) = true) (by simp) (fun hI => ?_) (fun i hi hI ihP => ?_)
        · apply hP
          unfold T110_8 T110_9
          refine ⟨fun h => absurd h (by omega), fun _ => ?_⟩
          rw [List.take_length] at hI
          rw [e, hI]
        · apply hP
          unfold T110_8
          refine ⟨fun _ => ⟨by omega, _, get_at hi, _, by rw [hm]; exact ih (hw.e _ (List.getElem_mem hi)) (by omega), fun h3 => ?_, fun h3 => ?_⟩, fun h => absurd (show (i : Int) < v.list.length by omega) h⟩
          · rw [e]
            refine (List.all_eq_false.2 ⟨_, List.getElem_mem hi, ?_⟩).symm
            simpa using h3
          · rw [wr_i64 (by omega) (by omega)]
            refine ihP ?_
            rw [List.take_succ_eq_append_getElem hi, List.all_append, hI]
            simpa using h3
      have leaf : v.list.length = 0 → ∀ (p : Prop) [Decidable p], (p ↔ v.okh) → decide p = okv (d + 1) v := fun h p _ hp => okv_leaf h p hp
      have leafT : v.list.length = 0 → v.okh → true = okv (d + 1) v := fun h hp => by rw [← leaf h True (by simpa using hp)]; simp
      unfold T110_0 T110_1 T110_2 T110_3 T110_4 T110_5 T110_6 T110_7
      simp only [ht, ne_eq]
      refine ⟨fun h => absurd h (by omega), fun _ => ?_⟩
      rcases cut_cases v with ⟨hc, hcn⟩ | ⟨hc, hcn⟩
      all_goals
        refine ⟨fun _ => ⟨_, c136 H v, ?_, ?_⟩, fun _ => ⟨fun _ => ⟨_, c136 H v, ?_, ?_⟩, fun _ => ⟨fun _ => ⟨_, c136 H v, ?_, ?_⟩, ?_⟩⟩⟩
      all_goals simp only [hc, decide_eq_true_eq, decide_eq_false_iff_not, reduceCtorEq, false_imp_iff, true_imp_iff, and_true, true_and, and_false]
      all_goals repeat' first | refine ⟨fun _ => ?_, fun _ => ?_⟩ | (intro h)
      all_goals first
        | exact no (by unfold Val.okh Okh; omega)
        | exact leafT (by omega) (by unfold Val.okh Okh; omega)
        | exact leaf (by omega) _ (by unfold Val.okh Okh; omega)
        | exact lp (by unfold Val.okh Okh; omega) _ ‹_›
        | (exfalso; omega))
    exact h
end
end Go.AM

namespace Go.AM
open Go
section
variable {prog : Prog} (H : Has38 prog)
include H
set_option maxHeartbeats 1000000 in
theorem c109 : ∀ (d : Nat) {v : Val}, Wf v → d ≤ 1000 → Pus prog 109 [v.av, .i .i64 (d : Int)] (.tup [.i .i64 (cntR d v).1, .b (cntR d v).2])
  | 0, v, hw, hd => by
    obtain ⟨x, y, ⟨rfl, rfl⟩, h⟩ := p109 H.f109 (v0 := v) (nest1 := ((0 : Nat) : Int)) (K := fun x y => x = (cntR 0 v).1 ∧ y = (cntR 0 v).2) (by
      unfold T109_0 T109_1 T109_2 T109_3 T109_4
      have : cntR 0 v = (0, false) := by unfold cntR; rw [if_neg (by rintro ⟨h, _⟩; cases h)]
      rw [this]
      repeat' first | exact ⟨rfl, rfl⟩ | refine ⟨fun _ => ?_, fun _ => ?_⟩ | (intro h)
      all_goals exact absurd rfl ‹¬((0 : Nat) : Int) = 0›)
    exact h
  | d + 1, v, hw, hd => by
    have ih := @c109 d
    obtain ⟨x, y, ⟨rfl, rfl⟩, h⟩ := p109 H.f109 (v0 := v) (nest1 := ((d + 1 : Nat) : Int)) (K := fun x y => x = (cntR (d + 1) v).1 ∧ y = (cntR (d + 1) v).2) (by
      have hm : IntKind.i64.wrap (((d + 1 : Nat) : Int) - 1) = (d : Int) := by rw [wr_i64 (by omega) (by omega)]; omega
      have ht : v.text = [] ↔ v.text.length = 0 := List.length_eq_zero_iff.symm
      have ht' : [] = v.text ↔ v.text.length = 0 := by rw [← ht]; exact eq_comm
      have cno : ¬(okv (d + 1) v = true ∧ v.nodes ≤ 5000) → cntR (d + 1) v = (0, false) := fun h => by unfold cntR; rw [if_neg h]
      have no : ¬v.okh → (0 : Int) = (cntR (d + 1) v).1 ∧ false = (cntR (d + 1) v).2 := fun h => by
        rw [cno (by rw [okv_no h]; rintro ⟨h, _⟩; cases h)]; exact ⟨rfl, rfl⟩
      have hl := hw.l
      have hn := nodes_eq v
      have lp : v.okh → ∀ P : Int → Int → Prop, (∀ (sum10 : Int) (t103 : Int), T109_5 prog (fun x y => x = (cntR (d + 1) v).1 ∧ y = (cntR (d + 1) v).2) P ((d + 1 : Nat) : Int) sum10 v.list (v.list.length : Int) t103 → P sum10 t103) → P 1 0 := by
        intro ho P hP
        have e := okv_yes (d := d) ho
        refine loop_inv (P := fun s i => P s i) (fun i => ((1 + Val.nodesL (v.list.take i) : Nat) : Int)) v.list.length (fun i => (v.list.take i).all (okv d) = true ∧ 1 + Val.nodesL (v.list.take i) ≤ 5000) (by simp [Val.nodesL]) (fun hI => ?_) (fun i hi hI ihP => ?_)
        · apply hP
          unfold T109_5 T109_6
          refine ⟨fun h => absurd h (by omega), fun _ => ?_⟩
          rw [List.take_length] at hI ⊢
          unfold cntR
          rw [if_pos ⟨by rw [e]; exact hI.1, by omega⟩, hn]
          exact ⟨rfl, rfl⟩
        · apply hP
          unfold T109_5
          have hnt := nodesL_take hi
          have hle := nodesL_le (l := v.list) (i + 1)
          refine ⟨fun _ => ⟨by omega, _, get_at hi, _, _, by rw [hm]; exact ih (hw.e _ (List.getElem_mem hi)) (by omega), ?_⟩, fun h => absurd (show (i : Int) < v.list.length by omega) h⟩
          by_cases hc : okv d v.list[i] = true ∧ v.list[i].nodes ≤ 5000
          · rw [show cntR d v.list[i] = ((v.list[i].nodes : Int), true) by unfold cntR; rw [if_pos hc]]
            refine ⟨fun h => (by cases h), fun _ => ⟨fun h => ?_, fun h => ?_⟩⟩
            · rw [wr_i64 (by omega) (by omega)] at h
              rw [cno (by omega)]
              exact ⟨rfl, rfl⟩
            · rw [wr_i64 (by omega) (by omega)] at h ⊢
              rw [wr_i64 (by omega) (by omega)]
              have := ihP ⟨by rw [List.take_succ_eq_append_getElem hi, List.all_append, hI.1]; simpa using hc.1, by omega⟩
              rw [hnt] at this
              rw [show ((1 + Val.nodesL (v.list.take i) : Nat) : Int) + (v.list[i].nodes : Int) = ((1 + (Val.nodesL (v.list.take i) + v.list[i].nodes) : Nat) : Int) by omega]
              exact this
          · rw [show cntR d v.list[i] = (0, false) by unfold cntR; rw [if_neg hc]]
            refine ⟨fun _ => ?_, fun h => (by cases h)⟩
            rw [cno (fun h => hc ⟨okv_sub h.1 _ (List.getElem_mem hi), by have := nodes_mem (List.getElem_mem hi); omega⟩)]
            exact ⟨rfl, rfl⟩
      unfold T109_0 T109_1 T109_2 T109_3 T109_4
      simp only [Val.int_mk, Val.text_mk, Val.cut_mk, Val.kind_mk, Val.list_mk, bAnd1, ht', ne_eq, not_true_eq_false, false_imp_iff, true_imp_iff, true_and, not_false_eq_true]
      rcases cut_cases v with ⟨hc, hcn⟩ | ⟨hc, hcn⟩
      all_goals simp only [hc, reduceCtorEq, false_imp_iff, true_imp_iff, not_true_eq_false, not_false_eq_true, true_and, and_true]
      all_goals repeat' first | refine ⟨fun _ => ?_, fun _ => ?_⟩ | (intro h)
      all_goals first
        | exact no (by unfold Val.okh Okh; omega)
        | exact lp (by unfold Val.okh Okh; omega) _ ‹_›
        | (exfalso; omega))
    exact h
theorem c76 {v : Val} (hw : Wf v) : Pus prog 76 [v.av] (.i .i64 (chkR v)) := by
  obtain ⟨x, rfl, h⟩ := p76 H.f76 (v0 := v) (K := fun x => x = chkR v) (by
    unfold T76_0 chkR
    refine ⟨_, _, c109 H 130 hw (by decide), ?_⟩
    unfold cntR fine
    by_cases h : okv 130 v = true ∧ v.nodes ≤ 5000
    · rw [if_pos h, if_pos (by simpa using h)]
      exact ⟨fun h => (by cases h), fun _ => rfl⟩
    · rw [if_neg h, if_neg (by simpa using h)]
      exact ⟨fun _ => rfl, fun h => (by cases h)⟩)
  exact h
theorem c77 {v : Val} (hw : Wf v) : Pus prog 77 [v.av] (.i .i64 (chkR v)) := by
  obtain ⟨x, rfl, h⟩ := p77 H.f77 (v0 := v) (K := fun x => x = chkR v) (by
    unfold T77_0 chkR fine
    refine ⟨_, c110 H 130 hw (by decide), fun h => ?_, fun h => ⟨_, c103 H 130 (okv_sm (by simpa using h)) (by decide), fun h1 => ?_, fun h1 => ?_⟩⟩
    · rw [show okv 130 v = false by simpa using h]; rfl
    · have h2 := rN_spec v
      rw [show okv 130 v = true by simpa using h, decide_eq_false (by omega)]; rfl
    · have h2 := rN_spec v
      rw [show okv 130 v = true by simpa using h, decide_eq_true (by omega)]; rfl)
  exact h
end
end Go.AM
