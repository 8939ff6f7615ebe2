/- Parts of the proof: U40a, U40b. -/
import Derived.Test.YtheacfnopahmjaaG2
set_option linter.all false
/- Parts of the proof. -/
namespace Go.AM
open Go
set_option linter.unusedVariables false
set_option linter.unusedSimpArgs false
set_option maxRecDepth 4000
attribute [local irreducible] WO fillCells fillRows
def r215_0:List AI:=[oO 0 (.alloc [.s [],.s [],.s [],.s [],.s [],.s [],.s [],.s [],.s []])]
def r215_1:List AI:=[oO 1 (.build [.s [],.s [],.s [],.s [],.s [],.s [],.s [],.s [],.s []] [(1,1,(.c (.s [110,111,114,109,97,108]))),(2,1,(.c (.s [112,97,110,105,99]))),(3,1,(.c (.s [100,101,97,100,108,111,99,107]))),(4,1,(.c (.s [115,116,97,99,107]))),(5,1,(.c (.s [104,101,97,112]))),(6,1,(.c (.s [114,111,117,116,105,110,101,115]))),(7,1,(.c (.s [115,116,101,112,115]))),(8,1,(.c (.s [115,99,114,105,112,116])))]),
 oS 9 0 1]
abbrev b215:AC:=(.seq (.reg 0 r215_0) (.seq (.reg 1 r215_1) .ret))
def pf215:AF:={ nt:=2,res:=[.cell 0 9 true],body:=b215 }
abbrev H215 (Q:AE→Sl→St→Prop)(K:List (List UInt8)→Prop):Prop:=∀(σ:Sl)(st:St)(k0:Key)(v0:Nat)(res0:List (List UInt8)),σ 0 = .p k0 v0 0→lk st.bx k0 = some (v0,List.map AV.s res0)→res0.length = 9→K res0→Q .ret σ st
def T215_0 (prog:Prog)(K:List (List UInt8)→Prop) :Prop:=
  K [[],([110,111,114,109,97,108]:List UInt8),([112,97,110,105,99]:List UInt8),([100,101,97,100,108,111,99,107]:List UInt8),([115,116,97,99,107]:List UInt8),([104,101,97,112]:List UInt8),([114,111,117,116,105,110,101,115]:List UInt8),([115,116,101,112,115]:List UInt8),([115,99,114,105,112,116]:List UInt8)]
section
variable {prog:Prog}{d:Nat}{Q:AE→Sl→St→Prop}{K:List (List UInt8)→Prop}(hQ:H215 Q K){σ:Sl}{st:St}
include hQ
theorem w215_0 (h:T215_0 prog K ):W prog d (.seq (.reg 0 r215_0) (.seq (.reg 1 r215_1) .ret)) σ st Q:=
 sq_ (W.reg (s_alloc (e_ (q_ rfl (s_buildM (f:=AV.s) (l:=[[],([110,111,114,109,97,108]:List UInt8),([112,97,110,105,99]:List UInt8),([100,101,97,100,108,111,99,107]:List UInt8),([115,116,97,99,107]:List UInt8),([104,101,97,112]:List UInt8),([114,111,117,116,105,110,101,115]:List UInt8),([115,116,101,112,115]:List UInt8),([115,99,114,105,112,116]:List UInt8)]) (f_cons rfl rfl (f_cons rfl rfl (f_cons rfl rfl (f_cons rfl rfl (f_cons rfl rfl (f_cons rfl rfl (f_cons rfl rfl (f_cons rfl rfl f_nil)))))))) rfl (s_storeArr (f:=AV.s) (fun _=>rfl) rfl (show lk _ (d,0) = some (_,(List.map AV.s (List.replicate 9 ([]:List UInt8)):List AV)) from lk_here) (by simp) rfl rfl (e_ (rt_ (hQ _ _ _ _ _ rfl lk_here (by simp) h)))))))))
end
theorem p215 {prog:Prog}(hf:prog.fn 215 = some pf215)  {K:List (List UInt8)→Prop}(h:T215_0 prog K ) :∃res0:List (List UInt8),K res0∧Pus prog 215 [] (.ag (List.map AV.s res0)):=by
  obtain ⟨v,hv,res0,hk,rfl⟩:=Pus.of (K:=fun v=>∃res0:List (List UInt8),K res0∧v = .ag (List.map AV.s res0)) hf rfl (w215_0 (σ:=sl0 []) (fun σ st k0 v0  res0 H0 HB0 HL0 hk=>⟨.ag (List.map AV.s res0),by simp only [pf215,ares,aresL,ares_cellA (n:=9) H0 HB0 (by simpa using HL0),ares_tmp,Option.map_some],_,strip_ag AV.s (fun _=>rfl) _,res0,hk,rfl⟩)  h)
  exact ⟨res0,hk,hv⟩
def r216_0:List AI:=[oC 2 (.s [])]
def r216_1:List AI:=[oM 3 0,
 oO 4 (.call false 15 [(.t 3)]),
 oM 2 4]
abbrev b216:AC:=(.seq (.reg 0 r216_0) (.seq (.reg 1 r216_1) .ret))
def pf216:AF:={ nt:=5,res:=[.tmp 2],body:=b216 }
abbrev H216 (Q:AE→Sl→St→Prop)(K:List UInt8→Prop):Prop:=∀(σ:Sl)(st:St)(res0:List UInt8),σ 2 = .s res0→K res0→Q .ret σ st
def T216_0 (prog:Prog)(K:List UInt8→Prop)(n0:Int):Prop:=
  ∃r'1:List UInt8,Pus prog 15 [.i .i64 n0] (.s r'1)∧K r'1
section
variable {prog:Prog}{d:Nat}{Q:AE→Sl→St→Prop}{K:List UInt8→Prop}(hQ:H216 Q K){σ:Sl}{st:St}
include hQ
theorem w216_0 {n0:Int}(H0:σ 0 = .i .i64 n0)(h:T216_0 prog K n0):W prog d (.seq (.reg 0 r216_0) (.seq (.reg 1 r216_1) .ret)) σ st Q:=
 q_ rfl (m_ (e_ (q_ rfl (m_ (h.elim fun r'1 e'2=>ca_ (sc H0 rfl sn) e'2.1 (m_ (e_ (rt_ (hQ _ _ _ rfl e'2.2)))))))))
end
theorem p216 {prog:Prog}(hf:prog.fn 216 = some pf216){n0:Int}{K:List UInt8→Prop}(h:T216_0 prog K n0) :∃res0:List UInt8,K res0∧Pus prog 216 [.i .i64 n0] (.s res0):=by
  obtain ⟨v,hv,res0,hk,rfl⟩:=Pus.of (K:=fun v=>∃res0:List UInt8,K res0∧v = .s res0) hf rfl (w216_0 (σ:=sl0 [.i .i64 n0]) (fun σ st   res0 H2 hk=>⟨.s res0,by simp only [pf216,ares,aresL,H2,ares1,Option.map_some],_,rfl,res0,hk,rfl⟩) rfl h)
  exact ⟨res0,hk,hv⟩
def r223_0:List AI:=[oC 0 (.sl .full [])]
def r223_1:List AI:=[oO 1 (.bslice [.s []] 9 [(0,(.c (.s []))),(1,(.c (.s [110,111,114,109,97,108]))),(2,(.c (.s [112,97,110,105,99]))),(3,(.c (.s [100,101,97,100,108,111,99,107]))),(4,(.c (.s [115,116,97,99,107]))),(5,(.c (.s [104,101,97,112]))),(6,(.c (.s [114,111,117,116,105,110,101,115]))),(7,(.c (.s [115,116,101,112,115]))),(8,(.c (.s [115,99,114,105,112,116])))]),
 oM 0 1]
abbrev b223:AC:=(.seq (.reg 0 r223_0) (.seq (.reg 1 r223_1) .ret))
def pf223:AF:={ nt:=2,res:=[.tmp 0],body:=b223 }
abbrev H223 (Q:AE→Sl→St→Prop)(K:List (List UInt8)→Prop):Prop:=∀(σ:Sl)(st:St)(o0:Own)(res0:List (List UInt8)),σ 0 = .sl o0 (List.map rowS res0)→K res0→Q .ret σ st
def T223_0 (prog:Prog)(K:List (List UInt8)→Prop) :Prop:=
  K [([]:List UInt8),([110,111,114,109,97,108]:List UInt8),([112,97,110,105,99]:List UInt8),([100,101,97,100,108,111,99,107]:List UInt8),([115,116,97,99,107]:List UInt8),([104,101,97,112]:List UInt8),([114,111,117,116,105,110,101,115]:List UInt8),([115,116,101,112,115]:List UInt8),([115,99,114,105,112,116]:List UInt8)]
section
variable {prog:Prog}{d:Nat}{Q:AE→Sl→St→Prop}{K:List (List UInt8)→Prop}(hQ:H223 Q K){σ:Sl}{st:St}
include hQ
theorem w223_0 (h:T223_0 prog K ):W prog d (.seq (.reg 0 r223_0) (.seq (.reg 1 r223_1) .ret)) σ st Q:=
 q_ rfl (s_mvL (f:=rowS) (l:=[]) rfl (e_ (q_ rfl (s_bslM (f:=rowS) (l:=[([]:List UInt8),([110,111,114,109,97,108]:List UInt8),([112,97,110,105,99]:List UInt8),([100,101,97,100,108,111,99,107]:List UInt8),([115,116,97,99,107]:List UInt8),([104,101,97,112]:List UInt8),([114,111,117,116,105,110,101,115]:List UInt8),([115,116,101,112,115]:List UInt8),([115,99,114,105,112,116]:List UInt8)]) rfl rfl (g_cons rfl rfl rfl (g_cons rfl rfl rfl (g_cons rfl rfl rfl (g_cons rfl rfl rfl (g_cons rfl rfl rfl (g_cons rfl rfl rfl (g_cons rfl rfl rfl (g_cons rfl rfl rfl (g_cons rfl rfl rfl g_nil))))))))) rfl (s_mvL rfl (e_ (rt_ (hQ _ _ _ _ rfl h))))))))
end
theorem p223 {prog:Prog}(hf:prog.fn 223 = some pf223)  {K:List (List UInt8)→Prop}(h:T223_0 prog K ) :∃res0:List (List UInt8),K res0∧Pus prog 223 [] (.sl .ext (List.map rowS res0)):=by
  obtain ⟨v,hv,res0,hk,rfl⟩:=Pus.of (K:=fun v=>∃res0:List (List UInt8),K res0∧v = .sl .ext (List.map rowS res0)) hf rfl (w223_0 (σ:=sl0 []) (fun σ st  o0 res0 H0 hk=>⟨.sl o0 (List.map rowS res0),by simp only [pf223,ares,aresL,H0,ares1,Option.map_some],_,rfl,res0,hk,rfl⟩)  h)
  exact ⟨res0,hk,hv⟩
def r226_0:List AI:=[oC 2 (.s [])]
def r226_1:List AI:=[oM 3 0,
 oO 4 (.call false 16 [(.t 3)]),
 oM 2 4]
abbrev b226:AC:=(.seq (.reg 0 r226_0) (.seq (.reg 1 r226_1) .ret))
def pf226:AF:={ nt:=5,res:=[.tmp 2],body:=b226 }
abbrev H226 (Q:AE→Sl→St→Prop)(K:List UInt8→Prop):Prop:=∀(σ:Sl)(st:St)(res0:List UInt8),σ 2 = .s res0→K res0→Q .ret σ st
def T226_0 (prog:Prog)(K:List UInt8→Prop)(n0:Int):Prop:=
  ∃r'1:List UInt8,Pus prog 16 [.i .i64 n0] (.s r'1)∧K r'1
section
variable {prog:Prog}{d:Nat}{Q:AE→Sl→St→Prop}{K:List UInt8→Prop}(hQ:H226 Q K){σ:Sl}{st:St}
include hQ
theorem w226_0 {n0:Int}(H0:σ 0 = .i .i64 n0)(h:T226_0 prog K n0):W prog d (.seq (.reg 0 r226_0) (.seq (.reg 1 r226_1) .ret)) σ st Q:=
 q_ rfl (m_ (e_ (q_ rfl (m_ (h.elim fun r'1 e'2=>ca_ (sc H0 rfl sn) e'2.1 (m_ (e_ (rt_ (hQ _ _ _ rfl e'2.2)))))))))
end
theorem p226 {prog:Prog}(hf:prog.fn 226 = some pf226){n0:Int}{K:List UInt8→Prop}(h:T226_0 prog K n0) :∃res0:List UInt8,K res0∧Pus prog 226 [.i .i64 n0] (.s res0):=by
  obtain ⟨v,hv,res0,hk,rfl⟩:=Pus.of (K:=fun v=>∃res0:List UInt8,K res0∧v = .s res0) hf rfl (w226_0 (σ:=sl0 [.i .i64 n0]) (fun σ st   res0 H2 hk=>⟨.s res0,by simp only [pf226,ares,aresL,H2,ares1,Option.map_some],_,rfl,res0,hk,rfl⟩) rfl h)
  exact ⟨res0,hk,hv⟩
def r209_0:List AI:=[oC 2 (.s []),
 oC 3 (.i .i64 0)]
def r209_1:List AI:=[oM 4 0,
 oB 5 .lss (.t 4) (.c (.i .u8 1)),
 oM 6 5,
 oG 7 (.mv (.t 0)) 6 false,
 oG 8 (.bin .gtr (.t 7) (.c (.i .u8 8))) 6 false,
 oO 9 (.pick (.t 6) (.c (.b true)) (.t 8))]
def r209_2:List AI:=[oC 2 (.s []),
 oC 3 (.i .i64 2)]
def r209_3:List AI:=[oO 10 (.call false 215 []),
 oM 11 0,
 oO 12 (.ixA 9 1 false (.t 10) (.t 11)),
 oM 2 12,
 oC 3 (.i .i64 0)]
abbrev c209_0:AC:=(.seq (.reg 3 r209_3) .ret)
abbrev b209:AC:=(.seq (.reg 0 r209_0) (.seq (.seq (.reg 1 r209_1) (.cond (.t 9) (.seq (.reg 2 r209_2) .ret) .skip)) c209_0))
def pf209:AF:={ nt:=13,res:=[.tmp 2,.tmp 3],body:=b209 }
abbrev H209 (Q:AE→Sl→St→Prop)(K:List UInt8→Int→Prop):Prop:=∀(σ:Sl)(st:St)(res0:List UInt8)(res1:Int),σ 2 = .s res0→σ 3 = .i .i64 res1→K res0 res1→Q .ret σ st
def T209_1 (prog:Prog)(K:List UInt8→Int→Prop)(n0:Int):Prop:=
  ∃r'1:List (List UInt8),Pus prog 215 [] (.ag (List.map AV.s r'1))∧r'1.length = 9∧0≤n0∧∃c'3:List UInt8,(r'1:List (List UInt8))[(n0).toNat]? = some c'3∧K c'3 0
def T209_0 (prog:Prog)(K:List UInt8→Int→Prop)(n0:Int):Prop:=
  (n0 < 1→K ([]:List UInt8) 2)∧(¬(n0 < 1)→(n0 > 8→K ([]:List UInt8) 2)∧(¬(n0 > 8)→T209_1 prog K n0))
section
variable {prog:Prog}{d:Nat}{Q:AE→Sl→St→Prop}{K:List UInt8→Int→Prop}(hQ:H209 Q K){σ:Sl}{st:St}
include hQ
theorem w209_1 {n0:Int}(H0:σ 0 = .i .u8 n0)(h:T209_1 prog K n0):W prog d c209_0 σ st Q:=
 q_ rfl (h.elim fun r'1 e'2=>ca_ sn e'2.1 (m_ (e'2.2.2.2.elim fun c'3 e'4=>s_ixA (f:=AV.s) e'2.2.1 rfl H0 e'2.2.2.1 e'4.1 (m_ (m_ (e_ (rt_ (hQ _ _ _ _ rfl rfl e'4.2))))))))
theorem w209_0 {n0:Int}(H0:σ 0 = .i .u8 n0)(h:T209_0 prog K n0):W prog d (.seq (.reg 0 r209_0) (.seq (.seq (.reg 1 r209_1) (.cond (.t 9) (.seq (.reg 2 r209_2) .ret) .skip)) c209_0)) σ st Q:=
 q_ rfl (m_ (m_ (e_ (sq_ (q_ rfl (s_mvI H0 (b_ rfl rfl lss_ (s_mvB rfl (em_ (g:=6) rfl (fun g'1=>gn_ (b:=true) rfl rfl (gn_ (b:=true) rfl rfl (pt_ rfl rfl (e_ (ct_ rfl (q_ rfl (m_ (m_ (e_ (rt_ (hQ _ _ _ _ rfl rfl (h.1 g'1)))))))))))) (fun g'1=>gy_ rfl (s_mvI H0 (gy_ rfl (b_ rfl rfl gtr_ (pf_ rfl rfl (e_ (cs_ rfl (fun g'2=>q_ rfl (m_ (m_ (e_ (rt_ (hQ _ _ _ _ rfl rfl ((h.2 g'1).1 g'2))))))) (fun g'2=>sk_ (w209_1 hQ H0 ((h.2 g'1).2 g'2)))))))))))))))))))
end
theorem p209 {prog:Prog}(hf:prog.fn 209 = some pf209){n0:Int}{K:List UInt8→Int→Prop}(h:T209_0 prog K n0) :∃res0:List UInt8,∃res1:Int,K res0 res1∧Pus prog 209 [.i .u8 n0] (.tup [.s res0,.i .i64 res1]):=by
  obtain ⟨v,hv,res0,res1,hk,rfl⟩:=Pus.of (K:=fun v=>∃res0:List UInt8,∃res1:Int,K res0 res1∧v = .tup [.s res0,.i .i64 res1]) hf rfl (w209_0 (σ:=sl0 [.i .u8 n0]) (fun σ st   res0 res1 H2 H3 hk=>⟨.tup [.s res0,.i .i64 res1],by simp only [pf209,ares,aresL,H2,H3,ares1,Option.map_some],_,rfl,res0,res1,hk,rfl⟩) rfl h)
  exact ⟨res0,res1,hk,hv⟩
def r210_0:List AI:=[oC 2 (.s []),
 oC 3 (.i .i64 0)]
def r210_1:List AI:=[oM 4 0,
 oB 5 .lss (.t 4) (.c (.i .u8 1)),
 oM 6 5,
 oG 7 (.mv (.t 0)) 6 false,
 oG 8 (.bin .gtr (.t 7) (.c (.i .u8 8))) 6 false,
 oO 9 (.pick (.t 6) (.c (.b true)) (.t 8))]
def r210_2:List AI:=[oC 2 (.s []),
 oC 3 (.i .i64 2)]
def r210_3:List AI:=[oO 10 (.call false 223 []),
 oM 11 0,
 oO 12 (.iaL 1 (.t 10) (.t 11)),
 oL 13 12,
 oM 2 13,
 oC 3 (.i .i64 0)]
abbrev c210_0:AC:=(.seq (.reg 3 r210_3) .ret)
abbrev b210:AC:=(.seq (.reg 0 r210_0) (.seq (.seq (.reg 1 r210_1) (.cond (.t 9) (.seq (.reg 2 r210_2) .ret) .skip)) c210_0))
def pf210:AF:={ nt:=14,res:=[.tmp 2,.tmp 3],body:=b210 }
abbrev H210 (Q:AE→Sl→St→Prop)(K:List UInt8→Int→Prop):Prop:=∀(σ:Sl)(st:St)(res0:List UInt8)(res1:Int),σ 2 = .s res0→σ 3 = .i .i64 res1→K res0 res1→Q .ret σ st
def T210_1 (prog:Prog)(K:List UInt8→Int→Prop)(n0:Int):Prop:=
  ∃r'1:List (List UInt8),Pus prog 223 [] (.sl .ext (List.map rowS r'1))∧0≤n0∧∃c'3:List UInt8,r'1[(n0).toNat]? = some c'3∧K c'3 0
def T210_0 (prog:Prog)(K:List UInt8→Int→Prop)(n0:Int):Prop:=
  (n0 < 1→K ([]:List UInt8) 2)∧(¬(n0 < 1)→(n0 > 8→K ([]:List UInt8) 2)∧(¬(n0 > 8)→T210_1 prog K n0))
section
variable {prog:Prog}{d:Nat}{Q:AE→Sl→St→Prop}{K:List UInt8→Int→Prop}(hQ:H210 Q K){σ:Sl}{st:St}
include hQ
theorem w210_1 {n0:Int}(H0:σ 0 = .i .u8 n0)(h:T210_1 prog K n0):W prog d c210_0 σ st Q:=
 q_ rfl (h.elim fun r'1 e'2=>ca_ sn e'2.1 (m_ (e'2.2.2.elim fun c'3 e'4=>ia_ rfl H0 e'2.2.1 e'4.1 rfl rfl (lf_ rfl rfl rfl (m_ (m_ (e_ (rt_ (hQ _ _ _ _ rfl rfl e'4.2)))))))))
theorem w210_0 {n0:Int}(H0:σ 0 = .i .u8 n0)(h:T210_0 prog K n0):W prog d (.seq (.reg 0 r210_0) (.seq (.seq (.reg 1 r210_1) (.cond (.t 9) (.seq (.reg 2 r210_2) .ret) .skip)) c210_0)) σ st Q:=
 q_ rfl (m_ (m_ (e_ (sq_ (q_ rfl (s_mvI H0 (b_ rfl rfl lss_ (s_mvB rfl (em_ (g:=6) rfl (fun g'1=>gn_ (b:=true) rfl rfl (gn_ (b:=true) rfl rfl (pt_ rfl rfl (e_ (ct_ rfl (q_ rfl (m_ (m_ (e_ (rt_ (hQ _ _ _ _ rfl rfl (h.1 g'1)))))))))))) (fun g'1=>gy_ rfl (s_mvI H0 (gy_ rfl (b_ rfl rfl gtr_ (pf_ rfl rfl (e_ (cs_ rfl (fun g'2=>q_ rfl (m_ (m_ (e_ (rt_ (hQ _ _ _ _ rfl rfl ((h.2 g'1).1 g'2))))))) (fun g'2=>sk_ (w210_1 hQ H0 ((h.2 g'1).2 g'2)))))))))))))))))))
end
theorem p210 {prog:Prog}(hf:prog.fn 210 = some pf210){n0:Int}{K:List UInt8→Int→Prop}(h:T210_0 prog K n0) :∃res0:List UInt8,∃res1:Int,K res0 res1∧Pus prog 210 [.i .u8 n0] (.tup [.s res0,.i .i64 res1]):=by
  obtain ⟨v,hv,res0,res1,hk,rfl⟩:=Pus.of (K:=fun v=>∃res0:List UInt8,∃res1:Int,K res0 res1∧v = .tup [.s res0,.i .i64 res1]) hf rfl (w210_0 (σ:=sl0 [.i .u8 n0]) (fun σ st   res0 res1 H2 H3 hk=>⟨.tup [.s res0,.i .i64 res1],by simp only [pf210,ares,aresL,H2,H3,ares1,Option.map_some],_,rfl,res0,res1,hk,rfl⟩) rfl h)
  exact ⟨res0,res1,hk,hv⟩
def r211_0:List AI:=[oC 2 (.i .u8 0),
 oC 3 (.i .i64 0)]
def r211_1:List AI:=[oO 6 (.call false 215 []),
 oO 4 (.alloc [.s [],.s [],.s [],.s [],.s [],.s [],.s [],.s [],.s []]),
 oS 9 4 6]
def r211_2:List AI:=[oO 7 (.slA 9 1 (.t 4) none none),
 oM 8 0,
 oO 9 (.call false 141 [(.t 7),(.t 8)]),
 oM 5 9]
def r211_3:List AI:=[oM 10 5,
 oB 11 .lss (.t 10) (.c (.i .i64 1))]
def r211_4:List AI:=[oC 2 (.i .u8 0),
 oC 3 (.i .i64 12)]
def r211_5:List AI:=[oM 12 5,
 oO 13 (.cvi .u8 (.t 12)),
 oM 2 13,
 oC 3 (.i .i64 0)]
abbrev b211:AC:=(.seq (.reg 0 r211_0) (.seq (.reg 1 r211_1) (.seq (.reg 2 r211_2) (.seq (.seq (.reg 3 r211_3) (.cond (.t 11) (.seq (.reg 4 r211_4) .ret) .skip)) (.seq (.reg 5 r211_5) .ret)))))
def pf211:AF:={ nt:=14,res:=[.tmp 2,.tmp 3],body:=b211 }
abbrev H211 (Q:AE→Sl→St→Prop)(K:Int→Int→Prop):Prop:=∀(σ:Sl)(st:St)(res0:Int)(res1:Int),σ 2 = .i .u8 res0→σ 3 = .i .i64 res1→K res0 res1→Q .ret σ st
def T211_0 (prog:Prog)(K:Int→Int→Prop)(s0:List UInt8):Prop:=
  ∃r'1:List (List UInt8),Pus prog 215 [] (.ag (List.map AV.s r'1))∧r'1.length = 9∧r'1.length = 9∧∃r'3:Int,Pus prog 141 [.sl .ext (List.map rowS r'1),.s s0] (.i .i64 r'3)∧(r'3 < 1→K 0 12)∧(¬(r'3 < 1)→K (IntKind.u8.wrap r'3) 0)
section
variable {prog:Prog}{d:Nat}{Q:AE→Sl→St→Prop}{K:Int→Int→Prop}(hQ:H211 Q K){σ:Sl}{st:St}
include hQ
theorem w211_0 {s0:List UInt8}(H0:σ 0 = .s s0)(h:T211_0 prog K s0):W prog d (.seq (.reg 0 r211_0) (.seq (.reg 1 r211_1) (.seq (.reg 2 r211_2) (.seq (.seq (.reg 3 r211_3) (.cond (.t 11) (.seq (.reg 4 r211_4) .ret) .skip)) (.seq (.reg 5 r211_5) .ret))))) σ st Q:=
 q_ rfl (m_ (m_ (e_ (sq_ (W.reg (h.elim fun r'1 e'2=>ca_ sn e'2.1 (s_alloc (s_storeArr (f:=AV.s) (fun _=>rfl) rfl (show lk _ (d,4097) = some (_,(List.map AV.s (List.replicate 9 ([]:List UInt8)):List AV)) from lk_here) (by simp) rfl e'2.2.1 (e_ (q_ rfl (s_slA_S rfl lk_here e'2.2.2.1 rfl (m_ (e'2.2.2.2.elim fun r'3 e'4=>ca_ (sc rfl rfl (sc H0 rfl sn)) e'4.1 (m_ (e_ (sq_ (q_ rfl (m_ (b_ rfl rfl lss_ (e_ (cs_ rfl (fun g'5=>q_ rfl (m_ (m_ (e_ (rt_ (hQ _ _ _ _ rfl rfl (e'4.2.1 g'5))))))) (fun g'5=>sk_ (q_ rfl (m_ (s_cvi rfl (m_ (m_ (e_ (rt_ (hQ _ _ _ _ rfl rfl (e'4.2.2 g'5)))))))))))))))))))))))))))))))
end
theorem p211 {prog:Prog}(hf:prog.fn 211 = some pf211){s0:List UInt8}{K:Int→Int→Prop}(h:T211_0 prog K s0) :∃res0:Int,∃res1:Int,K res0 res1∧Pus prog 211 [.s s0] (.tup [.i .u8 res0,.i .i64 res1]):=by
  obtain ⟨v,hv,res0,res1,hk,rfl⟩:=Pus.of (K:=fun v=>∃res0:Int,∃res1:Int,K res0 res1∧v = .tup [.i .u8 res0,.i .i64 res1]) hf rfl (w211_0 (σ:=sl0 [.s s0]) (fun σ st   res0 res1 H2 H3 hk=>⟨.tup [.i .u8 res0,.i .i64 res1],by simp only [pf211,ares,aresL,H2,H3,ares1,Option.map_some],_,rfl,res0,res1,hk,rfl⟩) rfl h)
  exact ⟨res0,res1,hk,hv⟩
def r212_0:List AI:=[oC 2 (.i .u8 0),
 oC 3 (.i .i64 0)]
def r212_1:List AI:=[oC 4 (.i .i64 1)]
def r212_2:List AI:=[oM 5 4,
 oB 6 .leq (.t 5) (.c (.i .i64 8))]
def r212_3:List AI:=[oO 9 (.call false 223 []),
 oM 10 4,
 oO 11 (.iaL 1 (.t 9) (.t 10)),
 oL 12 11,
 oM 13 0,
 oB 14 .eql (.t 12) (.t 13)]
def r212_4:List AI:=[oM 15 4,
 oO 16 (.cvi .u8 (.t 15)),
 oM 2 16,
 oC 3 (.i .i64 0)]
def r212_5:List AI:=[oM 7 4,
 oB 8 .add (.t 7) (.c (.i .i64 1)),
 oM 4 8]
def r212_6:List AI:=[oC 2 (.i .u8 0),
 oC 3 (.i .i64 12)]
abbrev l212_0:AC:=(.seq (.seq (.reg 2 r212_2) (.cond (.t 6) .skip (.exit 0))) (.seq (.block 1 (.seq (.reg 4 r212_3) (.cond (.t 14) (.seq (.reg 5 r212_4) .ret) .skip))) (.reg 3 r212_5)))
abbrev c212_1:AC:=(.seq (.reg 6 r212_6) .ret)
abbrev b212:AC:=(.seq (.reg 0 r212_0) (.seq (.seq (.reg 1 r212_1) (.block 0 (.loop l212_0))) c212_1))
def pf212:AF:={ nt:=17,res:=[.tmp 2,.tmp 3],body:=b212 }
abbrev H212 (Q:AE→Sl→St→Prop)(K:Int→Int→Prop):Prop:=∀(σ:Sl)(st:St)(res0:Int)(res1:Int),σ 2 = .i .u8 res0→σ 3 = .i .i64 res1→K res0 res1→Q .ret σ st
abbrev I212_0 (prog:Prog)(d:Nat)(Q:AE→Sl→St→Prop)(s0:List UInt8)(n4:Int):Prop:=
  ∀(σ:Sl)(st:St),σ 0 = .s s0→σ 4 = .i .i64 n4→W prog d (.loop l212_0) σ st (blockW 0 (thenW prog d c212_1 Q))
def T212_2 (prog:Prog)(K:Int→Int→Prop) :Prop:=
  K 0 12
def T212_1 (prog:Prog)(K:Int→Int→Prop)(P0:Int→Prop)(s0:List UInt8)(n4:Int):Prop:=
  (n4≤8→∃r'2:List (List UInt8),Pus prog 223 [] (.sl .ext (List.map rowS r'2))∧0≤n4∧∃c'4:List UInt8,r'2[(n4).toNat]? = some c'4∧(c'4 = s0→K (IntKind.u8.wrap n4) 0)∧(¬(c'4 = s0)→P0 (IntKind.i64.wrap (n4 + 1))))∧(¬(n4≤8)→T212_2 prog K )
def T212_0 (prog:Prog)(K:Int→Int→Prop)(s0:List UInt8):Prop:=
  ∀P0:Int→Prop,(∀(n4:Int),T212_1 prog K P0 s0 n4→P0 n4)→P0 1
section
variable {prog:Prog}{d:Nat}{Q:AE→Sl→St→Prop}{K:Int→Int→Prop}(hQ:H212 Q K){σ:Sl}{st:St}
include hQ
theorem w212_2 (h:T212_2 prog K ):W prog d c212_1 σ st Q:=
 q_ rfl (m_ (m_ (e_ (rt_ (hQ _ _ _ _ rfl rfl h)))))
theorem w212_1 {s0:List UInt8}{n4:Int}{P0:Int→Prop} (kP0 :∀(n4:Int),P0 n4→I212_0 prog d Q s0 n4)(H0:σ 0 = .s s0)(H4:σ 4 = .i .i64 n4)(h:T212_1 prog K P0 s0 n4):W prog d l212_0 σ st (thenW prog d (.loop l212_0) (blockW 0 (thenW prog d c212_1 Q))):=
 sq_ (q_ rfl (m_ (b_ H4 rfl leq_ (e_ (cs_ rfl (fun g'1=>sk_ (sq_ (bk_ (q_ rfl ((h.1 g'1).elim fun r'2 e'3=>ca_ sn e'3.1 (m_ (e'3.2.2.elim fun c'4 e'5=>ia_ rfl H4 e'3.2.1 e'5.1 rfl rfl (lf_ rfl rfl rfl (m_ (b_ rfl H0 seq_ (e_ (cs_ rfl (fun g'6=>q_ rfl (m_ (s_cvi H4 (m_ (m_ (e_ (rt_ (hQ _ _ _ _ rfl rfl (e'5.2.1 g'6))))))))) (fun g'6=>sk_ (W.reg0 rfl fun _ _=>m_ (b_ H4 rfl add_ (m_ (e_ (kP0 _ (e'5.2.2 g'6) _ _ H0 rfl)))))))))))))))))) (fun g'1=>ex_ (w212_2 hQ (h.2 g'1))))))))
theorem w212_0 {s0:List UInt8}(H0:σ 0 = .s s0)(h:T212_0 prog K s0):W prog d (.seq (.reg 0 r212_0) (.seq (.seq (.reg 1 r212_1) (.block 0 (.loop l212_0))) c212_1)) σ st Q:=
 q_ rfl (m_ (m_ (e_ (sq_ (q_ rfl (m_ (e_ (bk_ (h (I212_0 prog d Q s0) (fun _ hb _ _ H0 H4=>W.loop (w212_1 hQ (fun _ x=>x) H0 H4 hb)) _ _ H0 rfl)))))))))
end
theorem p212 {prog:Prog}(hf:prog.fn 212 = some pf212){s0:List UInt8}{K:Int→Int→Prop}(h:T212_0 prog K s0) :∃res0:Int,∃res1:Int,K res0 res1∧Pus prog 212 [.s s0] (.tup [.i .u8 res0,.i .i64 res1]):=by
  obtain ⟨v,hv,res0,res1,hk,rfl⟩:=Pus.of (K:=fun v=>∃res0:Int,∃res1:Int,K res0 res1∧v = .tup [.i .u8 res0,.i .i64 res1]) hf rfl (w212_0 (σ:=sl0 [.s s0]) (fun σ st   res0 res1 H2 H3 hk=>⟨.tup [.i .u8 res0,.i .i64 res1],by simp only [pf212,ares,aresL,H2,H3,ares1,Option.map_some],_,rfl,res0,res1,hk,rfl⟩) rfl h)
  exact ⟨res0,res1,hk,hv⟩
def r236_0:List AI:=[oC 4 (.i .i64 0)]
def r236_1:List AI:=[oM 6 0,
 oO 7 (.len false (.t 6)),
 oC 8 (.i .i64 0)]
def r236_2:List AI:=[oB 9 .lss (.t 8) (.t 7)]
def r236_3:List AI:=[oM 10 8,
 oM 5 10]
def r236_4:List AI:=[oM 11 1,
 oM 12 0,
 oM 13 5,
 oO 14 (.iaL 5 (.t 12) (.t 13)),
 oO 15 (.load 5 true (.t 14)),
 oO 16 (.callv (.t 11) [(.t 15)])]
def r236_5:List AI:=[oM 17 5,
 oM 4 17]
def r236_6:List AI:=[oB 18 .add (.t 8) (.c (.i .i64 1)),
 oM 8 18]
def r236_7:List AI:=[oC 4 (.i .i64 (-1))]
abbrev l236_0:AC:=(.seq (.reg 2 r236_2) (.seq (.cond (.t 9) .skip (.exit 0)) (.seq (.block 1 (.seq (.reg 3 r236_3) (.seq (.reg 4 r236_4) (.cond (.t 16) (.seq (.reg 5 r236_5) .ret) .skip)))) (.reg 6 r236_6))))
abbrev c236_1:AC:=(.seq (.reg 7 r236_7) .ret)
abbrev b236:AC:=(.seq (.reg 0 r236_0) (.seq (.seq (.reg 1 r236_1) (.block 0 (.loop l236_0))) c236_1))
def pf236:AF:={ nt:=19,res:=[.tmp 4],body:=b236 }
abbrev H236 (d:Nat)(st0:St)(Q:AE→Sl→St→Prop)(K:Int→Prop):Prop:=∀(σ:Sl)(st:St)(res0:Int),σ 4 = .i .i64 res0→Fr d (d,0) st0.bx st0.ow st.bx st.ow→K res0→Q .ret σ st
abbrev I236_0 (prog:Prog)(d:Nat)(Q:AE→Sl→St→Prop)(st0:St)(s0:List Rou)(f1:Nat × List AV)(t7:Int)(t8:Int):Prop:=
  ∀(σ:Sl)(st:St)(o_s0:Own),σ 0 = .sl o_s0 (List.map Rou.row s0)→σ 1 = .fn f1.1 f1.2→σ 7 = .i .i64 t7→σ 8 = .i .i64 t8→Fr d (d,0) st0.bx st0.ow st.bx st.ow→W prog d (.loop l236_0) σ st (blockW 0 (thenW prog d c236_1 Q))
def T236_2 (prog:Prog)(K:Int→Prop) :Prop:=
  K (-1)
def T236_1 (prog:Prog)(K:Int→Prop)(P0:Int→Prop)(s0:List Rou)(f1:Nat × List AV)(t7:Int)(t8:Int):Prop:=
  (t8 < t7→0≤t8∧∃c'2:Rou,s0[(t8).toNat]? = some c'2∧∃r'4:Bool,(PuN prog f1.1 ([c'2.av] ++ f1.2) (fun r=>r = .b r'4))∧(r'4 = true→K t8)∧(r'4 = false→P0 (IntKind.i64.wrap (t8 + 1))))∧(¬(t8 < t7)→T236_2 prog K )
def T236_0 (prog:Prog)(K:Int→Prop)(s0:List Rou)(f1:Nat × List AV):Prop:=
  ∀P0:Int→Prop,(∀(t8:Int),T236_1 prog K P0 s0 f1 (s0.length:Int) t8→P0 t8)→P0 0
section
variable {prog:Prog}{d:Nat}{Q:AE→Sl→St→Prop}{K:Int→Prop}{st0:St}(hQ:H236 d st0 Q K){σ:Sl}{st:St}
include hQ
theorem w236_2 (FR:Fr d (d,0) st0.bx st0.ow st.bx st.ow)(h:T236_2 prog K ):W prog d c236_1 σ st Q:=
 q_ rfl (m_ (e_ (rt_ (hQ _ _ _ rfl FR h))))
theorem w236_1 {s0:List Rou}{f1:Nat × List AV}{t7 t8:Int}{P0:Int→Prop} (kP0 :∀(t8:Int),P0 t8→I236_0 prog d Q st0 s0 f1 t7 t8){o_s0:Own}(H0:σ 0 = .sl o_s0 (List.map Rou.row s0))(H1:σ 1 = .fn f1.1 f1.2)(H7:σ 7 = .i .i64 t7)(H8:σ 8 = .i .i64 t8)(FR:Fr d (d,0) st0.bx st0.ow st.bx st.ow)(h:T236_1 prog K P0 s0 f1 t7 t8):W prog d l236_0 σ st (thenW prog d (.loop l236_0) (blockW 0 (thenW prog d c236_1 Q))):=
 q_ rfl (b_ H8 H7 lss_ (e_ (sq_ (cs_ rfl (fun g'1=>sk_ (sq_ (bk_ (q_ rfl (m_ (m_ (e_ (q_ rfl (m_ (s_mvL H0 (m_ ((h.1 g'1).2.elim fun c'2 e'3=>ia_ rfl H8 (h.1 g'1).1 e'3.1 (Rou.row_eq c'2) rfl (lf_ rfl rfl rfl (e'3.2.elim fun r'4 e'6=>s_callV H1 (sec rfl sen) (e'6.1) (fun st'7 hf'8=>e_ (cb_ rfl (fun g'9=>q_ rfl (m_ (m_ (e_ (rt_ (hQ _ _ _ H8 (Fr.raw FR hf'8) (e'6.2.1 g'9))))))) (fun g'9=>sk_ (W.reg0 rfl fun _ _=>b_ H8 rfl add_ (m_ (e_ (kP0 _ (e'6.2.2 g'9) _ _ _ H0 H1 H7 rfl (Fr.raw FR hf'8)))))))))))))))))))))) (fun g'1=>ex_ (w236_2 hQ FR (h.2 g'1)))))))
theorem w236_0 {s0:List Rou}{f1:Nat × List AV}{o_s0:Own}(H0:σ 0 = .sl o_s0 (List.map Rou.row s0))(H1:σ 1 = .fn f1.1 f1.2)(FR:Fr d (d,0) st0.bx st0.ow st.bx st.ow)(h:T236_0 prog K s0 f1):W prog d (.seq (.reg 0 r236_0) (.seq (.seq (.reg 1 r236_1) (.block 0 (.loop l236_0))) c236_1)) σ st Q:=
 q_ rfl (m_ (e_ (sq_ (q_ rfl (s_mvL H0 (ll_ rfl (m_ (e_ (bk_ (h (I236_0 prog d Q st0 s0 f1 (s0.length:Int)) (fun _ hb _ _ _ H0 H1 H7 H8 FR=>W.loop (w236_1 hQ (fun _ x=>x) H0 H1 H7 H8 FR hb)) _ _ _ H0 H1 rfl rfl FR))))))))))
end
theorem p236 {prog:Prog}(hf:prog.fn 236 = some pf236){s0:List Rou}{f1:Nat × List AV}{K:Int→Prop}(h:T236_0 prog K s0 f1)(o_s0:Own):PuN prog 236 [.sl o_s0 (List.map Rou.row s0),.fn f1.1 f1.2] (fun r=>∃res0:Int,(r = .i .i64 res0)∧K res0):=
  PuN.of hf rfl fun d st=>w236_0 (st0:=st) (Q:=fun e σ st'=>(e = .normal∨e = .ret)∧∃r,ares σ st' pf236.res = some r∧_∧Fr d (d,0) st.bx st.ow st'.bx st'.ow) (fun σ st'   res0 H4 hf hk=>⟨.inr rfl,.i .i64 res0,by simp only [pf236,ares,aresL,H4,ares1,Option.map_some,H4],⟨res0,rfl,hk⟩,hf⟩) (σ:=sl0 [.sl o_s0 (List.map Rou.row s0),.fn f1.1 f1.2]) rfl rfl Fr.refl h
def r237_0:List AI:=[oC 4 (.i .i64 0)]
def r237_1:List AI:=[oM 6 0,
 oO 7 (.len false (.t 6)),
 oC 8 (.i .i64 0)]
def r237_2:List AI:=[oB 9 .lss (.t 8) (.t 7)]
def r237_3:List AI:=[oM 10 8,
 oM 5 10]
def r237_4:List AI:=[oM 11 1,
 oM 12 0,
 oM 13 5,
 oO 14 (.iaL 4 (.t 12) (.t 13)),
 oO 15 (.load 4 true (.t 14)),
 oO 16 (.callv (.t 11) [(.t 15)])]
def r237_5:List AI:=[oM 17 5,
 oM 4 17]
def r237_6:List AI:=[oB 18 .add (.t 8) (.c (.i .i64 1)),
 oM 8 18]
def r237_7:List AI:=[oC 4 (.i .i64 (-1))]
abbrev l237_0:AC:=(.seq (.reg 2 r237_2) (.seq (.cond (.t 9) .skip (.exit 0)) (.seq (.block 1 (.seq (.reg 3 r237_3) (.seq (.reg 4 r237_4) (.cond (.t 16) (.seq (.reg 5 r237_5) .ret) .skip)))) (.reg 6 r237_6))))
abbrev c237_1:AC:=(.seq (.reg 7 r237_7) .ret)
abbrev b237:AC:=(.seq (.reg 0 r237_0) (.seq (.seq (.reg 1 r237_1) (.block 0 (.loop l237_0))) c237_1))
def pf237:AF:={ nt:=19,res:=[.tmp 4],body:=b237 }
abbrev H237 (d:Nat)(st0:St)(Q:AE→Sl→St→Prop)(K:Int→Prop):Prop:=∀(σ:Sl)(st:St)(res0:Int),σ 4 = .i .i64 res0→Fr d (d,0) st0.bx st0.ow st.bx st.ow→K res0→Q .ret σ st
abbrev I237_0 (prog:Prog)(d:Nat)(Q:AE→Sl→St→Prop)(st0:St)(s0:List Frm)(f1:Nat × List AV)(t7:Int)(t8:Int):Prop:=
  ∀(σ:Sl)(st:St)(o_s0:Own),σ 0 = .sl o_s0 (List.map Frm.row s0)→σ 1 = .fn f1.1 f1.2→σ 7 = .i .i64 t7→σ 8 = .i .i64 t8→Fr d (d,0) st0.bx st0.ow st.bx st.ow→W prog d (.loop l237_0) σ st (blockW 0 (thenW prog d c237_1 Q))
def T237_2 (prog:Prog)(K:Int→Prop) :Prop:=
  K (-1)
def T237_1 (prog:Prog)(K:Int→Prop)(P0:Int→Prop)(s0:List Frm)(f1:Nat × List AV)(t7:Int)(t8:Int):Prop:=
  (t8 < t7→0≤t8∧∃c'2:Frm,s0[(t8).toNat]? = some c'2∧∃r'4:Bool,(PuN prog f1.1 ([c'2.av] ++ f1.2) (fun r=>r = .b r'4))∧(r'4 = true→K t8)∧(r'4 = false→P0 (IntKind.i64.wrap (t8 + 1))))∧(¬(t8 < t7)→T237_2 prog K )
def T237_0 (prog:Prog)(K:Int→Prop)(s0:List Frm)(f1:Nat × List AV):Prop:=
  ∀P0:Int→Prop,(∀(t8:Int),T237_1 prog K P0 s0 f1 (s0.length:Int) t8→P0 t8)→P0 0
section
variable {prog:Prog}{d:Nat}{Q:AE→Sl→St→Prop}{K:Int→Prop}{st0:St}(hQ:H237 d st0 Q K){σ:Sl}{st:St}
include hQ
theorem w237_2 (FR:Fr d (d,0) st0.bx st0.ow st.bx st.ow)(h:T237_2 prog K ):W prog d c237_1 σ st Q:=
 q_ rfl (m_ (e_ (rt_ (hQ _ _ _ rfl FR h))))
theorem w237_1 {s0:List Frm}{f1:Nat × List AV}{t7 t8:Int}{P0:Int→Prop} (kP0 :∀(t8:Int),P0 t8→I237_0 prog d Q st0 s0 f1 t7 t8){o_s0:Own}(H0:σ 0 = .sl o_s0 (List.map Frm.row s0))(H1:σ 1 = .fn f1.1 f1.2)(H7:σ 7 = .i .i64 t7)(H8:σ 8 = .i .i64 t8)(FR:Fr d (d,0) st0.bx st0.ow st.bx st.ow)(h:T237_1 prog K P0 s0 f1 t7 t8):W prog d l237_0 σ st (thenW prog d (.loop l237_0) (blockW 0 (thenW prog d c237_1 Q))):=
 q_ rfl (b_ H8 H7 lss_ (e_ (sq_ (cs_ rfl (fun g'1=>sk_ (sq_ (bk_ (q_ rfl (m_ (m_ (e_ (q_ rfl (m_ (s_mvL H0 (m_ ((h.1 g'1).2.elim fun c'2 e'3=>ia_ rfl H8 (h.1 g'1).1 e'3.1 (Frm.row_eq c'2) rfl (lf_ rfl rfl rfl (e'3.2.elim fun r'4 e'6=>s_callV H1 (sec rfl sen) (e'6.1) (fun st'7 hf'8=>e_ (cb_ rfl (fun g'9=>q_ rfl (m_ (m_ (e_ (rt_ (hQ _ _ _ H8 (Fr.raw FR hf'8) (e'6.2.1 g'9))))))) (fun g'9=>sk_ (W.reg0 rfl fun _ _=>b_ H8 rfl add_ (m_ (e_ (kP0 _ (e'6.2.2 g'9) _ _ _ H0 H1 H7 rfl (Fr.raw FR hf'8)))))))))))))))))))))) (fun g'1=>ex_ (w237_2 hQ FR (h.2 g'1)))))))
theorem w237_0 {s0:List Frm}{f1:Nat × List AV}{o_s0:Own}(H0:σ 0 = .sl o_s0 (List.map Frm.row s0))(H1:σ 1 = .fn f1.1 f1.2)(FR:Fr d (d,0) st0.bx st0.ow st.bx st.ow)(h:T237_0 prog K s0 f1):W prog d (.seq (.reg 0 r237_0) (.seq (.seq (.reg 1 r237_1) (.block 0 (.loop l237_0))) c237_1)) σ st Q:=
 q_ rfl (m_ (e_ (sq_ (q_ rfl (s_mvL H0 (ll_ rfl (m_ (e_ (bk_ (h (I237_0 prog d Q st0 s0 f1 (s0.length:Int)) (fun _ hb _ _ _ H0 H1 H7 H8 FR=>W.loop (w237_1 hQ (fun _ x=>x) H0 H1 H7 H8 FR hb)) _ _ _ H0 H1 rfl rfl FR))))))))))
end
theorem p237 {prog:Prog}(hf:prog.fn 237 = some pf237){s0:List Frm}{f1:Nat × List AV}{K:Int→Prop}(h:T237_0 prog K s0 f1)(o_s0:Own):PuN prog 237 [.sl o_s0 (List.map Frm.row s0),.fn f1.1 f1.2] (fun r=>∃res0:Int,(r = .i .i64 res0)∧K res0):=
  PuN.of hf rfl fun d st=>w237_0 (st0:=st) (Q:=fun e σ st'=>(e = .normal∨e = .ret)∧∃r,ares σ st' pf237.res = some r∧_∧Fr d (d,0) st.bx st.ow st'.bx st'.ow) (fun σ st'   res0 H4 hf hk=>⟨.inr rfl,.i .i64 res0,by simp only [pf237,ares,aresL,H4,ares1,Option.map_some,H4],⟨res0,rfl,hk⟩,hf⟩) (σ:=sl0 [.sl o_s0 (List.map Frm.row s0),.fn f1.1 f1.2]) rfl rfl Fr.refl h
def r238_0:List AI:=[oC 4 (.i .i64 0)]
def r238_1:List AI:=[oM 6 0,
 oO 7 (.len false (.t 6)),
 oC 8 (.i .i64 0)]
def r238_2:List AI:=[oB 9 .lss (.t 8) (.t 7)]
def r238_3:List AI:=[oM 10 8,
 oM 5 10]
def r238_4:List AI:=[oM 11 1,
 oM 12 0,
 oM 13 5,
 oO 14 (.iaL 8 (.t 12) (.t 13)),
 oO 15 (.load 8 true (.t 14)),
 oO 16 (.callv (.t 11) [(.t 15)])]
def r238_5:List AI:=[oM 17 5,
 oM 4 17]
def r238_6:List AI:=[oB 18 .add (.t 8) (.c (.i .i64 1)),
 oM 8 18]
def r238_7:List AI:=[oC 4 (.i .i64 (-1))]
abbrev l238_0:AC:=(.seq (.reg 2 r238_2) (.seq (.cond (.t 9) .skip (.exit 0)) (.seq (.block 1 (.seq (.reg 3 r238_3) (.seq (.reg 4 r238_4) (.cond (.t 16) (.seq (.reg 5 r238_5) .ret) .skip)))) (.reg 6 r238_6))))
abbrev c238_1:AC:=(.seq (.reg 7 r238_7) .ret)
abbrev b238:AC:=(.seq (.reg 0 r238_0) (.seq (.seq (.reg 1 r238_1) (.block 0 (.loop l238_0))) c238_1))
def pf238:AF:={ nt:=19,res:=[.tmp 4],body:=b238 }
abbrev H238 (d:Nat)(st0:St)(Q:AE→Sl→St→Prop)(K:Int→Prop):Prop:=∀(σ:Sl)(st:St)(res0:Int),σ 4 = .i .i64 res0→Fr d (d,0) st0.bx st0.ow st.bx st.ow→K res0→Q .ret σ st
abbrev I238_0 (prog:Prog)(d:Nat)(Q:AE→Sl→St→Prop)(st0:St)(s0:List Dfr)(f1:Nat × List AV)(t7:Int)(t8:Int):Prop:=
  ∀(σ:Sl)(st:St)(o_s0:Own),σ 0 = .sl o_s0 (List.map Dfr.row s0)→σ 1 = .fn f1.1 f1.2→σ 7 = .i .i64 t7→σ 8 = .i .i64 t8→Fr d (d,0) st0.bx st0.ow st.bx st.ow→W prog d (.loop l238_0) σ st (blockW 0 (thenW prog d c238_1 Q))
def T238_2 (prog:Prog)(K:Int→Prop) :Prop:=
  K (-1)
def T238_1 (prog:Prog)(K:Int→Prop)(P0:Int→Prop)(s0:List Dfr)(f1:Nat × List AV)(t7:Int)(t8:Int):Prop:=
  (t8 < t7→0≤t8∧∃c'2:Dfr,s0[(t8).toNat]? = some c'2∧∃r'4:Bool,(PuN prog f1.1 ([c'2.av] ++ f1.2) (fun r=>r = .b r'4))∧(r'4 = true→K t8)∧(r'4 = false→P0 (IntKind.i64.wrap (t8 + 1))))∧(¬(t8 < t7)→T238_2 prog K )
def T238_0 (prog:Prog)(K:Int→Prop)(s0:List Dfr)(f1:Nat × List AV):Prop:=
  ∀P0:Int→Prop,(∀(t8:Int),T238_1 prog K P0 s0 f1 (s0.length:Int) t8→P0 t8)→P0 0
section
variable {prog:Prog}{d:Nat}{Q:AE→Sl→St→Prop}{K:Int→Prop}{st0:St}(hQ:H238 d st0 Q K){σ:Sl}{st:St}
include hQ
theorem w238_2 (FR:Fr d (d,0) st0.bx st0.ow st.bx st.ow)(h:T238_2 prog K ):W prog d c238_1 σ st Q:=
 q_ rfl (m_ (e_ (rt_ (hQ _ _ _ rfl FR h))))
theorem w238_1 {s0:List Dfr}{f1:Nat × List AV}{t7 t8:Int}{P0:Int→Prop} (kP0 :∀(t8:Int),P0 t8→I238_0 prog d Q st0 s0 f1 t7 t8){o_s0:Own}(H0:σ 0 = .sl o_s0 (List.map Dfr.row s0))(H1:σ 1 = .fn f1.1 f1.2)(H7:σ 7 = .i .i64 t7)(H8:σ 8 = .i .i64 t8)(FR:Fr d (d,0) st0.bx st0.ow st.bx st.ow)(h:T238_1 prog K P0 s0 f1 t7 t8):W prog d l238_0 σ st (thenW prog d (.loop l238_0) (blockW 0 (thenW prog d c238_1 Q))):=
 q_ rfl (b_ H8 H7 lss_ (e_ (sq_ (cs_ rfl (fun g'1=>sk_ (sq_ (bk_ (q_ rfl (m_ (m_ (e_ (q_ rfl (m_ (s_mvL H0 (m_ ((h.1 g'1).2.elim fun c'2 e'3=>ia_ rfl H8 (h.1 g'1).1 e'3.1 (Dfr.row_eq c'2) rfl (lf_ rfl rfl rfl (e'3.2.elim fun r'4 e'6=>s_callV H1 (sec rfl sen) (e'6.1) (fun st'7 hf'8=>e_ (cb_ rfl (fun g'9=>q_ rfl (m_ (m_ (e_ (rt_ (hQ _ _ _ H8 (Fr.raw FR hf'8) (e'6.2.1 g'9))))))) (fun g'9=>sk_ (W.reg0 rfl fun _ _=>b_ H8 rfl add_ (m_ (e_ (kP0 _ (e'6.2.2 g'9) _ _ _ H0 H1 H7 rfl (Fr.raw FR hf'8)))))))))))))))))))))) (fun g'1=>ex_ (w238_2 hQ FR (h.2 g'1)))))))
theorem w238_0 {s0:List Dfr}{f1:Nat × List AV}{o_s0:Own}(H0:σ 0 = .sl o_s0 (List.map Dfr.row s0))(H1:σ 1 = .fn f1.1 f1.2)(FR:Fr d (d,0) st0.bx st0.ow st.bx st.ow)(h:T238_0 prog K s0 f1):W prog d (.seq (.reg 0 r238_0) (.seq (.seq (.reg 1 r238_1) (.block 0 (.loop l238_0))) c238_1)) σ st Q:=
 q_ rfl (m_ (e_ (sq_ (q_ rfl (s_mvL H0 (ll_ rfl (m_ (e_ (bk_ (h (I238_0 prog d Q st0 s0 f1 (s0.length:Int)) (fun _ hb _ _ _ H0 H1 H7 H8 FR=>W.loop (w238_1 hQ (fun _ x=>x) H0 H1 H7 H8 FR hb)) _ _ _ H0 H1 rfl rfl FR))))))))))
end
theorem p238 {prog:Prog}(hf:prog.fn 238 = some pf238){s0:List Dfr}{f1:Nat × List AV}{K:Int→Prop}(h:T238_0 prog K s0 f1)(o_s0:Own):PuN prog 238 [.sl o_s0 (List.map Dfr.row s0),.fn f1.1 f1.2] (fun r=>∃res0:Int,(r = .i .i64 res0)∧K res0):=
  PuN.of hf rfl fun d st=>w238_0 (st0:=st) (Q:=fun e σ st'=>(e = .normal∨e = .ret)∧∃r,ares σ st' pf238.res = some r∧_∧Fr d (d,0) st.bx st.ow st'.bx st'.ow) (fun σ st'   res0 H4 hf hk=>⟨.inr rfl,.i .i64 res0,by simp only [pf238,ares,aresL,H4,ares1,Option.map_some,H4],⟨res0,rfl,hk⟩,hf⟩) (σ:=sl0 [.sl o_s0 (List.map Dfr.row s0),.fn f1.1 f1.2]) rfl rfl Fr.refl h
def r239_0:List AI:=[oC 4 (.i .i64 0)]
def r239_1:List AI:=[oM 6 0,
 oO 7 (.len false (.t 6)),
 oC 8 (.i .i64 0)]
def r239_2:List AI:=[oB 9 .lss (.t 8) (.t 7)]
def r239_3:List AI:=[oM 10 8,
 oM 5 10]
def r239_4:List AI:=[oM 11 1,
 oM 12 0,
 oM 13 5,
 oO 14 (.iaL 7 (.t 12) (.t 13)),
 oO 15 (.load 7 true (.t 14)),
 oO 16 (.callv (.t 11) [(.t 15)])]
def r239_5:List AI:=[oM 17 5,
 oM 4 17]
def r239_6:List AI:=[oB 18 .add (.t 8) (.c (.i .i64 1)),
 oM 8 18]
def r239_7:List AI:=[oC 4 (.i .i64 (-1))]
abbrev l239_0:AC:=(.seq (.reg 2 r239_2) (.seq (.cond (.t 9) .skip (.exit 0)) (.seq (.block 1 (.seq (.reg 3 r239_3) (.seq (.reg 4 r239_4) (.cond (.t 16) (.seq (.reg 5 r239_5) .ret) .skip)))) (.reg 6 r239_6))))
abbrev c239_1:AC:=(.seq (.reg 7 r239_7) .ret)
abbrev b239:AC:=(.seq (.reg 0 r239_0) (.seq (.seq (.reg 1 r239_1) (.block 0 (.loop l239_0))) c239_1))
def pf239:AF:={ nt:=19,res:=[.tmp 4],body:=b239 }
abbrev H239 (d:Nat)(st0:St)(Q:AE→Sl→St→Prop)(K:Int→Prop):Prop:=∀(σ:Sl)(st:St)(res0:Int),σ 4 = .i .i64 res0→Fr d (d,0) st0.bx st0.ow st.bx st.ow→K res0→Q .ret σ st
abbrev I239_0 (prog:Prog)(d:Nat)(Q:AE→Sl→St→Prop)(st0:St)(s0:List Pan)(f1:Nat × List AV)(t7:Int)(t8:Int):Prop:=
  ∀(σ:Sl)(st:St)(o_s0:Own),σ 0 = .sl o_s0 (List.map Pan.row s0)→σ 1 = .fn f1.1 f1.2→σ 7 = .i .i64 t7→σ 8 = .i .i64 t8→Fr d (d,0) st0.bx st0.ow st.bx st.ow→W prog d (.loop l239_0) σ st (blockW 0 (thenW prog d c239_1 Q))
def T239_2 (prog:Prog)(K:Int→Prop) :Prop:=
  K (-1)
def T239_1 (prog:Prog)(K:Int→Prop)(P0:Int→Prop)(s0:List Pan)(f1:Nat × List AV)(t7:Int)(t8:Int):Prop:=
  (t8 < t7→0≤t8∧∃c'2:Pan,s0[(t8).toNat]? = some c'2∧∃r'4:Bool,(PuN prog f1.1 ([c'2.av] ++ f1.2) (fun r=>r = .b r'4))∧(r'4 = true→K t8)∧(r'4 = false→P0 (IntKind.i64.wrap (t8 + 1))))∧(¬(t8 < t7)→T239_2 prog K )
def T239_0 (prog:Prog)(K:Int→Prop)(s0:List Pan)(f1:Nat × List AV):Prop:=
  ∀P0:Int→Prop,(∀(t8:Int),T239_1 prog K P0 s0 f1 (s0.length:Int) t8→P0 t8)→P0 0
section
variable {prog:Prog}{d:Nat}{Q:AE→Sl→St→Prop}{K:Int→Prop}{st0:St}(hQ:H239 d st0 Q K){σ:Sl}{st:St}
include hQ
theorem w239_2 (FR:Fr d (d,0) st0.bx st0.ow st.bx st.ow)(h:T239_2 prog K ):W prog d c239_1 σ st Q:=
 q_ rfl (m_ (e_ (rt_ (hQ _ _ _ rfl FR h))))
theorem w239_1 {s0:List Pan}{f1:Nat × List AV}{t7 t8:Int}{P0:Int→Prop} (kP0 :∀(t8:Int),P0 t8→I239_0 prog d Q st0 s0 f1 t7 t8){o_s0:Own}(H0:σ 0 = .sl o_s0 (List.map Pan.row s0))(H1:σ 1 = .fn f1.1 f1.2)(H7:σ 7 = .i .i64 t7)(H8:σ 8 = .i .i64 t8)(FR:Fr d (d,0) st0.bx st0.ow st.bx st.ow)(h:T239_1 prog K P0 s0 f1 t7 t8):W prog d l239_0 σ st (thenW prog d (.loop l239_0) (blockW 0 (thenW prog d c239_1 Q))):=
 q_ rfl (b_ H8 H7 lss_ (e_ (sq_ (cs_ rfl (fun g'1=>sk_ (sq_ (bk_ (q_ rfl (m_ (m_ (e_ (q_ rfl (m_ (s_mvL H0 (m_ ((h.1 g'1).2.elim fun c'2 e'3=>ia_ rfl H8 (h.1 g'1).1 e'3.1 (Pan.row_eq c'2) rfl (lf_ rfl rfl rfl (e'3.2.elim fun r'4 e'6=>s_callV H1 (sec rfl sen) (e'6.1) (fun st'7 hf'8=>e_ (cb_ rfl (fun g'9=>q_ rfl (m_ (m_ (e_ (rt_ (hQ _ _ _ H8 (Fr.raw FR hf'8) (e'6.2.1 g'9))))))) (fun g'9=>sk_ (W.reg0 rfl fun _ _=>b_ H8 rfl add_ (m_ (e_ (kP0 _ (e'6.2.2 g'9) _ _ _ H0 H1 H7 rfl (Fr.raw FR hf'8)))))))))))))))))))))) (fun g'1=>ex_ (w239_2 hQ FR (h.2 g'1)))))))
theorem w239_0 {s0:List Pan}{f1:Nat × List AV}{o_s0:Own}(H0:σ 0 = .sl o_s0 (List.map Pan.row s0))(H1:σ 1 = .fn f1.1 f1.2)(FR:Fr d (d,0) st0.bx st0.ow st.bx st.ow)(h:T239_0 prog K s0 f1):W prog d (.seq (.reg 0 r239_0) (.seq (.seq (.reg 1 r239_1) (.block 0 (.loop l239_0))) c239_1)) σ st Q:=
 q_ rfl (m_ (e_ (sq_ (q_ rfl (s_mvL H0 (ll_ rfl (m_ (e_ (bk_ (h (I239_0 prog d Q st0 s0 f1 (s0.length:Int)) (fun _ hb _ _ _ H0 H1 H7 H8 FR=>W.loop (w239_1 hQ (fun _ x=>x) H0 H1 H7 H8 FR hb)) _ _ _ H0 H1 rfl rfl FR))))))))))
end
theorem p239 {prog:Prog}(hf:prog.fn 239 = some pf239){s0:List Pan}{f1:Nat × List AV}{K:Int→Prop}(h:T239_0 prog K s0 f1)(o_s0:Own):PuN prog 239 [.sl o_s0 (List.map Pan.row s0),.fn f1.1 f1.2] (fun r=>∃res0:Int,(r = .i .i64 res0)∧K res0):=
  PuN.of hf rfl fun d st=>w239_0 (st0:=st) (Q:=fun e σ st'=>(e = .normal∨e = .ret)∧∃r,ares σ st' pf239.res = some r∧_∧Fr d (d,0) st.bx st.ow st'.bx st'.ow) (fun σ st'   res0 H4 hf hk=>⟨.inr rfl,.i .i64 res0,by simp only [pf239,ares,aresL,H4,ares1,Option.map_some,H4],⟨res0,rfl,hk⟩,hf⟩) (σ:=sl0 [.sl o_s0 (List.map Pan.row s0),.fn f1.1 f1.2]) rfl rfl Fr.refl h
def r224_0:List AI:=[oC 4 (.b false)]
def r224_1:List AI:=[oM 5 0,
 oM 6 1,
 oO 7 (.call true 236 [(.t 5),(.t 6)]),
 oB 8 .geq (.t 7) (.c (.i .i64 0)),
 oM 4 8]
abbrev b224:AC:=(.seq (.reg 0 r224_0) (.seq (.reg 1 r224_1) .ret))
def pf224:AF:={ nt:=9,res:=[.tmp 4],body:=b224 }
abbrev H224 (d:Nat)(st0:St)(Q:AE→Sl→St→Prop)(K:Bool→Prop):Prop:=∀(σ:Sl)(st:St)(res0:Bool),σ 4 = .b res0→Fr d (d,0) st0.bx st0.ow st.bx st.ow→K res0→Q .ret σ st
def T224_0 (prog:Prog)(K:Bool→Prop)(s0:List Rou)(f1:Nat × List AV):Prop:=
  ∃r'1:Int,(∀q'3:Own,PuN prog 236 [.sl q'3 (List.map Rou.row s0),.fn f1.1 f1.2] (fun r=>r = .i .i64 r'1))∧K (decide (r'1 ≥ 0))
section
variable {prog:Prog}{d:Nat}{Q:AE→Sl→St→Prop}{K:Bool→Prop}{st0:St}(hQ:H224 d st0 Q K){σ:Sl}{st:St}
include hQ
theorem w224_0 {s0:List Rou}{f1:Nat × List AV}{o_s0:Own}(H0:σ 0 = .sl o_s0 (List.map Rou.row s0))(H1:σ 1 = .fn f1.1 f1.2)(FR:Fr d (d,0) st0.bx st0.ow st.bx st.ow)(h:T224_0 prog K s0 f1):W prog d (.seq (.reg 0 r224_0) (.seq (.reg 1 r224_1) .ret)) σ st Q:=
 q_ rfl (m_ (e_ (q_ rfl (s_mvL H0 (m_ (h.elim fun r'1 e'4=>s_callN (sec rfl (sec H1 sen)) (e'4.1 _) (fun st'5 hf'6=>b_ rfl rfl geq_ (m_ (e_ (rt_ (hQ _ _ _ rfl (Fr.raw FR hf'6) e'4.2)))))))))))
end
theorem p224 {prog:Prog}(hf:prog.fn 224 = some pf224){s0:List Rou}{f1:Nat × List AV}{K:Bool→Prop}(h:T224_0 prog K s0 f1)(o_s0:Own):PuN prog 224 [.sl o_s0 (List.map Rou.row s0),.fn f1.1 f1.2] (fun r=>∃res0:Bool,(r = .b res0)∧K res0):=
  PuN.of hf rfl fun d st=>w224_0 (st0:=st) (Q:=fun e σ st'=>(e = .normal∨e = .ret)∧∃r,ares σ st' pf224.res = some r∧_∧Fr d (d,0) st.bx st.ow st'.bx st'.ow) (fun σ st'   res0 H4 hf hk=>⟨.inr rfl,.b res0,by simp only [pf224,ares,aresL,H4,ares1,Option.map_some,H4],⟨res0,rfl,hk⟩,hf⟩) (σ:=sl0 [.sl o_s0 (List.map Rou.row s0),.fn f1.1 f1.2]) rfl rfl Fr.refl h
def r227_0:List AI:=[oC 4 (.b false)]
def r227_1:List AI:=[oM 5 0,
 oM 6 1,
 oO 7 (.call true 237 [(.t 5),(.t 6)]),
 oB 8 .geq (.t 7) (.c (.i .i64 0)),
 oM 4 8]
abbrev b227:AC:=(.seq (.reg 0 r227_0) (.seq (.reg 1 r227_1) .ret))
def pf227:AF:={ nt:=9,res:=[.tmp 4],body:=b227 }
abbrev H227 (d:Nat)(st0:St)(Q:AE→Sl→St→Prop)(K:Bool→Prop):Prop:=∀(σ:Sl)(st:St)(res0:Bool),σ 4 = .b res0→Fr d (d,0) st0.bx st0.ow st.bx st.ow→K res0→Q .ret σ st
def T227_0 (prog:Prog)(K:Bool→Prop)(s0:List Frm)(f1:Nat × List AV):Prop:=
  ∃r'1:Int,(∀q'3:Own,PuN prog 237 [.sl q'3 (List.map Frm.row s0),.fn f1.1 f1.2] (fun r=>r = .i .i64 r'1))∧K (decide (r'1 ≥ 0))
section
variable {prog:Prog}{d:Nat}{Q:AE→Sl→St→Prop}{K:Bool→Prop}{st0:St}(hQ:H227 d st0 Q K){σ:Sl}{st:St}
include hQ
theorem w227_0 {s0:List Frm}{f1:Nat × List AV}{o_s0:Own}(H0:σ 0 = .sl o_s0 (List.map Frm.row s0))(H1:σ 1 = .fn f1.1 f1.2)(FR:Fr d (d,0) st0.bx st0.ow st.bx st.ow)(h:T227_0 prog K s0 f1):W prog d (.seq (.reg 0 r227_0) (.seq (.reg 1 r227_1) .ret)) σ st Q:=
 q_ rfl (m_ (e_ (q_ rfl (s_mvL H0 (m_ (h.elim fun r'1 e'4=>s_callN (sec rfl (sec H1 sen)) (e'4.1 _) (fun st'5 hf'6=>b_ rfl rfl geq_ (m_ (e_ (rt_ (hQ _ _ _ rfl (Fr.raw FR hf'6) e'4.2)))))))))))
end
theorem p227 {prog:Prog}(hf:prog.fn 227 = some pf227){s0:List Frm}{f1:Nat × List AV}{K:Bool→Prop}(h:T227_0 prog K s0 f1)(o_s0:Own):PuN prog 227 [.sl o_s0 (List.map Frm.row s0),.fn f1.1 f1.2] (fun r=>∃res0:Bool,(r = .b res0)∧K res0):=
  PuN.of hf rfl fun d st=>w227_0 (st0:=st) (Q:=fun e σ st'=>(e = .normal∨e = .ret)∧∃r,ares σ st' pf227.res = some r∧_∧Fr d (d,0) st.bx st.ow st'.bx st'.ow) (fun σ st'   res0 H4 hf hk=>⟨.inr rfl,.b res0,by simp only [pf227,ares,aresL,H4,ares1,Option.map_some,H4],⟨res0,rfl,hk⟩,hf⟩) (σ:=sl0 [.sl o_s0 (List.map Frm.row s0),.fn f1.1 f1.2]) rfl rfl Fr.refl h
def r229_0:List AI:=[oC 4 (.b false)]
def r229_1:List AI:=[oM 5 0,
 oM 6 1,
 oO 7 (.call true 238 [(.t 5),(.t 6)]),
 oB 8 .geq (.t 7) (.c (.i .i64 0)),
 oM 4 8]
abbrev b229:AC:=(.seq (.reg 0 r229_0) (.seq (.reg 1 r229_1) .ret))
def pf229:AF:={ nt:=9,res:=[.tmp 4],body:=b229 }
abbrev H229 (d:Nat)(st0:St)(Q:AE→Sl→St→Prop)(K:Bool→Prop):Prop:=∀(σ:Sl)(st:St)(res0:Bool),σ 4 = .b res0→Fr d (d,0) st0.bx st0.ow st.bx st.ow→K res0→Q .ret σ st
def T229_0 (prog:Prog)(K:Bool→Prop)(s0:List Dfr)(f1:Nat × List AV):Prop:=
  ∃r'1:Int,(∀q'3:Own,PuN prog 238 [.sl q'3 (List.map Dfr.row s0),.fn f1.1 f1.2] (fun r=>r = .i .i64 r'1))∧K (decide (r'1 ≥ 0))
section
variable {prog:Prog}{d:Nat}{Q:AE→Sl→St→Prop}{K:Bool→Prop}{st0:St}(hQ:H229 d st0 Q K){σ:Sl}{st:St}
include hQ
theorem w229_0 {s0:List Dfr}{f1:Nat × List AV}{o_s0:Own}(H0:σ 0 = .sl o_s0 (List.map Dfr.row s0))(H1:σ 1 = .fn f1.1 f1.2)(FR:Fr d (d,0) st0.bx st0.ow st.bx st.ow)(h:T229_0 prog K s0 f1):W prog d (.seq (.reg 0 r229_0) (.seq (.reg 1 r229_1) .ret)) σ st Q:=
 q_ rfl (m_ (e_ (q_ rfl (s_mvL H0 (m_ (h.elim fun r'1 e'4=>s_callN (sec rfl (sec H1 sen)) (e'4.1 _) (fun st'5 hf'6=>b_ rfl rfl geq_ (m_ (e_ (rt_ (hQ _ _ _ rfl (Fr.raw FR hf'6) e'4.2)))))))))))
end
theorem p229 {prog:Prog}(hf:prog.fn 229 = some pf229){s0:List Dfr}{f1:Nat × List AV}{K:Bool→Prop}(h:T229_0 prog K s0 f1)(o_s0:Own):PuN prog 229 [.sl o_s0 (List.map Dfr.row s0),.fn f1.1 f1.2] (fun r=>∃res0:Bool,(r = .b res0)∧K res0):=
  PuN.of hf rfl fun d st=>w229_0 (st0:=st) (Q:=fun e σ st'=>(e = .normal∨e = .ret)∧∃r,ares σ st' pf229.res = some r∧_∧Fr d (d,0) st.bx st.ow st'.bx st'.ow) (fun σ st'   res0 H4 hf hk=>⟨.inr rfl,.b res0,by simp only [pf229,ares,aresL,H4,ares1,Option.map_some,H4],⟨res0,rfl,hk⟩,hf⟩) (σ:=sl0 [.sl o_s0 (List.map Dfr.row s0),.fn f1.1 f1.2]) rfl rfl Fr.refl h
def r232_0:List AI:=[oC 4 (.b false)]
def r232_1:List AI:=[oM 5 0,
 oM 6 1,
 oO 7 (.call true 239 [(.t 5),(.t 6)]),
 oB 8 .geq (.t 7) (.c (.i .i64 0)),
 oM 4 8]
abbrev b232:AC:=(.seq (.reg 0 r232_0) (.seq (.reg 1 r232_1) .ret))
def pf232:AF:={ nt:=9,res:=[.tmp 4],body:=b232 }
abbrev H232 (d:Nat)(st0:St)(Q:AE→Sl→St→Prop)(K:Bool→Prop):Prop:=∀(σ:Sl)(st:St)(res0:Bool),σ 4 = .b res0→Fr d (d,0) st0.bx st0.ow st.bx st.ow→K res0→Q .ret σ st
def T232_0 (prog:Prog)(K:Bool→Prop)(s0:List Pan)(f1:Nat × List AV):Prop:=
  ∃r'1:Int,(∀q'3:Own,PuN prog 239 [.sl q'3 (List.map Pan.row s0),.fn f1.1 f1.2] (fun r=>r = .i .i64 r'1))∧K (decide (r'1 ≥ 0))
section
variable {prog:Prog}{d:Nat}{Q:AE→Sl→St→Prop}{K:Bool→Prop}{st0:St}(hQ:H232 d st0 Q K){σ:Sl}{st:St}
include hQ
theorem w232_0 {s0:List Pan}{f1:Nat × List AV}{o_s0:Own}(H0:σ 0 = .sl o_s0 (List.map Pan.row s0))(H1:σ 1 = .fn f1.1 f1.2)(FR:Fr d (d,0) st0.bx st0.ow st.bx st.ow)(h:T232_0 prog K s0 f1):W prog d (.seq (.reg 0 r232_0) (.seq (.reg 1 r232_1) .ret)) σ st Q:=
 q_ rfl (m_ (e_ (q_ rfl (s_mvL H0 (m_ (h.elim fun r'1 e'4=>s_callN (sec rfl (sec H1 sen)) (e'4.1 _) (fun st'5 hf'6=>b_ rfl rfl geq_ (m_ (e_ (rt_ (hQ _ _ _ rfl (Fr.raw FR hf'6) e'4.2)))))))))))
end
theorem p232 {prog:Prog}(hf:prog.fn 232 = some pf232){s0:List Pan}{f1:Nat × List AV}{K:Bool→Prop}(h:T232_0 prog K s0 f1)(o_s0:Own):PuN prog 232 [.sl o_s0 (List.map Pan.row s0),.fn f1.1 f1.2] (fun r=>∃res0:Bool,(r = .b res0)∧K res0):=
  PuN.of hf rfl fun d st=>w232_0 (st0:=st) (Q:=fun e σ st'=>(e = .normal∨e = .ret)∧∃r,ares σ st' pf232.res = some r∧_∧Fr d (d,0) st.bx st.ow st'.bx st'.ow) (fun σ st'   res0 H4 hf hk=>⟨.inr rfl,.b res0,by simp only [pf232,ares,aresL,H4,ares1,Option.map_some,H4],⟨res0,rfl,hk⟩,hf⟩) (σ:=sl0 [.sl o_s0 (List.map Pan.row s0),.fn f1.1 f1.2]) rfl rfl Fr.refl h
end Go.AM

/- Parts of the proof. -/
namespace Go.AM
open Go
set_option linter.unusedVariables false
set_option linter.unusedSimpArgs false
set_option maxRecDepth 4000
attribute [local irreducible] WO fillCells fillRows
def r228_0:List AI:=[oO 2 (.box 4 (.t 0)),
 oC 3 (.b false)]
def r228_1:List AI:=[oO 4 (.load 3 true (.t 1)),
 oO 5 (.load 4 true (.t 2)),
 oO 6 (.call false 86 [(.t 4),(.t 5)]),
 oB 7 .neq (.t 6) (.c (.i .i64 0)),
 oM 3 7]
abbrev b228:AC:=(.seq (.reg 0 r228_0) (.seq (.reg 1 r228_1) .ret))
def pf228:AF:={ nt:=8,res:=[.tmp 3],body:=b228 }
abbrev H228 (d:Nat)(st0:St)(Q:AE→Sl→St→Prop)(K:Bool→Prop):Prop:=∀(σ:Sl)(st:St)(res0:Bool),σ 3 = .b res0→Fr d (d,0) st0.bx st0.ow st.bx st.ow→K res0→Q .ret σ st
def T228_0 (prog:Prog)(K:Bool→Prop)(y0:Frm)(t1:Img):Prop:=
  ∃r'1:Int,Pus prog 86 [t1.av,y0.av] (.i .i64 r'1)∧K (decide (r'1≠0))
section
variable {prog:Prog}{d:Nat}{Q:AE→Sl→St→Prop}{K:Bool→Prop}{st0:St}(hQ:H228 d st0 Q K){σ:Sl}{st:St}
include hQ
theorem w228_0 {y0:Frm}{t1:Img}(H0:σ 0 = y0.av)(H1:σ 1 = .fp [.sl .ext (List.map Typ.row t1.types),.sl .ext (List.map rowS t1.texts),.sl .ext (List.map Fun.row t1.funcs)])(FR:Fr d (d,0) st0.bx st0.ow st.bx st.ow)(h:T228_0 prog K y0 t1):W prog d (.seq (.reg 0 r228_0) (.seq (.reg 1 r228_1) .ret)) σ st Q:=
 q_ rfl (s_box H0 rfl (m_ (e_ (q_ rfl (lf_ H1 rfl rfl (l_ rfl lk_here rfl rfl (h.elim fun r'1 e'2=>ca_ (sc rfl rfl (sc rfl rfl sn)) e'2.1 (b_ rfl rfl neq_ (m_ (e_ (rt_ (hQ _ _ _ rfl (Fr.box FR) e'2.2))))))))))))
end
theorem p228 {prog:Prog}(hf:prog.fn 228 = some pf228){y0:Frm}{t1:Img}{K:Bool→Prop}(h:T228_0 prog K y0 t1):PuN prog 228 [y0.av,.fp [.sl .ext (List.map Typ.row t1.types),.sl .ext (List.map rowS t1.texts),.sl .ext (List.map Fun.row t1.funcs)]] (fun r=>∃res0:Bool,(r = .b res0)∧K res0):=
  PuN.of hf rfl fun d st=>w228_0 (st0:=st) (Q:=fun e σ st'=>(e = .normal∨e = .ret)∧∃r,ares σ st' pf228.res = some r∧_∧Fr d (d,0) st.bx st.ow st'.bx st'.ow) (fun σ st'   res0 H3 hf hk=>⟨.inr rfl,.b res0,by simp only [pf228,ares,aresL,H3,ares1,Option.map_some,H3],⟨res0,rfl,hk⟩,hf⟩) (σ:=sl0 [y0.av,.fp [.sl .ext (List.map Typ.row t1.types),.sl .ext (List.map rowS t1.texts),.sl .ext (List.map Fun.row t1.funcs)]]) rfl rfl Fr.refl h
def r230_0:List AI:=[oO 3 (.box 8 (.t 0)),
 oC 4 (.b false)]
def r230_1:List AI:=[oO 5 (.load 3 true (.t 1)),
 oL 6 2,
 oO 7 (.load 8 true (.t 3)),
 oO 8 (.call false 231 [(.t 5),(.t 6),(.t 7)]),
 oO 9 (.un .not (.t 8)),
 oM 4 9]
abbrev b230:AC:=(.seq (.reg 0 r230_0) (.seq (.reg 1 r230_1) .ret))
def pf230:AF:={ nt:=10,res:=[.tmp 4],body:=b230 }
abbrev H230 (d:Nat)(st0:St)(Q:AE→Sl→St→Prop)(K:Bool→Prop):Prop:=∀(σ:Sl)(st:St)(res0:Bool),σ 4 = .b res0→Fr d (d,0) st0.bx st0.ow st.bx st.ow→K res0→Q .ret σ st
def T230_0 (prog:Prog)(K:Bool→Prop)(y0:Dfr)(t1:Img)(t2:Int):Prop:=
  ∃r'1:Bool,Pus prog 231 [t1.av,.i .i64 t2,y0.av] (.b r'1)∧K (!r'1)
section
variable {prog:Prog}{d:Nat}{Q:AE→Sl→St→Prop}{K:Bool→Prop}{st0:St}(hQ:H230 d st0 Q K){σ:Sl}{st:St}
include hQ
theorem w230_0 {y0:Dfr}{t1:Img}{t2:Int}(H0:σ 0 = y0.av)(H1:σ 1 = .fp [.sl .ext (List.map Typ.row t1.types),.sl .ext (List.map rowS t1.texts),.sl .ext (List.map Fun.row t1.funcs)])(H2:σ 2 = .fp [.i .i64 t2])(FR:Fr d (d,0) st0.bx st0.ow st.bx st.ow)(h:T230_0 prog K y0 t1 t2):W prog d (.seq (.reg 0 r230_0) (.seq (.reg 1 r230_1) .ret)) σ st Q:=
 q_ rfl (s_box H0 rfl (m_ (e_ (q_ rfl (lf_ H1 rfl rfl (lf_ H2 rfl rfl (l_ rfl lk_here rfl rfl (h.elim fun r'1 e'2=>ca_ (sc rfl rfl (sc rfl rfl (sc rfl rfl sn))) e'2.1 (nt_ rfl (m_ (e_ (rt_ (hQ _ _ _ rfl (Fr.box FR) e'2.2)))))))))))))
end
theorem p230 {prog:Prog}(hf:prog.fn 230 = some pf230){y0:Dfr}{t1:Img}{t2:Int}{K:Bool→Prop}(h:T230_0 prog K y0 t1 t2):PuN prog 230 [y0.av,.fp [.sl .ext (List.map Typ.row t1.types),.sl .ext (List.map rowS t1.texts),.sl .ext (List.map Fun.row t1.funcs)],.fp [.i .i64 t2]] (fun r=>∃res0:Bool,(r = .b res0)∧K res0):=
  PuN.of hf rfl fun d st=>w230_0 (st0:=st) (Q:=fun e σ st'=>(e = .normal∨e = .ret)∧∃r,ares σ st' pf230.res = some r∧_∧Fr d (d,0) st.bx st.ow st'.bx st'.ow) (fun σ st'   res0 H4 hf hk=>⟨.inr rfl,.b res0,by simp only [pf230,ares,aresL,H4,ares1,Option.map_some,H4],⟨res0,rfl,hk⟩,hf⟩) (σ:=sl0 [y0.av,.fp [.sl .ext (List.map Typ.row t1.types),.sl .ext (List.map rowS t1.texts),.sl .ext (List.map Fun.row t1.funcs)],.fp [.i .i64 t2]]) rfl rfl rfl Fr.refl h
def r233_0:List AI:=[oO 1 (.box 7 (.t 0)),
 oC 2 (.b false)]
def r233_1:List AI:=[oO 3 (.load 7 true (.t 1)),
 oO 4 (.call false 158 [(.t 3)]),
 oB 5 .neq (.t 4) (.c (.i .i64 0)),
 oM 2 5]
abbrev b233:AC:=(.seq (.reg 0 r233_0) (.seq (.reg 1 r233_1) .ret))
def pf233:AF:={ nt:=6,res:=[.tmp 2],body:=b233 }
abbrev H233 (d:Nat)(st0:St)(Q:AE→Sl→St→Prop)(K:Bool→Prop):Prop:=∀(σ:Sl)(st:St)(res0:Bool),σ 2 = .b res0→Fr d (d,0) st0.bx st0.ow st.bx st.ow→K res0→Q .ret σ st
def T233_0 (prog:Prog)(K:Bool→Prop)(y0:Pan):Prop:=
  ∃r'1:Int,Pus prog 158 [y0.av] (.i .i64 r'1)∧K (decide (r'1≠0))
section
variable {prog:Prog}{d:Nat}{Q:AE→Sl→St→Prop}{K:Bool→Prop}{st0:St}(hQ:H233 d st0 Q K){σ:Sl}{st:St}
include hQ
theorem w233_0 {y0:Pan}(H0:σ 0 = y0.av)(FR:Fr d (d,0) st0.bx st0.ow st.bx st.ow)(h:T233_0 prog K y0):W prog d (.seq (.reg 0 r233_0) (.seq (.reg 1 r233_1) .ret)) σ st Q:=
 q_ rfl (s_box H0 rfl (m_ (e_ (q_ rfl (l_ rfl lk_here rfl rfl (h.elim fun r'1 e'2=>ca_ (sc rfl rfl sn) e'2.1 (b_ rfl rfl neq_ (m_ (e_ (rt_ (hQ _ _ _ rfl (Fr.box FR) e'2.2)))))))))))
end
theorem p233 {prog:Prog}(hf:prog.fn 233 = some pf233){y0:Pan}{K:Bool→Prop}(h:T233_0 prog K y0):PuN prog 233 [y0.av] (fun r=>∃res0:Bool,(r = .b res0)∧K res0):=
  PuN.of hf rfl fun d st=>w233_0 (st0:=st) (Q:=fun e σ st'=>(e = .normal∨e = .ret)∧∃r,ares σ st' pf233.res = some r∧_∧Fr d (d,0) st.bx st.ow st'.bx st'.ow) (fun σ st'   res0 H2 hf hk=>⟨.inr rfl,.b res0,by simp only [pf233,ares,aresL,H2,ares1,Option.map_some,H2],⟨res0,rfl,hk⟩,hf⟩) (σ:=sl0 [y0.av]) rfl Fr.refl h
def r231_0:List AI:=[oO 3 (.box 3 (.t 0)),
 oO 5 (.box 8 (.t 2)),
 oC 6 (.b false)]
def r231_1:List AI:=[oF 8 0 5,
 oL 9 8,
 oB 10 .lss (.t 9) (.c (.i .i64 0)),
 oM 11 10,
 oG 12 (.fad 0 (.t 5)) 11 false,
 oG 13 (.load 1 false (.t 12)) 11 false,
 oG 14 (.mv (.t 1)) 11 false,
 oG 15 (.bin .geq (.t 13) (.t 14)) 11 false,
 oO 16 (.pick (.t 11) (.c (.b true)) (.t 15)),
 oM 17 16,
 oG 18 (.fad 1 (.t 5)) 17 false,
 oG 19 (.load 1 false (.t 18)) 17 false,
 oG 20 (.bin .lss (.t 19) (.c (.i .i64 0))) 17 false,
 oO 21 (.pick (.t 17) (.c (.b true)) (.t 20)),
 oM 22 21,
 oG 23 (.fad 1 (.t 5)) 22 false,
 oG 24 (.load 1 false (.t 23)) 22 false,
 oG 25 (.fad 2 (.t 3)) 22 false,
 oG 26 (.load 1 false (.t 25)) 22 false,
 oG 27 (.len false (.t 26)) 22 false,
 oG 28 (.bin .geq (.t 24) (.t 27)) 22 false,
 oO 29 (.pick (.t 22) (.c (.b true)) (.t 28)),
 oM 30 29,
 oG 31 (.fad 2 (.t 3)) 30 false,
 oG 32 (.load 1 false (.t 31)) 30 false,
 oG 33 (.fad 1 (.t 5)) 30 false,
 oG 34 (.load 1 false (.t 33)) 30 false,
 oG 35 (.iaL 7 (.t 32) (.t 34)) 30 false,
 oG 36 (.fad 0 (.t 35)) 30 false,
 oG 37 (.load 1 false (.t 36)) 30 false,
 oG 38 (.len true (.t 37)) 30 false,
 oG 39 (.bin .gtr (.t 38) (.c (.i .i64 16))) 30 false,
 oO 40 (.pick (.t 30) (.c (.b true)) (.t 39))]
def r231_2:List AI:=[oC 6 (.b false)]
def r231_3:List AI:=[oF 41 2 5,
 oL 42 41,
 oO 43 (.un .not (.t 42))]
def r231_4:List AI:=[oF 44 3 5,
 oO 45 (.load 5 true (.t 44)),
 oO 7 (.alloc [.i .u8 0,.i .i64 0,.s [],.sl .full [],.b false]),
 oS 5 7 45]
def r231_5:List AI:=[oF 46 0 7,
 oL 47 46,
 oB 48 .eql (.t 47) (.c (.i .u8 0)),
 oM 49 48,
 oG 50 (.fad 1 (.t 7)) 49 true,
 oG 51 (.load 1 false (.t 50)) 49 true,
 oG 52 (.bin .eql (.t 51) (.c (.i .i64 0))) 49 true,
 oO 53 (.pick (.t 49) (.t 52) (.c (.b false))),
 oM 54 53,
 oG 55 (.fad 2 (.t 7)) 54 true,
 oG 56 (.load 1 false (.t 55)) 54 true,
 oG 57 (.bin .eql (.t 56) (.c (.s []))) 54 true,
 oO 58 (.pick (.t 54) (.t 57) (.c (.b false))),
 oM 59 58,
 oG 60 (.fad 3 (.t 7)) 59 true,
 oG 61 (.load 1 false (.t 60)) 59 true,
 oG 62 (.len false (.t 61)) 59 true,
 oG 63 (.bin .eql (.t 62) (.c (.i .i64 0))) 59 true,
 oO 64 (.pick (.t 59) (.t 63) (.c (.b false))),
 oM 65 64,
 oG 66 (.fad 4 (.t 7)) 65 true,
 oG 67 (.load 1 false (.t 66)) 65 true,
 oG 68 (.un .not (.t 67)) 65 true,
 oO 69 (.pick (.t 65) (.t 68) (.c (.b false))),
 oM 6 69]
def r231_6:List AI:=[oF 70 3 5,
 oF 71 0 70,
 oL 72 71]
def r231_7:List AI:=[oB 74 .eql (.t 72) (.c (.i .u8 1)),
 oM 73 74]
def r231_8:List AI:=[oB 75 .eql (.t 72) (.c (.i .u8 2)),
 oM 73 75]
def r231_9:List AI:=[oB 76 .eql (.t 72) (.c (.i .u8 4)),
 oM 73 76]
def r231_10:List AI:=[oF 77 3 5,
 oO 78 (.load 5 true (.t 77)),
 oO 79 (.call false 76 [(.t 78)]),
 oB 80 .eql (.t 79) (.c (.i .i64 0)),
 oM 6 80]
def r231_11:List AI:=[oC 6 (.b false)]
abbrev c231_0:AC:=(.cond (.t 73) (.seq (.reg 10 r231_10) .ret) .skip)
abbrev c231_1:AC:=(.seq (.seq (.reg 6 r231_6) (.block 0 (.seq (.seq (.reg 7 r231_7) (.cond (.t 73) .skip (.seq (.reg 8 r231_8) (.cond (.t 73) .skip (.reg 9 r231_9))))) c231_0))) (.seq (.reg 11 r231_11) .ret))
abbrev c231_2:AC:=(.seq (.seq (.reg 3 r231_3) (.cond (.t 43) (.seq (.reg 4 r231_4) (.seq (.reg 5 r231_5) .ret)) .skip)) c231_1)
abbrev c231_3:AC:=(.seq (.seq (.reg 1 r231_1) (.cond (.t 40) (.seq (.reg 2 r231_2) .ret) .skip)) c231_2)
abbrev b231:AC:=(.seq (.reg 0 r231_0) c231_3)
def pf231:AF:={ nt:=81,res:=[.tmp 6],body:=b231 }
abbrev H231 (Q:AE→Sl→St→Prop)(K:Bool→Prop):Prop:=∀(σ:Sl)(st:St)(res0:Bool),σ 6 = .b res0→K res0→Q .ret σ st
def T231_4 (prog:Prog)(K:Bool→Prop)(t73:Bool)(m1:Dfr):Prop:=
  (t73 = true→∃r'2:Int,Pus prog 76 [m1.arg.av] (.i .i64 r'2)∧K (decide (r'2 = 0)))∧(t73 = false→K false)
def T231_3 (prog:Prog)(K:Bool→Prop)(m1:Dfr):Prop:=
  (m1.arg.kind = 1→T231_4 prog K (decide (m1.arg.kind = 1)) m1)∧(¬(m1.arg.kind = 1)→(m1.arg.kind = 2→T231_4 prog K (decide (m1.arg.kind = 2)) m1)∧(¬(m1.arg.kind = 2)→T231_4 prog K (decide (m1.arg.kind = 4)) m1))
def T231_2 (prog:Prog)(K:Bool→Prop)(m1:Dfr):Prop:=
  ((!m1.hasArg) = true→(m1.arg.kind = 0→(m1.arg.int = 0→(m1.arg.text = ([]:List UInt8)→((m1.arg.list.length:Int) = 0→K (!m1.arg.cut))∧(¬((m1.arg.list.length:Int) = 0)→K false))∧(¬(m1.arg.text = ([]:List UInt8))→K false))∧(¬(m1.arg.int = 0)→K false))∧(¬(m1.arg.kind = 0)→K false))∧((!m1.hasArg) = false→T231_3 prog K m1)
def T231_1 (prog:Prog)(K:Bool→Prop)(frames1:Int)(m0:Img)(m1:Dfr):Prop:=
  (m1.frame < 0→K false)∧(¬(m1.frame < 0)→(m1.frame ≥ frames1→K false)∧(¬(m1.frame ≥ frames1)→(m1.func < 0→K false)∧(¬(m1.func < 0)→(m1.func ≥ (m0.funcs.length:Int)→K false)∧(¬(m1.func ≥ (m0.funcs.length:Int))→0≤m1.func∧∃c'5:Fun,m0.funcs[(m1.func).toNat]? = some c'5∧((c'5.name.length:Int) > 16→K false)∧(¬((c'5.name.length:Int) > 16)→T231_2 prog K m1)))))
def T231_0 (prog:Prog)(K:Bool→Prop)(m0:Img)(frames1:Int)(d2:Dfr):Prop:=
  T231_1 prog K frames1 m0 d2
section
variable {prog:Prog}{d:Nat}{Q:AE→Sl→St→Prop}{K:Bool→Prop}(hQ:H231 Q K){σ:Sl}{st:St}
include hQ
theorem w231_4 {t73:Bool}{m1:Dfr}{v1:Nat}(H5:σ 5 = .p (d,1) v1 0)(H73:σ 73 = .b t73)(B1:lk st.bx (d,1) = some (v1,[.i .i64 m1.frame,.i .i64 m1.func,.b m1.hasArg,.i .u8 m1.arg.kind,.i .i64 m1.arg.int,.s m1.arg.text,.sl .ext (List.map Val.row m1.arg.list),.b m1.arg.cut]))(h:T231_4 prog K t73 m1):W prog d c231_0 σ st (blockW 0 (thenW prog d (.seq (.reg 11 r231_11) .ret) Q)):=
 cb_ H73 (fun g'1=>q_ rfl (f_ H5 (l_ rfl B1 rfl rfl ((h.1 g'1).elim fun r'2 e'3=>ca_ (sc rfl rfl sn) e'3.1 (b_ rfl rfl eql_ (m_ (e_ (rt_ (hQ _ _ _ rfl e'3.2))))))))) (fun g'1=>sk_ (q_ rfl (m_ (e_ (rt_ (hQ _ _ _ rfl (h.2 g'1)))))))
theorem w231_3 {m1:Dfr}{v1:Nat}(H5:σ 5 = .p (d,1) v1 0)(B1:lk st.bx (d,1) = some (v1,[.i .i64 m1.frame,.i .i64 m1.func,.b m1.hasArg,.i .u8 m1.arg.kind,.i .i64 m1.arg.int,.s m1.arg.text,.sl .ext (List.map Val.row m1.arg.list),.b m1.arg.cut]))(h:T231_3 prog K m1):W prog d c231_1 σ st Q:=
 sq_ (q_ rfl (f_ H5 (f_ rfl (l_ rfl B1 rfl rfl (e_ (bk_ (sq_ (q_ rfl (b_ rfl rfl eql_ (m_ (e_ (cs_ rfl (fun g'1=>sk_ (w231_4 hQ H5 rfl B1 (h.1 g'1))) (fun g'1=>q_ rfl (b_ rfl rfl eql_ (m_ (e_ (cs_ rfl (fun g'2=>sk_ (w231_4 hQ H5 rfl B1 ((h.2 g'1).1 g'2))) (fun g'2=>W.reg0 rfl fun _ _=>b_ rfl rfl eql_ (m_ (e_ (w231_4 hQ H5 rfl B1 ((h.2 g'1).2 g'2))))))))))))))))))))))
theorem w231_2 {m1:Dfr}{v1:Nat}(H5:σ 5 = .p (d,1) v1 0)(B1:lk st.bx (d,1) = some (v1,[.i .i64 m1.frame,.i .i64 m1.func,.b m1.hasArg,.i .u8 m1.arg.kind,.i .i64 m1.arg.int,.s m1.arg.text,.sl .ext (List.map Val.row m1.arg.list),.b m1.arg.cut]))(h:T231_2 prog K m1):W prog d c231_2 σ st Q:=
 sq_ (q_ rfl (f_ H5 (l_ rfl B1 rfl rfl (nt_ rfl (e_ (cb_ rfl (fun g'1=>sq_ (W.reg (f_ H5 (l_ rfl (lk_other rfl B1) rfl rfl (s_alloc (so_ rfl (show lk _ (d,16386) = some (_,([.i .u8 0,.i .i64 0,.s [],.sl .full (List.map Val.row ([]:List Val)),.b false]:List AV)) from lk_here) rfl rfl rfl (e_ (q_ rfl (f_ rfl (l_ rfl lk_here rfl rfl (b_ rfl rfl eql_ (s_mvB rfl (em_ (g:=49) rfl (fun g'2=>gy_ rfl (f_ rfl (gy_ rfl (l_ rfl lk_here rfl rfl (gy_ rfl (b_ rfl rfl eql_ (pt_ rfl rfl (s_mvB rfl (em_ (g:=54) rfl (fun g'3=>gy_ rfl (f_ rfl (gy_ rfl (l_ rfl lk_here rfl rfl (gy_ rfl (b_ rfl rfl seq_ (pt_ rfl rfl (s_mvB rfl (em_ (g:=59) rfl (fun g'4=>gy_ rfl (f_ rfl (gy_ rfl (l_ rfl lk_here rfl rfl (gy_ rfl (ll_ rfl (gy_ rfl (b_ rfl rfl eql_ (pt_ rfl rfl (s_mvB rfl (em_ (g:=65) rfl (fun g'5=>gy_ rfl (f_ rfl (gy_ rfl (l_ rfl lk_here rfl rfl (gy_ rfl (nt_ rfl (pt_ rfl rfl (s_mvB rfl (e_ (rt_ (hQ _ _ _ rfl (((((h.1 g'1).1 g'2).1 g'3).1 g'4).1 g'5)))))))))))) (fun g'5=>gn_ (b:=false) rfl rfl (gn_ (b:=false) rfl rfl (gn_ (b:=false) rfl rfl (pf_ rfl rfl (s_mvB rfl (e_ (rt_ (hQ _ _ _ rfl (((((h.1 g'1).1 g'2).1 g'3).1 g'4).2 g'5)))))))))))))))))))) (fun g'4=>gn_ (b:=false) rfl rfl (gn_ (b:=false) rfl rfl (gn_ (b:=false) rfl rfl (gn_ (b:=false) rfl rfl (pf_ rfl rfl (s_mvB rfl (gn_ (b:=false) rfl rfl (gn_ (b:=false) rfl rfl (gn_ (b:=false) rfl rfl (pf_ rfl rfl (s_mvB rfl (e_ (rt_ (hQ _ _ _ rfl ((((h.1 g'1).1 g'2).1 g'3).2 g'4)))))))))))))))))))))))) (fun g'3=>gn_ (b:=false) rfl rfl (gn_ (b:=false) rfl rfl (gn_ (b:=false) rfl rfl (pf_ rfl rfl (s_mvB rfl (gn_ (b:=false) rfl rfl (gn_ (b:=false) rfl rfl (gn_ (b:=false) rfl rfl (gn_ (b:=false) rfl rfl (pf_ rfl rfl (s_mvB rfl (gn_ (b:=false) rfl rfl (gn_ (b:=false) rfl rfl (gn_ (b:=false) rfl rfl (pf_ rfl rfl (s_mvB rfl (e_ (rt_ (hQ _ _ _ rfl (((h.1 g'1).1 g'2).2 g'3))))))))))))))))))))))))))))) (fun g'2=>gn_ (b:=false) rfl rfl (gn_ (b:=false) rfl rfl (gn_ (b:=false) rfl rfl (pf_ rfl rfl (s_mvB rfl (gn_ (b:=false) rfl rfl (gn_ (b:=false) rfl rfl (gn_ (b:=false) rfl rfl (pf_ rfl rfl (s_mvB rfl (gn_ (b:=false) rfl rfl (gn_ (b:=false) rfl rfl (gn_ (b:=false) rfl rfl (gn_ (b:=false) rfl rfl (pf_ rfl rfl (s_mvB rfl (gn_ (b:=false) rfl rfl (gn_ (b:=false) rfl rfl (gn_ (b:=false) rfl rfl (pf_ rfl rfl (s_mvB rfl (e_ (rt_ (hQ _ _ _ rfl ((h.1 g'1).2 g'2)))))))))))))))))))))))))))))))))))))) (fun g'1=>sk_ (w231_3 hQ H5 B1 (h.2 g'1)))))))))
theorem w231_1 {frames1:Int}{m0:Img}{m1:Dfr}{v0:Nat}{v1:Nat}(H1:σ 1 = .i .i64 frames1)(H3:σ 3 = .p (d,0) v0 0)(H5:σ 5 = .p (d,1) v1 0)(B0:lk st.bx (d,0) = some (v0,[.sl .ext (List.map Typ.row m0.types),.sl .ext (List.map rowS m0.texts),.sl .ext (List.map Fun.row m0.funcs)]))(B1:lk st.bx (d,1) = some (v1,[.i .i64 m1.frame,.i .i64 m1.func,.b m1.hasArg,.i .u8 m1.arg.kind,.i .i64 m1.arg.int,.s m1.arg.text,.sl .ext (List.map Val.row m1.arg.list),.b m1.arg.cut]))(h:T231_1 prog K frames1 m0 m1):W prog d c231_3 σ st Q:=
 sq_ (q_ rfl (f_ H5 (l_ rfl B1 rfl rfl (b_ rfl rfl lss_ (s_mvB rfl (em_ (g:=11) rfl (fun g'1=>gn_ (b:=true) rfl rfl (gn_ (b:=true) rfl rfl (gn_ (b:=true) rfl rfl (gn_ (b:=true) rfl rfl (pt_ rfl rfl (s_mvB rfl (gn_ (b:=true) rfl rfl (gn_ (b:=true) rfl rfl (gn_ (b:=true) rfl rfl (pt_ rfl rfl (s_mvB rfl (gn_ (b:=true) rfl rfl (gn_ (b:=true) rfl rfl (gn_ (b:=true) rfl rfl (gn_ (b:=true) rfl rfl (gn_ (b:=true) rfl rfl (gn_ (b:=true) rfl rfl (pt_ rfl rfl (s_mvB rfl (gn_ (b:=true) rfl rfl (gn_ (b:=true) rfl rfl (gn_ (b:=true) rfl rfl (gn_ (b:=true) rfl rfl (gn_ (b:=true) rfl rfl (gn_ (b:=true) rfl rfl (gn_ (b:=true) rfl rfl (gn_ (b:=true) rfl rfl (gn_ (b:=true) rfl rfl (pt_ rfl rfl (e_ (ct_ rfl (q_ rfl (m_ (e_ (rt_ (hQ _ _ _ rfl (h.1 g'1))))))))))))))))))))))))))))))))))))) (fun g'1=>gy_ rfl (f_ H5 (gy_ rfl (l_ rfl B1 rfl rfl (gy_ rfl (s_mvI H1 (gy_ rfl (b_ rfl rfl geq_ (pf_ rfl rfl (s_mvB rfl (em_ (g:=17) rfl (fun g'2=>gn_ (b:=true) rfl rfl (gn_ (b:=true) rfl rfl (gn_ (b:=true) rfl rfl (pt_ rfl rfl (s_mvB rfl (gn_ (b:=true) rfl rfl (gn_ (b:=true) rfl rfl (gn_ (b:=true) rfl rfl (gn_ (b:=true) rfl rfl (gn_ (b:=true) rfl rfl (gn_ (b:=true) rfl rfl (pt_ rfl rfl (s_mvB rfl (gn_ (b:=true) rfl rfl (gn_ (b:=true) rfl rfl (gn_ (b:=true) rfl rfl (gn_ (b:=true) rfl rfl (gn_ (b:=true) rfl rfl (gn_ (b:=true) rfl rfl (gn_ (b:=true) rfl rfl (gn_ (b:=true) rfl rfl (gn_ (b:=true) rfl rfl (pt_ rfl rfl (e_ (ct_ rfl (q_ rfl (m_ (e_ (rt_ (hQ _ _ _ rfl ((h.2 g'1).1 g'2))))))))))))))))))))))))))))))) (fun g'2=>gy_ rfl (f_ H5 (gy_ rfl (l_ rfl B1 rfl rfl (gy_ rfl (b_ rfl rfl lss_ (pf_ rfl rfl (s_mvB rfl (em_ (g:=22) rfl (fun g'3=>gn_ (b:=true) rfl rfl (gn_ (b:=true) rfl rfl (gn_ (b:=true) rfl rfl (gn_ (b:=true) rfl rfl (gn_ (b:=true) rfl rfl (gn_ (b:=true) rfl rfl (pt_ rfl rfl (s_mvB rfl (gn_ (b:=true) rfl rfl (gn_ (b:=true) rfl rfl (gn_ (b:=true) rfl rfl (gn_ (b:=true) rfl rfl (gn_ (b:=true) rfl rfl (gn_ (b:=true) rfl rfl (gn_ (b:=true) rfl rfl (gn_ (b:=true) rfl rfl (gn_ (b:=true) rfl rfl (pt_ rfl rfl (e_ (ct_ rfl (q_ rfl (m_ (e_ (rt_ (hQ _ _ _ rfl (((h.2 g'1).2 g'2).1 g'3)))))))))))))))))))))))))) (fun g'3=>gy_ rfl (f_ H5 (gy_ rfl (l_ rfl B1 rfl rfl (gy_ rfl (f_ H3 (gy_ rfl (l_ rfl B0 rfl rfl (gy_ rfl (ll_ rfl (gy_ rfl (b_ rfl rfl geq_ (pf_ rfl rfl (s_mvB rfl (em_ (g:=30) rfl (fun g'4=>gn_ (b:=true) rfl rfl (gn_ (b:=true) rfl rfl (gn_ (b:=true) rfl rfl (gn_ (b:=true) rfl rfl (gn_ (b:=true) rfl rfl (gn_ (b:=true) rfl rfl (gn_ (b:=true) rfl rfl (gn_ (b:=true) rfl rfl (gn_ (b:=true) rfl rfl (pt_ rfl rfl (e_ (ct_ rfl (q_ rfl (m_ (e_ (rt_ (hQ _ _ _ rfl ((((h.2 g'1).2 g'2).2 g'3).1 g'4)))))))))))))))))) (fun g'4=>gy_ rfl (f_ H3 (gy_ rfl (l_ rfl B0 rfl rfl (gy_ rfl (f_ H5 (gy_ rfl (l_ rfl B1 rfl rfl (gy_ rfl (((((h.2 g'1).2 g'2).2 g'3).2 g'4).2.elim fun c'5 e'6=>ia_ rfl rfl ((((h.2 g'1).2 g'2).2 g'3).2 g'4).1 e'6.1 (Fun.row_eq c'5) rfl (gy_ rfl (ff_ rfl (gy_ rfl (lf_ rfl rfl rfl (gy_ rfl (ln_ rfl (gy_ rfl (b_ rfl rfl gtr_ (pf_ rfl rfl (e_ (cs_ rfl (fun g'7=>q_ rfl (m_ (e_ (rt_ (hQ _ _ _ rfl (e'6.2.1 g'7)))))) (fun g'7=>sk_ (w231_2 hQ H5 B1 (e'6.2.2 g'7)))))))))))))))))))))))))))))))))))))))))))))))))))))))))))))))))
theorem w231_0 {m0:Img}{frames1:Int}{d2:Dfr}(H0:σ 0 = m0.av)(H1:σ 1 = .i .i64 frames1)(H2:σ 2 = d2.av)(h:T231_0 prog K m0 frames1 d2):W prog d (.seq (.reg 0 r231_0) c231_3) σ st Q:=
 q_ rfl (s_box H0 rfl (s_box H2 rfl (m_ (e_ (w231_1 hQ H1 rfl rfl (lk_other rfl lk_here) lk_here h)))))
end
theorem p231 {prog:Prog}(hf:prog.fn 231 = some pf231){m0:Img}{frames1:Int}{d2:Dfr}{K:Bool→Prop}(h:T231_0 prog K m0 frames1 d2) :∃res0:Bool,K res0∧Pus prog 231 [m0.av,.i .i64 frames1,d2.av] (.b res0):=by
  obtain ⟨v,hv,res0,hk,rfl⟩:=Pus.of (K:=fun v=>∃res0:Bool,K res0∧v = .b res0) hf rfl (w231_0 (σ:=sl0 [m0.av,.i .i64 frames1,d2.av]) (fun σ st   res0 H6 hk=>⟨.b res0,by simp only [pf231,ares,aresL,H6,ares1,Option.map_some],_,rfl,res0,hk,rfl⟩) rfl rfl rfl h)
  exact ⟨res0,hk,hv⟩
def r219_0:List AI:=[oO 2 (.boxf 3 (.t 0)),
 oO 3 (.boxf 5 (.t 1)),
 oC 4 (.b false)]
def r219_1:List AI:=[oF 8 2 3,
 oO 9 (.ldf 1 false (.t 8)),
 oO 10 (.len false (.t 9)),
 oF 11 3 3,
 oO 12 (.ldf 1 false (.t 11)),
 oO 13 (.len false (.t 12)),
 oF 14 4 3,
 oO 15 (.ldf 1 false (.t 14)),
 oO 16 (.len false (.t 15)),
 oO 5 (.alloc [.i .i64 0]),
 oS 1 5 10,
 oM 6 13,
 oM 7 16]
def r219_2:List AI:=[oF 17 0 3,
 oL 18 17]
def r219_3:List AI:=[oB 20 .eql (.t 18) (.c (.i .u8 3)),
 oM 19 20]
def r219_4:List AI:=[oB 22 .eql (.t 18) (.c (.i .u8 1)),
 oM 21 22]
def r219_5:List AI:=[oB 24 .eql (.t 18) (.c (.i .u8 2)),
 oM 23 24]
def r219_6:List AI:=[oL 25 5,
 oM 26 6,
 oB 27 .add (.t 25) (.t 26),
 oM 28 7,
 oB 29 .add (.t 27) (.t 28),
 oB 30 .eql (.t 29) (.c (.i .i64 0)),
 oM 31 30,
 oG 32 (.fad 1 (.t 3)) 31 true,
 oG 33 (.load 1 false (.t 32)) 31 true,
 oG 34 (.bin .eql (.t 33) (.c (.i .i64 0))) 31 true,
 oO 35 (.pick (.t 31) (.t 34) (.c (.b false))),
 oM 4 35]
def r219_7:List AI:=[oF 36 1 3,
 oL 37 36,
 oB 38 .neq (.t 37) (.c (.i .i64 0))]
def r219_8:List AI:=[oC 4 (.b false)]
def r219_9:List AI:=[oL 39 5,
 oB 40 .lss (.t 39) (.c (.i .i64 1)),
 oM 41 40,
 oG 42 (.load 1 false (.t 5)) 41 false,
 oG 43 (.bin .gtr (.t 42) (.c (.i .i64 170))) 41 false,
 oO 44 (.pick (.t 41) (.c (.b true)) (.t 43)),
 oM 45 44,
 oG 46 (.mv (.t 6)) 45 false,
 oG 47 (.bin .gtr (.t 46) (.c (.i .i64 410))) 45 false,
 oO 48 (.pick (.t 45) (.c (.b true)) (.t 47)),
 oM 49 48,
 oG 50 (.mv (.t 7)) 49 false,
 oG 51 (.bin .gtr (.t 50) (.c (.i .i64 410))) 49 false,
 oO 52 (.pick (.t 49) (.c (.b true)) (.t 51))]
def r219_10:List AI:=[oC 4 (.b false)]
def r219_11:List AI:=[oF 53 2 3,
 oL 54 53,
 oO 55 (.mkfn 228 [(.t 2)]),
 oO 56 (.call true 227 [(.t 54),(.t 55)]),
 oO 57 (.un .not (.t 56)),
 oM 58 57,
 oG 59 (.fad 3 (.t 3)) 58 true,
 oG 60 (.load 1 false (.t 59)) 58 true,
 oG 61 (.mkfz 230 [(.t 2)] (.t 5) []) 58 true,
 oG 62 (.call true 229 [(.t 60),(.t 61)]) 58 true,
 oG 63 (.un .not (.t 62)) 58 true,
 oO 64 (.pick (.t 58) (.t 63) (.c (.b false))),
 oM 65 64,
 oG 66 (.fad 4 (.t 3)) 65 true,
 oG 67 (.load 1 false (.t 66)) 65 true,
 oG 68 (.call true 232 [(.t 67),(.c (.fn 233 []))]) 65 true,
 oG 69 (.un .not (.t 68)) 65 true,
 oO 70 (.pick (.t 65) (.t 69) (.c (.b false))),
 oM 4 70]
def r219_12:List AI:=[oC 4 (.b false)]
abbrev c219_0:AC:=(.seq (.reg 7 r219_7) (.cond (.t 38) (.seq (.reg 8 r219_8) .ret) .skip))
abbrev c219_1:AC:=(.seq (.reg 11 r219_11) .ret)
abbrev c219_2:AC:=(.seq (.seq (.seq (.reg 9 r219_9) (.cond (.t 52) (.seq (.reg 10 r219_10) .ret) .skip)) c219_1) (.exit 0))
abbrev c219_3:AC:=(.seq (.reg 12 r219_12) .ret)
abbrev c219_4:AC:=(.seq (.reg 1 r219_1) (.seq (.seq (.reg 2 r219_2) (.block 0 (.seq (.block 3 (.seq (.block 2 (.seq (.block 1 (.seq (.seq (.seq (.reg 3 r219_3) (.cond (.t 19) (.exit 1) .skip)) (.seq (.seq (.reg 4 r219_4) (.cond (.t 21) (.exit 2) .skip)) (.seq (.reg 5 r219_5) (.cond (.t 23) (.exit 3) .skip)))) (.exit 0))) (.seq (.seq (.reg 6 r219_6) .ret) (.exit 0)))) c219_0)) c219_2))) c219_3))
abbrev b219:AC:=(.seq (.reg 0 r219_0) c219_4)
def pf219:AF:={ nt:=71,res:=[.tmp 4],fz:=[2,3,1000005],body:=b219 }
abbrev H219 (Q:AE→Sl→St→Prop)(K:Bool→Prop):Prop:=∀(σ:Sl)(st:St)(res0:Bool),σ 4 = .b res0→K res0→Q .ret σ st
def T219_4 (prog:Prog)(K:Bool→Prop)(m2_0:List Typ)(m2_1:List (List UInt8))(m2_2:List Fun)(x3_0:Int)(x3_1:Int)(x3_2:List Frm)(x3_3:List Dfr)(x3_4:List Pan)(m4105:Int):Prop:=
  ∃r'1:Bool,(∀q'3:Own,PuN prog 227 [.sl q'3 (List.map Frm.row x3_2),.fn 228 [.fp [.sl .ext (List.map Typ.row m2_0),.sl .ext (List.map rowS m2_1),.sl .ext (List.map Fun.row m2_2)]]] (fun r=>r = .b r'1))∧((!r'1) = true→∃r'8:Bool,(∀q'10:Own,PuN prog 229 [.sl q'10 (List.map Dfr.row x3_3),.fn 230 [.fp [.sl .ext (List.map Typ.row m2_0),.sl .ext (List.map rowS m2_1),.sl .ext (List.map Fun.row m2_2)],.fp [.i .i64 m4105]]] (fun r=>r = .b r'8))∧((!r'8) = true→∃r'15:Bool,(∀q'17:Own,PuN prog 232 [.sl q'17 (List.map Pan.row x3_4),.fn 233 []] (fun r=>r = .b r'15))∧K (!r'15))∧((!r'8) = false→K false))∧((!r'1) = false→K false)
def T219_3 (prog:Prog)(K:Bool→Prop)(m2_0:List Typ)(m2_1:List (List UInt8))(m2_2:List Fun)(x3_0:Int)(x3_1:Int)(x3_2:List Frm)(x3_3:List Dfr)(x3_4:List Pan)(d6:Int)(p7:Int)(m4105:Int):Prop:=
  (m4105 < 1→K false)∧(¬(m4105 < 1)→(m4105 > 170→K false)∧(¬(m4105 > 170)→(d6 > 410→K false)∧(¬(d6 > 410)→(p7 > 410→K false)∧(¬(p7 > 410)→T219_4 prog K m2_0 m2_1 m2_2 x3_0 x3_1 x3_2 x3_3 x3_4 m4105))))
def T219_2 (prog:Prog)(K:Bool→Prop)(m2_0:List Typ)(m2_1:List (List UInt8))(m2_2:List Fun)(x3_0:Int)(x3_1:Int)(x3_2:List Frm)(x3_3:List Dfr)(x3_4:List Pan)(d6:Int)(p7:Int)(m4105:Int):Prop:=
  (x3_1≠0→K false)∧(¬(x3_1≠0)→T219_3 prog K m2_0 m2_1 m2_2 x3_0 x3_1 x3_2 x3_3 x3_4 d6 p7 m4105)
def T219_5 (prog:Prog)(K:Bool→Prop) :Prop:=
  K false
def T219_1 (prog:Prog)(K:Bool→Prop)(m2_0:List Typ)(m2_1:List (List UInt8))(m2_2:List Fun)(x3_0:Int)(x3_1:Int)(x3_2:List Frm)(x3_3:List Dfr)(x3_4:List Pan):Prop:=
  (x3_0 = 3→((IntKind.i64.wrap ((IntKind.i64.wrap ((x3_2.length:Int) + (x3_3.length:Int))) + (x3_4.length:Int))) = 0→K (decide (x3_1 = 0)))∧(¬((IntKind.i64.wrap ((IntKind.i64.wrap ((x3_2.length:Int) + (x3_3.length:Int))) + (x3_4.length:Int))) = 0)→K false))∧(¬(x3_0 = 3)→(x3_0 = 1→T219_2 prog K m2_0 m2_1 m2_2 x3_0 x3_1 x3_2 x3_3 x3_4 (x3_3.length:Int) (x3_4.length:Int) (x3_2.length:Int))∧(¬(x3_0 = 1)→(x3_0 = 2→T219_3 prog K m2_0 m2_1 m2_2 x3_0 x3_1 x3_2 x3_3 x3_4 (x3_3.length:Int) (x3_4.length:Int) (x3_2.length:Int))∧(¬(x3_0 = 2)→T219_5 prog K )))
def T219_0 (prog:Prog)(K:Bool→Prop)(m0:Img)(x1:Rou):Prop:=
  T219_1 prog K m0.types m0.texts m0.funcs x1.status x1.key x1.frames x1.defers x1.panics
section
variable {prog:Prog}{d:Nat}{Q:AE→Sl→St→Prop}{K:Bool→Prop}(hQ:H219 Q K){σ:Sl}{st:St}
include hQ
theorem w219_4 {m2_0:List Typ}{m2_1:List (List UInt8)}{m2_2:List Fun}{x3_0 x3_1:Int}{x3_2:List Frm}{x3_3:List Dfr}{x3_4:List Pan}{m4105:Int}{v4105:Nat}(H2:σ 2 = .fp [.sl .ext (List.map Typ.row m2_0),.sl .ext (List.map rowS m2_1),.sl .ext (List.map Fun.row m2_2)])(H3:σ 3 = .fp [.i .u8 x3_0,.i .i64 x3_1,.sl .ext (List.map Frm.row x3_2),.sl .ext (List.map Dfr.row x3_3),.sl .ext (List.map Pan.row x3_4)])(H5:σ 5 = .p (d,4105) v4105 0)(B4105:lk st.bx (d,4105) = some (v4105,[.i .i64 m4105]))(h:T219_4 prog K m2_0 m2_1 m2_2 x3_0 x3_1 x3_2 x3_3 x3_4 m4105):W prog d c219_1 σ st (thenW prog d (.exit 0) (blockW 0 (thenW prog d c219_3 Q))):=
 q_ rfl (ff_ H3 (lf_ rfl rfl rfl (s_mkfn (sec H2 sen) (h.elim fun r'1 e'4=>s_callN (sec rfl (sec rfl sen)) (e'4.1 _) (fun st'5 hf'6=>nt_ rfl (s_mvB rfl (eb_ (g:=58) rfl (fun g'7=>gy_ rfl (ff_ H3 (gy_ rfl (lf_ rfl rfl rfl (gy_ rfl (s_mkfz (evs_map.symm.trans (sec H2 sen)) H5 (evs_map.symm.trans sen) ((hf'6.1 (d,4105) (Nat.lt_succ_self d) key_dn).trans B4105) rfl (gy_ rfl ((e'4.2.1 g'7).elim fun r'8 e'11=>s_callN (sec rfl (sec rfl sen)) (e'11.1 _) (fun st'12 hf'13=>gy_ rfl (nt_ rfl (pt_ rfl rfl (s_mvB rfl (eb_ (g:=65) rfl (fun g'14=>gy_ rfl (ff_ H3 (gy_ rfl (lf_ rfl rfl rfl (gy_ rfl ((e'11.2.1 g'14).elim fun r'15 e'18=>s_callN (sec rfl (sec rfl sen)) (e'18.1 _) (fun st'19 hf'20=>gy_ rfl (nt_ rfl (pt_ rfl rfl (s_mvB rfl (e_ (rt_ (hQ _ _ _ rfl e'18.2))))))))))))) (fun g'14=>gn_ (b:=false) rfl rfl (gn_ (b:=false) rfl rfl (gn_ (b:=false) rfl rfl (gn_ (b:=false) rfl rfl (pf_ rfl rfl (s_mvB rfl (e_ (rt_ (hQ _ _ _ rfl (e'11.2.2 g'14))))))))))))))))))))))) (fun g'7=>gn_ (b:=false) rfl rfl (gn_ (b:=false) rfl rfl (gn_ (b:=false) rfl rfl (gn_ (b:=false) rfl rfl (gn_ (b:=false) rfl rfl (pf_ rfl rfl (s_mvB rfl (gn_ (b:=false) rfl rfl (gn_ (b:=false) rfl rfl (gn_ (b:=false) rfl rfl (gn_ (b:=false) rfl rfl (pf_ rfl rfl (s_mvB rfl (e_ (rt_ (hQ _ _ _ rfl (e'4.2.2 g'7))))))))))))))))))))))))
theorem w219_3 {m2_0:List Typ}{m2_1:List (List UInt8)}{m2_2:List Fun}{x3_0 x3_1:Int}{x3_2:List Frm}{x3_3:List Dfr}{x3_4:List Pan}{d6 p7 m4105:Int}{v4105:Nat}(H2:σ 2 = .fp [.sl .ext (List.map Typ.row m2_0),.sl .ext (List.map rowS m2_1),.sl .ext (List.map Fun.row m2_2)])(H3:σ 3 = .fp [.i .u8 x3_0,.i .i64 x3_1,.sl .ext (List.map Frm.row x3_2),.sl .ext (List.map Dfr.row x3_3),.sl .ext (List.map Pan.row x3_4)])(H5:σ 5 = .p (d,4105) v4105 0)(H6:σ 6 = .i .i64 d6)(H7:σ 7 = .i .i64 p7)(B4105:lk st.bx (d,4105) = some (v4105,[.i .i64 m4105]))(h:T219_3 prog K m2_0 m2_1 m2_2 x3_0 x3_1 x3_2 x3_3 x3_4 d6 p7 m4105):W prog d c219_2 σ st (blockW 0 (thenW prog d c219_3 Q)):=
 sq_ (sq_ (q_ rfl (l_ H5 B4105 rfl rfl (b_ rfl rfl lss_ (s_mvB rfl (em_ (g:=41) rfl (fun g'1=>gn_ (b:=true) rfl rfl (gn_ (b:=true) rfl rfl (pt_ rfl rfl (s_mvB rfl (gn_ (b:=true) rfl rfl (gn_ (b:=true) rfl rfl (pt_ rfl rfl (s_mvB rfl (gn_ (b:=true) rfl rfl (gn_ (b:=true) rfl rfl (pt_ rfl rfl (e_ (ct_ rfl (q_ rfl (m_ (e_ (rt_ (hQ _ _ _ rfl (h.1 g'1))))))))))))))))))) (fun g'1=>gy_ rfl (l_ H5 B4105 rfl rfl (gy_ rfl (b_ rfl rfl gtr_ (pf_ rfl rfl (s_mvB rfl (em_ (g:=45) rfl (fun g'2=>gn_ (b:=true) rfl rfl (gn_ (b:=true) rfl rfl (pt_ rfl rfl (s_mvB rfl (gn_ (b:=true) rfl rfl (gn_ (b:=true) rfl rfl (pt_ rfl rfl (e_ (ct_ rfl (q_ rfl (m_ (e_ (rt_ (hQ _ _ _ rfl ((h.2 g'1).1 g'2))))))))))))))) (fun g'2=>gy_ rfl (s_mvI H6 (gy_ rfl (b_ rfl rfl gtr_ (pf_ rfl rfl (s_mvB rfl (em_ (g:=49) rfl (fun g'3=>gn_ (b:=true) rfl rfl (gn_ (b:=true) rfl rfl (pt_ rfl rfl (e_ (ct_ rfl (q_ rfl (m_ (e_ (rt_ (hQ _ _ _ rfl (((h.2 g'1).2 g'2).1 g'3))))))))))) (fun g'3=>gy_ rfl (s_mvI H7 (gy_ rfl (b_ rfl rfl gtr_ (pf_ rfl rfl (e_ (cs_ rfl (fun g'4=>q_ rfl (m_ (e_ (rt_ (hQ _ _ _ rfl ((((h.2 g'1).2 g'2).2 g'3).1 g'4)))))) (fun g'4=>sk_ (w219_4 hQ H2 H3 H5 B4105 ((((h.2 g'1).2 g'2).2 g'3).2 g'4))))))))))))))))))))))))))))))
theorem w219_2 {m2_0:List Typ}{m2_1:List (List UInt8)}{m2_2:List Fun}{x3_0 x3_1:Int}{x3_2:List Frm}{x3_3:List Dfr}{x3_4:List Pan}{d6 p7 m4105:Int}{v4105:Nat}(H2:σ 2 = .fp [.sl .ext (List.map Typ.row m2_0),.sl .ext (List.map rowS m2_1),.sl .ext (List.map Fun.row m2_2)])(H3:σ 3 = .fp [.i .u8 x3_0,.i .i64 x3_1,.sl .ext (List.map Frm.row x3_2),.sl .ext (List.map Dfr.row x3_3),.sl .ext (List.map Pan.row x3_4)])(H5:σ 5 = .p (d,4105) v4105 0)(H6:σ 6 = .i .i64 d6)(H7:σ 7 = .i .i64 p7)(B4105:lk st.bx (d,4105) = some (v4105,[.i .i64 m4105]))(h:T219_2 prog K m2_0 m2_1 m2_2 x3_0 x3_1 x3_2 x3_3 x3_4 d6 p7 m4105):W prog d c219_0 σ st (blockW 3 (thenW prog d c219_2 (blockW 0 (thenW prog d c219_3 Q)))):=
 q_ rfl (ff_ H3 (lf_ rfl rfl rfl (b_ rfl rfl neq_ (e_ (cs_ rfl (fun g'1=>q_ rfl (m_ (e_ (rt_ (hQ _ _ _ rfl (h.1 g'1)))))) (fun g'1=>sk_ (w219_3 hQ H2 H3 H5 H6 H7 B4105 (h.2 g'1))))))))
theorem w219_5 (h:T219_5 prog K ):W prog d c219_3 σ st Q:=
 q_ rfl (m_ (e_ (rt_ (hQ _ _ _ rfl h))))
theorem w219_1 {m2_0:List Typ}{m2_1:List (List UInt8)}{m2_2:List Fun}{x3_0 x3_1:Int}{x3_2:List Frm}{x3_3:List Dfr}{x3_4:List Pan}(H2:σ 2 = .fp [.sl .ext (List.map Typ.row m2_0),.sl .ext (List.map rowS m2_1),.sl .ext (List.map Fun.row m2_2)])(H3:σ 3 = .fp [.i .u8 x3_0,.i .i64 x3_1,.sl .ext (List.map Frm.row x3_2),.sl .ext (List.map Dfr.row x3_3),.sl .ext (List.map Pan.row x3_4)])(h:T219_1 prog K m2_0 m2_1 m2_2 x3_0 x3_1 x3_2 x3_3 x3_4):W prog d c219_4 σ st Q:=
 sq_ (W.reg (ff_ H3 (s_ldf rfl rfl rfl (ll_ rfl (ff_ H3 (s_ldf rfl rfl rfl (ll_ rfl (ff_ H3 (s_ldf rfl rfl rfl (ll_ rfl (s_alloc (so_ rfl (show lk _ (d,4105) = some (_,([.i .i64 0]:List AV)) from lk_here) rfl rfl rfl (m_ (m_ (e_ (sq_ (q_ rfl (ff_ H3 (lf_ rfl rfl rfl (e_ (bk_ (sq_ (bk_ (sq_ (bk_ (sq_ (bk_ (sq_ (sq_ (q_ rfl (b_ rfl rfl eql_ (m_ (e_ (cs_ rfl (fun g'1=>ex_ (sq_ (q_ rfl (l_ rfl lk_here rfl rfl (s_mvI rfl (b_ rfl rfl add_ (s_mvI rfl (b_ rfl rfl add_ (b_ rfl rfl eql_ (s_mvB rfl (em_ (g:=31) rfl (fun g'2=>gy_ rfl (ff_ H3 (gy_ rfl (lf_ rfl rfl rfl (gy_ rfl (b_ rfl rfl eql_ (pt_ rfl rfl (s_mvB rfl (e_ (rt_ (hQ _ _ _ rfl ((h.1 g'1).1 g'2)))))))))))) (fun g'2=>gn_ (b:=false) rfl rfl (gn_ (b:=false) rfl rfl (gn_ (b:=false) rfl rfl (pf_ rfl rfl (s_mvB rfl (e_ (rt_ (hQ _ _ _ rfl ((h.1 g'1).2 g'2)))))))))))))))))))) (fun g'1=>sk_ (sq_ (q_ rfl (b_ rfl rfl eql_ (m_ (e_ (cs_ rfl (fun g'3=>ex_ (w219_2 hQ H2 H3 rfl rfl rfl lk_here ((h.2 g'1).1 g'3))) (fun g'3=>sk_ (q_ rfl (b_ rfl rfl eql_ (m_ (e_ (cs_ rfl (fun g'4=>ex_ (w219_3 hQ H2 H3 rfl rfl rfl lk_here (((h.2 g'1).2 g'3).1 g'4))) (fun g'4=>sk_ (ex_ (w219_5 hQ (((h.2 g'1).2 g'3).2 g'4)))))))))))))))))))))))))))))))))))))))))))))))))))
theorem w219_0 {m0:Img}{x1:Rou}(H0:σ 0 = m0.av)(H1:σ 1 = x1.av)(h:T219_0 prog K m0 x1):W prog d (.seq (.reg 0 r219_0) c219_4) σ st Q:=
 q_ rfl (s_boxf H0 rfl rfl (s_boxf H1 rfl rfl (m_ (e_ (w219_1 hQ rfl rfl h)))))
end
theorem p219 {prog:Prog}(hf:prog.fn 219 = some pf219){m0:Img}{x1:Rou}{K:Bool→Prop}(h:T219_0 prog K m0 x1) :∃res0:Bool,K res0∧Pus prog 219 [m0.av,x1.av] (.b res0):=by
  obtain ⟨v,hv,res0,hk,rfl⟩:=Pus.of (K:=fun v=>∃res0:Bool,K res0∧v = .b res0) hf rfl (w219_0 (σ:=sl0 [m0.av,x1.av]) (fun σ st   res0 H4 hk=>⟨.b res0,by simp only [pf219,ares,aresL,H4,ares1,Option.map_some],_,rfl,res0,hk,rfl⟩) rfl rfl h)
  exact ⟨res0,hk,hv⟩
def r225_0:List AI:=[oO 2 (.box 5 (.t 0)),
 oC 3 (.b false)]
def r225_1:List AI:=[oO 4 (.load 3 true (.t 1)),
 oO 5 (.load 5 true (.t 2)),
 oO 6 (.call false 219 [(.t 4),(.t 5)]),
 oO 7 (.un .not (.t 6)),
 oM 3 7]
abbrev b225:AC:=(.seq (.reg 0 r225_0) (.seq (.reg 1 r225_1) .ret))
def pf225:AF:={ nt:=8,res:=[.tmp 3],body:=b225 }
abbrev H225 (d:Nat)(st0:St)(Q:AE→Sl→St→Prop)(K:Bool→Prop):Prop:=∀(σ:Sl)(st:St)(res0:Bool),σ 3 = .b res0→Fr d (d,0) st0.bx st0.ow st.bx st.ow→K res0→Q .ret σ st
def T225_0 (prog:Prog)(K:Bool→Prop)(x0:Rou)(t1:Img):Prop:=
  ∃r'1:Bool,Pus prog 219 [t1.av,x0.av] (.b r'1)∧K (!r'1)
section
variable {prog:Prog}{d:Nat}{Q:AE→Sl→St→Prop}{K:Bool→Prop}{st0:St}(hQ:H225 d st0 Q K){σ:Sl}{st:St}
include hQ
theorem w225_0 {x0:Rou}{t1:Img}(H0:σ 0 = x0.av)(H1:σ 1 = .fp [.sl .ext (List.map Typ.row t1.types),.sl .ext (List.map rowS t1.texts),.sl .ext (List.map Fun.row t1.funcs)])(FR:Fr d (d,0) st0.bx st0.ow st.bx st.ow)(h:T225_0 prog K x0 t1):W prog d (.seq (.reg 0 r225_0) (.seq (.reg 1 r225_1) .ret)) σ st Q:=
 q_ rfl (s_box H0 rfl (m_ (e_ (q_ rfl (lf_ H1 rfl rfl (l_ rfl lk_here rfl rfl (h.elim fun r'1 e'2=>ca_ (sc rfl rfl (sc rfl rfl sn)) e'2.1 (nt_ rfl (m_ (e_ (rt_ (hQ _ _ _ rfl (Fr.box FR) e'2.2))))))))))))
end
theorem p225 {prog:Prog}(hf:prog.fn 225 = some pf225){x0:Rou}{t1:Img}{K:Bool→Prop}(h:T225_0 prog K x0 t1):PuN prog 225 [x0.av,.fp [.sl .ext (List.map Typ.row t1.types),.sl .ext (List.map rowS t1.texts),.sl .ext (List.map Fun.row t1.funcs)]] (fun r=>∃res0:Bool,(r = .b res0)∧K res0):=
  PuN.of hf rfl fun d st=>w225_0 (st0:=st) (Q:=fun e σ st'=>(e = .normal∨e = .ret)∧∃r,ares σ st' pf225.res = some r∧_∧Fr d (d,0) st.bx st.ow st'.bx st'.ow) (fun σ st'   res0 H3 hf hk=>⟨.inr rfl,.b res0,by simp only [pf225,ares,aresL,H3,ares1,Option.map_some,H3],⟨res0,rfl,hk⟩,hf⟩) (σ:=sl0 [x0.av,.fp [.sl .ext (List.map Typ.row t1.types),.sl .ext (List.map rowS t1.texts),.sl .ext (List.map Fun.row t1.funcs)]]) rfl rfl Fr.refl h
def r213_0:List AI:=[oO 2 (.boxf 3 (.t 0)),
 oO 3 (.box 4 (.t 1)),
 oC 4 (.i .i64 0)]
def r213_1:List AI:=[oF 6 3 3,
 oL 7 6,
 oO 8 (.len false (.t 7)),
 oM 5 8]
def r213_2:List AI:=[oF 9 0 3,
 oL 10 9,
 oB 11 .lss (.t 10) (.c (.i .u8 1)),
 oM 12 11,
 oG 13 (.fad 0 (.t 3)) 12 false,
 oG 14 (.load 1 false (.t 13)) 12 false,
 oG 15 (.bin .gtr (.t 14) (.c (.i .u8 8))) 12 false,
 oO 16 (.pick (.t 12) (.c (.b true)) (.t 15)),
 oM 17 16,
 oG 18 (.fad 2 (.t 3)) 17 false,
 oG 19 (.load 1 false (.t 18)) 17 false,
 oG 20 (.bin .lss (.t 19) (.c (.i .i64 0))) 17 false,
 oO 21 (.pick (.t 17) (.c (.b true)) (.t 20)),
 oM 22 21,
 oG 23 (.fad 2 (.t 3)) 22 false,
 oG 24 (.load 1 false (.t 23)) 22 false,
 oG 25 (.bin .gtr (.t 24) (.c (.i .i64 5000))) 22 false,
 oO 26 (.pick (.t 22) (.c (.b true)) (.t 25)),
 oM 27 26,
 oG 28 (.mv (.t 5)) 27 false,
 oG 29 (.bin .gtr (.t 28) (.c (.i .i64 16))) 27 false,
 oO 30 (.pick (.t 27) (.c (.b true)) (.t 29)),
 oM 31 30,
 oG 32 (.fad 1 (.t 3)) 31 false,
 oG 33 (.load 1 false (.t 32)) 31 false,
 oG 34 (.bin .lss (.t 33) (.c (.i .i64 (-1)))) 31 false,
 oO 35 (.pick (.t 31) (.c (.b true)) (.t 34)),
 oM 36 35,
 oG 37 (.fad 1 (.t 3)) 36 false,
 oG 38 (.load 1 false (.t 37)) 36 false,
 oG 39 (.mv (.t 5)) 36 false,
 oG 40 (.bin .geq (.t 38) (.t 39)) 36 false,
 oO 41 (.pick (.t 36) (.c (.b true)) (.t 40)),
 oM 42 41,
 oG 43 (.fad 3 (.t 3)) 42 false,
 oG 44 (.load 1 false (.t 43)) 42 false,
 oG 45 (.mkfn 225 [(.t 2)]) 42 false,
 oG 46 (.call true 224 [(.t 44),(.t 45)]) 42 false,
 oO 47 (.pick (.t 42) (.c (.b true)) (.t 46))]
def r213_3:List AI:=[oC 4 (.i .i64 8)]
def r213_4:List AI:=[oC 4 (.i .i64 0)]
abbrev b213:AC:=(.seq (.reg 0 r213_0) (.seq (.reg 1 r213_1) (.seq (.seq (.reg 2 r213_2) (.cond (.t 47) (.seq (.reg 3 r213_3) .ret) .skip)) (.seq (.reg 4 r213_4) .ret))))
def pf213:AF:={ nt:=48,res:=[.tmp 4],fz:=[2],body:=b213 }
abbrev H213 (Q:AE→Sl→St→Prop)(K:Int→Prop):Prop:=∀(σ:Sl)(st:St)(res0:Int),σ 4 = .i .i64 res0→K res0→Q .ret σ st
def T213_0 (prog:Prog)(K:Int→Prop)(m0:Img)(s1:Sta):Prop:=
  (s1.outcome < 1→K 8)∧(¬(s1.outcome < 1)→(s1.outcome > 8→K 8)∧(¬(s1.outcome > 8)→(s1.steps < 0→K 8)∧(¬(s1.steps < 0)→(s1.steps > 5000→K 8)∧(¬(s1.steps > 5000)→((s1.routines.length:Int) > 16→K 8)∧(¬((s1.routines.length:Int) > 16)→(s1.failing < (-1)→K 8)∧(¬(s1.failing < (-1))→(s1.failing ≥ (s1.routines.length:Int)→K 8)∧(¬(s1.failing ≥ (s1.routines.length:Int))→∃r'8:Bool,(∀q'10:Own,PuN prog 224 [.sl q'10 (List.map Rou.row s1.routines),.fn 225 [.fp [.sl .ext (List.map Typ.row m0.types),.sl .ext (List.map rowS m0.texts),.sl .ext (List.map Fun.row m0.funcs)]]] (fun r=>r = .b r'8))∧(r'8 = true→K 8)∧(r'8 = false→K 0))))))))
section
variable {prog:Prog}{d:Nat}{Q:AE→Sl→St→Prop}{K:Int→Prop}(hQ:H213 Q K){σ:Sl}{st:St}
include hQ
theorem w213_0 {m0:Img}{s1:Sta}(H0:σ 0 = m0.av)(H1:σ 1 = s1.av)(h:T213_0 prog K m0 s1):W prog d (.seq (.reg 0 r213_0) (.seq (.reg 1 r213_1) (.seq (.seq (.reg 2 r213_2) (.cond (.t 47) (.seq (.reg 3 r213_3) .ret) .skip)) (.seq (.reg 4 r213_4) .ret)))) σ st Q:=
 q_ rfl (s_boxf H0 rfl rfl (s_box H1 rfl (m_ (e_ (q_ rfl (f_ rfl (l_ rfl lk_here rfl rfl (ll_ rfl (m_ (e_ (sq_ (q_ rfl (f_ rfl (l_ rfl lk_here rfl rfl (b_ rfl rfl lss_ (s_mvB rfl (em_ (g:=12) rfl (fun g'1=>gn_ (b:=true) rfl rfl (gn_ (b:=true) rfl rfl (gn_ (b:=true) rfl rfl (pt_ rfl rfl (s_mvB rfl (gn_ (b:=true) rfl rfl (gn_ (b:=true) rfl rfl (gn_ (b:=true) rfl rfl (pt_ rfl rfl (s_mvB rfl (gn_ (b:=true) rfl rfl (gn_ (b:=true) rfl rfl (gn_ (b:=true) rfl rfl (pt_ rfl rfl (s_mvB rfl (gn_ (b:=true) rfl rfl (gn_ (b:=true) rfl rfl (pt_ rfl rfl (s_mvB rfl (gn_ (b:=true) rfl rfl (gn_ (b:=true) rfl rfl (gn_ (b:=true) rfl rfl (pt_ rfl rfl (s_mvB rfl (gn_ (b:=true) rfl rfl (gn_ (b:=true) rfl rfl (gn_ (b:=true) rfl rfl (gn_ (b:=true) rfl rfl (pt_ rfl rfl (s_mvB rfl (gn_ (b:=true) rfl rfl (gn_ (b:=true) rfl rfl (gn_ (b:=true) rfl rfl (gn_ (b:=true) rfl rfl (pt_ rfl rfl (e_ (ct_ rfl (q_ rfl (m_ (e_ (rt_ (hQ _ _ _ rfl (h.1 g'1))))))))))))))))))))))))))))))))))))))))))) (fun g'1=>gy_ rfl (f_ rfl (gy_ rfl (l_ rfl lk_here rfl rfl (gy_ rfl (b_ rfl rfl gtr_ (pf_ rfl rfl (s_mvB rfl (em_ (g:=17) rfl (fun g'2=>gn_ (b:=true) rfl rfl (gn_ (b:=true) rfl rfl (gn_ (b:=true) rfl rfl (pt_ rfl rfl (s_mvB rfl (gn_ (b:=true) rfl rfl (gn_ (b:=true) rfl rfl (gn_ (b:=true) rfl rfl (pt_ rfl rfl (s_mvB rfl (gn_ (b:=true) rfl rfl (gn_ (b:=true) rfl rfl (pt_ rfl rfl (s_mvB rfl (gn_ (b:=true) rfl rfl (gn_ (b:=true) rfl rfl (gn_ (b:=true) rfl rfl (pt_ rfl rfl (s_mvB rfl (gn_ (b:=true) rfl rfl (gn_ (b:=true) rfl rfl (gn_ (b:=true) rfl rfl (gn_ (b:=true) rfl rfl (pt_ rfl rfl (s_mvB rfl (gn_ (b:=true) rfl rfl (gn_ (b:=true) rfl rfl (gn_ (b:=true) rfl rfl (gn_ (b:=true) rfl rfl (pt_ rfl rfl (e_ (ct_ rfl (q_ rfl (m_ (e_ (rt_ (hQ _ _ _ rfl ((h.2 g'1).1 g'2)))))))))))))))))))))))))))))))))))))) (fun g'2=>gy_ rfl (f_ rfl (gy_ rfl (l_ rfl lk_here rfl rfl (gy_ rfl (b_ rfl rfl lss_ (pf_ rfl rfl (s_mvB rfl (em_ (g:=22) rfl (fun g'3=>gn_ (b:=true) rfl rfl (gn_ (b:=true) rfl rfl (gn_ (b:=true) rfl rfl (pt_ rfl rfl (s_mvB rfl (gn_ (b:=true) rfl rfl (gn_ (b:=true) rfl rfl (pt_ rfl rfl (s_mvB rfl (gn_ (b:=true) rfl rfl (gn_ (b:=true) rfl rfl (gn_ (b:=true) rfl rfl (pt_ rfl rfl (s_mvB rfl (gn_ (b:=true) rfl rfl (gn_ (b:=true) rfl rfl (gn_ (b:=true) rfl rfl (gn_ (b:=true) rfl rfl (pt_ rfl rfl (s_mvB rfl (gn_ (b:=true) rfl rfl (gn_ (b:=true) rfl rfl (gn_ (b:=true) rfl rfl (gn_ (b:=true) rfl rfl (pt_ rfl rfl (e_ (ct_ rfl (q_ rfl (m_ (e_ (rt_ (hQ _ _ _ rfl (((h.2 g'1).2 g'2).1 g'3))))))))))))))))))))))))))))))))) (fun g'3=>gy_ rfl (f_ rfl (gy_ rfl (l_ rfl lk_here rfl rfl (gy_ rfl (b_ rfl rfl gtr_ (pf_ rfl rfl (s_mvB rfl (em_ (g:=27) rfl (fun g'4=>gn_ (b:=true) rfl rfl (gn_ (b:=true) rfl rfl (pt_ rfl rfl (s_mvB rfl (gn_ (b:=true) rfl rfl (gn_ (b:=true) rfl rfl (gn_ (b:=true) rfl rfl (pt_ rfl rfl (s_mvB rfl (gn_ (b:=true) rfl rfl (gn_ (b:=true) rfl rfl (gn_ (b:=true) rfl rfl (gn_ (b:=true) rfl rfl (pt_ rfl rfl (s_mvB rfl (gn_ (b:=true) rfl rfl (gn_ (b:=true) rfl rfl (gn_ (b:=true) rfl rfl (gn_ (b:=true) rfl rfl (pt_ rfl rfl (e_ (ct_ rfl (q_ rfl (m_ (e_ (rt_ (hQ _ _ _ rfl ((((h.2 g'1).2 g'2).2 g'3).1 g'4)))))))))))))))))))))))))))) (fun g'4=>gy_ rfl (s_mvI rfl (gy_ rfl (b_ rfl rfl gtr_ (pf_ rfl rfl (s_mvB rfl (em_ (g:=31) rfl (fun g'5=>gn_ (b:=true) rfl rfl (gn_ (b:=true) rfl rfl (gn_ (b:=true) rfl rfl (pt_ rfl rfl (s_mvB rfl (gn_ (b:=true) rfl rfl (gn_ (b:=true) rfl rfl (gn_ (b:=true) rfl rfl (gn_ (b:=true) rfl rfl (pt_ rfl rfl (s_mvB rfl (gn_ (b:=true) rfl rfl (gn_ (b:=true) rfl rfl (gn_ (b:=true) rfl rfl (gn_ (b:=true) rfl rfl (pt_ rfl rfl (e_ (ct_ rfl (q_ rfl (m_ (e_ (rt_ (hQ _ _ _ rfl (((((h.2 g'1).2 g'2).2 g'3).2 g'4).1 g'5)))))))))))))))))))))))) (fun g'5=>gy_ rfl (f_ rfl (gy_ rfl (l_ rfl lk_here rfl rfl (gy_ rfl (b_ rfl rfl lss_ (pf_ rfl rfl (s_mvB rfl (em_ (g:=36) rfl (fun g'6=>gn_ (b:=true) rfl rfl (gn_ (b:=true) rfl rfl (gn_ (b:=true) rfl rfl (gn_ (b:=true) rfl rfl (pt_ rfl rfl (s_mvB rfl (gn_ (b:=true) rfl rfl (gn_ (b:=true) rfl rfl (gn_ (b:=true) rfl rfl (gn_ (b:=true) rfl rfl (pt_ rfl rfl (e_ (ct_ rfl (q_ rfl (m_ (e_ (rt_ (hQ _ _ _ rfl ((((((h.2 g'1).2 g'2).2 g'3).2 g'4).2 g'5).1 g'6))))))))))))))))))) (fun g'6=>gy_ rfl (f_ rfl (gy_ rfl (l_ rfl lk_here rfl rfl (gy_ rfl (s_mvI rfl (gy_ rfl (b_ rfl rfl geq_ (pf_ rfl rfl (s_mvB rfl (em_ (g:=42) rfl (fun g'7=>gn_ (b:=true) rfl rfl (gn_ (b:=true) rfl rfl (gn_ (b:=true) rfl rfl (gn_ (b:=true) rfl rfl (pt_ rfl rfl (e_ (ct_ rfl (q_ rfl (m_ (e_ (rt_ (hQ _ _ _ rfl (((((((h.2 g'1).2 g'2).2 g'3).2 g'4).2 g'5).2 g'6).1 g'7))))))))))))) (fun g'7=>gy_ rfl (f_ rfl (gy_ rfl (l_ rfl lk_here rfl rfl (gy_ rfl (s_mkfn (sec rfl sen) (gy_ rfl ((((((((h.2 g'1).2 g'2).2 g'3).2 g'4).2 g'5).2 g'6).2 g'7).elim fun r'8 e'11=>s_callN (sec rfl (sec rfl sen)) (e'11.1 _) (fun st'12 hf'13=>pf_ rfl rfl (e_ (cb_ rfl (fun g'14=>q_ rfl (m_ (e_ (rt_ (hQ _ _ _ rfl (e'11.2.1 g'14)))))) (fun g'14=>sk_ (q_ rfl (m_ (e_ (rt_ (hQ _ _ _ rfl (e'11.2.2 g'14)))))))))))))))))))))))))))))))))))))))))))))))))))))))))))))))))))))))))))))))))))))))))
end
theorem p213 {prog:Prog}(hf:prog.fn 213 = some pf213){m0:Img}{s1:Sta}{K:Int→Prop}(h:T213_0 prog K m0 s1) :∃res0:Int,K res0∧Pus prog 213 [m0.av,s1.av] (.i .i64 res0):=by
  obtain ⟨v,hv,res0,hk,rfl⟩:=Pus.of (K:=fun v=>∃res0:Int,K res0∧v = .i .i64 res0) hf rfl (w213_0 (σ:=sl0 [m0.av,s1.av]) (fun σ st   res0 H4 hk=>⟨.i .i64 res0,by simp only [pf213,ares,aresL,H4,ares1,Option.map_some],_,rfl,res0,hk,rfl⟩) rfl rfl h)
  exact ⟨res0,hk,hv⟩
def r235_0:List AI:=[oO 3 (.box 3 (.t 0)),
 oO 5 (.box 8 (.t 2)),
 oC 6 (.b false)]
def r235_1:List AI:=[oF 8 0 5,
 oL 9 8,
 oB 10 .lss (.t 9) (.c (.i .i64 0)),
 oM 11 10,
 oG 12 (.fad 0 (.t 5)) 11 false,
 oG 13 (.load 1 false (.t 12)) 11 false,
 oG 14 (.mv (.t 1)) 11 false,
 oG 15 (.bin .geq (.t 13) (.t 14)) 11 false,
 oO 16 (.pick (.t 11) (.c (.b true)) (.t 15)),
 oM 17 16,
 oG 18 (.fad 1 (.t 5)) 17 false,
 oG 19 (.load 1 false (.t 18)) 17 false,
 oG 20 (.bin .lss (.t 19) (.c (.i .i64 0))) 17 false,
 oO 21 (.pick (.t 17) (.c (.b true)) (.t 20)),
 oM 22 21,
 oG 23 (.fad 1 (.t 5)) 22 false,
 oG 24 (.load 1 false (.t 23)) 22 false,
 oG 25 (.fad 2 (.t 3)) 22 false,
 oG 26 (.load 1 false (.t 25)) 22 false,
 oG 27 (.len false (.t 26)) 22 false,
 oG 28 (.bin .geq (.t 24) (.t 27)) 22 false,
 oO 29 (.pick (.t 22) (.c (.b true)) (.t 28)),
 oM 30 29,
 oG 31 (.fad 2 (.t 3)) 30 false,
 oG 32 (.load 1 false (.t 31)) 30 false,
 oG 33 (.fad 1 (.t 5)) 30 false,
 oG 34 (.load 1 false (.t 33)) 30 false,
 oG 35 (.iaL 7 (.t 32) (.t 34)) 30 false,
 oG 36 (.fad 0 (.t 35)) 30 false,
 oG 37 (.load 1 false (.t 36)) 30 false,
 oG 38 (.len true (.t 37)) 30 false,
 oG 39 (.bin .gtr (.t 38) (.c (.i .i64 16))) 30 false,
 oO 40 (.pick (.t 30) (.c (.b true)) (.t 39))]
def r235_2:List AI:=[oC 6 (.b false)]
def r235_3:List AI:=[oF 41 2 5,
 oL 42 41,
 oO 43 (.un .not (.t 42))]
def r235_4:List AI:=[oF 44 3 5,
 oO 45 (.load 5 true (.t 44)),
 oO 46 (.build [.i .u8 0,.i .i64 0,.s [],.sl .full [],.b false] []),
 oO 47 (.call false 78 [(.t 45),(.t 46)]),
 oM 6 47]
def r235_5:List AI:=[oF 48 3 5,
 oF 49 0 48,
 oL 50 49,
 oM 7 50]
def r235_6:List AI:=[oM 51 7,
 oB 52 .eql (.t 51) (.c (.i .u8 1)),
 oM 53 52,
 oG 54 (.mv (.t 7)) 53 false,
 oG 55 (.bin .eql (.t 54) (.c (.i .u8 2))) 53 false,
 oO 56 (.pick (.t 53) (.c (.b true)) (.t 55)),
 oM 57 56,
 oG 58 (.mv (.t 7)) 57 false,
 oG 59 (.bin .eql (.t 58) (.c (.i .u8 4))) 57 false,
 oO 60 (.pick (.t 57) (.c (.b true)) (.t 59)),
 oM 61 60,
 oG 62 (.fad 3 (.t 5)) 61 true,
 oG 63 (.load 5 true (.t 62)) 61 true,
 oG 64 (.call false 77 [(.t 63)]) 61 true,
 oG 65 (.bin .eql (.t 64) (.c (.i .i64 0))) 61 true,
 oO 66 (.pick (.t 61) (.t 65) (.c (.b false))),
 oM 6 66]
abbrev c235_0:AC:=(.seq (.seq (.reg 3 r235_3) (.cond (.t 43) (.seq (.reg 4 r235_4) .ret) .skip)) (.seq (.reg 5 r235_5) (.seq (.reg 6 r235_6) .ret)))
abbrev c235_1:AC:=(.seq (.seq (.reg 1 r235_1) (.cond (.t 40) (.seq (.reg 2 r235_2) .ret) .skip)) c235_0)
abbrev b235:AC:=(.seq (.reg 0 r235_0) c235_1)
def pf235:AF:={ nt:=67,res:=[.tmp 6],body:=b235 }
abbrev H235 (Q:AE→Sl→St→Prop)(K:Bool→Prop):Prop:=∀(σ:Sl)(st:St)(res0:Bool),σ 6 = .b res0→K res0→Q .ret σ st
def T235_2 (prog:Prog)(K:Bool→Prop)(m1:Dfr):Prop:=
  ((!m1.hasArg) = true→∃r'2:Bool,Pus prog 78 [m1.arg.av,.ag [.i .u8 0,.i .i64 0,.s [],.sl .ext (List.map Val.row ([]:List Val)),.b false]] (.b r'2)∧K r'2)∧((!m1.hasArg) = false→(m1.arg.kind = 1→∃r'5:Int,Pus prog 77 [m1.arg.av] (.i .i64 r'5)∧K (decide (r'5 = 0)))∧(¬(m1.arg.kind = 1)→(m1.arg.kind = 2→∃r'8:Int,Pus prog 77 [m1.arg.av] (.i .i64 r'8)∧K (decide (r'8 = 0)))∧(¬(m1.arg.kind = 2)→(m1.arg.kind = 4→∃r'11:Int,Pus prog 77 [m1.arg.av] (.i .i64 r'11)∧K (decide (r'11 = 0)))∧(¬(m1.arg.kind = 4)→K false))))
def T235_1 (prog:Prog)(K:Bool→Prop)(many1:Int)(m0:Img)(m1:Dfr):Prop:=
  (m1.frame < 0→K false)∧(¬(m1.frame < 0)→(m1.frame ≥ many1→K false)∧(¬(m1.frame ≥ many1)→(m1.func < 0→K false)∧(¬(m1.func < 0)→(m1.func ≥ (m0.funcs.length:Int)→K false)∧(¬(m1.func ≥ (m0.funcs.length:Int))→0≤m1.func∧∃c'5:Fun,m0.funcs[(m1.func).toNat]? = some c'5∧((c'5.name.length:Int) > 16→K false)∧(¬((c'5.name.length:Int) > 16)→T235_2 prog K m1)))))
def T235_0 (prog:Prog)(K:Bool→Prop)(m0:Img)(many1:Int)(d2:Dfr):Prop:=
  T235_1 prog K many1 m0 d2
section
variable {prog:Prog}{d:Nat}{Q:AE→Sl→St→Prop}{K:Bool→Prop}(hQ:H235 Q K){σ:Sl}{st:St}
include hQ
theorem w235_2 {m1:Dfr}{v1:Nat}(H5:σ 5 = .p (d,1) v1 0)(B1:lk st.bx (d,1) = some (v1,[.i .i64 m1.frame,.i .i64 m1.func,.b m1.hasArg,.i .u8 m1.arg.kind,.i .i64 m1.arg.int,.s m1.arg.text,.sl .ext (List.map Val.row m1.arg.list),.b m1.arg.cut]))(h:T235_2 prog K m1):W prog d c235_0 σ st Q:=
 sq_ (q_ rfl (f_ H5 (l_ rfl B1 rfl rfl (nt_ rfl (e_ (cb_ rfl (fun g'1=>q_ rfl (f_ H5 (l_ rfl B1 rfl rfl (s_build f_nil ((h.1 g'1).elim fun r'2 e'3=>ca_ (sc rfl rfl (sc rfl rfl sn)) e'3.1 (m_ (e_ (rt_ (hQ _ _ _ rfl e'3.2))))))))) (fun g'1=>sk_ (q_ rfl (f_ H5 (f_ rfl (l_ rfl B1 rfl rfl (m_ (e_ (q_ rfl (s_mvI rfl (b_ rfl rfl eql_ (s_mvB rfl (em_ (g:=53) rfl (fun g'4=>gn_ (b:=true) rfl rfl (gn_ (b:=true) rfl rfl (pt_ rfl rfl (s_mvB rfl (gn_ (b:=true) rfl rfl (gn_ (b:=true) rfl rfl (pt_ rfl rfl (s_mvB rfl (gy_ rfl (f_ H5 (gy_ rfl (l_ rfl B1 rfl rfl (gy_ rfl (((h.2 g'1).1 g'4).elim fun r'5 e'6=>ca_ (sc rfl rfl sn) e'6.1 (gy_ rfl (b_ rfl rfl eql_ (pt_ rfl rfl (s_mvB rfl (e_ (rt_ (hQ _ _ _ rfl e'6.2))))))))))))))))))))) (fun g'4=>gy_ rfl (s_mvI rfl (gy_ rfl (b_ rfl rfl eql_ (pf_ rfl rfl (s_mvB rfl (em_ (g:=57) rfl (fun g'7=>gn_ (b:=true) rfl rfl (gn_ (b:=true) rfl rfl (pt_ rfl rfl (s_mvB rfl (gy_ rfl (f_ H5 (gy_ rfl (l_ rfl B1 rfl rfl (gy_ rfl ((((h.2 g'1).2 g'4).1 g'7).elim fun r'8 e'9=>ca_ (sc rfl rfl sn) e'9.1 (gy_ rfl (b_ rfl rfl eql_ (pt_ rfl rfl (s_mvB rfl (e_ (rt_ (hQ _ _ _ rfl e'9.2))))))))))))))))) (fun g'7=>gy_ rfl (s_mvI rfl (gy_ rfl (b_ rfl rfl eql_ (pf_ rfl rfl (s_mvB rfl (em_ (g:=61) rfl (fun g'10=>gy_ rfl (f_ H5 (gy_ rfl (l_ rfl B1 rfl rfl (gy_ rfl (((((h.2 g'1).2 g'4).2 g'7).1 g'10).elim fun r'11 e'12=>ca_ (sc rfl rfl sn) e'12.1 (gy_ rfl (b_ rfl rfl eql_ (pt_ rfl rfl (s_mvB rfl (e_ (rt_ (hQ _ _ _ rfl e'12.2))))))))))))) (fun g'10=>gn_ (b:=false) rfl rfl (gn_ (b:=false) rfl rfl (gn_ (b:=false) rfl rfl (gn_ (b:=false) rfl rfl (pf_ rfl rfl (s_mvB rfl (e_ (rt_ (hQ _ _ _ rfl ((((h.2 g'1).2 g'4).2 g'7).2 g'10))))))))))))))))))))))))))))))))))))))))))
theorem w235_1 {many1:Int}{m0:Img}{m1:Dfr}{v0:Nat}{v1:Nat}(H1:σ 1 = .i .i64 many1)(H3:σ 3 = .p (d,0) v0 0)(H5:σ 5 = .p (d,1) v1 0)(B0:lk st.bx (d,0) = some (v0,[.sl .ext (List.map Typ.row m0.types),.sl .ext (List.map rowS m0.texts),.sl .ext (List.map Fun.row m0.funcs)]))(B1:lk st.bx (d,1) = some (v1,[.i .i64 m1.frame,.i .i64 m1.func,.b m1.hasArg,.i .u8 m1.arg.kind,.i .i64 m1.arg.int,.s m1.arg.text,.sl .ext (List.map Val.row m1.arg.list),.b m1.arg.cut]))(h:T235_1 prog K many1 m0 m1):W prog d c235_1 σ st Q:=
 sq_ (q_ rfl (f_ H5 (l_ rfl B1 rfl rfl (b_ rfl rfl lss_ (s_mvB rfl (em_ (g:=11) rfl (fun g'1=>gn_ (b:=true) rfl rfl (gn_ (b:=true) rfl rfl (gn_ (b:=true) rfl rfl (gn_ (b:=true) rfl rfl (pt_ rfl rfl (s_mvB rfl (gn_ (b:=true) rfl rfl (gn_ (b:=true) rfl rfl (gn_ (b:=true) rfl rfl (pt_ rfl rfl (s_mvB rfl (gn_ (b:=true) rfl rfl (gn_ (b:=true) rfl rfl (gn_ (b:=true) rfl rfl (gn_ (b:=true) rfl rfl (gn_ (b:=true) rfl rfl (gn_ (b:=true) rfl rfl (pt_ rfl rfl (s_mvB rfl (gn_ (b:=true) rfl rfl (gn_ (b:=true) rfl rfl (gn_ (b:=true) rfl rfl (gn_ (b:=true) rfl rfl (gn_ (b:=true) rfl rfl (gn_ (b:=true) rfl rfl (gn_ (b:=true) rfl rfl (gn_ (b:=true) rfl rfl (gn_ (b:=true) rfl rfl (pt_ rfl rfl (e_ (ct_ rfl (q_ rfl (m_ (e_ (rt_ (hQ _ _ _ rfl (h.1 g'1))))))))))))))))))))))))))))))))))))) (fun g'1=>gy_ rfl (f_ H5 (gy_ rfl (l_ rfl B1 rfl rfl (gy_ rfl (s_mvI H1 (gy_ rfl (b_ rfl rfl geq_ (pf_ rfl rfl (s_mvB rfl (em_ (g:=17) rfl (fun g'2=>gn_ (b:=true) rfl rfl (gn_ (b:=true) rfl rfl (gn_ (b:=true) rfl rfl (pt_ rfl rfl (s_mvB rfl (gn_ (b:=true) rfl rfl (gn_ (b:=true) rfl rfl (gn_ (b:=true) rfl rfl (gn_ (b:=true) rfl rfl (gn_ (b:=true) rfl rfl (gn_ (b:=true) rfl rfl (pt_ rfl rfl (s_mvB rfl (gn_ (b:=true) rfl rfl (gn_ (b:=true) rfl rfl (gn_ (b:=true) rfl rfl (gn_ (b:=true) rfl rfl (gn_ (b:=true) rfl rfl (gn_ (b:=true) rfl rfl (gn_ (b:=true) rfl rfl (gn_ (b:=true) rfl rfl (gn_ (b:=true) rfl rfl (pt_ rfl rfl (e_ (ct_ rfl (q_ rfl (m_ (e_ (rt_ (hQ _ _ _ rfl ((h.2 g'1).1 g'2))))))))))))))))))))))))))))))) (fun g'2=>gy_ rfl (f_ H5 (gy_ rfl (l_ rfl B1 rfl rfl (gy_ rfl (b_ rfl rfl lss_ (pf_ rfl rfl (s_mvB rfl (em_ (g:=22) rfl (fun g'3=>gn_ (b:=true) rfl rfl (gn_ (b:=true) rfl rfl (gn_ (b:=true) rfl rfl (gn_ (b:=true) rfl rfl (gn_ (b:=true) rfl rfl (gn_ (b:=true) rfl rfl (pt_ rfl rfl (s_mvB rfl (gn_ (b:=true) rfl rfl (gn_ (b:=true) rfl rfl (gn_ (b:=true) rfl rfl (gn_ (b:=true) rfl rfl (gn_ (b:=true) rfl rfl (gn_ (b:=true) rfl rfl (gn_ (b:=true) rfl rfl (gn_ (b:=true) rfl rfl (gn_ (b:=true) rfl rfl (pt_ rfl rfl (e_ (ct_ rfl (q_ rfl (m_ (e_ (rt_ (hQ _ _ _ rfl (((h.2 g'1).2 g'2).1 g'3)))))))))))))))))))))))))) (fun g'3=>gy_ rfl (f_ H5 (gy_ rfl (l_ rfl B1 rfl rfl (gy_ rfl (f_ H3 (gy_ rfl (l_ rfl B0 rfl rfl (gy_ rfl (ll_ rfl (gy_ rfl (b_ rfl rfl geq_ (pf_ rfl rfl (s_mvB rfl (em_ (g:=30) rfl (fun g'4=>gn_ (b:=true) rfl rfl (gn_ (b:=true) rfl rfl (gn_ (b:=true) rfl rfl (gn_ (b:=true) rfl rfl (gn_ (b:=true) rfl rfl (gn_ (b:=true) rfl rfl (gn_ (b:=true) rfl rfl (gn_ (b:=true) rfl rfl (gn_ (b:=true) rfl rfl (pt_ rfl rfl (e_ (ct_ rfl (q_ rfl (m_ (e_ (rt_ (hQ _ _ _ rfl ((((h.2 g'1).2 g'2).2 g'3).1 g'4)))))))))))))))))) (fun g'4=>gy_ rfl (f_ H3 (gy_ rfl (l_ rfl B0 rfl rfl (gy_ rfl (f_ H5 (gy_ rfl (l_ rfl B1 rfl rfl (gy_ rfl (((((h.2 g'1).2 g'2).2 g'3).2 g'4).2.elim fun c'5 e'6=>ia_ rfl rfl ((((h.2 g'1).2 g'2).2 g'3).2 g'4).1 e'6.1 (Fun.row_eq c'5) rfl (gy_ rfl (ff_ rfl (gy_ rfl (lf_ rfl rfl rfl (gy_ rfl (ln_ rfl (gy_ rfl (b_ rfl rfl gtr_ (pf_ rfl rfl (e_ (cs_ rfl (fun g'7=>q_ rfl (m_ (e_ (rt_ (hQ _ _ _ rfl (e'6.2.1 g'7)))))) (fun g'7=>sk_ (w235_2 hQ H5 B1 (e'6.2.2 g'7)))))))))))))))))))))))))))))))))))))))))))))))))))))))))))))))))
theorem w235_0 {m0:Img}{many1:Int}{d2:Dfr}(H0:σ 0 = m0.av)(H1:σ 1 = .i .i64 many1)(H2:σ 2 = d2.av)(h:T235_0 prog K m0 many1 d2):W prog d (.seq (.reg 0 r235_0) c235_1) σ st Q:=
 q_ rfl (s_box H0 rfl (s_box H2 rfl (m_ (e_ (w235_1 hQ H1 rfl rfl (lk_other rfl lk_here) lk_here h)))))
end
theorem p235 {prog:Prog}(hf:prog.fn 235 = some pf235){m0:Img}{many1:Int}{d2:Dfr}{K:Bool→Prop}(h:T235_0 prog K m0 many1 d2) :∃res0:Bool,K res0∧Pus prog 235 [m0.av,.i .i64 many1,d2.av] (.b res0):=by
  obtain ⟨v,hv,res0,hk,rfl⟩:=Pus.of (K:=fun v=>∃res0:Bool,K res0∧v = .b res0) hf rfl (w235_0 (σ:=sl0 [m0.av,.i .i64 many1,d2.av]) (fun σ st   res0 H6 hk=>⟨.b res0,by simp only [pf235,ares,aresL,H6,ares1,Option.map_some],_,rfl,res0,hk,rfl⟩) rfl rfl rfl h)
  exact ⟨res0,hk,hv⟩
def r221_0:List AI:=[oO 2 (.box 3 (.t 0)),
 oO 3 (.box 5 (.t 1)),
 oC 4 (.b false)]
def r221_1:List AI:=[oF 7 0 3,
 oL 8 7,
 oB 9 .eql (.t 8) (.c (.i .u8 3))]
def r221_2:List AI:=[oF 10 2 3,
 oL 11 10,
 oO 12 (.len false (.t 11)),
 oB 13 .eql (.t 12) (.c (.i .i64 0)),
 oM 14 13,
 oG 15 (.fad 3 (.t 3)) 14 true,
 oG 16 (.load 1 false (.t 15)) 14 true,
 oG 17 (.len false (.t 16)) 14 true,
 oG 18 (.bin .eql (.t 17) (.c (.i .i64 0))) 14 true,
 oO 19 (.pick (.t 14) (.t 18) (.c (.b false))),
 oM 20 19,
 oG 21 (.fad 4 (.t 3)) 20 true,
 oG 22 (.load 1 false (.t 21)) 20 true,
 oG 23 (.len false (.t 22)) 20 true,
 oG 24 (.bin .eql (.t 23) (.c (.i .i64 0))) 20 true,
 oO 25 (.pick (.t 20) (.t 24) (.c (.b false))),
 oM 26 25,
 oG 27 (.fad 1 (.t 3)) 26 true,
 oG 28 (.load 1 false (.t 27)) 26 true,
 oG 29 (.bin .eql (.t 28) (.c (.i .i64 0))) 26 true,
 oO 30 (.pick (.t 26) (.t 29) (.c (.b false))),
 oM 4 30]
def r221_3:List AI:=[oF 31 0 3,
 oL 32 31,
 oB 33 .neq (.t 32) (.c (.i .u8 2)),
 oM 34 33,
 oG 35 (.fad 0 (.t 3)) 34 true,
 oG 36 (.load 1 false (.t 35)) 34 true,
 oG 37 (.bin .neq (.t 36) (.c (.i .u8 1))) 34 true,
 oG 38 (.mv (.t 37)) 34 true,
 oG 39 (.fad 1 (.t 3)) 38 false,
 oG 40 (.load 1 false (.t 39)) 38 false,
 oG 41 (.bin .neq (.t 40) (.c (.i .i64 0))) 38 false,
 oG 42 (.pick (.t 38) (.c (.b true)) (.t 41)) 34 true,
 oO 43 (.pick (.t 34) (.t 42) (.c (.b false)))]
def r221_4:List AI:=[oC 4 (.b false)]
def r221_5:List AI:=[oF 44 2 3,
 oL 45 44,
 oO 46 (.len false (.t 45)),
 oB 47 .lss (.t 46) (.c (.i .i64 1)),
 oM 48 47,
 oG 49 (.fad 2 (.t 3)) 48 false,
 oG 50 (.load 1 false (.t 49)) 48 false,
 oG 51 (.len false (.t 50)) 48 false,
 oG 52 (.bin .gtr (.t 51) (.c (.i .i64 170))) 48 false,
 oO 53 (.pick (.t 48) (.c (.b true)) (.t 52)),
 oM 54 53,
 oG 55 (.fad 3 (.t 3)) 54 false,
 oG 56 (.load 1 false (.t 55)) 54 false,
 oG 57 (.len false (.t 56)) 54 false,
 oG 58 (.bin .gtr (.t 57) (.c (.i .i64 410))) 54 false,
 oO 59 (.pick (.t 54) (.c (.b true)) (.t 58)),
 oM 60 59,
 oG 61 (.fad 4 (.t 3)) 60 false,
 oG 62 (.load 1 false (.t 61)) 60 false,
 oG 63 (.call false 163 [(.t 62)]) 60 false,
 oG 64 (.bin .neq (.t 63) (.c (.i .i64 0))) 60 false,
 oO 65 (.pick (.t 60) (.c (.b true)) (.t 64))]
def r221_6:List AI:=[oC 4 (.b false)]
def r221_7:List AI:=[oC 5 (.i .i64 0)]
def r221_8:List AI:=[oM 66 5,
 oF 67 2 3,
 oL 68 67,
 oO 69 (.len false (.t 68)),
 oB 70 .lss (.t 66) (.t 69)]
def r221_9:List AI:=[oO 73 (.load 3 true (.t 2)),
 oF 74 2 3,
 oL 75 74,
 oM 76 5,
 oO 77 (.iaL 4 (.t 75) (.t 76)),
 oO 78 (.load 4 true (.t 77)),
 oO 79 (.call false 87 [(.t 73),(.t 78)]),
 oB 80 .neq (.t 79) (.c (.i .i64 0))]
def r221_10:List AI:=[oC 4 (.b false)]
def r221_11:List AI:=[oM 71 5,
 oB 72 .add (.t 71) (.c (.i .i64 1)),
 oM 5 72]
def r221_12:List AI:=[oC 6 (.i .i64 0)]
def r221_13:List AI:=[oM 81 6,
 oF 82 3 3,
 oL 83 82,
 oO 84 (.len false (.t 83)),
 oB 85 .lss (.t 81) (.t 84)]
def r221_14:List AI:=[oO 88 (.load 3 true (.t 2)),
 oF 89 2 3,
 oL 90 89,
 oO 91 (.len false (.t 90)),
 oF 92 3 3,
 oL 93 92,
 oM 94 6,
 oO 95 (.iaL 8 (.t 93) (.t 94)),
 oO 96 (.load 8 true (.t 95)),
 oO 97 (.call false 235 [(.t 88),(.t 91),(.t 96)]),
 oO 98 (.un .not (.t 97))]
def r221_15:List AI:=[oC 4 (.b false)]
def r221_16:List AI:=[oM 86 6,
 oB 87 .add (.t 86) (.c (.i .i64 1)),
 oM 6 87]
def r221_17:List AI:=[oC 4 (.b true)]
abbrev l221_0:AC:=(.seq (.seq (.reg 8 r221_8) (.cond (.t 70) .skip (.exit 0))) (.seq (.block 1 (.seq (.reg 10 r221_9) (.cond (.t 80) (.seq (.reg 11 r221_10) .ret) .skip))) (.reg 9 r221_11)))
abbrev l221_1:AC:=(.seq (.seq (.reg 13 r221_13) (.cond (.t 85) .skip (.exit 2))) (.seq (.block 3 (.seq (.reg 15 r221_14) (.cond (.t 98) (.seq (.reg 16 r221_15) .ret) .skip))) (.reg 14 r221_16)))
abbrev c221_2:AC:=(.seq (.reg 17 r221_17) .ret)
abbrev c221_3:AC:=(.seq (.seq (.reg 12 r221_12) (.block 2 (.loop l221_1))) c221_2)
abbrev c221_4:AC:=(.seq (.seq (.reg 7 r221_7) (.block 0 (.loop l221_0))) c221_3)
abbrev c221_5:AC:=(.seq (.seq (.reg 5 r221_5) (.cond (.t 65) (.seq (.reg 6 r221_6) .ret) .skip)) c221_4)
abbrev c221_6:AC:=(.seq (.seq (.reg 3 r221_3) (.cond (.t 43) (.seq (.reg 4 r221_4) .ret) .skip)) c221_5)
abbrev c221_7:AC:=(.seq (.seq (.reg 1 r221_1) (.cond (.t 9) (.seq (.reg 2 r221_2) .ret) .skip)) c221_6)
abbrev b221:AC:=(.seq (.reg 0 r221_0) c221_7)
def pf221:AF:={ nt:=99,res:=[.tmp 4],body:=b221 }
abbrev H221 (Q:AE→Sl→St→Prop)(K:Bool→Prop):Prop:=∀(σ:Sl)(st:St)(res0:Bool),σ 4 = .b res0→K res0→Q .ret σ st
abbrev I221_0 (prog:Prog)(d:Nat)(Q:AE→Sl→St→Prop)(i5:Int)(m0:Img)(m1:Rou):Prop:=
  ∀(σ:Sl)(st:St) (v0 v1:Nat),σ 2 = .p (d,0) v0 0→σ 3 = .p (d,1) v1 0→σ 5 = .i .i64 i5→lk st.bx (d,0) = some (v0,[.sl .ext (List.map Typ.row m0.types),.sl .ext (List.map rowS m0.texts),.sl .ext (List.map Fun.row m0.funcs)])→lk st.bx (d,1) = some (v1,[.i .u8 m1.status,.i .i64 m1.key,.sl .ext (List.map Frm.row m1.frames),.sl .ext (List.map Dfr.row m1.defers),.sl .ext (List.map Pan.row m1.panics)])→W prog d (.loop l221_0) σ st (blockW 0 (thenW prog d c221_3 Q))
abbrev I221_1 (prog:Prog)(d:Nat)(Q:AE→Sl→St→Prop)(i6:Int)(m0:Img)(m1:Rou):Prop:=
  ∀(σ:Sl)(st:St) (v0 v1:Nat),σ 2 = .p (d,0) v0 0→σ 3 = .p (d,1) v1 0→σ 6 = .i .i64 i6→lk st.bx (d,0) = some (v0,[.sl .ext (List.map Typ.row m0.types),.sl .ext (List.map rowS m0.texts),.sl .ext (List.map Fun.row m0.funcs)])→lk st.bx (d,1) = some (v1,[.i .u8 m1.status,.i .i64 m1.key,.sl .ext (List.map Frm.row m1.frames),.sl .ext (List.map Dfr.row m1.defers),.sl .ext (List.map Pan.row m1.panics)])→W prog d (.loop l221_1) σ st (blockW 2 (thenW prog d c221_2 Q))
def T221_8 (prog:Prog)(K:Bool→Prop) :Prop:=
  K true
def T221_7 (prog:Prog)(K:Bool→Prop)(P1:Int→Img→Rou→Prop)(i6:Int)(m0:Img)(m1:Rou):Prop:=
  (i6 < (m1.defers.length:Int)→0≤i6∧∃c'2:Dfr,m1.defers[(i6).toNat]? = some c'2∧∃r'4:Bool,Pus prog 235 [m0.av,.i .i64 (m1.frames.length:Int),c'2.av] (.b r'4)∧((!r'4) = true→K false)∧((!r'4) = false→P1 (IntKind.i64.wrap (i6 + 1)) m0 m1))∧(¬(i6 < (m1.defers.length:Int))→T221_8 prog K )
def T221_6 (prog:Prog)(K:Bool→Prop)(m0:Img)(m1:Rou):Prop:=
  ∀P1:Int→Img→Rou→Prop,(∀(i6:Int)(m0:Img)(m1:Rou),T221_7 prog K P1 i6 m0 m1→P1 i6 m0 m1)→P1 0 m0 m1
def T221_5 (prog:Prog)(K:Bool→Prop)(P0:Int→Img→Rou→Prop)(i5:Int)(m0:Img)(m1:Rou):Prop:=
  (i5 < (m1.frames.length:Int)→0≤i5∧∃c'2:Frm,m1.frames[(i5).toNat]? = some c'2∧∃r'4:Int,Pus prog 87 [m0.av,c'2.av] (.i .i64 r'4)∧(r'4≠0→K false)∧(¬(r'4≠0)→P0 (IntKind.i64.wrap (i5 + 1)) m0 m1))∧(¬(i5 < (m1.frames.length:Int))→T221_6 prog K m0 m1)
def T221_4 (prog:Prog)(K:Bool→Prop)(m0:Img)(m1:Rou):Prop:=
  ∀P0:Int→Img→Rou→Prop,(∀(i5:Int)(m0:Img)(m1:Rou),T221_5 prog K P0 i5 m0 m1→P0 i5 m0 m1)→P0 0 m0 m1
def T221_3 (prog:Prog)(K:Bool→Prop)(m0:Img)(m1:Rou):Prop:=
  ((m1.frames.length:Int) < 1→K false)∧(¬((m1.frames.length:Int) < 1)→((m1.frames.length:Int) > 170→K false)∧(¬((m1.frames.length:Int) > 170)→((m1.defers.length:Int) > 410→K false)∧(¬((m1.defers.length:Int) > 410)→∃r'4:Int,Pus prog 163 [.sl .ext (List.map Pan.row m1.panics)] (.i .i64 r'4)∧(r'4≠0→K false)∧(¬(r'4≠0)→T221_4 prog K m0 m1))))
def T221_2 (prog:Prog)(K:Bool→Prop)(m0:Img)(m1:Rou):Prop:=
  (m1.status≠2→(m1.status≠1→K false)∧(¬(m1.status≠1)→(m1.key≠0→K false)∧(¬(m1.key≠0)→T221_3 prog K m0 m1)))∧(¬(m1.status≠2)→T221_3 prog K m0 m1)
def T221_1 (prog:Prog)(K:Bool→Prop)(m0:Img)(m1:Rou):Prop:=
  (m1.status = 3→((m1.frames.length:Int) = 0→((m1.defers.length:Int) = 0→((m1.panics.length:Int) = 0→K (decide (m1.key = 0)))∧(¬((m1.panics.length:Int) = 0)→K false))∧(¬((m1.defers.length:Int) = 0)→K false))∧(¬((m1.frames.length:Int) = 0)→K false))∧(¬(m1.status = 3)→T221_2 prog K m0 m1)
def T221_0 (prog:Prog)(K:Bool→Prop)(m0:Img)(x1:Rou):Prop:=
  T221_1 prog K m0 x1
section
variable {prog:Prog}{d:Nat}{Q:AE→Sl→St→Prop}{K:Bool→Prop}(hQ:H221 Q K){σ:Sl}{st:St}
include hQ
theorem w221_8 (h:T221_8 prog K ):W prog d c221_2 σ st Q:=
 q_ rfl (m_ (e_ (rt_ (hQ _ _ _ rfl h))))
theorem w221_7 {i6:Int}{m0:Img}{m1:Rou}{P1:Int→Img→Rou→Prop} (kP1 :∀(i6:Int)(m0:Img)(m1:Rou),P1 i6 m0 m1→I221_1 prog d Q i6 m0 m1){v0:Nat}{v1:Nat}(H2:σ 2 = .p (d,0) v0 0)(H3:σ 3 = .p (d,1) v1 0)(H6:σ 6 = .i .i64 i6)(B0:lk st.bx (d,0) = some (v0,[.sl .ext (List.map Typ.row m0.types),.sl .ext (List.map rowS m0.texts),.sl .ext (List.map Fun.row m0.funcs)]))(B1:lk st.bx (d,1) = some (v1,[.i .u8 m1.status,.i .i64 m1.key,.sl .ext (List.map Frm.row m1.frames),.sl .ext (List.map Dfr.row m1.defers),.sl .ext (List.map Pan.row m1.panics)]))(h:T221_7 prog K P1 i6 m0 m1):W prog d l221_1 σ st (thenW prog d (.loop l221_1) (blockW 2 (thenW prog d c221_2 Q))):=
 sq_ (q_ rfl (m_ (f_ H3 (l_ rfl B1 rfl rfl (ll_ rfl (b_ H6 rfl lss_ (e_ (cs_ rfl (fun g'1=>sk_ (sq_ (bk_ (q_ rfl (l_ H2 B0 rfl rfl (f_ H3 (l_ rfl B1 rfl rfl (ll_ rfl (f_ H3 (l_ rfl B1 rfl rfl (m_ ((h.1 g'1).2.elim fun c'2 e'3=>ia_ rfl H6 (h.1 g'1).1 e'3.1 (Dfr.row_eq c'2) rfl (lf_ rfl rfl rfl (e'3.2.elim fun r'4 e'5=>ca_ (sc rfl rfl (sc rfl rfl (sc rfl rfl sn))) e'5.1 (nt_ rfl (e_ (cb_ rfl (fun g'6=>q_ rfl (m_ (e_ (rt_ (hQ _ _ _ rfl (e'5.2.1 g'6)))))) (fun g'6=>sk_ (W.reg0 rfl fun _ _=>m_ (b_ H6 rfl add_ (m_ (e_ (kP1 _ _ _ (e'5.2.2 g'6) _ _ _ _ H2 H3 rfl B0 B1))))))))))))))))))))))) (fun g'1=>ex_ (w221_8 hQ (h.2 g'1)))))))))))
theorem w221_6 {m0:Img}{m1:Rou}{v0:Nat}{v1:Nat}(H2:σ 2 = .p (d,0) v0 0)(H3:σ 3 = .p (d,1) v1 0)(B0:lk st.bx (d,0) = some (v0,[.sl .ext (List.map Typ.row m0.types),.sl .ext (List.map rowS m0.texts),.sl .ext (List.map Fun.row m0.funcs)]))(B1:lk st.bx (d,1) = some (v1,[.i .u8 m1.status,.i .i64 m1.key,.sl .ext (List.map Frm.row m1.frames),.sl .ext (List.map Dfr.row m1.defers),.sl .ext (List.map Pan.row m1.panics)]))(h:T221_6 prog K m0 m1):W prog d c221_3 σ st Q:=
 sq_ (q_ rfl (m_ (e_ (bk_ (h (I221_1 prog d Q ) (fun _ _ _ hb _ _ _ _ H2 H3 H6 B0 B1=>W.loop (w221_7 hQ (fun _ _ _ x=>x) H2 H3 H6 B0 B1 hb)) _ _ _ _ H2 H3 rfl B0 B1)))))
theorem w221_5 {i5:Int}{m0:Img}{m1:Rou}{P0:Int→Img→Rou→Prop} (kP0 :∀(i5:Int)(m0:Img)(m1:Rou),P0 i5 m0 m1→I221_0 prog d Q i5 m0 m1){v0:Nat}{v1:Nat}(H2:σ 2 = .p (d,0) v0 0)(H3:σ 3 = .p (d,1) v1 0)(H5:σ 5 = .i .i64 i5)(B0:lk st.bx (d,0) = some (v0,[.sl .ext (List.map Typ.row m0.types),.sl .ext (List.map rowS m0.texts),.sl .ext (List.map Fun.row m0.funcs)]))(B1:lk st.bx (d,1) = some (v1,[.i .u8 m1.status,.i .i64 m1.key,.sl .ext (List.map Frm.row m1.frames),.sl .ext (List.map Dfr.row m1.defers),.sl .ext (List.map Pan.row m1.panics)]))(h:T221_5 prog K P0 i5 m0 m1):W prog d l221_0 σ st (thenW prog d (.loop l221_0) (blockW 0 (thenW prog d c221_3 Q))):=
 sq_ (q_ rfl (m_ (f_ H3 (l_ rfl B1 rfl rfl (ll_ rfl (b_ H5 rfl lss_ (e_ (cs_ rfl (fun g'1=>sk_ (sq_ (bk_ (q_ rfl (l_ H2 B0 rfl rfl (f_ H3 (l_ rfl B1 rfl rfl (m_ ((h.1 g'1).2.elim fun c'2 e'3=>ia_ rfl H5 (h.1 g'1).1 e'3.1 (Frm.row_eq c'2) rfl (lf_ rfl rfl rfl (e'3.2.elim fun r'4 e'5=>ca_ (sc rfl rfl (sc rfl rfl sn)) e'5.1 (b_ rfl rfl neq_ (e_ (cs_ rfl (fun g'6=>q_ rfl (m_ (e_ (rt_ (hQ _ _ _ rfl (e'5.2.1 g'6)))))) (fun g'6=>sk_ (W.reg0 rfl fun _ _=>m_ (b_ H5 rfl add_ (m_ (e_ (kP0 _ _ _ (e'5.2.2 g'6) _ _ _ _ H2 H3 rfl B0 B1)))))))))))))))))))) (fun g'1=>ex_ (w221_6 hQ H2 H3 B0 B1 (h.2 g'1)))))))))))
theorem w221_4 {m0:Img}{m1:Rou}{v0:Nat}{v1:Nat}(H2:σ 2 = .p (d,0) v0 0)(H3:σ 3 = .p (d,1) v1 0)(B0:lk st.bx (d,0) = some (v0,[.sl .ext (List.map Typ.row m0.types),.sl .ext (List.map rowS m0.texts),.sl .ext (List.map Fun.row m0.funcs)]))(B1:lk st.bx (d,1) = some (v1,[.i .u8 m1.status,.i .i64 m1.key,.sl .ext (List.map Frm.row m1.frames),.sl .ext (List.map Dfr.row m1.defers),.sl .ext (List.map Pan.row m1.panics)]))(h:T221_4 prog K m0 m1):W prog d c221_4 σ st Q:=
 sq_ (q_ rfl (m_ (e_ (bk_ (h (I221_0 prog d Q ) (fun _ _ _ hb _ _ _ _ H2 H3 H5 B0 B1=>W.loop (w221_5 hQ (fun _ _ _ x=>x) H2 H3 H5 B0 B1 hb)) _ _ _ _ H2 H3 rfl B0 B1)))))
theorem w221_3 {m0:Img}{m1:Rou}{v0:Nat}{v1:Nat}(H2:σ 2 = .p (d,0) v0 0)(H3:σ 3 = .p (d,1) v1 0)(B0:lk st.bx (d,0) = some (v0,[.sl .ext (List.map Typ.row m0.types),.sl .ext (List.map rowS m0.texts),.sl .ext (List.map Fun.row m0.funcs)]))(B1:lk st.bx (d,1) = some (v1,[.i .u8 m1.status,.i .i64 m1.key,.sl .ext (List.map Frm.row m1.frames),.sl .ext (List.map Dfr.row m1.defers),.sl .ext (List.map Pan.row m1.panics)]))(h:T221_3 prog K m0 m1):W prog d c221_5 σ st Q:=
 sq_ (q_ rfl (f_ H3 (l_ rfl B1 rfl rfl (ll_ rfl (b_ rfl rfl lss_ (s_mvB rfl (em_ (g:=48) rfl (fun g'1=>gn_ (b:=true) rfl rfl (gn_ (b:=true) rfl rfl (gn_ (b:=true) rfl rfl (gn_ (b:=true) rfl rfl (pt_ rfl rfl (s_mvB rfl (gn_ (b:=true) rfl rfl (gn_ (b:=true) rfl rfl (gn_ (b:=true) rfl rfl (gn_ (b:=true) rfl rfl (pt_ rfl rfl (s_mvB rfl (gn_ (b:=true) rfl rfl (gn_ (b:=true) rfl rfl (gn_ (b:=true) rfl rfl (gn_ (b:=true) rfl rfl (pt_ rfl rfl (e_ (ct_ rfl (q_ rfl (m_ (e_ (rt_ (hQ _ _ _ rfl (h.1 g'1))))))))))))))))))))))))) (fun g'1=>gy_ rfl (f_ H3 (gy_ rfl (l_ rfl B1 rfl rfl (gy_ rfl (ll_ rfl (gy_ rfl (b_ rfl rfl gtr_ (pf_ rfl rfl (s_mvB rfl (em_ (g:=54) rfl (fun g'2=>gn_ (b:=true) rfl rfl (gn_ (b:=true) rfl rfl (gn_ (b:=true) rfl rfl (gn_ (b:=true) rfl rfl (pt_ rfl rfl (s_mvB rfl (gn_ (b:=true) rfl rfl (gn_ (b:=true) rfl rfl (gn_ (b:=true) rfl rfl (gn_ (b:=true) rfl rfl (pt_ rfl rfl (e_ (ct_ rfl (q_ rfl (m_ (e_ (rt_ (hQ _ _ _ rfl ((h.2 g'1).1 g'2))))))))))))))))))) (fun g'2=>gy_ rfl (f_ H3 (gy_ rfl (l_ rfl B1 rfl rfl (gy_ rfl (ll_ rfl (gy_ rfl (b_ rfl rfl gtr_ (pf_ rfl rfl (s_mvB rfl (em_ (g:=60) rfl (fun g'3=>gn_ (b:=true) rfl rfl (gn_ (b:=true) rfl rfl (gn_ (b:=true) rfl rfl (gn_ (b:=true) rfl rfl (pt_ rfl rfl (e_ (ct_ rfl (q_ rfl (m_ (e_ (rt_ (hQ _ _ _ rfl (((h.2 g'1).2 g'2).1 g'3))))))))))))) (fun g'3=>gy_ rfl (f_ H3 (gy_ rfl (l_ rfl B1 rfl rfl (gy_ rfl ((((h.2 g'1).2 g'2).2 g'3).elim fun r'4 e'5=>ca_ (sc rfl rfl sn) e'5.1 (gy_ rfl (b_ rfl rfl neq_ (pf_ rfl rfl (e_ (cs_ rfl (fun g'6=>q_ rfl (m_ (e_ (rt_ (hQ _ _ _ rfl (e'5.2.1 g'6)))))) (fun g'6=>sk_ (w221_4 hQ H2 H3 B0 B1 (e'5.2.2 g'6)))))))))))))))))))))))))))))))))))))))))))
theorem w221_2 {m0:Img}{m1:Rou}{v0:Nat}{v1:Nat}(H2:σ 2 = .p (d,0) v0 0)(H3:σ 3 = .p (d,1) v1 0)(B0:lk st.bx (d,0) = some (v0,[.sl .ext (List.map Typ.row m0.types),.sl .ext (List.map rowS m0.texts),.sl .ext (List.map Fun.row m0.funcs)]))(B1:lk st.bx (d,1) = some (v1,[.i .u8 m1.status,.i .i64 m1.key,.sl .ext (List.map Frm.row m1.frames),.sl .ext (List.map Dfr.row m1.defers),.sl .ext (List.map Pan.row m1.panics)]))(h:T221_2 prog K m0 m1):W prog d c221_6 σ st Q:=
 sq_ (q_ rfl (f_ H3 (l_ rfl B1 rfl rfl (b_ rfl rfl neq_ (s_mvB rfl (em_ (g:=34) rfl (fun g'1=>gy_ rfl (f_ H3 (gy_ rfl (l_ rfl B1 rfl rfl (gy_ rfl (b_ rfl rfl neq_ (gy_ rfl (s_mvB rfl (em_ (g:=38) rfl (fun g'2=>gn_ (b:=true) rfl rfl (gn_ (b:=true) rfl rfl (gn_ (b:=true) rfl rfl (gy_ rfl (pt_ rfl rfl (pt_ rfl rfl (e_ (ct_ rfl (q_ rfl (m_ (e_ (rt_ (hQ _ _ _ rfl ((h.1 g'1).1 g'2)))))))))))))) (fun g'2=>gy_ rfl (f_ H3 (gy_ rfl (l_ rfl B1 rfl rfl (gy_ rfl (b_ rfl rfl neq_ (gy_ rfl (pf_ rfl rfl (pt_ rfl rfl (e_ (cs_ rfl (fun g'3=>q_ rfl (m_ (e_ (rt_ (hQ _ _ _ rfl (((h.1 g'1).2 g'2).1 g'3)))))) (fun g'3=>sk_ (w221_3 hQ H2 H3 B0 B1 (((h.1 g'1).2 g'2).2 g'3))))))))))))))))))))))) (fun g'1=>gn_ (b:=false) rfl rfl (gn_ (b:=false) rfl rfl (gn_ (b:=false) rfl rfl (gn_ (b:=false) rfl rfl (gt_ rfl (gt_ rfl (gt_ rfl (gn_ (b:=false) rfl rfl (pf_ rfl rfl (e_ (cf_ rfl (sk_ (w221_3 hQ H2 H3 B0 B1 (h.2 g'1))))))))))))))))))))
theorem w221_1 {m0:Img}{m1:Rou}{v0:Nat}{v1:Nat}(H2:σ 2 = .p (d,0) v0 0)(H3:σ 3 = .p (d,1) v1 0)(B0:lk st.bx (d,0) = some (v0,[.sl .ext (List.map Typ.row m0.types),.sl .ext (List.map rowS m0.texts),.sl .ext (List.map Fun.row m0.funcs)]))(B1:lk st.bx (d,1) = some (v1,[.i .u8 m1.status,.i .i64 m1.key,.sl .ext (List.map Frm.row m1.frames),.sl .ext (List.map Dfr.row m1.defers),.sl .ext (List.map Pan.row m1.panics)]))(h:T221_1 prog K m0 m1):W prog d c221_7 σ st Q:=
 sq_ (q_ rfl (f_ H3 (l_ rfl B1 rfl rfl (b_ rfl rfl eql_ (e_ (cs_ rfl (fun g'1=>q_ rfl (f_ H3 (l_ rfl B1 rfl rfl (ll_ rfl (b_ rfl rfl eql_ (s_mvB rfl (em_ (g:=14) rfl (fun g'2=>gy_ rfl (f_ H3 (gy_ rfl (l_ rfl B1 rfl rfl (gy_ rfl (ll_ rfl (gy_ rfl (b_ rfl rfl eql_ (pt_ rfl rfl (s_mvB rfl (em_ (g:=20) rfl (fun g'3=>gy_ rfl (f_ H3 (gy_ rfl (l_ rfl B1 rfl rfl (gy_ rfl (ll_ rfl (gy_ rfl (b_ rfl rfl eql_ (pt_ rfl rfl (s_mvB rfl (em_ (g:=26) rfl (fun g'4=>gy_ rfl (f_ H3 (gy_ rfl (l_ rfl B1 rfl rfl (gy_ rfl (b_ rfl rfl eql_ (pt_ rfl rfl (s_mvB rfl (e_ (rt_ (hQ _ _ _ rfl ((((h.1 g'1).1 g'2).1 g'3).1 g'4)))))))))))) (fun g'4=>gn_ (b:=false) rfl rfl (gn_ (b:=false) rfl rfl (gn_ (b:=false) rfl rfl (pf_ rfl rfl (s_mvB rfl (e_ (rt_ (hQ _ _ _ rfl ((((h.1 g'1).1 g'2).1 g'3).2 g'4)))))))))))))))))))) (fun g'3=>gn_ (b:=false) rfl rfl (gn_ (b:=false) rfl rfl (gn_ (b:=false) rfl rfl (gn_ (b:=false) rfl rfl (pf_ rfl rfl (s_mvB rfl (gn_ (b:=false) rfl rfl (gn_ (b:=false) rfl rfl (gn_ (b:=false) rfl rfl (pf_ rfl rfl (s_mvB rfl (e_ (rt_ (hQ _ _ _ rfl (((h.1 g'1).1 g'2).2 g'3)))))))))))))))))))))))))) (fun g'2=>gn_ (b:=false) rfl rfl (gn_ (b:=false) rfl rfl (gn_ (b:=false) rfl rfl (gn_ (b:=false) rfl rfl (pf_ rfl rfl (s_mvB rfl (gn_ (b:=false) rfl rfl (gn_ (b:=false) rfl rfl (gn_ (b:=false) rfl rfl (gn_ (b:=false) rfl rfl (pf_ rfl rfl (s_mvB rfl (gn_ (b:=false) rfl rfl (gn_ (b:=false) rfl rfl (gn_ (b:=false) rfl rfl (pf_ rfl rfl (s_mvB rfl (e_ (rt_ (hQ _ _ _ rfl ((h.1 g'1).2 g'2)))))))))))))))))))))))))))) (fun g'1=>sk_ (w221_2 hQ H2 H3 B0 B1 (h.2 g'1)))))))))
theorem w221_0 {m0:Img}{x1:Rou}(H0:σ 0 = m0.av)(H1:σ 1 = x1.av)(h:T221_0 prog K m0 x1):W prog d (.seq (.reg 0 r221_0) c221_7) σ st Q:=
 q_ rfl (s_box H0 rfl (s_box H1 rfl (m_ (e_ (w221_1 hQ rfl rfl (lk_other rfl lk_here) lk_here h)))))
end
theorem p221 {prog:Prog}(hf:prog.fn 221 = some pf221){m0:Img}{x1:Rou}{K:Bool→Prop}(h:T221_0 prog K m0 x1) :∃res0:Bool,K res0∧Pus prog 221 [m0.av,x1.av] (.b res0):=by
  obtain ⟨v,hv,res0,hk,rfl⟩:=Pus.of (K:=fun v=>∃res0:Bool,K res0∧v = .b res0) hf rfl (w221_0 (σ:=sl0 [m0.av,x1.av]) (fun σ st   res0 H4 hk=>⟨.b res0,by simp only [pf221,ares,aresL,H4,ares1,Option.map_some],_,rfl,res0,hk,rfl⟩) rfl rfl h)
  exact ⟨res0,hk,hv⟩
def r214_0:List AI:=[oO 2 (.box 3 (.t 0)),
 oO 3 (.box 4 (.t 1)),
 oC 4 (.i .i64 0)]
def r214_1:List AI:=[oF 6 0 3,
 oL 7 6,
 oB 8 .lss (.t 7) (.c (.i .u8 1)),
 oM 9 8,
 oG 10 (.fad 0 (.t 3)) 9 false,
 oG 11 (.load 1 false (.t 10)) 9 false,
 oG 12 (.bin .gtr (.t 11) (.c (.i .u8 8))) 9 false,
 oO 13 (.pick (.t 9) (.c (.b true)) (.t 12)),
 oM 14 13,
 oG 15 (.fad 2 (.t 3)) 14 false,
 oG 16 (.load 1 false (.t 15)) 14 false,
 oG 17 (.bin .lss (.t 16) (.c (.i .i64 0))) 14 false,
 oO 18 (.pick (.t 14) (.c (.b true)) (.t 17)),
 oM 19 18,
 oG 20 (.fad 2 (.t 3)) 19 false,
 oG 21 (.load 1 false (.t 20)) 19 false,
 oG 22 (.bin .gtr (.t 21) (.c (.i .i64 5000))) 19 false,
 oO 23 (.pick (.t 19) (.c (.b true)) (.t 22)),
 oM 24 23,
 oG 25 (.fad 3 (.t 3)) 24 false,
 oG 26 (.load 1 false (.t 25)) 24 false,
 oG 27 (.len false (.t 26)) 24 false,
 oG 28 (.bin .gtr (.t 27) (.c (.i .i64 16))) 24 false,
 oO 29 (.pick (.t 24) (.c (.b true)) (.t 28)),
 oM 30 29,
 oG 31 (.fad 1 (.t 3)) 30 false,
 oG 32 (.load 1 false (.t 31)) 30 false,
 oG 33 (.bin .lss (.t 32) (.c (.i .i64 (-1)))) 30 false,
 oO 34 (.pick (.t 30) (.c (.b true)) (.t 33)),
 oM 35 34,
 oG 36 (.fad 1 (.t 3)) 35 false,
 oG 37 (.load 1 false (.t 36)) 35 false,
 oG 38 (.fad 3 (.t 3)) 35 false,
 oG 39 (.load 1 false (.t 38)) 35 false,
 oG 40 (.len false (.t 39)) 35 false,
 oG 41 (.bin .geq (.t 37) (.t 40)) 35 false,
 oO 42 (.pick (.t 35) (.c (.b true)) (.t 41))]
def r214_2:List AI:=[oC 4 (.i .i64 8)]
def r214_3:List AI:=[oC 5 (.i .i64 0)]
def r214_4:List AI:=[oM 43 5,
 oF 44 3 3,
 oL 45 44,
 oO 46 (.len false (.t 45)),
 oB 47 .lss (.t 43) (.t 46)]
def r214_5:List AI:=[oO 50 (.load 3 true (.t 2)),
 oF 51 3 3,
 oL 52 51,
 oM 53 5,
 oO 54 (.iaL 5 (.t 52) (.t 53)),
 oO 55 (.load 5 true (.t 54)),
 oO 56 (.call false 221 [(.t 50),(.t 55)]),
 oO 57 (.un .not (.t 56))]
def r214_6:List AI:=[oC 4 (.i .i64 8)]
def r214_7:List AI:=[oM 48 5,
 oB 49 .add (.t 48) (.c (.i .i64 1)),
 oM 5 49]
def r214_8:List AI:=[oC 4 (.i .i64 0)]
abbrev l214_0:AC:=(.seq (.seq (.reg 4 r214_4) (.cond (.t 47) .skip (.exit 0))) (.seq (.block 1 (.seq (.reg 6 r214_5) (.cond (.t 57) (.seq (.reg 7 r214_6) .ret) .skip))) (.reg 5 r214_7)))
abbrev c214_1:AC:=(.seq (.reg 8 r214_8) .ret)
abbrev c214_2:AC:=(.seq (.seq (.reg 3 r214_3) (.block 0 (.loop l214_0))) c214_1)
abbrev b214:AC:=(.seq (.reg 0 r214_0) (.seq (.seq (.reg 1 r214_1) (.cond (.t 42) (.seq (.reg 2 r214_2) .ret) .skip)) c214_2))
def pf214:AF:={ nt:=58,res:=[.tmp 4],body:=b214 }
abbrev H214 (Q:AE→Sl→St→Prop)(K:Int→Prop):Prop:=∀(σ:Sl)(st:St)(res0:Int),σ 4 = .i .i64 res0→K res0→Q .ret σ st
abbrev I214_0 (prog:Prog)(d:Nat)(Q:AE→Sl→St→Prop)(i5:Int)(m0:Img)(m1:Sta):Prop:=
  ∀(σ:Sl)(st:St) (v0 v1:Nat),σ 2 = .p (d,0) v0 0→σ 3 = .p (d,1) v1 0→σ 5 = .i .i64 i5→lk st.bx (d,0) = some (v0,[.sl .ext (List.map Typ.row m0.types),.sl .ext (List.map rowS m0.texts),.sl .ext (List.map Fun.row m0.funcs)])→lk st.bx (d,1) = some (v1,[.i .u8 m1.outcome,.i .i64 m1.failing,.i .i64 m1.steps,.sl .ext (List.map Rou.row m1.routines)])→W prog d (.loop l214_0) σ st (blockW 0 (thenW prog d c214_1 Q))
def T214_3 (prog:Prog)(K:Int→Prop) :Prop:=
  K 0
def T214_2 (prog:Prog)(K:Int→Prop)(P0:Int→Img→Sta→Prop)(i5:Int)(m0:Img)(m1:Sta):Prop:=
  (i5 < (m1.routines.length:Int)→0≤i5∧∃c'2:Rou,m1.routines[(i5).toNat]? = some c'2∧∃r'4:Bool,Pus prog 221 [m0.av,c'2.av] (.b r'4)∧((!r'4) = true→K 8)∧((!r'4) = false→P0 (IntKind.i64.wrap (i5 + 1)) m0 m1))∧(¬(i5 < (m1.routines.length:Int))→T214_3 prog K )
def T214_1 (prog:Prog)(K:Int→Prop)(m0:Img)(m1:Sta):Prop:=
  ∀P0:Int→Img→Sta→Prop,(∀(i5:Int)(m0:Img)(m1:Sta),T214_2 prog K P0 i5 m0 m1→P0 i5 m0 m1)→P0 0 m0 m1
def T214_0 (prog:Prog)(K:Int→Prop)(m0:Img)(s1:Sta):Prop:=
  (s1.outcome < 1→K 8)∧(¬(s1.outcome < 1)→(s1.outcome > 8→K 8)∧(¬(s1.outcome > 8)→(s1.steps < 0→K 8)∧(¬(s1.steps < 0)→(s1.steps > 5000→K 8)∧(¬(s1.steps > 5000)→((s1.routines.length:Int) > 16→K 8)∧(¬((s1.routines.length:Int) > 16)→(s1.failing < (-1)→K 8)∧(¬(s1.failing < (-1))→(s1.failing ≥ (s1.routines.length:Int)→K 8)∧(¬(s1.failing ≥ (s1.routines.length:Int))→T214_1 prog K m0 s1)))))))
section
variable {prog:Prog}{d:Nat}{Q:AE→Sl→St→Prop}{K:Int→Prop}(hQ:H214 Q K){σ:Sl}{st:St}
include hQ
theorem w214_3 (h:T214_3 prog K ):W prog d c214_1 σ st Q:=
 q_ rfl (m_ (e_ (rt_ (hQ _ _ _ rfl h))))
theorem w214_2 {i5:Int}{m0:Img}{m1:Sta}{P0:Int→Img→Sta→Prop} (kP0 :∀(i5:Int)(m0:Img)(m1:Sta),P0 i5 m0 m1→I214_0 prog d Q i5 m0 m1){v0:Nat}{v1:Nat}(H2:σ 2 = .p (d,0) v0 0)(H3:σ 3 = .p (d,1) v1 0)(H5:σ 5 = .i .i64 i5)(B0:lk st.bx (d,0) = some (v0,[.sl .ext (List.map Typ.row m0.types),.sl .ext (List.map rowS m0.texts),.sl .ext (List.map Fun.row m0.funcs)]))(B1:lk st.bx (d,1) = some (v1,[.i .u8 m1.outcome,.i .i64 m1.failing,.i .i64 m1.steps,.sl .ext (List.map Rou.row m1.routines)]))(h:T214_2 prog K P0 i5 m0 m1):W prog d l214_0 σ st (thenW prog d (.loop l214_0) (blockW 0 (thenW prog d c214_1 Q))):=
 sq_ (q_ rfl (m_ (f_ H3 (l_ rfl B1 rfl rfl (ll_ rfl (b_ H5 rfl lss_ (e_ (cs_ rfl (fun g'1=>sk_ (sq_ (bk_ (q_ rfl (l_ H2 B0 rfl rfl (f_ H3 (l_ rfl B1 rfl rfl (m_ ((h.1 g'1).2.elim fun c'2 e'3=>ia_ rfl H5 (h.1 g'1).1 e'3.1 (Rou.row_eq c'2) rfl (lf_ rfl rfl rfl (e'3.2.elim fun r'4 e'5=>ca_ (sc rfl rfl (sc rfl rfl sn)) e'5.1 (nt_ rfl (e_ (cb_ rfl (fun g'6=>q_ rfl (m_ (e_ (rt_ (hQ _ _ _ rfl (e'5.2.1 g'6)))))) (fun g'6=>sk_ (W.reg0 rfl fun _ _=>m_ (b_ H5 rfl add_ (m_ (e_ (kP0 _ _ _ (e'5.2.2 g'6) _ _ _ _ H2 H3 rfl B0 B1)))))))))))))))))))) (fun g'1=>ex_ (w214_3 hQ (h.2 g'1)))))))))))
theorem w214_1 {m0:Img}{m1:Sta}{v0:Nat}{v1:Nat}(H2:σ 2 = .p (d,0) v0 0)(H3:σ 3 = .p (d,1) v1 0)(B0:lk st.bx (d,0) = some (v0,[.sl .ext (List.map Typ.row m0.types),.sl .ext (List.map rowS m0.texts),.sl .ext (List.map Fun.row m0.funcs)]))(B1:lk st.bx (d,1) = some (v1,[.i .u8 m1.outcome,.i .i64 m1.failing,.i .i64 m1.steps,.sl .ext (List.map Rou.row m1.routines)]))(h:T214_1 prog K m0 m1):W prog d c214_2 σ st Q:=
 sq_ (q_ rfl (m_ (e_ (bk_ (h (I214_0 prog d Q ) (fun _ _ _ hb _ _ _ _ H2 H3 H5 B0 B1=>W.loop (w214_2 hQ (fun _ _ _ x=>x) H2 H3 H5 B0 B1 hb)) _ _ _ _ H2 H3 rfl B0 B1)))))
theorem w214_0 {m0:Img}{s1:Sta}(H0:σ 0 = m0.av)(H1:σ 1 = s1.av)(h:T214_0 prog K m0 s1):W prog d (.seq (.reg 0 r214_0) (.seq (.seq (.reg 1 r214_1) (.cond (.t 42) (.seq (.reg 2 r214_2) .ret) .skip)) c214_2)) σ st Q:=
 q_ rfl (s_box H0 rfl (s_box H1 rfl (m_ (e_ (sq_ (q_ rfl (f_ rfl (l_ rfl lk_here rfl rfl (b_ rfl rfl lss_ (s_mvB rfl (em_ (g:=9) rfl (fun g'1=>gn_ (b:=true) rfl rfl (gn_ (b:=true) rfl rfl (gn_ (b:=true) rfl rfl (pt_ rfl rfl (s_mvB rfl (gn_ (b:=true) rfl rfl (gn_ (b:=true) rfl rfl (gn_ (b:=true) rfl rfl (pt_ rfl rfl (s_mvB rfl (gn_ (b:=true) rfl rfl (gn_ (b:=true) rfl rfl (gn_ (b:=true) rfl rfl (pt_ rfl rfl (s_mvB rfl (gn_ (b:=true) rfl rfl (gn_ (b:=true) rfl rfl (gn_ (b:=true) rfl rfl (gn_ (b:=true) rfl rfl (pt_ rfl rfl (s_mvB rfl (gn_ (b:=true) rfl rfl (gn_ (b:=true) rfl rfl (gn_ (b:=true) rfl rfl (pt_ rfl rfl (s_mvB rfl (gn_ (b:=true) rfl rfl (gn_ (b:=true) rfl rfl (gn_ (b:=true) rfl rfl (gn_ (b:=true) rfl rfl (gn_ (b:=true) rfl rfl (gn_ (b:=true) rfl rfl (pt_ rfl rfl (e_ (ct_ rfl (q_ rfl (m_ (e_ (rt_ (hQ _ _ _ rfl (h.1 g'1))))))))))))))))))))))))))))))))))))))))) (fun g'1=>gy_ rfl (f_ rfl (gy_ rfl (l_ rfl lk_here rfl rfl (gy_ rfl (b_ rfl rfl gtr_ (pf_ rfl rfl (s_mvB rfl (em_ (g:=14) rfl (fun g'2=>gn_ (b:=true) rfl rfl (gn_ (b:=true) rfl rfl (gn_ (b:=true) rfl rfl (pt_ rfl rfl (s_mvB rfl (gn_ (b:=true) rfl rfl (gn_ (b:=true) rfl rfl (gn_ (b:=true) rfl rfl (pt_ rfl rfl (s_mvB rfl (gn_ (b:=true) rfl rfl (gn_ (b:=true) rfl rfl (gn_ (b:=true) rfl rfl (gn_ (b:=true) rfl rfl (pt_ rfl rfl (s_mvB rfl (gn_ (b:=true) rfl rfl (gn_ (b:=true) rfl rfl (gn_ (b:=true) rfl rfl (pt_ rfl rfl (s_mvB rfl (gn_ (b:=true) rfl rfl (gn_ (b:=true) rfl rfl (gn_ (b:=true) rfl rfl (gn_ (b:=true) rfl rfl (gn_ (b:=true) rfl rfl (gn_ (b:=true) rfl rfl (pt_ rfl rfl (e_ (ct_ rfl (q_ rfl (m_ (e_ (rt_ (hQ _ _ _ rfl ((h.2 g'1).1 g'2)))))))))))))))))))))))))))))))))))) (fun g'2=>gy_ rfl (f_ rfl (gy_ rfl (l_ rfl lk_here rfl rfl (gy_ rfl (b_ rfl rfl lss_ (pf_ rfl rfl (s_mvB rfl (em_ (g:=19) rfl (fun g'3=>gn_ (b:=true) rfl rfl (gn_ (b:=true) rfl rfl (gn_ (b:=true) rfl rfl (pt_ rfl rfl (s_mvB rfl (gn_ (b:=true) rfl rfl (gn_ (b:=true) rfl rfl (gn_ (b:=true) rfl rfl (gn_ (b:=true) rfl rfl (pt_ rfl rfl (s_mvB rfl (gn_ (b:=true) rfl rfl (gn_ (b:=true) rfl rfl (gn_ (b:=true) rfl rfl (pt_ rfl rfl (s_mvB rfl (gn_ (b:=true) rfl rfl (gn_ (b:=true) rfl rfl (gn_ (b:=true) rfl rfl (gn_ (b:=true) rfl rfl (gn_ (b:=true) rfl rfl (gn_ (b:=true) rfl rfl (pt_ rfl rfl (e_ (ct_ rfl (q_ rfl (m_ (e_ (rt_ (hQ _ _ _ rfl (((h.2 g'1).2 g'2).1 g'3))))))))))))))))))))))))))))))) (fun g'3=>gy_ rfl (f_ rfl (gy_ rfl (l_ rfl lk_here rfl rfl (gy_ rfl (b_ rfl rfl gtr_ (pf_ rfl rfl (s_mvB rfl (em_ (g:=24) rfl (fun g'4=>gn_ (b:=true) rfl rfl (gn_ (b:=true) rfl rfl (gn_ (b:=true) rfl rfl (gn_ (b:=true) rfl rfl (pt_ rfl rfl (s_mvB rfl (gn_ (b:=true) rfl rfl (gn_ (b:=true) rfl rfl (gn_ (b:=true) rfl rfl (pt_ rfl rfl (s_mvB rfl (gn_ (b:=true) rfl rfl (gn_ (b:=true) rfl rfl (gn_ (b:=true) rfl rfl (gn_ (b:=true) rfl rfl (gn_ (b:=true) rfl rfl (gn_ (b:=true) rfl rfl (pt_ rfl rfl (e_ (ct_ rfl (q_ rfl (m_ (e_ (rt_ (hQ _ _ _ rfl ((((h.2 g'1).2 g'2).2 g'3).1 g'4)))))))))))))))))))))))))) (fun g'4=>gy_ rfl (f_ rfl (gy_ rfl (l_ rfl lk_here rfl rfl (gy_ rfl (ll_ rfl (gy_ rfl (b_ rfl rfl gtr_ (pf_ rfl rfl (s_mvB rfl (em_ (g:=30) rfl (fun g'5=>gn_ (b:=true) rfl rfl (gn_ (b:=true) rfl rfl (gn_ (b:=true) rfl rfl (pt_ rfl rfl (s_mvB rfl (gn_ (b:=true) rfl rfl (gn_ (b:=true) rfl rfl (gn_ (b:=true) rfl rfl (gn_ (b:=true) rfl rfl (gn_ (b:=true) rfl rfl (gn_ (b:=true) rfl rfl (pt_ rfl rfl (e_ (ct_ rfl (q_ rfl (m_ (e_ (rt_ (hQ _ _ _ rfl (((((h.2 g'1).2 g'2).2 g'3).2 g'4).1 g'5)))))))))))))))))))) (fun g'5=>gy_ rfl (f_ rfl (gy_ rfl (l_ rfl lk_here rfl rfl (gy_ rfl (b_ rfl rfl lss_ (pf_ rfl rfl (s_mvB rfl (em_ (g:=35) rfl (fun g'6=>gn_ (b:=true) rfl rfl (gn_ (b:=true) rfl rfl (gn_ (b:=true) rfl rfl (gn_ (b:=true) rfl rfl (gn_ (b:=true) rfl rfl (gn_ (b:=true) rfl rfl (pt_ rfl rfl (e_ (ct_ rfl (q_ rfl (m_ (e_ (rt_ (hQ _ _ _ rfl ((((((h.2 g'1).2 g'2).2 g'3).2 g'4).2 g'5).1 g'6))))))))))))))) (fun g'6=>gy_ rfl (f_ rfl (gy_ rfl (l_ rfl lk_here rfl rfl (gy_ rfl (f_ rfl (gy_ rfl (l_ rfl lk_here rfl rfl (gy_ rfl (ll_ rfl (gy_ rfl (b_ rfl rfl geq_ (pf_ rfl rfl (e_ (cs_ rfl (fun g'7=>q_ rfl (m_ (e_ (rt_ (hQ _ _ _ rfl (((((((h.2 g'1).2 g'2).2 g'3).2 g'4).2 g'5).2 g'6).1 g'7)))))) (fun g'7=>sk_ (w214_1 hQ rfl rfl (lk_other rfl lk_here) lk_here (((((((h.2 g'1).2 g'2).2 g'3).2 g'4).2 g'5).2 g'6).2 g'7))))))))))))))))))))))))))))))))))))))))))))))))))))))))))))))))))))))))))))
end
theorem p214 {prog:Prog}(hf:prog.fn 214 = some pf214){m0:Img}{s1:Sta}{K:Int→Prop}(h:T214_0 prog K m0 s1) :∃res0:Int,K res0∧Pus prog 214 [m0.av,s1.av] (.i .i64 res0):=by
  obtain ⟨v,hv,res0,hk,rfl⟩:=Pus.of (K:=fun v=>∃res0:Int,K res0∧v = .i .i64 res0) hf rfl (w214_0 (σ:=sl0 [m0.av,s1.av]) (fun σ st   res0 H4 hk=>⟨.i .i64 res0,by simp only [pf214,ares,aresL,H4,ares1,Option.map_some],_,rfl,res0,hk,rfl⟩) rfl rfl h)
  exact ⟨res0,hk,hv⟩
end Go.AM
