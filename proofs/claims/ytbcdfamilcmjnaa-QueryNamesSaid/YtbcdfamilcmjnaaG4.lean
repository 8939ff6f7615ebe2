/- Parts of the proof: U38h, U39a, U39b, U39c, U39d, U40a, U40b, U40c, U40d, U40e, U44a. -/
import Derived.Test.YtbcdfamilcmjnaaG2
set_option linter.all false
/- Parts of the proof. -/
namespace Go.AM
open Go
set_option linter.unusedVariables false
set_option linter.unusedSimpArgs false
set_option maxRecDepth 4000
attribute [local irreducible] WO fillCells fillRows
abbrev H67 (Q:AE→Sl→St→Prop)(K:Bool→Prop):Prop:=∀(σ:Sl)(st:St)(res0:Bool),σ 8 = .b res0→K res0→Q .ret σ st
section
variable {prog:Prog}{d:Nat}{Q:AE→Sl→St→Prop}{K:Bool→Prop}(hQ:H67 Q K){σ:Sl}{st:St}
include hQ
end
abbrev H69 (Q:AE→Sl→St→Prop)(K:Bool→Prop):Prop:=∀(σ:Sl)(st:St)(res0:Bool),σ 4 = .b res0→K res0→Q .ret σ st
section
variable {prog:Prog}{d:Nat}{Q:AE→Sl→St→Prop}{K:Bool→Prop}(hQ:H69 Q K){σ:Sl}{st:St}
include hQ
end
abbrev H70 (Q:AE→Sl→St→Prop)(K:Bool→Prop):Prop:=∀(σ:Sl)(st:St)(res0:Bool),σ 4 = .b res0→K res0→Q .ret σ st
section
variable {prog:Prog}{d:Nat}{Q:AE→Sl→St→Prop}{K:Bool→Prop}(hQ:H70 Q K){σ:Sl}{st:St}
include hQ
end
abbrev H89 (d:Nat)(st0:St)(Q:AE→Sl→St→Prop)(K:Val→Prop):Prop:=∀(σ:Sl)(st:St)(k0:Key)(v0:Nat)(res0:Val),σ 4 = .p k0 v0 0→lk st.bx k0 = some (v0,[.i .u8 res0.kind,.i .i64 res0.int,.s res0.text,.sl .full (List.map Val.row res0.list),.b res0.cut])→Fr d (d,0) st0.bx st0.ow st.bx st.ow→K res0→Q .ret σ st
section
variable {prog:Prog}{d:Nat}{Q:AE→Sl→St→Prop}{K:Val→Prop}{st0:St}(hQ:H89 d st0 Q K){σ:Sl}{st:St}
include hQ
end
abbrev H90 (Q:AE→Sl→St→Prop)(K:Val→Prop):Prop:=∀(σ:Sl)(st:St)(k0:Key)(v0:Nat)(o0_0:Own)(res0:Val),σ 0 = .p k0 v0 0→lk st.bx k0 = some (v0,[.i .u8 res0.kind,.i .i64 res0.int,.s res0.text,.sl o0_0 (List.map Val.row res0.list),.b res0.cut])→K res0→Q .ret σ st
section
variable {prog:Prog}{d:Nat}{Q:AE→Sl→St→Prop}{K:Val→Prop}(hQ:H90 Q K){σ:Sl}{st:St}
include hQ
end
abbrev H91 (Q:AE→Sl→St→Prop)(K:Bool→Prop):Prop:=∀(σ:Sl)(st:St)(res0:Bool),σ 4 = .b res0→K res0→Q .ret σ st
section
variable {prog:Prog}{d:Nat}{Q:AE→Sl→St→Prop}{K:Bool→Prop}(hQ:H91 Q K){σ:Sl}{st:St}
include hQ
end
abbrev H92 (Q:AE→Sl→St→Prop)(K:Val→Prop):Prop:=∀(σ:Sl)(st:St)(k0:Key)(v0:Nat)(o0_0:Own)(res0:Val),σ 2 = .p k0 v0 0→lk st.bx k0 = some (v0,[.i .u8 res0.kind,.i .i64 res0.int,.s res0.text,.sl o0_0 (List.map Val.row res0.list),.b res0.cut])→K res0→Q .ret σ st
section
variable {prog:Prog}{d:Nat}{Q:AE→Sl→St→Prop}{K:Val→Prop}(hQ:H92 Q K){σ:Sl}{st:St}
include hQ
end
abbrev H93 (Q:AE→Sl→St→Prop)(K:Val→Prop):Prop:=∀(σ:Sl)(st:St)(k0:Key)(v0:Nat)(o0_0:Own)(res0:Val),σ 2 = .p k0 v0 0→lk st.bx k0 = some (v0,[.i .u8 res0.kind,.i .i64 res0.int,.s res0.text,.sl o0_0 (List.map Val.row res0.list),.b res0.cut])→K res0→Q .ret σ st
section
variable {prog:Prog}{d:Nat}{Q:AE→Sl→St→Prop}{K:Val→Prop}(hQ:H93 Q K){σ:Sl}{st:St}
include hQ
end
abbrev H98 (Q:AE→Sl→St→Prop)(K:Bool→Prop):Prop:=∀(σ:Sl)(st:St)(res0:Bool),σ 2 = .b res0→K res0→Q .ret σ st
section
variable {prog:Prog}{d:Nat}{Q:AE→Sl→St→Prop}{K:Bool→Prop}(hQ:H98 Q K){σ:Sl}{st:St}
include hQ
end
abbrev H99 (Q:AE→Sl→St→Prop)(K:Img→Prop):Prop:=∀(σ:Sl)(st:St)(k0:Key)(v0:Nat) (o0_0 o0_1 o0_2:Own)(res0:Img),σ 0 = .p k0 v0 0→lk st.bx k0 = some (v0,[.sl o0_0 (List.map Typ.row res0.types),.sl o0_1 (List.map rowS res0.texts),.sl o0_2 (List.map Fun.row res0.funcs)])→K res0→Q .ret σ st
section
variable {prog:Prog}{d:Nat}{Q:AE→Sl→St→Prop}{K:Img→Prop}(hQ:H99 Q K){σ:Sl}{st:St}
include hQ
end
abbrev H101 (Q:AE→Sl→St→Prop)(K:Bool→Prop):Prop:=∀(σ:Sl)(st:St)(res0:Bool),σ 0 = .b res0→K res0→Q .ret σ st
section
variable {prog:Prog}{d:Nat}{Q:AE→Sl→St→Prop}{K:Bool→Prop}(hQ:H101 Q K){σ:Sl}{st:St}
include hQ
end
abbrev H125 (Q:AE→Sl→St→Prop)(K:Val→Prop):Prop:=∀(σ:Sl)(st:St)(k0:Key)(v0:Nat)(o0_0:Own)(res0:Val),σ 0 = .p k0 v0 0→lk st.bx k0 = some (v0,[.i .u8 res0.kind,.i .i64 res0.int,.s res0.text,.sl o0_0 (List.map Val.row res0.list),.b res0.cut])→K res0→Q .ret σ st
section
variable {prog:Prog}{d:Nat}{Q:AE→Sl→St→Prop}{K:Val→Prop}(hQ:H125 Q K){σ:Sl}{st:St}
include hQ
end
end Go.AM

/- Parts of the proof. -/
namespace Go.AM
open Go
set_option linter.unusedVariables false
set_option linter.unusedSimpArgs false
set_option maxRecDepth 4000
attribute [local irreducible] WO fillCells fillRows
def r178_0:List AI:=[oO 0 (.alloc [.s [],.s [],.s [],.s []])]
def r178_1:List AI:=[oO 1 (.build [.s [],.s [],.s [],.s []] [(1,1,(.c (.s [102,97,117,108,116,32,49,58,32,100,105,118,105,115,105,111,110,32,98,121,32,122,101,114,111]))),(2,1,(.c (.s [102,97,117,108,116,32,50,58,32,110,105,108,32,112,111,105,110,116,101,114]))),(3,1,(.c (.s [102,97,117,108,116,32,51,58,32,111,117,116,32,111,102,32,114,97,110,103,101])))]),
 oS 4 0 1]
abbrev b178:AC:=(.seq (.reg 0 r178_0) (.seq (.reg 1 r178_1) .ret))
def pf178:AF:={ nt:=2,res:=[.cell 0 4 true],body:=b178 }
abbrev H178 (Q:AE→Sl→St→Prop)(K:List (List UInt8)→Prop):Prop:=∀(σ:Sl)(st:St)(k0:Key)(v0:Nat)(res0:List (List UInt8)),σ 0 = .p k0 v0 0→lk st.bx k0 = some (v0,List.map AV.s res0)→res0.length = 4→K res0→Q .ret σ st
def T178_0 (prog:Prog)(K:List (List UInt8)→Prop) :Prop:=
  K [[],([102,97,117,108,116,32,49,58,32,100,105,118,105,115,105,111,110,32,98,121,32,122,101,114,111]:List UInt8),([102,97,117,108,116,32,50,58,32,110,105,108,32,112,111,105,110,116,101,114]:List UInt8),([102,97,117,108,116,32,51,58,32,111,117,116,32,111,102,32,114,97,110,103,101]:List UInt8)]
section
variable {prog:Prog}{d:Nat}{Q:AE→Sl→St→Prop}{K:List (List UInt8)→Prop}(hQ:H178 Q K){σ:Sl}{st:St}
include hQ
theorem w178_0 (h:T178_0 prog K ):W prog d (.seq (.reg 0 r178_0) (.seq (.reg 1 r178_1) .ret)) σ st Q:=
 sq_ (W.reg (s_alloc (e_ (q_ rfl (s_buildM (f:=AV.s) (l:=[[],([102,97,117,108,116,32,49,58,32,100,105,118,105,115,105,111,110,32,98,121,32,122,101,114,111]:List UInt8),([102,97,117,108,116,32,50,58,32,110,105,108,32,112,111,105,110,116,101,114]:List UInt8),([102,97,117,108,116,32,51,58,32,111,117,116,32,111,102,32,114,97,110,103,101]:List UInt8)]) (f_cons rfl rfl (f_cons rfl rfl (f_cons rfl rfl f_nil))) rfl (s_storeArr (f:=AV.s) (fun _=>rfl) rfl (show lk _ (d,0) = some (_,(List.map AV.s (List.replicate 4 ([]:List UInt8)):List AV)) from lk_here) (by simp) rfl rfl (e_ (rt_ (hQ _ _ _ _ _ rfl lk_here (by simp) h)))))))))
end
theorem p178 {prog:Prog}(hf:prog.fn 178 = some pf178)  {K:List (List UInt8)→Prop}(h:T178_0 prog K ) :∃res0:List (List UInt8),K res0∧Pus prog 178 [] (.ag (List.map AV.s res0)):=by
  obtain ⟨v,hv,res0,hk,rfl⟩:=Pus.of (K:=fun v=>∃res0:List (List UInt8),K res0∧v = .ag (List.map AV.s res0)) hf rfl (w178_0 (σ:=sl0 []) (fun σ st k0 v0  res0 H0 HB0 HL0 hk=>⟨.ag (List.map AV.s res0),by simp only [pf178,ares,aresL,ares_cellA (n:=4) H0 HB0 (by simpa using HL0),ares_tmp,Option.map_some],_,strip_ag AV.s (fun _=>rfl) _,res0,hk,rfl⟩)  h)
  exact ⟨res0,hk,hv⟩
def r183_0:List AI:=[oO 0 (.alloc [.i .u8 0,.i .u8 0,.i .u8 0,.i .u8 0,.i .u8 0])]
def r183_1:List AI:=[oO 1 (.build [.i .u8 0,.i .u8 0,.i .u8 0,.i .u8 0,.i .u8 0] [(1,1,(.c (.i .u8 2))),(2,1,(.c (.i .u8 1))),(3,1,(.c (.i .u8 3))),(4,1,(.c (.i .u8 2)))]),
 oS 5 0 1]
abbrev b183:AC:=(.seq (.reg 0 r183_0) (.seq (.reg 1 r183_1) .ret))
def pf183:AF:={ nt:=2,res:=[.cell 0 5 true],body:=b183 }
abbrev H183 (Q:AE→Sl→St→Prop)(K:List UInt8→Prop):Prop:=∀(σ:Sl)(st:St)(k0:Key)(v0:Nat)(res0:List UInt8),σ 0 = .p k0 v0 0→lk st.bx k0 = some (v0,List.map c8 res0)→res0.length = 5→K res0→Q .ret σ st
def T183_0 (prog:Prog)(K:List UInt8→Prop) :Prop:=
  K [0,(2:UInt8),(1:UInt8),(3:UInt8),(2:UInt8)]
section
variable {prog:Prog}{d:Nat}{Q:AE→Sl→St→Prop}{K:List UInt8→Prop}(hQ:H183 Q K){σ:Sl}{st:St}
include hQ
theorem w183_0 (h:T183_0 prog K ):W prog d (.seq (.reg 0 r183_0) (.seq (.reg 1 r183_1) .ret)) σ st Q:=
 sq_ (W.reg (s_alloc (e_ (q_ rfl (s_buildM (f:=c8) (l:=[0,(2:UInt8),(1:UInt8),(3:UInt8),(2:UInt8)]) (f_cons rfl rfl (f_cons rfl rfl (f_cons rfl rfl (f_cons rfl rfl f_nil)))) rfl (s_storeArr (f:=c8) (fun _=>rfl) rfl (show lk _ (d,0) = some (_,(List.map c8 (List.replicate 5 (0:UInt8)):List AV)) from lk_here) (by simp) rfl rfl (e_ (rt_ (hQ _ _ _ _ _ rfl lk_here (by simp) h)))))))))
end
theorem p183 {prog:Prog}(hf:prog.fn 183 = some pf183)  {K:List UInt8→Prop}(h:T183_0 prog K ) :∃res0:List UInt8,K res0∧Pus prog 183 [] (.ag (List.map c8 res0)):=by
  obtain ⟨v,hv,res0,hk,rfl⟩:=Pus.of (K:=fun v=>∃res0:List UInt8,K res0∧v = .ag (List.map c8 res0)) hf rfl (w183_0 (σ:=sl0 []) (fun σ st k0 v0  res0 H0 HB0 HL0 hk=>⟨.ag (List.map c8 res0),by simp only [pf183,ares,aresL,ares_cellA (n:=5) H0 HB0 (by simpa using HL0),ares_tmp,Option.map_some],_,strip_ag c8 (fun _=>rfl) _,res0,hk,rfl⟩)  h)
  exact ⟨res0,hk,hv⟩
abbrev H191 (Q:AE→Sl→St→Prop)(K:Bool→Prop):Prop:=∀(σ:Sl)(st:St)(res0:Bool),σ 4 = .b res0→K res0→Q .ret σ st
section
variable {prog:Prog}{d:Nat}{Q:AE→Sl→St→Prop}{K:Bool→Prop}(hQ:H191 Q K){σ:Sl}{st:St}
include hQ
end
abbrev H186 (Q:AE→Sl→St→Prop)(K:Bool→Prop):Prop:=∀(σ:Sl)(st:St)(res0:Bool),σ 4 = .b res0→K res0→Q .ret σ st
section
variable {prog:Prog}{d:Nat}{Q:AE→Sl→St→Prop}{K:Bool→Prop}(hQ:H186 Q K){σ:Sl}{st:St}
include hQ
end
abbrev H190 (Q:AE→Sl→St→Prop)(K:List UInt8→Bool→Prop):Prop:=∀(σ:Sl)(st:St)(res0:List UInt8)(res1:Bool),σ 4 = .s res0→σ 5 = .b res1→K res0 res1→Q .ret σ st
section
variable {prog:Prog}{d:Nat}{Q:AE→Sl→St→Prop}{K:List UInt8→Bool→Prop}(hQ:H190 Q K){σ:Sl}{st:St}
include hQ
end
abbrev H180 (Q:AE→Sl→St→Prop)(K:List UInt8→Bool→Prop):Prop:=∀(σ:Sl)(st:St)(res0:List UInt8)(res1:Bool),σ 4 = .s res0→σ 5 = .b res1→K res0 res1→Q .ret σ st
section
variable {prog:Prog}{d:Nat}{Q:AE→Sl→St→Prop}{K:List UInt8→Bool→Prop}(hQ:H180 Q K){σ:Sl}{st:St}
include hQ
end
abbrev H182 (Q:AE→Sl→St→Prop)(K:List UInt8→Bool→Prop):Prop:=∀(σ:Sl)(st:St)(res0:List UInt8)(res1:Bool),σ 4 = .s res0→σ 5 = .b res1→K res0 res1→Q .ret σ st
section
variable {prog:Prog}{d:Nat}{Q:AE→Sl→St→Prop}{K:List UInt8→Bool→Prop}(hQ:H182 Q K){σ:Sl}{st:St}
include hQ
end
def r158_0:List AI:=[oO 1 (.box 7 (.t 0)),
 oC 2 (.i .i64 0)]
def r158_1:List AI:=[oF 4 0 1,
 oL 5 4,
 oB 6 .gtr (.t 5) (.c (.i .u64 4)),
 oM 7 6,
 oG 8 (.fad 1 (.t 1)) 7 false,
 oG 9 (.fad 0 (.t 8)) 7 false,
 oG 10 (.load 1 false (.t 9)) 7 false,
 oG 11 (.call false 183 []) 7 false,
 oG 12 (.fad 0 (.t 1)) 7 false,
 oG 13 (.load 1 false (.t 12)) 7 false,
 oG 14 (.ixA 5 1 false (.t 11) (.t 13)) 7 false,
 oG 15 (.bin .neq (.t 10) (.t 14)) 7 false,
 oO 16 (.pick (.t 7) (.c (.b true)) (.t 15))]
def r158_2:List AI:=[oC 2 (.i .i64 8)]
def r158_3:List AI:=[oF 17 0 1,
 oL 18 17,
 oB 19 .eql (.t 18) (.c (.i .u64 0))]
def r158_4:List AI:=[oF 20 1 1,
 oO 21 (.load 5 true (.t 20)),
 oO 3 (.alloc [.i .u8 0,.i .i64 0,.s [],.sl .full [],.b false]),
 oS 5 3 21]
def r158_5:List AI:=[oF 22 1 3,
 oL 23 22,
 oB 24 .neq (.t 23) (.c (.i .i64 0)),
 oM 25 24,
 oG 26 (.fad 2 (.t 3)) 25 false,
 oG 27 (.load 1 false (.t 26)) 25 false,
 oG 28 (.bin .neq (.t 27) (.c (.s []))) 25 false,
 oO 29 (.pick (.t 25) (.c (.b true)) (.t 28)),
 oM 30 29,
 oG 31 (.fad 3 (.t 3)) 30 false,
 oG 32 (.load 1 false (.t 31)) 30 false,
 oG 33 (.len false (.t 32)) 30 false,
 oG 34 (.bin .gtr (.t 33) (.c (.i .i64 0))) 30 false,
 oO 35 (.pick (.t 30) (.c (.b true)) (.t 34)),
 oM 36 35,
 oG 37 (.fad 4 (.t 3)) 36 false,
 oG 38 (.load 1 false (.t 37)) 36 false,
 oO 39 (.pick (.t 36) (.c (.b true)) (.t 38)),
 oM 40 39,
 oG 41 (.fad 6 (.t 1)) 40 false,
 oG 42 (.load 1 false (.t 41)) 40 false,
 oG 43 (.bin .andNot (.t 42) (.c (.i .u64 4))) 40 false,
 oG 44 (.bin .neq (.t 43) (.c (.i .u64 2))) 40 false,
 oO 45 (.pick (.t 40) (.c (.b true)) (.t 44))]
def r158_6:List AI:=[oC 2 (.i .i64 8)]
def r158_7:List AI:=[oC 2 (.i .i64 0)]
def r158_8:List AI:=[oF 46 6 1,
 oL 47 46,
 oB 48 .andNot (.t 47) (.c (.i .u64 5)),
 oB 49 .neq (.t 48) (.c (.i .u64 0)),
 oM 50 49,
 oG 51 (.fad 0 (.t 1)) 50 false,
 oG 52 (.load 1 false (.t 51)) 50 false,
 oG 53 (.bin .eql (.t 52) (.c (.i .u64 4))) 50 false,
 oG 54 (.mv (.t 53)) 50 false,
 oG 55 (.fad 1 (.t 1)) 54 true,
 oG 56 (.fad 1 (.t 55)) 54 true,
 oG 57 (.load 1 false (.t 56)) 54 true,
 oG 58 (.bin .lss (.t 57) (.c (.i .i64 1))) 54 true,
 oG 59 (.mv (.t 58)) 54 true,
 oG 60 (.fad 1 (.t 1)) 59 false,
 oG 61 (.fad 1 (.t 60)) 59 false,
 oG 62 (.load 1 false (.t 61)) 59 false,
 oG 63 (.bin .gtr (.t 62) (.c (.i .i64 3))) 59 false,
 oG 64 (.pick (.t 59) (.c (.b true)) (.t 63)) 54 true,
 oG 65 (.pick (.t 54) (.t 64) (.c (.b false))) 50 false,
 oO 66 (.pick (.t 50) (.c (.b true)) (.t 65))]
def r158_9:List AI:=[oC 2 (.i .i64 8)]
def r158_10:List AI:=[oF 67 1 1,
 oO 68 (.load 5 true (.t 67)),
 oO 69 (.call false 76 [(.t 68)]),
 oM 2 69]
abbrev c158_0:AC:=(.seq (.reg 10 r158_10) .ret)
abbrev c158_1:AC:=(.seq (.seq (.reg 8 r158_8) (.cond (.t 66) (.seq (.reg 9 r158_9) .ret) .skip)) c158_0)
abbrev c158_2:AC:=(.seq (.seq (.reg 3 r158_3) (.cond (.t 19) (.seq (.reg 4 r158_4) (.seq (.seq (.reg 5 r158_5) (.cond (.t 45) (.seq (.reg 6 r158_6) .ret) .skip)) (.seq (.reg 7 r158_7) .ret))) .skip)) c158_1)
abbrev c158_3:AC:=(.seq (.seq (.reg 1 r158_1) (.cond (.t 16) (.seq (.reg 2 r158_2) .ret) .skip)) c158_2)
abbrev b158:AC:=(.seq (.reg 0 r158_0) c158_3)
def pf158:AF:={ nt:=70,res:=[.tmp 2],body:=b158 }
abbrev H158 (Q:AE→Sl→St→Prop)(K:Int→Prop):Prop:=∀(σ:Sl)(st:St)(res0:Int),σ 2 = .i .i64 res0→K res0→Q .ret σ st
def T158_4 (prog:Prog)(K:Int→Prop)(m0:Pan):Prop:=
  ∃r'1:Int,Pus prog 76 [m0.value.av] (.i .i64 r'1)∧K r'1
def T158_3 (prog:Prog)(K:Int→Prop)(m0:Pan):Prop:=
  ((bAndNot .u64 m0.flags 5)≠0→K 8)∧(¬((bAndNot .u64 m0.flags 5)≠0)→(m0.tag = 4→(m0.value.int < 1→K 8)∧(¬(m0.value.int < 1)→(m0.value.int > 3→K 8)∧(¬(m0.value.int > 3)→T158_4 prog K m0)))∧(¬(m0.tag = 4)→T158_4 prog K m0))
def T158_2 (prog:Prog)(K:Int→Prop)(m0:Pan):Prop:=
  (m0.tag = 0→(m0.value.int≠0→K 8)∧(¬(m0.value.int≠0)→(m0.value.text≠([]:List UInt8)→K 8)∧(¬(m0.value.text≠([]:List UInt8))→((m0.value.list.length:Int) > 0→K 8)∧(¬((m0.value.list.length:Int) > 0)→(m0.value.cut = true→K 8)∧(m0.value.cut = false→((bAndNot .u64 m0.flags 4)≠2→K 8)∧(¬((bAndNot .u64 m0.flags 4)≠2)→K 0))))))∧(¬(m0.tag = 0)→T158_3 prog K m0)
def T158_1 (prog:Prog)(K:Int→Prop)(m0:Pan):Prop:=
  (m0.tag > 4→K 8)∧(¬(m0.tag > 4)→∃r'2:List UInt8,Pus prog 183 [] (.ag (List.map c8 r'2))∧r'2.length = 5∧0≤m0.tag∧∃c'4:UInt8,(r'2:List (UInt8))[(m0.tag).toNat]? = some c'4∧(m0.value.kind≠(c'4.toNat:Int)→K 8)∧(¬(m0.value.kind≠(c'4.toNat:Int))→T158_2 prog K m0))
def T158_0 (prog:Prog)(K:Int→Prop)(p0:Pan):Prop:=
  T158_1 prog K p0
section
variable {prog:Prog}{d:Nat}{Q:AE→Sl→St→Prop}{K:Int→Prop}(hQ:H158 Q K){σ:Sl}{st:St}
include hQ
theorem w158_4 {m0:Pan}{v0:Nat}(H1:σ 1 = .p (d,0) v0 0)(B0:lk st.bx (d,0) = some (v0,[.i .u64 m0.tag,.i .u8 m0.value.kind,.i .i64 m0.value.int,.s m0.value.text,.sl .ext (List.map Val.row m0.value.list),.b m0.value.cut,.i .u64 m0.flags]))(h:T158_4 prog K m0):W prog d c158_0 σ st Q:=
 q_ rfl (f_ H1 (l_ rfl B0 rfl rfl (h.elim fun r'1 e'2=>ca_ (sc rfl rfl sn) e'2.1 (m_ (e_ (rt_ (hQ _ _ _ rfl e'2.2)))))))
theorem w158_3 {m0:Pan}{v0:Nat}(H1:σ 1 = .p (d,0) v0 0)(B0:lk st.bx (d,0) = some (v0,[.i .u64 m0.tag,.i .u8 m0.value.kind,.i .i64 m0.value.int,.s m0.value.text,.sl .ext (List.map Val.row m0.value.list),.b m0.value.cut,.i .u64 m0.flags]))(h:T158_3 prog K m0):W prog d c158_1 σ st Q:=
 sq_ (q_ rfl (f_ H1 (l_ rfl B0 rfl rfl (b_ rfl rfl (abin_andNot _ _ _) (b_ rfl rfl neq_ (s_mvB rfl (em_ (g:=50) rfl (fun g'1=>gn_ (b:=true) rfl rfl (gn_ (b:=true) rfl rfl (gn_ (b:=true) rfl rfl (gn_ (b:=true) rfl rfl (gt_ rfl (gt_ rfl (gt_ rfl (gt_ rfl (gt_ rfl (gt_ rfl (gt_ rfl (gt_ rfl (gt_ rfl (gt_ rfl (gn_ (b:=true) rfl rfl (pt_ rfl rfl (e_ (ct_ rfl (q_ rfl (m_ (e_ (rt_ (hQ _ _ _ rfl (h.1 g'1)))))))))))))))))))))))) (fun g'1=>gy_ rfl (f_ H1 (gy_ rfl (l_ rfl B0 rfl rfl (gy_ rfl (b_ rfl rfl eql_ (gy_ rfl (s_mvB rfl (em_ (g:=54) rfl (fun g'2=>gy_ rfl (f_ H1 (gy_ rfl (f_ rfl (gy_ rfl (l_ rfl B0 rfl rfl (gy_ rfl (b_ rfl rfl lss_ (gy_ rfl (s_mvB rfl (em_ (g:=59) rfl (fun g'3=>gn_ (b:=true) rfl rfl (gn_ (b:=true) rfl rfl (gn_ (b:=true) rfl rfl (gn_ (b:=true) rfl rfl (gy_ rfl (pt_ rfl rfl (gy_ rfl (pt_ rfl rfl (pf_ rfl rfl (e_ (ct_ rfl (q_ rfl (m_ (e_ (rt_ (hQ _ _ _ rfl (((h.2 g'1).1 g'2).1 g'3))))))))))))))))) (fun g'3=>gy_ rfl (f_ H1 (gy_ rfl (f_ rfl (gy_ rfl (l_ rfl B0 rfl rfl (gy_ rfl (b_ rfl rfl gtr_ (gy_ rfl (pf_ rfl rfl (gy_ rfl (pt_ rfl rfl (pf_ rfl rfl (e_ (cs_ rfl (fun g'4=>q_ rfl (m_ (e_ (rt_ (hQ _ _ _ rfl ((((h.2 g'1).1 g'2).2 g'3).1 g'4)))))) (fun g'4=>sk_ (w158_4 hQ H1 B0 ((((h.2 g'1).1 g'2).2 g'3).2 g'4))))))))))))))))))))))))))))) (fun g'2=>gn_ (b:=false) rfl rfl (gn_ (b:=false) rfl rfl (gn_ (b:=false) rfl rfl (gn_ (b:=false) rfl rfl (gn_ (b:=false) rfl rfl (gt_ rfl (gt_ rfl (gt_ rfl (gt_ rfl (gn_ (b:=false) rfl rfl (gy_ rfl (pf_ rfl rfl (pf_ rfl rfl (e_ (cf_ rfl (sk_ (w158_4 hQ H1 B0 ((h.2 g'1).2 g'2))))))))))))))))))))))))))))))))))
theorem w158_2 {m0:Pan}{v0:Nat}(H1:σ 1 = .p (d,0) v0 0)(B0:lk st.bx (d,0) = some (v0,[.i .u64 m0.tag,.i .u8 m0.value.kind,.i .i64 m0.value.int,.s m0.value.text,.sl .ext (List.map Val.row m0.value.list),.b m0.value.cut,.i .u64 m0.flags]))(h:T158_2 prog K m0):W prog d c158_2 σ st Q:=
 sq_ (q_ rfl (f_ H1 (l_ rfl B0 rfl rfl (b_ rfl rfl eql_ (e_ (cs_ rfl (fun g'1=>sq_ (W.reg (f_ H1 (l_ rfl (lk_other rfl B0) rfl rfl (s_alloc (so_ rfl (show lk _ (d,16386) = some (_,([.i .u8 0,.i .i64 0,.s [],.sl .full (List.map Val.row ([]:List Val)),.b false]:List AV)) from lk_here) rfl rfl rfl (e_ (sq_ (q_ rfl (f_ rfl (l_ rfl lk_here rfl rfl (b_ rfl rfl neq_ (s_mvB rfl (em_ (g:=25) rfl (fun g'2=>gn_ (b:=true) rfl rfl (gn_ (b:=true) rfl rfl (gn_ (b:=true) rfl rfl (pt_ rfl rfl (s_mvB rfl (gn_ (b:=true) rfl rfl (gn_ (b:=true) rfl rfl (gn_ (b:=true) rfl rfl (gn_ (b:=true) rfl rfl (pt_ rfl rfl (s_mvB rfl (gn_ (b:=true) rfl rfl (gn_ (b:=true) rfl rfl (pt_ rfl rfl (s_mvB rfl (gn_ (b:=true) rfl rfl (gn_ (b:=true) rfl rfl (gn_ (b:=true) rfl rfl (gn_ (b:=true) rfl rfl (pt_ rfl rfl (e_ (ct_ rfl (q_ rfl (m_ (e_ (rt_ (hQ _ _ _ rfl ((h.1 g'1).1 g'2)))))))))))))))))))))))))))) (fun g'2=>gy_ rfl (f_ rfl (gy_ rfl (l_ rfl lk_here rfl rfl (gy_ rfl (b_ rfl rfl sne_ (pf_ rfl rfl (s_mvB rfl (em_ (g:=30) rfl (fun g'3=>gn_ (b:=true) rfl rfl (gn_ (b:=true) rfl rfl (gn_ (b:=true) rfl rfl (gn_ (b:=true) rfl rfl (pt_ rfl rfl (s_mvB rfl (gn_ (b:=true) rfl rfl (gn_ (b:=true) rfl rfl (pt_ rfl rfl (s_mvB rfl (gn_ (b:=true) rfl rfl (gn_ (b:=true) rfl rfl (gn_ (b:=true) rfl rfl (gn_ (b:=true) rfl rfl (pt_ rfl rfl (e_ (ct_ rfl (q_ rfl (m_ (e_ (rt_ (hQ _ _ _ rfl (((h.1 g'1).2 g'2).1 g'3))))))))))))))))))))))) (fun g'3=>gy_ rfl (f_ rfl (gy_ rfl (l_ rfl lk_here rfl rfl (gy_ rfl (ll_ rfl (gy_ rfl (b_ rfl rfl gtr_ (pf_ rfl rfl (s_mvB rfl (em_ (g:=36) rfl (fun g'4=>gn_ (b:=true) rfl rfl (gn_ (b:=true) rfl rfl (pt_ rfl rfl (s_mvB rfl (gn_ (b:=true) rfl rfl (gn_ (b:=true) rfl rfl (gn_ (b:=true) rfl rfl (gn_ (b:=true) rfl rfl (pt_ rfl rfl (e_ (ct_ rfl (q_ rfl (m_ (e_ (rt_ (hQ _ _ _ rfl ((((h.1 g'1).2 g'2).2 g'3).1 g'4))))))))))))))))) (fun g'4=>gy_ rfl (f_ rfl (gy_ rfl (l_ rfl lk_here rfl rfl (pf_ rfl rfl (s_mvB rfl (eb_ (g:=40) rfl (fun g'5=>gn_ (b:=true) rfl rfl (gn_ (b:=true) rfl rfl (gn_ (b:=true) rfl rfl (gn_ (b:=true) rfl rfl (pt_ rfl rfl (e_ (ct_ rfl (q_ rfl (m_ (e_ (rt_ (hQ _ _ _ rfl (((((h.1 g'1).2 g'2).2 g'3).2 g'4).1 g'5))))))))))))) (fun g'5=>gy_ rfl (f_ H1 (gy_ rfl (l_ rfl (lk_other rfl (lk_other rfl B0)) rfl rfl (gy_ rfl (b_ rfl rfl (abin_andNot _ _ _) (gy_ rfl (b_ rfl rfl neq_ (pf_ rfl rfl (e_ (cs_ rfl (fun g'6=>q_ rfl (m_ (e_ (rt_ (hQ _ _ _ rfl ((((((h.1 g'1).2 g'2).2 g'3).2 g'4).2 g'5).1 g'6)))))) (fun g'6=>sk_ (q_ rfl (m_ (e_ (rt_ (hQ _ _ _ rfl ((((((h.1 g'1).2 g'2).2 g'3).2 g'4).2 g'5).2 g'6))))))))))))))))))))))))))))))))))))))))))))))))))))))))))) (fun g'1=>sk_ (w158_3 hQ H1 B0 (h.2 g'1)))))))))
theorem w158_1 {m0:Pan}{v0:Nat}(H1:σ 1 = .p (d,0) v0 0)(B0:lk st.bx (d,0) = some (v0,[.i .u64 m0.tag,.i .u8 m0.value.kind,.i .i64 m0.value.int,.s m0.value.text,.sl .ext (List.map Val.row m0.value.list),.b m0.value.cut,.i .u64 m0.flags]))(h:T158_1 prog K m0):W prog d c158_3 σ st Q:=
 sq_ (q_ rfl (f_ H1 (l_ rfl B0 rfl rfl (b_ rfl rfl gtr_ (s_mvB rfl (em_ (g:=7) rfl (fun g'1=>gn_ (b:=true) rfl rfl (gn_ (b:=true) rfl rfl (gn_ (b:=true) rfl rfl (gn_ (b:=true) rfl rfl (gn_ (b:=true) rfl rfl (gn_ (b:=true) rfl rfl (gn_ (b:=true) rfl rfl (gn_ (b:=true) rfl rfl (pt_ rfl rfl (e_ (ct_ rfl (q_ rfl (m_ (e_ (rt_ (hQ _ _ _ rfl (h.1 g'1))))))))))))))))) (fun g'1=>gy_ rfl (f_ H1 (gy_ rfl (f_ rfl (gy_ rfl (l_ rfl B0 rfl rfl (gy_ rfl ((h.2 g'1).elim fun r'2 e'3=>ca_ sn e'3.1 (gy_ rfl (f_ H1 (gy_ rfl (l_ rfl B0 rfl rfl (gy_ rfl (e'3.2.2.2.elim fun c'4 e'5=>s_ixA (f:=c8) e'3.2.1 rfl rfl e'3.2.2.1 e'5.1 (gy_ rfl (b_ rfl rfl neq_ (pf_ rfl rfl (e_ (cs_ rfl (fun g'7=>q_ rfl (m_ (e_ (rt_ (hQ _ _ _ rfl (e'5.2.1 g'7)))))) (fun g'7=>sk_ (w158_2 hQ H1 B0 (e'5.2.2 g'7))))))))))))))))))))))))))))
theorem w158_0 {p0:Pan}(H0:σ 0 = p0.av)(h:T158_0 prog K p0):W prog d (.seq (.reg 0 r158_0) c158_3) σ st Q:=
 q_ rfl (s_box H0 rfl (m_ (e_ (w158_1 hQ rfl lk_here h))))
end
theorem p158 {prog:Prog}(hf:prog.fn 158 = some pf158){p0:Pan}{K:Int→Prop}(h:T158_0 prog K p0) :∃res0:Int,K res0∧Pus prog 158 [p0.av] (.i .i64 res0):=by
  obtain ⟨v,hv,res0,hk,rfl⟩:=Pus.of (K:=fun v=>∃res0:Int,K res0∧v = .i .i64 res0) hf rfl (w158_0 (σ:=sl0 [p0.av]) (fun σ st   res0 H2 hk=>⟨.i .i64 res0,by simp only [pf158,ares,aresL,H2,ares1,Option.map_some],_,rfl,res0,hk,rfl⟩) rfl h)
  exact ⟨res0,hk,hv⟩
abbrev H159 (Q:AE→Sl→St→Prop)(K:Int→Prop):Prop:=∀(σ:Sl)(st:St)(res0:Int),σ 2 = .i .i64 res0→K res0→Q .ret σ st
section
variable {prog:Prog}{d:Nat}{Q:AE→Sl→St→Prop}{K:Int→Prop}(hQ:H159 Q K){σ:Sl}{st:St}
include hQ
end
abbrev H179 (Q:AE→Sl→St→Prop)(K:List UInt8→Prop):Prop:=∀(σ:Sl)(st:St)(res0:List UInt8),σ 2 = .s res0→K res0→Q .ret σ st
section
variable {prog:Prog}{d:Nat}{Q:AE→Sl→St→Prop}{K:List UInt8→Prop}(hQ:H179 Q K){σ:Sl}{st:St}
include hQ
end
def r154_0:List AI:=[oO 1 (.box 7 (.t 0)),
 oC 2 (.s []),
 oC 3 (.i .i64 0)]
def r154_1:List AI:=[oO 8 (.load 7 true (.t 1)),
 oO 9 (.call false 158 [(.t 8)]),
 oM 4 9]
def r154_2:List AI:=[oM 10 4,
 oB 11 .neq (.t 10) (.c (.i .i64 0))]
def r154_3:List AI:=[oM 12 4,
 oC 2 (.s []),
 oM 3 12]
def r154_4:List AI:=[oC 5 (.s [101,120,105,116])]
def r154_5:List AI:=[oF 13 0 1,
 oL 14 13]
def r154_6:List AI:=[oB 27 .eql (.t 14) (.c (.i .u64 0)),
 oM 26 27]
def r154_7:List AI:=[oB 29 .eql (.t 14) (.c (.i .u64 4)),
 oM 28 29]
def r154_8:List AI:=[oO 30 (.call false 178 []),
 oF 31 1 1,
 oF 32 1 31,
 oL 33 32,
 oO 34 (.ixA 4 1 false (.t 30) (.t 33)),
 oM 5 34]
def r154_9:List AI:=[oF 16 1 1,
 oO 17 (.load 5 true (.t 16)),
 oO 18 (.call false 72 [(.t 17)]),
 oM 15 18,
 oE 19 0 15,
 oE 20 1 15,
 oM 6 19,
 oM 7 20]
def r154_10:List AI:=[oM 21 7,
 oB 22 .neq (.t 21) (.c (.i .i64 0))]
def r154_11:List AI:=[oM 23 7,
 oC 2 (.s []),
 oM 3 23]
def r154_12:List AI:=[oM 24 6,
 oB 25 .add (.c (.s [112,97,110,105,99,32])) (.t 24),
 oM 5 25]
def r154_13:List AI:=[oF 35 6 1,
 oL 36 35,
 oB 37 .and (.t 36) (.c (.i .u64 1)),
 oB 38 .neq (.t 37) (.c (.i .u64 0))]
def r154_14:List AI:=[oM 39 5,
 oB 40 .add (.t 39) (.c (.s [32,114,101,99,111,118,101,114,101,100])),
 oM 5 40]
def r154_15:List AI:=[oF 41 6 1,
 oL 42 41,
 oB 43 .and (.t 42) (.c (.i .u64 4)),
 oB 44 .neq (.t 43) (.c (.i .u64 0))]
def r154_16:List AI:=[oM 45 5,
 oB 46 .add (.t 45) (.c (.s [32,97,98,111,114,116,101,100])),
 oM 5 46]
def r154_17:List AI:=[oM 47 5,
 oM 2 47,
 oC 3 (.i .i64 0)]
abbrev c154_0:AC:=(.seq (.reg 17 r154_17) .ret)
abbrev c154_1:AC:=(.seq (.seq (.reg 15 r154_15) (.cond (.t 44) (.reg 16 r154_16) .skip)) c154_0)
abbrev c154_2:AC:=(.seq (.seq (.reg 13 r154_13) (.cond (.t 38) (.reg 14 r154_14) .skip)) c154_1)
abbrev b154:AC:=(.seq (.reg 0 r154_0) (.seq (.seq (.reg 1 r154_1) (.seq (.reg 2 r154_2) (.cond (.t 11) (.seq (.reg 3 r154_3) .ret) .skip))) (.seq (.reg 4 r154_4) (.seq (.seq (.reg 5 r154_5) (.block 0 (.seq (.reg 10 r154_6) (.cond (.t 26) .skip (.seq (.reg 11 r154_7) (.cond (.t 28) (.reg 12 r154_8) (.seq (.reg 6 r154_9) (.seq (.seq (.reg 7 r154_10) (.cond (.t 22) (.seq (.reg 8 r154_11) .ret) .skip)) (.reg 9 r154_12))))))))) c154_2))))
def pf154:AF:={ nt:=48,res:=[.tmp 2,.tmp 3],body:=b154 }
abbrev H154 (Q:AE→Sl→St→Prop)(K:List UInt8→Int→Prop):Prop:=∀(σ:Sl)(st:St)(res0:List UInt8)(res1:Int),σ 2 = .s res0→σ 3 = .i .i64 res1→K res0 res1→Q .ret σ st
def T154_3 (prog:Prog)(K:List UInt8→Int→Prop)(s5:List UInt8):Prop:=
  K s5 0
def T154_2 (prog:Prog)(K:List UInt8→Int→Prop)(s5:List UInt8)(m0:Pan):Prop:=
  ((bAnd .u64 m0.flags 4)≠0→s5.length + ([32,97,98,111,114,116,101,100]:List UInt8).length≤maxStr∧T154_3 prog K (s5 ++ ([32,97,98,111,114,116,101,100]:List UInt8)))∧(¬((bAnd .u64 m0.flags 4)≠0)→T154_3 prog K s5)
def T154_1 (prog:Prog)(K:List UInt8→Int→Prop)(s5:List UInt8)(m0:Pan):Prop:=
  ((bAnd .u64 m0.flags 1)≠0→s5.length + ([32,114,101,99,111,118,101,114,101,100]:List UInt8).length≤maxStr∧T154_2 prog K (s5 ++ ([32,114,101,99,111,118,101,114,101,100]:List UInt8)) m0)∧(¬((bAnd .u64 m0.flags 1)≠0)→T154_2 prog K s5 m0)
def T154_0 (prog:Prog)(K:List UInt8→Int→Prop)(p0:Pan):Prop:=
  ∃r'1:Int,Pus prog 158 [p0.av] (.i .i64 r'1)∧(r'1≠0→K ([]:List UInt8) r'1)∧(¬(r'1≠0)→(p0.tag = 0→T154_1 prog K ([101,120,105,116]:List UInt8) p0)∧(¬(p0.tag = 0)→(p0.tag = 4→∃r'6:List (List UInt8),Pus prog 178 [] (.ag (List.map AV.s r'6))∧r'6.length = 4∧0≤p0.value.int∧∃c'8:List UInt8,(r'6:List (List UInt8))[(p0.value.int).toNat]? = some c'8∧T154_1 prog K c'8 p0)∧(¬(p0.tag = 4)→∃r'10:List UInt8,∃r'11:Int,Pus prog 72 [p0.value.av] (.tup [.s r'10,.i .i64 r'11])∧(r'11≠0→K ([]:List UInt8) r'11)∧(¬(r'11≠0)→([112,97,110,105,99,32]:List UInt8).length + r'10.length≤maxStr∧T154_1 prog K (([112,97,110,105,99,32]:List UInt8) ++ r'10) p0))))
section
variable {prog:Prog}{d:Nat}{Q:AE→Sl→St→Prop}{K:List UInt8→Int→Prop}(hQ:H154 Q K){σ:Sl}{st:St}
include hQ
theorem w154_3 {s5:List UInt8}(H5:σ 5 = .s s5)(h:T154_3 prog K s5):W prog d c154_0 σ st Q:=
 q_ rfl (m_ (m_ (m_ (e_ (rt_ (hQ _ _ _ _ H5 rfl h))))))
theorem w154_2 {s5:List UInt8}{m0:Pan}{v0:Nat}(H1:σ 1 = .p (d,0) v0 0)(H5:σ 5 = .s s5)(B0:lk st.bx (d,0) = some (v0,[.i .u64 m0.tag,.i .u8 m0.value.kind,.i .i64 m0.value.int,.s m0.value.text,.sl .ext (List.map Val.row m0.value.list),.b m0.value.cut,.i .u64 m0.flags]))(h:T154_2 prog K s5 m0):W prog d c154_1 σ st Q:=
 sq_ (q_ rfl (f_ H1 (l_ rfl B0 rfl rfl (b_ rfl rfl (abin_and _ _ _) (b_ rfl rfl neq_ (e_ (cs_ rfl (fun g'1=>W.reg0 rfl fun _ _=>m_ (b_ H5 rfl (abin_cat' (h.1 g'1).1) (m_ (e_ (w154_3 hQ rfl (h.1 g'1).2))))) (fun g'1=>sk_ (w154_3 hQ H5 (h.2 g'1))))))))))
theorem w154_1 {s5:List UInt8}{m0:Pan}{v0:Nat}(H1:σ 1 = .p (d,0) v0 0)(H5:σ 5 = .s s5)(B0:lk st.bx (d,0) = some (v0,[.i .u64 m0.tag,.i .u8 m0.value.kind,.i .i64 m0.value.int,.s m0.value.text,.sl .ext (List.map Val.row m0.value.list),.b m0.value.cut,.i .u64 m0.flags]))(h:T154_1 prog K s5 m0):W prog d c154_2 σ st Q:=
 sq_ (q_ rfl (f_ H1 (l_ rfl B0 rfl rfl (b_ rfl rfl (abin_and _ _ _) (b_ rfl rfl neq_ (e_ (cs_ rfl (fun g'1=>W.reg0 rfl fun _ _=>m_ (b_ H5 rfl (abin_cat' (h.1 g'1).1) (m_ (e_ (w154_2 hQ H1 rfl B0 (h.1 g'1).2))))) (fun g'1=>sk_ (w154_2 hQ H1 H5 B0 (h.2 g'1))))))))))
theorem w154_0 {p0:Pan}(H0:σ 0 = p0.av)(h:T154_0 prog K p0):W prog d (.seq (.reg 0 r154_0) (.seq (.seq (.reg 1 r154_1) (.seq (.reg 2 r154_2) (.cond (.t 11) (.seq (.reg 3 r154_3) .ret) .skip))) (.seq (.reg 4 r154_4) (.seq (.seq (.reg 5 r154_5) (.block 0 (.seq (.reg 10 r154_6) (.cond (.t 26) .skip (.seq (.reg 11 r154_7) (.cond (.t 28) (.reg 12 r154_8) (.seq (.reg 6 r154_9) (.seq (.seq (.reg 7 r154_10) (.cond (.t 22) (.seq (.reg 8 r154_11) .ret) .skip)) (.reg 9 r154_12))))))))) c154_2)))) σ st Q:=
 q_ rfl (s_box H0 rfl (m_ (m_ (e_ (sq_ (q_ rfl (l_ rfl lk_here rfl rfl (h.elim fun r'1 e'2=>ca_ (sc rfl rfl sn) e'2.1 (m_ (e_ (q_ rfl (m_ (b_ rfl rfl neq_ (e_ (cs_ rfl (fun g'3=>q_ rfl (m_ (m_ (m_ (e_ (rt_ (hQ _ _ _ _ rfl rfl (e'2.2.1 g'3)))))))) (fun g'3=>sk_ (q_ rfl (m_ (e_ (sq_ (q_ rfl (f_ rfl (l_ rfl lk_here rfl rfl (e_ (bk_ (q_ rfl (b_ rfl rfl eql_ (m_ (e_ (cs_ rfl (fun g'4=>sk_ (w154_1 hQ rfl rfl lk_here ((e'2.2.2 g'3).1 g'4))) (fun g'4=>q_ rfl (b_ rfl rfl eql_ (m_ (e_ (cs_ rfl (fun g'5=>W.reg0 rfl fun _ _=>(((e'2.2.2 g'3).2 g'4).1 g'5).elim fun r'6 e'7=>ca_ sn e'7.1 (f_ rfl (f_ rfl (l_ rfl lk_here rfl rfl (e'7.2.2.2.elim fun c'8 e'9=>s_ixA (f:=AV.s) e'7.2.1 rfl rfl e'7.2.2.1 e'9.1 (m_ (e_ (w154_1 hQ rfl rfl lk_here e'9.2)))))))) (fun g'5=>q_ rfl (f_ rfl (l_ rfl lk_here rfl rfl ((((e'2.2.2 g'3).2 g'4).2 g'5).elim fun r'10 e'14=>e'14.elim fun r'11 e'12=>ca_ (sc rfl rfl sn) e'12.1 (m_ (x_ rfl rfl (x_ rfl rfl (m_ (m_ (e_ (sq_ (q_ rfl (m_ (b_ rfl rfl neq_ (e_ (cs_ rfl (fun g'13=>q_ rfl (m_ (m_ (m_ (e_ (rt_ (hQ _ _ _ _ rfl rfl (e'12.2.1 g'13)))))))) (fun g'13=>sk_ (W.reg0 rfl fun _ _=>m_ (b_ rfl rfl (abin_cat' (e'12.2.2 g'13).1) (m_ (e_ (w154_1 hQ rfl rfl lk_here (e'12.2.2 g'13).2)))))))))))))))))))))))))))))))))))))))))))))))))))))))))
end
theorem p154 {prog:Prog}(hf:prog.fn 154 = some pf154){p0:Pan}{K:List UInt8→Int→Prop}(h:T154_0 prog K p0) :∃res0:List UInt8,∃res1:Int,K res0 res1∧Pus prog 154 [p0.av] (.tup [.s res0,.i .i64 res1]):=by
  obtain ⟨v,hv,res0,res1,hk,rfl⟩:=Pus.of (K:=fun v=>∃res0:List UInt8,∃res1:Int,K res0 res1∧v = .tup [.s res0,.i .i64 res1]) hf rfl (w154_0 (σ:=sl0 [p0.av]) (fun σ st   res0 res1 H2 H3 hk=>⟨.tup [.s res0,.i .i64 res1],by simp only [pf154,ares,aresL,H2,H3,ares1,Option.map_some],_,rfl,res0,res1,hk,rfl⟩) rfl h)
  exact ⟨res0,res1,hk,hv⟩
abbrev H155 (Q:AE→Sl→St→Prop)(K:List UInt8→Int→Prop):Prop:=∀(σ:Sl)(st:St)(res0:List UInt8)(res1:Int),σ 2 = .s res0→σ 3 = .i .i64 res1→K res0 res1→Q .ret σ st
section
variable {prog:Prog}{d:Nat}{Q:AE→Sl→St→Prop}{K:List UInt8→Int→Prop}(hQ:H155 Q K){σ:Sl}{st:St}
include hQ
end
end Go.AM

/- Parts of the proof. -/
namespace Go.AM
open Go
set_option linter.unusedVariables false
set_option linter.unusedSimpArgs false
set_option maxRecDepth 4000
attribute [local irreducible] WO fillCells fillRows
abbrev H181 (Q:AE→Sl→St→Prop)(K:Pan→Bool→Prop):Prop:=∀(σ:Sl)(st:St)(k0:Key)(v0:Nat)(o0_0:Own)(res0:Pan)(res1:Bool),σ 2 = .p k0 v0 0→lk st.bx k0 = some (v0,[.i .u64 res0.tag,.i .u8 res0.value.kind,.i .i64 res0.value.int,.s res0.value.text,.sl o0_0 (List.map Val.row res0.value.list),.b res0.value.cut,.i .u64 res0.flags])→σ 3 = .b res1→K res0 res1→Q .ret σ st
section
variable {prog:Prog}{d:Nat}{Q:AE→Sl→St→Prop}{K:Pan→Bool→Prop}(hQ:H181 Q K){σ:Sl}{st:St}
include hQ
end
abbrev H156 (Q:AE→Sl→St→Prop)(K:Pan→Int→Prop):Prop:=∀(σ:Sl)(st:St)(k0:Key)(v0:Nat)(o0_0:Own)(res0:Pan)(res1:Int),σ 2 = .p k0 v0 0→lk st.bx k0 = some (v0,[.i .u64 res0.tag,.i .u8 res0.value.kind,.i .i64 res0.value.int,.s res0.value.text,.sl o0_0 (List.map Val.row res0.value.list),.b res0.value.cut,.i .u64 res0.flags])→σ 3 = .i .i64 res1→K res0 res1→Q .ret σ st
section
variable {prog:Prog}{d:Nat}{Q:AE→Sl→St→Prop}{K:Pan→Int→Prop}(hQ:H156 Q K){σ:Sl}{st:St}
include hQ
end
abbrev H157 (Q:AE→Sl→St→Prop)(K:Pan→Int→Prop):Prop:=∀(σ:Sl)(st:St)(k0:Key)(v0:Nat)(o0_0:Own)(res0:Pan)(res1:Int),σ 2 = .p k0 v0 0→lk st.bx k0 = some (v0,[.i .u64 res0.tag,.i .u8 res0.value.kind,.i .i64 res0.value.int,.s res0.value.text,.sl o0_0 (List.map Val.row res0.value.list),.b res0.value.cut,.i .u64 res0.flags])→σ 3 = .i .i64 res1→K res0 res1→Q .ret σ st
section
variable {prog:Prog}{d:Nat}{Q:AE→Sl→St→Prop}{K:Pan→Int→Prop}(hQ:H157 Q K){σ:Sl}{st:St}
include hQ
end
abbrev H160 (Q:AE→Sl→St→Prop)(K:Bool→Prop):Prop:=∀(σ:Sl)(st:St)(res0:Bool),σ 4 = .b res0→K res0→Q .ret σ st
section
variable {prog:Prog}{d:Nat}{Q:AE→Sl→St→Prop}{K:Bool→Prop}(hQ:H160 Q K){σ:Sl}{st:St}
include hQ
end
abbrev H148 (Q:AE→Sl→St→Prop)(K:Bool→Prop):Prop:=∀(σ:Sl)(st:St)(res0:Bool),σ 4 = .b res0→K res0→Q .ret σ st
section
variable {prog:Prog}{d:Nat}{Q:AE→Sl→St→Prop}{K:Bool→Prop}(hQ:H148 Q K){σ:Sl}{st:St}
include hQ
end
end Go.AM

/- Parts of the proof. -/
namespace Go.AM
open Go
set_option linter.unusedVariables false
set_option linter.unusedSimpArgs false
set_option maxRecDepth 4000
attribute [local irreducible] WO fillCells fillRows
abbrev H185 (Q:AE→Sl→St→Prop)(K:Int→Prop):Prop:=∀(σ:Sl)(st:St)(res0:Int),σ 2 = .i .i64 res0→K res0→Q .ret σ st
section
variable {prog:Prog}{d:Nat}{Q:AE→Sl→St→Prop}{K:Int→Prop}(hQ:H185 Q K){σ:Sl}{st:St}
include hQ
end
abbrev H163 (Q:AE→Sl→St→Prop)(K:Int→Prop):Prop:=∀(σ:Sl)(st:St)(res0:Int),σ 2 = .i .i64 res0→K res0→Q .ret σ st
section
variable {prog:Prog}{d:Nat}{Q:AE→Sl→St→Prop}{K:Int→Prop}(hQ:H163 Q K){σ:Sl}{st:St}
include hQ
end
abbrev H165 (Q:AE→Sl→St→Prop)(K:Int→Int→Prop):Prop:=∀(σ:Sl)(st:St)(res0:Int)(res1:Int),σ 2 = .i .i64 res0→σ 3 = .i .i64 res1→K res0 res1→Q .ret σ st
section
variable {prog:Prog}{d:Nat}{Q:AE→Sl→St→Prop}{K:Int→Int→Prop}(hQ:H165 Q K){σ:Sl}{st:St}
include hQ
end
def r169_0:List AI:=[oC 2 (.i .i64 0),
 oC 3 (.i .i64 0)]
def r169_1:List AI:=[oM 6 0,
 oO 7 (.call false 163 [(.t 6)]),
 oM 4 7]
def r169_2:List AI:=[oM 8 4,
 oB 9 .neq (.t 8) (.c (.i .i64 0))]
def r169_3:List AI:=[oM 10 4,
 oC 2 (.i .i64 0),
 oM 3 10]
def r169_4:List AI:=[oC 5 (.i .i64 0)]
def r169_5:List AI:=[oM 11 5,
 oM 12 0,
 oO 13 (.len false (.t 12)),
 oB 14 .lss (.t 11) (.t 13)]
def r169_6:List AI:=[oM 17 0,
 oM 18 5,
 oO 19 (.iaL 7 (.t 17) (.t 18)),
 oF 20 6 19,
 oL 21 20,
 oB 22 .eql (.t 21) (.c (.i .u64 0))]
def r169_7:List AI:=[oM 23 5,
 oM 2 23,
 oC 3 (.i .i64 0)]
def r169_8:List AI:=[oM 15 5,
 oB 16 .add (.t 15) (.c (.i .i64 1)),
 oM 5 16]
def r169_9:List AI:=[oC 2 (.i .i64 0),
 oC 3 (.i .i64 6)]
abbrev l169_0:AC:=(.seq (.seq (.reg 5 r169_5) (.cond (.t 14) .skip (.exit 0))) (.seq (.block 1 (.seq (.reg 7 r169_6) (.cond (.t 22) (.seq (.reg 8 r169_7) .ret) .skip))) (.reg 6 r169_8)))
abbrev c169_1:AC:=(.seq (.reg 9 r169_9) .ret)
abbrev b169:AC:=(.seq (.reg 0 r169_0) (.seq (.seq (.reg 1 r169_1) (.seq (.reg 2 r169_2) (.cond (.t 9) (.seq (.reg 3 r169_3) .ret) .skip))) (.seq (.seq (.reg 4 r169_4) (.block 0 (.loop l169_0))) c169_1)))
def pf169:AF:={ nt:=24,res:=[.tmp 2,.tmp 3],body:=b169 }
abbrev H169 (Q:AE→Sl→St→Prop)(K:Int→Int→Prop):Prop:=∀(σ:Sl)(st:St)(res0:Int)(res1:Int),σ 2 = .i .i64 res0→σ 3 = .i .i64 res1→K res0 res1→Q .ret σ st
section
variable {prog:Prog}{d:Nat}{Q:AE→Sl→St→Prop}{K:Int→Int→Prop}(hQ:H169 Q K){σ:Sl}{st:St}
include hQ
end
abbrev H170 (Q:AE→Sl→St→Prop)(K:Bool→Prop):Prop:=∀(σ:Sl)(st:St)(res0:Bool),σ 4 = .b res0→K res0→Q .ret σ st
section
variable {prog:Prog}{d:Nat}{Q:AE→Sl→St→Prop}{K:Bool→Prop}(hQ:H170 Q K){σ:Sl}{st:St}
include hQ
end
abbrev H162 (Q:AE→Sl→St→Prop)(K:Bool→Prop):Prop:=∀(σ:Sl)(st:St)(res0:Bool),σ 2 = .b res0→K res0→Q .ret σ st
section
variable {prog:Prog}{d:Nat}{Q:AE→Sl→St→Prop}{K:Bool→Prop}(hQ:H162 Q K){σ:Sl}{st:St}
include hQ
end
abbrev H164 (Q:AE→Sl→St→Prop)(K:List UInt8→Int→Prop):Prop:=∀(σ:Sl)(st:St)(res0:List UInt8)(res1:Int),σ 2 = .s res0→σ 3 = .i .i64 res1→K res0 res1→Q .ret σ st
section
variable {prog:Prog}{d:Nat}{Q:AE→Sl→St→Prop}{K:List UInt8→Int→Prop}(hQ:H164 Q K){σ:Sl}{st:St}
include hQ
end
abbrev H166 (Q:AE→Sl→St→Prop)(K:List UInt8→Int→Prop):Prop:=∀(σ:Sl)(st:St)(res0:List UInt8)(res1:Int),σ 2 = .s res0→σ 3 = .i .i64 res1→K res0 res1→Q .ret σ st
section
variable {prog:Prog}{d:Nat}{Q:AE→Sl→St→Prop}{K:List UInt8→Int→Prop}(hQ:H166 Q K){σ:Sl}{st:St}
include hQ
end
abbrev H171 (Q:AE→Sl→St→Prop)(K:Bool→Prop):Prop:=∀(σ:Sl)(st:St)(res0:Bool),σ 4 = .b res0→K res0→Q .ret σ st
section
variable {prog:Prog}{d:Nat}{Q:AE→Sl→St→Prop}{K:Bool→Prop}(hQ:H171 Q K){σ:Sl}{st:St}
include hQ
end
abbrev H172 (Q:AE→Sl→St→Prop)(K:Val→Prop):Prop:=∀(σ:Sl)(st:St)(k0:Key)(v0:Nat)(o0_0:Own)(res0:Val),σ 2 = .p k0 v0 0→lk st.bx k0 = some (v0,[.i .u8 res0.kind,.i .i64 res0.int,.s res0.text,.sl o0_0 (List.map Val.row res0.list),.b res0.cut])→K res0→Q .ret σ st
section
variable {prog:Prog}{d:Nat}{Q:AE→Sl→St→Prop}{K:Val→Prop}(hQ:H172 Q K){σ:Sl}{st:St}
include hQ
end
abbrev H173 (Q:AE→Sl→St→Prop)(K:Val→Prop):Prop:=∀(σ:Sl)(st:St)(k0:Key)(v0:Nat)(o0_0:Own)(res0:Val),σ 0 = .p k0 v0 0→lk st.bx k0 = some (v0,[.i .u8 res0.kind,.i .i64 res0.int,.s res0.text,.sl o0_0 (List.map Val.row res0.list),.b res0.cut])→K res0→Q .ret σ st
section
variable {prog:Prog}{d:Nat}{Q:AE→Sl→St→Prop}{K:Val→Prop}(hQ:H173 Q K){σ:Sl}{st:St}
include hQ
end
abbrev H174 (Q:AE→Sl→St→Prop)(K:Val→Prop):Prop:=∀(σ:Sl)(st:St)(k0:Key)(v0:Nat)(o0_0:Own)(res0:Val),σ 2 = .p k0 v0 0→lk st.bx k0 = some (v0,[.i .u8 res0.kind,.i .i64 res0.int,.s res0.text,.sl o0_0 (List.map Val.row res0.list),.b res0.cut])→K res0→Q .ret σ st
section
variable {prog:Prog}{d:Nat}{Q:AE→Sl→St→Prop}{K:Val→Prop}(hQ:H174 Q K){σ:Sl}{st:St}
include hQ
end
abbrev H176 (Q:AE→Sl→St→Prop)(K:Bool→Prop):Prop:=∀(σ:Sl)(st:St)(res0:Bool),σ 2 = .b res0→K res0→Q .ret σ st
section
variable {prog:Prog}{d:Nat}{Q:AE→Sl→St→Prop}{K:Bool→Prop}(hQ:H176 Q K){σ:Sl}{st:St}
include hQ
end
abbrev H184 (d:Nat)(st0:St)(Q:AE→Sl→St→Prop)(K:List Pan→Prop):Prop:=∀(σ:Sl)(st:St)(res0:List Pan),σ 0 = .sl .full (List.map Pan.row res0)→Fr d (d,0) st0.bx st0.ow st.bx st.ow→K res0→Q .ret σ st
section
variable {prog:Prog}{d:Nat}{Q:AE→Sl→St→Prop}{K:List Pan→Prop}{st0:St}(hQ:H184 d st0 Q K){σ:Sl}{st:St}
include hQ
end
abbrev H161 (Q:AE→Sl→St→Prop)(K:Bool→Prop):Prop:=∀(σ:Sl)(st:St)(res0:Bool),σ 0 = .b res0→K res0→Q .ret σ st
section
variable {prog:Prog}{d:Nat}{Q:AE→Sl→St→Prop}{K:Bool→Prop}(hQ:H161 Q K){σ:Sl}{st:St}
include hQ
end
end Go.AM

/- Parts of the proof. -/
namespace Go.AM
open Go
set_option linter.unusedVariables false
set_option linter.unusedSimpArgs false
set_option maxRecDepth 4000
attribute [local irreducible] WO fillCells fillRows
abbrev H149 (Q:AE→Sl→St→Prop)(K:Bool→Prop):Prop:=∀(σ:Sl)(st:St)(res0:Bool),σ 4 = .b res0→K res0→Q .ret σ st
section
variable {prog:Prog}{d:Nat}{Q:AE→Sl→St→Prop}{K:Bool→Prop}(hQ:H149 Q K){σ:Sl}{st:St}
include hQ
end
abbrev H150 (Q:AE→Sl→St→Prop)(K:Bool→Prop):Prop:=∀(σ:Sl)(st:St)(res0:Bool),σ 2 = .b res0→K res0→Q .ret σ st
section
variable {prog:Prog}{d:Nat}{Q:AE→Sl→St→Prop}{K:Bool→Prop}(hQ:H150 Q K){σ:Sl}{st:St}
include hQ
end
end Go.AM

/- Parts of the proof. -/
namespace Go.AM
open Go
set_option linter.unusedVariables false
set_option linter.unusedSimpArgs false
set_option maxRecDepth 4000
attribute [local irreducible] WO fillCells fillRows
abbrev H215 (Q:AE→Sl→St→Prop)(K:List (List UInt8)→Prop):Prop:=∀(σ:Sl)(st:St)(k0:Key)(v0:Nat)(res0:List (List UInt8)),σ 0 = .p k0 v0 0→lk st.bx k0 = some (v0,List.map AV.s res0)→res0.length = 9→K res0→Q .ret σ st
section
variable {prog:Prog}{d:Nat}{Q:AE→Sl→St→Prop}{K:List (List UInt8)→Prop}(hQ:H215 Q K){σ:Sl}{st:St}
include hQ
end
def r216_0:List AI:=[oC 2 (.s [])]
def r216_1:List AI:=[oM 3 0,
 oO 4 (.call false 15 [(.t 3)]),
 oM 2 4]
abbrev b216:AC:=(.seq (.reg 0 r216_0) (.seq (.reg 1 r216_1) .ret))
def pf216:AF:={ nt:=5,res:=[.tmp 2],body:=b216 }
abbrev H216 (Q:AE→Sl→St→Prop)(K:List UInt8→Prop):Prop:=∀(σ:Sl)(st:St)(res0:List UInt8),σ 2 = .s res0→K res0→Q .ret σ st
def T216_0 (prog:Prog)(K:List UInt8→Prop)(n0:Int):Prop:=
  ∃r'1:List UInt8,Pus prog 15 [.i .i64 n0] (.s r'1)∧K r'1
section
variable {prog:Prog}{d:Nat}{Q:AE→Sl→St→Prop}{K:List UInt8→Prop}(hQ:H216 Q K){σ:Sl}{st:St}
include hQ
theorem w216_0 {n0:Int}(H0:σ 0 = .i .i64 n0)(h:T216_0 prog K n0):W prog d (.seq (.reg 0 r216_0) (.seq (.reg 1 r216_1) .ret)) σ st Q:=
 q_ rfl (m_ (e_ (q_ rfl (m_ (h.elim fun r'1 e'2=>ca_ (sc H0 rfl sn) e'2.1 (m_ (e_ (rt_ (hQ _ _ _ rfl e'2.2)))))))))
end
theorem p216 {prog:Prog}(hf:prog.fn 216 = some pf216){n0:Int}{K:List UInt8→Prop}(h:T216_0 prog K n0) :∃res0:List UInt8,K res0∧Pus prog 216 [.i .i64 n0] (.s res0):=by
  obtain ⟨v,hv,res0,hk,rfl⟩:=Pus.of (K:=fun v=>∃res0:List UInt8,K res0∧v = .s res0) hf rfl (w216_0 (σ:=sl0 [.i .i64 n0]) (fun σ st   res0 H2 hk=>⟨.s res0,by simp only [pf216,ares,aresL,H2,ares1,Option.map_some],_,rfl,res0,hk,rfl⟩) rfl h)
  exact ⟨res0,hk,hv⟩
abbrev H223 (Q:AE→Sl→St→Prop)(K:List (List UInt8)→Prop):Prop:=∀(σ:Sl)(st:St)(o0:Own)(res0:List (List UInt8)),σ 0 = .sl o0 (List.map rowS res0)→K res0→Q .ret σ st
section
variable {prog:Prog}{d:Nat}{Q:AE→Sl→St→Prop}{K:List (List UInt8)→Prop}(hQ:H223 Q K){σ:Sl}{st:St}
include hQ
end
abbrev H226 (Q:AE→Sl→St→Prop)(K:List UInt8→Prop):Prop:=∀(σ:Sl)(st:St)(res0:List UInt8),σ 2 = .s res0→K res0→Q .ret σ st
section
variable {prog:Prog}{d:Nat}{Q:AE→Sl→St→Prop}{K:List UInt8→Prop}(hQ:H226 Q K){σ:Sl}{st:St}
include hQ
end
abbrev H209 (Q:AE→Sl→St→Prop)(K:List UInt8→Int→Prop):Prop:=∀(σ:Sl)(st:St)(res0:List UInt8)(res1:Int),σ 2 = .s res0→σ 3 = .i .i64 res1→K res0 res1→Q .ret σ st
section
variable {prog:Prog}{d:Nat}{Q:AE→Sl→St→Prop}{K:List UInt8→Int→Prop}(hQ:H209 Q K){σ:Sl}{st:St}
include hQ
end
abbrev H210 (Q:AE→Sl→St→Prop)(K:List UInt8→Int→Prop):Prop:=∀(σ:Sl)(st:St)(res0:List UInt8)(res1:Int),σ 2 = .s res0→σ 3 = .i .i64 res1→K res0 res1→Q .ret σ st
section
variable {prog:Prog}{d:Nat}{Q:AE→Sl→St→Prop}{K:List UInt8→Int→Prop}(hQ:H210 Q K){σ:Sl}{st:St}
include hQ
end
abbrev H211 (Q:AE→Sl→St→Prop)(K:Int→Int→Prop):Prop:=∀(σ:Sl)(st:St)(res0:Int)(res1:Int),σ 2 = .i .u8 res0→σ 3 = .i .i64 res1→K res0 res1→Q .ret σ st
section
variable {prog:Prog}{d:Nat}{Q:AE→Sl→St→Prop}{K:Int→Int→Prop}(hQ:H211 Q K){σ:Sl}{st:St}
include hQ
end
abbrev H212 (Q:AE→Sl→St→Prop)(K:Int→Int→Prop):Prop:=∀(σ:Sl)(st:St)(res0:Int)(res1:Int),σ 2 = .i .u8 res0→σ 3 = .i .i64 res1→K res0 res1→Q .ret σ st
section
variable {prog:Prog}{d:Nat}{Q:AE→Sl→St→Prop}{K:Int→Int→Prop}(hQ:H212 Q K){σ:Sl}{st:St}
include hQ
end
def r236_0:List AI:=[oC 4 (.i .i64 0)]
def r236_1:List AI:=[oM 6 0,
 oO 7 (.len false (.t 6)),
 oC 8 (.i .i64 0)]
def r236_2:List AI:=[oB 9 .lss (.t 8) (.t 7)]
def r236_3:List AI:=[oM 10 8,
 oM 5 10]
def r236_4:List AI:=[oM 11 1,
 oM 12 0,
 oM 13 5,
 oO 14 (.iaL 5 (.t 12) (.t 13)),
 oO 15 (.load 5 true (.t 14)),
 oO 16 (.callv (.t 11) [(.t 15)])]
def r236_5:List AI:=[oM 17 5,
 oM 4 17]
def r236_6:List AI:=[oB 18 .add (.t 8) (.c (.i .i64 1)),
 oM 8 18]
def r236_7:List AI:=[oC 4 (.i .i64 (-1))]
abbrev l236_0:AC:=(.seq (.reg 2 r236_2) (.seq (.cond (.t 9) .skip (.exit 0)) (.seq (.block 1 (.seq (.reg 3 r236_3) (.seq (.reg 4 r236_4) (.cond (.t 16) (.seq (.reg 5 r236_5) .ret) .skip)))) (.reg 6 r236_6))))
abbrev c236_1:AC:=(.seq (.reg 7 r236_7) .ret)
abbrev b236:AC:=(.seq (.reg 0 r236_0) (.seq (.seq (.reg 1 r236_1) (.block 0 (.loop l236_0))) c236_1))
def pf236:AF:={ nt:=19,res:=[.tmp 4],body:=b236 }
abbrev H236 (d:Nat)(st0:St)(Q:AE→Sl→St→Prop)(K:Int→Prop):Prop:=∀(σ:Sl)(st:St)(res0:Int),σ 4 = .i .i64 res0→Fr d (d,0) st0.bx st0.ow st.bx st.ow→K res0→Q .ret σ st
abbrev I236_0 (prog:Prog)(d:Nat)(Q:AE→Sl→St→Prop)(st0:St)(s0:List Rou)(f1:Nat × List AV)(t7:Int)(t8:Int):Prop:=
  ∀(σ:Sl)(st:St)(o_s0:Own),σ 0 = .sl o_s0 (List.map Rou.row s0)→σ 1 = .fn f1.1 f1.2→σ 7 = .i .i64 t7→σ 8 = .i .i64 t8→Fr d (d,0) st0.bx st0.ow st.bx st.ow→W prog d (.loop l236_0) σ st (blockW 0 (thenW prog d c236_1 Q))
def T236_2 (prog:Prog)(K:Int→Prop) :Prop:=
  K (-1)
def T236_1 (prog:Prog)(K:Int→Prop)(P0:Int→Prop)(s0:List Rou)(f1:Nat × List AV)(t7:Int)(t8:Int):Prop:=
  (t8 < t7→0≤t8∧∃c'2:Rou,s0[(t8).toNat]? = some c'2∧∃r'4:Bool,(PuN prog f1.1 ([c'2.av] ++ f1.2) (fun r=>r = .b r'4))∧(r'4 = true→K t8)∧(r'4 = false→P0 (IntKind.i64.wrap (t8 + 1))))∧(¬(t8 < t7)→T236_2 prog K )
def T236_0 (prog:Prog)(K:Int→Prop)(s0:List Rou)(f1:Nat × List AV):Prop:=
  ∀P0:Int→Prop,(∀(t8:Int),T236_1 prog K P0 s0 f1 (s0.length:Int) t8→P0 t8)→P0 0
section
variable {prog:Prog}{d:Nat}{Q:AE→Sl→St→Prop}{K:Int→Prop}{st0:St}(hQ:H236 d st0 Q K){σ:Sl}{st:St}
include hQ
theorem w236_2 (FR:Fr d (d,0) st0.bx st0.ow st.bx st.ow)(h:T236_2 prog K ):W prog d c236_1 σ st Q:=
 q_ rfl (m_ (e_ (rt_ (hQ _ _ _ rfl FR h))))
theorem w236_1 {s0:List Rou}{f1:Nat × List AV}{t7 t8:Int}{P0:Int→Prop} (kP0 :∀(t8:Int),P0 t8→I236_0 prog d Q st0 s0 f1 t7 t8){o_s0:Own}(H0:σ 0 = .sl o_s0 (List.map Rou.row s0))(H1:σ 1 = .fn f1.1 f1.2)(H7:σ 7 = .i .i64 t7)(H8:σ 8 = .i .i64 t8)(FR:Fr d (d,0) st0.bx st0.ow st.bx st.ow)(h:T236_1 prog K P0 s0 f1 t7 t8):W prog d l236_0 σ st (thenW prog d (.loop l236_0) (blockW 0 (thenW prog d c236_1 Q))):=
 q_ rfl (b_ H8 H7 lss_ (e_ (sq_ (cs_ rfl (fun g'1=>sk_ (sq_ (bk_ (q_ rfl (m_ (m_ (e_ (q_ rfl (m_ (s_mvL H0 (m_ ((h.1 g'1).2.elim fun c'2 e'3=>ia_ rfl H8 (h.1 g'1).1 e'3.1 (Rou.row_eq c'2) rfl (lf_ rfl rfl rfl (e'3.2.elim fun r'4 e'6=>s_callV H1 (sec rfl sen) (e'6.1) (fun st'7 hf'8=>e_ (cb_ rfl (fun g'9=>q_ rfl (m_ (m_ (e_ (rt_ (hQ _ _ _ H8 (Fr.raw FR hf'8) (e'6.2.1 g'9))))))) (fun g'9=>sk_ (W.reg0 rfl fun _ _=>b_ H8 rfl add_ (m_ (e_ (kP0 _ (e'6.2.2 g'9) _ _ _ H0 H1 H7 rfl (Fr.raw FR hf'8)))))))))))))))))))))) (fun g'1=>ex_ (w236_2 hQ FR (h.2 g'1)))))))
theorem w236_0 {s0:List Rou}{f1:Nat × List AV}{o_s0:Own}(H0:σ 0 = .sl o_s0 (List.map Rou.row s0))(H1:σ 1 = .fn f1.1 f1.2)(FR:Fr d (d,0) st0.bx st0.ow st.bx st.ow)(h:T236_0 prog K s0 f1):W prog d (.seq (.reg 0 r236_0) (.seq (.seq (.reg 1 r236_1) (.block 0 (.loop l236_0))) c236_1)) σ st Q:=
 q_ rfl (m_ (e_ (sq_ (q_ rfl (s_mvL H0 (ll_ rfl (m_ (e_ (bk_ (h (I236_0 prog d Q st0 s0 f1 (s0.length:Int)) (fun _ hb _ _ _ H0 H1 H7 H8 FR=>W.loop (w236_1 hQ (fun _ x=>x) H0 H1 H7 H8 FR hb)) _ _ _ H0 H1 rfl rfl FR))))))))))
end
theorem p236 {prog:Prog}(hf:prog.fn 236 = some pf236){s0:List Rou}{f1:Nat × List AV}{K:Int→Prop}(h:T236_0 prog K s0 f1)(o_s0:Own):PuN prog 236 [.sl o_s0 (List.map Rou.row s0),.fn f1.1 f1.2] (fun r=>∃res0:Int,(r = .i .i64 res0)∧K res0):=
  PuN.of hf rfl fun d st=>w236_0 (st0:=st) (Q:=fun e σ st'=>(e = .normal∨e = .ret)∧∃r,ares σ st' pf236.res = some r∧_∧Fr d (d,0) st.bx st.ow st'.bx st'.ow) (fun σ st'   res0 H4 hf hk=>⟨.inr rfl,.i .i64 res0,by simp only [pf236,ares,aresL,H4,ares1,Option.map_some,H4],⟨res0,rfl,hk⟩,hf⟩) (σ:=sl0 [.sl o_s0 (List.map Rou.row s0),.fn f1.1 f1.2]) rfl rfl Fr.refl h
def r237_0:List AI:=[oC 4 (.i .i64 0)]
def r237_1:List AI:=[oM 6 0,
 oO 7 (.len false (.t 6)),
 oC 8 (.i .i64 0)]
def r237_2:List AI:=[oB 9 .lss (.t 8) (.t 7)]
def r237_3:List AI:=[oM 10 8,
 oM 5 10]
def r237_4:List AI:=[oM 11 1,
 oM 12 0,
 oM 13 5,
 oO 14 (.iaL 4 (.t 12) (.t 13)),
 oO 15 (.load 4 true (.t 14)),
 oO 16 (.callv (.t 11) [(.t 15)])]
def r237_5:List AI:=[oM 17 5,
 oM 4 17]
def r237_6:List AI:=[oB 18 .add (.t 8) (.c (.i .i64 1)),
 oM 8 18]
def r237_7:List AI:=[oC 4 (.i .i64 (-1))]
abbrev l237_0:AC:=(.seq (.reg 2 r237_2) (.seq (.cond (.t 9) .skip (.exit 0)) (.seq (.block 1 (.seq (.reg 3 r237_3) (.seq (.reg 4 r237_4) (.cond (.t 16) (.seq (.reg 5 r237_5) .ret) .skip)))) (.reg 6 r237_6))))
abbrev c237_1:AC:=(.seq (.reg 7 r237_7) .ret)
abbrev b237:AC:=(.seq (.reg 0 r237_0) (.seq (.seq (.reg 1 r237_1) (.block 0 (.loop l237_0))) c237_1))
def pf237:AF:={ nt:=19,res:=[.tmp 4],body:=b237 }
abbrev H237 (d:Nat)(st0:St)(Q:AE→Sl→St→Prop)(K:Int→Prop):Prop:=∀(σ:Sl)(st:St)(res0:Int),σ 4 = .i .i64 res0→Fr d (d,0) st0.bx st0.ow st.bx st.ow→K res0→Q .ret σ st
abbrev I237_0 (prog:Prog)(d:Nat)(Q:AE→Sl→St→Prop)(st0:St)(s0:List Frm)(f1:Nat × List AV)(t7:Int)(t8:Int):Prop:=
  ∀(σ:Sl)(st:St)(o_s0:Own),σ 0 = .sl o_s0 (List.map Frm.row s0)→σ 1 = .fn f1.1 f1.2→σ 7 = .i .i64 t7→σ 8 = .i .i64 t8→Fr d (d,0) st0.bx st0.ow st.bx st.ow→W prog d (.loop l237_0) σ st (blockW 0 (thenW prog d c237_1 Q))
def T237_2 (prog:Prog)(K:Int→Prop) :Prop:=
  K (-1)
def T237_1 (prog:Prog)(K:Int→Prop)(P0:Int→Prop)(s0:List Frm)(f1:Nat × List AV)(t7:Int)(t8:Int):Prop:=
  (t8 < t7→0≤t8∧∃c'2:Frm,s0[(t8).toNat]? = some c'2∧∃r'4:Bool,(PuN prog f1.1 ([c'2.av] ++ f1.2) (fun r=>r = .b r'4))∧(r'4 = true→K t8)∧(r'4 = false→P0 (IntKind.i64.wrap (t8 + 1))))∧(¬(t8 < t7)→T237_2 prog K )
def T237_0 (prog:Prog)(K:Int→Prop)(s0:List Frm)(f1:Nat × List AV):Prop:=
  ∀P0:Int→Prop,(∀(t8:Int),T237_1 prog K P0 s0 f1 (s0.length:Int) t8→P0 t8)→P0 0
section
variable {prog:Prog}{d:Nat}{Q:AE→Sl→St→Prop}{K:Int→Prop}{st0:St}(hQ:H237 d st0 Q K){σ:Sl}{st:St}
include hQ
theorem w237_2 (FR:Fr d (d,0) st0.bx st0.ow st.bx st.ow)(h:T237_2 prog K ):W prog d c237_1 σ st Q:=
 q_ rfl (m_ (e_ (rt_ (hQ _ _ _ rfl FR h))))
theorem w237_1 {s0:List Frm}{f1:Nat × List AV}{t7 t8:Int}{P0:Int→Prop} (kP0 :∀(t8:Int),P0 t8→I237_0 prog d Q st0 s0 f1 t7 t8){o_s0:Own}(H0:σ 0 = .sl o_s0 (List.map Frm.row s0))(H1:σ 1 = .fn f1.1 f1.2)(H7:σ 7 = .i .i64 t7)(H8:σ 8 = .i .i64 t8)(FR:Fr d (d,0) st0.bx st0.ow st.bx st.ow)(h:T237_1 prog K P0 s0 f1 t7 t8):W prog d l237_0 σ st (thenW prog d (.loop l237_0) (blockW 0 (thenW prog d c237_1 Q))):=
 q_ rfl (b_ H8 H7 lss_ (e_ (sq_ (cs_ rfl (fun g'1=>sk_ (sq_ (bk_ (q_ rfl (m_ (m_ (e_ (q_ rfl (m_ (s_mvL H0 (m_ ((h.1 g'1).2.elim fun c'2 e'3=>ia_ rfl H8 (h.1 g'1).1 e'3.1 (Frm.row_eq c'2) rfl (lf_ rfl rfl rfl (e'3.2.elim fun r'4 e'6=>s_callV H1 (sec rfl sen) (e'6.1) (fun st'7 hf'8=>e_ (cb_ rfl (fun g'9=>q_ rfl (m_ (m_ (e_ (rt_ (hQ _ _ _ H8 (Fr.raw FR hf'8) (e'6.2.1 g'9))))))) (fun g'9=>sk_ (W.reg0 rfl fun _ _=>b_ H8 rfl add_ (m_ (e_ (kP0 _ (e'6.2.2 g'9) _ _ _ H0 H1 H7 rfl (Fr.raw FR hf'8)))))))))))))))))))))) (fun g'1=>ex_ (w237_2 hQ FR (h.2 g'1)))))))
theorem w237_0 {s0:List Frm}{f1:Nat × List AV}{o_s0:Own}(H0:σ 0 = .sl o_s0 (List.map Frm.row s0))(H1:σ 1 = .fn f1.1 f1.2)(FR:Fr d (d,0) st0.bx st0.ow st.bx st.ow)(h:T237_0 prog K s0 f1):W prog d (.seq (.reg 0 r237_0) (.seq (.seq (.reg 1 r237_1) (.block 0 (.loop l237_0))) c237_1)) σ st Q:=
 q_ rfl (m_ (e_ (sq_ (q_ rfl (s_mvL H0 (ll_ rfl (m_ (e_ (bk_ (h (I237_0 prog d Q st0 s0 f1 (s0.length:Int)) (fun _ hb _ _ _ H0 H1 H7 H8 FR=>W.loop (w237_1 hQ (fun _ x=>x) H0 H1 H7 H8 FR hb)) _ _ _ H0 H1 rfl rfl FR))))))))))
end
theorem p237 {prog:Prog}(hf:prog.fn 237 = some pf237){s0:List Frm}{f1:Nat × List AV}{K:Int→Prop}(h:T237_0 prog K s0 f1)(o_s0:Own):PuN prog 237 [.sl o_s0 (List.map Frm.row s0),.fn f1.1 f1.2] (fun r=>∃res0:Int,(r = .i .i64 res0)∧K res0):=
  PuN.of hf rfl fun d st=>w237_0 (st0:=st) (Q:=fun e σ st'=>(e = .normal∨e = .ret)∧∃r,ares σ st' pf237.res = some r∧_∧Fr d (d,0) st.bx st.ow st'.bx st'.ow) (fun σ st'   res0 H4 hf hk=>⟨.inr rfl,.i .i64 res0,by simp only [pf237,ares,aresL,H4,ares1,Option.map_some,H4],⟨res0,rfl,hk⟩,hf⟩) (σ:=sl0 [.sl o_s0 (List.map Frm.row s0),.fn f1.1 f1.2]) rfl rfl Fr.refl h
def r238_0:List AI:=[oC 4 (.i .i64 0)]
def r238_1:List AI:=[oM 6 0,
 oO 7 (.len false (.t 6)),
 oC 8 (.i .i64 0)]
def r238_2:List AI:=[oB 9 .lss (.t 8) (.t 7)]
def r238_3:List AI:=[oM 10 8,
 oM 5 10]
def r238_4:List AI:=[oM 11 1,
 oM 12 0,
 oM 13 5,
 oO 14 (.iaL 8 (.t 12) (.t 13)),
 oO 15 (.load 8 true (.t 14)),
 oO 16 (.callv (.t 11) [(.t 15)])]
def r238_5:List AI:=[oM 17 5,
 oM 4 17]
def r238_6:List AI:=[oB 18 .add (.t 8) (.c (.i .i64 1)),
 oM 8 18]
def r238_7:List AI:=[oC 4 (.i .i64 (-1))]
abbrev l238_0:AC:=(.seq (.reg 2 r238_2) (.seq (.cond (.t 9) .skip (.exit 0)) (.seq (.block 1 (.seq (.reg 3 r238_3) (.seq (.reg 4 r238_4) (.cond (.t 16) (.seq (.reg 5 r238_5) .ret) .skip)))) (.reg 6 r238_6))))
abbrev c238_1:AC:=(.seq (.reg 7 r238_7) .ret)
abbrev b238:AC:=(.seq (.reg 0 r238_0) (.seq (.seq (.reg 1 r238_1) (.block 0 (.loop l238_0))) c238_1))
def pf238:AF:={ nt:=19,res:=[.tmp 4],body:=b238 }
abbrev H238 (d:Nat)(st0:St)(Q:AE→Sl→St→Prop)(K:Int→Prop):Prop:=∀(σ:Sl)(st:St)(res0:Int),σ 4 = .i .i64 res0→Fr d (d,0) st0.bx st0.ow st.bx st.ow→K res0→Q .ret σ st
abbrev I238_0 (prog:Prog)(d:Nat)(Q:AE→Sl→St→Prop)(st0:St)(s0:List Dfr)(f1:Nat × List AV)(t7:Int)(t8:Int):Prop:=
  ∀(σ:Sl)(st:St)(o_s0:Own),σ 0 = .sl o_s0 (List.map Dfr.row s0)→σ 1 = .fn f1.1 f1.2→σ 7 = .i .i64 t7→σ 8 = .i .i64 t8→Fr d (d,0) st0.bx st0.ow st.bx st.ow→W prog d (.loop l238_0) σ st (blockW 0 (thenW prog d c238_1 Q))
def T238_2 (prog:Prog)(K:Int→Prop) :Prop:=
  K (-1)
def T238_1 (prog:Prog)(K:Int→Prop)(P0:Int→Prop)(s0:List Dfr)(f1:Nat × List AV)(t7:Int)(t8:Int):Prop:=
  (t8 < t7→0≤t8∧∃c'2:Dfr,s0[(t8).toNat]? = some c'2∧∃r'4:Bool,(PuN prog f1.1 ([c'2.av] ++ f1.2) (fun r=>r = .b r'4))∧(r'4 = true→K t8)∧(r'4 = false→P0 (IntKind.i64.wrap (t8 + 1))))∧(¬(t8 < t7)→T238_2 prog K )
def T238_0 (prog:Prog)(K:Int→Prop)(s0:List Dfr)(f1:Nat × List AV):Prop:=
  ∀P0:Int→Prop,(∀(t8:Int),T238_1 prog K P0 s0 f1 (s0.length:Int) t8→P0 t8)→P0 0
section
variable {prog:Prog}{d:Nat}{Q:AE→Sl→St→Prop}{K:Int→Prop}{st0:St}(hQ:H238 d st0 Q K){σ:Sl}{st:St}
include hQ
theorem w238_2 (FR:Fr d (d,0) st0.bx st0.ow st.bx st.ow)(h:T238_2 prog K ):W prog d c238_1 σ st Q:=
 q_ rfl (m_ (e_ (rt_ (hQ _ _ _ rfl FR h))))
theorem w238_1 {s0:List Dfr}{f1:Nat × List AV}{t7 t8:Int}{P0:Int→Prop} (kP0 :∀(t8:Int),P0 t8→I238_0 prog d Q st0 s0 f1 t7 t8){o_s0:Own}(H0:σ 0 = .sl o_s0 (List.map Dfr.row s0))(H1:σ 1 = .fn f1.1 f1.2)(H7:σ 7 = .i .i64 t7)(H8:σ 8 = .i .i64 t8)(FR:Fr d (d,0) st0.bx st0.ow st.bx st.ow)(h:T238_1 prog K P0 s0 f1 t7 t8):W prog d l238_0 σ st (thenW prog d (.loop l238_0) (blockW 0 (thenW prog d c238_1 Q))):=
 q_ rfl (b_ H8 H7 lss_ (e_ (sq_ (cs_ rfl (fun g'1=>sk_ (sq_ (bk_ (q_ rfl (m_ (m_ (e_ (q_ rfl (m_ (s_mvL H0 (m_ ((h.1 g'1).2.elim fun c'2 e'3=>ia_ rfl H8 (h.1 g'1).1 e'3.1 (Dfr.row_eq c'2) rfl (lf_ rfl rfl rfl (e'3.2.elim fun r'4 e'6=>s_callV H1 (sec rfl sen) (e'6.1) (fun st'7 hf'8=>e_ (cb_ rfl (fun g'9=>q_ rfl (m_ (m_ (e_ (rt_ (hQ _ _ _ H8 (Fr.raw FR hf'8) (e'6.2.1 g'9))))))) (fun g'9=>sk_ (W.reg0 rfl fun _ _=>b_ H8 rfl add_ (m_ (e_ (kP0 _ (e'6.2.2 g'9) _ _ _ H0 H1 H7 rfl (Fr.raw FR hf'8)))))))))))))))))))))) (fun g'1=>ex_ (w238_2 hQ FR (h.2 g'1)))))))
theorem w238_0 {s0:List Dfr}{f1:Nat × List AV}{o_s0:Own}(H0:σ 0 = .sl o_s0 (List.map Dfr.row s0))(H1:σ 1 = .fn f1.1 f1.2)(FR:Fr d (d,0) st0.bx st0.ow st.bx st.ow)(h:T238_0 prog K s0 f1):W prog d (.seq (.reg 0 r238_0) (.seq (.seq (.reg 1 r238_1) (.block 0 (.loop l238_0))) c238_1)) σ st Q:=
 q_ rfl (m_ (e_ (sq_ (q_ rfl (s_mvL H0 (ll_ rfl (m_ (e_ (bk_ (h (I238_0 prog d Q st0 s0 f1 (s0.length:Int)) (fun _ hb _ _ _ H0 H1 H7 H8 FR=>W.loop (w238_1 hQ (fun _ x=>x) H0 H1 H7 H8 FR hb)) _ _ _ H0 H1 rfl rfl FR))))))))))
end
theorem p238 {prog:Prog}(hf:prog.fn 238 = some pf238){s0:List Dfr}{f1:Nat × List AV}{K:Int→Prop}(h:T238_0 prog K s0 f1)(o_s0:Own):PuN prog 238 [.sl o_s0 (List.map Dfr.row s0),.fn f1.1 f1.2] (fun r=>∃res0:Int,(r = .i .i64 res0)∧K res0):=
  PuN.of hf rfl fun d st=>w238_0 (st0:=st) (Q:=fun e σ st'=>(e = .normal∨e = .ret)∧∃r,ares σ st' pf238.res = some r∧_∧Fr d (d,0) st.bx st.ow st'.bx st'.ow) (fun σ st'   res0 H4 hf hk=>⟨.inr rfl,.i .i64 res0,by simp only [pf238,ares,aresL,H4,ares1,Option.map_some,H4],⟨res0,rfl,hk⟩,hf⟩) (σ:=sl0 [.sl o_s0 (List.map Dfr.row s0),.fn f1.1 f1.2]) rfl rfl Fr.refl h
def r239_0:List AI:=[oC 4 (.i .i64 0)]
def r239_1:List AI:=[oM 6 0,
 oO 7 (.len false (.t 6)),
 oC 8 (.i .i64 0)]
def r239_2:List AI:=[oB 9 .lss (.t 8) (.t 7)]
def r239_3:List AI:=[oM 10 8,
 oM 5 10]
def r239_4:List AI:=[oM 11 1,
 oM 12 0,
 oM 13 5,
 oO 14 (.iaL 7 (.t 12) (.t 13)),
 oO 15 (.load 7 true (.t 14)),
 oO 16 (.callv (.t 11) [(.t 15)])]
def r239_5:List AI:=[oM 17 5,
 oM 4 17]
def r239_6:List AI:=[oB 18 .add (.t 8) (.c (.i .i64 1)),
 oM 8 18]
def r239_7:List AI:=[oC 4 (.i .i64 (-1))]
abbrev l239_0:AC:=(.seq (.reg 2 r239_2) (.seq (.cond (.t 9) .skip (.exit 0)) (.seq (.block 1 (.seq (.reg 3 r239_3) (.seq (.reg 4 r239_4) (.cond (.t 16) (.seq (.reg 5 r239_5) .ret) .skip)))) (.reg 6 r239_6))))
abbrev c239_1:AC:=(.seq (.reg 7 r239_7) .ret)
abbrev b239:AC:=(.seq (.reg 0 r239_0) (.seq (.seq (.reg 1 r239_1) (.block 0 (.loop l239_0))) c239_1))
def pf239:AF:={ nt:=19,res:=[.tmp 4],body:=b239 }
abbrev H239 (d:Nat)(st0:St)(Q:AE→Sl→St→Prop)(K:Int→Prop):Prop:=∀(σ:Sl)(st:St)(res0:Int),σ 4 = .i .i64 res0→Fr d (d,0) st0.bx st0.ow st.bx st.ow→K res0→Q .ret σ st
abbrev I239_0 (prog:Prog)(d:Nat)(Q:AE→Sl→St→Prop)(st0:St)(s0:List Pan)(f1:Nat × List AV)(t7:Int)(t8:Int):Prop:=
  ∀(σ:Sl)(st:St)(o_s0:Own),σ 0 = .sl o_s0 (List.map Pan.row s0)→σ 1 = .fn f1.1 f1.2→σ 7 = .i .i64 t7→σ 8 = .i .i64 t8→Fr d (d,0) st0.bx st0.ow st.bx st.ow→W prog d (.loop l239_0) σ st (blockW 0 (thenW prog d c239_1 Q))
def T239_2 (prog:Prog)(K:Int→Prop) :Prop:=
  K (-1)
def T239_1 (prog:Prog)(K:Int→Prop)(P0:Int→Prop)(s0:List Pan)(f1:Nat × List AV)(t7:Int)(t8:Int):Prop:=
  (t8 < t7→0≤t8∧∃c'2:Pan,s0[(t8).toNat]? = some c'2∧∃r'4:Bool,(PuN prog f1.1 ([c'2.av] ++ f1.2) (fun r=>r = .b r'4))∧(r'4 = true→K t8)∧(r'4 = false→P0 (IntKind.i64.wrap (t8 + 1))))∧(¬(t8 < t7)→T239_2 prog K )
def T239_0 (prog:Prog)(K:Int→Prop)(s0:List Pan)(f1:Nat × List AV):Prop:=
  ∀P0:Int→Prop,(∀(t8:Int),T239_1 prog K P0 s0 f1 (s0.length:Int) t8→P0 t8)→P0 0
section
variable {prog:Prog}{d:Nat}{Q:AE→Sl→St→Prop}{K:Int→Prop}{st0:St}(hQ:H239 d st0 Q K){σ:Sl}{st:St}
include hQ
theorem w239_2 (FR:Fr d (d,0) st0.bx st0.ow st.bx st.ow)(h:T239_2 prog K ):W prog d c239_1 σ st Q:=
 q_ rfl (m_ (e_ (rt_ (hQ _ _ _ rfl FR h))))
theorem w239_1 {s0:List Pan}{f1:Nat × List AV}{t7 t8:Int}{P0:Int→Prop} (kP0 :∀(t8:Int),P0 t8→I239_0 prog d Q st0 s0 f1 t7 t8){o_s0:Own}(H0:σ 0 = .sl o_s0 (List.map Pan.row s0))(H1:σ 1 = .fn f1.1 f1.2)(H7:σ 7 = .i .i64 t7)(H8:σ 8 = .i .i64 t8)(FR:Fr d (d,0) st0.bx st0.ow st.bx st.ow)(h:T239_1 prog K P0 s0 f1 t7 t8):W prog d l239_0 σ st (thenW prog d (.loop l239_0) (blockW 0 (thenW prog d c239_1 Q))):=
 q_ rfl (b_ H8 H7 lss_ (e_ (sq_ (cs_ rfl (fun g'1=>sk_ (sq_ (bk_ (q_ rfl (m_ (m_ (e_ (q_ rfl (m_ (s_mvL H0 (m_ ((h.1 g'1).2.elim fun c'2 e'3=>ia_ rfl H8 (h.1 g'1).1 e'3.1 (Pan.row_eq c'2) rfl (lf_ rfl rfl rfl (e'3.2.elim fun r'4 e'6=>s_callV H1 (sec rfl sen) (e'6.1) (fun st'7 hf'8=>e_ (cb_ rfl (fun g'9=>q_ rfl (m_ (m_ (e_ (rt_ (hQ _ _ _ H8 (Fr.raw FR hf'8) (e'6.2.1 g'9))))))) (fun g'9=>sk_ (W.reg0 rfl fun _ _=>b_ H8 rfl add_ (m_ (e_ (kP0 _ (e'6.2.2 g'9) _ _ _ H0 H1 H7 rfl (Fr.raw FR hf'8)))))))))))))))))))))) (fun g'1=>ex_ (w239_2 hQ FR (h.2 g'1)))))))
theorem w239_0 {s0:List Pan}{f1:Nat × List AV}{o_s0:Own}(H0:σ 0 = .sl o_s0 (List.map Pan.row s0))(H1:σ 1 = .fn f1.1 f1.2)(FR:Fr d (d,0) st0.bx st0.ow st.bx st.ow)(h:T239_0 prog K s0 f1):W prog d (.seq (.reg 0 r239_0) (.seq (.seq (.reg 1 r239_1) (.block 0 (.loop l239_0))) c239_1)) σ st Q:=
 q_ rfl (m_ (e_ (sq_ (q_ rfl (s_mvL H0 (ll_ rfl (m_ (e_ (bk_ (h (I239_0 prog d Q st0 s0 f1 (s0.length:Int)) (fun _ hb _ _ _ H0 H1 H7 H8 FR=>W.loop (w239_1 hQ (fun _ x=>x) H0 H1 H7 H8 FR hb)) _ _ _ H0 H1 rfl rfl FR))))))))))
end
theorem p239 {prog:Prog}(hf:prog.fn 239 = some pf239){s0:List Pan}{f1:Nat × List AV}{K:Int→Prop}(h:T239_0 prog K s0 f1)(o_s0:Own):PuN prog 239 [.sl o_s0 (List.map Pan.row s0),.fn f1.1 f1.2] (fun r=>∃res0:Int,(r = .i .i64 res0)∧K res0):=
  PuN.of hf rfl fun d st=>w239_0 (st0:=st) (Q:=fun e σ st'=>(e = .normal∨e = .ret)∧∃r,ares σ st' pf239.res = some r∧_∧Fr d (d,0) st.bx st.ow st'.bx st'.ow) (fun σ st'   res0 H4 hf hk=>⟨.inr rfl,.i .i64 res0,by simp only [pf239,ares,aresL,H4,ares1,Option.map_some,H4],⟨res0,rfl,hk⟩,hf⟩) (σ:=sl0 [.sl o_s0 (List.map Pan.row s0),.fn f1.1 f1.2]) rfl rfl Fr.refl h
def r224_0:List AI:=[oC 4 (.b false)]
def r224_1:List AI:=[oM 5 0,
 oM 6 1,
 oO 7 (.call true 236 [(.t 5),(.t 6)]),
 oB 8 .geq (.t 7) (.c (.i .i64 0)),
 oM 4 8]
abbrev b224:AC:=(.seq (.reg 0 r224_0) (.seq (.reg 1 r224_1) .ret))
def pf224:AF:={ nt:=9,res:=[.tmp 4],body:=b224 }
abbrev H224 (d:Nat)(st0:St)(Q:AE→Sl→St→Prop)(K:Bool→Prop):Prop:=∀(σ:Sl)(st:St)(res0:Bool),σ 4 = .b res0→Fr d (d,0) st0.bx st0.ow st.bx st.ow→K res0→Q .ret σ st
def T224_0 (prog:Prog)(K:Bool→Prop)(s0:List Rou)(f1:Nat × List AV):Prop:=
  ∃r'1:Int,(∀q'3:Own,PuN prog 236 [.sl q'3 (List.map Rou.row s0),.fn f1.1 f1.2] (fun r=>r = .i .i64 r'1))∧K (decide (r'1 ≥ 0))
section
variable {prog:Prog}{d:Nat}{Q:AE→Sl→St→Prop}{K:Bool→Prop}{st0:St}(hQ:H224 d st0 Q K){σ:Sl}{st:St}
include hQ
theorem w224_0 {s0:List Rou}{f1:Nat × List AV}{o_s0:Own}(H0:σ 0 = .sl o_s0 (List.map Rou.row s0))(H1:σ 1 = .fn f1.1 f1.2)(FR:Fr d (d,0) st0.bx st0.ow st.bx st.ow)(h:T224_0 prog K s0 f1):W prog d (.seq (.reg 0 r224_0) (.seq (.reg 1 r224_1) .ret)) σ st Q:=
 q_ rfl (m_ (e_ (q_ rfl (s_mvL H0 (m_ (h.elim fun r'1 e'4=>s_callN (sec rfl (sec H1 sen)) (e'4.1 _) (fun st'5 hf'6=>b_ rfl rfl geq_ (m_ (e_ (rt_ (hQ _ _ _ rfl (Fr.raw FR hf'6) e'4.2)))))))))))
end
theorem p224 {prog:Prog}(hf:prog.fn 224 = some pf224){s0:List Rou}{f1:Nat × List AV}{K:Bool→Prop}(h:T224_0 prog K s0 f1)(o_s0:Own):PuN prog 224 [.sl o_s0 (List.map Rou.row s0),.fn f1.1 f1.2] (fun r=>∃res0:Bool,(r = .b res0)∧K res0):=
  PuN.of hf rfl fun d st=>w224_0 (st0:=st) (Q:=fun e σ st'=>(e = .normal∨e = .ret)∧∃r,ares σ st' pf224.res = some r∧_∧Fr d (d,0) st.bx st.ow st'.bx st'.ow) (fun σ st'   res0 H4 hf hk=>⟨.inr rfl,.b res0,by simp only [pf224,ares,aresL,H4,ares1,Option.map_some,H4],⟨res0,rfl,hk⟩,hf⟩) (σ:=sl0 [.sl o_s0 (List.map Rou.row s0),.fn f1.1 f1.2]) rfl rfl Fr.refl h
def r227_0:List AI:=[oC 4 (.b false)]
def r227_1:List AI:=[oM 5 0,
 oM 6 1,
 oO 7 (.call true 237 [(.t 5),(.t 6)]),
 oB 8 .geq (.t 7) (.c (.i .i64 0)),
 oM 4 8]
abbrev b227:AC:=(.seq (.reg 0 r227_0) (.seq (.reg 1 r227_1) .ret))
def pf227:AF:={ nt:=9,res:=[.tmp 4],body:=b227 }
abbrev H227 (d:Nat)(st0:St)(Q:AE→Sl→St→Prop)(K:Bool→Prop):Prop:=∀(σ:Sl)(st:St)(res0:Bool),σ 4 = .b res0→Fr d (d,0) st0.bx st0.ow st.bx st.ow→K res0→Q .ret σ st
def T227_0 (prog:Prog)(K:Bool→Prop)(s0:List Frm)(f1:Nat × List AV):Prop:=
  ∃r'1:Int,(∀q'3:Own,PuN prog 237 [.sl q'3 (List.map Frm.row s0),.fn f1.1 f1.2] (fun r=>r = .i .i64 r'1))∧K (decide (r'1 ≥ 0))
section
variable {prog:Prog}{d:Nat}{Q:AE→Sl→St→Prop}{K:Bool→Prop}{st0:St}(hQ:H227 d st0 Q K){σ:Sl}{st:St}
include hQ
theorem w227_0 {s0:List Frm}{f1:Nat × List AV}{o_s0:Own}(H0:σ 0 = .sl o_s0 (List.map Frm.row s0))(H1:σ 1 = .fn f1.1 f1.2)(FR:Fr d (d,0) st0.bx st0.ow st.bx st.ow)(h:T227_0 prog K s0 f1):W prog d (.seq (.reg 0 r227_0) (.seq (.reg 1 r227_1) .ret)) σ st Q:=
 q_ rfl (m_ (e_ (q_ rfl (s_mvL H0 (m_ (h.elim fun r'1 e'4=>s_callN (sec rfl (sec H1 sen)) (e'4.1 _) (fun st'5 hf'6=>b_ rfl rfl geq_ (m_ (e_ (rt_ (hQ _ _ _ rfl (Fr.raw FR hf'6) e'4.2)))))))))))
end
theorem p227 {prog:Prog}(hf:prog.fn 227 = some pf227){s0:List Frm}{f1:Nat × List AV}{K:Bool→Prop}(h:T227_0 prog K s0 f1)(o_s0:Own):PuN prog 227 [.sl o_s0 (List.map Frm.row s0),.fn f1.1 f1.2] (fun r=>∃res0:Bool,(r = .b res0)∧K res0):=
  PuN.of hf rfl fun d st=>w227_0 (st0:=st) (Q:=fun e σ st'=>(e = .normal∨e = .ret)∧∃r,ares σ st' pf227.res = some r∧_∧Fr d (d,0) st.bx st.ow st'.bx st'.ow) (fun σ st'   res0 H4 hf hk=>⟨.inr rfl,.b res0,by simp only [pf227,ares,aresL,H4,ares1,Option.map_some,H4],⟨res0,rfl,hk⟩,hf⟩) (σ:=sl0 [.sl o_s0 (List.map Frm.row s0),.fn f1.1 f1.2]) rfl rfl Fr.refl h
def r229_0:List AI:=[oC 4 (.b false)]
def r229_1:List AI:=[oM 5 0,
 oM 6 1,
 oO 7 (.call true 238 [(.t 5),(.t 6)]),
 oB 8 .geq (.t 7) (.c (.i .i64 0)),
 oM 4 8]
abbrev b229:AC:=(.seq (.reg 0 r229_0) (.seq (.reg 1 r229_1) .ret))
def pf229:AF:={ nt:=9,res:=[.tmp 4],body:=b229 }
abbrev H229 (d:Nat)(st0:St)(Q:AE→Sl→St→Prop)(K:Bool→Prop):Prop:=∀(σ:Sl)(st:St)(res0:Bool),σ 4 = .b res0→Fr d (d,0) st0.bx st0.ow st.bx st.ow→K res0→Q .ret σ st
def T229_0 (prog:Prog)(K:Bool→Prop)(s0:List Dfr)(f1:Nat × List AV):Prop:=
  ∃r'1:Int,(∀q'3:Own,PuN prog 238 [.sl q'3 (List.map Dfr.row s0),.fn f1.1 f1.2] (fun r=>r = .i .i64 r'1))∧K (decide (r'1 ≥ 0))
section
variable {prog:Prog}{d:Nat}{Q:AE→Sl→St→Prop}{K:Bool→Prop}{st0:St}(hQ:H229 d st0 Q K){σ:Sl}{st:St}
include hQ
theorem w229_0 {s0:List Dfr}{f1:Nat × List AV}{o_s0:Own}(H0:σ 0 = .sl o_s0 (List.map Dfr.row s0))(H1:σ 1 = .fn f1.1 f1.2)(FR:Fr d (d,0) st0.bx st0.ow st.bx st.ow)(h:T229_0 prog K s0 f1):W prog d (.seq (.reg 0 r229_0) (.seq (.reg 1 r229_1) .ret)) σ st Q:=
 q_ rfl (m_ (e_ (q_ rfl (s_mvL H0 (m_ (h.elim fun r'1 e'4=>s_callN (sec rfl (sec H1 sen)) (e'4.1 _) (fun st'5 hf'6=>b_ rfl rfl geq_ (m_ (e_ (rt_ (hQ _ _ _ rfl (Fr.raw FR hf'6) e'4.2)))))))))))
end
theorem p229 {prog:Prog}(hf:prog.fn 229 = some pf229){s0:List Dfr}{f1:Nat × List AV}{K:Bool→Prop}(h:T229_0 prog K s0 f1)(o_s0:Own):PuN prog 229 [.sl o_s0 (List.map Dfr.row s0),.fn f1.1 f1.2] (fun r=>∃res0:Bool,(r = .b res0)∧K res0):=
  PuN.of hf rfl fun d st=>w229_0 (st0:=st) (Q:=fun e σ st'=>(e = .normal∨e = .ret)∧∃r,ares σ st' pf229.res = some r∧_∧Fr d (d,0) st.bx st.ow st'.bx st'.ow) (fun σ st'   res0 H4 hf hk=>⟨.inr rfl,.b res0,by simp only [pf229,ares,aresL,H4,ares1,Option.map_some,H4],⟨res0,rfl,hk⟩,hf⟩) (σ:=sl0 [.sl o_s0 (List.map Dfr.row s0),.fn f1.1 f1.2]) rfl rfl Fr.refl h
def r232_0:List AI:=[oC 4 (.b false)]
def r232_1:List AI:=[oM 5 0,
 oM 6 1,
 oO 7 (.call true 239 [(.t 5),(.t 6)]),
 oB 8 .geq (.t 7) (.c (.i .i64 0)),
 oM 4 8]
abbrev b232:AC:=(.seq (.reg 0 r232_0) (.seq (.reg 1 r232_1) .ret))
def pf232:AF:={ nt:=9,res:=[.tmp 4],body:=b232 }
abbrev H232 (d:Nat)(st0:St)(Q:AE→Sl→St→Prop)(K:Bool→Prop):Prop:=∀(σ:Sl)(st:St)(res0:Bool),σ 4 = .b res0→Fr d (d,0) st0.bx st0.ow st.bx st.ow→K res0→Q .ret σ st
def T232_0 (prog:Prog)(K:Bool→Prop)(s0:List Pan)(f1:Nat × List AV):Prop:=
  ∃r'1:Int,(∀q'3:Own,PuN prog 239 [.sl q'3 (List.map Pan.row s0),.fn f1.1 f1.2] (fun r=>r = .i .i64 r'1))∧K (decide (r'1 ≥ 0))
section
variable {prog:Prog}{d:Nat}{Q:AE→Sl→St→Prop}{K:Bool→Prop}{st0:St}(hQ:H232 d st0 Q K){σ:Sl}{st:St}
include hQ
theorem w232_0 {s0:List Pan}{f1:Nat × List AV}{o_s0:Own}(H0:σ 0 = .sl o_s0 (List.map Pan.row s0))(H1:σ 1 = .fn f1.1 f1.2)(FR:Fr d (d,0) st0.bx st0.ow st.bx st.ow)(h:T232_0 prog K s0 f1):W prog d (.seq (.reg 0 r232_0) (.seq (.reg 1 r232_1) .ret)) σ st Q:=
 q_ rfl (m_ (e_ (q_ rfl (s_mvL H0 (m_ (h.elim fun r'1 e'4=>s_callN (sec rfl (sec H1 sen)) (e'4.1 _) (fun st'5 hf'6=>b_ rfl rfl geq_ (m_ (e_ (rt_ (hQ _ _ _ rfl (Fr.raw FR hf'6) e'4.2)))))))))))
end
theorem p232 {prog:Prog}(hf:prog.fn 232 = some pf232){s0:List Pan}{f1:Nat × List AV}{K:Bool→Prop}(h:T232_0 prog K s0 f1)(o_s0:Own):PuN prog 232 [.sl o_s0 (List.map Pan.row s0),.fn f1.1 f1.2] (fun r=>∃res0:Bool,(r = .b res0)∧K res0):=
  PuN.of hf rfl fun d st=>w232_0 (st0:=st) (Q:=fun e σ st'=>(e = .normal∨e = .ret)∧∃r,ares σ st' pf232.res = some r∧_∧Fr d (d,0) st.bx st.ow st'.bx st'.ow) (fun σ st'   res0 H4 hf hk=>⟨.inr rfl,.b res0,by simp only [pf232,ares,aresL,H4,ares1,Option.map_some,H4],⟨res0,rfl,hk⟩,hf⟩) (σ:=sl0 [.sl o_s0 (List.map Pan.row s0),.fn f1.1 f1.2]) rfl rfl Fr.refl h
end Go.AM

/- Parts of the proof. -/
namespace Go.AM
open Go
set_option linter.unusedVariables false
set_option linter.unusedSimpArgs false
set_option maxRecDepth 4000
attribute [local irreducible] WO fillCells fillRows
def r228_0:List AI:=[oO 2 (.box 4 (.t 0)),
 oC 3 (.b false)]
def r228_1:List AI:=[oO 4 (.load 3 true (.t 1)),
 oO 5 (.load 4 true (.t 2)),
 oO 6 (.call false 86 [(.t 4),(.t 5)]),
 oB 7 .neq (.t 6) (.c (.i .i64 0)),
 oM 3 7]
abbrev b228:AC:=(.seq (.reg 0 r228_0) (.seq (.reg 1 r228_1) .ret))
def pf228:AF:={ nt:=8,res:=[.tmp 3],body:=b228 }
abbrev H228 (d:Nat)(st0:St)(Q:AE→Sl→St→Prop)(K:Bool→Prop):Prop:=∀(σ:Sl)(st:St)(res0:Bool),σ 3 = .b res0→Fr d (d,0) st0.bx st0.ow st.bx st.ow→K res0→Q .ret σ st
def T228_0 (prog:Prog)(K:Bool→Prop)(y0:Frm)(t1:Img):Prop:=
  ∃r'1:Int,Pus prog 86 [t1.av,y0.av] (.i .i64 r'1)∧K (decide (r'1≠0))
section
variable {prog:Prog}{d:Nat}{Q:AE→Sl→St→Prop}{K:Bool→Prop}{st0:St}(hQ:H228 d st0 Q K){σ:Sl}{st:St}
include hQ
theorem w228_0 {y0:Frm}{t1:Img}(H0:σ 0 = y0.av)(H1:σ 1 = .fp [.sl .ext (List.map Typ.row t1.types),.sl .ext (List.map rowS t1.texts),.sl .ext (List.map Fun.row t1.funcs)])(FR:Fr d (d,0) st0.bx st0.ow st.bx st.ow)(h:T228_0 prog K y0 t1):W prog d (.seq (.reg 0 r228_0) (.seq (.reg 1 r228_1) .ret)) σ st Q:=
 q_ rfl (s_box H0 rfl (m_ (e_ (q_ rfl (lf_ H1 rfl rfl (l_ rfl lk_here rfl rfl (h.elim fun r'1 e'2=>ca_ (sc rfl rfl (sc rfl rfl sn)) e'2.1 (b_ rfl rfl neq_ (m_ (e_ (rt_ (hQ _ _ _ rfl (Fr.box FR) e'2.2))))))))))))
end
theorem p228 {prog:Prog}(hf:prog.fn 228 = some pf228){y0:Frm}{t1:Img}{K:Bool→Prop}(h:T228_0 prog K y0 t1):PuN prog 228 [y0.av,.fp [.sl .ext (List.map Typ.row t1.types),.sl .ext (List.map rowS t1.texts),.sl .ext (List.map Fun.row t1.funcs)]] (fun r=>∃res0:Bool,(r = .b res0)∧K res0):=
  PuN.of hf rfl fun d st=>w228_0 (st0:=st) (Q:=fun e σ st'=>(e = .normal∨e = .ret)∧∃r,ares σ st' pf228.res = some r∧_∧Fr d (d,0) st.bx st.ow st'.bx st'.ow) (fun σ st'   res0 H3 hf hk=>⟨.inr rfl,.b res0,by simp only [pf228,ares,aresL,H3,ares1,Option.map_some,H3],⟨res0,rfl,hk⟩,hf⟩) (σ:=sl0 [y0.av,.fp [.sl .ext (List.map Typ.row t1.types),.sl .ext (List.map rowS t1.texts),.sl .ext (List.map Fun.row t1.funcs)]]) rfl rfl Fr.refl h
def r230_0:List AI:=[oO 3 (.box 8 (.t 0)),
 oC 4 (.b false)]
def r230_1:List AI:=[oO 5 (.load 3 true (.t 1)),
 oL 6 2,
 oO 7 (.load 8 true (.t 3)),
 oO 8 (.call false 231 [(.t 5),(.t 6),(.t 7)]),
 oO 9 (.un .not (.t 8)),
 oM 4 9]
abbrev b230:AC:=(.seq (.reg 0 r230_0) (.seq (.reg 1 r230_1) .ret))
def pf230:AF:={ nt:=10,res:=[.tmp 4],body:=b230 }
abbrev H230 (d:Nat)(st0:St)(Q:AE→Sl→St→Prop)(K:Bool→Prop):Prop:=∀(σ:Sl)(st:St)(res0:Bool),σ 4 = .b res0→Fr d (d,0) st0.bx st0.ow st.bx st.ow→K res0→Q .ret σ st
def T230_0 (prog:Prog)(K:Bool→Prop)(y0:Dfr)(t1:Img)(t2:Int):Prop:=
  ∃r'1:Bool,Pus prog 231 [t1.av,.i .i64 t2,y0.av] (.b r'1)∧K (!r'1)
section
variable {prog:Prog}{d:Nat}{Q:AE→Sl→St→Prop}{K:Bool→Prop}{st0:St}(hQ:H230 d st0 Q K){σ:Sl}{st:St}
include hQ
theorem w230_0 {y0:Dfr}{t1:Img}{t2:Int}(H0:σ 0 = y0.av)(H1:σ 1 = .fp [.sl .ext (List.map Typ.row t1.types),.sl .ext (List.map rowS t1.texts),.sl .ext (List.map Fun.row t1.funcs)])(H2:σ 2 = .fp [.i .i64 t2])(FR:Fr d (d,0) st0.bx st0.ow st.bx st.ow)(h:T230_0 prog K y0 t1 t2):W prog d (.seq (.reg 0 r230_0) (.seq (.reg 1 r230_1) .ret)) σ st Q:=
 q_ rfl (s_box H0 rfl (m_ (e_ (q_ rfl (lf_ H1 rfl rfl (lf_ H2 rfl rfl (l_ rfl lk_here rfl rfl (h.elim fun r'1 e'2=>ca_ (sc rfl rfl (sc rfl rfl (sc rfl rfl sn))) e'2.1 (nt_ rfl (m_ (e_ (rt_ (hQ _ _ _ rfl (Fr.box FR) e'2.2)))))))))))))
end
theorem p230 {prog:Prog}(hf:prog.fn 230 = some pf230){y0:Dfr}{t1:Img}{t2:Int}{K:Bool→Prop}(h:T230_0 prog K y0 t1 t2):PuN prog 230 [y0.av,.fp [.sl .ext (List.map Typ.row t1.types),.sl .ext (List.map rowS t1.texts),.sl .ext (List.map Fun.row t1.funcs)],.fp [.i .i64 t2]] (fun r=>∃res0:Bool,(r = .b res0)∧K res0):=
  PuN.of hf rfl fun d st=>w230_0 (st0:=st) (Q:=fun e σ st'=>(e = .normal∨e = .ret)∧∃r,ares σ st' pf230.res = some r∧_∧Fr d (d,0) st.bx st.ow st'.bx st'.ow) (fun σ st'   res0 H4 hf hk=>⟨.inr rfl,.b res0,by simp only [pf230,ares,aresL,H4,ares1,Option.map_some,H4],⟨res0,rfl,hk⟩,hf⟩) (σ:=sl0 [y0.av,.fp [.sl .ext (List.map Typ.row t1.types),.sl .ext (List.map rowS t1.texts),.sl .ext (List.map Fun.row t1.funcs)],.fp [.i .i64 t2]]) rfl rfl rfl Fr.refl h
def r233_0:List AI:=[oO 1 (.box 7 (.t 0)),
 oC 2 (.b false)]
def r233_1:List AI:=[oO 3 (.load 7 true (.t 1)),
 oO 4 (.call false 158 [(.t 3)]),
 oB 5 .neq (.t 4) (.c (.i .i64 0)),
 oM 2 5]
abbrev b233:AC:=(.seq (.reg 0 r233_0) (.seq (.reg 1 r233_1) .ret))
def pf233:AF:={ nt:=6,res:=[.tmp 2],body:=b233 }
abbrev H233 (d:Nat)(st0:St)(Q:AE→Sl→St→Prop)(K:Bool→Prop):Prop:=∀(σ:Sl)(st:St)(res0:Bool),σ 2 = .b res0→Fr d (d,0) st0.bx st0.ow st.bx st.ow→K res0→Q .ret σ st
def T233_0 (prog:Prog)(K:Bool→Prop)(y0:Pan):Prop:=
  ∃r'1:Int,Pus prog 158 [y0.av] (.i .i64 r'1)∧K (decide (r'1≠0))
section
variable {prog:Prog}{d:Nat}{Q:AE→Sl→St→Prop}{K:Bool→Prop}{st0:St}(hQ:H233 d st0 Q K){σ:Sl}{st:St}
include hQ
theorem w233_0 {y0:Pan}(H0:σ 0 = y0.av)(FR:Fr d (d,0) st0.bx st0.ow st.bx st.ow)(h:T233_0 prog K y0):W prog d (.seq (.reg 0 r233_0) (.seq (.reg 1 r233_1) .ret)) σ st Q:=
 q_ rfl (s_box H0 rfl (m_ (e_ (q_ rfl (l_ rfl lk_here rfl rfl (h.elim fun r'1 e'2=>ca_ (sc rfl rfl sn) e'2.1 (b_ rfl rfl neq_ (m_ (e_ (rt_ (hQ _ _ _ rfl (Fr.box FR) e'2.2)))))))))))
end
theorem p233 {prog:Prog}(hf:prog.fn 233 = some pf233){y0:Pan}{K:Bool→Prop}(h:T233_0 prog K y0):PuN prog 233 [y0.av] (fun r=>∃res0:Bool,(r = .b res0)∧K res0):=
  PuN.of hf rfl fun d st=>w233_0 (st0:=st) (Q:=fun e σ st'=>(e = .normal∨e = .ret)∧∃r,ares σ st' pf233.res = some r∧_∧Fr d (d,0) st.bx st.ow st'.bx st'.ow) (fun σ st'   res0 H2 hf hk=>⟨.inr rfl,.b res0,by simp only [pf233,ares,aresL,H2,ares1,Option.map_some,H2],⟨res0,rfl,hk⟩,hf⟩) (σ:=sl0 [y0.av]) rfl Fr.refl h
def r231_0:List AI:=[oO 3 (.box 3 (.t 0)),
 oO 5 (.box 8 (.t 2)),
 oC 6 (.b false)]
def r231_1:List AI:=[oF 8 0 5,
 oL 9 8,
 oB 10 .lss (.t 9) (.c (.i .i64 0)),
 oM 11 10,
 oG 12 (.fad 0 (.t 5)) 11 false,
 oG 13 (.load 1 false (.t 12)) 11 false,
 oG 14 (.mv (.t 1)) 11 false,
 oG 15 (.bin .geq (.t 13) (.t 14)) 11 false,
 oO 16 (.pick (.t 11) (.c (.b true)) (.t 15)),
 oM 17 16,
 oG 18 (.fad 1 (.t 5)) 17 false,
 oG 19 (.load 1 false (.t 18)) 17 false,
 oG 20 (.bin .lss (.t 19) (.c (.i .i64 0))) 17 false,
 oO 21 (.pick (.t 17) (.c (.b true)) (.t 20)),
 oM 22 21,
 oG 23 (.fad 1 (.t 5)) 22 false,
 oG 24 (.load 1 false (.t 23)) 22 false,
 oG 25 (.fad 2 (.t 3)) 22 false,
 oG 26 (.load 1 false (.t 25)) 22 false,
 oG 27 (.len false (.t 26)) 22 false,
 oG 28 (.bin .geq (.t 24) (.t 27)) 22 false,
 oO 29 (.pick (.t 22) (.c (.b true)) (.t 28)),
 oM 30 29,
 oG 31 (.fad 2 (.t 3)) 30 false,
 oG 32 (.load 1 false (.t 31)) 30 false,
 oG 33 (.fad 1 (.t 5)) 30 false,
 oG 34 (.load 1 false (.t 33)) 30 false,
 oG 35 (.iaL 7 (.t 32) (.t 34)) 30 false,
 oG 36 (.fad 0 (.t 35)) 30 false,
 oG 37 (.load 1 false (.t 36)) 30 false,
 oG 38 (.len true (.t 37)) 30 false,
 oG 39 (.bin .gtr (.t 38) (.c (.i .i64 16))) 30 false,
 oO 40 (.pick (.t 30) (.c (.b true)) (.t 39))]
def r231_2:List AI:=[oC 6 (.b false)]
def r231_3:List AI:=[oF 41 2 5,
 oL 42 41,
 oO 43 (.un .not (.t 42))]
def r231_4:List AI:=[oF 44 3 5,
 oO 45 (.load 5 true (.t 44)),
 oO 7 (.alloc [.i .u8 0,.i .i64 0,.s [],.sl .full [],.b false]),
 oS 5 7 45]
def r231_5:List AI:=[oF 46 0 7,
 oL 47 46,
 oB 48 .eql (.t 47) (.c (.i .u8 0)),
 oM 49 48,
 oG 50 (.fad 1 (.t 7)) 49 true,
 oG 51 (.load 1 false (.t 50)) 49 true,
 oG 52 (.bin .eql (.t 51) (.c (.i .i64 0))) 49 true,
 oO 53 (.pick (.t 49) (.t 52) (.c (.b false))),
 oM 54 53,
 oG 55 (.fad 2 (.t 7)) 54 true,
 oG 56 (.load 1 false (.t 55)) 54 true,
 oG 57 (.bin .eql (.t 56) (.c (.s []))) 54 true,
 oO 58 (.pick (.t 54) (.t 57) (.c (.b false))),
 oM 59 58,
 oG 60 (.fad 3 (.t 7)) 59 true,
 oG 61 (.load 1 false (.t 60)) 59 true,
 oG 62 (.len false (.t 61)) 59 true,
 oG 63 (.bin .eql (.t 62) (.c (.i .i64 0))) 59 true,
 oO 64 (.pick (.t 59) (.t 63) (.c (.b false))),
 oM 65 64,
 oG 66 (.fad 4 (.t 7)) 65 true,
 oG 67 (.load 1 false (.t 66)) 65 true,
 oG 68 (.un .not (.t 67)) 65 true,
 oO 69 (.pick (.t 65) (.t 68) (.c (.b false))),
 oM 6 69]
def r231_6:List AI:=[oF 70 3 5,
 oF 71 0 70,
 oL 72 71]
def r231_7:List AI:=[oB 74 .eql (.t 72) (.c (.i .u8 1)),
 oM 73 74]
def r231_8:List AI:=[oB 75 .eql (.t 72) (.c (.i .u8 2)),
 oM 73 75]
def r231_9:List AI:=[oB 76 .eql (.t 72) (.c (.i .u8 4)),
 oM 73 76]
def r231_10:List AI:=[oF 77 3 5,
 oO 78 (.load 5 true (.t 77)),
 oO 79 (.call false 76 [(.t 78)]),
 oB 80 .eql (.t 79) (.c (.i .i64 0)),
 oM 6 80]
def r231_11:List AI:=[oC 6 (.b false)]
abbrev c231_0:AC:=(.cond (.t 73) (.seq (.reg 10 r231_10) .ret) .skip)
abbrev c231_1:AC:=(.seq (.seq (.reg 6 r231_6) (.block 0 (.seq (.seq (.reg 7 r231_7) (.cond (.t 73) .skip (.seq (.reg 8 r231_8) (.cond (.t 73) .skip (.reg 9 r231_9))))) c231_0))) (.seq (.reg 11 r231_11) .ret))
abbrev c231_2:AC:=(.seq (.seq (.reg 3 r231_3) (.cond (.t 43) (.seq (.reg 4 r231_4) (.seq (.reg 5 r231_5) .ret)) .skip)) c231_1)
abbrev c231_3:AC:=(.seq (.seq (.reg 1 r231_1) (.cond (.t 40) (.seq (.reg 2 r231_2) .ret) .skip)) c231_2)
abbrev b231:AC:=(.seq (.reg 0 r231_0) c231_3)
def pf231:AF:={ nt:=81,res:=[.tmp 6],body:=b231 }
abbrev H231 (Q:AE→Sl→St→Prop)(K:Bool→Prop):Prop:=∀(σ:Sl)(st:St)(res0:Bool),σ 6 = .b res0→K res0→Q .ret σ st
def T231_4 (prog:Prog)(K:Bool→Prop)(t73:Bool)(m1:Dfr):Prop:=
  (t73 = true→∃r'2:Int,Pus prog 76 [m1.arg.av] (.i .i64 r'2)∧K (decide (r'2 = 0)))∧(t73 = false→K false)
def T231_3 (prog:Prog)(K:Bool→Prop)(m1:Dfr):Prop:=
  (m1.arg.kind = 1→T231_4 prog K (decide (m1.arg.kind = 1)) m1)∧(¬(m1.arg.kind = 1)→(m1.arg.kind = 2→T231_4 prog K (decide (m1.arg.kind = 2)) m1)∧(¬(m1.arg.kind = 2)→T231_4 prog K (decide (m1.arg.kind = 4)) m1))
def T231_2 (prog:Prog)(K:Bool→Prop)(m1:Dfr):Prop:=
  ((!m1.hasArg) = true→(m1.arg.kind = 0→(m1.arg.int = 0→(m1.arg.text = ([]:List UInt8)→((m1.arg.list.length:Int) = 0→K (!m1.arg.cut))∧(¬((m1.arg.list.length:Int) = 0)→K false))∧(¬(m1.arg.text = ([]:List UInt8))→K false))∧(¬(m1.arg.int = 0)→K false))∧(¬(m1.arg.kind = 0)→K false))∧((!m1.hasArg) = false→T231_3 prog K m1)
def T231_1 (prog:Prog)(K:Bool→Prop)(frames1:Int)(m0:Img)(m1:Dfr):Prop:=
  (m1.frame < 0→K false)∧(¬(m1.frame < 0)→(m1.frame ≥ frames1→K false)∧(¬(m1.frame ≥ frames1)→(m1.func < 0→K false)∧(¬(m1.func < 0)→(m1.func ≥ (m0.funcs.length:Int)→K false)∧(¬(m1.func ≥ (m0.funcs.length:Int))→0≤m1.func∧∃c'5:Fun,m0.funcs[(m1.func).toNat]? = some c'5∧((c'5.name.length:Int) > 16→K false)∧(¬((c'5.name.length:Int) > 16)→T231_2 prog K m1)))))
def T231_0 (prog:Prog)(K:Bool→Prop)(m0:Img)(frames1:Int)(d2:Dfr):Prop:=
  T231_1 prog K frames1 m0 d2
section
variable {prog:Prog}{d:Nat}{Q:AE→Sl→St→Prop}{K:Bool→Prop}(hQ:H231 Q K){σ:Sl}{st:St}
include hQ
theorem w231_4 {t73:Bool}{m1:Dfr}{v1:Nat}(H5:σ 5 = .p (d,1) v1 0)(H73:σ 73 = .b t73)(B1:lk st.bx (d,1) = some (v1,[.i .i64 m1.frame,.i .i64 m1.func,.b m1.hasArg,.i .u8 m1.arg.kind,.i .i64 m1.arg.int,.s m1.arg.text,.sl .ext (List.map Val.row m1.arg.list),.b m1.arg.cut]))(h:T231_4 prog K t73 m1):W prog d c231_0 σ st (blockW 0 (thenW prog d (.seq (.reg 11 r231_11) .ret) Q)):=
 cb_ H73 (fun g'1=>q_ rfl (f_ H5 (l_ rfl B1 rfl rfl ((h.1 g'1).elim fun r'2 e'3=>ca_ (sc rfl rfl sn) e'3.1 (b_ rfl rfl eql_ (m_ (e_ (rt_ (hQ _ _ _ rfl e'3.2))))))))) (fun g'1=>sk_ (q_ rfl (m_ (e_ (rt_ (hQ _ _ _ rfl (h.2 g'1)))))))
theorem w231_3 {m1:Dfr}{v1:Nat}(H5:σ 5 = .p (d,1) v1 0)(B1:lk st.bx (d,1) = some (v1,[.i .i64 m1.frame,.i .i64 m1.func,.b m1.hasArg,.i .u8 m1.arg.kind,.i .i64 m1.arg.int,.s m1.arg.text,.sl .ext (List.map Val.row m1.arg.list),.b m1.arg.cut]))(h:T231_3 prog K m1):W prog d c231_1 σ st Q:=
 sq_ (q_ rfl (f_ H5 (f_ rfl (l_ rfl B1 rfl rfl (e_ (bk_ (sq_ (q_ rfl (b_ rfl rfl eql_ (m_ (e_ (cs_ rfl (fun g'1=>sk_ (w231_4 hQ H5 rfl B1 (h.1 g'1))) (fun g'1=>q_ rfl (b_ rfl rfl eql_ (m_ (e_ (cs_ rfl (fun g'2=>sk_ (w231_4 hQ H5 rfl B1 ((h.2 g'1).1 g'2))) (fun g'2=>W.reg0 rfl fun _ _=>b_ rfl rfl eql_ (m_ (e_ (w231_4 hQ H5 rfl B1 ((h.2 g'1).2 g'2))))))))))))))))))))))
theorem w231_2 {m1:Dfr}{v1:Nat}(H5:σ 5 = .p (d,1) v1 0)(B1:lk st.bx (d,1) = some (v1,[.i .i64 m1.frame,.i .i64 m1.func,.b m1.hasArg,.i .u8 m1.arg.kind,.i .i64 m1.arg.int,.s m1.arg.text,.sl .ext (List.map Val.row m1.arg.list),.b m1.arg.cut]))(h:T231_2 prog K m1):W prog d c231_2 σ st Q:=
 sq_ (q_ rfl (f_ H5 (l_ rfl B1 rfl rfl (nt_ rfl (e_ (cb_ rfl (fun g'1=>sq_ (W.reg (f_ H5 (l_ rfl (lk_other rfl B1) rfl rfl (s_alloc (so_ rfl (show lk _ (d,16386) = some (_,([.i .u8 0,.i .i64 0,.s [],.sl .full (List.map Val.row ([]:List Val)),.b false]:List AV)) from lk_here) rfl rfl rfl (e_ (q_ rfl (f_ rfl (l_ rfl lk_here rfl rfl (b_ rfl rfl eql_ (s_mvB rfl (em_ (g:=49) rfl (fun g'2=>gy_ rfl (f_ rfl (gy_ rfl (l_ rfl lk_here rfl rfl (gy_ rfl (b_ rfl rfl eql_ (pt_ rfl rfl (s_mvB rfl (em_ (g:=54) rfl (fun g'3=>gy_ rfl (f_ rfl (gy_ rfl (l_ rfl lk_here rfl rfl (gy_ rfl (b_ rfl rfl seq_ (pt_ rfl rfl (s_mvB rfl (em_ (g:=59) rfl (fun g'4=>gy_ rfl (f_ rfl (gy_ rfl (l_ rfl lk_here rfl rfl (gy_ rfl (ll_ rfl (gy_ rfl (b_ rfl rfl eql_ (pt_ rfl rfl (s_mvB rfl (em_ (g:=65) rfl (fun g'5=>gy_ rfl (f_ rfl (gy_ rfl (l_ rfl lk_here rfl rfl (gy_ rfl (nt_ rfl (pt_ rfl rfl (s_mvB rfl (e_ (rt_ (hQ _ _ _ rfl (((((h.1 g'1).1 g'2).1 g'3).1 g'4).1 g'5)))))))))))) (fun g'5=>gn_ (b:=false) rfl rfl (gn_ (b:=false) rfl rfl (gn_ (b:=false) rfl rfl (pf_ rfl rfl (s_mvB rfl (e_ (rt_ (hQ _ _ _ rfl (((((h.1 g'1).1 g'2).1 g'3).1 g'4).2 g'5)))))))))))))))))))) (fun g'4=>gn_ (b:=false) rfl rfl (gn_ (b:=false) rfl rfl (gn_ (b:=false) rfl rfl (gn_ (b:=false) rfl rfl (pf_ rfl rfl (s_mvB rfl (gn_ (b:=false) rfl rfl (gn_ (b:=false) rfl rfl (gn_ (b:=false) rfl rfl (pf_ rfl rfl (s_mvB rfl (e_ (rt_ (hQ _ _ _ rfl ((((h.1 g'1).1 g'2).1 g'3).2 g'4)))))))))))))))))))))))) (fun g'3=>gn_ (b:=false) rfl rfl (gn_ (b:=false) rfl rfl (gn_ (b:=false) rfl rfl (pf_ rfl rfl (s_mvB rfl (gn_ (b:=false) rfl rfl (gn_ (b:=false) rfl rfl (gn_ (b:=false) rfl rfl (gn_ (b:=false) rfl rfl (pf_ rfl rfl (s_mvB rfl (gn_ (b:=false) rfl rfl (gn_ (b:=false) rfl rfl (gn_ (b:=false) rfl rfl (pf_ rfl rfl (s_mvB rfl (e_ (rt_ (hQ _ _ _ rfl (((h.1 g'1).1 g'2).2 g'3))))))))))))))))))))))))))))) (fun g'2=>gn_ (b:=false) rfl rfl (gn_ (b:=false) rfl rfl (gn_ (b:=false) rfl rfl (pf_ rfl rfl (s_mvB rfl (gn_ (b:=false) rfl rfl (gn_ (b:=false) rfl rfl (gn_ (b:=false) rfl rfl (pf_ rfl rfl (s_mvB rfl (gn_ (b:=false) rfl rfl (gn_ (b:=false) rfl rfl (gn_ (b:=false) rfl rfl (gn_ (b:=false) rfl rfl (pf_ rfl rfl (s_mvB rfl (gn_ (b:=false) rfl rfl (gn_ (b:=false) rfl rfl (gn_ (b:=false) rfl rfl (pf_ rfl rfl (s_mvB rfl (e_ (rt_ (hQ _ _ _ rfl ((h.1 g'1).2 g'2)))))))))))))))))))))))))))))))))))))) (fun g'1=>sk_ (w231_3 hQ H5 B1 (h.2 g'1)))))))))
theorem w231_1 {frames1:Int}{m0:Img}{m1:Dfr}{v0:Nat}{v1:Nat}(H1:σ 1 = .i .i64 frames1)(H3:σ 3 = .p (d,0) v0 0)(H5:σ 5 = .p (d,1) v1 0)(B0:lk st.bx (d,0) = some (v0,[.sl .ext (List.map Typ.row m0.types),.sl .ext (List.map rowS m0.texts),.sl .ext (List.map Fun.row m0.funcs)]))(B1:lk st.bx (d,1) = some (v1,[.i .i64 m1.frame,.i .i64 m1.func,.b m1.hasArg,.i .u8 m1.arg.kind,.i .i64 m1.arg.int,.s m1.arg.text,.sl .ext (List.map Val.row m1.arg.list),.b m1.arg.cut]))(h:T231_1 prog K frames1 m0 m1):W prog d c231_3 σ st Q:=
 sq_ (q_ rfl (f_ H5 (l_ rfl B1 rfl rfl (b_ rfl rfl lss_ (s_mvB rfl (em_ (g:=11) rfl (fun g'1=>gn_ (b:=true) rfl rfl (gn_ (b:=true) rfl rfl (gn_ (b:=true) rfl rfl (gn_ (b:=true) rfl rfl (pt_ rfl rfl (s_mvB rfl (gn_ (b:=true) rfl rfl (gn_ (b:=true) rfl rfl (gn_ (b:=true) rfl rfl (pt_ rfl rfl (s_mvB rfl (gn_ (b:=true) rfl rfl (gn_ (b:=true) rfl rfl (gn_ (b:=true) rfl rfl (gn_ (b:=true) rfl rfl (gn_ (b:=true) rfl rfl (gn_ (b:=true) rfl rfl (pt_ rfl rfl (s_mvB rfl (gn_ (b:=true) rfl rfl (gn_ (b:=true) rfl rfl (gn_ (b:=true) rfl rfl (gn_ (b:=true) rfl rfl (gn_ (b:=true) rfl rfl (gn_ (b:=true) rfl rfl (gn_ (b:=true) rfl rfl (gn_ (b:=true) rfl rfl (gn_ (b:=true) rfl rfl (pt_ rfl rfl (e_ (ct_ rfl (q_ rfl (m_ (e_ (rt_ (hQ _ _ _ rfl (h.1 g'1))))))))))))))))))))))))))))))))))))) (fun g'1=>gy_ rfl (f_ H5 (gy_ rfl (l_ rfl B1 rfl rfl (gy_ rfl (s_mvI H1 (gy_ rfl (b_ rfl rfl geq_ (pf_ rfl rfl (s_mvB rfl (em_ (g:=17) rfl (fun g'2=>gn_ (b:=true) rfl rfl (gn_ (b:=true) rfl rfl (gn_ (b:=true) rfl rfl (pt_ rfl rfl (s_mvB rfl (gn_ (b:=true) rfl rfl (gn_ (b:=true) rfl rfl (gn_ (b:=true) rfl rfl (gn_ (b:=true) rfl rfl (gn_ (b:=true) rfl rfl (gn_ (b:=true) rfl rfl (pt_ rfl rfl (s_mvB rfl (gn_ (b:=true) rfl rfl (gn_ (b:=true) rfl rfl (gn_ (b:=true) rfl rfl (gn_ (b:=true) rfl rfl (gn_ (b:=true) rfl rfl (gn_ (b:=true) rfl rfl (gn_ (b:=true) rfl rfl (gn_ (b:=true) rfl rfl (gn_ (b:=true) rfl rfl (pt_ rfl rfl (e_ (ct_ rfl (q_ rfl (m_ (e_ (rt_ (hQ _ _ _ rfl ((h.2 g'1).1 g'2))))))))))))))))))))))))))))))) (fun g'2=>gy_ rfl (f_ H5 (gy_ rfl (l_ rfl B1 rfl rfl (gy_ rfl (b_ rfl rfl lss_ (pf_ rfl rfl (s_mvB rfl (em_ (g:=22) rfl (fun g'3=>gn_ (b:=true) rfl rfl (gn_ (b:=true) rfl rfl (gn_ (b:=true) rfl rfl (gn_ (b:=true) rfl rfl (gn_ (b:=true) rfl rfl (gn_ (b:=true) rfl rfl (pt_ rfl rfl (s_mvB rfl (gn_ (b:=true) rfl rfl (gn_ (b:=true) rfl rfl (gn_ (b:=true) rfl rfl (gn_ (b:=true) rfl rfl (gn_ (b:=true) rfl rfl (gn_ (b:=true) rfl rfl (gn_ (b:=true) rfl rfl (gn_ (b:=true) rfl rfl (gn_ (b:=true) rfl rfl (pt_ rfl rfl (e_ (ct_ rfl (q_ rfl (m_ (e_ (rt_ (hQ _ _ _ rfl (((h.2 g'1).2 g'2).1 g'3)))))))))))))))))))))))))) (fun g'3=>gy_ rfl (f_ H5 (gy_ rfl (l_ rfl B1 rfl rfl (gy_ rfl (f_ H3 (gy_ rfl (l_ rfl B0 rfl rfl (gy_ rfl (ll_ rfl (gy_ rfl (b_ rfl rfl geq_ (pf_ rfl rfl (s_mvB rfl (em_ (g:=30) rfl (fun g'4=>gn_ (b:=true) rfl rfl (gn_ (b:=true) rfl rfl (gn_ (b:=true) rfl rfl (gn_ (b:=true) rfl rfl (gn_ (b:=true) rfl rfl (gn_ (b:=true) rfl rfl (gn_ (b:=true) rfl rfl (gn_ (b:=true) rfl rfl (gn_ (b:=true) rfl rfl (pt_ rfl rfl (e_ (ct_ rfl (q_ rfl (m_ (e_ (rt_ (hQ _ _ _ rfl ((((h.2 g'1).2 g'2).2 g'3).1 g'4)))))))))))))))))) (fun g'4=>gy_ rfl (f_ H3 (gy_ rfl (l_ rfl B0 rfl rfl (gy_ rfl (f_ H5 (gy_ rfl (l_ rfl B1 rfl rfl (gy_ rfl (((((h.2 g'1).2 g'2).2 g'3).2 g'4).2.elim fun c'5 e'6=>ia_ rfl rfl ((((h.2 g'1).2 g'2).2 g'3).2 g'4).1 e'6.1 (Fun.row_eq c'5) rfl (gy_ rfl (ff_ rfl (gy_ rfl (lf_ rfl rfl rfl (gy_ rfl (ln_ rfl (gy_ rfl (b_ rfl rfl gtr_ (pf_ rfl rfl (e_ (cs_ rfl (fun g'7=>q_ rfl (m_ (e_ (rt_ (hQ _ _ _ rfl (e'6.2.1 g'7)))))) (fun g'7=>sk_ (w231_2 hQ H5 B1 (e'6.2.2 g'7)))))))))))))))))))))))))))))))))))))))))))))))))))))))))))))))))
theorem w231_0 {m0:Img}{frames1:Int}{d2:Dfr}(H0:σ 0 = m0.av)(H1:σ 1 = .i .i64 frames1)(H2:σ 2 = d2.av)(h:T231_0 prog K m0 frames1 d2):W prog d (.seq (.reg 0 r231_0) c231_3) σ st Q:=
 q_ rfl (s_box H0 rfl (s_box H2 rfl (m_ (e_ (w231_1 hQ H1 rfl rfl (lk_other rfl lk_here) lk_here h)))))
end
theorem p231 {prog:Prog}(hf:prog.fn 231 = some pf231){m0:Img}{frames1:Int}{d2:Dfr}{K:Bool→Prop}(h:T231_0 prog K m0 frames1 d2) :∃res0:Bool,K res0∧Pus prog 231 [m0.av,.i .i64 frames1,d2.av] (.b res0):=by
  obtain ⟨v,hv,res0,hk,rfl⟩:=Pus.of (K:=fun v=>∃res0:Bool,K res0∧v = .b res0) hf rfl (w231_0 (σ:=sl0 [m0.av,.i .i64 frames1,d2.av]) (fun σ st   res0 H6 hk=>⟨.b res0,by simp only [pf231,ares,aresL,H6,ares1,Option.map_some],_,rfl,res0,hk,rfl⟩) rfl rfl rfl h)
  exact ⟨res0,hk,hv⟩
def r219_0:List AI:=[oO 2 (.boxf 3 (.t 0)),
 oO 3 (.boxf 5 (.t 1)),
 oC 4 (.b false)]
def r219_1:List AI:=[oF 8 2 3,
 oO 9 (.ldf 1 false (.t 8)),
 oO 10 (.len false (.t 9)),
 oF 11 3 3,
 oO 12 (.ldf 1 false (.t 11)),
 oO 13 (.len false (.t 12)),
 oF 14 4 3,
 oO 15 (.ldf 1 false (.t 14)),
 oO 16 (.len false (.t 15)),
 oO 5 (.alloc [.i .i64 0]),
 oS 1 5 10,
 oM 6 13,
 oM 7 16]
def r219_2:List AI:=[oF 17 0 3,
 oL 18 17]
def r219_3:List AI:=[oB 20 .eql (.t 18) (.c (.i .u8 3)),
 oM 19 20]
def r219_4:List AI:=[oB 22 .eql (.t 18) (.c (.i .u8 1)),
 oM 21 22]
def r219_5:List AI:=[oB 24 .eql (.t 18) (.c (.i .u8 2)),
 oM 23 24]
def r219_6:List AI:=[oL 25 5,
 oM 26 6,
 oB 27 .add (.t 25) (.t 26),
 oM 28 7,
 oB 29 .add (.t 27) (.t 28),
 oB 30 .eql (.t 29) (.c (.i .i64 0)),
 oM 31 30,
 oG 32 (.fad 1 (.t 3)) 31 true,
 oG 33 (.load 1 false (.t 32)) 31 true,
 oG 34 (.bin .eql (.t 33) (.c (.i .i64 0))) 31 true,
 oO 35 (.pick (.t 31) (.t 34) (.c (.b false))),
 oM 4 35]
def r219_7:List AI:=[oF 36 1 3,
 oL 37 36,
 oB 38 .neq (.t 37) (.c (.i .i64 0))]
def r219_8:List AI:=[oC 4 (.b false)]
def r219_9:List AI:=[oL 39 5,
 oB 40 .lss (.t 39) (.c (.i .i64 1)),
 oM 41 40,
 oG 42 (.load 1 false (.t 5)) 41 false,
 oG 43 (.bin .gtr (.t 42) (.c (.i .i64 170))) 41 false,
 oO 44 (.pick (.t 41) (.c (.b true)) (.t 43)),
 oM 45 44,
 oG 46 (.mv (.t 6)) 45 false,
 oG 47 (.bin .gtr (.t 46) (.c (.i .i64 410))) 45 false,
 oO 48 (.pick (.t 45) (.c (.b true)) (.t 47)),
 oM 49 48,
 oG 50 (.mv (.t 7)) 49 false,
 oG 51 (.bin .gtr (.t 50) (.c (.i .i64 410))) 49 false,
 oO 52 (.pick (.t 49) (.c (.b true)) (.t 51))]
def r219_10:List AI:=[oC 4 (.b false)]
def r219_11:List AI:=[oF 53 2 3,
 oL 54 53,
 oO 55 (.mkfn 228 [(.t 2)]),
 oO 56 (.call true 227 [(.t 54),(.t 55)]),
 oO 57 (.un .not (.t 56)),
 oM 58 57,
 oG 59 (.fad 3 (.t 3)) 58 true,
 oG 60 (.load 1 false (.t 59)) 58 true,
 oG 61 (.mkfz 230 [(.t 2)] (.t 5) []) 58 true,
 oG 62 (.call true 229 [(.t 60),(.t 61)]) 58 true,
 oG 63 (.un .not (.t 62)) 58 true,
 oO 64 (.pick (.t 58) (.t 63) (.c (.b false))),
 oM 65 64,
 oG 66 (.fad 4 (.t 3)) 65 true,
 oG 67 (.load 1 false (.t 66)) 65 true,
 oG 68 (.call true 232 [(.t 67),(.c (.fn 233 []))]) 65 true,
 oG 69 (.un .not (.t 68)) 65 true,
 oO 70 (.pick (.t 65) (.t 69) (.c (.b false))),
 oM 4 70]
def r219_12:List AI:=[oC 4 (.b false)]
abbrev c219_0:AC:=(.seq (.reg 7 r219_7) (.cond (.t 38) (.seq (.reg 8 r219_8) .ret) .skip))
abbrev c219_1:AC:=(.seq (.reg 11 r219_11) .ret)
abbrev c219_2:AC:=(.seq (.seq (.seq (.reg 9 r219_9) (.cond (.t 52) (.seq (.reg 10 r219_10) .ret) .skip)) c219_1) (.exit 0))
abbrev c219_3:AC:=(.seq (.reg 12 r219_12) .ret)
abbrev c219_4:AC:=(.seq (.reg 1 r219_1) (.seq (.seq (.reg 2 r219_2) (.block 0 (.seq (.block 3 (.seq (.block 2 (.seq (.block 1 (.seq (.seq (.seq (.reg 3 r219_3) (.cond (.t 19) (.exit 1) .skip)) (.seq (.seq (.reg 4 r219_4) (.cond (.t 21) (.exit 2) .skip)) (.seq (.reg 5 r219_5) (.cond (.t 23) (.exit 3) .skip)))) (.exit 0))) (.seq (.seq (.reg 6 r219_6) .ret) (.exit 0)))) c219_0)) c219_2))) c219_3))
abbrev b219:AC:=(.seq (.reg 0 r219_0) c219_4)
def pf219:AF:={ nt:=71,res:=[.tmp 4],fz:=[2,3,1000005],body:=b219 }
abbrev H219 (Q:AE→Sl→St→Prop)(K:Bool→Prop):Prop:=∀(σ:Sl)(st:St)(res0:Bool),σ 4 = .b res0→K res0→Q .ret σ st
def T219_4 (prog:Prog)(K:Bool→Prop)(m2_0:List Typ)(m2_1:List (List UInt8))(m2_2:List Fun)(x3_0:Int)(x3_1:Int)(x3_2:List Frm)(x3_3:List Dfr)(x3_4:List Pan)(m4105:Int):Prop:=
  ∃r'1:Bool,(∀q'3:Own,PuN prog 227 [.sl q'3 (List.map Frm.row x3_2),.fn 228 [.fp [.sl .ext (List.map Typ.row m2_0),.sl .ext (List.map rowS m2_1),.sl .ext (List.map Fun.row m2_2)]]] (fun r=>r = .b r'1))∧((!r'1) = true→∃r'8:Bool,(∀q'10:Own,PuN prog 229 [.sl q'10 (List.map Dfr.row x3_3),.fn 230 [.fp [.sl .ext (List.map Typ.row m2_0),.sl .ext (List.map rowS m2_1),.sl .ext (List.map Fun.row m2_2)],.fp [.i .i64 m4105]]] (fun r=>r = .b r'8))∧((!r'8) = true→∃r'15:Bool,(∀q'17:Own,PuN prog 232 [.sl q'17 (List.map Pan.row x3_4),.fn 233 []] (fun r=>r = .b r'15))∧K (!r'15))∧((!r'8) = false→K false))∧((!r'1) = false→K false)
def T219_3 (prog:Prog)(K:Bool→Prop)(m2_0:List Typ)(m2_1:List (List UInt8))(m2_2:List Fun)(x3_0:Int)(x3_1:Int)(x3_2:List Frm)(x3_3:List Dfr)(x3_4:List Pan)(d6:Int)(p7:Int)(m4105:Int):Prop:=
  (m4105 < 1→K false)∧(¬(m4105 < 1)→(m4105 > 170→K false)∧(¬(m4105 > 170)→(d6 > 410→K false)∧(¬(d6 > 410)→(p7 > 410→K false)∧(¬(p7 > 410)→T219_4 prog K m2_0 m2_1 m2_2 x3_0 x3_1 x3_2 x3_3 x3_4 m4105))))
def T219_2 (prog:Prog)(K:Bool→Prop)(m2_0:List Typ)(m2_1:List (List UInt8))(m2_2:List Fun)(x3_0:Int)(x3_1:Int)(x3_2:List Frm)(x3_3:List Dfr)(x3_4:List Pan)(d6:Int)(p7:Int)(m4105:Int):Prop:=
  (x3_1≠0→K false)∧(¬(x3_1≠0)→T219_3 prog K m2_0 m2_1 m2_2 x3_0 x3_1 x3_2 x3_3 x3_4 d6 p7 m4105)
def T219_5 (prog:Prog)(K:Bool→Prop) :Prop:=
  K false
def T219_1 (prog:Prog)(K:Bool→Prop)(m2_0:List Typ)(m2_1:List (List UInt8))(m2_2:List Fun)(x3_0:Int)(x3_1:Int)(x3_2:List Frm)(x3_3:List Dfr)(x3_4:List Pan):Prop:=
  (x3_0 = 3→((IntKind.i64.wrap ((IntKind.i64.wrap ((x3_2.length:Int) + (x3_3.length:Int))) + (x3_4.length:Int))) = 0→K (decide (x3_1 = 0)))∧(¬((IntKind.i64.wrap ((IntKind.i64.wrap ((x3_2.length:Int) + (x3_3.length:Int))) + (x3_4.length:Int))) = 0)→K false))∧(¬(x3_0 = 3)→(x3_0 = 1→T219_2 prog K m2_0 m2_1 m2_2 x3_0 x3_1 x3_2 x3_3 x3_4 (x3_3.length:Int) (x3_4.length:Int) (x3_2.length:Int))∧(¬(x3_0 = 1)→(x3_0 = 2→T219_3 prog K m2_0 m2_1 m2_2 x3_0 x3_1 x3_2 x3_3 x3_4 (x3_3.length:Int) (x3_4.length:Int) (x3_2.length:Int))∧(¬(x3_0 = 2)→T219_5 prog K )))
def T219_0 (prog:Prog)(K:Bool→Prop)(m0:Img)(x1:Rou):Prop:=
  T219_1 prog K m0.types m0.texts m0.funcs x1.status x1.key x1.frames x1.defers x1.panics
section
variable {prog:Prog}{d:Nat}{Q:AE→Sl→St→Prop}{K:Bool→Prop}(hQ:H219 Q K){σ:Sl}{st:St}
include hQ
theorem w219_4 {m2_0:List Typ}{m2_1:List (List UInt8)}{m2_2:List Fun}{x3_0 x3_1:Int}{x3_2:List Frm}{x3_3:List Dfr}{x3_4:List Pan}{m4105:Int}{v4105:Nat}(H2:σ 2 = .fp [.sl .ext (List.map Typ.row m2_0),.sl .ext (List.map rowS m2_1),.sl .ext (List.map Fun.row m2_2)])(H3:σ 3 = .fp [.i .u8 x3_0,.i .i64 x3_1,.sl .ext (List.map Frm.row x3_2),.sl .ext (List.map Dfr.row x3_3),.sl .ext (List.map Pan.row x3_4)])(H5:σ 5 = .p (d,4105) v4105 0)(B4105:lk st.bx (d,4105) = some (v4105,[.i .i64 m4105]))(h:T219_4 prog K m2_0 m2_1 m2_2 x3_0 x3_1 x3_2 x3_3 x3_4 m4105):W prog d c219_1 σ st (thenW prog d (.exit 0) (blockW 0 (thenW prog d c219_3 Q))):=
 q_ rfl (ff_ H3 (lf_ rfl rfl rfl (s_mkfn (sec H2 sen) (h.elim fun r'1 e'4=>s_callN (sec rfl (sec rfl sen)) (e'4.1 _) (fun st'5 hf'6=>nt_ rfl (s_mvB rfl (eb_ (g:=58) rfl (fun g'7=>gy_ rfl (ff_ H3 (gy_ rfl (lf_ rfl rfl rfl (gy_ rfl (s_mkfz (evs_map.symm.trans (sec H2 sen)) H5 (evs_map.symm.trans sen) ((hf'6.1 (d,4105) (Nat.lt_succ_self d) key_dn).trans B4105) rfl (gy_ rfl ((e'4.2.1 g'7).elim fun r'8 e'11=>s_callN (sec rfl (sec rfl sen)) (e'11.1 _) (fun st'12 hf'13=>gy_ rfl (nt_ rfl (pt_ rfl rfl (s_mvB rfl (eb_ (g:=65) rfl (fun g'14=>gy_ rfl (ff_ H3 (gy_ rfl (lf_ rfl rfl rfl (gy_ rfl ((e'11.2.1 g'14).elim fun r'15 e'18=>s_callN (sec rfl (sec rfl sen)) (e'18.1 _) (fun st'19 hf'20=>gy_ rfl (nt_ rfl (pt_ rfl rfl (s_mvB rfl (e_ (rt_ (hQ _ _ _ rfl e'18.2))))))))))))) (fun g'14=>gn_ (b:=false) rfl rfl (gn_ (b:=false) rfl rfl (gn_ (b:=false) rfl rfl (gn_ (b:=false) rfl rfl (pf_ rfl rfl (s_mvB rfl (e_ (rt_ (hQ _ _ _ rfl (e'11.2.2 g'14))))))))))))))))))))))) (fun g'7=>gn_ (b:=false) rfl rfl (gn_ (b:=false) rfl rfl (gn_ (b:=false) rfl rfl (gn_ (b:=false) rfl rfl (gn_ (b:=false) rfl rfl (pf_ rfl rfl (s_mvB rfl (gn_ (b:=false) rfl rfl (gn_ (b:=false) rfl rfl (gn_ (b:=false) rfl rfl (gn_ (b:=false) rfl rfl (pf_ rfl rfl (s_mvB rfl (e_ (rt_ (hQ _ _ _ rfl (e'4.2.2 g'7))))))))))))))))))))))))
theorem w219_3 {m2_0:List Typ}{m2_1:List (List UInt8)}{m2_2:List Fun}{x3_0 x3_1:Int}{x3_2:List Frm}{x3_3:List Dfr}{x3_4:List Pan}{d6 p7 m4105:Int}{v4105:Nat}(H2:σ 2 = .fp [.sl .ext (List.map Typ.row m2_0),.sl .ext (List.map rowS m2_1),.sl .ext (List.map Fun.row m2_2)])(H3:σ 3 = .fp [.i .u8 x3_0,.i .i64 x3_1,.sl .ext (List.map Frm.row x3_2),.sl .ext (List.map Dfr.row x3_3),.sl .ext (List.map Pan.row x3_4)])(H5:σ 5 = .p (d,4105) v4105 0)(H6:σ 6 = .i .i64 d6)(H7:σ 7 = .i .i64 p7)(B4105:lk st.bx (d,4105) = some (v4105,[.i .i64 m4105]))(h:T219_3 prog K m2_0 m2_1 m2_2 x3_0 x3_1 x3_2 x3_3 x3_4 d6 p7 m4105):W prog d c219_2 σ st (blockW 0 (thenW prog d c219_3 Q)):=
 sq_ (sq_ (q_ rfl (l_ H5 B4105 rfl rfl (b_ rfl rfl lss_ (s_mvB rfl (em_ (g:=41) rfl (fun g'1=>gn_ (b:=true) rfl rfl (gn_ (b:=true) rfl rfl (pt_ rfl rfl (s_mvB rfl (gn_ (b:=true) rfl rfl (gn_ (b:=true) rfl rfl (pt_ rfl rfl (s_mvB rfl (gn_ (b:=true) rfl rfl (gn_ (b:=true) rfl rfl (pt_ rfl rfl (e_ (ct_ rfl (q_ rfl (m_ (e_ (rt_ (hQ _ _ _ rfl (h.1 g'1))))))))))))))))))) (fun g'1=>gy_ rfl (l_ H5 B4105 rfl rfl (gy_ rfl (b_ rfl rfl gtr_ (pf_ rfl rfl (s_mvB rfl (em_ (g:=45) rfl (fun g'2=>gn_ (b:=true) rfl rfl (gn_ (b:=true) rfl rfl (pt_ rfl rfl (s_mvB rfl (gn_ (b:=true) rfl rfl (gn_ (b:=true) rfl rfl (pt_ rfl rfl (e_ (ct_ rfl (q_ rfl (m_ (e_ (rt_ (hQ _ _ _ rfl ((h.2 g'1).1 g'2))))))))))))))) (fun g'2=>gy_ rfl (s_mvI H6 (gy_ rfl (b_ rfl rfl gtr_ (pf_ rfl rfl (s_mvB rfl (em_ (g:=49) rfl (fun g'3=>gn_ (b:=true) rfl rfl (gn_ (b:=true) rfl rfl (pt_ rfl rfl (e_ (ct_ rfl (q_ rfl (m_ (e_ (rt_ (hQ _ _ _ rfl (((h.2 g'1).2 g'2).1 g'3))))))))))) (fun g'3=>gy_ rfl (s_mvI H7 (gy_ rfl (b_ rfl rfl gtr_ (pf_ rfl rfl (e_ (cs_ rfl (fun g'4=>q_ rfl (m_ (e_ (rt_ (hQ _ _ _ rfl ((((h.2 g'1).2 g'2).2 g'3).1 g'4)))))) (fun g'4=>sk_ (w219_4 hQ H2 H3 H5 B4105 ((((h.2 g'1).2 g'2).2 g'3).2 g'4))))))))))))))))))))))))))))))
theorem w219_2 {m2_0:List Typ}{m2_1:List (List UInt8)}{m2_2:List Fun}{x3_0 x3_1:Int}{x3_2:List Frm}{x3_3:List Dfr}{x3_4:List Pan}{d6 p7 m4105:Int}{v4105:Nat}(H2:σ 2 = .fp [.sl .ext (List.map Typ.row m2_0),.sl .ext (List.map rowS m2_1),.sl .ext (List.map Fun.row m2_2)])(H3:σ 3 = .fp [.i .u8 x3_0,.i .i64 x3_1,.sl .ext (List.map Frm.row x3_2),.sl .ext (List.map Dfr.row x3_3),.sl .ext (List.map Pan.row x3_4)])(H5:σ 5 = .p (d,4105) v4105 0)(H6:σ 6 = .i .i64 d6)(H7:σ 7 = .i .i64 p7)(B4105:lk st.bx (d,4105) = some (v4105,[.i .i64 m4105]))(h:T219_2 prog K m2_0 m2_1 m2_2 x3_0 x3_1 x3_2 x3_3 x3_4 d6 p7 m4105):W prog d c219_0 σ st (blockW 3 (thenW prog d c219_2 (blockW 0 (thenW prog d c219_3 Q)))):=
 q_ rfl (ff_ H3 (lf_ rfl rfl rfl (b_ rfl rfl neq_ (e_ (cs_ rfl (fun g'1=>q_ rfl (m_ (e_ (rt_ (hQ _ _ _ rfl (h.1 g'1)))))) (fun g'1=>sk_ (w219_3 hQ H2 H3 H5 H6 H7 B4105 (h.2 g'1))))))))
theorem w219_5 (h:T219_5 prog K ):W prog d c219_3 σ st Q:=
 q_ rfl (m_ (e_ (rt_ (hQ _ _ _ rfl h))))
theorem w219_1 {m2_0:List Typ}{m2_1:List (List UInt8)}{m2_2:List Fun}{x3_0 x3_1:Int}{x3_2:List Frm}{x3_3:List Dfr}{x3_4:List Pan}(H2:σ 2 = .fp [.sl .ext (List.map Typ.row m2_0),.sl .ext (List.map rowS m2_1),.sl .ext (List.map Fun.row m2_2)])(H3:σ 3 = .fp [.i .u8 x3_0,.i .i64 x3_1,.sl .ext (List.map Frm.row x3_2),.sl .ext (List.map Dfr.row x3_3),.sl .ext (List.map Pan.row x3_4)])(h:T219_1 prog K m2_0 m2_1 m2_2 x3_0 x3_1 x3_2 x3_3 x3_4):W prog d c219_4 σ st Q:=
 sq_ (W.reg (ff_ H3 (s_ldf rfl rfl rfl (ll_ rfl (ff_ H3 (s_ldf rfl rfl rfl (ll_ rfl (ff_ H3 (s_ldf rfl rfl rfl (ll_ rfl (s_alloc (so_ rfl (show lk _ (d,4105) = some (_,([.i .i64 0]:List AV)) from lk_here) rfl rfl rfl (m_ (m_ (e_ (sq_ (q_ rfl (ff_ H3 (lf_ rfl rfl rfl (e_ (bk_ (sq_ (bk_ (sq_ (bk_ (sq_ (bk_ (sq_ (sq_ (q_ rfl (b_ rfl rfl eql_ (m_ (e_ (cs_ rfl (fun g'1=>ex_ (sq_ (q_ rfl (l_ rfl lk_here rfl rfl (s_mvI rfl (b_ rfl rfl add_ (s_mvI rfl (b_ rfl rfl add_ (b_ rfl rfl eql_ (s_mvB rfl (em_ (g:=31) rfl (fun g'2=>gy_ rfl (ff_ H3 (gy_ rfl (lf_ rfl rfl rfl (gy_ rfl (b_ rfl rfl eql_ (pt_ rfl rfl (s_mvB rfl (e_ (rt_ (hQ _ _ _ rfl ((h.1 g'1).1 g'2)))))))))))) (fun g'2=>gn_ (b:=false) rfl rfl (gn_ (b:=false) rfl rfl (gn_ (b:=false) rfl rfl (pf_ rfl rfl (s_mvB rfl (e_ (rt_ (hQ _ _ _ rfl ((h.1 g'1).2 g'2)))))))))))))))))))) (fun g'1=>sk_ (sq_ (q_ rfl (b_ rfl rfl eql_ (m_ (e_ (cs_ rfl (fun g'3=>ex_ (w219_2 hQ H2 H3 rfl rfl rfl lk_here ((h.2 g'1).1 g'3))) (fun g'3=>sk_ (q_ rfl (b_ rfl rfl eql_ (m_ (e_ (cs_ rfl (fun g'4=>ex_ (w219_3 hQ H2 H3 rfl rfl rfl lk_here (((h.2 g'1).2 g'3).1 g'4))) (fun g'4=>sk_ (ex_ (w219_5 hQ (((h.2 g'1).2 g'3).2 g'4)))))))))))))))))))))))))))))))))))))))))))))))))))
theorem w219_0 {m0:Img}{x1:Rou}(H0:σ 0 = m0.av)(H1:σ 1 = x1.av)(h:T219_0 prog K m0 x1):W prog d (.seq (.reg 0 r219_0) c219_4) σ st Q:=
 q_ rfl (s_boxf H0 rfl rfl (s_boxf H1 rfl rfl (m_ (e_ (w219_1 hQ rfl rfl h)))))
end
theorem p219 {prog:Prog}(hf:prog.fn 219 = some pf219){m0:Img}{x1:Rou}{K:Bool→Prop}(h:T219_0 prog K m0 x1) :∃res0:Bool,K res0∧Pus prog 219 [m0.av,x1.av] (.b res0):=by
  obtain ⟨v,hv,res0,hk,rfl⟩:=Pus.of (K:=fun v=>∃res0:Bool,K res0∧v = .b res0) hf rfl (w219_0 (σ:=sl0 [m0.av,x1.av]) (fun σ st   res0 H4 hk=>⟨.b res0,by simp only [pf219,ares,aresL,H4,ares1,Option.map_some],_,rfl,res0,hk,rfl⟩) rfl rfl h)
  exact ⟨res0,hk,hv⟩
def r225_0:List AI:=[oO 2 (.box 5 (.t 0)),
 oC 3 (.b false)]
def r225_1:List AI:=[oO 4 (.load 3 true (.t 1)),
 oO 5 (.load 5 true (.t 2)),
 oO 6 (.call false 219 [(.t 4),(.t 5)]),
 oO 7 (.un .not (.t 6)),
 oM 3 7]
abbrev b225:AC:=(.seq (.reg 0 r225_0) (.seq (.reg 1 r225_1) .ret))
def pf225:AF:={ nt:=8,res:=[.tmp 3],body:=b225 }
abbrev H225 (d:Nat)(st0:St)(Q:AE→Sl→St→Prop)(K:Bool→Prop):Prop:=∀(σ:Sl)(st:St)(res0:Bool),σ 3 = .b res0→Fr d (d,0) st0.bx st0.ow st.bx st.ow→K res0→Q .ret σ st
def T225_0 (prog:Prog)(K:Bool→Prop)(x0:Rou)(t1:Img):Prop:=
  ∃r'1:Bool,Pus prog 219 [t1.av,x0.av] (.b r'1)∧K (!r'1)
section
variable {prog:Prog}{d:Nat}{Q:AE→Sl→St→Prop}{K:Bool→Prop}{st0:St}(hQ:H225 d st0 Q K){σ:Sl}{st:St}
include hQ
theorem w225_0 {x0:Rou}{t1:Img}(H0:σ 0 = x0.av)(H1:σ 1 = .fp [.sl .ext (List.map Typ.row t1.types),.sl .ext (List.map rowS t1.texts),.sl .ext (List.map Fun.row t1.funcs)])(FR:Fr d (d,0) st0.bx st0.ow st.bx st.ow)(h:T225_0 prog K x0 t1):W prog d (.seq (.reg 0 r225_0) (.seq (.reg 1 r225_1) .ret)) σ st Q:=
 q_ rfl (s_box H0 rfl (m_ (e_ (q_ rfl (lf_ H1 rfl rfl (l_ rfl lk_here rfl rfl (h.elim fun r'1 e'2=>ca_ (sc rfl rfl (sc rfl rfl sn)) e'2.1 (nt_ rfl (m_ (e_ (rt_ (hQ _ _ _ rfl (Fr.box FR) e'2.2))))))))))))
end
theorem p225 {prog:Prog}(hf:prog.fn 225 = some pf225){x0:Rou}{t1:Img}{K:Bool→Prop}(h:T225_0 prog K x0 t1):PuN prog 225 [x0.av,.fp [.sl .ext (List.map Typ.row t1.types),.sl .ext (List.map rowS t1.texts),.sl .ext (List.map Fun.row t1.funcs)]] (fun r=>∃res0:Bool,(r = .b res0)∧K res0):=
  PuN.of hf rfl fun d st=>w225_0 (st0:=st) (Q:=fun e σ st'=>(e = .normal∨e = .ret)∧∃r,ares σ st' pf225.res = some r∧_∧Fr d (d,0) st.bx st.ow st'.bx st'.ow) (fun σ st'   res0 H3 hf hk=>⟨.inr rfl,.b res0,by simp only [pf225,ares,aresL,H3,ares1,Option.map_some,H3],⟨res0,rfl,hk⟩,hf⟩) (σ:=sl0 [x0.av,.fp [.sl .ext (List.map Typ.row t1.types),.sl .ext (List.map rowS t1.texts),.sl .ext (List.map Fun.row t1.funcs)]]) rfl rfl Fr.refl h
def r213_0:List AI:=[oO 2 (.boxf 3 (.t 0)),
 oO 3 (.box 4 (.t 1)),
 oC 4 (.i .i64 0)]
def r213_1:List AI:=[oF 6 3 3,
 oL 7 6,
 oO 8 (.len false (.t 7)),
 oM 5 8]
def r213_2:List AI:=[oF 9 0 3,
 oL 10 9,
 oB 11 .lss (.t 10) (.c (.i .u8 1)),
 oM 12 11,
 oG 13 (.fad 0 (.t 3)) 12 false,
 oG 14 (.load 1 false (.t 13)) 12 false,
 oG 15 (.bin .gtr (.t 14) (.c (.i .u8 8))) 12 false,
 oO 16 (.pick (.t 12) (.c (.b true)) (.t 15)),
 oM 17 16,
 oG 18 (.fad 2 (.t 3)) 17 false,
 oG 19 (.load 1 false (.t 18)) 17 false,
 oG 20 (.bin .lss (.t 19) (.c (.i .i64 0))) 17 false,
 oO 21 (.pick (.t 17) (.c (.b true)) (.t 20)),
 oM 22 21,
 oG 23 (.fad 2 (.t 3)) 22 false,
 oG 24 (.load 1 false (.t 23)) 22 false,
 oG 25 (.bin .gtr (.t 24) (.c (.i .i64 5000))) 22 false,
 oO 26 (.pick (.t 22) (.c (.b true)) (.t 25)),
 oM 27 26,
 oG 28 (.mv (.t 5)) 27 false,
 oG 29 (.bin .gtr (.t 28) (.c (.i .i64 16))) 27 false,
 oO 30 (.pick (.t 27) (.c (.b true)) (.t 29)),
 oM 31 30,
 oG 32 (.fad 1 (.t 3)) 31 false,
 oG 33 (.load 1 false (.t 32)) 31 false,
 oG 34 (.bin .lss (.t 33) (.c (.i .i64 (-1)))) 31 false,
 oO 35 (.pick (.t 31) (.c (.b true)) (.t 34)),
 oM 36 35,
 oG 37 (.fad 1 (.t 3)) 36 false,
 oG 38 (.load 1 false (.t 37)) 36 false,
 oG 39 (.mv (.t 5)) 36 false,
 oG 40 (.bin .geq (.t 38) (.t 39)) 36 false,
 oO 41 (.pick (.t 36) (.c (.b true)) (.t 40)),
 oM 42 41,
 oG 43 (.fad 3 (.t 3)) 42 false,
 oG 44 (.load 1 false (.t 43)) 42 false,
 oG 45 (.mkfn 225 [(.t 2)]) 42 false,
 oG 46 (.call true 224 [(.t 44),(.t 45)]) 42 false,
 oO 47 (.pick (.t 42) (.c (.b true)) (.t 46))]
def r213_3:List AI:=[oC 4 (.i .i64 8)]
def r213_4:List AI:=[oC 4 (.i .i64 0)]
abbrev b213:AC:=(.seq (.reg 0 r213_0) (.seq (.reg 1 r213_1) (.seq (.seq (.reg 2 r213_2) (.cond (.t 47) (.seq (.reg 3 r213_3) .ret) .skip)) (.seq (.reg 4 r213_4) .ret))))
def pf213:AF:={ nt:=48,res:=[.tmp 4],fz:=[2],body:=b213 }
abbrev H213 (Q:AE→Sl→St→Prop)(K:Int→Prop):Prop:=∀(σ:Sl)(st:St)(res0:Int),σ 4 = .i .i64 res0→K res0→Q .ret σ st
def T213_0 (prog:Prog)(K:Int→Prop)(m0:Img)(s1:Sta):Prop:=
  (s1.outcome < 1→K 8)∧(¬(s1.outcome < 1)→(s1.outcome > 8→K 8)∧(¬(s1.outcome > 8)→(s1.steps < 0→K 8)∧(¬(s1.steps < 0)→(s1.steps > 5000→K 8)∧(¬(s1.steps > 5000)→((s1.routines.length:Int) > 16→K 8)∧(¬((s1.routines.length:Int) > 16)→(s1.failing < (-1)→K 8)∧(¬(s1.failing < (-1))→(s1.failing ≥ (s1.routines.length:Int)→K 8)∧(¬(s1.failing ≥ (s1.routines.length:Int))→∃r'8:Bool,(∀q'10:Own,PuN prog 224 [.sl q'10 (List.map Rou.row s1.routines),.fn 225 [.fp [.sl .ext (List.map Typ.row m0.types),.sl .ext (List.map rowS m0.texts),.sl .ext (List.map Fun.row m0.funcs)]]] (fun r=>r = .b r'8))∧(r'8 = true→K 8)∧(r'8 = false→K 0))))))))
section
variable {prog:Prog}{d:Nat}{Q:AE→Sl→St→Prop}{K:Int→Prop}(hQ:H213 Q K){σ:Sl}{st:St}
include hQ
theorem w213_0 {m0:Img}{s1:Sta}(H0:σ 0 = m0.av)(H1:σ 1 = s1.av)(h:T213_0 prog K m0 s1):W prog d (.seq (.reg 0 r213_0) (.seq (.reg 1 r213_1) (.seq (.seq (.reg 2 r213_2) (.cond (.t 47) (.seq (.reg 3 r213_3) .ret) .skip)) (.seq (.reg 4 r213_4) .ret)))) σ st Q:=
 q_ rfl (s_boxf H0 rfl rfl (s_box H1 rfl (m_ (e_ (q_ rfl (f_ rfl (l_ rfl lk_here rfl rfl (ll_ rfl (m_ (e_ (sq_ (q_ rfl (f_ rfl (l_ rfl lk_here rfl rfl (b_ rfl rfl lss_ (s_mvB rfl (em_ (g:=12) rfl (fun g'1=>gn_ (b:=true) rfl rfl (gn_ (b:=true) rfl rfl (gn_ (b:=true) rfl rfl (pt_ rfl rfl (s_mvB rfl (gn_ (b:=true) rfl rfl (gn_ (b:=true) rfl rfl (gn_ (b:=true) rfl rfl (pt_ rfl rfl (s_mvB rfl (gn_ (b:=true) rfl rfl (gn_ (b:=true) rfl rfl (gn_ (b:=true) rfl rfl (pt_ rfl rfl (s_mvB rfl (gn_ (b:=true) rfl rfl (gn_ (b:=true) rfl rfl (pt_ rfl rfl (s_mvB rfl (gn_ (b:=true) rfl rfl (gn_ (b:=true) rfl rfl (gn_ (b:=true) rfl rfl (pt_ rfl rfl (s_mvB rfl (gn_ (b:=true) rfl rfl (gn_ (b:=true) rfl rfl (gn_ (b:=true) rfl rfl (gn_ (b:=true) rfl rfl (pt_ rfl rfl (s_mvB rfl (gn_ (b:=true) rfl rfl (gn_ (b:=true) rfl rfl (gn_ (b:=true) rfl rfl (gn_ (b:=true) rfl rfl (pt_ rfl rfl (e_ (ct_ rfl (q_ rfl (m_ (e_ (rt_ (hQ _ _ _ rfl (h.1 g'1))))))))))))))))))))))))))))))))))))))))))) (fun g'1=>gy_ rfl (f_ rfl (gy_ rfl (l_ rfl lk_here rfl rfl (gy_ rfl (b_ rfl rfl gtr_ (pf_ rfl rfl (s_mvB rfl (em_ (g:=17) rfl (fun g'2=>gn_ (b:=true) rfl rfl (gn_ (b:=true) rfl rfl (gn_ (b:=true) rfl rfl (pt_ rfl rfl (s_mvB rfl (gn_ (b:=true) rfl rfl (gn_ (b:=true) rfl rfl (gn_ (b:=true) rfl rfl (pt_ rfl rfl (s_mvB rfl (gn_ (b:=true) rfl rfl (gn_ (b:=true) rfl rfl (pt_ rfl rfl (s_mvB rfl (gn_ (b:=true) rfl rfl (gn_ (b:=true) rfl rfl (gn_ (b:=true) rfl rfl (pt_ rfl rfl (s_mvB rfl (gn_ (b:=true) rfl rfl (gn_ (b:=true) rfl rfl (gn_ (b:=true) rfl rfl (gn_ (b:=true) rfl rfl (pt_ rfl rfl (s_mvB rfl (gn_ (b:=true) rfl rfl (gn_ (b:=true) rfl rfl (gn_ (b:=true) rfl rfl (gn_ (b:=true) rfl rfl (pt_ rfl rfl (e_ (ct_ rfl (q_ rfl (m_ (e_ (rt_ (hQ _ _ _ rfl ((h.2 g'1).1 g'2)))))))))))))))))))))))))))))))))))))) (fun g'2=>gy_ rfl (f_ rfl (gy_ rfl (l_ rfl lk_here rfl rfl (gy_ rfl (b_ rfl rfl lss_ (pf_ rfl rfl (s_mvB rfl (em_ (g:=22) rfl (fun g'3=>gn_ (b:=true) rfl rfl (gn_ (b:=true) rfl rfl (gn_ (b:=true) rfl rfl (pt_ rfl rfl (s_mvB rfl (gn_ (b:=true) rfl rfl (gn_ (b:=true) rfl rfl (pt_ rfl rfl (s_mvB rfl (gn_ (b:=true) rfl rfl (gn_ (b:=true) rfl rfl (gn_ (b:=true) rfl rfl (pt_ rfl rfl (s_mvB rfl (gn_ (b:=true) rfl rfl (gn_ (b:=true) rfl rfl (gn_ (b:=true) rfl rfl (gn_ (b:=true) rfl rfl (pt_ rfl rfl (s_mvB rfl (gn_ (b:=true) rfl rfl (gn_ (b:=true) rfl rfl (gn_ (b:=true) rfl rfl (gn_ (b:=true) rfl rfl (pt_ rfl rfl (e_ (ct_ rfl (q_ rfl (m_ (e_ (rt_ (hQ _ _ _ rfl (((h.2 g'1).2 g'2).1 g'3))))))))))))))))))))))))))))))))) (fun g'3=>gy_ rfl (f_ rfl (gy_ rfl (l_ rfl lk_here rfl rfl (gy_ rfl (b_ rfl rfl gtr_ (pf_ rfl rfl (s_mvB rfl (em_ (g:=27) rfl (fun g'4=>gn_ (b:=true) rfl rfl (gn_ (b:=true) rfl rfl (pt_ rfl rfl (s_mvB rfl (gn_ (b:=true) rfl rfl (gn_ (b:=true) rfl rfl (gn_ (b:=true) rfl rfl (pt_ rfl rfl (s_mvB rfl (gn_ (b:=true) rfl rfl (gn_ (b:=true) rfl rfl (gn_ (b:=true) rfl rfl (gn_ (b:=true) rfl rfl (pt_ rfl rfl (s_mvB rfl (gn_ (b:=true) rfl rfl (gn_ (b:=true) rfl rfl (gn_ (b:=true) rfl rfl (gn_ (b:=true) rfl rfl (pt_ rfl rfl (e_ (ct_ rfl (q_ rfl (m_ (e_ (rt_ (hQ _ _ _ rfl ((((h.2 g'1).2 g'2).2 g'3).1 g'4)))))))))))))))))))))))))))) (fun g'4=>gy_ rfl (s_mvI rfl (gy_ rfl (b_ rfl rfl gtr_ (pf_ rfl rfl (s_mvB rfl (em_ (g:=31) rfl (fun g'5=>gn_ (b:=true) rfl rfl (gn_ (b:=true) rfl rfl (gn_ (b:=true) rfl rfl (pt_ rfl rfl (s_mvB rfl (gn_ (b:=true) rfl rfl (gn_ (b:=true) rfl rfl (gn_ (b:=true) rfl rfl (gn_ (b:=true) rfl rfl (pt_ rfl rfl (s_mvB rfl (gn_ (b:=true) rfl rfl (gn_ (b:=true) rfl rfl (gn_ (b:=true) rfl rfl (gn_ (b:=true) rfl rfl (pt_ rfl rfl (e_ (ct_ rfl (q_ rfl (m_ (e_ (rt_ (hQ _ _ _ rfl (((((h.2 g'1).2 g'2).2 g'3).2 g'4).1 g'5)))))))))))))))))))))))) (fun g'5=>gy_ rfl (f_ rfl (gy_ rfl (l_ rfl lk_here rfl rfl (gy_ rfl (b_ rfl rfl lss_ (pf_ rfl rfl (s_mvB rfl (em_ (g:=36) rfl (fun g'6=>gn_ (b:=true) rfl rfl (gn_ (b:=true) rfl rfl (gn_ (b:=true) rfl rfl (gn_ (b:=true) rfl rfl (pt_ rfl rfl (s_mvB rfl (gn_ (b:=true) rfl rfl (gn_ (b:=true) rfl rfl (gn_ (b:=true) rfl rfl (gn_ (b:=true) rfl rfl (pt_ rfl rfl (e_ (ct_ rfl (q_ rfl (m_ (e_ (rt_ (hQ _ _ _ rfl ((((((h.2 g'1).2 g'2).2 g'3).2 g'4).2 g'5).1 g'6))))))))))))))))))) (fun g'6=>gy_ rfl (f_ rfl (gy_ rfl (l_ rfl lk_here rfl rfl (gy_ rfl (s_mvI rfl (gy_ rfl (b_ rfl rfl geq_ (pf_ rfl rfl (s_mvB rfl (em_ (g:=42) rfl (fun g'7=>gn_ (b:=true) rfl rfl (gn_ (b:=true) rfl rfl (gn_ (b:=true) rfl rfl (gn_ (b:=true) rfl rfl (pt_ rfl rfl (e_ (ct_ rfl (q_ rfl (m_ (e_ (rt_ (hQ _ _ _ rfl (((((((h.2 g'1).2 g'2).2 g'3).2 g'4).2 g'5).2 g'6).1 g'7))))))))))))) (fun g'7=>gy_ rfl (f_ rfl (gy_ rfl (l_ rfl lk_here rfl rfl (gy_ rfl (s_mkfn (sec rfl sen) (gy_ rfl ((((((((h.2 g'1).2 g'2).2 g'3).2 g'4).2 g'5).2 g'6).2 g'7).elim fun r'8 e'11=>s_callN (sec rfl (sec rfl sen)) (e'11.1 _) (fun st'12 hf'13=>pf_ rfl rfl (e_ (cb_ rfl (fun g'14=>q_ rfl (m_ (e_ (rt_ (hQ _ _ _ rfl (e'11.2.1 g'14)))))) (fun g'14=>sk_ (q_ rfl (m_ (e_ (rt_ (hQ _ _ _ rfl (e'11.2.2 g'14)))))))))))))))))))))))))))))))))))))))))))))))))))))))))))))))))))))))))))))))))))))))))
end
theorem p213 {prog:Prog}(hf:prog.fn 213 = some pf213){m0:Img}{s1:Sta}{K:Int→Prop}(h:T213_0 prog K m0 s1) :∃res0:Int,K res0∧Pus prog 213 [m0.av,s1.av] (.i .i64 res0):=by
  obtain ⟨v,hv,res0,hk,rfl⟩:=Pus.of (K:=fun v=>∃res0:Int,K res0∧v = .i .i64 res0) hf rfl (w213_0 (σ:=sl0 [m0.av,s1.av]) (fun σ st   res0 H4 hk=>⟨.i .i64 res0,by simp only [pf213,ares,aresL,H4,ares1,Option.map_some],_,rfl,res0,hk,rfl⟩) rfl rfl h)
  exact ⟨res0,hk,hv⟩
abbrev H235 (Q:AE→Sl→St→Prop)(K:Bool→Prop):Prop:=∀(σ:Sl)(st:St)(res0:Bool),σ 6 = .b res0→K res0→Q .ret σ st
section
variable {prog:Prog}{d:Nat}{Q:AE→Sl→St→Prop}{K:Bool→Prop}(hQ:H235 Q K){σ:Sl}{st:St}
include hQ
end
abbrev H221 (Q:AE→Sl→St→Prop)(K:Bool→Prop):Prop:=∀(σ:Sl)(st:St)(res0:Bool),σ 4 = .b res0→K res0→Q .ret σ st
section
variable {prog:Prog}{d:Nat}{Q:AE→Sl→St→Prop}{K:Bool→Prop}(hQ:H221 Q K){σ:Sl}{st:St}
include hQ
end
abbrev H214 (Q:AE→Sl→St→Prop)(K:Int→Prop):Prop:=∀(σ:Sl)(st:St)(res0:Int),σ 4 = .i .i64 res0→K res0→Q .ret σ st
section
variable {prog:Prog}{d:Nat}{Q:AE→Sl→St→Prop}{K:Int→Prop}(hQ:H214 Q K){σ:Sl}{st:St}
include hQ
end
end Go.AM

/- Parts of the proof. -/
namespace Go.AM
open Go
set_option linter.unusedVariables false
set_option linter.unusedSimpArgs false
set_option maxRecDepth 4000
attribute [local irreducible] WO fillCells fillRows
def r234_0:List AI:=[oO 2 (.box 3 (.t 0)),
 oO 3 (.box 8 (.t 1)),
 oC 4 (.s []),
 oC 5 (.i .i64 0)]
def r234_1:List AI:=[oF 12 2 2,
 oL 13 12,
 oF 14 1 3,
 oL 15 14,
 oO 16 (.iaL 7 (.t 13) (.t 15)),
 oF 17 0 16,
 oL 18 17,
 oO 19 (.call false 11 [(.t 18)]),
 oM 11 19,
 oE 20 0 11,
 oE 21 1 11,
 oM 6 20,
 oM 7 21]
def r234_2:List AI:=[oM 22 7,
 oB 23 .neq (.t 22) (.c (.i .i64 0))]
def r234_3:List AI:=[oM 24 7,
 oC 4 (.s []),
 oM 5 24]
def r234_4:List AI:=[oF 25 0 3,
 oL 26 25,
 oO 27 (.call false 216 [(.t 26)]),
 oB 28 .add (.c (.s [100,101,102,101,114,32])) (.t 27),
 oB 29 .add (.t 28) (.c (.s [32])),
 oF 30 1 3,
 oL 31 30,
 oO 32 (.call false 216 [(.t 31)]),
 oB 33 .add (.t 29) (.t 32),
 oB 34 .add (.t 33) (.c (.s [32])),
 oM 35 6,
 oB 36 .add (.t 34) (.t 35),
 oM 8 36]
def r234_5:List AI:=[oF 37 2 3,
 oL 38 37]
def r234_6:List AI:=[oF 40 3 3,
 oO 41 (.load 5 true (.t 40)),
 oO 42 (.call false 72 [(.t 41)]),
 oM 39 42,
 oE 43 0 39,
 oE 44 1 39,
 oM 9 43,
 oM 10 44]
def r234_7:List AI:=[oM 45 10,
 oB 46 .neq (.t 45) (.c (.i .i64 0))]
def r234_8:List AI:=[oM 47 10,
 oC 4 (.s []),
 oM 5 47]
def r234_9:List AI:=[oM 48 8,
 oM 49 9,
 oB 50 .add (.c (.s [32,119,105,116,104,32])) (.t 49),
 oB 51 .add (.t 48) (.t 50),
 oM 8 51]
def r234_10:List AI:=[oM 52 8,
 oM 4 52,
 oC 5 (.i .i64 0)]
abbrev c234_0:AC:=(.seq (.reg 10 r234_10) .ret)
abbrev b234:AC:=(.seq (.reg 0 r234_0) (.seq (.reg 1 r234_1) (.seq (.seq (.reg 2 r234_2) (.cond (.t 23) (.seq (.reg 3 r234_3) .ret) .skip)) (.seq (.reg 4 r234_4) (.seq (.seq (.reg 5 r234_5) (.cond (.t 38) (.seq (.reg 6 r234_6) (.seq (.seq (.reg 7 r234_7) (.cond (.t 46) (.seq (.reg 8 r234_8) .ret) .skip)) (.reg 9 r234_9))) .skip)) c234_0)))))
def pf234:AF:={ nt:=53,res:=[.tmp 4,.tmp 5],body:=b234 }
abbrev H234 (Q:AE→Sl→St→Prop)(K:List UInt8→Int→Prop):Prop:=∀(σ:Sl)(st:St)(res0:List UInt8)(res1:Int),σ 4 = .s res0→σ 5 = .i .i64 res1→K res0 res1→Q .ret σ st
def T234_1 (prog:Prog)(K:List UInt8→Int→Prop)(s8:List UInt8):Prop:=
  K s8 0
def T234_0 (prog:Prog)(K:List UInt8→Int→Prop)(m0:Img)(d1:Dfr):Prop:=
  0≤d1.func∧∃c'1:Fun,m0.funcs[(d1.func).toNat]? = some c'1∧∃r'3:List UInt8,∃r'4:Int,Pus prog 11 [.s c'1.name] (.tup [.s r'3,.i .i64 r'4])∧(r'4≠0→K ([]:List UInt8) r'4)∧(¬(r'4≠0)→∃r'7:List UInt8,Pus prog 216 [.i .i64 d1.frame] (.s r'7)∧([100,101,102,101,114,32]:List UInt8).length + r'7.length≤maxStr∧(([100,101,102,101,114,32]:List UInt8) ++ r'7).length + ([32]:List UInt8).length≤maxStr∧∃r'9:List UInt8,Pus prog 216 [.i .i64 d1.func] (.s r'9)∧((([100,101,102,101,114,32]:List UInt8) ++ r'7) ++ ([32]:List UInt8)).length + r'9.length≤maxStr∧(((([100,101,102,101,114,32]:List UInt8) ++ r'7) ++ ([32]:List UInt8)) ++ r'9).length + ([32]:List UInt8).length≤maxStr∧((((([100,101,102,101,114,32]:List UInt8) ++ r'7) ++ ([32]:List UInt8)) ++ r'9) ++ ([32]:List UInt8)).length + r'3.length≤maxStr∧(d1.hasArg = true→∃r'12:List UInt8,∃r'13:Int,Pus prog 72 [d1.arg.av] (.tup [.s r'12,.i .i64 r'13])∧(r'13≠0→K ([]:List UInt8) r'13)∧(¬(r'13≠0)→([32,119,105,116,104,32]:List UInt8).length + r'12.length≤maxStr∧(((((([100,101,102,101,114,32]:List UInt8) ++ r'7) ++ ([32]:List UInt8)) ++ r'9) ++ ([32]:List UInt8)) ++ r'3).length + (([32,119,105,116,104,32]:List UInt8) ++ r'12).length≤maxStr∧T234_1 prog K ((((((([100,101,102,101,114,32]:List UInt8) ++ r'7) ++ ([32]:List UInt8)) ++ r'9) ++ ([32]:List UInt8)) ++ r'3) ++ (([32,119,105,116,104,32]:List UInt8) ++ r'12))))∧(d1.hasArg = false→T234_1 prog K (((((([100,101,102,101,114,32]:List UInt8) ++ r'7) ++ ([32]:List UInt8)) ++ r'9) ++ ([32]:List UInt8)) ++ r'3)))
section
variable {prog:Prog}{d:Nat}{Q:AE→Sl→St→Prop}{K:List UInt8→Int→Prop}(hQ:H234 Q K){σ:Sl}{st:St}
include hQ
theorem w234_1 {s8:List UInt8}(H8:σ 8 = .s s8)(h:T234_1 prog K s8):W prog d c234_0 σ st Q:=
 q_ rfl (m_ (m_ (m_ (e_ (rt_ (hQ _ _ _ _ H8 rfl h))))))
theorem w234_0 {m0:Img}{d1:Dfr}(H0:σ 0 = m0.av)(H1:σ 1 = d1.av)(h:T234_0 prog K m0 d1):W prog d (.seq (.reg 0 r234_0) (.seq (.reg 1 r234_1) (.seq (.seq (.reg 2 r234_2) (.cond (.t 23) (.seq (.reg 3 r234_3) .ret) .skip)) (.seq (.reg 4 r234_4) (.seq (.seq (.reg 5 r234_5) (.cond (.t 38) (.seq (.reg 6 r234_6) (.seq (.seq (.reg 7 r234_7) (.cond (.t 46) (.seq (.reg 8 r234_8) .ret) .skip)) (.reg 9 r234_9))) .skip)) c234_0))))) σ st Q:=
 q_ rfl (s_box H0 rfl (s_box H1 rfl (m_ (m_ (e_ (q_ rfl (f_ rfl (l_ rfl (lk_other rfl lk_here) rfl rfl (f_ rfl (l_ rfl lk_here rfl rfl (h.2.elim fun c'1 e'2=>ia_ rfl rfl h.1 e'2.1 (Fun.row_eq c'1) rfl (ff_ rfl (lf_ rfl rfl rfl (e'2.2.elim fun r'3 e'17=>e'17.elim fun r'4 e'5=>ca_ (sc rfl rfl sn) e'5.1 (m_ (x_ rfl rfl (x_ rfl rfl (m_ (m_ (e_ (sq_ (q_ rfl (m_ (b_ rfl rfl neq_ (e_ (cs_ rfl (fun g'6=>q_ rfl (m_ (m_ (m_ (e_ (rt_ (hQ _ _ _ _ rfl rfl (e'5.2.1 g'6)))))))) (fun g'6=>sk_ (q_ rfl (f_ rfl (l_ rfl lk_here rfl rfl ((e'5.2.2 g'6).elim fun r'7 e'8=>ca_ (sc rfl rfl sn) e'8.1 (b_ rfl rfl (abin_cat' e'8.2.1) (b_ rfl rfl (abin_cat' e'8.2.2.1) (f_ rfl (l_ rfl lk_here rfl rfl (e'8.2.2.2.elim fun r'9 e'10=>ca_ (sc rfl rfl sn) e'10.1 (b_ rfl rfl (abin_cat' e'10.2.1) (b_ rfl rfl (abin_cat' e'10.2.2.1) (m_ (b_ rfl rfl (abin_cat' e'10.2.2.2.1) (m_ (e_ (sq_ (q_ rfl (f_ rfl (l_ rfl lk_here rfl rfl (e_ (cb_ rfl (fun g'11=>q_ rfl (f_ rfl (l_ rfl lk_here rfl rfl ((e'10.2.2.2.2.1 g'11).elim fun r'12 e'16=>e'16.elim fun r'13 e'14=>ca_ (sc rfl rfl sn) e'14.1 (m_ (x_ rfl rfl (x_ rfl rfl (m_ (m_ (e_ (sq_ (q_ rfl (m_ (b_ rfl rfl neq_ (e_ (cs_ rfl (fun g'15=>q_ rfl (m_ (m_ (m_ (e_ (rt_ (hQ _ _ _ _ rfl rfl (e'14.2.1 g'15)))))))) (fun g'15=>sk_ (W.reg0 rfl fun _ _=>m_ (m_ (b_ rfl rfl (abin_cat' (e'14.2.2 g'15).1) (b_ rfl rfl (abin_cat' (e'14.2.2 g'15).2.1) (m_ (e_ (w234_1 hQ rfl (e'14.2.2 g'15).2.2)))))))))))))))))))))))) (fun g'11=>sk_ (w234_1 hQ rfl (e'10.2.2.2.2.2 g'11)))))))))))))))))))))))))))))))))))))))))))))))))))
end
theorem p234 {prog:Prog}(hf:prog.fn 234 = some pf234){m0:Img}{d1:Dfr}{K:List UInt8→Int→Prop}(h:T234_0 prog K m0 d1) :∃res0:List UInt8,∃res1:Int,K res0 res1∧Pus prog 234 [m0.av,d1.av] (.tup [.s res0,.i .i64 res1]):=by
  obtain ⟨v,hv,res0,res1,hk,rfl⟩:=Pus.of (K:=fun v=>∃res0:List UInt8,∃res1:Int,K res0 res1∧v = .tup [.s res0,.i .i64 res1]) hf rfl (w234_0 (σ:=sl0 [m0.av,d1.av]) (fun σ st   res0 res1 H4 H5 hk=>⟨.tup [.s res0,.i .i64 res1],by simp only [pf234,ares,aresL,H4,H5,ares1,Option.map_some],_,rfl,res0,res1,hk,rfl⟩) rfl rfl h)
  exact ⟨res0,res1,hk,hv⟩
def r220_0:List AI:=[oO 2 (.box 3 (.t 0)),
 oO 3 (.box 5 (.t 1)),
 oC 4 (.sl .full []),
 oC 5 (.i .i64 0)]
def r220_1:List AI:=[oC 6 (.sl .full [])]
def r220_2:List AI:=[oF 19 2 3,
 oL 20 19,
 oO 21 (.len false (.t 20)),
 oC 22 (.i .i64 0)]
def r220_3:List AI:=[oB 23 .lss (.t 22) (.t 21)]
def r220_4:List AI:=[oM 24 22,
 oO 25 (.iaL 4 (.t 20) (.t 22)),
 oO 26 (.load 4 true (.t 25)),
 oO 8 (.alloc [.i .i64 0,.i .i64 0,.i .u64 0,.sl .full []]),
 oM 7 24,
 oS 4 8 26]
def r220_5:List AI:=[oO 28 (.load 3 true (.t 2)),
 oM 29 7,
 oO 30 (.load 4 true (.t 8)),
 oO 31 (.call false 82 [(.t 28),(.t 29),(.t 30)]),
 oM 27 31,
 oE 32 0 27,
 oE 33 1 27,
 oM 9 32,
 oM 10 33]
def r220_6:List AI:=[oM 34 10,
 oB 35 .neq (.t 34) (.c (.i .i64 0))]
def r220_7:List AI:=[oM 36 10,
 oC 4 (.sl .full []),
 oM 5 36]
def r220_8:List AI:=[oM 37 6,
 oM 38 9,
 oO 39 (.app 1 16 (.t 37) (.t 38)),
 oM 6 39]
def r220_9:List AI:=[oB 40 .add (.t 22) (.c (.i .i64 1)),
 oM 22 40]
def r220_10:List AI:=[oF 41 3 3,
 oL 42 41,
 oO 43 (.len false (.t 42)),
 oC 44 (.i .i64 0)]
def r220_11:List AI:=[oB 45 .lss (.t 44) (.t 43)]
def r220_12:List AI:=[oO 46 (.iaL 8 (.t 42) (.t 44)),
 oO 47 (.load 8 true (.t 46)),
 oO 12 (.alloc [.i .i64 0,.i .i64 0,.b false,.i .u8 0,.i .i64 0,.s [],.sl .full [],.b false]),
 oS 8 12 47]
def r220_13:List AI:=[oO 49 (.load 3 true (.t 2)),
 oO 50 (.load 8 true (.t 12)),
 oO 51 (.call false 234 [(.t 49),(.t 50)]),
 oM 48 51,
 oE 52 0 48,
 oE 53 1 48,
 oM 13 52,
 oM 14 53]
def r220_14:List AI:=[oM 54 14,
 oB 55 .neq (.t 54) (.c (.i .i64 0))]
def r220_15:List AI:=[oM 56 14,
 oC 4 (.sl .full []),
 oM 5 56]
def r220_16:List AI:=[oM 57 6,
 oM 58 13,
 oO 59 (.bslice [.s []] 1 [(0,(.t 58))]),
 oO 60 (.app 1 16 (.t 57) (.t 59)),
 oM 6 60]
def r220_17:List AI:=[oB 61 .add (.t 44) (.c (.i .i64 1)),
 oM 44 61]
def r220_18:List AI:=[oF 62 4 3,
 oL 63 62,
 oO 64 (.len false (.t 63)),
 oC 65 (.i .i64 0)]
def r220_19:List AI:=[oB 66 .lss (.t 65) (.t 64)]
def r220_20:List AI:=[oO 67 (.iaL 7 (.t 63) (.t 65)),
 oO 68 (.load 7 true (.t 67)),
 oO 16 (.alloc [.i .u64 0,.i .u8 0,.i .i64 0,.s [],.sl .full [],.b false,.i .u64 0]),
 oS 7 16 68]
def r220_21:List AI:=[oO 70 (.load 7 true (.t 16)),
 oO 71 (.call false 154 [(.t 70)]),
 oM 69 71,
 oE 72 0 69,
 oE 73 1 69,
 oM 17 72,
 oM 18 73]
def r220_22:List AI:=[oM 74 18,
 oB 75 .neq (.t 74) (.c (.i .i64 0))]
def r220_23:List AI:=[oM 76 18,
 oC 4 (.sl .full []),
 oM 5 76]
def r220_24:List AI:=[oM 77 6,
 oM 78 17,
 oO 79 (.bslice [.s []] 1 [(0,(.t 78))]),
 oO 80 (.app 1 16 (.t 77) (.t 79)),
 oM 6 80]
def r220_25:List AI:=[oB 81 .add (.t 65) (.c (.i .i64 1)),
 oM 65 81]
def r220_26:List AI:=[oM 82 6,
 oM 4 82,
 oC 5 (.i .i64 0)]
abbrev l220_0:AC:=(.seq (.reg 3 r220_3) (.seq (.cond (.t 23) .skip (.exit 0)) (.seq (.block 1 (.seq (.reg 4 r220_4) (.seq (.reg 5 r220_5) (.seq (.seq (.reg 6 r220_6) (.cond (.t 35) (.seq (.reg 7 r220_7) .ret) .skip)) (.reg 8 r220_8))))) (.reg 9 r220_9))))
abbrev l220_1:AC:=(.seq (.reg 11 r220_11) (.seq (.cond (.t 45) .skip (.exit 2)) (.seq (.block 3 (.seq (.reg 12 r220_12) (.seq (.reg 13 r220_13) (.seq (.seq (.reg 14 r220_14) (.cond (.t 55) (.seq (.reg 15 r220_15) .ret) .skip)) (.reg 16 r220_16))))) (.reg 17 r220_17))))
abbrev l220_2:AC:=(.seq (.reg 19 r220_19) (.seq (.cond (.t 66) .skip (.exit 4)) (.seq (.block 5 (.seq (.reg 20 r220_20) (.seq (.reg 21 r220_21) (.seq (.seq (.reg 22 r220_22) (.cond (.t 75) (.seq (.reg 23 r220_23) .ret) .skip)) (.reg 24 r220_24))))) (.reg 25 r220_25))))
abbrev c220_3:AC:=(.seq (.reg 26 r220_26) .ret)
abbrev c220_4:AC:=(.seq (.seq (.reg 18 r220_18) (.block 4 (.loop l220_2))) c220_3)
abbrev c220_5:AC:=(.seq (.seq (.reg 10 r220_10) (.block 2 (.loop l220_1))) c220_4)
abbrev c220_6:AC:=(.seq (.seq (.reg 2 r220_2) (.block 0 (.loop l220_0))) c220_5)
abbrev c220_7:AC:=(.seq (.reg 1 r220_1) c220_6)
abbrev b220:AC:=(.seq (.reg 0 r220_0) c220_7)
def pf220:AF:={ nt:=83,res:=[.tmp 4,.tmp 5],body:=b220 }
abbrev H220 (Q:AE→Sl→St→Prop)(K:List (List UInt8)→Int→Prop):Prop:=∀(σ:Sl)(st:St)(o0:Own)(res0:List (List UInt8))(res1:Int),σ 4 = .sl o0 (List.map rowS res0)→σ 5 = .i .i64 res1→K res0 res1→Q .ret σ st
abbrev I220_0 (prog:Prog)(d:Nat)(Q:AE→Sl→St→Prop)(t20:List Frm)(t21:Int)(out6:List (List UInt8))(t22:Int)(m0:Img)(m1:Rou):Prop:=
  ∀(σ:Sl)(st:St) (o_out6 o_t20:Own) (v0 v1:Nat),σ 2 = .p (d,0) v0 0→σ 3 = .p (d,1) v1 0→σ 6 = .sl o_out6 (List.map rowS out6)→σ 20 = .sl o_t20 (List.map Frm.row t20)→σ 21 = .i .i64 t21→σ 22 = .i .i64 t22→ApM d st.ow o_out6 out6.length→lk st.bx (d,0) = some (v0,[.sl .ext (List.map Typ.row m0.types),.sl .ext (List.map rowS m0.texts),.sl .ext (List.map Fun.row m0.funcs)])→lk st.bx (d,1) = some (v1,[.i .u8 m1.status,.i .i64 m1.key,.sl .ext (List.map Frm.row m1.frames),.sl .ext (List.map Dfr.row m1.defers),.sl .ext (List.map Pan.row m1.panics)])→W prog d (.loop l220_0) σ st (blockW 0 (thenW prog d c220_5 Q))
abbrev I220_1 (prog:Prog)(d:Nat)(Q:AE→Sl→St→Prop)(t42:List Dfr)(t43:Int)(out6:List (List UInt8))(t44:Int)(m0:Img)(m1:Rou):Prop:=
  ∀(σ:Sl)(st:St) (o_out6 o_t42:Own) (v0 v1:Nat),σ 2 = .p (d,0) v0 0→σ 3 = .p (d,1) v1 0→σ 6 = .sl o_out6 (List.map rowS out6)→σ 42 = .sl o_t42 (List.map Dfr.row t42)→σ 43 = .i .i64 t43→σ 44 = .i .i64 t44→ApM d st.ow o_out6 out6.length→lk st.bx (d,0) = some (v0,[.sl .ext (List.map Typ.row m0.types),.sl .ext (List.map rowS m0.texts),.sl .ext (List.map Fun.row m0.funcs)])→lk st.bx (d,1) = some (v1,[.i .u8 m1.status,.i .i64 m1.key,.sl .ext (List.map Frm.row m1.frames),.sl .ext (List.map Dfr.row m1.defers),.sl .ext (List.map Pan.row m1.panics)])→W prog d (.loop l220_1) σ st (blockW 2 (thenW prog d c220_4 Q))
abbrev I220_2 (prog:Prog)(d:Nat)(Q:AE→Sl→St→Prop)(t63:List Pan)(t64:Int)(out6:List (List UInt8))(t65:Int):Prop:=
  ∀(σ:Sl)(st:St) (o_out6 o_t63:Own),σ 6 = .sl o_out6 (List.map rowS out6)→σ 63 = .sl o_t63 (List.map Pan.row t63)→σ 64 = .i .i64 t64→σ 65 = .i .i64 t65→ApM d st.ow o_out6 out6.length→W prog d (.loop l220_2) σ st (blockW 4 (thenW prog d c220_3 Q))
def T220_8 (prog:Prog)(K:List (List UInt8)→Int→Prop)(out6:List (List UInt8)):Prop:=
  K out6 0
def T220_7 (prog:Prog)(K:List (List UInt8)→Int→Prop)(P2:List (List UInt8)→Int→Prop)(out6:List (List UInt8))(t63:List Pan)(t64:Int)(t65:Int):Prop:=
  (t65 < t64→0≤t65∧∃c'2:Pan,t63[(t65).toNat]? = some c'2∧∃r'4:List UInt8,∃r'5:Int,Pus prog 154 [c'2.av] (.tup [.s r'4,.i .i64 r'5])∧(r'5≠0→K ([]:List (List UInt8)) r'5)∧(¬(r'5≠0)→Fit (out6.length + [r'4].length) 16∧P2 (out6 ++ [r'4]) (IntKind.i64.wrap (t65 + 1))))∧(¬(t65 < t64)→T220_8 prog K out6)
def T220_6 (prog:Prog)(K:List (List UInt8)→Int→Prop)(out6:List (List UInt8))(m1:Rou):Prop:=
  ∀P2:List (List UInt8)→Int→Prop,(∀(out6:List (List UInt8))(t65:Int),T220_7 prog K P2 out6 m1.panics (m1.panics.length:Int) t65→P2 out6 t65)→P2 out6 0
def T220_5 (prog:Prog)(K:List (List UInt8)→Int→Prop)(P1:List (List UInt8)→Int→Img→Rou→Prop)(out6:List (List UInt8))(t42:List Dfr)(t43:Int)(t44:Int)(m0:Img)(m1:Rou):Prop:=
  (t44 < t43→0≤t44∧∃c'2:Dfr,t42[(t44).toNat]? = some c'2∧∃r'4:List UInt8,∃r'5:Int,Pus prog 234 [m0.av,c'2.av] (.tup [.s r'4,.i .i64 r'5])∧(r'5≠0→K ([]:List (List UInt8)) r'5)∧(¬(r'5≠0)→Fit (out6.length + [r'4].length) 16∧P1 (out6 ++ [r'4]) (IntKind.i64.wrap (t44 + 1)) m0 m1))∧(¬(t44 < t43)→T220_6 prog K out6 m1)
def T220_4 (prog:Prog)(K:List (List UInt8)→Int→Prop)(out6:List (List UInt8))(m0:Img)(m1:Rou):Prop:=
  ∀P1:List (List UInt8)→Int→Img→Rou→Prop,(∀(out6:List (List UInt8))(t44:Int)(m0:Img)(m1_b:Rou),T220_5 prog K P1 out6 m1.defers (m1.defers.length:Int) t44 m0 m1_b→P1 out6 t44 m0 m1_b)→P1 out6 0 m0 m1
def T220_3 (prog:Prog)(K:List (List UInt8)→Int→Prop)(P0:List (List UInt8)→Int→Img→Rou→Prop)(out6:List (List UInt8))(t20:List Frm)(t21:Int)(t22:Int)(m0:Img)(m1:Rou):Prop:=
  (t22 < t21→0≤t22∧∃c'2:Frm,t20[(t22).toNat]? = some c'2∧∃r'4:List (List UInt8),∃r'5:Int,Pus prog 82 [m0.av,.i .i64 t22,c'2.av] (.tup [.sl .ext (List.map rowS r'4),.i .i64 r'5])∧(r'5≠0→K ([]:List (List UInt8)) r'5)∧(¬(r'5≠0)→Fit (out6.length + r'4.length) 16∧P0 (out6 ++ r'4) (IntKind.i64.wrap (t22 + 1)) m0 m1))∧(¬(t22 < t21)→T220_4 prog K out6 m0 m1)
def T220_2 (prog:Prog)(K:List (List UInt8)→Int→Prop)(out6:List (List UInt8))(m0:Img)(m1:Rou):Prop:=
  ∀P0:List (List UInt8)→Int→Img→Rou→Prop,(∀(out6:List (List UInt8))(t22:Int)(m0:Img)(m1_b:Rou),T220_3 prog K P0 out6 m1.frames (m1.frames.length:Int) t22 m0 m1_b→P0 out6 t22 m0 m1_b)→P0 out6 0 m0 m1
def T220_1 (prog:Prog)(K:List (List UInt8)→Int→Prop)(m0:Img)(m1:Rou):Prop:=
  T220_2 prog K ([]:List (List UInt8)) m0 m1
def T220_0 (prog:Prog)(K:List (List UInt8)→Int→Prop)(m0:Img)(x1:Rou):Prop:=
  T220_1 prog K m0 x1
section
variable {prog:Prog}{d:Nat}{Q:AE→Sl→St→Prop}{K:List (List UInt8)→Int→Prop}(hQ:H220 Q K){σ:Sl}{st:St}
include hQ
theorem w220_8 {out6:List (List UInt8)}{o_out6:Own}(H6:σ 6 = .sl o_out6 (List.map rowS out6))(A6:ApM d st.ow o_out6 out6.length)(h:T220_8 prog K out6):W prog d c220_3 σ st Q:=
 q_ rfl (s_mvL H6 (s_mvL rfl (m_ (e_ (rt_ (hQ _ _ _ _ _ rfl rfl h))))))
theorem w220_7 {out6:List (List UInt8)}{t63:List Pan}{t64 t65:Int}{P2:List (List UInt8)→Int→Prop} (kP2 :∀(out6:List (List UInt8))(t65:Int),P2 out6 t65→I220_2 prog d Q t63 t64 out6 t65){o_out6 o_t63:Own}(H6:σ 6 = .sl o_out6 (List.map rowS out6))(H63:σ 63 = .sl o_t63 (List.map Pan.row t63))(H64:σ 64 = .i .i64 t64)(H65:σ 65 = .i .i64 t65)(A6:ApM d st.ow o_out6 out6.length)(h:T220_7 prog K P2 out6 t63 t64 t65):W prog d l220_2 σ st (thenW prog d (.loop l220_2) (blockW 4 (thenW prog d c220_3 Q))):=
 q_ rfl (b_ H65 H64 lss_ (e_ (sq_ (cs_ rfl (fun g'1=>sk_ (sq_ (bk_ (sq_ (W.reg ((h.1 g'1).2.elim fun c'2 e'3=>ia_ H63 H65 (h.1 g'1).1 e'3.1 (Pan.row_eq c'2) rfl (lf_ rfl rfl rfl (s_alloc (so_ rfl (show lk _ (d,81922) = some (_,([.i .u64 0,.i .u8 0,.i .i64 0,.s [],.sl .full (List.map Val.row ([]:List Val)),.b false,.i .u64 0]:List AV)) from lk_here) rfl rfl rfl (e_ (q_ rfl (l_ rfl lk_here rfl rfl (e'3.2.elim fun r'4 e'13=>e'13.elim fun r'5 e'6=>ca_ (sc rfl rfl sn) e'6.1 (m_ (x_ rfl rfl (x_ rfl rfl (m_ (m_ (e_ (sq_ (q_ rfl (m_ (b_ rfl rfl neq_ (e_ (cs_ rfl (fun g'7=>q_ rfl (m_ (s_mvL (f:=rowS) (l:=[]) rfl (m_ (e_ (rt_ (hQ _ _ _ _ _ rfl rfl (e'6.2.1 g'7)))))))) (fun g'7=>sk_ (W.reg0 rfl fun _ _=>s_mvL H6 (m_ (s_bslM (f:=rowS) (l:=[r'4]) rfl rfl (g_cons rfl rfl rfl g_nil) rfl (s_app rowS_len rfl rfl rfl A6.1 (e'6.2.2 g'7).1 rfl (fun o'8 ow'11 a'9 fr'10 on'12=>s_mvL rfl (e_ (W.reg0 rfl fun _ _=>b_ H65 rfl add_ (m_ (e_ (kP2 _ _ (e'6.2.2 g'7).2 _ _ _ _ rfl H63 H64 rfl (ApM.mk a'9 (Mine.app A6.2 rfl on'12)))))))))))))))))))))))))))))))))))))) (fun g'1=>ex_ (w220_8 hQ H6 A6 (h.2 g'1)))))))
theorem w220_6 {out6:List (List UInt8)}{m1:Rou}{o_out6:Own}{v1:Nat}(H3:σ 3 = .p (d,1) v1 0)(H6:σ 6 = .sl o_out6 (List.map rowS out6))(A6:ApM d st.ow o_out6 out6.length)(B1:lk st.bx (d,1) = some (v1,[.i .u8 m1.status,.i .i64 m1.key,.sl .ext (List.map Frm.row m1.frames),.sl .ext (List.map Dfr.row m1.defers),.sl .ext (List.map Pan.row m1.panics)]))(h:T220_6 prog K out6 m1):W prog d c220_4 σ st Q:=
 sq_ (q_ rfl (f_ H3 (l_ rfl B1 rfl rfl (ll_ rfl (m_ (e_ (bk_ (h (I220_2 prog d Q m1.panics (m1.panics.length:Int)) (fun _ _ hb _ _ _ _ H6 H63 H64 H65 A6=>W.loop (w220_7 hQ (fun _ _ x=>x) H6 H63 H64 H65 A6 hb)) _ _ _ _ H6 rfl rfl rfl A6))))))))
theorem w220_5 {out6:List (List UInt8)}{t42:List Dfr}{t43 t44:Int}{m0:Img}{m1:Rou}{P1:List (List UInt8)→Int→Img→Rou→Prop} (kP1 :∀(out6:List (List UInt8))(t44:Int)(m0:Img)(m1:Rou),P1 out6 t44 m0 m1→I220_1 prog d Q t42 t43 out6 t44 m0 m1){o_out6 o_t42:Own}{v0:Nat}{v1:Nat}(H2:σ 2 = .p (d,0) v0 0)(H3:σ 3 = .p (d,1) v1 0)(H6:σ 6 = .sl o_out6 (List.map rowS out6))(H42:σ 42 = .sl o_t42 (List.map Dfr.row t42))(H43:σ 43 = .i .i64 t43)(H44:σ 44 = .i .i64 t44)(A6:ApM d st.ow o_out6 out6.length)(B0:lk st.bx (d,0) = some (v0,[.sl .ext (List.map Typ.row m0.types),.sl .ext (List.map rowS m0.texts),.sl .ext (List.map Fun.row m0.funcs)]))(B1:lk st.bx (d,1) = some (v1,[.i .u8 m1.status,.i .i64 m1.key,.sl .ext (List.map Frm.row m1.frames),.sl .ext (List.map Dfr.row m1.defers),.sl .ext (List.map Pan.row m1.panics)]))(h:T220_5 prog K P1 out6 t42 t43 t44 m0 m1):W prog d l220_1 σ st (thenW prog d (.loop l220_1) (blockW 2 (thenW prog d c220_4 Q))):=
 q_ rfl (b_ H44 H43 lss_ (e_ (sq_ (cs_ rfl (fun g'1=>sk_ (sq_ (bk_ (sq_ (W.reg ((h.1 g'1).2.elim fun c'2 e'3=>ia_ H42 H44 (h.1 g'1).1 e'3.1 (Dfr.row_eq c'2) rfl (lf_ rfl rfl rfl (s_alloc (so_ rfl (show lk _ (d,49154) = some (_,([.i .i64 0,.i .i64 0,.b false,.i .u8 0,.i .i64 0,.s [],.sl .full (List.map Val.row ([]:List Val)),.b false]:List AV)) from lk_here) rfl rfl rfl (e_ (q_ rfl (l_ H2 (lk_other rfl (lk_other rfl B0)) rfl rfl (l_ rfl lk_here rfl rfl (e'3.2.elim fun r'4 e'13=>e'13.elim fun r'5 e'6=>ca_ (sc rfl rfl (sc rfl rfl sn)) e'6.1 (m_ (x_ rfl rfl (x_ rfl rfl (m_ (m_ (e_ (sq_ (q_ rfl (m_ (b_ rfl rfl neq_ (e_ (cs_ rfl (fun g'7=>q_ rfl (m_ (s_mvL (f:=rowS) (l:=[]) rfl (m_ (e_ (rt_ (hQ _ _ _ _ _ rfl rfl (e'6.2.1 g'7)))))))) (fun g'7=>sk_ (W.reg0 rfl fun _ _=>s_mvL H6 (m_ (s_bslM (f:=rowS) (l:=[r'4]) rfl rfl (g_cons rfl rfl rfl g_nil) rfl (s_app rowS_len rfl rfl rfl A6.1 (e'6.2.2 g'7).1 rfl (fun o'8 ow'11 a'9 fr'10 on'12=>s_mvL rfl (e_ (W.reg0 rfl fun _ _=>b_ H44 rfl add_ (m_ (e_ (kP1 _ _ _ _ (e'6.2.2 g'7).2 _ _ _ _ _ _ H2 H3 rfl H42 H43 rfl (ApM.mk a'9 (Mine.app A6.2 rfl on'12)) (lk_other rfl (lk_other rfl B0)) (lk_other rfl (lk_other rfl B1))))))))))))))))))))))))))))))))))))))) (fun g'1=>ex_ (w220_6 hQ H3 H6 A6 B1 (h.2 g'1)))))))
theorem w220_4 {out6:List (List UInt8)}{m0:Img}{m1:Rou}{o_out6:Own}{v0:Nat}{v1:Nat}(H2:σ 2 = .p (d,0) v0 0)(H3:σ 3 = .p (d,1) v1 0)(H6:σ 6 = .sl o_out6 (List.map rowS out6))(A6:ApM d st.ow o_out6 out6.length)(B0:lk st.bx (d,0) = some (v0,[.sl .ext (List.map Typ.row m0.types),.sl .ext (List.map rowS m0.texts),.sl .ext (List.map Fun.row m0.funcs)]))(B1:lk st.bx (d,1) = some (v1,[.i .u8 m1.status,.i .i64 m1.key,.sl .ext (List.map Frm.row m1.frames),.sl .ext (List.map Dfr.row m1.defers),.sl .ext (List.map Pan.row m1.panics)]))(h:T220_4 prog K out6 m0 m1):W prog d c220_5 σ st Q:=
 sq_ (q_ rfl (f_ H3 (l_ rfl B1 rfl rfl (ll_ rfl (m_ (e_ (bk_ (h (I220_1 prog d Q m1.defers (m1.defers.length:Int)) (fun _ _ _ _ hb _ _ _ _ _ _ H2 H3 H6 H42 H43 H44 A6 B0 B1=>W.loop (w220_5 hQ (fun _ _ _ _ x=>x) H2 H3 H6 H42 H43 H44 A6 B0 B1 hb)) _ _ _ _ _ _ H2 H3 H6 rfl rfl rfl A6 B0 B1))))))))
theorem w220_3 {out6:List (List UInt8)}{t20:List Frm}{t21 t22:Int}{m0:Img}{m1:Rou}{P0:List (List UInt8)→Int→Img→Rou→Prop} (kP0 :∀(out6:List (List UInt8))(t22:Int)(m0:Img)(m1:Rou),P0 out6 t22 m0 m1→I220_0 prog d Q t20 t21 out6 t22 m0 m1){o_out6 o_t20:Own}{v0:Nat}{v1:Nat}(H2:σ 2 = .p (d,0) v0 0)(H3:σ 3 = .p (d,1) v1 0)(H6:σ 6 = .sl o_out6 (List.map rowS out6))(H20:σ 20 = .sl o_t20 (List.map Frm.row t20))(H21:σ 21 = .i .i64 t21)(H22:σ 22 = .i .i64 t22)(A6:ApM d st.ow o_out6 out6.length)(B0:lk st.bx (d,0) = some (v0,[.sl .ext (List.map Typ.row m0.types),.sl .ext (List.map rowS m0.texts),.sl .ext (List.map Fun.row m0.funcs)]))(B1:lk st.bx (d,1) = some (v1,[.i .u8 m1.status,.i .i64 m1.key,.sl .ext (List.map Frm.row m1.frames),.sl .ext (List.map Dfr.row m1.defers),.sl .ext (List.map Pan.row m1.panics)]))(h:T220_3 prog K P0 out6 t20 t21 t22 m0 m1):W prog d l220_0 σ st (thenW prog d (.loop l220_0) (blockW 0 (thenW prog d c220_5 Q))):=
 q_ rfl (b_ H22 H21 lss_ (e_ (sq_ (cs_ rfl (fun g'1=>sk_ (sq_ (bk_ (sq_ (W.reg (m_ ((h.1 g'1).2.elim fun c'2 e'3=>ia_ H20 H22 (h.1 g'1).1 e'3.1 (Frm.row_eq c'2) rfl (lf_ rfl rfl rfl (s_alloc (m_ (so_ rfl (show lk _ (d,16387) = some (_,([.i .i64 0,.i .i64 0,.i .u64 0,.sl .full (List.map Loc.row ([]:List Loc))]:List AV)) from lk_here) rfl rfl rfl (e_ (q_ rfl (l_ H2 (lk_other rfl (lk_other rfl B0)) rfl rfl (m_ (l_ rfl lk_here rfl rfl (e'3.2.elim fun r'4 e'13=>e'13.elim fun r'5 e'6=>ca_ (sc rfl rfl (sc H22 rfl (sc rfl rfl sn))) e'6.1 (m_ (x_ rfl rfl (x_ rfl rfl (s_mvL rfl (m_ (e_ (sq_ (q_ rfl (m_ (b_ rfl rfl neq_ (e_ (cs_ rfl (fun g'7=>q_ rfl (m_ (s_mvL (f:=rowS) (l:=[]) rfl (m_ (e_ (rt_ (hQ _ _ _ _ _ rfl rfl (e'6.2.1 g'7)))))))) (fun g'7=>sk_ (W.reg0 rfl fun _ _=>s_mvL H6 (s_mvL rfl (s_app rowS_len rfl rfl rfl A6.1 (e'6.2.2 g'7).1 rfl (fun o'8 ow'11 a'9 fr'10 on'12=>s_mvL rfl (e_ (W.reg0 rfl fun _ _=>b_ H22 rfl add_ (m_ (e_ (kP0 _ _ _ _ (e'6.2.2 g'7).2 _ _ _ _ _ _ H2 H3 rfl H20 H21 rfl (ApM.mk a'9 (Mine.app A6.2 rfl on'12)) (lk_other rfl (lk_other rfl B0)) (lk_other rfl (lk_other rfl B1))))))))))))))))))))))))))))))))))))))))) (fun g'1=>ex_ (w220_4 hQ H2 H3 H6 A6 B0 B1 (h.2 g'1)))))))
theorem w220_2 {out6:List (List UInt8)}{m0:Img}{m1:Rou}{o_out6:Own}{v0:Nat}{v1:Nat}(H2:σ 2 = .p (d,0) v0 0)(H3:σ 3 = .p (d,1) v1 0)(H6:σ 6 = .sl o_out6 (List.map rowS out6))(A6:ApM d st.ow o_out6 out6.length)(B0:lk st.bx (d,0) = some (v0,[.sl .ext (List.map Typ.row m0.types),.sl .ext (List.map rowS m0.texts),.sl .ext (List.map Fun.row m0.funcs)]))(B1:lk st.bx (d,1) = some (v1,[.i .u8 m1.status,.i .i64 m1.key,.sl .ext (List.map Frm.row m1.frames),.sl .ext (List.map Dfr.row m1.defers),.sl .ext (List.map Pan.row m1.panics)]))(h:T220_2 prog K out6 m0 m1):W prog d c220_6 σ st Q:=
 sq_ (q_ rfl (f_ H3 (l_ rfl B1 rfl rfl (ll_ rfl (m_ (e_ (bk_ (h (I220_0 prog d Q m1.frames (m1.frames.length:Int)) (fun _ _ _ _ hb _ _ _ _ _ _ H2 H3 H6 H20 H21 H22 A6 B0 B1=>W.loop (w220_3 hQ (fun _ _ _ _ x=>x) H2 H3 H6 H20 H21 H22 A6 B0 B1 hb)) _ _ _ _ _ _ H2 H3 H6 rfl rfl rfl A6 B0 B1))))))))
theorem w220_1 {m0:Img}{m1:Rou}{v0:Nat}{v1:Nat}(H2:σ 2 = .p (d,0) v0 0)(H3:σ 3 = .p (d,1) v1 0)(B0:lk st.bx (d,0) = some (v0,[.sl .ext (List.map Typ.row m0.types),.sl .ext (List.map rowS m0.texts),.sl .ext (List.map Fun.row m0.funcs)]))(B1:lk st.bx (d,1) = some (v1,[.i .u8 m1.status,.i .i64 m1.key,.sl .ext (List.map Frm.row m1.frames),.sl .ext (List.map Dfr.row m1.defers),.sl .ext (List.map Pan.row m1.panics)]))(h:T220_1 prog K m0 m1):W prog d c220_7 σ st Q:=
 q_ rfl (s_mvL (f:=rowS) (l:=[]) rfl (e_ (w220_2 hQ H2 H3 rfl ApM.full B0 B1 h)))
theorem w220_0 {m0:Img}{x1:Rou}(H0:σ 0 = m0.av)(H1:σ 1 = x1.av)(h:T220_0 prog K m0 x1):W prog d (.seq (.reg 0 r220_0) c220_7) σ st Q:=
 q_ rfl (s_box H0 rfl (s_box H1 rfl (s_mvL (f:=rowS) (l:=[]) rfl (m_ (e_ (w220_1 hQ rfl rfl (lk_other rfl lk_here) lk_here h))))))
end
theorem p220 {prog:Prog}(hf:prog.fn 220 = some pf220){m0:Img}{x1:Rou}{K:List (List UInt8)→Int→Prop}(h:T220_0 prog K m0 x1) :∃res0:List (List UInt8),∃res1:Int,K res0 res1∧Pus prog 220 [m0.av,x1.av] (.tup [.sl .ext (List.map rowS res0),.i .i64 res1]):=by
  obtain ⟨v,hv,res0,res1,hk,rfl⟩:=Pus.of (K:=fun v=>∃res0:List (List UInt8),∃res1:Int,K res0 res1∧v = .tup [.sl .ext (List.map rowS res0),.i .i64 res1]) hf rfl (w220_0 (σ:=sl0 [m0.av,x1.av]) (fun σ st  o0 res0 res1 H4 H5 hk=>⟨.tup [.sl o0 (List.map rowS res0),.i .i64 res1],by simp only [pf220,ares,aresL,H4,H5,ares1,Option.map_some],_,rfl,res0,res1,hk,rfl⟩) rfl rfl h)
  exact ⟨res0,res1,hk,hv⟩
def r207_0:List AI:=[oO 3 (.box 3 (.t 0)),
 oO 5 (.box 5 (.t 2)),
 oC 6 (.sl .full []),
 oC 7 (.i .i64 0)]
def r207_1:List AI:=[oM 13 1,
 oB 14 .lss (.t 13) (.c (.i .i64 0)),
 oM 15 14,
 oG 16 (.mv (.t 1)) 15 false,
 oG 17 (.bin .geq (.t 16) (.c (.i .i64 16))) 15 false,
 oO 18 (.pick (.t 15) (.c (.b true)) (.t 17))]
def r207_2:List AI:=[oC 6 (.sl .full []),
 oC 7 (.i .i64 2)]
def r207_3:List AI:=[oO 19 (.load 3 true (.t 3)),
 oO 20 (.load 5 true (.t 5)),
 oO 21 (.call false 219 [(.t 19),(.t 20)]),
 oO 22 (.un .not (.t 21))]
def r207_4:List AI:=[oC 6 (.sl .full []),
 oC 7 (.i .i64 8)]
def r207_5:List AI:=[oO 24 (.load 3 true (.t 3)),
 oO 25 (.load 5 true (.t 5)),
 oO 26 (.call false 220 [(.t 24),(.t 25)]),
 oM 23 26,
 oE 27 0 23,
 oE 28 1 23,
 oM 8 27,
 oM 9 28]
def r207_6:List AI:=[oM 29 9,
 oB 30 .neq (.t 29) (.c (.i .i64 0))]
def r207_7:List AI:=[oM 31 9,
 oC 6 (.sl .full []),
 oM 7 31]
def r207_8:List AI:=[oM 32 1,
 oO 33 (.call false 216 [(.t 32)]),
 oB 34 .add (.c (.s [103,111,114,111,117,116,105,110,101,32])) (.t 33),
 oB 35 .add (.t 34) (.c (.s [58,32])),
 oF 36 1 5,
 oL 37 36,
 oO 38 (.call false 15 [(.t 37)]),
 oB 39 .add (.c (.s [98,108,111,99,107,101,100,32])) (.t 38),
 oO 40 (.build [.s [],.s [],.s [],.s []] [(1,1,(.c (.s [114,101,97,100,121]))),(3,1,(.c (.s [100,111,110,101]))),(2,1,(.t 39))]),
 oF 41 0 5,
 oL 42 41,
 oO 43 (.ixA 4 1 false (.t 40) (.t 42)),
 oB 44 .add (.t 35) (.t 43),
 oO 45 (.bslice [.s []] 1 [(0,(.t 44))]),
 oM 10 45]
def r207_9:List AI:=[oM 46 8,
 oO 47 (.len false (.t 46)),
 oC 48 (.i .i64 0)]
def r207_10:List AI:=[oB 49 .lss (.t 48) (.t 47)]
def r207_11:List AI:=[oO 50 (.iaL 1 (.t 46) (.t 48)),
 oL 51 50,
 oM 12 51]
def r207_12:List AI:=[oM 52 10,
 oM 53 12,
 oB 54 .add (.c (.s [32,32])) (.t 53),
 oO 55 (.bslice [.s []] 1 [(0,(.t 54))]),
 oO 56 (.app 1 16 (.t 52) (.t 55)),
 oM 10 56]
def r207_13:List AI:=[oB 57 .add (.t 48) (.c (.i .i64 1)),
 oM 48 57]
def r207_14:List AI:=[oM 58 10,
 oM 6 58,
 oC 7 (.i .i64 0)]
abbrev l207_0:AC:=(.seq (.reg 10 r207_10) (.seq (.cond (.t 49) .skip (.exit 0)) (.seq (.block 1 (.seq (.reg 11 r207_11) (.reg 12 r207_12))) (.reg 13 r207_13))))
abbrev c207_1:AC:=(.seq (.reg 14 r207_14) .ret)
abbrev c207_2:AC:=(.seq (.seq (.reg 3 r207_3) (.cond (.t 22) (.seq (.reg 4 r207_4) .ret) .skip)) (.seq (.reg 5 r207_5) (.seq (.seq (.reg 6 r207_6) (.cond (.t 30) (.seq (.reg 7 r207_7) .ret) .skip)) (.seq (.reg 8 r207_8) (.seq (.seq (.reg 9 r207_9) (.block 0 (.loop l207_0))) c207_1)))))
abbrev b207:AC:=(.seq (.reg 0 r207_0) (.seq (.seq (.reg 1 r207_1) (.cond (.t 18) (.seq (.reg 2 r207_2) .ret) .skip)) c207_2))
def pf207:AF:={ nt:=59,res:=[.tmp 6,.tmp 7],body:=b207 }
abbrev H207 (Q:AE→Sl→St→Prop)(K:List (List UInt8)→Int→Prop):Prop:=∀(σ:Sl)(st:St)(o0:Own)(res0:List (List UInt8))(res1:Int),σ 6 = .sl o0 (List.map rowS res0)→σ 7 = .i .i64 res1→K res0 res1→Q .ret σ st
abbrev I207_0 (prog:Prog)(d:Nat)(Q:AE→Sl→St→Prop)(t46:List (List UInt8))(t47:Int)(out10:List (List UInt8))(t48:Int):Prop:=
  ∀(σ:Sl)(st:St) (o_out10 o_t46:Own),σ 10 = .sl o_out10 (List.map rowS out10)→σ 46 = .sl o_t46 (List.map rowS t46)→σ 47 = .i .i64 t47→σ 48 = .i .i64 t48→ApM d st.ow o_out10 out10.length→W prog d (.loop l207_0) σ st (blockW 0 (thenW prog d c207_1 Q))
def T207_3 (prog:Prog)(K:List (List UInt8)→Int→Prop)(out10:List (List UInt8)):Prop:=
  K out10 0
def T207_2 (prog:Prog)(K:List (List UInt8)→Int→Prop)(P0:List (List UInt8)→Int→Prop)(out10:List (List UInt8))(t46:List (List UInt8))(t47:Int)(t48:Int):Prop:=
  (t48 < t47→0≤t48∧∃c'2:List UInt8,t46[(t48).toNat]? = some c'2∧([32,32]:List UInt8).length + c'2.length≤maxStr∧Fit (out10.length + [(([32,32]:List UInt8) ++ c'2)].length) 16∧P0 (out10 ++ [(([32,32]:List UInt8) ++ c'2)]) (IntKind.i64.wrap (t48 + 1)))∧(¬(t48 < t47)→T207_3 prog K out10)
def T207_1 (prog:Prog)(K:List (List UInt8)→Int→Prop)(g1:Int)(m0:Img)(m1:Rou):Prop:=
  ∃r'1:Bool,Pus prog 219 [m0.av,m1.av] (.b r'1)∧((!r'1) = true→K ([]:List (List UInt8)) 8)∧((!r'1) = false→∃r'4:List (List UInt8),∃r'5:Int,Pus prog 220 [m0.av,m1.av] (.tup [.sl .ext (List.map rowS r'4),.i .i64 r'5])∧(r'5≠0→K ([]:List (List UInt8)) r'5)∧(¬(r'5≠0)→∃r'8:List UInt8,Pus prog 216 [.i .i64 g1] (.s r'8)∧([103,111,114,111,117,116,105,110,101,32]:List UInt8).length + r'8.length≤maxStr∧(([103,111,114,111,117,116,105,110,101,32]:List UInt8) ++ r'8).length + ([58,32]:List UInt8).length≤maxStr∧∃r'10:List UInt8,Pus prog 15 [.i .i64 m1.key] (.s r'10)∧([98,108,111,99,107,101,100,32]:List UInt8).length + r'10.length≤maxStr∧0≤m1.status∧∃c'12:List UInt8,([[],([114,101,97,100,121]:List UInt8),(([98,108,111,99,107,101,100,32]:List UInt8) ++ r'10),([100,111,110,101]:List UInt8)]:List (List UInt8))[(m1.status).toNat]? = some c'12∧((([103,111,114,111,117,116,105,110,101,32]:List UInt8) ++ r'8) ++ ([58,32]:List UInt8)).length + c'12.length≤maxStr∧∀P0:List (List UInt8)→Int→Prop,(∀(out10:List (List UInt8))(t48:Int),T207_2 prog K P0 out10 r'4 (r'4.length:Int) t48→P0 out10 t48)→P0 [(((([103,111,114,111,117,116,105,110,101,32]:List UInt8) ++ r'8) ++ ([58,32]:List UInt8)) ++ c'12)] 0))
def T207_0 (prog:Prog)(K:List (List UInt8)→Int→Prop)(m0:Img)(g1:Int)(x2:Rou):Prop:=
  (g1 < 0→K ([]:List (List UInt8)) 2)∧(¬(g1 < 0)→(g1 ≥ 16→K ([]:List (List UInt8)) 2)∧(¬(g1 ≥ 16)→T207_1 prog K g1 m0 x2))
section
variable {prog:Prog}{d:Nat}{Q:AE→Sl→St→Prop}{K:List (List UInt8)→Int→Prop}(hQ:H207 Q K){σ:Sl}{st:St}
include hQ
theorem w207_3 {out10:List (List UInt8)}{o_out10:Own}(H10:σ 10 = .sl o_out10 (List.map rowS out10))(A10:ApM d st.ow o_out10 out10.length)(h:T207_3 prog K out10):W prog d c207_1 σ st Q:=
 q_ rfl (s_mvL H10 (s_mvL rfl (m_ (e_ (rt_ (hQ _ _ _ _ _ rfl rfl h))))))
theorem w207_2 {out10 t46:List (List UInt8)}{t47 t48:Int}{P0:List (List UInt8)→Int→Prop} (kP0 :∀(out10:List (List UInt8))(t48:Int),P0 out10 t48→I207_0 prog d Q t46 t47 out10 t48){o_out10 o_t46:Own}(H10:σ 10 = .sl o_out10 (List.map rowS out10))(H46:σ 46 = .sl o_t46 (List.map rowS t46))(H47:σ 47 = .i .i64 t47)(H48:σ 48 = .i .i64 t48)(A10:ApM d st.ow o_out10 out10.length)(h:T207_2 prog K P0 out10 t46 t47 t48):W prog d l207_0 σ st (thenW prog d (.loop l207_0) (blockW 0 (thenW prog d c207_1 Q))):=
 q_ rfl (b_ H48 H47 lss_ (e_ (sq_ (cs_ rfl (fun g'1=>sk_ (sq_ (bk_ (q_ rfl ((h.1 g'1).2.elim fun c'2 e'3=>ia_ H46 H48 (h.1 g'1).1 e'3.1 rfl rfl (lf_ rfl rfl rfl (m_ (e_ (W.reg0 rfl fun _ _=>s_mvL H10 (m_ (b_ rfl rfl (abin_cat' e'3.2.1) (s_bslM (f:=rowS) (l:=[(([32,32]:List UInt8) ++ c'2)]) rfl rfl (g_cons rfl rfl rfl g_nil) rfl (s_app rowS_len rfl rfl rfl A10.1 e'3.2.2.1 rfl (fun o'4 ow'7 a'5 fr'6 on'8=>s_mvL rfl (e_ (W.reg0 rfl fun _ _=>b_ H48 rfl add_ (m_ (e_ (kP0 _ _ e'3.2.2.2 _ _ _ _ rfl H46 H47 rfl (ApM.mk a'5 (Mine.app A10.2 rfl on'8))))))))))))))))))))) (fun g'1=>ex_ (w207_3 hQ H10 A10 (h.2 g'1)))))))
theorem w207_1 {g1:Int}{m0:Img}{m1:Rou}{v0:Nat}{v1:Nat}(H1:σ 1 = .i .i64 g1)(H3:σ 3 = .p (d,0) v0 0)(H5:σ 5 = .p (d,1) v1 0)(B0:lk st.bx (d,0) = some (v0,[.sl .ext (List.map Typ.row m0.types),.sl .ext (List.map rowS m0.texts),.sl .ext (List.map Fun.row m0.funcs)]))(B1:lk st.bx (d,1) = some (v1,[.i .u8 m1.status,.i .i64 m1.key,.sl .ext (List.map Frm.row m1.frames),.sl .ext (List.map Dfr.row m1.defers),.sl .ext (List.map Pan.row m1.panics)]))(h:T207_1 prog K g1 m0 m1):W prog d c207_2 σ st Q:=
 sq_ (q_ rfl (l_ H3 B0 rfl rfl (l_ H5 B1 rfl rfl (h.elim fun r'1 e'2=>ca_ (sc rfl rfl (sc rfl rfl sn)) e'2.1 (nt_ rfl (e_ (cb_ rfl (fun g'3=>q_ rfl (s_mvL (f:=rowS) (l:=[]) rfl (m_ (e_ (rt_ (hQ _ _ _ _ _ rfl rfl (e'2.2.1 g'3))))))) (fun g'3=>sk_ (q_ rfl (l_ H3 B0 rfl rfl (l_ H5 B1 rfl rfl ((e'2.2.2 g'3).elim fun r'4 e'14=>e'14.elim fun r'5 e'6=>ca_ (sc rfl rfl (sc rfl rfl sn)) e'6.1 (m_ (x_ rfl rfl (x_ rfl rfl (s_mvL rfl (m_ (e_ (sq_ (q_ rfl (m_ (b_ rfl rfl neq_ (e_ (cs_ rfl (fun g'7=>q_ rfl (m_ (s_mvL (f:=rowS) (l:=[]) rfl (m_ (e_ (rt_ (hQ _ _ _ _ _ rfl rfl (e'6.2.1 g'7)))))))) (fun g'7=>sk_ (q_ rfl (m_ ((e'6.2.2 g'7).elim fun r'8 e'9=>ca_ (sc H1 rfl sn) e'9.1 (b_ rfl rfl (abin_cat' e'9.2.1) (b_ rfl rfl (abin_cat' e'9.2.2.1) (f_ H5 (l_ rfl B1 rfl rfl (e'9.2.2.2.elim fun r'10 e'11=>ca_ (sc rfl rfl sn) e'11.1 (b_ rfl rfl (abin_cat' e'11.2.1) (s_buildM (f:=AV.s) (l:=[[],([114,101,97,100,121]:List UInt8),(([98,108,111,99,107,101,100,32]:List UInt8) ++ r'10),([100,111,110,101]:List UInt8)]) (f_cons rfl rfl (f_cons rfl rfl (f_cons rfl rfl f_nil))) rfl (f_ H5 (l_ rfl B1 rfl rfl (e'11.2.2.2.elim fun c'12 e'13=>s_ixA (f:=AV.s) rfl rfl rfl e'11.2.2.1 e'13.1 (b_ rfl rfl (abin_cat' e'13.2.1) (s_bslM (f:=rowS) (l:=[(((([103,111,114,111,117,116,105,110,101,32]:List UInt8) ++ r'8) ++ ([58,32]:List UInt8)) ++ c'12)]) rfl rfl (g_cons rfl rfl rfl g_nil) rfl (s_mvL rfl (e_ (sq_ (q_ rfl (s_mvL rfl (ll_ rfl (m_ (e_ (bk_ (e'13.2.2 (I207_0 prog d Q r'4 (r'4.length:Int)) (fun _ _ hb _ _ _ _ H10 H46 H47 H48 A10=>W.loop (w207_2 hQ (fun _ _ x=>x) H10 H46 H47 H48 A10 hb)) _ _ _ _ rfl rfl rfl rfl ApM.full))))))))))))))))))))))))))))))))))))))))))))))))))
theorem w207_0 {m0:Img}{g1:Int}{x2:Rou}(H0:σ 0 = m0.av)(H1:σ 1 = .i .i64 g1)(H2:σ 2 = x2.av)(h:T207_0 prog K m0 g1 x2):W prog d (.seq (.reg 0 r207_0) (.seq (.seq (.reg 1 r207_1) (.cond (.t 18) (.seq (.reg 2 r207_2) .ret) .skip)) c207_2)) σ st Q:=
 q_ rfl (s_box H0 rfl (s_box H2 rfl (s_mvL (f:=rowS) (l:=[]) rfl (m_ (e_ (sq_ (q_ rfl (s_mvI H1 (b_ rfl rfl lss_ (s_mvB rfl (em_ (g:=15) rfl (fun g'1=>gn_ (b:=true) rfl rfl (gn_ (b:=true) rfl rfl (pt_ rfl rfl (e_ (ct_ rfl (q_ rfl (s_mvL (f:=rowS) (l:=[]) rfl (m_ (e_ (rt_ (hQ _ _ _ _ _ rfl rfl (h.1 g'1)))))))))))) (fun g'1=>gy_ rfl (s_mvI H1 (gy_ rfl (b_ rfl rfl geq_ (pf_ rfl rfl (e_ (cs_ rfl (fun g'2=>q_ rfl (s_mvL (f:=rowS) (l:=[]) rfl (m_ (e_ (rt_ (hQ _ _ _ _ _ rfl rfl ((h.2 g'1).1 g'2))))))) (fun g'2=>sk_ (w207_1 hQ H1 rfl rfl (lk_other rfl lk_here) lk_here ((h.2 g'1).2 g'2)))))))))))))))))))))
end
theorem p207 {prog:Prog}(hf:prog.fn 207 = some pf207){m0:Img}{g1:Int}{x2:Rou}{K:List (List UInt8)→Int→Prop}(h:T207_0 prog K m0 g1 x2) :∃res0:List (List UInt8),∃res1:Int,K res0 res1∧Pus prog 207 [m0.av,.i .i64 g1,x2.av] (.tup [.sl .ext (List.map rowS res0),.i .i64 res1]):=by
  obtain ⟨v,hv,res0,res1,hk,rfl⟩:=Pus.of (K:=fun v=>∃res0:List (List UInt8),∃res1:Int,K res0 res1∧v = .tup [.sl .ext (List.map rowS res0),.i .i64 res1]) hf rfl (w207_0 (σ:=sl0 [m0.av,.i .i64 g1,x2.av]) (fun σ st  o0 res0 res1 H6 H7 hk=>⟨.tup [.sl o0 (List.map rowS res0),.i .i64 res1],by simp only [pf207,ares,aresL,H6,H7,ares1,Option.map_some],_,rfl,res0,res1,hk,rfl⟩) rfl rfl rfl h)
  exact ⟨res0,res1,hk,hv⟩
abbrev H222 (Q:AE→Sl→St→Prop)(K:List (List UInt8)→Prop):Prop:=∀(σ:Sl)(st:St)(o0:Own)(res0:List (List UInt8)),σ 6 = .sl o0 (List.map rowS res0)→K res0→Q .ret σ st
section
variable {prog:Prog}{d:Nat}{Q:AE→Sl→St→Prop}{K:List (List UInt8)→Prop}(hQ:H222 Q K){σ:Sl}{st:St}
include hQ
end
abbrev H208 (Q:AE→Sl→St→Prop)(K:List (List UInt8)→Int→Prop):Prop:=∀(σ:Sl)(st:St)(o0:Own)(res0:List (List UInt8))(res1:Int),σ 6 = .sl o0 (List.map rowS res0)→σ 7 = .i .i64 res1→K res0 res1→Q .ret σ st
section
variable {prog:Prog}{d:Nat}{Q:AE→Sl→St→Prop}{K:List (List UInt8)→Int→Prop}(hQ:H208 Q K){σ:Sl}{st:St}
include hQ
end
abbrev H205 (Q:AE→Sl→St→Prop)(K:List UInt8→Int→Prop):Prop:=∀(σ:Sl)(st:St)(res0:List UInt8)(res1:Int),σ 4 = .s res0→σ 5 = .i .i64 res1→K res0 res1→Q .ret σ st
section
variable {prog:Prog}{d:Nat}{Q:AE→Sl→St→Prop}{K:List UInt8→Int→Prop}(hQ:H205 Q K){σ:Sl}{st:St}
include hQ
end
abbrev H218 (Q:AE→Sl→St→Prop)(K:List UInt8→Prop):Prop:=∀(σ:Sl)(st:St)(res0:List UInt8),σ 4 = .s res0→K res0→Q .ret σ st
section
variable {prog:Prog}{d:Nat}{Q:AE→Sl→St→Prop}{K:List UInt8→Prop}(hQ:H218 Q K){σ:Sl}{st:St}
include hQ
end
abbrev H206 (Q:AE→Sl→St→Prop)(K:List UInt8→Int→Prop):Prop:=∀(σ:Sl)(st:St)(res0:List UInt8)(res1:Int),σ 4 = .s res0→σ 5 = .i .i64 res1→K res0 res1→Q .ret σ st
section
variable {prog:Prog}{d:Nat}{Q:AE→Sl→St→Prop}{K:List UInt8→Int→Prop}(hQ:H206 Q K){σ:Sl}{st:St}
include hQ
end
end Go.AM

/- Parts of the proof. -/
namespace Go.AM
open Go
set_option linter.unusedVariables false
set_option linter.unusedSimpArgs false
set_option maxRecDepth 4000
attribute [local irreducible] WO fillCells fillRows
abbrev H203 (Q:AE→Sl→St→Prop)(K:Bool→Prop):Prop:=∀(σ:Sl)(st:St)(res0:Bool),σ 2 = .b res0→K res0→Q .ret σ st
section
variable {prog:Prog}{d:Nat}{Q:AE→Sl→St→Prop}{K:Bool→Prop}(hQ:H203 Q K){σ:Sl}{st:St}
include hQ
end
abbrev H204 (Q:AE→Sl→St→Prop)(K:Bool→Prop):Prop:=∀(σ:Sl)(st:St)(res0:Bool),σ 2 = .b res0→K res0→Q .ret σ st
section
variable {prog:Prog}{d:Nat}{Q:AE→Sl→St→Prop}{K:Bool→Prop}(hQ:H204 Q K){σ:Sl}{st:St}
include hQ
end
abbrev H202 (Q:AE→Sl→St→Prop)(K:Bool→Prop):Prop:=∀(σ:Sl)(st:St)(res0:Bool),σ 12 = .b res0→K res0→Q .ret σ st
section
variable {prog:Prog}{d:Nat}{Q:AE→Sl→St→Prop}{K:Bool→Prop}(hQ:H202 Q K){σ:Sl}{st:St}
include hQ
end
end Go.AM

/- Parts of the proof. -/
namespace Go.AM
open Go
end Go.AM

/- Parts of the proof. -/
namespace Go.AM
open Go
set_option linter.unusedVariables false
set_option linter.unusedSimpArgs false
set_option maxRecDepth 4000
attribute [local irreducible] WO fillCells fillRows
def r258_0:List AI:=[oC 2 (.s [])]
def r258_1:List AI:=[oM 3 0,
 oO 4 (.call false 15 [(.t 3)]),
 oM 2 4]
abbrev b258:AC:=(.seq (.reg 0 r258_0) (.seq (.reg 1 r258_1) .ret))
def pf258:AF:={ nt:=5,res:=[.tmp 2],body:=b258 }
abbrev H258 (Q:AE→Sl→St→Prop)(K:List UInt8→Prop):Prop:=∀(σ:Sl)(st:St)(res0:List UInt8),σ 2 = .s res0→K res0→Q .ret σ st
def T258_0 (prog:Prog)(K:List UInt8→Prop)(n0:Int):Prop:=
  ∃r'1:List UInt8,Pus prog 15 [.i .i64 n0] (.s r'1)∧K r'1
section
variable {prog:Prog}{d:Nat}{Q:AE→Sl→St→Prop}{K:List UInt8→Prop}(hQ:H258 Q K){σ:Sl}{st:St}
include hQ
theorem w258_0 {n0:Int}(H0:σ 0 = .i .i64 n0)(h:T258_0 prog K n0):W prog d (.seq (.reg 0 r258_0) (.seq (.reg 1 r258_1) .ret)) σ st Q:=
 q_ rfl (m_ (e_ (q_ rfl (m_ (h.elim fun r'1 e'2=>ca_ (sc H0 rfl sn) e'2.1 (m_ (e_ (rt_ (hQ _ _ _ rfl e'2.2)))))))))
end
theorem p258 {prog:Prog}(hf:prog.fn 258 = some pf258){n0:Int}{K:List UInt8→Prop}(h:T258_0 prog K n0) :∃res0:List UInt8,K res0∧Pus prog 258 [.i .i64 n0] (.s res0):=by
  obtain ⟨v,hv,res0,hk,rfl⟩:=Pus.of (K:=fun v=>∃res0:List UInt8,K res0∧v = .s res0) hf rfl (w258_0 (σ:=sl0 [.i .i64 n0]) (fun σ st   res0 H2 hk=>⟨.s res0,by simp only [pf258,ares,aresL,H2,ares1,Option.map_some],_,rfl,res0,hk,rfl⟩) rfl h)
  exact ⟨res0,hk,hv⟩
abbrev H263 (Q:AE→Sl→St→Prop)(K:List (List UInt8)→Prop):Prop:=∀(σ:Sl)(st:St)(o0:Own)(res0:List (List UInt8)),σ 0 = .sl o0 (List.map rowS res0)→K res0→Q .ret σ st
section
variable {prog:Prog}{d:Nat}{Q:AE→Sl→St→Prop}{K:List (List UInt8)→Prop}(hQ:H263 Q K){σ:Sl}{st:St}
include hQ
end
abbrev H265 (Q:AE→Sl→St→Prop)(K:List UInt8→Prop):Prop:=∀(σ:Sl)(st:St)(res0:List UInt8),σ 2 = .s res0→K res0→Q .ret σ st
section
variable {prog:Prog}{d:Nat}{Q:AE→Sl→St→Prop}{K:List UInt8→Prop}(hQ:H265 Q K){σ:Sl}{st:St}
include hQ
end
def r266_0:List AI:=[oC 4 (.s []),
 oC 5 (.s []),
 oC 6 (.b false)]
def r266_1:List AI:=[oM 8 0,
 oM 9 1,
 oO 10 (.call false 197 [(.t 8),(.t 9)]),
 oM 7 10]
def r266_2:List AI:=[oM 11 7,
 oB 12 .geq (.t 11) (.c (.i .i64 0))]
def r266_3:List AI:=[oM 13 0,
 oM 14 7,
 oO 15 (.slS (.t 13) none (some (.t 14))),
 oM 16 0,
 oM 17 7,
 oM 18 1,
 oO 19 (.len true (.t 18)),
 oB 20 .add (.t 17) (.t 19),
 oO 21 (.slS (.t 16) (some (.t 20)) none),
 oM 4 15,
 oM 5 21,
 oC 6 (.b true)]
def r266_4:List AI:=[oM 22 0,
 oM 4 22,
 oC 5 (.s []),
 oC 6 (.b false)]
abbrev b266:AC:=(.seq (.reg 0 r266_0) (.seq (.seq (.reg 1 r266_1) (.seq (.reg 2 r266_2) (.cond (.t 12) (.seq (.reg 3 r266_3) .ret) .skip))) (.seq (.reg 4 r266_4) .ret)))
def pf266:AF:={ nt:=23,res:=[.tmp 4,.tmp 5,.tmp 6],body:=b266 }
abbrev H266 (Q:AE→Sl→St→Prop)(K:List UInt8→List UInt8→Bool→Prop):Prop:=∀(σ:Sl)(st:St)(res0:List UInt8)(res1:List UInt8)(res2:Bool),σ 4 = .s res0→σ 5 = .s res1→σ 6 = .b res2→K res0 res1 res2→Q .ret σ st
def T266_0 (prog:Prog)(K:List UInt8→List UInt8→Bool→Prop)(s0:List UInt8)(sep1:List UInt8):Prop:=
  ∃r'1:Int,Pus prog 197 [.s s0,.s sep1] (.i .i64 r'1)∧(r'1 ≥ 0→0≤r'1∧(r'1).toNat≤s0.length∧0≤(IntKind.i64.wrap (r'1 + (sep1.length:Int)))∧(IntKind.i64.wrap (r'1 + (sep1.length:Int))).toNat≤s0.length∧K (s0.take (r'1).toNat) (s0.drop (IntKind.i64.wrap (r'1 + (sep1.length:Int))).toNat) true)∧(¬(r'1 ≥ 0)→K s0 ([]:List UInt8) false)
section
variable {prog:Prog}{d:Nat}{Q:AE→Sl→St→Prop}{K:List UInt8→List UInt8→Bool→Prop}(hQ:H266 Q K){σ:Sl}{st:St}
include hQ
theorem w266_0 {s0 sep1:List UInt8}(H0:σ 0 = .s s0)(H1:σ 1 = .s sep1)(h:T266_0 prog K s0 sep1):W prog d (.seq (.reg 0 r266_0) (.seq (.seq (.reg 1 r266_1) (.seq (.reg 2 r266_2) (.cond (.t 12) (.seq (.reg 3 r266_3) .ret) .skip))) (.seq (.reg 4 r266_4) .ret))) σ st Q:=
 q_ rfl (m_ (m_ (m_ (e_ (sq_ (q_ rfl (m_ (m_ (h.elim fun r'1 e'2=>ca_ (sc H0 rfl (sc H1 rfl sn)) e'2.1 (m_ (e_ (q_ rfl (m_ (b_ rfl rfl geq_ (e_ (cs_ rfl (fun g'3=>q_ rfl (m_ (m_ (s_slS_hi H0 rfl (e'2.2.1 g'3).1 (e'2.2.1 g'3).2.1 (m_ (m_ (m_ (ln_ H1 (b_ rfl rfl add_ (s_slS_lo H0 rfl (e'2.2.1 g'3).2.2.1 (e'2.2.1 g'3).2.2.2.1 (m_ (m_ (m_ (e_ (rt_ (hQ _ _ _ _ _ rfl rfl rfl (e'2.2.1 g'3).2.2.2.2)))))))))))))))) (fun g'3=>sk_ (q_ rfl (m_ (m_ (m_ (m_ (e_ (rt_ (hQ _ _ _ _ _ H0 rfl rfl (e'2.2.2 g'3))))))))))))))))))))))))))
end
theorem p266 {prog:Prog}(hf:prog.fn 266 = some pf266){s0:List UInt8}{sep1:List UInt8}{K:List UInt8→List UInt8→Bool→Prop}(h:T266_0 prog K s0 sep1) :∃res0:List UInt8,∃res1:List UInt8,∃res2:Bool,K res0 res1 res2∧Pus prog 266 [.s s0,.s sep1] (.tup [.s res0,.s res1,.b res2]):=by
  obtain ⟨v,hv,res0,res1,res2,hk,rfl⟩:=Pus.of (K:=fun v=>∃res0:List UInt8,∃res1:List UInt8,∃res2:Bool,K res0 res1 res2∧v = .tup [.s res0,.s res1,.b res2]) hf rfl (w266_0 (σ:=sl0 [.s s0,.s sep1]) (fun σ st   res0 res1 res2 H4 H5 H6 hk=>⟨.tup [.s res0,.s res1,.b res2],by simp only [pf266,ares,aresL,H4,H5,H6,ares1,Option.map_some],_,rfl,res0,res1,res2,hk,rfl⟩) rfl rfl h)
  exact ⟨res0,res1,res2,hk,hv⟩
def r260_0:List AI:=[oC 4 (.s []),
 oC 5 (.s []),
 oC 6 (.b false)]
def r260_1:List AI:=[oM 7 0,
 oM 8 1,
 oO 9 (.call false 266 [(.t 7),(.t 8)]),
 oE 10 0 9,
 oE 11 1 9,
 oE 12 2 9,
 oM 4 10,
 oM 5 11,
 oM 6 12]
abbrev b260:AC:=(.seq (.reg 0 r260_0) (.seq (.reg 1 r260_1) .ret))
def pf260:AF:={ nt:=13,res:=[.tmp 4,.tmp 5,.tmp 6],body:=b260 }
abbrev H260 (Q:AE→Sl→St→Prop)(K:List UInt8→List UInt8→Bool→Prop):Prop:=∀(σ:Sl)(st:St)(res0:List UInt8)(res1:List UInt8)(res2:Bool),σ 4 = .s res0→σ 5 = .s res1→σ 6 = .b res2→K res0 res1 res2→Q .ret σ st
def T260_0 (prog:Prog)(K:List UInt8→List UInt8→Bool→Prop)(s0:List UInt8)(sep1:List UInt8):Prop:=
  ∃r'1:List UInt8,∃r'2:List UInt8,∃r'3:Bool,Pus prog 266 [.s s0,.s sep1] (.tup [.s r'1,.s r'2,.b r'3])∧K r'1 r'2 r'3
section
variable {prog:Prog}{d:Nat}{Q:AE→Sl→St→Prop}{K:List UInt8→List UInt8→Bool→Prop}(hQ:H260 Q K){σ:Sl}{st:St}
include hQ
theorem w260_0 {s0 sep1:List UInt8}(H0:σ 0 = .s s0)(H1:σ 1 = .s sep1)(h:T260_0 prog K s0 sep1):W prog d (.seq (.reg 0 r260_0) (.seq (.reg 1 r260_1) .ret)) σ st Q:=
 q_ rfl (m_ (m_ (m_ (e_ (q_ rfl (m_ (m_ (h.elim fun r'1 e'5=>e'5.elim fun r'2 e'6=>e'6.elim fun r'3 e'4=>ca_ (sc H0 rfl (sc H1 rfl sn)) e'4.1 (x_ rfl rfl (x_ rfl rfl (x_ rfl rfl (m_ (m_ (m_ (e_ (rt_ (hQ _ _ _ _ _ rfl rfl rfl e'4.2)))))))))))))))))
end
theorem p260 {prog:Prog}(hf:prog.fn 260 = some pf260){s0:List UInt8}{sep1:List UInt8}{K:List UInt8→List UInt8→Bool→Prop}(h:T260_0 prog K s0 sep1) :∃res0:List UInt8,∃res1:List UInt8,∃res2:Bool,K res0 res1 res2∧Pus prog 260 [.s s0,.s sep1] (.tup [.s res0,.s res1,.b res2]):=by
  obtain ⟨v,hv,res0,res1,res2,hk,rfl⟩:=Pus.of (K:=fun v=>∃res0:List UInt8,∃res1:List UInt8,∃res2:Bool,K res0 res1 res2∧v = .tup [.s res0,.s res1,.b res2]) hf rfl (w260_0 (σ:=sl0 [.s s0,.s sep1]) (fun σ st   res0 res1 res2 H4 H5 H6 hk=>⟨.tup [.s res0,.s res1,.b res2],by simp only [pf260,ares,aresL,H4,H5,H6,ares1,Option.map_some],_,rfl,res0,res1,res2,hk,rfl⟩) rfl rfl h)
  exact ⟨res0,res1,res2,hk,hv⟩
abbrev H262 (Q:AE→Sl→St→Prop)(K:List UInt8→List UInt8→Prop):Prop:=∀(σ:Sl)(st:St)(res0:List UInt8)(res1:List UInt8),σ 2 = .s res0→σ 3 = .s res1→K res0 res1→Q .ret σ st
section
variable {prog:Prog}{d:Nat}{Q:AE→Sl→St→Prop}{K:List UInt8→List UInt8→Prop}(hQ:H262 Q K){σ:Sl}{st:St}
include hQ
end
def r267_0:List AI:=[oC 2 (.i .i64 0),
 oC 3 (.b false)]
def r267_1:List AI:=[oM 7 0,
 oO 8 (.call false 21 [(.t 7)]),
 oM 6 8,
 oE 9 0 6,
 oE 10 1 6,
 oM 4 9,
 oM 5 10]
def r267_2:List AI:=[oM 11 4,
 oM 12 5,
 oB 13 .eql (.t 12) (.c (.i .i64 0)),
 oM 14 13,
 oG 15 (.mv (.t 4)) 14 true,
 oG 16 (.bin .geq (.t 15) (.c (.i .i64 0))) 14 true,
 oO 17 (.pick (.t 14) (.t 16) (.c (.b false))),
 oM 18 17,
 oG 19 (.mv (.t 4)) 18 true,
 oG 20 (.bin .lss (.t 19) (.c (.i .i64 1000))) 18 true,
 oO 21 (.pick (.t 18) (.t 20) (.c (.b false))),
 oM 2 11,
 oM 3 21]
abbrev b267:AC:=(.seq (.reg 0 r267_0) (.seq (.reg 1 r267_1) (.seq (.reg 2 r267_2) .ret)))
def pf267:AF:={ nt:=22,res:=[.tmp 2,.tmp 3],body:=b267 }
abbrev H267 (Q:AE→Sl→St→Prop)(K:Int→Bool→Prop):Prop:=∀(σ:Sl)(st:St)(res0:Int)(res1:Bool),σ 2 = .i .i64 res0→σ 3 = .b res1→K res0 res1→Q .ret σ st
def T267_0 (prog:Prog)(K:Int→Bool→Prop)(s0:List UInt8):Prop:=
  ∃r'1:Int,∃r'2:Int,Pus prog 21 [.s s0] (.tup [.i .i64 r'1,.i .i64 r'2])∧(r'2 = 0→(r'1 ≥ 0→K r'1 (decide (r'1 < 1000)))∧(¬(r'1 ≥ 0)→K r'1 false))∧(¬(r'2 = 0)→K r'1 false)
section
variable {prog:Prog}{d:Nat}{Q:AE→Sl→St→Prop}{K:Int→Bool→Prop}(hQ:H267 Q K){σ:Sl}{st:St}
include hQ
theorem w267_0 {s0:List UInt8}(H0:σ 0 = .s s0)(h:T267_0 prog K s0):W prog d (.seq (.reg 0 r267_0) (.seq (.reg 1 r267_1) (.seq (.reg 2 r267_2) .ret))) σ st Q:=
 q_ rfl (m_ (m_ (e_ (q_ rfl (m_ (h.elim fun r'1 e'6=>e'6.elim fun r'2 e'3=>ca_ (sc H0 rfl sn) e'3.1 (m_ (x_ rfl rfl (x_ rfl rfl (m_ (m_ (e_ (q_ rfl (s_mvI rfl (s_mvI rfl (b_ rfl rfl eql_ (s_mvB rfl (em_ (g:=14) rfl (fun g'4=>gy_ rfl (s_mvI rfl (gy_ rfl (b_ rfl rfl geq_ (pt_ rfl rfl (s_mvB rfl (em_ (g:=18) rfl (fun g'5=>gy_ rfl (s_mvI rfl (gy_ rfl (b_ rfl rfl lss_ (pt_ rfl rfl (s_mvI rfl (s_mvB rfl (e_ (rt_ (hQ _ _ _ _ rfl rfl ((e'3.2.1 g'4).1 g'5))))))))))) (fun g'5=>gn_ (b:=false) rfl rfl (gn_ (b:=false) rfl rfl (pf_ rfl rfl (s_mvI rfl (s_mvB rfl (e_ (rt_ (hQ _ _ _ _ rfl rfl ((e'3.2.1 g'4).2 g'5)))))))))))))))) (fun g'4=>gn_ (b:=false) rfl rfl (gn_ (b:=false) rfl rfl (pf_ rfl rfl (s_mvB rfl (gn_ (b:=false) rfl rfl (gn_ (b:=false) rfl rfl (pf_ rfl rfl (s_mvI rfl (s_mvB rfl (e_ (rt_ (hQ _ _ _ _ rfl rfl (e'3.2.2 g'4)))))))))))))))))))))))))))))))
end
theorem p267 {prog:Prog}(hf:prog.fn 267 = some pf267){s0:List UInt8}{K:Int→Bool→Prop}(h:T267_0 prog K s0) :∃res0:Int,∃res1:Bool,K res0 res1∧Pus prog 267 [.s s0] (.tup [.i .i64 res0,.b res1]):=by
  obtain ⟨v,hv,res0,res1,hk,rfl⟩:=Pus.of (K:=fun v=>∃res0:Int,∃res1:Bool,K res0 res1∧v = .tup [.i .i64 res0,.b res1]) hf rfl (w267_0 (σ:=sl0 [.s s0]) (fun σ st   res0 res1 H2 H3 hk=>⟨.tup [.i .i64 res0,.b res1],by simp only [pf267,ares,aresL,H2,H3,ares1,Option.map_some],_,rfl,res0,res1,hk,rfl⟩) rfl h)
  exact ⟨res0,res1,hk,hv⟩
def r261_0:List AI:=[oO 4 (.alloc [.i .u8 0,.i .i64 0,.i .i64 0,.i .i64 0,.s []]),
 oC 5 (.b false)]
def r261_1:List AI:=[oM 13 0,
 oO 14 (.build [.i .u8 0,.i .i64 0,.i .i64 0,.i .i64 0,.s []] [(0,1,(.t 13))]),
 oO 6 (.alloc [.i .u8 0,.i .i64 0,.i .i64 0,.i .i64 0,.s []]),
 oS 5 6 14]
def r261_2:List AI:=[oC 7 (.b true),
 oC 8 (.b true)]
def r261_3:List AI:=[oC 9 (.i .i64 0)]
def r261_4:List AI:=[oM 15 0]
def r261_5:List AI:=[oB 23 .eql (.t 15) (.c (.i .u8 1)),
 oM 22 23]
def r261_6:List AI:=[oM 24 1,
 oB 25 .eql (.t 24) (.c (.s [])),
 oM 7 25]
def r261_7:List AI:=[oB 27 .eql (.t 15) (.c (.i .u8 3)),
 oM 26 27]
def r261_8:List AI:=[oM 29 1,
 oO 30 (.call false 260 [(.t 29),(.c (.s [32]))]),
 oM 28 30,
 oE 31 0 28,
 oE 32 1 28,
 oE 33 2 28,
 oM 10 31,
 oM 11 32,
 oM 12 33]
def r261_9:List AI:=[oM 35 10,
 oO 36 (.call false 267 [(.t 35)]),
 oM 34 36,
 oE 37 0 34,
 oE 38 1 34,
 oF 39 1 6,
 oS 1 39 37,
 oM 7 38]
def r261_10:List AI:=[oM 41 11,
 oO 42 (.call false 267 [(.t 41)]),
 oM 40 42,
 oE 43 0 40,
 oE 44 1 40,
 oF 45 2 6,
 oS 1 45 43,
 oM 8 44]
def r261_11:List AI:=[oM 46 8,
 oM 47 46,
 oG 48 (.mv (.t 12)) 47 true,
 oO 49 (.pick (.t 47) (.t 48) (.c (.b false))),
 oM 8 49]
def r261_12:List AI:=[oB 51 .eql (.t 15) (.c (.i .u8 6)),
 oM 50 51]
def r261_13:List AI:=[oM 53 1,
 oO 54 (.call false 21 [(.t 53)]),
 oM 52 54,
 oE 55 0 52,
 oE 56 1 52,
 oF 57 3 6,
 oS 1 57 55,
 oM 9 56]
def r261_14:List AI:=[oB 59 .eql (.t 15) (.c (.i .u8 7)),
 oM 58 59]
def r261_15:List AI:=[oB 60 .eql (.t 15) (.c (.i .u8 8)),
 oM 58 60]
def r261_16:List AI:=[oM 62 1,
 oO 63 (.call false 25 [(.t 62)]),
 oM 61 63,
 oE 64 0 61,
 oE 65 1 61,
 oF 66 4 6,
 oS 1 66 64,
 oM 9 65]
def r261_17:List AI:=[oM 17 1,
 oO 18 (.call false 267 [(.t 17)]),
 oM 16 18,
 oE 19 0 16,
 oE 20 1 16,
 oF 21 1 6,
 oS 1 21 19,
 oM 7 20]
def r261_18:List AI:=[oO 67 (.load 5 true (.t 6)),
 oM 68 7,
 oM 69 68,
 oG 70 (.mv (.t 8)) 69 true,
 oO 71 (.pick (.t 69) (.t 70) (.c (.b false))),
 oM 72 71,
 oG 73 (.mv (.t 9)) 72 true,
 oG 74 (.bin .eql (.t 73) (.c (.i .i64 0))) 72 true,
 oO 75 (.pick (.t 72) (.t 74) (.c (.b false))),
 oS 5 4 67,
 oM 5 75]
abbrev c261_0:AC:=(.cond (.t 58) (.reg 17 r261_16) (.reg 5 r261_17))
abbrev c261_1:AC:=(.cond (.t 22) (.reg 7 r261_6) (.seq (.reg 8 r261_7) (.cond (.t 26) (.seq (.reg 9 r261_8) (.seq (.reg 10 r261_9) (.seq (.reg 11 r261_10) (.reg 12 r261_11)))) (.seq (.reg 13 r261_12) (.cond (.t 50) (.reg 14 r261_13) (.seq (.seq (.reg 15 r261_14) (.cond (.t 58) .skip (.reg 16 r261_15))) c261_0))))))
abbrev c261_2:AC:=(.block 0 (.seq (.reg 6 r261_5) c261_1))
abbrev c261_3:AC:=(.seq (.reg 18 r261_18) .ret)
abbrev c261_4:AC:=(.seq (.seq (.reg 4 r261_4) c261_2) c261_3)
abbrev c261_5:AC:=(.seq (.reg 3 r261_3) c261_4)
abbrev c261_6:AC:=(.seq (.reg 2 r261_2) c261_5)
abbrev c261_7:AC:=(.seq (.reg 1 r261_1) c261_6)
abbrev b261:AC:=(.seq (.reg 0 r261_0) c261_7)
def pf261:AF:={ nt:=76,res:=[.cell 4 5 true,.tmp 5],body:=b261 }
abbrev H261 (Q:AE→Sl→St→Prop)(K:Qry→Bool→Prop):Prop:=∀(σ:Sl)(st:St)(k0:Key)(v0:Nat)(res0:Qry)(res1:Bool),σ 4 = .p k0 v0 0→lk st.bx k0 = some (v0,[.i .u8 res0.kind,.i .i64 res0.g,.i .i64 res0.k,.i .i64 res0.key,.s res0.name])→σ 5 = .b res1→K res0 res1→Q .ret σ st
def T261_7 (prog:Prog)(K:Qry→Bool→Prop)(ok7:Bool)(is8:Bool)(e9:Int)(m0:Qry)(m4098:Qry):Prop:=
  (ok7 = true→(is8 = true→K m4098 (decide (e9 = 0)))∧(is8 = false→K m4098 false))∧(ok7 = false→K m4098 false)
def T261_8 (prog:Prog)(K:Qry→Bool→Prop)(rest1:List UInt8)(ok7:Bool)(is8:Bool)(e9:Int)(t58:Bool)(m0:Qry)(m4098:Qry):Prop:=
  (t58 = true→∃r'2:List UInt8,∃r'3:Int,Pus prog 25 [.s rest1] (.tup [.s r'2,.i .i64 r'3])∧T261_7 prog K ok7 is8 r'3 m0 (Qry.mk m4098.kind m4098.g m4098.k m4098.key r'2))∧(t58 = false→∃r'6:Int,∃r'7:Bool,Pus prog 267 [.s rest1] (.tup [.i .i64 r'6,.b r'7])∧T261_7 prog K r'7 is8 e9 m0 (Qry.mk m4098.kind r'6 m4098.k m4098.key m4098.name))
def T261_6 (prog:Prog)(K:Qry→Bool→Prop)(rest1:List UInt8)(ok7:Bool)(is8:Bool)(e9:Int)(t15:Int)(t22:Bool)(m0:Qry)(m4098:Qry):Prop:=
  (t22 = true→T261_7 prog K (decide (rest1 = ([]:List UInt8))) is8 e9 m0 m4098)∧(t22 = false→(t15 = 3→∃r'3:List UInt8,∃r'4:List UInt8,∃r'5:Bool,Pus prog 260 [.s rest1,.s ([32]:List UInt8)] (.tup [.s r'3,.s r'4,.b r'5])∧∃r'7:Int,∃r'8:Bool,Pus prog 267 [.s r'3] (.tup [.i .i64 r'7,.b r'8])∧∃r'10:Int,∃r'11:Bool,Pus prog 267 [.s r'4] (.tup [.i .i64 r'10,.b r'11])∧(r'11 = true→T261_7 prog K r'8 r'5 e9 m0 (Qry.mk m4098.kind r'7 r'10 m4098.key m4098.name))∧(r'11 = false→T261_7 prog K r'8 false e9 m0 (Qry.mk m4098.kind r'7 r'10 m4098.key m4098.name)))∧(¬(t15 = 3)→(t15 = 6→∃r'19:Int,∃r'20:Int,Pus prog 21 [.s rest1] (.tup [.i .i64 r'19,.i .i64 r'20])∧T261_7 prog K ok7 is8 r'20 m0 (Qry.mk m4098.kind m4098.g m4098.k r'19 m4098.name))∧(¬(t15 = 6)→(t15 = 7→T261_8 prog K rest1 ok7 is8 e9 (decide (t15 = 7)) m0 m4098)∧(¬(t15 = 7)→T261_8 prog K rest1 ok7 is8 e9 (decide (t15 = 8)) m0 m4098))))
def T261_5 (prog:Prog)(K:Qry→Bool→Prop)(rest1:List UInt8)(ok7:Bool)(is8:Bool)(e9:Int)(t15:Int)(m0:Qry)(m4098:Qry):Prop:=
  T261_6 prog K rest1 ok7 is8 e9 t15 (decide (t15 = 1)) m0 m4098
def T261_4 (prog:Prog)(K:Qry→Bool→Prop)(kind0:Int)(rest1:List UInt8)(ok7:Bool)(is8:Bool)(e9:Int)(m0:Qry)(m4098:Qry):Prop:=
  T261_5 prog K rest1 ok7 is8 e9 kind0 m0 m4098
def T261_3 (prog:Prog)(K:Qry→Bool→Prop)(kind0:Int)(rest1:List UInt8)(ok7:Bool)(is8:Bool)(m0:Qry)(m4098:Qry):Prop:=
  T261_4 prog K kind0 rest1 ok7 is8 0 m0 m4098
def T261_2 (prog:Prog)(K:Qry→Bool→Prop)(kind0:Int)(rest1:List UInt8)(m0:Qry)(m4098:Qry):Prop:=
  T261_3 prog K kind0 rest1 true true m0 m4098
def T261_1 (prog:Prog)(K:Qry→Bool→Prop)(kind0:Int)(rest1:List UInt8)(m0:Qry):Prop:=
  T261_2 prog K kind0 rest1 m0 (Qry.mk kind0 0 0 0 [])
def T261_0 (prog:Prog)(K:Qry→Bool→Prop)(kind0:Int)(rest1:List UInt8):Prop:=
  T261_1 prog K kind0 rest1 (Qry.mk 0 0 0 0 [])
section
variable {prog:Prog}{d:Nat}{Q:AE→Sl→St→Prop}{K:Qry→Bool→Prop}(hQ:H261 Q K){σ:Sl}{st:St}
include hQ
theorem w261_7 {ok7 is8:Bool}{e9:Int}{m0 m4098:Qry}{v0:Nat}{v4098:Nat}(H4:σ 4 = .p (d,0) v0 0)(H6:σ 6 = .p (d,4098) v4098 0)(H7:σ 7 = .b ok7)(H8:σ 8 = .b is8)(H9:σ 9 = .i .i64 e9)(B0:lk st.bx (d,0) = some (v0,[.i .u8 m0.kind,.i .i64 m0.g,.i .i64 m0.k,.i .i64 m0.key,.s m0.name]))(B4098:lk st.bx (d,4098) = some (v4098,[.i .u8 m4098.kind,.i .i64 m4098.g,.i .i64 m4098.k,.i .i64 m4098.key,.s m4098.name]))(h:T261_7 prog K ok7 is8 e9 m0 m4098):W prog d c261_3 σ st Q:=
 q_ rfl (l_ H6 B4098 rfl rfl (s_mvB H7 (s_mvB rfl (eb_ (g:=69) rfl (fun g'1=>gy_ rfl (s_mvB H8 (pt_ rfl rfl (s_mvB rfl (eb_ (g:=72) rfl (fun g'2=>gy_ rfl (s_mvI H9 (gy_ rfl (b_ rfl rfl eql_ (pt_ rfl rfl (so_ H4 B0 rfl rfl rfl (s_mvB rfl (e_ (rt_ (hQ _ _ _ _ _ _ H4 lk_here rfl ((h.1 g'1).1 g'2))))))))))) (fun g'2=>gn_ (b:=false) rfl rfl (gn_ (b:=false) rfl rfl (pf_ rfl rfl (so_ H4 B0 rfl rfl rfl (s_mvB rfl (e_ (rt_ (hQ _ _ _ _ _ _ H4 lk_here rfl ((h.1 g'1).2 g'2)))))))))))))) (fun g'1=>gn_ (b:=false) rfl rfl (pf_ rfl rfl (s_mvB rfl (gn_ (b:=false) rfl rfl (gn_ (b:=false) rfl rfl (pf_ rfl rfl (so_ H4 B0 rfl rfl rfl (s_mvB rfl (e_ (rt_ (hQ _ _ _ _ _ _ H4 lk_here rfl (h.2 g'1))))))))))))))))
theorem w261_8 {rest1:List UInt8}{ok7 is8:Bool}{e9:Int}{t58:Bool}{m0 m4098:Qry}{v0:Nat}{v4098:Nat}(H1:σ 1 = .s rest1)(H4:σ 4 = .p (d,0) v0 0)(H6:σ 6 = .p (d,4098) v4098 0)(H7:σ 7 = .b ok7)(H8:σ 8 = .b is8)(H9:σ 9 = .i .i64 e9)(H58:σ 58 = .b t58)(B0:lk st.bx (d,0) = some (v0,[.i .u8 m0.kind,.i .i64 m0.g,.i .i64 m0.k,.i .i64 m0.key,.s m0.name]))(B4098:lk st.bx (d,4098) = some (v4098,[.i .u8 m4098.kind,.i .i64 m4098.g,.i .i64 m4098.k,.i .i64 m4098.key,.s m4098.name]))(h:T261_8 prog K rest1 ok7 is8 e9 t58 m0 m4098):W prog d c261_0 σ st (blockW 0 (thenW prog d c261_3 Q)):=
 cb_ H58 (fun g'1=>W.reg0 rfl fun _ _=>m_ ((h.1 g'1).elim fun r'2 e'5=>e'5.elim fun r'3 e'4=>ca_ (sc H1 rfl sn) e'4.1 (m_ (x_ rfl rfl (x_ rfl rfl (f_ H6 (so_ rfl B4098 rfl rfl rfl (m_ (e_ (w261_7 (m4098:=(Qry.mk m4098.kind m4098.g m4098.k m4098.key r'2)) hQ H4 H6 H7 H8 rfl (lk_other rfl B0) lk_here e'4.2)))))))))) (fun g'1=>W.reg0 rfl fun _ _=>m_ ((h.2 g'1).elim fun r'6 e'9=>e'9.elim fun r'7 e'8=>ca_ (sc H1 rfl sn) e'8.1 (m_ (x_ rfl rfl (x_ rfl rfl (f_ H6 (so_ rfl B4098 rfl rfl rfl (m_ (e_ (w261_7 (m4098:=(Qry.mk m4098.kind r'6 m4098.k m4098.key m4098.name)) hQ H4 H6 rfl H8 H9 (lk_other rfl B0) lk_here e'8.2))))))))))
theorem w261_6 {rest1:List UInt8}{ok7 is8:Bool}{e9 t15:Int}{t22:Bool}{m0 m4098:Qry}{v0:Nat}{v4098:Nat}(H1:σ 1 = .s rest1)(H4:σ 4 = .p (d,0) v0 0)(H6:σ 6 = .p (d,4098) v4098 0)(H7:σ 7 = .b ok7)(H8:σ 8 = .b is8)(H9:σ 9 = .i .i64 e9)(H15:σ 15 = .i .u8 t15)(H22:σ 22 = .b t22)(B0:lk st.bx (d,0) = some (v0,[.i .u8 m0.kind,.i .i64 m0.g,.i .i64 m0.k,.i .i64 m0.key,.s m0.name]))(B4098:lk st.bx (d,4098) = some (v4098,[.i .u8 m4098.kind,.i .i64 m4098.g,.i .i64 m4098.k,.i .i64 m4098.key,.s m4098.name]))(h:T261_6 prog K rest1 ok7 is8 e9 t15 t22 m0 m4098):W prog d c261_1 σ st (blockW 0 (thenW prog d c261_3 Q)):=
 cb_ H22 (fun g'1=>W.reg0 rfl fun _ _=>m_ (b_ H1 rfl seq_ (m_ (e_ (w261_7 hQ H4 H6 rfl H8 H9 B0 B4098 (h.1 g'1)))))) (fun g'1=>q_ rfl (b_ H15 rfl eql_ (m_ (e_ (cs_ rfl (fun g'2=>q_ rfl (m_ (((h.2 g'1).1 g'2).elim fun r'3 e'16=>e'16.elim fun r'4 e'17=>e'17.elim fun r'5 e'6=>ca_ (sc H1 rfl (sc rfl rfl sn)) e'6.1 (m_ (x_ rfl rfl (x_ rfl rfl (x_ rfl rfl (m_ (m_ (m_ (e_ (q_ rfl (m_ (e'6.2.elim fun r'7 e'15=>e'15.elim fun r'8 e'9=>ca_ (sc rfl rfl sn) e'9.1 (m_ (x_ rfl rfl (x_ rfl rfl (f_ H6 (so_ rfl B4098 rfl rfl rfl (m_ (e_ (q_ rfl (m_ (e'9.2.elim fun r'10 e'14=>e'14.elim fun r'11 e'12=>ca_ (sc rfl rfl sn) e'12.1 (m_ (x_ rfl rfl (x_ rfl rfl (f_ H6 (so_ rfl lk_here rfl rfl rfl (m_ (e_ (W.reg0 rfl fun _ _=>s_mvB rfl (s_mvB rfl (eb_ (g:=47) rfl (fun g'13=>gy_ rfl (s_mvB rfl (pt_ rfl rfl (s_mvB rfl (e_ (w261_7 (m4098:=(Qry.mk m4098.kind r'7 r'10 m4098.key m4098.name)) hQ H4 H6 rfl rfl H9 (lk_other rfl (lk_other rfl B0)) lk_here (e'12.2.1 g'13))))))) (fun g'13=>gn_ (b:=false) rfl rfl (pf_ rfl rfl (s_mvB rfl (e_ (w261_7 (m4098:=(Qry.mk m4098.kind r'7 r'10 m4098.key m4098.name)) hQ H4 H6 rfl rfl H9 (lk_other rfl (lk_other rfl B0)) lk_here (e'12.2.2 g'13)))))))))))))))))))))))))))))))))))))))) (fun g'2=>q_ rfl (b_ H15 rfl eql_ (m_ (e_ (cs_ rfl (fun g'18=>W.reg0 rfl fun _ _=>m_ ((((h.2 g'1).2 g'2).1 g'18).elim fun r'19 e'22=>e'22.elim fun r'20 e'21=>ca_ (sc H1 rfl sn) e'21.1 (m_ (x_ rfl rfl (x_ rfl rfl (f_ H6 (so_ rfl B4098 rfl rfl rfl (m_ (e_ (w261_7 (m4098:=(Qry.mk m4098.kind m4098.g m4098.k r'19 m4098.name)) hQ H4 H6 H7 H8 rfl (lk_other rfl B0) lk_here e'21.2)))))))))) (fun g'18=>sq_ (q_ rfl (b_ H15 rfl eql_ (m_ (e_ (cs_ rfl (fun g'23=>sk_ (w261_8 hQ H1 H4 H6 H7 H8 H9 rfl B0 B4098 ((((h.2 g'1).2 g'2).2 g'18).1 g'23))) (fun g'23=>W.reg0 rfl fun _ _=>b_ H15 rfl eql_ (m_ (e_ (w261_8 hQ H1 H4 H6 H7 H8 H9 rfl B0 B4098 ((((h.2 g'1).2 g'2).2 g'18).2 g'23)))))))))))))))))))))
theorem w261_5 {rest1:List UInt8}{ok7 is8:Bool}{e9 t15:Int}{m0 m4098:Qry}{v0:Nat}{v4098:Nat}(H1:σ 1 = .s rest1)(H4:σ 4 = .p (d,0) v0 0)(H6:σ 6 = .p (d,4098) v4098 0)(H7:σ 7 = .b ok7)(H8:σ 8 = .b is8)(H9:σ 9 = .i .i64 e9)(H15:σ 15 = .i .u8 t15)(B0:lk st.bx (d,0) = some (v0,[.i .u8 m0.kind,.i .i64 m0.g,.i .i64 m0.k,.i .i64 m0.key,.s m0.name]))(B4098:lk st.bx (d,4098) = some (v4098,[.i .u8 m4098.kind,.i .i64 m4098.g,.i .i64 m4098.k,.i .i64 m4098.key,.s m4098.name]))(h:T261_5 prog K rest1 ok7 is8 e9 t15 m0 m4098):W prog d c261_2 σ st (thenW prog d c261_3 Q):=
 bk_ (q_ rfl (b_ H15 rfl eql_ (m_ (e_ (w261_6 hQ H1 H4 H6 H7 H8 H9 H15 rfl B0 B4098 h)))))
theorem w261_4 {kind0:Int}{rest1:List UInt8}{ok7 is8:Bool}{e9:Int}{m0 m4098:Qry}{v0:Nat}{v4098:Nat}(H0:σ 0 = .i .u8 kind0)(H1:σ 1 = .s rest1)(H4:σ 4 = .p (d,0) v0 0)(H6:σ 6 = .p (d,4098) v4098 0)(H7:σ 7 = .b ok7)(H8:σ 8 = .b is8)(H9:σ 9 = .i .i64 e9)(B0:lk st.bx (d,0) = some (v0,[.i .u8 m0.kind,.i .i64 m0.g,.i .i64 m0.k,.i .i64 m0.key,.s m0.name]))(B4098:lk st.bx (d,4098) = some (v4098,[.i .u8 m4098.kind,.i .i64 m4098.g,.i .i64 m4098.k,.i .i64 m4098.key,.s m4098.name]))(h:T261_4 prog K kind0 rest1 ok7 is8 e9 m0 m4098):W prog d c261_4 σ st Q:=
 sq_ (q_ rfl (m_ (e_ (w261_5 hQ H1 H4 H6 H7 H8 H9 H0 B0 B4098 h))))
theorem w261_3 {kind0:Int}{rest1:List UInt8}{ok7 is8:Bool}{m0 m4098:Qry}{v0:Nat}{v4098:Nat}(H0:σ 0 = .i .u8 kind0)(H1:σ 1 = .s rest1)(H4:σ 4 = .p (d,0) v0 0)(H6:σ 6 = .p (d,4098) v4098 0)(H7:σ 7 = .b ok7)(H8:σ 8 = .b is8)(B0:lk st.bx (d,0) = some (v0,[.i .u8 m0.kind,.i .i64 m0.g,.i .i64 m0.k,.i .i64 m0.key,.s m0.name]))(B4098:lk st.bx (d,4098) = some (v4098,[.i .u8 m4098.kind,.i .i64 m4098.g,.i .i64 m4098.k,.i .i64 m4098.key,.s m4098.name]))(h:T261_3 prog K kind0 rest1 ok7 is8 m0 m4098):W prog d c261_5 σ st Q:=
 q_ rfl (m_ (e_ (w261_4 hQ H0 H1 H4 H6 H7 H8 rfl B0 B4098 h)))
theorem w261_2 {kind0:Int}{rest1:List UInt8}{m0 m4098:Qry}{v0:Nat}{v4098:Nat}(H0:σ 0 = .i .u8 kind0)(H1:σ 1 = .s rest1)(H4:σ 4 = .p (d,0) v0 0)(H6:σ 6 = .p (d,4098) v4098 0)(B0:lk st.bx (d,0) = some (v0,[.i .u8 m0.kind,.i .i64 m0.g,.i .i64 m0.k,.i .i64 m0.key,.s m0.name]))(B4098:lk st.bx (d,4098) = some (v4098,[.i .u8 m4098.kind,.i .i64 m4098.g,.i .i64 m4098.k,.i .i64 m4098.key,.s m4098.name]))(h:T261_2 prog K kind0 rest1 m0 m4098):W prog d c261_6 σ st Q:=
 q_ rfl (m_ (m_ (e_ (w261_3 hQ H0 H1 H4 H6 rfl rfl B0 B4098 h))))
theorem w261_1 {kind0:Int}{rest1:List UInt8}{m0:Qry}{v0:Nat}(H0:σ 0 = .i .u8 kind0)(H1:σ 1 = .s rest1)(H4:σ 4 = .p (d,0) v0 0)(B0:lk st.bx (d,0) = some (v0,[.i .u8 m0.kind,.i .i64 m0.g,.i .i64 m0.k,.i .i64 m0.key,.s m0.name]))(h:T261_1 prog K kind0 rest1 m0):W prog d c261_7 σ st Q:=
 sq_ (W.reg (m_ (s_build (f_cons H0 rfl f_nil) (s_alloc (so_ rfl (show lk _ (d,4098) = some (_,([.i .u8 0,.i .i64 0,.i .i64 0,.i .i64 0,.s []]:List AV)) from lk_here) rfl rfl rfl (e_ (w261_2 (m4098:=(Qry.mk kind0 0 0 0 [])) hQ H0 H1 H4 rfl (lk_other rfl (lk_other rfl B0)) lk_here h)))))))
theorem w261_0 {kind0:Int}{rest1:List UInt8}(H0:σ 0 = .i .u8 kind0)(H1:σ 1 = .s rest1)(h:T261_0 prog K kind0 rest1):W prog d (.seq (.reg 0 r261_0) c261_7) σ st Q:=
 sq_ (W.reg (s_alloc (m_ (e_ (w261_1 (m0:=(Qry.mk 0 0 0 0 [])) hQ H0 H1 rfl (show lk _ (d,0) = some (_,([.i .u8 0,.i .i64 0,.i .i64 0,.i .i64 0,.s []]:List AV)) from lk_here) h)))))
end
theorem p261 {prog:Prog}(hf:prog.fn 261 = some pf261){kind0:Int}{rest1:List UInt8}{K:Qry→Bool→Prop}(h:T261_0 prog K kind0 rest1) :∃res0:Qry,∃res1:Bool,K res0 res1∧Pus prog 261 [.i .u8 kind0,.s rest1] (.tup [res0.av,.b res1]):=by
  obtain ⟨v,hv,res0,res1,hk,rfl⟩:=Pus.of (K:=fun v=>∃res0:Qry,∃res1:Bool,K res0 res1∧v = .tup [res0.av,.b res1]) hf rfl (w261_0 (σ:=sl0 [.i .u8 kind0,.s rest1]) (fun σ st k0 v0  res0 res1 H4 HB4 H5 hk=>⟨.tup [res0.av,.b res1],by simp only [pf261,ares,aresL,ares_cellA (n:=5) H4 HB4 rfl,H5,ares_tmp,Option.map_some],_,rfl,res0,res1,hk,rfl⟩) rfl rfl h)
  exact ⟨res0,res1,hk,hv⟩
def r247_0:List AI:=[oO 1 (.box 5 (.t 0)),
 oC 2 (.i .i64 0)]
def r247_1:List AI:=[oF 4 0 1,
 oL 5 4,
 oO 6 (.build [.i .u8 0,.i .i64 0,.i .i64 0,.i .i64 0,.s []] [(0,1,(.t 5))]),
 oO 3 (.alloc [.i .u8 0,.i .i64 0,.i .i64 0,.i .i64 0,.s []]),
 oS 5 3 6]
def r247_2:List AI:=[oF 7 0 1,
 oL 8 7]
def r247_3:List AI:=[oB 10 .eql (.t 8) (.c (.i .u8 1)),
 oM 9 10]
def r247_4:List AI:=[oB 12 .eql (.t 8) (.c (.i .u8 3)),
 oM 11 12]
def r247_5:List AI:=[oF 13 2 1,
 oL 14 13,
 oF 15 2 3,
 oS 1 15 14]
def r247_6:List AI:=[oF 16 1 1,
 oL 17 16,
 oF 18 1 3,
 oS 1 18 17]
def r247_7:List AI:=[oB 20 .eql (.t 8) (.c (.i .u8 2)),
 oM 19 20]
def r247_8:List AI:=[oB 21 .eql (.t 8) (.c (.i .u8 4)),
 oM 19 21]
def r247_9:List AI:=[oB 22 .eql (.t 8) (.c (.i .u8 5)),
 oM 19 22]
def r247_10:List AI:=[oF 23 1 1,
 oL 24 23,
 oF 25 1 3,
 oS 1 25 24]
def r247_11:List AI:=[oB 27 .eql (.t 8) (.c (.i .u8 6)),
 oM 26 27]
def r247_12:List AI:=[oF 28 3 1,
 oL 29 28,
 oF 30 3 3,
 oS 1 30 29]
def r247_13:List AI:=[oB 32 .eql (.t 8) (.c (.i .u8 7)),
 oM 31 32]
def r247_14:List AI:=[oB 33 .eql (.t 8) (.c (.i .u8 8)),
 oM 31 33]
def r247_15:List AI:=[oF 34 4 1,
 oL 35 34,
 oF 36 4 3,
 oS 1 36 35]
def r247_16:List AI:=[oC 2 (.i .i64 8)]
def r247_17:List AI:=[oO 37 (.load 5 true (.t 1)),
 oO 38 (.load 5 true (.t 3)),
 oO 39 (.aeq true [0,0,0,0,2] (.t 37) (.t 38)),
 oM 40 39,
 oG 41 (.fad 1 (.t 1)) 40 false,
 oG 42 (.load 1 false (.t 41)) 40 false,
 oG 43 (.bin .lss (.t 42) (.c (.i .i64 0))) 40 false,
 oO 44 (.pick (.t 40) (.c (.b true)) (.t 43)),
 oM 45 44,
 oG 46 (.fad 1 (.t 1)) 45 false,
 oG 47 (.load 1 false (.t 46)) 45 false,
 oG 48 (.bin .geq (.t 47) (.c (.i .i64 16))) 45 false,
 oO 49 (.pick (.t 45) (.c (.b true)) (.t 48)),
 oM 50 49,
 oG 51 (.fad 2 (.t 1)) 50 false,
 oG 52 (.load 1 false (.t 51)) 50 false,
 oG 53 (.bin .lss (.t 52) (.c (.i .i64 0))) 50 false,
 oO 54 (.pick (.t 50) (.c (.b true)) (.t 53)),
 oM 55 54,
 oG 56 (.fad 2 (.t 1)) 55 false,
 oG 57 (.load 1 false (.t 56)) 55 false,
 oG 58 (.bin .geq (.t 57) (.c (.i .i64 170))) 55 false,
 oO 59 (.pick (.t 55) (.c (.b true)) (.t 58)),
 oM 60 59,
 oG 61 (.fad 4 (.t 1)) 60 false,
 oG 62 (.load 1 false (.t 61)) 60 false,
 oG 63 (.len true (.t 62)) 60 false,
 oG 64 (.bin .gtr (.t 63) (.c (.i .i64 16))) 60 false,
 oO 65 (.pick (.t 60) (.c (.b true)) (.t 64))]
def r247_18:List AI:=[oC 2 (.i .i64 8)]
def r247_19:List AI:=[oC 2 (.i .i64 0)]
abbrev c247_0:AC:=(.cond (.t 31) (.reg 16 r247_15) (.seq (.reg 3 r247_16) .ret))
abbrev c247_1:AC:=(.cond (.t 19) (.reg 11 r247_10) (.seq (.reg 12 r247_11) (.cond (.t 26) (.reg 13 r247_12) (.seq (.seq (.reg 14 r247_13) (.cond (.t 31) .skip (.reg 15 r247_14))) c247_0))))
abbrev c247_2:AC:=(.seq (.seq (.reg 17 r247_17) (.cond (.t 65) (.seq (.reg 18 r247_18) .ret) .skip)) (.seq (.reg 19 r247_19) .ret))
abbrev c247_3:AC:=(.seq (.seq (.reg 2 r247_2) (.block 0 (.seq (.reg 4 r247_3) (.cond (.t 9) .skip (.seq (.reg 5 r247_4) (.cond (.t 11) (.seq (.reg 6 r247_5) (.reg 7 r247_6)) (.seq (.seq (.reg 8 r247_7) (.cond (.t 19) .skip (.seq (.reg 9 r247_8) (.cond (.t 19) .skip (.reg 10 r247_9))))) c247_1))))))) c247_2)
abbrev c247_4:AC:=(.seq (.reg 1 r247_1) c247_3)
abbrev b247:AC:=(.seq (.reg 0 r247_0) c247_4)
def pf247:AF:={ nt:=66,res:=[.tmp 2],body:=b247 }
abbrev H247 (Q:AE→Sl→St→Prop)(K:Int→Prop):Prop:=∀(σ:Sl)(st:St)(res0:Int),σ 2 = .i .i64 res0→K res0→Q .ret σ st
def T247_3 (prog:Prog)(K:Int→Prop)(m0:Qry)(m4099:Qry):Prop:=
  ((!((m0.kind) == (m4099.kind) && ((m0.g) == (m4099.g) && ((m0.k) == (m4099.k) && ((m0.key) == (m4099.key) && ((m0.name) == (m4099.name) && true)))))) = true→K 8)∧((!((m0.kind) == (m4099.kind) && ((m0.g) == (m4099.g) && ((m0.k) == (m4099.k) && ((m0.key) == (m4099.key) && ((m0.name) == (m4099.name) && true)))))) = false→(m0.g < 0→K 8)∧(¬(m0.g < 0)→(m0.g ≥ 16→K 8)∧(¬(m0.g ≥ 16)→(m0.k < 0→K 8)∧(¬(m0.k < 0)→(m0.k ≥ 170→K 8)∧(¬(m0.k ≥ 170)→((m0.name.length:Int) > 16→K 8)∧(¬((m0.name.length:Int) > 16)→K 0))))))
def T247_5 (prog:Prog)(K:Int→Prop)(t31:Bool)(m0:Qry)(m4099:Qry):Prop:=
  (t31 = true→T247_3 prog K m0 (Qry.mk m4099.kind m4099.g m4099.k m4099.key m0.name))∧(t31 = false→K 8)
def T247_4 (prog:Prog)(K:Int→Prop)(t8:Int)(t19:Bool)(m0:Qry)(m4099:Qry):Prop:=
  (t19 = true→T247_3 prog K m0 (Qry.mk m4099.kind m0.g m4099.k m4099.key m4099.name))∧(t19 = false→(t8 = 6→T247_3 prog K m0 (Qry.mk m4099.kind m4099.g m4099.k m0.key m4099.name))∧(¬(t8 = 6)→(t8 = 7→T247_5 prog K (decide (t8 = 7)) m0 m4099)∧(¬(t8 = 7)→T247_5 prog K (decide (t8 = 8)) m0 m4099)))
def T247_2 (prog:Prog)(K:Int→Prop)(m0:Qry)(m4099:Qry):Prop:=
  (m0.kind = 1→T247_3 prog K m0 m4099)∧(¬(m0.kind = 1)→(m0.kind = 3→T247_3 prog K m0 (Qry.mk m4099.kind m0.g m0.k m4099.key m4099.name))∧(¬(m0.kind = 3)→(m0.kind = 2→T247_4 prog K m0.kind (decide (m0.kind = 2)) m0 m4099)∧(¬(m0.kind = 2)→(m0.kind = 4→T247_4 prog K m0.kind (decide (m0.kind = 4)) m0 m4099)∧(¬(m0.kind = 4)→T247_4 prog K m0.kind (decide (m0.kind = 5)) m0 m4099))))
def T247_1 (prog:Prog)(K:Int→Prop)(m0:Qry):Prop:=
  T247_2 prog K m0 (Qry.mk m0.kind 0 0 0 [])
def T247_0 (prog:Prog)(K:Int→Prop)(q0:Qry):Prop:=
  T247_1 prog K q0
section
variable {prog:Prog}{d:Nat}{Q:AE→Sl→St→Prop}{K:Int→Prop}(hQ:H247 Q K){σ:Sl}{st:St}
include hQ
theorem w247_3 {m0 m4099:Qry}{v0:Nat}{v4099:Nat}(H1:σ 1 = .p (d,0) v0 0)(H3:σ 3 = .p (d,4099) v4099 0)(B0:lk st.bx (d,0) = some (v0,[.i .u8 m0.kind,.i .i64 m0.g,.i .i64 m0.k,.i .i64 m0.key,.s m0.name]))(B4099:lk st.bx (d,4099) = some (v4099,[.i .u8 m4099.kind,.i .i64 m4099.g,.i .i64 m4099.k,.i .i64 m4099.key,.s m4099.name]))(h:T247_3 prog K m0 m4099):W prog d c247_2 σ st Q:=
 sq_ (q_ rfl (l_ H1 B0 rfl rfl (l_ H3 B4099 rfl rfl (s_aeqN rfl rfl rfl (s_mvB rfl (eb_ (g:=40) rfl (fun g'1=>gn_ (b:=true) rfl rfl (gn_ (b:=true) rfl rfl (gn_ (b:=true) rfl rfl (pt_ rfl rfl (s_mvB rfl (gn_ (b:=true) rfl rfl (gn_ (b:=true) rfl rfl (gn_ (b:=true) rfl rfl (pt_ rfl rfl (s_mvB rfl (gn_ (b:=true) rfl rfl (gn_ (b:=true) rfl rfl (gn_ (b:=true) rfl rfl (pt_ rfl rfl (s_mvB rfl (gn_ (b:=true) rfl rfl (gn_ (b:=true) rfl rfl (gn_ (b:=true) rfl rfl (pt_ rfl rfl (s_mvB rfl (gn_ (b:=true) rfl rfl (gn_ (b:=true) rfl rfl (gn_ (b:=true) rfl rfl (gn_ (b:=true) rfl rfl (pt_ rfl rfl (e_ (ct_ rfl (q_ rfl (m_ (e_ (rt_ (hQ _ _ _ rfl (h.1 g'1))))))))))))))))))))))))))))))))) (fun g'1=>gy_ rfl (f_ H1 (gy_ rfl (l_ rfl B0 rfl rfl (gy_ rfl (b_ rfl rfl lss_ (pf_ rfl rfl (s_mvB rfl (em_ (g:=45) rfl (fun g'2=>gn_ (b:=true) rfl rfl (gn_ (b:=true) rfl rfl (gn_ (b:=true) rfl rfl (pt_ rfl rfl (s_mvB rfl (gn_ (b:=true) rfl rfl (gn_ (b:=true) rfl rfl (gn_ (b:=true) rfl rfl (pt_ rfl rfl (s_mvB rfl (gn_ (b:=true) rfl rfl (gn_ (b:=true) rfl rfl (gn_ (b:=true) rfl rfl (pt_ rfl rfl (s_mvB rfl (gn_ (b:=true) rfl rfl (gn_ (b:=true) rfl rfl (gn_ (b:=true) rfl rfl (gn_ (b:=true) rfl rfl (pt_ rfl rfl (e_ (ct_ rfl (q_ rfl (m_ (e_ (rt_ (hQ _ _ _ rfl ((h.2 g'1).1 g'2)))))))))))))))))))))))))))) (fun g'2=>gy_ rfl (f_ H1 (gy_ rfl (l_ rfl B0 rfl rfl (gy_ rfl (b_ rfl rfl geq_ (pf_ rfl rfl (s_mvB rfl (em_ (g:=50) rfl (fun g'3=>gn_ (b:=true) rfl rfl (gn_ (b:=true) rfl rfl (gn_ (b:=true) rfl rfl (pt_ rfl rfl (s_mvB rfl (gn_ (b:=true) rfl rfl (gn_ (b:=true) rfl rfl (gn_ (b:=true) rfl rfl (pt_ rfl rfl (s_mvB rfl (gn_ (b:=true) rfl rfl (gn_ (b:=true) rfl rfl (gn_ (b:=true) rfl rfl (gn_ (b:=true) rfl rfl (pt_ rfl rfl (e_ (ct_ rfl (q_ rfl (m_ (e_ (rt_ (hQ _ _ _ rfl (((h.2 g'1).2 g'2).1 g'3))))))))))))))))))))))) (fun g'3=>gy_ rfl (f_ H1 (gy_ rfl (l_ rfl B0 rfl rfl (gy_ rfl (b_ rfl rfl lss_ (pf_ rfl rfl (s_mvB rfl (em_ (g:=55) rfl (fun g'4=>gn_ (b:=true) rfl rfl (gn_ (b:=true) rfl rfl (gn_ (b:=true) rfl rfl (pt_ rfl rfl (s_mvB rfl (gn_ (b:=true) rfl rfl (gn_ (b:=true) rfl rfl (gn_ (b:=true) rfl rfl (gn_ (b:=true) rfl rfl (pt_ rfl rfl (e_ (ct_ rfl (q_ rfl (m_ (e_ (rt_ (hQ _ _ _ rfl ((((h.2 g'1).2 g'2).2 g'3).1 g'4)))))))))))))))))) (fun g'4=>gy_ rfl (f_ H1 (gy_ rfl (l_ rfl B0 rfl rfl (gy_ rfl (b_ rfl rfl geq_ (pf_ rfl rfl (s_mvB rfl (em_ (g:=60) rfl (fun g'5=>gn_ (b:=true) rfl rfl (gn_ (b:=true) rfl rfl (gn_ (b:=true) rfl rfl (gn_ (b:=true) rfl rfl (pt_ rfl rfl (e_ (ct_ rfl (q_ rfl (m_ (e_ (rt_ (hQ _ _ _ rfl (((((h.2 g'1).2 g'2).2 g'3).2 g'4).1 g'5))))))))))))) (fun g'5=>gy_ rfl (f_ H1 (gy_ rfl (l_ rfl B0 rfl rfl (gy_ rfl (ln_ rfl (gy_ rfl (b_ rfl rfl gtr_ (pf_ rfl rfl (e_ (cs_ rfl (fun g'6=>q_ rfl (m_ (e_ (rt_ (hQ _ _ _ rfl ((((((h.2 g'1).2 g'2).2 g'3).2 g'4).2 g'5).1 g'6)))))) (fun g'6=>sk_ (q_ rfl (m_ (e_ (rt_ (hQ _ _ _ rfl ((((((h.2 g'1).2 g'2).2 g'3).2 g'4).2 g'5).2 g'6))))))))))))))))))))))))))))))))))))))))))))))))))))))))))))
theorem w247_5 {t31:Bool}{m0 m4099:Qry}{v0:Nat}{v4099:Nat}(H1:σ 1 = .p (d,0) v0 0)(H3:σ 3 = .p (d,4099) v4099 0)(H31:σ 31 = .b t31)(B0:lk st.bx (d,0) = some (v0,[.i .u8 m0.kind,.i .i64 m0.g,.i .i64 m0.k,.i .i64 m0.key,.s m0.name]))(B4099:lk st.bx (d,4099) = some (v4099,[.i .u8 m4099.kind,.i .i64 m4099.g,.i .i64 m4099.k,.i .i64 m4099.key,.s m4099.name]))(h:T247_5 prog K t31 m0 m4099):W prog d c247_0 σ st (blockW 0 (thenW prog d c247_2 Q)):=
 cb_ H31 (fun g'1=>W.reg0 rfl fun _ _=>f_ H1 (l_ rfl B0 rfl rfl (f_ H3 (so_ rfl B4099 rfl rfl rfl (e_ (w247_3 (m4099:=(Qry.mk m4099.kind m4099.g m4099.k m4099.key m0.name)) hQ H1 H3 (lk_other rfl B0) lk_here (h.1 g'1))))))) (fun g'1=>q_ rfl (m_ (e_ (rt_ (hQ _ _ _ rfl (h.2 g'1))))))
theorem w247_4 {t8:Int}{t19:Bool}{m0 m4099:Qry}{v0:Nat}{v4099:Nat}(H1:σ 1 = .p (d,0) v0 0)(H3:σ 3 = .p (d,4099) v4099 0)(H8:σ 8 = .i .u8 t8)(H19:σ 19 = .b t19)(B0:lk st.bx (d,0) = some (v0,[.i .u8 m0.kind,.i .i64 m0.g,.i .i64 m0.k,.i .i64 m0.key,.s m0.name]))(B4099:lk st.bx (d,4099) = some (v4099,[.i .u8 m4099.kind,.i .i64 m4099.g,.i .i64 m4099.k,.i .i64 m4099.key,.s m4099.name]))(h:T247_4 prog K t8 t19 m0 m4099):W prog d c247_1 σ st (blockW 0 (thenW prog d c247_2 Q)):=
 cb_ H19 (fun g'1=>W.reg0 rfl fun _ _=>f_ H1 (l_ rfl B0 rfl rfl (f_ H3 (so_ rfl B4099 rfl rfl rfl (e_ (w247_3 (m4099:=(Qry.mk m4099.kind m0.g m4099.k m4099.key m4099.name)) hQ H1 H3 (lk_other rfl B0) lk_here (h.1 g'1))))))) (fun g'1=>q_ rfl (b_ H8 rfl eql_ (m_ (e_ (cs_ rfl (fun g'2=>W.reg0 rfl fun _ _=>f_ H1 (l_ rfl B0 rfl rfl (f_ H3 (so_ rfl B4099 rfl rfl rfl (e_ (w247_3 (m4099:=(Qry.mk m4099.kind m4099.g m4099.k m0.key m4099.name)) hQ H1 H3 (lk_other rfl B0) lk_here ((h.2 g'1).1 g'2))))))) (fun g'2=>sq_ (q_ rfl (b_ H8 rfl eql_ (m_ (e_ (cs_ rfl (fun g'3=>sk_ (w247_5 hQ H1 H3 rfl B0 B4099 (((h.2 g'1).2 g'2).1 g'3))) (fun g'3=>W.reg0 rfl fun _ _=>b_ H8 rfl eql_ (m_ (e_ (w247_5 hQ H1 H3 rfl B0 B4099 (((h.2 g'1).2 g'2).2 g'3))))))))))))))))
theorem w247_2 {m0 m4099:Qry}{v0:Nat}{v4099:Nat}(H1:σ 1 = .p (d,0) v0 0)(H3:σ 3 = .p (d,4099) v4099 0)(B0:lk st.bx (d,0) = some (v0,[.i .u8 m0.kind,.i .i64 m0.g,.i .i64 m0.k,.i .i64 m0.key,.s m0.name]))(B4099:lk st.bx (d,4099) = some (v4099,[.i .u8 m4099.kind,.i .i64 m4099.g,.i .i64 m4099.k,.i .i64 m4099.key,.s m4099.name]))(h:T247_2 prog K m0 m4099):W prog d c247_3 σ st Q:=
 sq_ (q_ rfl (f_ H1 (l_ rfl B0 rfl rfl (e_ (bk_ (q_ rfl (b_ rfl rfl eql_ (m_ (e_ (cs_ rfl (fun g'1=>sk_ (w247_3 hQ H1 H3 B0 B4099 (h.1 g'1))) (fun g'1=>q_ rfl (b_ rfl rfl eql_ (m_ (e_ (cs_ rfl (fun g'2=>q_ rfl (f_ H1 (l_ rfl B0 rfl rfl (f_ H3 (so_ rfl B4099 rfl rfl rfl (e_ (W.reg0 rfl fun _ _=>f_ H1 (l_ rfl (lk_other rfl B0) rfl rfl (f_ H3 (so_ rfl lk_here rfl rfl rfl (e_ (w247_3 (m4099:=(Qry.mk m4099.kind m0.g m0.k m4099.key m4099.name)) hQ H1 H3 (lk_other rfl (lk_other rfl B0)) lk_here ((h.2 g'1).1 g'2))))))))))))) (fun g'2=>sq_ (q_ rfl (b_ rfl rfl eql_ (m_ (e_ (cs_ rfl (fun g'3=>sk_ (w247_4 hQ H1 H3 rfl rfl B0 B4099 (((h.2 g'1).2 g'2).1 g'3))) (fun g'3=>q_ rfl (b_ rfl rfl eql_ (m_ (e_ (cs_ rfl (fun g'4=>sk_ (w247_4 hQ H1 H3 rfl rfl B0 B4099 ((((h.2 g'1).2 g'2).2 g'3).1 g'4))) (fun g'4=>W.reg0 rfl fun _ _=>b_ rfl rfl eql_ (m_ (e_ (w247_4 hQ H1 H3 rfl rfl B0 B4099 ((((h.2 g'1).2 g'2).2 g'3).2 g'4)))))))))))))))))))))))))))))))
theorem w247_1 {m0:Qry}{v0:Nat}(H1:σ 1 = .p (d,0) v0 0)(B0:lk st.bx (d,0) = some (v0,[.i .u8 m0.kind,.i .i64 m0.g,.i .i64 m0.k,.i .i64 m0.key,.s m0.name]))(h:T247_1 prog K m0):W prog d c247_4 σ st Q:=
 sq_ (W.reg (f_ H1 (l_ rfl (lk_other rfl B0) rfl rfl (s_build (f_cons rfl rfl f_nil) (s_alloc (so_ rfl (show lk _ (d,4099) = some (_,([.i .u8 0,.i .i64 0,.i .i64 0,.i .i64 0,.s []]:List AV)) from lk_here) rfl rfl rfl (e_ (w247_2 (m4099:=(Qry.mk m0.kind 0 0 0 [])) hQ H1 rfl (lk_other rfl (lk_other rfl B0)) lk_here h))))))))
theorem w247_0 {q0:Qry}(H0:σ 0 = q0.av)(h:T247_0 prog K q0):W prog d (.seq (.reg 0 r247_0) c247_4) σ st Q:=
 q_ rfl (s_box H0 rfl (m_ (e_ (w247_1 hQ rfl lk_here h))))
end
theorem p247 {prog:Prog}(hf:prog.fn 247 = some pf247){q0:Qry}{K:Int→Prop}(h:T247_0 prog K q0) :∃res0:Int,K res0∧Pus prog 247 [q0.av] (.i .i64 res0):=by
  obtain ⟨v,hv,res0,hk,rfl⟩:=Pus.of (K:=fun v=>∃res0:Int,K res0∧v = .i .i64 res0) hf rfl (w247_0 (σ:=sl0 [q0.av]) (fun σ st   res0 H2 hk=>⟨.i .i64 res0,by simp only [pf247,ares,aresL,H2,ares1,Option.map_some],_,rfl,res0,hk,rfl⟩) rfl h)
  exact ⟨res0,hk,hv⟩
abbrev H248 (Q:AE→Sl→St→Prop)(K:Int→Prop):Prop:=∀(σ:Sl)(st:St)(res0:Int),σ 2 = .i .i64 res0→K res0→Q .ret σ st
section
variable {prog:Prog}{d:Nat}{Q:AE→Sl→St→Prop}{K:Int→Prop}(hQ:H248 Q K){σ:Sl}{st:St}
include hQ
end
abbrev H259 (Q:AE→Sl→St→Prop)(K:List UInt8→Prop):Prop:=∀(σ:Sl)(st:St)(res0:List UInt8),σ 2 = .s res0→K res0→Q .ret σ st
section
variable {prog:Prog}{d:Nat}{Q:AE→Sl→St→Prop}{K:List UInt8→Prop}(hQ:H259 Q K){σ:Sl}{st:St}
include hQ
end
def r197_0:List AI:=[oC 4 (.i .i64 0)]
def r197_1:List AI:=[oM 14 1,
 oO 15 (.len true (.t 14)),
 oM 5 15]
def r197_2:List AI:=[oM 17 5,
 oB 18 .eql (.t 17) (.c (.i .i64 0)),
 oM 19 18,
 oG 20 (.mv (.t 1)) 19 false,
 oG 21 (.mv (.t 0)) 19 false,
 oG 22 (.bin .eql (.t 20) (.t 21)) 19 false,
 oO 23 (.pick (.t 19) (.c (.b true)) (.t 22)),
 oM 16 23]
def r197_3:List AI:=[oC 4 (.i .i64 0)]
def r197_4:List AI:=[oM 25 5,
 oB 26 .eql (.t 25) (.c (.i .i64 1)),
 oM 24 26]
def r197_5:List AI:=[oM 27 0,
 oM 28 1,
 oO 29 (.ixS (.t 28) (.c (.i .i64 0))),
 oO 30 (.call false 47 [(.t 27),(.t 29)]),
 oM 4 30]
def r197_6:List AI:=[oM 32 5,
 oM 33 0,
 oO 34 (.len true (.t 33)),
 oB 35 .geq (.t 32) (.t 34),
 oM 31 35]
def r197_7:List AI:=[oC 4 (.i .i64 (-1))]
def r197_8:List AI:=[oM 37 5,
 oO 38 (.load 1 false (.c (.u))),
 oB 39 .leq (.t 37) (.t 38),
 oM 40 39,
 oG 41 (.mv (.t 0)) 40 true,
 oG 42 (.len true (.t 41)) 40 true,
 oG 43 (.bin .leq (.t 42) (.c (.i .i64 64))) 40 true,
 oO 44 (.pick (.t 40) (.t 43) (.c (.b false))),
 oM 36 44]
def r197_9:List AI:=[oM 45 0,
 oM 46 1,
 oO 47 (.bad),
 oM 4 47]
def r197_10:List AI:=[oM 48 1,
 oO 49 (.ixS (.t 48) (.c (.i .i64 0))),
 oM 6 49]
def r197_11:List AI:=[oM 50 1,
 oO 51 (.ixS (.t 50) (.c (.i .i64 1))),
 oM 7 51]
def r197_12:List AI:=[oC 8 (.i .i64 0)]
def r197_13:List AI:=[oM 52 0,
 oO 53 (.len true (.t 52)),
 oM 54 5,
 oB 55 .sub (.t 53) (.t 54),
 oB 56 .add (.t 55) (.c (.i .i64 1)),
 oM 9 56]
def r197_14:List AI:=[oC 10 (.i .i64 0)]
def r197_15:List AI:=[oM 57 8,
 oM 58 9,
 oB 59 .lss (.t 57) (.t 58)]
def r197_16:List AI:=[oM 60 0,
 oM 61 8,
 oO 62 (.ixS (.t 60) (.t 61)),
 oM 63 6,
 oB 64 .neq (.t 62) (.t 63)]
def r197_17:List AI:=[oM 65 0,
 oM 66 8,
 oB 67 .add (.t 66) (.c (.i .i64 1)),
 oM 68 9,
 oO 69 (.slS (.t 65) (some (.t 67)) (some (.t 68))),
 oM 70 6,
 oO 71 (.call false 47 [(.t 69),(.t 70)]),
 oM 11 71]
def r197_18:List AI:=[oM 72 11,
 oB 73 .lss (.t 72) (.c (.i .i64 0))]
def r197_19:List AI:=[oC 4 (.i .i64 (-1))]
def r197_20:List AI:=[oM 74 8,
 oM 75 11,
 oB 76 .add (.t 75) (.c (.i .i64 1)),
 oB 77 .add (.t 74) (.t 76),
 oM 8 77]
def r197_21:List AI:=[oM 78 0,
 oM 79 8,
 oB 80 .add (.t 79) (.c (.i .i64 1)),
 oO 81 (.ixS (.t 78) (.t 80)),
 oM 82 7,
 oB 83 .eql (.t 81) (.t 82),
 oM 84 83,
 oG 85 (.mv (.t 0)) 84 true,
 oG 86 (.mv (.t 8)) 84 true,
 oG 87 (.mv (.t 8)) 84 true,
 oG 88 (.mv (.t 5)) 84 true,
 oG 89 (.bin .add (.t 87) (.t 88)) 84 true,
 oG 90 (.slS (.t 85) (some (.t 86)) (some (.t 89))) 84 true,
 oG 91 (.mv (.t 1)) 84 true,
 oG 92 (.bin .eql (.t 90) (.t 91)) 84 true,
 oO 93 (.pick (.t 84) (.t 92) (.c (.b false)))]
def r197_22:List AI:=[oM 94 8,
 oM 4 94]
def r197_23:List AI:=[oM 95 8,
 oB 96 .add (.t 95) (.c (.i .i64 1)),
 oM 8 96]
def r197_24:List AI:=[oM 97 10,
 oB 98 .add (.t 97) (.c (.i .i64 1)),
 oM 10 98]
def r197_25:List AI:=[oM 99 5,
 oO 100 (.load 1 false (.c (.u))),
 oB 101 .leq (.t 99) (.t 100),
 oM 102 101,
 oG 103 (.mv (.t 10)) 102 true,
 oG 104 (.mv (.t 8)) 102 true,
 oG 105 (.call false 199 [(.t 104)]) 102 true,
 oG 106 (.bin .gtr (.t 103) (.t 105)) 102 true,
 oO 107 (.pick (.t 102) (.t 106) (.c (.b false)))]
def r197_26:List AI:=[oM 108 0,
 oM 109 8,
 oO 110 (.slS (.t 108) (some (.t 109)) none),
 oM 111 1,
 oO 112 (.bad),
 oM 12 112]
def r197_27:List AI:=[oM 113 12,
 oB 114 .geq (.t 113) (.c (.i .i64 0))]
def r197_28:List AI:=[oM 115 12,
 oM 116 8,
 oB 117 .add (.t 115) (.t 116),
 oM 4 117]
def r197_29:List AI:=[oC 4 (.i .i64 (-1))]
def r197_30:List AI:=[oM 118 5,
 oO 119 (.load 1 false (.c (.u))),
 oB 120 .gtr (.t 118) (.t 119),
 oM 121 120,
 oG 122 (.mv (.t 10)) 121 true,
 oG 123 (.mv (.t 8)) 121 true,
 oG 124 (.bin .shr (.t 123) (.c (.i .u64 4))) 121 true,
 oG 125 (.bin .add (.c (.i .i64 4)) (.t 124)) 121 true,
 oG 126 (.bin .geq (.t 122) (.t 125)) 121 true,
 oO 127 (.pick (.t 121) (.t 126) (.c (.b false))),
 oM 128 127,
 oG 129 (.mv (.t 8)) 128 true,
 oG 130 (.mv (.t 9)) 128 true,
 oG 131 (.bin .lss (.t 129) (.t 130)) 128 true,
 oO 132 (.pick (.t 128) (.t 131) (.c (.b false)))]
def r197_31:List AI:=[oM 133 0,
 oM 134 8,
 oO 135 (.slS (.t 133) (some (.t 134)) none),
 oM 136 1,
 oO 137 (.call false 200 [(.t 135),(.t 136)]),
 oM 13 137]
def r197_32:List AI:=[oM 138 13,
 oB 139 .lss (.t 138) (.c (.i .i64 0))]
def r197_33:List AI:=[oC 4 (.i .i64 (-1))]
def r197_34:List AI:=[oM 140 8,
 oM 141 13,
 oB 142 .add (.t 140) (.t 141),
 oM 4 142]
def r197_35:List AI:=[oC 4 (.i .i64 (-1))]
abbrev c197_0:AC:=(.cond (.t 36) (.seq (.reg 9 r197_9) .ret) .skip)
abbrev c197_1:AC:=(.cond (.t 16) (.seq (.reg 3 r197_3) .ret) (.seq (.reg 4 r197_4) (.cond (.t 24) (.seq (.reg 5 r197_5) .ret) (.seq (.reg 6 r197_6) (.cond (.t 31) (.seq (.reg 7 r197_7) .ret) (.seq (.reg 8 r197_8) c197_0))))))
abbrev c197_2:AC:=(.cond (.t 132) (.seq (.reg 31 r197_31) (.seq (.seq (.reg 32 r197_32) (.cond (.t 139) (.seq (.reg 33 r197_33) .ret) .skip)) (.seq (.reg 34 r197_34) .ret))) .skip)
abbrev c197_3:AC:=(.cond (.t 107) (.seq (.reg 26 r197_26) (.seq (.seq (.reg 27 r197_27) (.cond (.t 114) (.seq (.reg 28 r197_28) .ret) .skip)) (.seq (.reg 29 r197_29) .ret))) (.seq (.reg 30 r197_30) c197_2))
abbrev c197_4:AC:=(.seq (.reg 23 r197_23) (.seq (.reg 24 r197_24) (.seq (.reg 25 r197_25) c197_3)))
abbrev c197_5:AC:=(.seq (.seq (.reg 21 r197_21) (.cond (.t 93) (.seq (.reg 22 r197_22) .ret) .skip)) c197_4)
abbrev c197_6:AC:=(.block 2 (.seq (.seq (.reg 16 r197_16) (.cond (.t 64) (.seq (.reg 17 r197_17) (.seq (.seq (.reg 18 r197_18) (.cond (.t 73) (.seq (.reg 19 r197_19) .ret) .skip)) (.reg 20 r197_20))) .skip)) c197_5))
abbrev l197_0:AC:=(.seq (.seq (.reg 15 r197_15) (.cond (.t 59) .skip (.exit 1))) c197_6)
abbrev c197_8:AC:=(.seq (.reg 35 r197_35) .ret)
abbrev c197_9:AC:=(.seq (.block 1 (.loop l197_0)) c197_8)
abbrev c197_10:AC:=(.seq (.reg 14 r197_14) c197_9)
abbrev c197_11:AC:=(.seq (.reg 13 r197_13) c197_10)
abbrev c197_12:AC:=(.seq (.reg 12 r197_12) c197_11)
abbrev c197_13:AC:=(.seq (.reg 11 r197_11) c197_12)
abbrev c197_14:AC:=(.seq (.reg 10 r197_10) c197_13)
abbrev c197_15:AC:=(.seq (.block 0 (.seq (.reg 2 r197_2) c197_1)) c197_14)
abbrev c197_16:AC:=(.seq (.reg 1 r197_1) c197_15)
abbrev b197:AC:=(.seq (.reg 0 r197_0) c197_16)
def pf197:AF:={ nt:=143,res:=[.tmp 4],body:=b197 }
abbrev H197 (Q:AE→Sl→St→Prop)(K:Int→Prop):Prop:=∀(σ:Sl)(st:St)(res0:Int),σ 4 = .i .i64 res0→K res0→Q .ret σ st
def T197_3 (prog:Prog)(K:Int→Prop)(s0:List UInt8)(substr1:List UInt8)(n5:Int)(t16:Bool):Prop:=
  (t16 = true→K 0)∧(t16 = false→(n5 = 1→∃c'3:UInt8,substr1[0]? = some c'3∧∃r'5:Int,Pus prog 47 [.s s0,.i .u8 (c'3.toNat:Int)] (.i .i64 r'5)∧K r'5)∧(¬(n5 = 1)→(n5 ≥ (s0.length:Int)→K (-1))∧(¬(n5 ≥ (s0.length:Int))→False)))
def T197_2 (prog:Prog)(K:Int→Prop)(s0:List UInt8)(substr1:List UInt8)(n5:Int):Prop:=
  (n5 = 0→T197_3 prog K s0 substr1 n5 true)∧(¬(n5 = 0)→T197_3 prog K s0 substr1 n5 (decide (substr1 = s0)))
def T197_1 (prog:Prog)(K:Int→Prop)(s0:List UInt8)(substr1:List UInt8):Prop:=
  T197_2 prog K s0 substr1 (substr1.length:Int)
def T197_0 (prog:Prog)(K:Int→Prop)(s0:List UInt8)(substr1:List UInt8):Prop:=
  T197_1 prog K s0 substr1
section
variable {prog:Prog}{d:Nat}{Q:AE→Sl→St→Prop}{K:Int→Prop}(hQ:H197 Q K){σ:Sl}{st:St}
include hQ
theorem w197_3 {s0 substr1:List UInt8}{n5:Int}{t16:Bool}(H0:σ 0 = .s s0)(H1:σ 1 = .s substr1)(H5:σ 5 = .i .i64 n5)(H16:σ 16 = .b t16)(h:T197_3 prog K s0 substr1 n5 t16):W prog d c197_1 σ st (blockW 0 (thenW prog d c197_14 Q)):=
 cb_ H16 (fun g'1=>q_ rfl (m_ (e_ (rt_ (hQ _ _ _ rfl (h.1 g'1)))))) (fun g'1=>q_ rfl (m_ (b_ H5 rfl eql_ (m_ (e_ (cs_ rfl (fun g'2=>q_ rfl (m_ (m_ (((h.2 g'1).1 g'2).elim fun c'3 e'4=>s_ixS H1 rfl (by decide) e'4.1 (e'4.2.elim fun r'5 e'6=>ca_ (sc H0 rfl (sc rfl rfl sn)) e'6.1 (m_ (e_ (rt_ (hQ _ _ _ rfl e'6.2))))))))) (fun g'2=>q_ rfl (m_ (m_ (ln_ H0 (b_ H5 rfl geq_ (m_ (e_ (cs_ rfl (fun g'7=>q_ rfl (m_ (e_ (rt_ (hQ _ _ _ rfl (((h.2 g'1).2 g'2).1 g'7)))))) (fun g'7=>q_ rfl (s_mvI H5 ((((h.2 g'1).2 g'2).2 g'7).elim)))))))))))))))))
theorem w197_2 {s0 substr1:List UInt8}{n5:Int}(H0:σ 0 = .s s0)(H1:σ 1 = .s substr1)(H5:σ 5 = .i .i64 n5)(h:T197_2 prog K s0 substr1 n5):W prog d c197_15 σ st Q:=
 sq_ (bk_ (q_ rfl (s_mvI H5 (b_ rfl rfl eql_ (s_mvB rfl (em_ (g:=19) rfl (fun g'1=>gn_ (b:=true) rfl rfl (gn_ (b:=true) rfl rfl (gn_ (b:=true) rfl rfl (pt_ rfl rfl (s_mvB rfl (e_ (w197_3 hQ H0 H1 H5 rfl (h.1 g'1)))))))) (fun g'1=>gy_ rfl (s_mvS H1 (gy_ rfl (s_mvS H0 (gy_ rfl (b_ rfl rfl seq_ (pf_ rfl rfl (s_mvB rfl (e_ (w197_3 hQ H0 H1 H5 rfl (h.2 g'1)))))))))))))))))
theorem w197_1 {s0 substr1:List UInt8}(H0:σ 0 = .s s0)(H1:σ 1 = .s substr1)(h:T197_1 prog K s0 substr1):W prog d c197_16 σ st Q:=
 q_ rfl (m_ (ln_ H1 (m_ (e_ (w197_2 hQ H0 H1 rfl h)))))
theorem w197_0 {s0 substr1:List UInt8}(H0:σ 0 = .s s0)(H1:σ 1 = .s substr1)(h:T197_0 prog K s0 substr1):W prog d (.seq (.reg 0 r197_0) c197_16) σ st Q:=
 q_ rfl (m_ (e_ (w197_1 hQ H0 H1 h)))
end
theorem p197 {prog:Prog}(hf:prog.fn 197 = some pf197){s0:List UInt8}{substr1:List UInt8}{K:Int→Prop}(h:T197_0 prog K s0 substr1) :∃res0:Int,K res0∧Pus prog 197 [.s s0,.s substr1] (.i .i64 res0):=by
  obtain ⟨v,hv,res0,hk,rfl⟩:=Pus.of (K:=fun v=>∃res0:Int,K res0∧v = .i .i64 res0) hf rfl (w197_0 (σ:=sl0 [.s s0,.s substr1]) (fun σ st   res0 H4 hk=>⟨.i .i64 res0,by simp only [pf197,ares,aresL,H4,ares1,Option.map_some],_,rfl,res0,hk,rfl⟩) rfl rfl h)
  exact ⟨res0,hk,hv⟩
end Go.AM
