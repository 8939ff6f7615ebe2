/- Parts of the proof: U44a, U44b, H44, U44c, S3, U44d, U44e, U44f. -/
import Derived.Test.YtbcdfamilcmjnaaG2
import Derived.Test.YtbcdfamilcmjnaaG1
import Derived.Maps.RangeRun
set_option linter.all false
/- Parts of the proof. -/
namespace Go.AM
open Go
set_option linter.unusedVariables false
set_option linter.unusedSimpArgs false
set_option maxRecDepth 4000
attribute [local irreducible] WO fillCells fillRows
def r258_0:List AI:=[oC 2 (.s [])]
def r258_1:List AI:=[oM 3 0,
 oO 4 (.call false 15 [(.t 3)]),
 oM 2 4]
abbrev b258:AC:=(.seq (.reg 0 r258_0) (.seq (.reg 1 r258_1) .ret))
def pf258:AF:={ nt:=5,res:=[.tmp 2],body:=b258 }
abbrev H258 (Q:AE→Sl→St→Prop)(K:List UInt8→Prop):Prop:=∀(σ:Sl)(st:St)(res0:List UInt8),σ 2 = .s res0→K res0→Q .ret σ st
def T258_0 (prog:Prog)(K:List UInt8→Prop)(n0:Int):Prop:=
  ∃r'1:List UInt8,Pus prog 15 [.i .i64 n0] (.s r'1)∧K r'1
section
variable {prog:Prog}{d:Nat}{Q:AE→Sl→St→Prop}{K:List UInt8→Prop}(hQ:H258 Q K){σ:Sl}{st:St}
include hQ
theorem w258_0 {n0:Int}(H0:σ 0 = .i .i64 n0)(h:T258_0 prog K n0):W prog d (.seq (.reg 0 r258_0) (.seq (.reg 1 r258_1) .ret)) σ st Q:=
 q_ rfl (m_ (e_ (q_ rfl (m_ (h.elim fun r'1 e'2=>ca_ (sc H0 rfl sn) e'2.1 (m_ (e_ (rt_ (hQ _ _ _ rfl e'2.2)))))))))
end
theorem p258 {prog:Prog}(hf:prog.fn 258 = some pf258){n0:Int}{K:List UInt8→Prop}(h:T258_0 prog K n0) :∃res0:List UInt8,K res0∧Pus prog 258 [.i .i64 n0] (.s res0):=by
  obtain ⟨v,hv,res0,hk,rfl⟩:=Pus.of (K:=fun v=>∃res0:List UInt8,K res0∧v = .s res0) hf rfl (w258_0 (σ:=sl0 [.i .i64 n0]) (fun σ st   res0 H2 hk=>⟨.s res0,by simp only [pf258,ares,aresL,H2,ares1,Option.map_some],_,rfl,res0,hk,rfl⟩) rfl h)
  exact ⟨res0,hk,hv⟩
abbrev H263 (Q:AE→Sl→St→Prop)(K:List (List UInt8)→Prop):Prop:=∀(σ:Sl)(st:St)(o0:Own)(res0:List (List UInt8)),σ 0 = .sl o0 (List.map rowS res0)→K res0→Q .ret σ st
section
variable {prog:Prog}{d:Nat}{Q:AE→Sl→St→Prop}{K:List (List UInt8)→Prop}(hQ:H263 Q K){σ:Sl}{st:St}
include hQ
end
abbrev H265 (Q:AE→Sl→St→Prop)(K:List UInt8→Prop):Prop:=∀(σ:Sl)(st:St)(res0:List UInt8),σ 2 = .s res0→K res0→Q .ret σ st
section
variable {prog:Prog}{d:Nat}{Q:AE→Sl→St→Prop}{K:List UInt8→Prop}(hQ:H265 Q K){σ:Sl}{st:St}
include hQ
end
def r266_0:List AI:=[oC 4 (.s []),
 oC 5 (.s []),
 oC 6 (.b false)]
def r266_1:List AI:=[oM 8 0,
 oM 9 1,
 oO 10 (.call false 197 [(.t 8),(.t 9)]),
 oM 7 10]
def r266_2:List AI:=[oM 11 7,
 oB 12 .geq (.t 11) (.c (.i .i64 0))]
def r266_3:List AI:=[oM 13 0,
 oM 14 7,
 oO 15 (.slS (.t 13) none (some (.t 14))),
 oM 16 0,
 oM 17 7,
 oM 18 1,
 oO 19 (.len true (.t 18)),
 oB 20 .add (.t 17) (.t 19),
 oO 21 (.slS (.t 16) (some (.t 20)) none),
 oM 4 15,
 oM 5 21,
 oC 6 (.b true)]
def r266_4:List AI:=[oM 22 0,
 oM 4 22,
 oC 5 (.s []),
 oC 6 (.b false)]
abbrev b266:AC:=(.seq (.reg 0 r266_0) (.seq (.seq (.reg 1 r266_1) (.seq (.reg 2 r266_2) (.cond (.t 12) (.seq (.reg 3 r266_3) .ret) .skip))) (.seq (.reg 4 r266_4) .ret)))
def pf266:AF:={ nt:=23,res:=[.tmp 4,.tmp 5,.tmp 6],body:=b266 }
abbrev H266 (Q:AE→Sl→St→Prop)(K:List UInt8→List UInt8→Bool→Prop):Prop:=∀(σ:Sl)(st:St)(res0:List UInt8)(res1:List UInt8)(res2:Bool),σ 4 = .s res0→σ 5 = .s res1→σ 6 = .b res2→K res0 res1 res2→Q .ret σ st
def T266_0 (prog:Prog)(K:List UInt8→List UInt8→Bool→Prop)(s0:List UInt8)(sep1:List UInt8):Prop:=
  ∃r'1:Int,Pus prog 197 [.s s0,.s sep1] (.i .i64 r'1)∧(r'1 ≥ 0→0≤r'1∧(r'1).toNat≤s0.length∧0≤(IntKind.i64.wrap (r'1 + (sep1.length:Int)))∧(IntKind.i64.wrap (r'1 + (sep1.length:Int))).toNat≤s0.length∧K (s0.take (r'1).toNat) (s0.drop (IntKind.i64.wrap (r'1 + (sep1.length:Int))).toNat) true)∧(¬(r'1 ≥ 0)→K s0 ([]:List UInt8) false)
section
variable {prog:Prog}{d:Nat}{Q:AE→Sl→St→Prop}{K:List UInt8→List UInt8→Bool→Prop}(hQ:H266 Q K){σ:Sl}{st:St}
include hQ
theorem w266_0 {s0 sep1:List UInt8}(H0:σ 0 = .s s0)(H1:σ 1 = .s sep1)(h:T266_0 prog K s0 sep1):W prog d (.seq (.reg 0 r266_0) (.seq (.seq (.reg 1 r266_1) (.seq (.reg 2 r266_2) (.cond (.t 12) (.seq (.reg 3 r266_3) .ret) .skip))) (.seq (.reg 4 r266_4) .ret))) σ st Q:=
 q_ rfl (m_ (m_ (m_ (e_ (sq_ (q_ rfl (m_ (m_ (h.elim fun r'1 e'2=>ca_ (sc H0 rfl (sc H1 rfl sn)) e'2.1 (m_ (e_ (q_ rfl (m_ (b_ rfl rfl geq_ (e_ (cs_ rfl (fun g'3=>q_ rfl (m_ (m_ (s_slS_hi H0 rfl (e'2.2.1 g'3).1 (e'2.2.1 g'3).2.1 (m_ (m_ (m_ (ln_ H1 (b_ rfl rfl add_ (s_slS_lo H0 rfl (e'2.2.1 g'3).2.2.1 (e'2.2.1 g'3).2.2.2.1 (m_ (m_ (m_ (e_ (rt_ (hQ _ _ _ _ _ rfl rfl rfl (e'2.2.1 g'3).2.2.2.2)))))))))))))))) (fun g'3=>sk_ (q_ rfl (m_ (m_ (m_ (m_ (e_ (rt_ (hQ _ _ _ _ _ H0 rfl rfl (e'2.2.2 g'3))))))))))))))))))))))))))
end
theorem p266 {prog:Prog}(hf:prog.fn 266 = some pf266){s0:List UInt8}{sep1:List UInt8}{K:List UInt8→List UInt8→Bool→Prop}(h:T266_0 prog K s0 sep1) :∃res0:List UInt8,∃res1:List UInt8,∃res2:Bool,K res0 res1 res2∧Pus prog 266 [.s s0,.s sep1] (.tup [.s res0,.s res1,.b res2]):=by
  obtain ⟨v,hv,res0,res1,res2,hk,rfl⟩:=Pus.of (K:=fun v=>∃res0:List UInt8,∃res1:List UInt8,∃res2:Bool,K res0 res1 res2∧v = .tup [.s res0,.s res1,.b res2]) hf rfl (w266_0 (σ:=sl0 [.s s0,.s sep1]) (fun σ st   res0 res1 res2 H4 H5 H6 hk=>⟨.tup [.s res0,.s res1,.b res2],by simp only [pf266,ares,aresL,H4,H5,H6,ares1,Option.map_some],_,rfl,res0,res1,res2,hk,rfl⟩) rfl rfl h)
  exact ⟨res0,res1,res2,hk,hv⟩
def r260_0:List AI:=[oC 4 (.s []),
 oC 5 (.s []),
 oC 6 (.b false)]
def r260_1:List AI:=[oM 7 0,
 oM 8 1,
 oO 9 (.call false 266 [(.t 7),(.t 8)]),
 oE 10 0 9,
 oE 11 1 9,
 oE 12 2 9,
 oM 4 10,
 oM 5 11,
 oM 6 12]
abbrev b260:AC:=(.seq (.reg 0 r260_0) (.seq (.reg 1 r260_1) .ret))
def pf260:AF:={ nt:=13,res:=[.tmp 4,.tmp 5,.tmp 6],body:=b260 }
abbrev H260 (Q:AE→Sl→St→Prop)(K:List UInt8→List UInt8→Bool→Prop):Prop:=∀(σ:Sl)(st:St)(res0:List UInt8)(res1:List UInt8)(res2:Bool),σ 4 = .s res0→σ 5 = .s res1→σ 6 = .b res2→K res0 res1 res2→Q .ret σ st
def T260_0 (prog:Prog)(K:List UInt8→List UInt8→Bool→Prop)(s0:List UInt8)(sep1:List UInt8):Prop:=
  ∃r'1:List UInt8,∃r'2:List UInt8,∃r'3:Bool,Pus prog 266 [.s s0,.s sep1] (.tup [.s r'1,.s r'2,.b r'3])∧K r'1 r'2 r'3
section
variable {prog:Prog}{d:Nat}{Q:AE→Sl→St→Prop}{K:List UInt8→List UInt8→Bool→Prop}(hQ:H260 Q K){σ:Sl}{st:St}
include hQ
theorem w260_0 {s0 sep1:List UInt8}(H0:σ 0 = .s s0)(H1:σ 1 = .s sep1)(h:T260_0 prog K s0 sep1):W prog d (.seq (.reg 0 r260_0) (.seq (.reg 1 r260_1) .ret)) σ st Q:=
 q_ rfl (m_ (m_ (m_ (e_ (q_ rfl (m_ (m_ (h.elim fun r'1 e'5=>e'5.elim fun r'2 e'6=>e'6.elim fun r'3 e'4=>ca_ (sc H0 rfl (sc H1 rfl sn)) e'4.1 (x_ rfl rfl (x_ rfl rfl (x_ rfl rfl (m_ (m_ (m_ (e_ (rt_ (hQ _ _ _ _ _ rfl rfl rfl e'4.2)))))))))))))))))
end
theorem p260 {prog:Prog}(hf:prog.fn 260 = some pf260){s0:List UInt8}{sep1:List UInt8}{K:List UInt8→List UInt8→Bool→Prop}(h:T260_0 prog K s0 sep1) :∃res0:List UInt8,∃res1:List UInt8,∃res2:Bool,K res0 res1 res2∧Pus prog 260 [.s s0,.s sep1] (.tup [.s res0,.s res1,.b res2]):=by
  obtain ⟨v,hv,res0,res1,res2,hk,rfl⟩:=Pus.of (K:=fun v=>∃res0:List UInt8,∃res1:List UInt8,∃res2:Bool,K res0 res1 res2∧v = .tup [.s res0,.s res1,.b res2]) hf rfl (w260_0 (σ:=sl0 [.s s0,.s sep1]) (fun σ st   res0 res1 res2 H4 H5 H6 hk=>⟨.tup [.s res0,.s res1,.b res2],by simp only [pf260,ares,aresL,H4,H5,H6,ares1,Option.map_some],_,rfl,res0,res1,res2,hk,rfl⟩) rfl rfl h)
  exact ⟨res0,res1,res2,hk,hv⟩
abbrev H262 (Q:AE→Sl→St→Prop)(K:List UInt8→List UInt8→Prop):Prop:=∀(σ:Sl)(st:St)(res0:List UInt8)(res1:List UInt8),σ 2 = .s res0→σ 3 = .s res1→K res0 res1→Q .ret σ st
section
variable {prog:Prog}{d:Nat}{Q:AE→Sl→St→Prop}{K:List UInt8→List UInt8→Prop}(hQ:H262 Q K){σ:Sl}{st:St}
include hQ
end
def r267_0:List AI:=[oC 2 (.i .i64 0),
 oC 3 (.b false)]
def r267_1:List AI:=[oM 7 0,
 oO 8 (.call false 21 [(.t 7)]),
 oM 6 8,
 oE 9 0 6,
 oE 10 1 6,
 oM 4 9,
 oM 5 10]
def r267_2:List AI:=[oM 11 4,
 oM 12 5,
 oB 13 .eql (.t 12) (.c (.i .i64 0)),
 oM 14 13,
 oG 15 (.mv (.t 4)) 14 true,
 oG 16 (.bin .geq (.t 15) (.c (.i .i64 0))) 14 true,
 oO 17 (.pick (.t 14) (.t 16) (.c (.b false))),
 oM 18 17,
 oG 19 (.mv (.t 4)) 18 true,
 oG 20 (.bin .lss (.t 19) (.c (.i .i64 1000))) 18 true,
 oO 21 (.pick (.t 18) (.t 20) (.c (.b false))),
 oM 2 11,
 oM 3 21]
abbrev b267:AC:=(.seq (.reg 0 r267_0) (.seq (.reg 1 r267_1) (.seq (.reg 2 r267_2) .ret)))
def pf267:AF:={ nt:=22,res:=[.tmp 2,.tmp 3],body:=b267 }
abbrev H267 (Q:AE→Sl→St→Prop)(K:Int→Bool→Prop):Prop:=∀(σ:Sl)(st:St)(res0:Int)(res1:Bool),σ 2 = .i .i64 res0→σ 3 = .b res1→K res0 res1→Q .ret σ st
def T267_0 (prog:Prog)(K:Int→Bool→Prop)(s0:List UInt8):Prop:=
  ∃r'1:Int,∃r'2:Int,Pus prog 21 [.s s0] (.tup [.i .i64 r'1,.i .i64 r'2])∧(r'2 = 0→(r'1 ≥ 0→K r'1 (decide (r'1 < 1000)))∧(¬(r'1 ≥ 0)→K r'1 false))∧(¬(r'2 = 0)→K r'1 false)
section
variable {prog:Prog}{d:Nat}{Q:AE→Sl→St→Prop}{K:Int→Bool→Prop}(hQ:H267 Q K){σ:Sl}{st:St}
include hQ
theorem w267_0 {s0:List UInt8}(H0:σ 0 = .s s0)(h:T267_0 prog K s0):W prog d (.seq (.reg 0 r267_0) (.seq (.reg 1 r267_1) (.seq (.reg 2 r267_2) .ret))) σ st Q:=
 q_ rfl (m_ (m_ (e_ (q_ rfl (m_ (h.elim fun r'1 e'6=>e'6.elim fun r'2 e'3=>ca_ (sc H0 rfl sn) e'3.1 (m_ (x_ rfl rfl (x_ rfl rfl (m_ (m_ (e_ (q_ rfl (s_mvI rfl (s_mvI rfl (b_ rfl rfl eql_ (s_mvB rfl (em_ (g:=14) rfl (fun g'4=>gy_ rfl (s_mvI rfl (gy_ rfl (b_ rfl rfl geq_ (pt_ rfl rfl (s_mvB rfl (em_ (g:=18) rfl (fun g'5=>gy_ rfl (s_mvI rfl (gy_ rfl (b_ rfl rfl lss_ (pt_ rfl rfl (s_mvI rfl (s_mvB rfl (e_ (rt_ (hQ _ _ _ _ rfl rfl ((e'3.2.1 g'4).1 g'5))))))))))) (fun g'5=>gn_ (b:=false) rfl rfl (gn_ (b:=false) rfl rfl (pf_ rfl rfl (s_mvI rfl (s_mvB rfl (e_ (rt_ (hQ _ _ _ _ rfl rfl ((e'3.2.1 g'4).2 g'5)))))))))))))))) (fun g'4=>gn_ (b:=false) rfl rfl (gn_ (b:=false) rfl rfl (pf_ rfl rfl (s_mvB rfl (gn_ (b:=false) rfl rfl (gn_ (b:=false) rfl rfl (pf_ rfl rfl (s_mvI rfl (s_mvB rfl (e_ (rt_ (hQ _ _ _ _ rfl rfl (e'3.2.2 g'4)))))))))))))))))))))))))))))))
end
theorem p267 {prog:Prog}(hf:prog.fn 267 = some pf267){s0:List UInt8}{K:Int→Bool→Prop}(h:T267_0 prog K s0) :∃res0:Int,∃res1:Bool,K res0 res1∧Pus prog 267 [.s s0] (.tup [.i .i64 res0,.b res1]):=by
  obtain ⟨v,hv,res0,res1,hk,rfl⟩:=Pus.of (K:=fun v=>∃res0:Int,∃res1:Bool,K res0 res1∧v = .tup [.i .i64 res0,.b res1]) hf rfl (w267_0 (σ:=sl0 [.s s0]) (fun σ st   res0 res1 H2 H3 hk=>⟨.tup [.i .i64 res0,.b res1],by simp only [pf267,ares,aresL,H2,H3,ares1,Option.map_some],_,rfl,res0,res1,hk,rfl⟩) rfl h)
  exact ⟨res0,res1,hk,hv⟩
def r261_0:List AI:=[oO 4 (.alloc [.i .u8 0,.i .i64 0,.i .i64 0,.i .i64 0,.s []]),
 oC 5 (.b false)]
def r261_1:List AI:=[oM 13 0,
 oO 14 (.build [.i .u8 0,.i .i64 0,.i .i64 0,.i .i64 0,.s []] [(0,1,(.t 13))]),
 oO 6 (.alloc [.i .u8 0,.i .i64 0,.i .i64 0,.i .i64 0,.s []]),
 oS 5 6 14]
def r261_2:List AI:=[oC 7 (.b true),
 oC 8 (.b true)]
def r261_3:List AI:=[oC 9 (.i .i64 0)]
def r261_4:List AI:=[oM 15 0]
def r261_5:List AI:=[oB 23 .eql (.t 15) (.c (.i .u8 1)),
 oM 22 23]
def r261_6:List AI:=[oM 24 1,
 oB 25 .eql (.t 24) (.c (.s [])),
 oM 7 25]
def r261_7:List AI:=[oB 27 .eql (.t 15) (.c (.i .u8 3)),
 oM 26 27]
def r261_8:List AI:=[oM 29 1,
 oO 30 (.call false 260 [(.t 29),(.c (.s [32]))]),
 oM 28 30,
 oE 31 0 28,
 oE 32 1 28,
 oE 33 2 28,
 oM 10 31,
 oM 11 32,
 oM 12 33]
def r261_9:List AI:=[oM 35 10,
 oO 36 (.call false 267 [(.t 35)]),
 oM 34 36,
 oE 37 0 34,
 oE 38 1 34,
 oF 39 1 6,
 oS 1 39 37,
 oM 7 38]
def r261_10:List AI:=[oM 41 11,
 oO 42 (.call false 267 [(.t 41)]),
 oM 40 42,
 oE 43 0 40,
 oE 44 1 40,
 oF 45 2 6,
 oS 1 45 43,
 oM 8 44]
def r261_11:List AI:=[oM 46 8,
 oM 47 46,
 oG 48 (.mv (.t 12)) 47 true,
 oO 49 (.pick (.t 47) (.t 48) (.c (.b false))),
 oM 8 49]
def r261_12:List AI:=[oB 51 .eql (.t 15) (.c (.i .u8 6)),
 oM 50 51]
def r261_13:List AI:=[oM 53 1,
 oO 54 (.call false 21 [(.t 53)]),
 oM 52 54,
 oE 55 0 52,
 oE 56 1 52,
 oF 57 3 6,
 oS 1 57 55,
 oM 9 56]
def r261_14:List AI:=[oB 59 .eql (.t 15) (.c (.i .u8 7)),
 oM 58 59]
def r261_15:List AI:=[oB 60 .eql (.t 15) (.c (.i .u8 8)),
 oM 58 60]
def r261_16:List AI:=[oM 62 1,
 oO 63 (.call false 25 [(.t 62)]),
 oM 61 63,
 oE 64 0 61,
 oE 65 1 61,
 oF 66 4 6,
 oS 1 66 64,
 oM 9 65]
def r261_17:List AI:=[oM 17 1,
 oO 18 (.call false 267 [(.t 17)]),
 oM 16 18,
 oE 19 0 16,
 oE 20 1 16,
 oF 21 1 6,
 oS 1 21 19,
 oM 7 20]
def r261_18:List AI:=[oO 67 (.load 5 true (.t 6)),
 oM 68 7,
 oM 69 68,
 oG 70 (.mv (.t 8)) 69 true,
 oO 71 (.pick (.t 69) (.t 70) (.c (.b false))),
 oM 72 71,
 oG 73 (.mv (.t 9)) 72 true,
 oG 74 (.bin .eql (.t 73) (.c (.i .i64 0))) 72 true,
 oO 75 (.pick (.t 72) (.t 74) (.c (.b false))),
 oS 5 4 67,
 oM 5 75]
abbrev c261_0:AC:=(.cond (.t 58) (.reg 17 r261_16) (.reg 5 r261_17))
abbrev c261_1:AC:=(.cond (.t 22) (.reg 7 r261_6) (.seq (.reg 8 r261_7) (.cond (.t 26) (.seq (.reg 9 r261_8) (.seq (.reg 10 r261_9) (.seq (.reg 11 r261_10) (.reg 12 r261_11)))) (.seq (.reg 13 r261_12) (.cond (.t 50) (.reg 14 r261_13) (.seq (.seq (.reg 15 r261_14) (.cond (.t 58) .skip (.reg 16 r261_15))) c261_0))))))
abbrev c261_2:AC:=(.block 0 (.seq (.reg 6 r261_5) c261_1))
abbrev c261_3:AC:=(.seq (.reg 18 r261_18) .ret)
abbrev c261_4:AC:=(.seq (.seq (.reg 4 r261_4) c261_2) c261_3)
abbrev c261_5:AC:=(.seq (.reg 3 r261_3) c261_4)
abbrev c261_6:AC:=(.seq (.reg 2 r261_2) c261_5)
abbrev c261_7:AC:=(.seq (.reg 1 r261_1) c261_6)
abbrev b261:AC:=(.seq (.reg 0 r261_0) c261_7)
def pf261:AF:={ nt:=76,res:=[.cell 4 5 true,.tmp 5],body:=b261 }
abbrev H261 (Q:AE→Sl→St→Prop)(K:Qry→Bool→Prop):Prop:=∀(σ:Sl)(st:St)(k0:Key)(v0:Nat)(res0:Qry)(res1:Bool),σ 4 = .p k0 v0 0→lk st.bx k0 = some (v0,[.i .u8 res0.kind,.i .i64 res0.g,.i .i64 res0.k,.i .i64 res0.key,.s res0.name])→σ 5 = .b res1→K res0 res1→Q .ret σ st
def T261_7 (prog:Prog)(K:Qry→Bool→Prop)(ok7:Bool)(is8:Bool)(e9:Int)(m0:Qry)(m4098:Qry):Prop:=
  (ok7 = true→(is8 = true→K m4098 (decide (e9 = 0)))∧(is8 = false→K m4098 false))∧(ok7 = false→K m4098 false)
def T261_8 (prog:Prog)(K:Qry→Bool→Prop)(rest1:List UInt8)(ok7:Bool)(is8:Bool)(e9:Int)(t58:Bool)(m0:Qry)(m4098:Qry):Prop:=
  (t58 = true→∃r'2:List UInt8,∃r'3:Int,Pus prog 25 [.s rest1] (.tup [.s r'2,.i .i64 r'3])∧T261_7 prog K ok7 is8 r'3 m0 (Qry.mk m4098.kind m4098.g m4098.k m4098.key r'2))∧(t58 = false→∃r'6:Int,∃r'7:Bool,Pus prog 267 [.s rest1] (.tup [.i .i64 r'6,.b r'7])∧T261_7 prog K r'7 is8 e9 m0 (Qry.mk m4098.kind r'6 m4098.k m4098.key m4098.name))
def T261_6 (prog:Prog)(K:Qry→Bool→Prop)(rest1:List UInt8)(ok7:Bool)(is8:Bool)(e9:Int)(t15:Int)(t22:Bool)(m0:Qry)(m4098:Qry):Prop:=
  (t22 = true→T261_7 prog K (decide (rest1 = ([]:List UInt8))) is8 e9 m0 m4098)∧(t22 = false→(t15 = 3→∃r'3:List UInt8,∃r'4:List UInt8,∃r'5:Bool,Pus prog 260 [.s rest1,.s ([32]:List UInt8)] (.tup [.s r'3,.s r'4,.b r'5])∧∃r'7:Int,∃r'8:Bool,Pus prog 267 [.s r'3] (.tup [.i .i64 r'7,.b r'8])∧∃r'10:Int,∃r'11:Bool,Pus prog 267 [.s r'4] (.tup [.i .i64 r'10,.b r'11])∧(r'11 = true→T261_7 prog K r'8 r'5 e9 m0 (Qry.mk m4098.kind r'7 r'10 m4098.key m4098.name))∧(r'11 = false→T261_7 prog K r'8 false e9 m0 (Qry.mk m4098.kind r'7 r'10 m4098.key m4098.name)))∧(¬(t15 = 3)→(t15 = 6→∃r'19:Int,∃r'20:Int,Pus prog 21 [.s rest1] (.tup [.i .i64 r'19,.i .i64 r'20])∧T261_7 prog K ok7 is8 r'20 m0 (Qry.mk m4098.kind m4098.g m4098.k r'19 m4098.name))∧(¬(t15 = 6)→(t15 = 7→T261_8 prog K rest1 ok7 is8 e9 (decide (t15 = 7)) m0 m4098)∧(¬(t15 = 7)→T261_8 prog K rest1 ok7 is8 e9 (decide (t15 = 8)) m0 m4098))))
def T261_5 (prog:Prog)(K:Qry→Bool→Prop)(rest1:List UInt8)(ok7:Bool)(is8:Bool)(e9:Int)(t15:Int)(m0:Qry)(m4098:Qry):Prop:=
  T261_6 prog K rest1 ok7 is8 e9 t15 (decide (t15 = 1)) m0 m4098
def T261_4 (prog:Prog)(K:Qry→Bool→Prop)(kind0:Int)(rest1:List UInt8)(ok7:Bool)(is8:Bool)(e9:Int)(m0:Qry)(m4098:Qry):Prop:=
  T261_5 prog K rest1 ok7 is8 e9 kind0 m0 m4098
def T261_3 (prog:Prog)(K:Qry→Bool→Prop)(kind0:Int)(rest1:List UInt8)(ok7:Bool)(is8:Bool)(m0:Qry)(m4098:Qry):Prop:=
  T261_4 prog K kind0 rest1 ok7 is8 0 m0 m4098
def T261_2 (prog:Prog)(K:Qry→Bool→Prop)(kind0:Int)(rest1:List UInt8)(m0:Qry)(m4098:Qry):Prop:=
  T261_3 prog K kind0 rest1 true true m0 m4098
def T261_1 (prog:Prog)(K:Qry→Bool→Prop)(kind0:Int)(rest1:List UInt8)(m0:Qry):Prop:=
  T261_2 prog K kind0 rest1 m0 (Qry.mk kind0 0 0 0 [])
def T261_0 (prog:Prog)(K:Qry→Bool→Prop)(kind0:Int)(rest1:List UInt8):Prop:=
  T261_1 prog K kind0 rest1 (Qry.mk 0 0 0 0 [])
section
variable {prog:Prog}{d:Nat}{Q:AE→Sl→St→Prop}{K:Qry→Bool→Prop}(hQ:H261 Q K){σ:Sl}{st:St}
include hQ
theorem w261_7 {ok7 is8:Bool}{e9:Int}{m0 m4098:Qry}{v0:Nat}{v4098:Nat}(H4:σ 4 = .p (d,0) v0 0)(H6:σ 6 = .p (d,4098) v4098 0)(H7:σ 7 = .b ok7)(H8:σ 8 = .b is8)(H9:σ 9 = .i .i64 e9)(B0:lk st.bx (d,0) = some (v0,[.i .u8 m0.kind,.i .i64 m0.g,.i .i64 m0.k,.i .i64 m0.key,.s m0.name]))(B4098:lk st.bx (d,4098) = some (v4098,[.i .u8 m4098.kind,.i .i64 m4098.g,.i .i64 m4098.k,.i .i64 m4098.key,.s m4098.name]))(h:T261_7 prog K ok7 is8 e9 m0 m4098):W prog d c261_3 σ st Q:=
 q_ rfl (l_ H6 B4098 rfl rfl (s_mvB H7 (s_mvB rfl (eb_ (g:=69) rfl (fun g'1=>gy_ rfl (s_mvB H8 (pt_ rfl rfl (s_mvB rfl (eb_ (g:=72) rfl (fun g'2=>gy_ rfl (s_mvI H9 (gy_ rfl (b_ rfl rfl eql_ (pt_ rfl rfl (so_ H4 B0 rfl rfl rfl (s_mvB rfl (e_ (rt_ (hQ _ _ _ _ _ _ H4 lk_here rfl ((h.1 g'1).1 g'2))))))))))) (fun g'2=>gn_ (b:=false) rfl rfl (gn_ (b:=false) rfl rfl (pf_ rfl rfl (so_ H4 B0 rfl rfl rfl (s_mvB rfl (e_ (rt_ (hQ _ _ _ _ _ _ H4 lk_here rfl ((h.1 g'1).2 g'2)))))))))))))) (fun g'1=>gn_ (b:=false) rfl rfl (pf_ rfl rfl (s_mvB rfl (gn_ (b:=false) rfl rfl (gn_ (b:=false) rfl rfl (pf_ rfl rfl (so_ H4 B0 rfl rfl rfl (s_mvB rfl (e_ (rt_ (hQ _ _ _ _ _ _ H4 lk_here rfl (h.2 g'1))))))))))))))))
theorem w261_8 {rest1:List UInt8}{ok7 is8:Bool}{e9:Int}{t58:Bool}{m0 m4098:Qry}{v0:Nat}{v4098:Nat}(H1:σ 1 = .s rest1)(H4:σ 4 = .p (d,0) v0 0)(H6:σ 6 = .p (d,4098) v4098 0)(H7:σ 7 = .b ok7)(H8:σ 8 = .b is8)(H9:σ 9 = .i .i64 e9)(H58:σ 58 = .b t58)(B0:lk st.bx (d,0) = some (v0,[.i .u8 m0.kind,.i .i64 m0.g,.i .i64 m0.k,.i .i64 m0.key,.s m0.name]))(B4098:lk st.bx (d,4098) = some (v4098,[.i .u8 m4098.kind,.i .i64 m4098.g,.i .i64 m4098.k,.i .i64 m4098.key,.s m4098.name]))(h:T261_8 prog K rest1 ok7 is8 e9 t58 m0 m4098):W prog d c261_0 σ st (blockW 0 (thenW prog d c261_3 Q)):=
 cb_ H58 (fun g'1=>W.reg0 rfl fun _ _=>m_ ((h.1 g'1).elim fun r'2 e'5=>e'5.elim fun r'3 e'4=>ca_ (sc H1 rfl sn) e'4.1 (m_ (x_ rfl rfl (x_ rfl rfl (f_ H6 (so_ rfl B4098 rfl rfl rfl (m_ (e_ (w261_7 (m4098:=(Qry.mk m4098.kind m4098.g m4098.k m4098.key r'2)) hQ H4 H6 H7 H8 rfl (lk_other rfl B0) lk_here e'4.2)))))))))) (fun g'1=>W.reg0 rfl fun _ _=>m_ ((h.2 g'1).elim fun r'6 e'9=>e'9.elim fun r'7 e'8=>ca_ (sc H1 rfl sn) e'8.1 (m_ (x_ rfl rfl (x_ rfl rfl (f_ H6 (so_ rfl B4098 rfl rfl rfl (m_ (e_ (w261_7 (m4098:=(Qry.mk m4098.kind r'6 m4098.k m4098.key m4098.name)) hQ H4 H6 rfl H8 H9 (lk_other rfl B0) lk_here e'8.2))))))))))
theorem w261_6 {rest1:List UInt8}{ok7 is8:Bool}{e9 t15:Int}{t22:Bool}{m0 m4098:Qry}{v0:Nat}{v4098:Nat}(H1:σ 1 = .s rest1)(H4:σ 4 = .p (d,0) v0 0)(H6:σ 6 = .p (d,4098) v4098 0)(H7:σ 7 = .b ok7)(H8:σ 8 = .b is8)(H9:σ 9 = .i .i64 e9)(H15:σ 15 = .i .u8 t15)(H22:σ 22 = .b t22)(B0:lk st.bx (d,0) = some (v0,[.i .u8 m0.kind,.i .i64 m0.g,.i .i64 m0.k,.i .i64 m0.key,.s m0.name]))(B4098:lk st.bx (d,4098) = some (v4098,[.i .u8 m4098.kind,.i .i64 m4098.g,.i .i64 m4098.k,.i .i64 m4098.key,.s m4098.name]))(h:T261_6 prog K rest1 ok7 is8 e9 t15 t22 m0 m4098):W prog d c261_1 σ st (blockW 0 (thenW prog d c261_3 Q)):=
 cb_ H22 (fun g'1=>W.reg0 rfl fun _ _=>m_ (b_ H1 rfl seq_ (m_ (e_ (w261_7 hQ H4 H6 rfl H8 H9 B0 B4098 (h.1 g'1)))))) (fun g'1=>q_ rfl (b_ H15 rfl eql_ (m_ (e_ (cs_ rfl (fun g'2=>q_ rfl (m_ (((h.2 g'1).1 g'2).elim fun r'3 e'16=>e'16.elim fun r'4 e'17=>e'17.elim fun r'5 e'6=>ca_ (sc H1 rfl (sc rfl rfl sn)) e'6.1 (m_ (x_ rfl rfl (x_ rfl rfl (x_ rfl rfl (m_ (m_ (m_ (e_ (q_ rfl (m_ (e'6.2.elim fun r'7 e'15=>e'15.elim fun r'8 e'9=>ca_ (sc rfl rfl sn) e'9.1 (m_ (x_ rfl rfl (x_ rfl rfl (f_ H6 (so_ rfl B4098 rfl rfl rfl (m_ (e_ (q_ rfl (m_ (e'9.2.elim fun r'10 e'14=>e'14.elim fun r'11 e'12=>ca_ (sc rfl rfl sn) e'12.1 (m_ (x_ rfl rfl (x_ rfl rfl (f_ H6 (so_ rfl lk_here rfl rfl rfl (m_ (e_ (W.reg0 rfl fun _ _=>s_mvB rfl (s_mvB rfl (eb_ (g:=47) rfl (fun g'13=>gy_ rfl (s_mvB rfl (pt_ rfl rfl (s_mvB rfl (e_ (w261_7 (m4098:=(Qry.mk m4098.kind r'7 r'10 m4098.key m4098.name)) hQ H4 H6 rfl rfl H9 (lk_other rfl (lk_other rfl B0)) lk_here (e'12.2.1 g'13))))))) (fun g'13=>gn_ (b:=false) rfl rfl (pf_ rfl rfl (s_mvB rfl (e_ (w261_7 (m4098:=(Qry.mk m4098.kind r'7 r'10 m4098.key m4098.name)) hQ H4 H6 rfl rfl H9 (lk_other rfl (lk_other rfl B0)) lk_here (e'12.2.2 g'13)))))))))))))))))))))))))))))))))))))))) (fun g'2=>q_ rfl (b_ H15 rfl eql_ (m_ (e_ (cs_ rfl (fun g'18=>W.reg0 rfl fun _ _=>m_ ((((h.2 g'1).2 g'2).1 g'18).elim fun r'19 e'22=>e'22.elim fun r'20 e'21=>ca_ (sc H1 rfl sn) e'21.1 (m_ (x_ rfl rfl (x_ rfl rfl (f_ H6 (so_ rfl B4098 rfl rfl rfl (m_ (e_ (w261_7 (m4098:=(Qry.mk m4098.kind m4098.g m4098.k r'19 m4098.name)) hQ H4 H6 H7 H8 rfl (lk_other rfl B0) lk_here e'21.2)))))))))) (fun g'18=>sq_ (q_ rfl (b_ H15 rfl eql_ (m_ (e_ (cs_ rfl (fun g'23=>sk_ (w261_8 hQ H1 H4 H6 H7 H8 H9 rfl B0 B4098 ((((h.2 g'1).2 g'2).2 g'18).1 g'23))) (fun g'23=>W.reg0 rfl fun _ _=>b_ H15 rfl eql_ (m_ (e_ (w261_8 hQ H1 H4 H6 H7 H8 H9 rfl B0 B4098 ((((h.2 g'1).2 g'2).2 g'18).2 g'23)))))))))))))))))))))
theorem w261_5 {rest1:List UInt8}{ok7 is8:Bool}{e9 t15:Int}{m0 m4098:Qry}{v0:Nat}{v4098:Nat}(H1:σ 1 = .s rest1)(H4:σ 4 = .p (d,0) v0 0)(H6:σ 6 = .p (d,4098) v4098 0)(H7:σ 7 = .b ok7)(H8:σ 8 = .b is8)(H9:σ 9 = .i .i64 e9)(H15:σ 15 = .i .u8 t15)(B0:lk st.bx (d,0) = some (v0,[.i .u8 m0.kind,.i .i64 m0.g,.i .i64 m0.k,.i .i64 m0.key,.s m0.name]))(B4098:lk st.bx (d,4098) = some (v4098,[.i .u8 m4098.kind,.i .i64 m4098.g,.i .i64 m4098.k,.i .i64 m4098.key,.s m4098.name]))(h:T261_5 prog K rest1 ok7 is8 e9 t15 m0 m4098):W prog d c261_2 σ st (thenW prog d c261_3 Q):=
 bk_ (q_ rfl (b_ H15 rfl eql_ (m_ (e_ (w261_6 hQ H1 H4 H6 H7 H8 H9 H15 rfl B0 B4098 h)))))
theorem w261_4 {kind0:Int}{rest1:List UInt8}{ok7 is8:Bool}{e9:Int}{m0 m4098:Qry}{v0:Nat}{v4098:Nat}(H0:σ 0 = .i .u8 kind0)(H1:σ 1 = .s rest1)(H4:σ 4 = .p (d,0) v0 0)(H6:σ 6 = .p (d,4098) v4098 0)(H7:σ 7 = .b ok7)(H8:σ 8 = .b is8)(H9:σ 9 = .i .i64 e9)(B0:lk st.bx (d,0) = some (v0,[.i .u8 m0.kind,.i .i64 m0.g,.i .i64 m0.k,.i .i64 m0.key,.s m0.name]))(B4098:lk st.bx (d,4098) = some (v4098,[.i .u8 m4098.kind,.i .i64 m4098.g,.i .i64 m4098.k,.i .i64 m4098.key,.s m4098.name]))(h:T261_4 prog K kind0 rest1 ok7 is8 e9 m0 m4098):W prog d c261_4 σ st Q:=
 sq_ (q_ rfl (m_ (e_ (w261_5 hQ H1 H4 H6 H7 H8 H9 H0 B0 B4098 h))))
theorem w261_3 {kind0:Int}{rest1:List UInt8}{ok7 is8:Bool}{m0 m4098:Qry}{v0:Nat}{v4098:Nat}(H0:σ 0 = .i .u8 kind0)(H1:σ 1 = .s rest1)(H4:σ 4 = .p (d,0) v0 0)(H6:σ 6 = .p (d,4098) v4098 0)(H7:σ 7 = .b ok7)(H8:σ 8 = .b is8)(B0:lk st.bx (d,0) = some (v0,[.i .u8 m0.kind,.i .i64 m0.g,.i .i64 m0.k,.i .i64 m0.key,.s m0.name]))(B4098:lk st.bx (d,4098) = some (v4098,[.i .u8 m4098.kind,.i .i64 m4098.g,.i .i64 m4098.k,.i .i64 m4098.key,.s m4098.name]))(h:T261_3 prog K kind0 rest1 ok7 is8 m0 m4098):W prog d c261_5 σ st Q:=
 q_ rfl (m_ (e_ (w261_4 hQ H0 H1 H4 H6 H7 H8 rfl B0 B4098 h)))
theorem w261_2 {kind0:Int}{rest1:List UInt8}{m0 m4098:Qry}{v0:Nat}{v4098:Nat}(H0:σ 0 = .i .u8 kind0)(H1:σ 1 = .s rest1)(H4:σ 4 = .p (d,0) v0 0)(H6:σ 6 = .p (d,4098) v4098 0)(B0:lk st.bx (d,0) = some (v0,[.i .u8 m0.kind,.i .i64 m0.g,.i .i64 m0.k,.i .i64 m0.key,.s m0.name]))(B4098:lk st.bx (d,4098) = some (v4098,[.i .u8 m4098.kind,.i .i64 m4098.g,.i .i64 m4098.k,.i .i64 m4098.key,.s m4098.name]))(h:T261_2 prog K kind0 rest1 m0 m4098):W prog d c261_6 σ st Q:=
 q_ rfl (m_ (m_ (e_ (w261_3 hQ H0 H1 H4 H6 rfl rfl B0 B4098 h))))
theorem w261_1 {kind0:Int}{rest1:List UInt8}{m0:Qry}{v0:Nat}(H0:σ 0 = .i .u8 kind0)(H1:σ 1 = .s rest1)(H4:σ 4 = .p (d,0) v0 0)(B0:lk st.bx (d,0) = some (v0,[.i .u8 m0.kind,.i .i64 m0.g,.i .i64 m0.k,.i .i64 m0.key,.s m0.name]))(h:T261_1 prog K kind0 rest1 m0):W prog d c261_7 σ st Q:=
 sq_ (W.reg (m_ (s_build (f_cons H0 rfl f_nil) (s_alloc (so_ rfl (show lk _ (d,4098) = some (_,([.i .u8 0,.i .i64 0,.i .i64 0,.i .i64 0,.s []]:List AV)) from lk_here) rfl rfl rfl (e_ (w261_2 (m4098:=(Qry.mk kind0 0 0 0 [])) hQ H0 H1 H4 rfl (lk_other rfl (lk_other rfl B0)) lk_here h)))))))
theorem w261_0 {kind0:Int}{rest1:List UInt8}(H0:σ 0 = .i .u8 kind0)(H1:σ 1 = .s rest1)(h:T261_0 prog K kind0 rest1):W prog d (.seq (.reg 0 r261_0) c261_7) σ st Q:=
 sq_ (W.reg (s_alloc (m_ (e_ (w261_1 (m0:=(Qry.mk 0 0 0 0 [])) hQ H0 H1 rfl (show lk _ (d,0) = some (_,([.i .u8 0,.i .i64 0,.i .i64 0,.i .i64 0,.s []]:List AV)) from lk_here) h)))))
end
theorem p261 {prog:Prog}(hf:prog.fn 261 = some pf261){kind0:Int}{rest1:List UInt8}{K:Qry→Bool→Prop}(h:T261_0 prog K kind0 rest1) :∃res0:Qry,∃res1:Bool,K res0 res1∧Pus prog 261 [.i .u8 kind0,.s rest1] (.tup [res0.av,.b res1]):=by
  obtain ⟨v,hv,res0,res1,hk,rfl⟩:=Pus.of (K:=fun v=>∃res0:Qry,∃res1:Bool,K res0 res1∧v = .tup [res0.av,.b res1]) hf rfl (w261_0 (σ:=sl0 [.i .u8 kind0,.s rest1]) (fun σ st k0 v0  res0 res1 H4 HB4 H5 hk=>⟨.tup [res0.av,.b res1],by simp only [pf261,ares,aresL,ares_cellA (n:=5) H4 HB4 rfl,H5,ares_tmp,Option.map_some],_,rfl,res0,res1,hk,rfl⟩) rfl rfl h)
  exact ⟨res0,res1,hk,hv⟩
def r247_0:List AI:=[oO 1 (.box 5 (.t 0)),
 oC 2 (.i .i64 0)]
def r247_1:List AI:=[oF 4 0 1,
 oL 5 4,
 oO 6 (.build [.i .u8 0,.i .i64 0,.i .i64 0,.i .i64 0,.s []] [(0,1,(.t 5))]),
 oO 3 (.alloc [.i .u8 0,.i .i64 0,.i .i64 0,.i .i64 0,.s []]),
 oS 5 3 6]
def r247_2:List AI:=[oF 7 0 1,
 oL 8 7]
def r247_3:List AI:=[oB 10 .eql (.t 8) (.c (.i .u8 1)),
 oM 9 10]
def r247_4:List AI:=[oB 12 .eql (.t 8) (.c (.i .u8 3)),
 oM 11 12]
def r247_5:List AI:=[oF 13 2 1,
 oL 14 13,
 oF 15 2 3,
 oS 1 15 14]
def r247_6:List AI:=[oF 16 1 1,
 oL 17 16,
 oF 18 1 3,
 oS 1 18 17]
def r247_7:List AI:=[oB 20 .eql (.t 8) (.c (.i .u8 2)),
 oM 19 20]
def r247_8:List AI:=[oB 21 .eql (.t 8) (.c (.i .u8 4)),
 oM 19 21]
def r247_9:List AI:=[oB 22 .eql (.t 8) (.c (.i .u8 5)),
 oM 19 22]
def r247_10:List AI:=[oF 23 1 1,
 oL 24 23,
 oF 25 1 3,
 oS 1 25 24]
def r247_11:List AI:=[oB 27 .eql (.t 8) (.c (.i .u8 6)),
 oM 26 27]
def r247_12:List AI:=[oF 28 3 1,
 oL 29 28,
 oF 30 3 3,
 oS 1 30 29]
def r247_13:List AI:=[oB 32 .eql (.t 8) (.c (.i .u8 7)),
 oM 31 32]
def r247_14:List AI:=[oB 33 .eql (.t 8) (.c (.i .u8 8)),
 oM 31 33]
def r247_15:List AI:=[oF 34 4 1,
 oL 35 34,
 oF 36 4 3,
 oS 1 36 35]
def r247_16:List AI:=[oC 2 (.i .i64 8)]
def r247_17:List AI:=[oO 37 (.load 5 true (.t 1)),
 oO 38 (.load 5 true (.t 3)),
 oO 39 (.aeq true [0,0,0,0,2] (.t 37) (.t 38)),
 oM 40 39,
 oG 41 (.fad 1 (.t 1)) 40 false,
 oG 42 (.load 1 false (.t 41)) 40 false,
 oG 43 (.bin .lss (.t 42) (.c (.i .i64 0))) 40 false,
 oO 44 (.pick (.t 40) (.c (.b true)) (.t 43)),
 oM 45 44,
 oG 46 (.fad 1 (.t 1)) 45 false,
 oG 47 (.load 1 false (.t 46)) 45 false,
 oG 48 (.bin .geq (.t 47) (.c (.i .i64 16))) 45 false,
 oO 49 (.pick (.t 45) (.c (.b true)) (.t 48)),
 oM 50 49,
 oG 51 (.fad 2 (.t 1)) 50 false,
 oG 52 (.load 1 false (.t 51)) 50 false,
 oG 53 (.bin .lss (.t 52) (.c (.i .i64 0))) 50 false,
 oO 54 (.pick (.t 50) (.c (.b true)) (.t 53)),
 oM 55 54,
 oG 56 (.fad 2 (.t 1)) 55 false,
 oG 57 (.load 1 false (.t 56)) 55 false,
 oG 58 (.bin .geq (.t 57) (.c (.i .i64 170))) 55 false,
 oO 59 (.pick (.t 55) (.c (.b true)) (.t 58)),
 oM 60 59,
 oG 61 (.fad 4 (.t 1)) 60 false,
 oG 62 (.load 1 false (.t 61)) 60 false,
 oG 63 (.len true (.t 62)) 60 false,
 oG 64 (.bin .gtr (.t 63) (.c (.i .i64 16))) 60 false,
 oO 65 (.pick (.t 60) (.c (.b true)) (.t 64))]
def r247_18:List AI:=[oC 2 (.i .i64 8)]
def r247_19:List AI:=[oC 2 (.i .i64 0)]
abbrev c247_0:AC:=(.cond (.t 31) (.reg 16 r247_15) (.seq (.reg 3 r247_16) .ret))
abbrev c247_1:AC:=(.cond (.t 19) (.reg 11 r247_10) (.seq (.reg 12 r247_11) (.cond (.t 26) (.reg 13 r247_12) (.seq (.seq (.reg 14 r247_13) (.cond (.t 31) .skip (.reg 15 r247_14))) c247_0))))
abbrev c247_2:AC:=(.seq (.seq (.reg 17 r247_17) (.cond (.t 65) (.seq (.reg 18 r247_18) .ret) .skip)) (.seq (.reg 19 r247_19) .ret))
abbrev c247_3:AC:=(.seq (.seq (.reg 2 r247_2) (.block 0 (.seq (.reg 4 r247_3) (.cond (.t 9) .skip (.seq (.reg 5 r247_4) (.cond (.t 11) (.seq (.reg 6 r247_5) (.reg 7 r247_6)) (.seq (.seq (.reg 8 r247_7) (.cond (.t 19) .skip (.seq (.reg 9 r247_8) (.cond (.t 19) .skip (.reg 10 r247_9))))) c247_1))))))) c247_2)
abbrev c247_4:AC:=(.seq (.reg 1 r247_1) c247_3)
abbrev b247:AC:=(.seq (.reg 0 r247_0) c247_4)
def pf247:AF:={ nt:=66,res:=[.tmp 2],body:=b247 }
abbrev H247 (Q:AE→Sl→St→Prop)(K:Int→Prop):Prop:=∀(σ:Sl)(st:St)(res0:Int),σ 2 = .i .i64 res0→K res0→Q .ret σ st
def T247_3 (prog:Prog)(K:Int→Prop)(m0:Qry)(m4099:Qry):Prop:=
  ((!((m0.kind) == (m4099.kind) && ((m0.g) == (m4099.g) && ((m0.k) == (m4099.k) && ((m0.key) == (m4099.key) && ((m0.name) == (m4099.name) && true)))))) = true→K 8)∧((!((m0.kind) == (m4099.kind) && ((m0.g) == (m4099.g) && ((m0.k) == (m4099.k) && ((m0.key) == (m4099.key) && ((m0.name) == (m4099.name) && true)))))) = false→(m0.g < 0→K 8)∧(¬(m0.g < 0)→(m0.g ≥ 16→K 8)∧(¬(m0.g ≥ 16)→(m0.k < 0→K 8)∧(¬(m0.k < 0)→(m0.k ≥ 170→K 8)∧(¬(m0.k ≥ 170)→((m0.name.length:Int) > 16→K 8)∧(¬((m0.name.length:Int) > 16)→K 0))))))
def T247_5 (prog:Prog)(K:Int→Prop)(t31:Bool)(m0:Qry)(m4099:Qry):Prop:=
  (t31 = true→T247_3 prog K m0 (Qry.mk m4099.kind m4099.g m4099.k m4099.key m0.name))∧(t31 = false→K 8)
def T247_4 (prog:Prog)(K:Int→Prop)(t8:Int)(t19:Bool)(m0:Qry)(m4099:Qry):Prop:=
  (t19 = true→T247_3 prog K m0 (Qry.mk m4099.kind m0.g m4099.k m4099.key m4099.name))∧(t19 = false→(t8 = 6→T247_3 prog K m0 (Qry.mk m4099.kind m4099.g m4099.k m0.key m4099.name))∧(¬(t8 = 6)→(t8 = 7→T247_5 prog K (decide (t8 = 7)) m0 m4099)∧(¬(t8 = 7)→T247_5 prog K (decide (t8 = 8)) m0 m4099)))
def T247_2 (prog:Prog)(K:Int→Prop)(m0:Qry)(m4099:Qry):Prop:=
  (m0.kind = 1→T247_3 prog K m0 m4099)∧(¬(m0.kind = 1)→(m0.kind = 3→T247_3 prog K m0 (Qry.mk m4099.kind m0.g m0.k m4099.key m4099.name))∧(¬(m0.kind = 3)→(m0.kind = 2→T247_4 prog K m0.kind (decide (m0.kind = 2)) m0 m4099)∧(¬(m0.kind = 2)→(m0.kind = 4→T247_4 prog K m0.kind (decide (m0.kind = 4)) m0 m4099)∧(¬(m0.kind = 4)→T247_4 prog K m0.kind (decide (m0.kind = 5)) m0 m4099))))
def T247_1 (prog:Prog)(K:Int→Prop)(m0:Qry):Prop:=
  T247_2 prog K m0 (Qry.mk m0.kind 0 0 0 [])
def T247_0 (prog:Prog)(K:Int→Prop)(q0:Qry):Prop:=
  T247_1 prog K q0
section
variable {prog:Prog}{d:Nat}{Q:AE→Sl→St→Prop}{K:Int→Prop}(hQ:H247 Q K){σ:Sl}{st:St}
include hQ
theorem w247_3 {m0 m4099:Qry}{v0:Nat}{v4099:Nat}(H1:σ 1 = .p (d,0) v0 0)(H3:σ 3 = .p (d,4099) v4099 0)(B0:lk st.bx (d,0) = some (v0,[.i .u8 m0.kind,.i .i64 m0.g,.i .i64 m0.k,.i .i64 m0.key,.s m0.name]))(B4099:lk st.bx (d,4099) = some (v4099,[.i .u8 m4099.kind,.i .i64 m4099.g,.i .i64 m4099.k,.i .i64 m4099.key,.s m4099.name]))(h:T247_3 prog K m0 m4099):W prog d c247_2 σ st Q:=
 sq_ (q_ rfl (l_ H1 B0 rfl rfl (l_ H3 B4099 rfl rfl (s_aeqN rfl rfl rfl (s_mvB rfl (eb_ (g:=40) rfl (fun g'1=>gn_ (b:=true) rfl rfl (gn_ (b:=true) rfl rfl (gn_ (b:=true) rfl rfl (pt_ rfl rfl (s_mvB rfl (gn_ (b:=true) rfl rfl (gn_ (b:=true) rfl rfl (gn_ (b:=true) rfl rfl (pt_ rfl rfl (s_mvB rfl (gn_ (b:=true) rfl rfl (gn_ (b:=true) rfl rfl (gn_ (b:=true) rfl rfl (pt_ rfl rfl (s_mvB rfl (gn_ (b:=true) rfl rfl (gn_ (b:=true) rfl rfl (gn_ (b:=true) rfl rfl (pt_ rfl rfl (s_mvB rfl (gn_ (b:=true) rfl rfl (gn_ (b:=true) rfl rfl (gn_ (b:=true) rfl rfl (gn_ (b:=true) rfl rfl (pt_ rfl rfl (e_ (ct_ rfl (q_ rfl (m_ (e_ (rt_ (hQ _ _ _ rfl (h.1 g'1))))))))))))))))))))))))))))))))) (fun g'1=>gy_ rfl (f_ H1 (gy_ rfl (l_ rfl B0 rfl rfl (gy_ rfl (b_ rfl rfl lss_ (pf_ rfl rfl (s_mvB rfl (em_ (g:=45) rfl (fun g'2=>gn_ (b:=true) rfl rfl (gn_ (b:=true) rfl rfl (gn_ (b:=true) rfl rfl (pt_ rfl rfl (s_mvB rfl (gn_ (b:=true) rfl rfl (gn_ (b:=true) rfl rfl (gn_ (b:=true) rfl rfl (pt_ rfl rfl (s_mvB rfl (gn_ (b:=true) rfl rfl (gn_ (b:=true) rfl rfl (gn_ (b:=true) rfl rfl (pt_ rfl rfl (s_mvB rfl (gn_ (b:=true) rfl rfl (gn_ (b:=true) rfl rfl (gn_ (b:=true) rfl rfl (gn_ (b:=true) rfl rfl (pt_ rfl rfl (e_ (ct_ rfl (q_ rfl (m_ (e_ (rt_ (hQ _ _ _ rfl ((h.2 g'1).1 g'2)))))))))))))))))))))))))))) (fun g'2=>gy_ rfl (f_ H1 (gy_ rfl (l_ rfl B0 rfl rfl (gy_ rfl (b_ rfl rfl geq_ (pf_ rfl rfl (s_mvB rfl (em_ (g:=50) rfl (fun g'3=>gn_ (b:=true) rfl rfl (gn_ (b:=true) rfl rfl (gn_ (b:=true) rfl rfl (pt_ rfl rfl (s_mvB rfl (gn_ (b:=true) rfl rfl (gn_ (b:=true) rfl rfl (gn_ (b:=true) rfl rfl (pt_ rfl rfl (s_mvB rfl (gn_ (b:=true) rfl rfl (gn_ (b:=true) rfl rfl (gn_ (b:=true) rfl rfl (gn_ (b:=true) rfl rfl (pt_ rfl rfl (e_ (ct_ rfl (q_ rfl (m_ (e_ (rt_ (hQ _ _ _ rfl (((h.2 g'1).2 g'2).1 g'3))))))))))))))))))))))) (fun g'3=>gy_ rfl (f_ H1 (gy_ rfl (l_ rfl B0 rfl rfl (gy_ rfl (b_ rfl rfl lss_ (pf_ rfl rfl (s_mvB rfl (em_ (g:=55) rfl (fun g'4=>gn_ (b:=true) rfl rfl (gn_ (b:=true) rfl rfl (gn_ (b:=true) rfl rfl (pt_ rfl rfl (s_mvB rfl (gn_ (b:=true) rfl rfl (gn_ (b:=true) rfl rfl (gn_ (b:=true) rfl rfl (gn_ (b:=true) rfl rfl (pt_ rfl rfl (e_ (ct_ rfl (q_ rfl (m_ (e_ (rt_ (hQ _ _ _ rfl ((((h.2 g'1).2 g'2).2 g'3).1 g'4)))))))))))))))))) (fun g'4=>gy_ rfl (f_ H1 (gy_ rfl (l_ rfl B0 rfl rfl (gy_ rfl (b_ rfl rfl geq_ (pf_ rfl rfl (s_mvB rfl (em_ (g:=60) rfl (fun g'5=>gn_ (b:=true) rfl rfl (gn_ (b:=true) rfl rfl (gn_ (b:=true) rfl rfl (gn_ (b:=true) rfl rfl (pt_ rfl rfl (e_ (ct_ rfl (q_ rfl (m_ (e_ (rt_ (hQ _ _ _ rfl (((((h.2 g'1).2 g'2).2 g'3).2 g'4).1 g'5))))))))))))) (fun g'5=>gy_ rfl (f_ H1 (gy_ rfl (l_ rfl B0 rfl rfl (gy_ rfl (ln_ rfl (gy_ rfl (b_ rfl rfl gtr_ (pf_ rfl rfl (e_ (cs_ rfl (fun g'6=>q_ rfl (m_ (e_ (rt_ (hQ _ _ _ rfl ((((((h.2 g'1).2 g'2).2 g'3).2 g'4).2 g'5).1 g'6)))))) (fun g'6=>sk_ (q_ rfl (m_ (e_ (rt_ (hQ _ _ _ rfl ((((((h.2 g'1).2 g'2).2 g'3).2 g'4).2 g'5).2 g'6))))))))))))))))))))))))))))))))))))))))))))))))))))))))))))
theorem w247_5 {t31:Bool}{m0 m4099:Qry}{v0:Nat}{v4099:Nat}(H1:σ 1 = .p (d,0) v0 0)(H3:σ 3 = .p (d,4099) v4099 0)(H31:σ 31 = .b t31)(B0:lk st.bx (d,0) = some (v0,[.i .u8 m0.kind,.i .i64 m0.g,.i .i64 m0.k,.i .i64 m0.key,.s m0.name]))(B4099:lk st.bx (d,4099) = some (v4099,[.i .u8 m4099.kind,.i .i64 m4099.g,.i .i64 m4099.k,.i .i64 m4099.key,.s m4099.name]))(h:T247_5 prog K t31 m0 m4099):W prog d c247_0 σ st (blockW 0 (thenW prog d c247_2 Q)):=
 cb_ H31 (fun g'1=>W.reg0 rfl fun _ _=>f_ H1 (l_ rfl B0 rfl rfl (f_ H3 (so_ rfl B4099 rfl rfl rfl (e_ (w247_3 (m4099:=(Qry.mk m4099.kind m4099.g m4099.k m4099.key m0.name)) hQ H1 H3 (lk_other rfl B0) lk_here (h.1 g'1))))))) (fun g'1=>q_ rfl (m_ (e_ (rt_ (hQ _ _ _ rfl (h.2 g'1))))))
theorem w247_4 {t8:Int}{t19:Bool}{m0 m4099:Qry}{v0:Nat}{v4099:Nat}(H1:σ 1 = .p (d,0) v0 0)(H3:σ 3 = .p (d,4099) v4099 0)(H8:σ 8 = .i .u8 t8)(H19:σ 19 = .b t19)(B0:lk st.bx (d,0) = some (v0,[.i .u8 m0.kind,.i .i64 m0.g,.i .i64 m0.k,.i .i64 m0.key,.s m0.name]))(B4099:lk st.bx (d,4099) = some (v4099,[.i .u8 m4099.kind,.i .i64 m4099.g,.i .i64 m4099.k,.i .i64 m4099.key,.s m4099.name]))(h:T247_4 prog K t8 t19 m0 m4099):W prog d c247_1 σ st (blockW 0 (thenW prog d c247_2 Q)):=
 cb_ H19 (fun g'1=>W.reg0 rfl fun _ _=>f_ H1 (l_ rfl B0 rfl rfl (f_ H3 (so_ rfl B4099 rfl rfl rfl (e_ (w247_3 (m4099:=(Qry.mk m4099.kind m0.g m4099.k m4099.key m4099.name)) hQ H1 H3 (lk_other rfl B0) lk_here (h.1 g'1))))))) (fun g'1=>q_ rfl (b_ H8 rfl eql_ (m_ (e_ (cs_ rfl (fun g'2=>W.reg0 rfl fun _ _=>f_ H1 (l_ rfl B0 rfl rfl (f_ H3 (so_ rfl B4099 rfl rfl rfl (e_ (w247_3 (m4099:=(Qry.mk m4099.kind m4099.g m4099.k m0.key m4099.name)) hQ H1 H3 (lk_other rfl B0) lk_here ((h.2 g'1).1 g'2))))))) (fun g'2=>sq_ (q_ rfl (b_ H8 rfl eql_ (m_ (e_ (cs_ rfl (fun g'3=>sk_ (w247_5 hQ H1 H3 rfl B0 B4099 (((h.2 g'1).2 g'2).1 g'3))) (fun g'3=>W.reg0 rfl fun _ _=>b_ H8 rfl eql_ (m_ (e_ (w247_5 hQ H1 H3 rfl B0 B4099 (((h.2 g'1).2 g'2).2 g'3))))))))))))))))
theorem w247_2 {m0 m4099:Qry}{v0:Nat}{v4099:Nat}(H1:σ 1 = .p (d,0) v0 0)(H3:σ 3 = .p (d,4099) v4099 0)(B0:lk st.bx (d,0) = some (v0,[.i .u8 m0.kind,.i .i64 m0.g,.i .i64 m0.k,.i .i64 m0.key,.s m0.name]))(B4099:lk st.bx (d,4099) = some (v4099,[.i .u8 m4099.kind,.i .i64 m4099.g,.i .i64 m4099.k,.i .i64 m4099.key,.s m4099.name]))(h:T247_2 prog K m0 m4099):W prog d c247_3 σ st Q:=
 sq_ (q_ rfl (f_ H1 (l_ rfl B0 rfl rfl (e_ (bk_ (q_ rfl (b_ rfl rfl eql_ (m_ (e_ (cs_ rfl (fun g'1=>sk_ (w247_3 hQ H1 H3 B0 B4099 (h.1 g'1))) (fun g'1=>q_ rfl (b_ rfl rfl eql_ (m_ (e_ (cs_ rfl (fun g'2=>q_ rfl (f_ H1 (l_ rfl B0 rfl rfl (f_ H3 (so_ rfl B4099 rfl rfl rfl (e_ (W.reg0 rfl fun _ _=>f_ H1 (l_ rfl (lk_other rfl B0) rfl rfl (f_ H3 (so_ rfl lk_here rfl rfl rfl (e_ (w247_3 (m4099:=(Qry.mk m4099.kind m0.g m0.k m4099.key m4099.name)) hQ H1 H3 (lk_other rfl (lk_other rfl B0)) lk_here ((h.2 g'1).1 g'2))))))))))))) (fun g'2=>sq_ (q_ rfl (b_ rfl rfl eql_ (m_ (e_ (cs_ rfl (fun g'3=>sk_ (w247_4 hQ H1 H3 rfl rfl B0 B4099 (((h.2 g'1).2 g'2).1 g'3))) (fun g'3=>q_ rfl (b_ rfl rfl eql_ (m_ (e_ (cs_ rfl (fun g'4=>sk_ (w247_4 hQ H1 H3 rfl rfl B0 B4099 ((((h.2 g'1).2 g'2).2 g'3).1 g'4))) (fun g'4=>W.reg0 rfl fun _ _=>b_ rfl rfl eql_ (m_ (e_ (w247_4 hQ H1 H3 rfl rfl B0 B4099 ((((h.2 g'1).2 g'2).2 g'3).2 g'4)))))))))))))))))))))))))))))))
theorem w247_1 {m0:Qry}{v0:Nat}(H1:σ 1 = .p (d,0) v0 0)(B0:lk st.bx (d,0) = some (v0,[.i .u8 m0.kind,.i .i64 m0.g,.i .i64 m0.k,.i .i64 m0.key,.s m0.name]))(h:T247_1 prog K m0):W prog d c247_4 σ st Q:=
 sq_ (W.reg (f_ H1 (l_ rfl (lk_other rfl B0) rfl rfl (s_build (f_cons rfl rfl f_nil) (s_alloc (so_ rfl (show lk _ (d,4099) = some (_,([.i .u8 0,.i .i64 0,.i .i64 0,.i .i64 0,.s []]:List AV)) from lk_here) rfl rfl rfl (e_ (w247_2 (m4099:=(Qry.mk m0.kind 0 0 0 [])) hQ H1 rfl (lk_other rfl (lk_other rfl B0)) lk_here h))))))))
theorem w247_0 {q0:Qry}(H0:σ 0 = q0.av)(h:T247_0 prog K q0):W prog d (.seq (.reg 0 r247_0) c247_4) σ st Q:=
 q_ rfl (s_box H0 rfl (m_ (e_ (w247_1 hQ rfl lk_here h))))
end
theorem p247 {prog:Prog}(hf:prog.fn 247 = some pf247){q0:Qry}{K:Int→Prop}(h:T247_0 prog K q0) :∃res0:Int,K res0∧Pus prog 247 [q0.av] (.i .i64 res0):=by
  obtain ⟨v,hv,res0,hk,rfl⟩:=Pus.of (K:=fun v=>∃res0:Int,K res0∧v = .i .i64 res0) hf rfl (w247_0 (σ:=sl0 [q0.av]) (fun σ st   res0 H2 hk=>⟨.i .i64 res0,by simp only [pf247,ares,aresL,H2,ares1,Option.map_some],_,rfl,res0,hk,rfl⟩) rfl h)
  exact ⟨res0,hk,hv⟩
def r248_0:List AI:=[oO 1 (.boxf 5 (.t 0)),
 oC 2 (.i .i64 0)]
def r248_1:List AI:=[oF 4 0 1,
 oL 5 4,
 oO 6 (.build [.i .u8 0,.i .i64 0,.i .i64 0,.i .i64 0,.s []] [(0,1,(.t 5))]),
 oO 3 (.alloc [.i .u8 0,.i .i64 0,.i .i64 0,.i .i64 0,.s []]),
 oS 5 3 6]
def r248_2:List AI:=[oF 7 0 1,
 oL 8 7]
def r248_3:List AI:=[oB 10 .eql (.t 8) (.c (.i .u8 1)),
 oM 9 10]
def r248_4:List AI:=[oB 12 .eql (.t 8) (.c (.i .u8 2)),
 oM 11 12]
def r248_5:List AI:=[oB 13 .eql (.t 8) (.c (.i .u8 4)),
 oM 11 13]
def r248_6:List AI:=[oB 14 .eql (.t 8) (.c (.i .u8 5)),
 oM 11 14]
def r248_7:List AI:=[oF 15 1 1,
 oL 16 15,
 oF 17 1 3,
 oS 1 17 16]
def r248_8:List AI:=[oB 19 .eql (.t 8) (.c (.i .u8 3)),
 oM 18 19]
def r248_9:List AI:=[oF 20 1 1,
 oO 21 (.ldf 1 false (.t 20)),
 oF 22 2 1,
 oO 23 (.ldf 1 false (.t 22)),
 oF 24 1 3,
 oS 1 24 21,
 oF 25 2 3,
 oS 1 25 23]
def r248_10:List AI:=[oB 27 .eql (.t 8) (.c (.i .u8 6)),
 oM 26 27]
def r248_11:List AI:=[oF 28 3 1,
 oL 29 28,
 oF 30 3 3,
 oS 1 30 29]
def r248_12:List AI:=[oB 32 .eql (.t 8) (.c (.i .u8 7)),
 oM 31 32]
def r248_13:List AI:=[oB 33 .eql (.t 8) (.c (.i .u8 8)),
 oM 31 33]
def r248_14:List AI:=[oF 34 4 1,
 oL 35 34,
 oF 36 4 3,
 oS 1 36 35]
def r248_15:List AI:=[oC 2 (.i .i64 8)]
def r248_16:List AI:=[oO 37 (.load 5 true (.t 1)),
 oO 38 (.load 5 true (.t 3)),
 oO 39 (.aeq true [0,0,0,0,2] (.t 37) (.t 38)),
 oM 40 39,
 oG 41 (.fad 1 (.t 1)) 40 false,
 oG 42 (.load 1 false (.t 41)) 40 false,
 oG 43 (.bin .lss (.t 42) (.c (.i .i64 0))) 40 false,
 oO 44 (.pick (.t 40) (.c (.b true)) (.t 43)),
 oM 45 44,
 oG 46 (.fad 1 (.t 1)) 45 false,
 oG 47 (.load 1 false (.t 46)) 45 false,
 oG 48 (.bin .geq (.t 47) (.c (.i .i64 16))) 45 false,
 oO 49 (.pick (.t 45) (.c (.b true)) (.t 48)),
 oM 50 49,
 oG 51 (.fad 2 (.t 1)) 50 false,
 oG 52 (.load 1 false (.t 51)) 50 false,
 oG 53 (.bin .lss (.t 52) (.c (.i .i64 0))) 50 false,
 oO 54 (.pick (.t 50) (.c (.b true)) (.t 53)),
 oM 55 54,
 oG 56 (.fad 2 (.t 1)) 55 false,
 oG 57 (.load 1 false (.t 56)) 55 false,
 oG 58 (.bin .geq (.t 57) (.c (.i .i64 170))) 55 false,
 oO 59 (.pick (.t 55) (.c (.b true)) (.t 58)),
 oM 60 59,
 oG 61 (.fad 4 (.t 1)) 60 false,
 oG 62 (.load 1 false (.t 61)) 60 false,
 oG 63 (.len true (.t 62)) 60 false,
 oG 64 (.bin .gtr (.t 63) (.c (.i .i64 16))) 60 false,
 oO 65 (.pick (.t 60) (.c (.b true)) (.t 64))]
def r248_17:List AI:=[oC 2 (.i .i64 8)]
def r248_18:List AI:=[oC 2 (.i .i64 0)]
abbrev c248_0:AC:=(.cond (.t 31) (.reg 15 r248_14) (.seq (.reg 3 r248_15) .ret))
abbrev c248_1:AC:=(.cond (.t 11) (.reg 8 r248_7) (.seq (.reg 9 r248_8) (.cond (.t 18) (.reg 10 r248_9) (.seq (.reg 11 r248_10) (.cond (.t 26) (.reg 12 r248_11) (.seq (.seq (.reg 13 r248_12) (.cond (.t 31) .skip (.reg 14 r248_13))) c248_0))))))
abbrev c248_2:AC:=(.seq (.seq (.reg 16 r248_16) (.cond (.t 65) (.seq (.reg 17 r248_17) .ret) .skip)) (.seq (.reg 18 r248_18) .ret))
abbrev c248_3:AC:=(.seq (.seq (.reg 2 r248_2) (.block 0 (.seq (.reg 4 r248_3) (.cond (.t 9) .skip (.seq (.seq (.reg 5 r248_4) (.cond (.t 11) .skip (.seq (.reg 6 r248_5) (.cond (.t 11) .skip (.reg 7 r248_6))))) c248_1))))) c248_2)
abbrev c248_4:AC:=(.seq (.reg 1 r248_1) c248_3)
abbrev b248:AC:=(.seq (.reg 0 r248_0) c248_4)
def pf248:AF:={ nt:=66,res:=[.tmp 2],fz:=[1],body:=b248 }
abbrev H248 (Q:AE→Sl→St→Prop)(K:Int→Prop):Prop:=∀(σ:Sl)(st:St)(res0:Int),σ 2 = .i .i64 res0→K res0→Q .ret σ st
def T248_3 (prog:Prog)(K:Int→Prop)(q1_0:Int)(q1_1:Int)(q1_2:Int)(q1_3:Int)(q1_4:List UInt8)(m4099:Qry):Prop:=
  ((!((q1_0) == (m4099.kind) && ((q1_1) == (m4099.g) && ((q1_2) == (m4099.k) && ((q1_3) == (m4099.key) && ((q1_4) == (m4099.name) && true)))))) = true→K 8)∧((!((q1_0) == (m4099.kind) && ((q1_1) == (m4099.g) && ((q1_2) == (m4099.k) && ((q1_3) == (m4099.key) && ((q1_4) == (m4099.name) && true)))))) = false→(q1_1 < 0→K 8)∧(¬(q1_1 < 0)→(q1_1 ≥ 16→K 8)∧(¬(q1_1 ≥ 16)→(q1_2 < 0→K 8)∧(¬(q1_2 < 0)→(q1_2 ≥ 170→K 8)∧(¬(q1_2 ≥ 170)→((q1_4.length:Int) > 16→K 8)∧(¬((q1_4.length:Int) > 16)→K 0))))))
def T248_5 (prog:Prog)(K:Int→Prop)(q1_0:Int)(q1_1:Int)(q1_2:Int)(q1_3:Int)(q1_4:List UInt8)(t31:Bool)(m4099:Qry):Prop:=
  (t31 = true→T248_3 prog K q1_0 q1_1 q1_2 q1_3 q1_4 (Qry.mk m4099.kind m4099.g m4099.k m4099.key q1_4))∧(t31 = false→K 8)
def T248_4 (prog:Prog)(K:Int→Prop)(q1_0:Int)(q1_1:Int)(q1_2:Int)(q1_3:Int)(q1_4:List UInt8)(t8:Int)(t11:Bool)(m4099:Qry):Prop:=
  (t11 = true→T248_3 prog K q1_0 q1_1 q1_2 q1_3 q1_4 (Qry.mk m4099.kind q1_1 m4099.k m4099.key m4099.name))∧(t11 = false→(t8 = 3→T248_3 prog K q1_0 q1_1 q1_2 q1_3 q1_4 (Qry.mk m4099.kind q1_1 q1_2 m4099.key m4099.name))∧(¬(t8 = 3)→(t8 = 6→T248_3 prog K q1_0 q1_1 q1_2 q1_3 q1_4 (Qry.mk m4099.kind m4099.g m4099.k q1_3 m4099.name))∧(¬(t8 = 6)→(t8 = 7→T248_5 prog K q1_0 q1_1 q1_2 q1_3 q1_4 (decide (t8 = 7)) m4099)∧(¬(t8 = 7)→T248_5 prog K q1_0 q1_1 q1_2 q1_3 q1_4 (decide (t8 = 8)) m4099))))
def T248_2 (prog:Prog)(K:Int→Prop)(q1_0:Int)(q1_1:Int)(q1_2:Int)(q1_3:Int)(q1_4:List UInt8)(m4099:Qry):Prop:=
  (q1_0 = 1→T248_3 prog K q1_0 q1_1 q1_2 q1_3 q1_4 m4099)∧(¬(q1_0 = 1)→(q1_0 = 2→T248_4 prog K q1_0 q1_1 q1_2 q1_3 q1_4 q1_0 (decide (q1_0 = 2)) m4099)∧(¬(q1_0 = 2)→(q1_0 = 4→T248_4 prog K q1_0 q1_1 q1_2 q1_3 q1_4 q1_0 (decide (q1_0 = 4)) m4099)∧(¬(q1_0 = 4)→T248_4 prog K q1_0 q1_1 q1_2 q1_3 q1_4 q1_0 (decide (q1_0 = 5)) m4099)))
def T248_1 (prog:Prog)(K:Int→Prop)(q1_0:Int)(q1_1:Int)(q1_2:Int)(q1_3:Int)(q1_4:List UInt8):Prop:=
  T248_2 prog K q1_0 q1_1 q1_2 q1_3 q1_4 (Qry.mk q1_0 0 0 0 [])
def T248_0 (prog:Prog)(K:Int→Prop)(q0:Qry):Prop:=
  T248_1 prog K q0.kind q0.g q0.k q0.key q0.name
section
variable {prog:Prog}{d:Nat}{Q:AE→Sl→St→Prop}{K:Int→Prop}(hQ:H248 Q K){σ:Sl}{st:St}
include hQ
theorem w248_3 {q1_0 q1_1 q1_2 q1_3:Int}{q1_4:List UInt8}{m4099:Qry}{v4099:Nat}(H1:σ 1 = .fp [.i .u8 q1_0,.i .i64 q1_1,.i .i64 q1_2,.i .i64 q1_3,.s q1_4])(H3:σ 3 = .p (d,4099) v4099 0)(B4099:lk st.bx (d,4099) = some (v4099,[.i .u8 m4099.kind,.i .i64 m4099.g,.i .i64 m4099.k,.i .i64 m4099.key,.s m4099.name]))(h:T248_3 prog K q1_0 q1_1 q1_2 q1_3 q1_4 m4099):W prog d c248_2 σ st Q:=
 sq_ (q_ rfl (lf_ H1 rfl rfl (l_ H3 B4099 rfl rfl (s_aeqN rfl rfl rfl (s_mvB rfl (eb_ (g:=40) rfl (fun g'1=>gn_ (b:=true) rfl rfl (gn_ (b:=true) rfl rfl (gn_ (b:=true) rfl rfl (pt_ rfl rfl (s_mvB rfl (gn_ (b:=true) rfl rfl (gn_ (b:=true) rfl rfl (gn_ (b:=true) rfl rfl (pt_ rfl rfl (s_mvB rfl (gn_ (b:=true) rfl rfl (gn_ (b:=true) rfl rfl (gn_ (b:=true) rfl rfl (pt_ rfl rfl (s_mvB rfl (gn_ (b:=true) rfl rfl (gn_ (b:=true) rfl rfl (gn_ (b:=true) rfl rfl (pt_ rfl rfl (s_mvB rfl (gn_ (b:=true) rfl rfl (gn_ (b:=true) rfl rfl (gn_ (b:=true) rfl rfl (gn_ (b:=true) rfl rfl (pt_ rfl rfl (e_ (ct_ rfl (q_ rfl (m_ (e_ (rt_ (hQ _ _ _ rfl (h.1 g'1))))))))))))))))))))))))))))))))) (fun g'1=>gy_ rfl (ff_ H1 (gy_ rfl (lf_ rfl rfl rfl (gy_ rfl (b_ rfl rfl lss_ (pf_ rfl rfl (s_mvB rfl (em_ (g:=45) rfl (fun g'2=>gn_ (b:=true) rfl rfl (gn_ (b:=true) rfl rfl (gn_ (b:=true) rfl rfl (pt_ rfl rfl (s_mvB rfl (gn_ (b:=true) rfl rfl (gn_ (b:=true) rfl rfl (gn_ (b:=true) rfl rfl (pt_ rfl rfl (s_mvB rfl (gn_ (b:=true) rfl rfl (gn_ (b:=true) rfl rfl (gn_ (b:=true) rfl rfl (pt_ rfl rfl (s_mvB rfl (gn_ (b:=true) rfl rfl (gn_ (b:=true) rfl rfl (gn_ (b:=true) rfl rfl (gn_ (b:=true) rfl rfl (pt_ rfl rfl (e_ (ct_ rfl (q_ rfl (m_ (e_ (rt_ (hQ _ _ _ rfl ((h.2 g'1).1 g'2)))))))))))))))))))))))))))) (fun g'2=>gy_ rfl (ff_ H1 (gy_ rfl (lf_ rfl rfl rfl (gy_ rfl (b_ rfl rfl geq_ (pf_ rfl rfl (s_mvB rfl (em_ (g:=50) rfl (fun g'3=>gn_ (b:=true) rfl rfl (gn_ (b:=true) rfl rfl (gn_ (b:=true) rfl rfl (pt_ rfl rfl (s_mvB rfl (gn_ (b:=true) rfl rfl (gn_ (b:=true) rfl rfl (gn_ (b:=true) rfl rfl (pt_ rfl rfl (s_mvB rfl (gn_ (b:=true) rfl rfl (gn_ (b:=true) rfl rfl (gn_ (b:=true) rfl rfl (gn_ (b:=true) rfl rfl (pt_ rfl rfl (e_ (ct_ rfl (q_ rfl (m_ (e_ (rt_ (hQ _ _ _ rfl (((h.2 g'1).2 g'2).1 g'3))))))))))))))))))))))) (fun g'3=>gy_ rfl (ff_ H1 (gy_ rfl (lf_ rfl rfl rfl (gy_ rfl (b_ rfl rfl lss_ (pf_ rfl rfl (s_mvB rfl (em_ (g:=55) rfl (fun g'4=>gn_ (b:=true) rfl rfl (gn_ (b:=true) rfl rfl (gn_ (b:=true) rfl rfl (pt_ rfl rfl (s_mvB rfl (gn_ (b:=true) rfl rfl (gn_ (b:=true) rfl rfl (gn_ (b:=true) rfl rfl (gn_ (b:=true) rfl rfl (pt_ rfl rfl (e_ (ct_ rfl (q_ rfl (m_ (e_ (rt_ (hQ _ _ _ rfl ((((h.2 g'1).2 g'2).2 g'3).1 g'4)))))))))))))))))) (fun g'4=>gy_ rfl (ff_ H1 (gy_ rfl (lf_ rfl rfl rfl (gy_ rfl (b_ rfl rfl geq_ (pf_ rfl rfl (s_mvB rfl (em_ (g:=60) rfl (fun g'5=>gn_ (b:=true) rfl rfl (gn_ (b:=true) rfl rfl (gn_ (b:=true) rfl rfl (gn_ (b:=true) rfl rfl (pt_ rfl rfl (e_ (ct_ rfl (q_ rfl (m_ (e_ (rt_ (hQ _ _ _ rfl (((((h.2 g'1).2 g'2).2 g'3).2 g'4).1 g'5))))))))))))) (fun g'5=>gy_ rfl (ff_ H1 (gy_ rfl (lf_ rfl rfl rfl (gy_ rfl (ln_ rfl (gy_ rfl (b_ rfl rfl gtr_ (pf_ rfl rfl (e_ (cs_ rfl (fun g'6=>q_ rfl (m_ (e_ (rt_ (hQ _ _ _ rfl ((((((h.2 g'1).2 g'2).2 g'3).2 g'4).2 g'5).1 g'6)))))) (fun g'6=>sk_ (q_ rfl (m_ (e_ (rt_ (hQ _ _ _ rfl ((((((h.2 g'1).2 g'2).2 g'3).2 g'4).2 g'5).2 g'6))))))))))))))))))))))))))))))))))))))))))))))))))))))))))))
theorem w248_5 {q1_0 q1_1 q1_2 q1_3:Int}{q1_4:List UInt8}{t31:Bool}{m4099:Qry}{v4099:Nat}(H1:σ 1 = .fp [.i .u8 q1_0,.i .i64 q1_1,.i .i64 q1_2,.i .i64 q1_3,.s q1_4])(H3:σ 3 = .p (d,4099) v4099 0)(H31:σ 31 = .b t31)(B4099:lk st.bx (d,4099) = some (v4099,[.i .u8 m4099.kind,.i .i64 m4099.g,.i .i64 m4099.k,.i .i64 m4099.key,.s m4099.name]))(h:T248_5 prog K q1_0 q1_1 q1_2 q1_3 q1_4 t31 m4099):W prog d c248_0 σ st (blockW 0 (thenW prog d c248_2 Q)):=
 cb_ H31 (fun g'1=>W.reg0 rfl fun _ _=>ff_ H1 (lf_ rfl rfl rfl (f_ H3 (so_ rfl B4099 rfl rfl rfl (e_ (w248_3 (m4099:=(Qry.mk m4099.kind m4099.g m4099.k m4099.key q1_4)) hQ H1 H3 lk_here (h.1 g'1))))))) (fun g'1=>q_ rfl (m_ (e_ (rt_ (hQ _ _ _ rfl (h.2 g'1))))))
theorem w248_4 {q1_0 q1_1 q1_2 q1_3:Int}{q1_4:List UInt8}{t8:Int}{t11:Bool}{m4099:Qry}{v4099:Nat}(H1:σ 1 = .fp [.i .u8 q1_0,.i .i64 q1_1,.i .i64 q1_2,.i .i64 q1_3,.s q1_4])(H3:σ 3 = .p (d,4099) v4099 0)(H8:σ 8 = .i .u8 t8)(H11:σ 11 = .b t11)(B4099:lk st.bx (d,4099) = some (v4099,[.i .u8 m4099.kind,.i .i64 m4099.g,.i .i64 m4099.k,.i .i64 m4099.key,.s m4099.name]))(h:T248_4 prog K q1_0 q1_1 q1_2 q1_3 q1_4 t8 t11 m4099):W prog d c248_1 σ st (blockW 0 (thenW prog d c248_2 Q)):=
 cb_ H11 (fun g'1=>W.reg0 rfl fun _ _=>ff_ H1 (lf_ rfl rfl rfl (f_ H3 (so_ rfl B4099 rfl rfl rfl (e_ (w248_3 (m4099:=(Qry.mk m4099.kind q1_1 m4099.k m4099.key m4099.name)) hQ H1 H3 lk_here (h.1 g'1))))))) (fun g'1=>q_ rfl (b_ H8 rfl eql_ (m_ (e_ (cs_ rfl (fun g'2=>W.reg0 rfl fun _ _=>ff_ H1 (s_ldf rfl rfl rfl (ff_ H1 (s_ldf rfl rfl rfl (f_ H3 (so_ rfl B4099 rfl rfl rfl (f_ H3 (so_ rfl lk_here rfl rfl rfl (e_ (w248_3 (m4099:=(Qry.mk m4099.kind q1_1 q1_2 m4099.key m4099.name)) hQ H1 H3 lk_here ((h.2 g'1).1 g'2))))))))))) (fun g'2=>q_ rfl (b_ H8 rfl eql_ (m_ (e_ (cs_ rfl (fun g'3=>W.reg0 rfl fun _ _=>ff_ H1 (lf_ rfl rfl rfl (f_ H3 (so_ rfl B4099 rfl rfl rfl (e_ (w248_3 (m4099:=(Qry.mk m4099.kind m4099.g m4099.k q1_3 m4099.name)) hQ H1 H3 lk_here (((h.2 g'1).2 g'2).1 g'3))))))) (fun g'3=>sq_ (q_ rfl (b_ H8 rfl eql_ (m_ (e_ (cs_ rfl (fun g'4=>sk_ (w248_5 hQ H1 H3 rfl B4099 ((((h.2 g'1).2 g'2).2 g'3).1 g'4))) (fun g'4=>W.reg0 rfl fun _ _=>b_ H8 rfl eql_ (m_ (e_ (w248_5 hQ H1 H3 rfl B4099 ((((h.2 g'1).2 g'2).2 g'3).2 g'4)))))))))))))))))))))
theorem w248_2 {q1_0 q1_1 q1_2 q1_3:Int}{q1_4:List UInt8}{m4099:Qry}{v4099:Nat}(H1:σ 1 = .fp [.i .u8 q1_0,.i .i64 q1_1,.i .i64 q1_2,.i .i64 q1_3,.s q1_4])(H3:σ 3 = .p (d,4099) v4099 0)(B4099:lk st.bx (d,4099) = some (v4099,[.i .u8 m4099.kind,.i .i64 m4099.g,.i .i64 m4099.k,.i .i64 m4099.key,.s m4099.name]))(h:T248_2 prog K q1_0 q1_1 q1_2 q1_3 q1_4 m4099):W prog d c248_3 σ st Q:=
 sq_ (q_ rfl (ff_ H1 (lf_ rfl rfl rfl (e_ (bk_ (q_ rfl (b_ rfl rfl eql_ (m_ (e_ (cs_ rfl (fun g'1=>sk_ (w248_3 hQ H1 H3 B4099 (h.1 g'1))) (fun g'1=>sq_ (q_ rfl (b_ rfl rfl eql_ (m_ (e_ (cs_ rfl (fun g'2=>sk_ (w248_4 hQ H1 H3 rfl rfl B4099 ((h.2 g'1).1 g'2))) (fun g'2=>q_ rfl (b_ rfl rfl eql_ (m_ (e_ (cs_ rfl (fun g'3=>sk_ (w248_4 hQ H1 H3 rfl rfl B4099 (((h.2 g'1).2 g'2).1 g'3))) (fun g'3=>W.reg0 rfl fun _ _=>b_ rfl rfl eql_ (m_ (e_ (w248_4 hQ H1 H3 rfl rfl B4099 (((h.2 g'1).2 g'2).2 g'3))))))))))))))))))))))))))
theorem w248_1 {q1_0 q1_1 q1_2 q1_3:Int}{q1_4:List UInt8}(H1:σ 1 = .fp [.i .u8 q1_0,.i .i64 q1_1,.i .i64 q1_2,.i .i64 q1_3,.s q1_4])(h:T248_1 prog K q1_0 q1_1 q1_2 q1_3 q1_4):W prog d c248_4 σ st Q:=
 sq_ (W.reg (ff_ H1 (lf_ rfl rfl rfl (s_build (f_cons rfl rfl f_nil) (s_alloc (so_ rfl (show lk _ (d,4099) = some (_,([.i .u8 0,.i .i64 0,.i .i64 0,.i .i64 0,.s []]:List AV)) from lk_here) rfl rfl rfl (e_ (w248_2 (m4099:=(Qry.mk q1_0 0 0 0 [])) hQ H1 rfl lk_here h))))))))
theorem w248_0 {q0:Qry}(H0:σ 0 = q0.av)(h:T248_0 prog K q0):W prog d (.seq (.reg 0 r248_0) c248_4) σ st Q:=
 q_ rfl (s_boxf H0 rfl rfl (m_ (e_ (w248_1 hQ rfl h))))
end
theorem p248 {prog:Prog}(hf:prog.fn 248 = some pf248){q0:Qry}{K:Int→Prop}(h:T248_0 prog K q0) :∃res0:Int,K res0∧Pus prog 248 [q0.av] (.i .i64 res0):=by
  obtain ⟨v,hv,res0,hk,rfl⟩:=Pus.of (K:=fun v=>∃res0:Int,K res0∧v = .i .i64 res0) hf rfl (w248_0 (σ:=sl0 [q0.av]) (fun σ st   res0 H2 hk=>⟨.i .i64 res0,by simp only [pf248,ares,aresL,H2,ares1,Option.map_some],_,rfl,res0,hk,rfl⟩) rfl h)
  exact ⟨res0,hk,hv⟩
abbrev H259 (Q:AE→Sl→St→Prop)(K:List UInt8→Prop):Prop:=∀(σ:Sl)(st:St)(res0:List UInt8),σ 2 = .s res0→K res0→Q .ret σ st
section
variable {prog:Prog}{d:Nat}{Q:AE→Sl→St→Prop}{K:List UInt8→Prop}(hQ:H259 Q K){σ:Sl}{st:St}
include hQ
end
def r197_0:List AI:=[oC 4 (.i .i64 0)]
def r197_1:List AI:=[oM 14 1,
 oO 15 (.len true (.t 14)),
 oM 5 15]
def r197_2:List AI:=[oM 17 5,
 oB 18 .eql (.t 17) (.c (.i .i64 0)),
 oM 19 18,
 oG 20 (.mv (.t 1)) 19 false,
 oG 21 (.mv (.t 0)) 19 false,
 oG 22 (.bin .eql (.t 20) (.t 21)) 19 false,
 oO 23 (.pick (.t 19) (.c (.b true)) (.t 22)),
 oM 16 23]
def r197_3:List AI:=[oC 4 (.i .i64 0)]
def r197_4:List AI:=[oM 25 5,
 oB 26 .eql (.t 25) (.c (.i .i64 1)),
 oM 24 26]
def r197_5:List AI:=[oM 27 0,
 oM 28 1,
 oO 29 (.ixS (.t 28) (.c (.i .i64 0))),
 oO 30 (.call false 47 [(.t 27),(.t 29)]),
 oM 4 30]
def r197_6:List AI:=[oM 32 5,
 oM 33 0,
 oO 34 (.len true (.t 33)),
 oB 35 .geq (.t 32) (.t 34),
 oM 31 35]
def r197_7:List AI:=[oC 4 (.i .i64 (-1))]
def r197_8:List AI:=[oM 37 5,
 oO 38 (.load 1 false (.c (.u))),
 oB 39 .leq (.t 37) (.t 38),
 oM 40 39,
 oG 41 (.mv (.t 0)) 40 true,
 oG 42 (.len true (.t 41)) 40 true,
 oG 43 (.bin .leq (.t 42) (.c (.i .i64 64))) 40 true,
 oO 44 (.pick (.t 40) (.t 43) (.c (.b false))),
 oM 36 44]
def r197_9:List AI:=[oM 45 0,
 oM 46 1,
 oO 47 (.bad),
 oM 4 47]
def r197_10:List AI:=[oM 48 1,
 oO 49 (.ixS (.t 48) (.c (.i .i64 0))),
 oM 6 49]
def r197_11:List AI:=[oM 50 1,
 oO 51 (.ixS (.t 50) (.c (.i .i64 1))),
 oM 7 51]
def r197_12:List AI:=[oC 8 (.i .i64 0)]
def r197_13:List AI:=[oM 52 0,
 oO 53 (.len true (.t 52)),
 oM 54 5,
 oB 55 .sub (.t 53) (.t 54),
 oB 56 .add (.t 55) (.c (.i .i64 1)),
 oM 9 56]
def r197_14:List AI:=[oC 10 (.i .i64 0)]
def r197_15:List AI:=[oM 57 8,
 oM 58 9,
 oB 59 .lss (.t 57) (.t 58)]
def r197_16:List AI:=[oM 60 0,
 oM 61 8,
 oO 62 (.ixS (.t 60) (.t 61)),
 oM 63 6,
 oB 64 .neq (.t 62) (.t 63)]
def r197_17:List AI:=[oM 65 0,
 oM 66 8,
 oB 67 .add (.t 66) (.c (.i .i64 1)),
 oM 68 9,
 oO 69 (.slS (.t 65) (some (.t 67)) (some (.t 68))),
 oM 70 6,
 oO 71 (.call false 47 [(.t 69),(.t 70)]),
 oM 11 71]
def r197_18:List AI:=[oM 72 11,
 oB 73 .lss (.t 72) (.c (.i .i64 0))]
def r197_19:List AI:=[oC 4 (.i .i64 (-1))]
def r197_20:List AI:=[oM 74 8,
 oM 75 11,
 oB 76 .add (.t 75) (.c (.i .i64 1)),
 oB 77 .add (.t 74) (.t 76),
 oM 8 77]
def r197_21:List AI:=[oM 78 0,
 oM 79 8,
 oB 80 .add (.t 79) (.c (.i .i64 1)),
 oO 81 (.ixS (.t 78) (.t 80)),
 oM 82 7,
 oB 83 .eql (.t 81) (.t 82),
 oM 84 83,
 oG 85 (.mv (.t 0)) 84 true,
 oG 86 (.mv (.t 8)) 84 true,
 oG 87 (.mv (.t 8)) 84 true,
 oG 88 (.mv (.t 5)) 84 true,
 oG 89 (.bin .add (.t 87) (.t 88)) 84 true,
 oG 90 (.slS (.t 85) (some (.t 86)) (some (.t 89))) 84 true,
 oG 91 (.mv (.t 1)) 84 true,
 oG 92 (.bin .eql (.t 90) (.t 91)) 84 true,
 oO 93 (.pick (.t 84) (.t 92) (.c (.b false)))]
def r197_22:List AI:=[oM 94 8,
 oM 4 94]
def r197_23:List AI:=[oM 95 8,
 oB 96 .add (.t 95) (.c (.i .i64 1)),
 oM 8 96]
def r197_24:List AI:=[oM 97 10,
 oB 98 .add (.t 97) (.c (.i .i64 1)),
 oM 10 98]
def r197_25:List AI:=[oM 99 5,
 oO 100 (.load 1 false (.c (.u))),
 oB 101 .leq (.t 99) (.t 100),
 oM 102 101,
 oG 103 (.mv (.t 10)) 102 true,
 oG 104 (.mv (.t 8)) 102 true,
 oG 105 (.call false 199 [(.t 104)]) 102 true,
 oG 106 (.bin .gtr (.t 103) (.t 105)) 102 true,
 oO 107 (.pick (.t 102) (.t 106) (.c (.b false)))]
def r197_26:List AI:=[oM 108 0,
 oM 109 8,
 oO 110 (.slS (.t 108) (some (.t 109)) none),
 oM 111 1,
 oO 112 (.bad),
 oM 12 112]
def r197_27:List AI:=[oM 113 12,
 oB 114 .geq (.t 113) (.c (.i .i64 0))]
def r197_28:List AI:=[oM 115 12,
 oM 116 8,
 oB 117 .add (.t 115) (.t 116),
 oM 4 117]
def r197_29:List AI:=[oC 4 (.i .i64 (-1))]
def r197_30:List AI:=[oM 118 5,
 oO 119 (.load 1 false (.c (.u))),
 oB 120 .gtr (.t 118) (.t 119),
 oM 121 120,
 oG 122 (.mv (.t 10)) 121 true,
 oG 123 (.mv (.t 8)) 121 true,
 oG 124 (.bin .shr (.t 123) (.c (.i .u64 4))) 121 true,
 oG 125 (.bin .add (.c (.i .i64 4)) (.t 124)) 121 true,
 oG 126 (.bin .geq (.t 122) (.t 125)) 121 true,
 oO 127 (.pick (.t 121) (.t 126) (.c (.b false))),
 oM 128 127,
 oG 129 (.mv (.t 8)) 128 true,
 oG 130 (.mv (.t 9)) 128 true,
 oG 131 (.bin .lss (.t 129) (.t 130)) 128 true,
 oO 132 (.pick (.t 128) (.t 131) (.c (.b false)))]
def r197_31:List AI:=[oM 133 0,
 oM 134 8,
 oO 135 (.slS (.t 133) (some (.t 134)) none),
 oM 136 1,
 oO 137 (.call false 200 [(.t 135),(.t 136)]),
 oM 13 137]
def r197_32:List AI:=[oM 138 13,
 oB 139 .lss (.t 138) (.c (.i .i64 0))]
def r197_33:List AI:=[oC 4 (.i .i64 (-1))]
def r197_34:List AI:=[oM 140 8,
 oM 141 13,
 oB 142 .add (.t 140) (.t 141),
 oM 4 142]
def r197_35:List AI:=[oC 4 (.i .i64 (-1))]
abbrev c197_0:AC:=(.cond (.t 36) (.seq (.reg 9 r197_9) .ret) .skip)
abbrev c197_1:AC:=(.cond (.t 16) (.seq (.reg 3 r197_3) .ret) (.seq (.reg 4 r197_4) (.cond (.t 24) (.seq (.reg 5 r197_5) .ret) (.seq (.reg 6 r197_6) (.cond (.t 31) (.seq (.reg 7 r197_7) .ret) (.seq (.reg 8 r197_8) c197_0))))))
abbrev c197_2:AC:=(.cond (.t 132) (.seq (.reg 31 r197_31) (.seq (.seq (.reg 32 r197_32) (.cond (.t 139) (.seq (.reg 33 r197_33) .ret) .skip)) (.seq (.reg 34 r197_34) .ret))) .skip)
abbrev c197_3:AC:=(.cond (.t 107) (.seq (.reg 26 r197_26) (.seq (.seq (.reg 27 r197_27) (.cond (.t 114) (.seq (.reg 28 r197_28) .ret) .skip)) (.seq (.reg 29 r197_29) .ret))) (.seq (.reg 30 r197_30) c197_2))
abbrev c197_4:AC:=(.seq (.reg 23 r197_23) (.seq (.reg 24 r197_24) (.seq (.reg 25 r197_25) c197_3)))
abbrev c197_5:AC:=(.seq (.seq (.reg 21 r197_21) (.cond (.t 93) (.seq (.reg 22 r197_22) .ret) .skip)) c197_4)
abbrev c197_6:AC:=(.block 2 (.seq (.seq (.reg 16 r197_16) (.cond (.t 64) (.seq (.reg 17 r197_17) (.seq (.seq (.reg 18 r197_18) (.cond (.t 73) (.seq (.reg 19 r197_19) .ret) .skip)) (.reg 20 r197_20))) .skip)) c197_5))
abbrev l197_0:AC:=(.seq (.seq (.reg 15 r197_15) (.cond (.t 59) .skip (.exit 1))) c197_6)
abbrev c197_8:AC:=(.seq (.reg 35 r197_35) .ret)
abbrev c197_9:AC:=(.seq (.block 1 (.loop l197_0)) c197_8)
abbrev c197_10:AC:=(.seq (.reg 14 r197_14) c197_9)
abbrev c197_11:AC:=(.seq (.reg 13 r197_13) c197_10)
abbrev c197_12:AC:=(.seq (.reg 12 r197_12) c197_11)
abbrev c197_13:AC:=(.seq (.reg 11 r197_11) c197_12)
abbrev c197_14:AC:=(.seq (.reg 10 r197_10) c197_13)
abbrev c197_15:AC:=(.seq (.block 0 (.seq (.reg 2 r197_2) c197_1)) c197_14)
abbrev c197_16:AC:=(.seq (.reg 1 r197_1) c197_15)
abbrev b197:AC:=(.seq (.reg 0 r197_0) c197_16)
def pf197:AF:={ nt:=143,res:=[.tmp 4],body:=b197 }
abbrev H197 (Q:AE→Sl→St→Prop)(K:Int→Prop):Prop:=∀(σ:Sl)(st:St)(res0:Int),σ 4 = .i .i64 res0→K res0→Q .ret σ st
def T197_3 (prog:Prog)(K:Int→Prop)(s0:List UInt8)(substr1:List UInt8)(n5:Int)(t16:Bool):Prop:=
  (t16 = true→K 0)∧(t16 = false→(n5 = 1→∃c'3:UInt8,substr1[0]? = some c'3∧∃r'5:Int,Pus prog 47 [.s s0,.i .u8 (c'3.toNat:Int)] (.i .i64 r'5)∧K r'5)∧(¬(n5 = 1)→(n5 ≥ (s0.length:Int)→K (-1))∧(¬(n5 ≥ (s0.length:Int))→False)))
def T197_2 (prog:Prog)(K:Int→Prop)(s0:List UInt8)(substr1:List UInt8)(n5:Int):Prop:=
  (n5 = 0→T197_3 prog K s0 substr1 n5 true)∧(¬(n5 = 0)→T197_3 prog K s0 substr1 n5 (decide (substr1 = s0)))
def T197_1 (prog:Prog)(K:Int→Prop)(s0:List UInt8)(substr1:List UInt8):Prop:=
  T197_2 prog K s0 substr1 (substr1.length:Int)
def T197_0 (prog:Prog)(K:Int→Prop)(s0:List UInt8)(substr1:List UInt8):Prop:=
  T197_1 prog K s0 substr1
section
variable {prog:Prog}{d:Nat}{Q:AE→Sl→St→Prop}{K:Int→Prop}(hQ:H197 Q K){σ:Sl}{st:St}
include hQ
theorem w197_3 {s0 substr1:List UInt8}{n5:Int}{t16:Bool}(H0:σ 0 = .s s0)(H1:σ 1 = .s substr1)(H5:σ 5 = .i .i64 n5)(H16:σ 16 = .b t16)(h:T197_3 prog K s0 substr1 n5 t16):W prog d c197_1 σ st (blockW 0 (thenW prog d c197_14 Q)):=
 cb_ H16 (fun g'1=>q_ rfl (m_ (e_ (rt_ (hQ _ _ _ rfl (h.1 g'1)))))) (fun g'1=>q_ rfl (m_ (b_ H5 rfl eql_ (m_ (e_ (cs_ rfl (fun g'2=>q_ rfl (m_ (m_ (((h.2 g'1).1 g'2).elim fun c'3 e'4=>s_ixS H1 rfl (by decide) e'4.1 (e'4.2.elim fun r'5 e'6=>ca_ (sc H0 rfl (sc rfl rfl sn)) e'6.1 (m_ (e_ (rt_ (hQ _ _ _ rfl e'6.2))))))))) (fun g'2=>q_ rfl (m_ (m_ (ln_ H0 (b_ H5 rfl geq_ (m_ (e_ (cs_ rfl (fun g'7=>q_ rfl (m_ (e_ (rt_ (hQ _ _ _ rfl (((h.2 g'1).2 g'2).1 g'7)))))) (fun g'7=>q_ rfl (s_mvI H5 ((((h.2 g'1).2 g'2).2 g'7).elim)))))))))))))))))
theorem w197_2 {s0 substr1:List UInt8}{n5:Int}(H0:σ 0 = .s s0)(H1:σ 1 = .s substr1)(H5:σ 5 = .i .i64 n5)(h:T197_2 prog K s0 substr1 n5):W prog d c197_15 σ st Q:=
 sq_ (bk_ (q_ rfl (s_mvI H5 (b_ rfl rfl eql_ (s_mvB rfl (em_ (g:=19) rfl (fun g'1=>gn_ (b:=true) rfl rfl (gn_ (b:=true) rfl rfl (gn_ (b:=true) rfl rfl (pt_ rfl rfl (s_mvB rfl (e_ (w197_3 hQ H0 H1 H5 rfl (h.1 g'1)))))))) (fun g'1=>gy_ rfl (s_mvS H1 (gy_ rfl (s_mvS H0 (gy_ rfl (b_ rfl rfl seq_ (pf_ rfl rfl (s_mvB rfl (e_ (w197_3 hQ H0 H1 H5 rfl (h.2 g'1)))))))))))))))))
theorem w197_1 {s0 substr1:List UInt8}(H0:σ 0 = .s s0)(H1:σ 1 = .s substr1)(h:T197_1 prog K s0 substr1):W prog d c197_16 σ st Q:=
 q_ rfl (m_ (ln_ H1 (m_ (e_ (w197_2 hQ H0 H1 rfl h)))))
theorem w197_0 {s0 substr1:List UInt8}(H0:σ 0 = .s s0)(H1:σ 1 = .s substr1)(h:T197_0 prog K s0 substr1):W prog d (.seq (.reg 0 r197_0) c197_16) σ st Q:=
 q_ rfl (m_ (e_ (w197_1 hQ H0 H1 h)))
end
theorem p197 {prog:Prog}(hf:prog.fn 197 = some pf197){s0:List UInt8}{substr1:List UInt8}{K:Int→Prop}(h:T197_0 prog K s0 substr1) :∃res0:Int,K res0∧Pus prog 197 [.s s0,.s substr1] (.i .i64 res0):=by
  obtain ⟨v,hv,res0,hk,rfl⟩:=Pus.of (K:=fun v=>∃res0:Int,K res0∧v = .i .i64 res0) hf rfl (w197_0 (σ:=sl0 [.s s0,.s substr1]) (fun σ st   res0 H4 hk=>⟨.i .i64 res0,by simp only [pf197,ares,aresL,H4,ares1,Option.map_some],_,rfl,res0,hk,rfl⟩) rfl rfl h)
  exact ⟨res0,hk,hv⟩
end Go.AM

/- Parts of the proof. -/
namespace Go.AM
open Go
set_option linter.unusedVariables false
set_option linter.unusedSimpArgs false
set_option maxRecDepth 4000
attribute [local irreducible] WO fillCells fillRows
abbrev H244 (Q:AE→Sl→St→Prop)(K:List UInt8→Int→Prop):Prop:=∀(σ:Sl)(st:St)(res0:List UInt8)(res1:Int),σ 2 = .s res0→σ 3 = .i .i64 res1→K res0 res1→Q .ret σ st
section
variable {prog:Prog}{d:Nat}{Q:AE→Sl→St→Prop}{K:List UInt8→Int→Prop}(hQ:H244 Q K){σ:Sl}{st:St}
include hQ
end
def r245_0:List AI:=[oO 2 (.alloc [.i .u8 0,.i .i64 0,.i .i64 0,.i .i64 0,.s []]),
 oC 3 (.i .i64 0)]
def r245_1:List AI:=[oM 11 0,
 oO 12 (.len true (.t 11)),
 oB 13 .gtr (.t 12) (.c (.i .i64 2000))]
def r245_2:List AI:=[oO 14 (.build [.i .u8 0,.i .i64 0,.i .i64 0,.i .i64 0,.s []] []),
 oS 5 2 14,
 oC 3 (.i .i64 4)]
def r245_3:List AI:=[oM 16 0,
 oO 17 (.call false 260 [(.t 16),(.c (.s [32]))]),
 oM 15 17,
 oE 18 0 15,
 oE 19 1 15,
 oE 20 2 15,
 oM 4 18,
 oM 5 19,
 oM 6 20]
def r245_4:List AI:=[oO 22 (.call false 257 []),
 oM 23 4,
 oO 24 (.lkp (.t 22) (.t 23)),
 oM 25 5,
 oO 26 (.call false 261 [(.t 24),(.t 25)]),
 oM 21 26,
 oE 27 0 21,
 oE 28 1 21,
 oO 7 (.alloc [.i .u8 0,.i .i64 0,.i .i64 0,.i .i64 0,.s []]),
 oS 5 7 27,
 oM 8 28]
def r245_5:List AI:=[oM 29 8,
 oO 30 (.un .not (.t 29))]
def r245_6:List AI:=[oO 31 (.build [.i .u8 0,.i .i64 0,.i .i64 0,.i .i64 0,.s []] []),
 oS 5 2 31,
 oC 3 (.i .i64 12)]
def r245_7:List AI:=[oO 33 (.load 5 true (.t 7)),
 oO 34 (.call false 243 [(.t 33)]),
 oM 32 34,
 oE 35 0 32,
 oE 36 1 32,
 oM 9 35,
 oM 10 36]
def r245_8:List AI:=[oM 37 10,
 oB 38 .neq (.t 37) (.c (.i .i64 0)),
 oM 39 38,
 oG 40 (.mv (.t 9)) 39 false,
 oG 41 (.mv (.t 0)) 39 false,
 oG 42 (.bin .neq (.t 40) (.t 41)) 39 false,
 oO 43 (.pick (.t 39) (.c (.b true)) (.t 42))]
def r245_9:List AI:=[oO 44 (.build [.i .u8 0,.i .i64 0,.i .i64 0,.i .i64 0,.s []] []),
 oS 5 2 44,
 oC 3 (.i .i64 12)]
def r245_10:List AI:=[oO 45 (.load 5 true (.t 7)),
 oS 5 2 45,
 oC 3 (.i .i64 0)]
abbrev b245:AC:=(.seq (.reg 0 r245_0) (.seq (.seq (.reg 1 r245_1) (.cond (.t 13) (.seq (.reg 2 r245_2) .ret) .skip)) (.seq (.reg 3 r245_3) (.seq (.reg 4 r245_4) (.seq (.seq (.reg 5 r245_5) (.cond (.t 30) (.seq (.reg 6 r245_6) .ret) .skip)) (.seq (.seq (.reg 7 r245_7) (.seq (.reg 8 r245_8) (.cond (.t 43) (.seq (.reg 9 r245_9) .ret) .skip))) (.seq (.reg 10 r245_10) .ret)))))))
def pf245:AF:={ nt:=46,res:=[.cell 2 5 true,.tmp 3],body:=b245 }
abbrev H245 (Q:AE→Sl→St→Prop)(K:Qry→Int→Prop):Prop:=∀(σ:Sl)(st:St)(k0:Key)(v0:Nat)(res0:Qry)(res1:Int),σ 2 = .p k0 v0 0→lk st.bx k0 = some (v0,[.i .u8 res0.kind,.i .i64 res0.g,.i .i64 res0.k,.i .i64 res0.key,.s res0.name])→σ 3 = .i .i64 res1→K res0 res1→Q .ret σ st
def T245_0 (prog:Prog)(K:Qry→Int→Prop)(s0:List UInt8):Prop:=
  ((s0.length:Int) > 2000→K (Qry.mk 0 0 0 0 []) 4)∧(¬((s0.length:Int) > 2000)→∃r'2:List UInt8,∃r'3:List UInt8,∃r'4:Bool,Pus prog 260 [.s s0,.s ([32]:List UInt8)] (.tup [.s r'2,.s r'3,.b r'4])∧∃r'6:List (List UInt8 × Int),Pus prog 257 [] (.mp r'6)∧∃r'8:Qry,∃r'9:Bool,Pus prog 261 [.i .u8 (mpAt r'6 r'2),.s r'3] (.tup [r'8.av,.b r'9])∧((!r'9) = true→K (Qry.mk 0 0 0 0 []) 12)∧((!r'9) = false→∃r'12:List UInt8,∃r'13:Int,Pus prog 243 [r'8.av] (.tup [.s r'12,.i .i64 r'13])∧(r'13≠0→K (Qry.mk 0 0 0 0 []) 12)∧(¬(r'13≠0)→(r'12≠s0→K (Qry.mk 0 0 0 0 []) 12)∧(¬(r'12≠s0)→K r'8 0))))
section
variable {prog:Prog}{d:Nat}{Q:AE→Sl→St→Prop}{K:Qry→Int→Prop}(hQ:H245 Q K){σ:Sl}{st:St}
include hQ
theorem w245_0 {s0:List UInt8}(H0:σ 0 = .s s0)(h:T245_0 prog K s0):W prog d (.seq (.reg 0 r245_0) (.seq (.seq (.reg 1 r245_1) (.cond (.t 13) (.seq (.reg 2 r245_2) .ret) .skip)) (.seq (.reg 3 r245_3) (.seq (.reg 4 r245_4) (.seq (.seq (.reg 5 r245_5) (.cond (.t 30) (.seq (.reg 6 r245_6) .ret) .skip)) (.seq (.seq (.reg 7 r245_7) (.seq (.reg 8 r245_8) (.cond (.t 43) (.seq (.reg 9 r245_9) .ret) .skip))) (.seq (.reg 10 r245_10) .ret))))))) σ st Q:=
 sq_ (W.reg (s_alloc (m_ (e_ (sq_ (q_ rfl (m_ (ln_ H0 (b_ rfl rfl gtr_ (e_ (cs_ rfl (fun g'1=>q_ rfl (s_build f_nil (so_ rfl (show lk _ (d,0) = some (_,([.i .u8 0,.i .i64 0,.i .i64 0,.i .i64 0,.s []]:List AV)) from lk_here) rfl rfl rfl (m_ (e_ (rt_ (hQ _ _ _ _ _ _ rfl lk_here rfl (h.1 g'1)))))))) (fun g'1=>sk_ (q_ rfl (m_ ((h.2 g'1).elim fun r'2 e'19=>e'19.elim fun r'3 e'20=>e'20.elim fun r'4 e'5=>ca_ (sc H0 rfl (sc rfl rfl sn)) e'5.1 (m_ (x_ rfl rfl (x_ rfl rfl (x_ rfl rfl (m_ (m_ (m_ (e_ (sq_ (W.reg (e'5.2.elim fun r'6 e'7=>ca_ sn e'7.1 (m_ (s_lkp rfl rfl (m_ (e'7.2.elim fun r'8 e'18=>e'18.elim fun r'9 e'10=>ca_ (sc rfl rfl (sc rfl rfl sn)) e'10.1 (m_ (x_ rfl rfl (x_ rfl rfl (s_alloc (so_ rfl (show lk _ (d,16392) = some (_,([.i .u8 0,.i .i64 0,.i .i64 0,.i .i64 0,.s []]:List AV)) from lk_here) rfl rfl rfl (m_ (e_ (sq_ (q_ rfl (m_ (nt_ rfl (e_ (cb_ rfl (fun g'11=>q_ rfl (s_build f_nil (so_ rfl (lk_other rfl (lk_other rfl (show lk _ (d,0) = some (_,([.i .u8 0,.i .i64 0,.i .i64 0,.i .i64 0,.s []]:List AV)) from lk_here))) rfl rfl rfl (m_ (e_ (rt_ (hQ _ _ _ _ _ _ rfl lk_here rfl (e'10.2.1 g'11)))))))) (fun g'11=>sk_ (sq_ (q_ rfl (l_ rfl lk_here rfl rfl ((e'10.2.2 g'11).elim fun r'12 e'17=>e'17.elim fun r'13 e'14=>ca_ (sc rfl rfl sn) e'14.1 (m_ (x_ rfl rfl (x_ rfl rfl (m_ (m_ (e_ (q_ rfl (s_mvI rfl (b_ rfl rfl neq_ (s_mvB rfl (em_ (g:=39) rfl (fun g'15=>gn_ (b:=true) rfl rfl (gn_ (b:=true) rfl rfl (gn_ (b:=true) rfl rfl (pt_ rfl rfl (e_ (ct_ rfl (q_ rfl (s_build f_nil (so_ rfl (lk_other rfl (lk_other rfl (show lk _ (d,0) = some (_,([.i .u8 0,.i .i64 0,.i .i64 0,.i .i64 0,.s []]:List AV)) from lk_here))) rfl rfl rfl (m_ (e_ (rt_ (hQ _ _ _ _ _ _ rfl lk_here rfl (e'14.2.1 g'15)))))))))))))) (fun g'15=>gy_ rfl (s_mvS rfl (gy_ rfl (s_mvS H0 (gy_ rfl (b_ rfl rfl sne_ (pf_ rfl rfl (e_ (cs_ rfl (fun g'16=>q_ rfl (s_build f_nil (so_ rfl (lk_other rfl (lk_other rfl (show lk _ (d,0) = some (_,([.i .u8 0,.i .i64 0,.i .i64 0,.i .i64 0,.s []]:List AV)) from lk_here))) rfl rfl rfl (m_ (e_ (rt_ (hQ _ _ _ _ _ _ rfl lk_here rfl ((e'14.2.2 g'15).1 g'16)))))))) (fun g'16=>sk_ (q_ rfl (l_ rfl lk_here rfl rfl (so_ rfl (lk_other rfl (lk_other rfl (show lk _ (d,0) = some (_,([.i .u8 0,.i .i64 0,.i .i64 0,.i .i64 0,.s []]:List AV)) from lk_here))) rfl rfl rfl (m_ (e_ (rt_ (hQ _ _ _ _ _ _ rfl lk_here rfl ((e'14.2.2 g'15).2 g'16)))))))))))))))))))))))))))))))))))))))))))))))))))))))))))))))))))))))))))))
end
theorem p245 {prog:Prog}(hf:prog.fn 245 = some pf245){s0:List UInt8}{K:Qry→Int→Prop}(h:T245_0 prog K s0) :∃res0:Qry,∃res1:Int,K res0 res1∧Pus prog 245 [.s s0] (.tup [res0.av,.i .i64 res1]):=by
  obtain ⟨v,hv,res0,res1,hk,rfl⟩:=Pus.of (K:=fun v=>∃res0:Qry,∃res1:Int,K res0 res1∧v = .tup [res0.av,.i .i64 res1]) hf rfl (w245_0 (σ:=sl0 [.s s0]) (fun σ st k0 v0  res0 res1 H2 HB2 H3 hk=>⟨.tup [res0.av,.i .i64 res1],by simp only [pf245,ares,aresL,ares_cellA (n:=5) H2 HB2 rfl,H3,ares_tmp,Option.map_some],_,rfl,res0,res1,hk,rfl⟩) rfl h)
  exact ⟨res0,res1,hk,hv⟩
abbrev H246 (Q:AE→Sl→St→Prop)(K:Qry→Int→Prop):Prop:=∀(σ:Sl)(st:St)(k0:Key)(v0:Nat)(res0:Qry)(res1:Int),σ 2 = .p k0 v0 0→lk st.bx k0 = some (v0,[.i .u8 res0.kind,.i .i64 res0.g,.i .i64 res0.k,.i .i64 res0.key,.s res0.name])→σ 3 = .i .i64 res1→K res0 res1→Q .ret σ st
section
variable {prog:Prog}{d:Nat}{Q:AE→Sl→St→Prop}{K:Qry→Int→Prop}(hQ:H246 Q K){σ:Sl}{st:St}
include hQ
end
abbrev H240 (Q:AE→Sl→St→Prop)(K:Bool→Prop):Prop:=∀(σ:Sl)(st:St)(res0:Bool),σ 4 = .b res0→K res0→Q .ret σ st
section
variable {prog:Prog}{d:Nat}{Q:AE→Sl→St→Prop}{K:Bool→Prop}(hQ:H240 Q K){σ:Sl}{st:St}
include hQ
end
end Go.AM

/- Parts of the proof. -/
namespace Go.AM
open Go Go.RowKit Go.BigFrame Go.ChangeMaps
def wordL : List (List UInt8 × Int) := [([103, 111, 114, 111, 117, 116, 105, 110, 101, 115], 1), ([102, 114, 97, 109, 101, 115], 2), ([108, 111, 99, 97, 108, 115], 3), ([100, 101, 102, 101, 114, 115], 4), ([112, 97, 110, 105, 99, 115], 5), ([119, 97, 105, 116, 115], 6), ([105, 110], 7), ([115, 108, 111, 116], 8)]
def wordM (n : Int) : List UInt8 := match wordL.find? (fun x => x.2 == n) with | some x => x.1 | none => []
def wordE (j : Nat) : MapEntry := ⟨.string ⟨(wordM ((j : Int) + 1)).toArray⟩, .int .u8 ((j : Int) + 1), j⟩
def wordEs : Array MapEntry := #[wordE 0, wordE 1, wordE 2, wordE 3, wordE 4, wordE 5, wordE 6, wordE 7]
theorem wordEs_mem {e : MapEntry} (h : e ∈ wordEs.toList) : ∃ j, j < 8 ∧ e = wordE j := by
  simp only [wordEs, List.mem_cons, List.not_mem_nil, or_false] at h
  rcases h with h | h | h | h | h | h | h | h
  · exact ⟨0, by decide, h⟩
  · exact ⟨1, by decide, h⟩
  · exact ⟨2, by decide, h⟩
  · exact ⟨3, by decide, h⟩
  · exact ⟨4, by decide, h⟩
  · exact ⟨5, by decide, h⟩
  · exact ⟨6, by decide, h⟩
  · exact ⟨7, by decide, h⟩
theorem wordE_mem {j : Nat} (h : j < 8) : wordE j ∈ wordEs.toList := by
  simp only [wordEs, List.mem_cons, List.not_mem_nil, or_false]
  match j, h with
  | 0, _ | 1, _ | 2, _ | 3, _ | 4, _ | 5, _ | 6, _ | 7, _ => simp
theorem wordEs_map : wordEs.toList.map (fun e => (e.key, e.val)) = wordL.map fun x => (Value.string ⟨x.1.toArray⟩, Value.int .u8 x.2) := rfl
theorem wordEs_nodup : (wordEs.toList.map (·.born)).Nodup := by
  show [0, 1, 2, 3, 4, 5, 6, 7].Nodup
  decide
theorem wordEs_born {e : MapEntry} (h : e ∈ wordEs.toList) : e.born < 8 := by
  obtain ⟨j, hj, rfl⟩ := wordEs_mem h
  exact hj
theorem wordM_no {n : Int} (h : ¬(1 ≤ n ∧ n ≤ 8)) : wordM n = [] := by
  have e : wordL.find? (fun x => x.2 == n) = none := by
    rw [List.find?_eq_none]
    intro x hx
    have : 1 ≤ x.2 ∧ x.2 ≤ 8 := by
      simp only [wordL, List.mem_cons, List.not_mem_nil, or_false] at hx
      rcases hx with rfl | rfl | rfl | rfl | rfl | rfl | rfl | rfl <;> decide
    simp only [beq_iff_eq]
    omega
  unfold wordM
  rw [e]
theorem setBlock_at {w : World} {r : Nat} {o : Obj} (h : r < w.heap.size) : (setBlock w r o).heap[r]? = some o := by
  simp [setBlock, h]
theorem setBlock_ne {w : World} {r i : Nat} {o : Obj} (h : i ≠ r) : (setBlock w r o).heap[i]? = w.heap[i]? := by
  simp only [setBlock]
  rw [Array.getElem?_setIfInBounds_ne (by omega)]
theorem setBlock_below {w0 w : World} {n r : Nat} {o : Obj} (h : Below n w0 w) (hr : n ≤ r) : Below n w0 (setBlock w r o) :=
  ⟨h.os, h.tape, h.output, by simpa [setBlock] using h.size, fun i hi => (setBlock_ne (by omega)).trans (h.block i hi)⟩
section
variable {P : Program}
theorem setObj_map {w : World} {r : Nat} {es : Array MapEntry} {c : Nat} (h : w.heap[r]? = some (.map es c)) (o' : Obj) : (setObj r o').run P w = .ok () (setBlock w r o') := by
  simp [setObj, Sem.run, h, setBlock]
theorem insert_run {w : World} {r clock tm k e : Nat} {es : Array MapEntry} {l : List (List UInt8 × Int)} (hun : P.underlying tm = some (.map k e)) (hks : P.underlying k = some .string) (hb : w.heap[r]? = some (.map es clock))
    (hm : es.toList.map (fun e => (e.key, e.val)) = l.map fun x => (Value.string ⟨x.1.toArray⟩, Value.int .u8 x.2)) {s : List UInt8} (hf : l.find? (fun x => x.1 == s) = none) (v : Value) :
    (Instr.mapUpdate tm (.map (some r)) (.string ⟨s.toArray⟩) v).run P w = .ok () (setBlock w r (.map (es.push ⟨.string ⟨s.toArray⟩, v, clock⟩) (clock + 1))) := by
  have hget : (getObj r).run P w = .ok (.map es clock) w := by simp [getObj, Sem.run, hb]
  have hck : (Instr.checkKey false 10000 k (.string ⟨s.toArray⟩)).run P w = .ok () w := by
    rw [Instr.checkKey]
    simp [run_underlying hks]
  have hfn : Instr.findNow .string (.string ⟨s.toArray⟩) es.toList 0 = some none := by
    rcases findNow_ok s es.toList l 0 hm with ⟨h, _⟩ | ⟨j, x, _, h⟩
    · exact h
    · rw [hf] at h; cases h
  have hfk : (Instr.findKey k (.string ⟨s.toArray⟩) es.toList).run P w = .ok none w := by
    simp [Instr.findKey, run_underlying hks, hfn]
  simp only [Instr.mapUpdate, Sem.run_bind, run_underlying hun, Result.andThen_ok, hget, hck, hfk]
  exact setObj_map hb _
end
def OpsAre (ops : Array Oper) (l : List (Option Nat × Op)) : Prop := ops.toList.map (fun o => (o.dst, o.op)) = l ∧ ∀ o ∈ ops.toList, o.guard = none
theorem OpsAre.at {ops : Array Oper} {l : List (Option Nat × Op)} (h : OpsAre ops l) {i : Nat} {d : Option Nat} {p : Op} (hi : l[i]? = some (d, p)) : ∃ o, ops[i]? = some o ∧ o.dst = d ∧ o.op = p ∧ o.guard = none := by
  rw [← h.1, List.getElem?_map, Option.map_eq_some_iff] at hi
  obtain ⟨o, h1, h2⟩ := hi
  injection h2 with h2 h3
  exact ⟨o, by simpa using h1, h2, h3, h.2 o (List.mem_of_getElem? h1)⟩
theorem OpsAre.size {ops : Array Oper} {l : List (Option Nat × Op)} (h : OpsAre ops l) : ops.size = l.length := by
  rw [← h.1]; simp
def tv (a : Act) (t : Nat) : Value := a.tmps.getD t undef
theorem tv_put (a : Act) (d : Nat) (v : Value) (t : Nat) (h : d < a.tmps.size) : tv (a.put (some d) v) t = if t = d then v else tv a t := by
  unfold tv Act.put
  simp only [Array.getD_eq_getD_getElem?, Array.getElem?_setIfInBounds]
  by_cases e : t = d
  · subst e; simp [h]
  · rw [if_neg (fun e' => e e'.symm), if_neg e]
section
variable {P : Program} {ops : Array Oper} {l : List (Option Nat × Op)} {Q : Exit → Act → World → Prop} {i : Nat} {rest : List Nat} {a : Act} {w w' : World}
theorem st_val (h : OpsAre ops l) {d : Nat} {p : Op} (hi : l[i]? = some (some d, p)) {v : Value} (hr : ∀ o : Oper, o.op = p → (execOp a.eval o).run P w = .ok (.value v) w') (hk : wpOps P ops Q rest (a.put (some d) v) w') : wpOps P ops Q (i :: rest) a w := by
  obtain ⟨o, h1, h2, h3, h4⟩ := h.at hi
  rw [wpOps_cons]
  exact step_val (G := ⟨fun _ _ => none, fun _ _ => none, fun _ _ => none, fun _ => none, fun _ => none⟩) (nt := 0) h1 h4 (hr o h3) (by rw [h2]; exact hk)
theorem st_valo {o : Oper} (h1 : ops[i]? = some o) {d : Nat} (h2 : o.dst = some d) (h4 : o.guard = none) {v : Value} (hr : (execOp a.eval o).run P w = .ok (.value v) w') (hk : wpOps P ops Q rest (a.put (some d) v) w') : wpOps P ops Q (i :: rest) a w := by
  rw [wpOps_cons]
  exact step_val (G := ⟨fun _ _ => none, fun _ _ => none, fun _ _ => none, fun _ => none, fun _ => none⟩) (nt := 0) h1 h4 hr (by rw [h2]; exact hk)
theorem st_unit (h : OpsAre ops l) {p : Op} (hi : l[i]? = some (none, p)) (hr : ∀ o : Oper, o.op = p → (execOp a.eval o).run P w = .ok .skip w') (hk : wpOps P ops Q rest a w') : wpOps P ops Q (i :: rest) a w := by
  obtain ⟨o, h1, h2, h3, h4⟩ := h.at hi
  rw [wpOps_cons]
  unfold wpOp
  rw [h1]
  simp only
  rw [if_pos (by simp [Region.wanted, h4])]
  refine .inl ?_
  unfold Oper.wp
  rw [hr o h3, Oper.upon_skip, h2]
  exact hk
theorem st_call (h : OpsAre ops l) {d : Nat} {p : Op} (hi : l[i]? = some (some d, p)) {f : FuncId} {args : Array Value} (hr : ∀ o : Oper, o.op = p → (execOp a.eval o).run P w = .ok (.enter f args) w) (hk : Calls P f args w fun e w'' => match e with | .returned v => wpOps P ops Q rest (a.put (some d) v) w'' | _ => False) : wpOps P ops Q (i :: rest) a w := by
  obtain ⟨o, h1, h2, h3, h4⟩ := h.at hi
  rw [wpOps_cons]
  unfold wpOp
  rw [h1]
  simp only
  rw [if_pos (by simp [Region.wanted, h4])]
  refine .inl ?_
  unfold Oper.wp
  rw [hr o h3, Oper.upon_enter, h2]
  refine hk.mono fun e w'' he => ?_
  cases e with
  | returned v => exact he
  | panicked c => exact he.elim
  | outgrown => exact he.elim
end
def insOp (tm : Nat) (j : Nat) : Op := .insert tm (.tmp 1) (.const (.string ⟨(wordM ((j : Int) + 1)).toArray⟩)) (.const (.int .u8 ((j : Int) + 1)))
theorem words_find {j : Nat} (h : j < 8) : (wordL.take j).find? (fun x => x.1 == wordM ((j : Int) + 1)) = none := by
  match j, h with
  | 0, _ | 1, _ | 2, _ | 3, _ | 4, _ | 5, _ | 6, _ | 7, _ => rfl
theorem words_map {j : Nat} (h : j ≤ 8) : (wordEs.toList.take j).map (fun e => (e.key, e.val)) = (wordL.take j).map fun x => (Value.string ⟨x.1.toArray⟩, Value.int .u8 x.2) := by
  rw [List.map_take, wordEs_map, ← List.map_take]
theorem words_push {j : Nat} (h : j < 8) : (wordEs.toList.take j).toArray.push (wordE j) = (wordEs.toList.take (j + 1)).toArray := by
  match j, h with
  | 0, _ | 1, _ | 2, _ | 3, _ | 4, _ | 5, _ | 6, _ | 7, _ => rfl
def WordsR (w : World) : Ending → World → Prop := fun e w' => ∃ b, e = .returned (.map (some b)) ∧ w'.heap[b]? = some (.map wordEs 8) ∧ w.heap.size ≤ b ∧ Below w.heap.size w w'
section
variable {P : Program}
theorem words_calls {fw tm k e : Nat} {fn : Func} {ops0 ops1 : Array Oper} (hf : P.funcs[fw]? = some fn) (hb : fn.body = some (.seq (.region 0 ops0 false) (.seq (.region 1 ops1 false) .ret))) (hn : fn.ntmps = 3) (hres : fn.results = #[.tmp 0])
    (hun : P.underlying tm = some (.map k e)) (hks : P.underlying k = some .string)
    (h0 : OpsAre ops0 [(some 0, .assign (.const (.map none)))])
    (h1 : OpsAre ops1 [(some 1, .makeMap tm none), (none, insOp tm 0), (none, insOp tm 1), (none, insOp tm 2), (none, insOp tm 3), (none, insOp tm 4), (none, insOp tm 5), (none, insOp tm 6), (none, insOp tm 7), (some 2, .move (.tmp 1)), (some 0, .assign (.tmp 2))]) (w : World) :
    Calls P fw #[] w (WordsR w) := by
  refine calls_of_wp hf hb ?_
  rw [hn]
  refine wp_seq (wp_region ?_)
  rw [h0.size]
  show wpOps P ops0 _ [0] _ _
  refine st_val h0 (d := 0) (v := .map none) (w' := w) rfl (fun o ho => by simp only [execOp, ho]; rfl) ?_
  refine wp_seq (wp_region ?_)
  rw [h1.size]
  show wpOps P ops1 _ [0, 1, 2, 3, 4, 5, 6, 7, 8, 9, 10] _ _
  refine st_val h1 (d := 1) (v := .map (some w.heap.size)) (w' := w.alloc (.map #[] 0)) rfl (fun o ho => by simp only [execOp, ho]; exact run_val (by simp [Instr.makeMap, run_newObj])) ?_
  have start : (w.alloc (.map #[] 0)).heap[w.heap.size]? = some (.map (wordEs.toList.take 0).toArray 0) ∧ Below w.heap.size w (w.alloc (.map #[] 0)) := ⟨heap_alloc_new w _, (Below.refl _ _).alloc (Nat.le_refl _) _⟩
  generalize w.alloc (.map #[] 0) = w1 at start ⊢
  have ins : ∀ {j : Nat} {w2 : World} (rest : List Nat) (a : Act) (Q : Exit → Act → World → Prop), j < 8 → tv a 1 = .map (some w.heap.size) → w2.heap[w.heap.size]? = some (.map (wordEs.toList.take j).toArray j) ∧ Below w.heap.size w w2 →
      (∀ w3 : World, w3.heap[w.heap.size]? = some (.map (wordEs.toList.take (j + 1)).toArray (j + 1)) ∧ Below w.heap.size w w3 → wpOps P ops1 Q rest a w3) → wpOps P ops1 Q ((j + 1) :: rest) a w2 := by
    intro j w2 rest a Q hj ha ⟨q1, q2⟩ hk
    have hlt : w.heap.size < w2.heap.size := (Array.getElem?_eq_some_iff.1 q1).1
    refine st_unit h1 (p := insOp tm j) (w' := setBlock w2 w.heap.size (.map ((wordEs.toList.take j).toArray.push (wordE j)) (j + 1))) ?_ (fun o ho => ?_) (hk _ ⟨?_, setBlock_below q2 (Nat.le_refl _)⟩)
    · match j, hj with
      | 0, _ | 1, _ | 2, _ | 3, _ | 4, _ | 5, _ | 6, _ | 7, _ => rfl
    · simp only [execOp, ho, insOp]
      refine run_unit ?_
      rw [show a.eval (.tmp 1) = .map (some w.heap.size) from ha]
      exact insert_run hun hks q1 (l := wordL.take j) (by rw [List.toList_toArray]; exact words_map (by omega)) (words_find hj) _
    · rw [setBlock_at hlt, words_push hj]
  refine ins _ _ _ (by decide) (by rfl) start fun w2 s2 => ins _ _ _ (by decide) (by rfl) s2 fun w3 s3 => ins _ _ _ (by decide) (by rfl) s3 fun w4 s4 => ins _ _ _ (by decide) (by rfl) s4 fun w5 s5 => ins _ _ _ (by decide) (by rfl) s5 fun w6 s6 => ins _ _ _ (by decide) (by rfl) s6 fun w7 s7 => ins _ _ _ (by decide) (by rfl) s7 fun w8 s8 => ins _ _ _ (by decide) (by rfl) s8 fun w9 s9 => ?_
  refine st_val h1 (d := 2) (v := .map (some w.heap.size)) (w' := w9) rfl (fun o ho => by simp only [execOp, ho]; rfl) ?_
  refine st_val h1 (d := 0) (v := .map (some w.heap.size)) (w' := w9) rfl (fun o ho => by simp only [execOp, ho]; rfl) ?_
  refine wp_ret ?_
  refine ⟨rfl, .map (some w.heap.size), ?_, _, rfl, s9.1, Nat.le_refl _, s9.2⟩
  rw [results_eq, hres]
  have h2 : (resVar ((((({ tmps := #[] ++ Array.replicate (3 - (#[] : Array Value).size) undef, defers := [] } : Act).put (some 0) (Value.map none)).put (some 1) (Value.map (some w.heap.size))).put (some 2) (Value.map (some w.heap.size))).put (some 0) (Value.map (some w.heap.size))).tmps (.tmp 0)).run P w9 = .ok (.map (some w.heap.size)) w9 := rfl
  simpa using h2
end
def hwSlots : List Nat := [6, 7, 15, 16, 17, 18, 19, 20, 21, 22, 23, 24, 25, 26]
def hs243 (n : Int) (σ : Sl) : Sl := fun t => if t = 5 then .s (wordM n) else if hwSlots.contains t = true then .u else σ t
def hw243 (σ : Sl) (st : St) : Option (AE × Sl × St) := match σ 1, σ 5 with
  | .p k v 0, .s [] => match lk st.bx k with
    | some (v', .i .u8 n :: _) => if v' = v then some (.normal, hs243 n σ, st) else none
    | _ => none
  | _, _ => none
theorem hw243_eq {σ : Sl} {st : St} {k : Key} {v : Nat} {n : Int} {cs : List AV} (h1 : σ 1 = .p k v 0) (h5 : σ 5 = .s []) (hk : lk st.bx k = some (v, .i .u8 n :: cs)) : hw243 σ st = some (.normal, hs243 n σ, st) := by
  unfold hw243
  rw [h1, h5]
  simp only [hk, if_true]
theorem hw243_inv {σ σ' : Sl} {st st' : St} {e : AE} (h : hw243 σ st = some (e, σ', st')) : ∃ k v n cs, σ 1 = .p k v 0 ∧ σ 5 = .s [] ∧ lk st.bx k = some (v, .i .u8 n :: cs) ∧ e = .normal ∧ σ' = hs243 n σ ∧ st' = st := by
  unfold hw243 at h
  split at h
  · rename_i k v h1 h5
    split at h
    · rename_i v' n cs hk
      split at h
      · rename_i hv
        subst hv
        cases h
        exact ⟨k, v', n, cs, h1, h5, hk, rfl, rfl, rfl⟩
      · cases h
    · cases h
  · cases h
def curOf (n : Int) (seen : Array Nat) : List UInt8 := if 1 ≤ n ∧ n ≤ 8 ∧ seen.contains (n - 1).toNat = true then wordM n else []
theorem cur_push {n : Int} {seen : Array Nat} {j : Nat} (hj : j < 8) : curOf n (seen.push j) = if (n == (j : Int) + 1) = true then wordM ((j : Int) + 1) else curOf n seen := by
  unfold curOf
  by_cases h : n = (j : Int) + 1
  · subst h
    rw [if_pos ⟨by omega, by omega, by simp⟩, if_pos (by simp)]
  · rw [if_neg (c := (n == (j : Int) + 1) = true) (by simpa using h)]
    by_cases h1 : 1 ≤ n ∧ n ≤ 8
    · have : (seen.push j).contains (n - 1).toNat = seen.contains (n - 1).toNat := by
        simp only [Array.contains_push]
        have : ((n - 1).toNat == j) = false := by simp; omega
        rw [this, Bool.or_false]
      rw [this]
    · rw [if_neg (fun h => h1 ⟨h.1, h.2.1⟩), if_neg (fun h => h1 ⟨h.1, h.2.1⟩)]
theorem cur_all {n : Int} {seen : Array Nat} (h : (leftOf wordEs seen).size = 0) : curOf n seen = wordM n := by
  unfold curOf
  by_cases h1 : 1 ≤ n ∧ n ≤ 8
  · rw [if_pos]
    refine ⟨h1.1, h1.2, ?_⟩
    have hm : wordE (n - 1).toNat ∈ wordEs := by simpa using wordE_mem (j := (n - 1).toNat) (by omega)
    have h2 : leftOf wordEs seen = #[] := Array.eq_empty_of_size_eq_zero h
    unfold leftOf at h2
    rw [Array.filter_eq_empty_iff] at h2
    have := h2 _ hm
    simpa [wordE] using this
  · rw [if_neg (fun h => h1 ⟨h.1, h.2.1⟩), wordM_no h1]
theorem words_size : wordEs.size = 8 := rfl
theorem left_le (seen : Array Nat) : (leftOf wordEs seen).size < 9 := by
  have h : (leftOf wordEs seen).size ≤ wordEs.size := by
    unfold leftOf
    exact Array.size_filter_le
  rw [words_size] at h
  omega
theorem left_push {seen : Array Nat} {e : MapEntry} (h : e ∈ (leftOf wordEs seen).toList) : (leftOf wordEs (seen.push e.born)).size < (leftOf wordEs seen).size := by
  have e1 : leftOf wordEs (seen.push e.born) = (leftOf wordEs seen).filter (fun x => !(x.born == e.born)) := by
    unfold leftOf
    rw [Array.filter_filter]
    congr 1
    funext x
    simp only [Array.contains_push, Bool.not_or, Bool.and_comm]
  rw [e1, Array.size_filter_lt_size_iff_exists]
  exact ⟨e, by simpa using h, by simp⟩
section
variable {P : Program} {X : Cx}
set_option maxHeartbeats 1000000 in
theorem range_hand {nt d fw tm ts t5 k e : Nat} {ops5 ops6 ops7 ops8 ops9 : Array Oper} (hnt : 27 ≤ nt) (hun : P.underlying tm = some (.map k e)) (hT : TTok P X.T) {fs : List (Nat × Nat)} (hst : (TK.st fs).ok P ts) (hf0 : fs[0]? = some (t5, 0)) {i5' : TI} (hi5 : X.T t5 = some i5') (hi5s : i5'.size = 1) (hi5a : i5'.kind.agg = false)
    (hw : ∀ w, (callFunc fw #[]).run P w = .ok (.enter fw #[]) w ∧ Calls P fw #[] w (WordsR w))
    (h5 : OpsAre ops5 [(some 15, .call ⟨.value (.func fw), #[], #[]⟩), (some 16, .range tm (.tmp 15))])
    (h6 : OpsAre ops6 [(some 17, .next (.tmp 16) false), (some 18, .extract (.tmp 17) 0)])
    (h7 : OpsAre ops7 [(some 19, .entry (.tmp 16)), (some 20, .extract (.tmp 19) 0), (some 21, .extract (.tmp 19) 1), (some 6, .assign (.tmp 20)), (some 7, .assign (.tmp 21))])
    (h8 : OpsAre ops8 [(some 22, .move (.tmp 7)), (some 23, .fieldAddr ts (.tmp 1) 0), (some 24, .load t5 (.tmp 23)), (some 25, .binOp .eql t5 (.tmp 22) (.tmp 24) t5)])
    (h9 : OpsAre ops9 [(some 26, .move (.tmp 6)), (some 5, .assign (.tmp 26))]) :
    CodeOk P X nt d hw243 (.seq (.region 5 ops5 false) (.block 0 (.loop (.seq (.region 6 ops6 false) (.seq (.cond (.tmp 18) .skip (.exit 0)) (.block 1 (.seq (.region 7 ops7 false) (.seq (.region 8 ops8 false) (.cond (.tmp 25) (.region 9 ops9 false) .skip))))))))) := by
  intro σ st e' σ' st' h G w0 w a hfm hA hR Q hQ
  obtain ⟨kk, v, n, cs, q1, q5, qb, rfl, rfl, rfl⟩ := hw243_inv h
  have hsz : a.tmps.size = nt := hA.2.1
  -- region 5
  refine wp_seq (wp_region ?_)
  rw [h5.size]
  show wpOps P ops5 _ [0, 1] _ _
  refine st_call h5 (d := 15) rfl (f := fw) (args := #[]) (fun o ho => ?_) ((hw w).2.mono fun e1 w1 he => ?_)
  · simp only [execOp, ho, resolve, Act.eval, Deferred.ofValue, invoke, Sem.run_bind, Sem.run_pure, Result.andThen_ok]
    simpa using (hw w).1
  obtain ⟨b, rfl, hb, hge, hbel⟩ := he
  refine st_val h5 (d := 16) (v := .pointer (some ⟨w1.heap.size, 0, none⟩)) (w' := w1.alloc (.mapIter (some b) 8 #[] 8)) rfl (fun o ho => ?_) ?_
  · simp only [execOp, ho]
    refine run_val ?_
    rw [show (a.put (some 15) (.map (some b))).eval (.tmp 15) = .map (some b) from by
      show tv _ 15 = _
      rw [tv_put _ _ _ _ (by omega), if_pos rfl]]
    have hg : (getObj b).run P w1 = .ok (.map wordEs 8) w1 := by simp [getObj, Sem.run, hb]
    simp [Instr.range, run_underlying hun, hg]
  have hlt1 : w1.heap.size < (w1.alloc (.mapIter (some b) 8 #[] 8)).heap.size := by simp
  have hb1 : b < w1.heap.size := (Array.getElem?_eq_some_iff.1 hb).1
  have hbel1 : Below w.heap.size w (w1.alloc (.mapIter (some b) 8 #[] 8)) := hbel.alloc (Nat.le_trans hbel.size (Nat.le_refl _)) _
  have hbm : (w1.alloc (.mapIter (some b) 8 #[] 8)).heap[b]? = some (.map wordEs 8) := (Below.heap_alloc _ _ _ hb1).trans hb
  have hrm : (w1.alloc (.mapIter (some b) 8 #[] 8)).heap[w1.heap.size]? = some (.mapIter (some b) 8 #[] 8) := heap_alloc_new w1 _
  have hr0 : w.heap.size ≤ w1.heap.size := hbel.size
  generalize hr : w1.heap.size = r at *
  generalize w1.alloc (.mapIter (some b) 8 #[] 8) = w2 at *
  clear hlt1 hb hbel hb1
  -- what holds between two rounds
  let Inv : Array Nat → Act → World → Prop := fun seen b' w' => b'.defers = [] ∧ b'.tmps.size = nt ∧ (∀ t, t ≠ 5 → hwSlots.contains t = false → R G (σ t) (tv b' t)) ∧ tv b' 16 = .pointer (some ⟨r, 0, none⟩) ∧ tv b' 5 = .string ⟨(curOf n seen).toArray⟩ ∧
    w'.heap[b]? = some (.map wordEs 8) ∧ (∃ c, w'.heap[r]? = some (.mapIter (some b) 8 seen c) ∧ 8 ≤ c) ∧ Below w.heap.size w w'
  have out : ∀ {b' : Act} {w' : World} {seen : Array Nat}, Inv seen b' w' → (leftOf wordEs seen).size = 0 → Q .normal b' w' := by
    intro b' w' seen hI h0
    obtain ⟨i1, i2, i3, i4, i5, i6, i7, i8⟩ := hI
    refine hQ b' w' G ⟨i1, i2, fun t => ?_⟩ ⟨.refl G, hR.below i8, Nat.le_refl _, fun _ _ _ => ⟨rfl, rfl⟩, fun _ _ _ _ _ _ h => h, fun _ _ _ h => .inl h⟩
    unfold hs243
    split
    · rename_i ht
      subst ht
      rw [cur_all h0] at i5
      have : R G (.s (wordM n)) (tv b' 5) := by rw [i5]; exact .fz _ _ (.s _)
      exact this
    · split
      · exact .fz _ _ (.u _)
      · rename_i h1 h2
        exact i3 t h1 (by simpa using h2)
  have init : Inv #[] ((a.put (some 15) (.map (some b))).put (some 16) (.pointer (some ⟨r, 0, none⟩))) w2 := by
    have s15 : (a.put (some 15) (.map (some b))).tmps.size = nt := by simp [Act.put, hsz]
    refine ⟨hA.1, by simp [Act.put, hsz], fun t h1 h2 => ?_, ?_, ?_, hbm, ⟨8, hrm, Nat.le_refl _⟩, hbel1⟩
    · have n15 : t ≠ 15 := by rintro rfl; simp [hwSlots] at h2
      have n16 : t ≠ 16 := by rintro rfl; simp [hwSlots] at h2
      rw [tv_put _ _ _ _ (by omega), if_neg n16, tv_put _ _ _ _ (by omega), if_neg n15]
      exact hA.2.2 t
    · rw [tv_put _ _ _ _ (by omega), if_pos rfl]
    · rw [tv_put _ _ _ _ (by omega), if_neg (by decide), tv_put _ _ _ _ (by omega), if_neg (by decide)]
      have h3 := hA.2.2 5
      rw [q5] at h3
      rw [show tv a 5 = .string ⟨([] : List UInt8).toArray⟩ from h3.str_inv]
      unfold curOf
      rw [if_neg (by simp)]
  generalize (a.put (some 15) (.map (some b))).put (some 16) (.pointer (some ⟨r, 0, none⟩)) = a1 at init
  show wpOps P ops5 _ [] a1 w2
  show Code.wp P _ _ a1 w2
  refine wp_block (wp_loop_rounds 9 ?_)
  have rounds : ∀ (m : Nat) (seen : Array Nat) (b' : Act) (w' : World), Inv seen b' w' → (leftOf wordEs seen).size < m → Code.rounds P (.seq (.region 6 ops6 false) (.seq (.cond (.tmp 18) .skip (.exit 0)) (.block 1 (.seq (.region 7 ops7 false) (.seq (.region 8 ops8 false) (.cond (.tmp 25) (.region 9 ops9 false) .skip)))))) (Exit.inBlock 0 Q) m b' w' := by
    intro m
    induction m with
    | zero => intro seen b' w' _ h; exact absurd h (Nat.not_lt_zero _)
    | succ m ih =>
      intro seen b' w' hI hm
      rw [rounds_succ]
      obtain ⟨i1, i2, i3, i4, i5, i6, ⟨c, i7, i7c⟩, i8⟩ := hI
      refine wp_seq (wp_region ?_)
      rw [h6.size]
      show wpOps P ops6 _ [0, 1] _ _
      obtain ⟨o0, o1, o2, o3, o4⟩ := h6.at (i := 0) rfl
      rcases run_next_at (P := P) w' o0.type r b 8 c seen wordEs 8 i7 i6 (fun x hx => wordEs_born hx) i7c with ⟨hz, hrun⟩ | ⟨ent, hent, w3, hw3, hrun⟩
      · -- all have come
        refine st_valo o1 o2 o4 (v := .tuple #[.bool false]) (w' := w') ?_ ?_
        · simp only [execOp, o3]
          refine run_val ?_
          rw [show b'.eval (.tmp 16) = .pointer (some ⟨r, 0, none⟩) from i4]
          exact hrun
        have e17 : tv (b'.put (some 17) (.tuple #[.bool false])) 17 = .tuple #[.bool false] := by rw [tv_put _ _ _ _ (by omega), if_pos rfl]
        refine st_val h6 (d := 18) (v := .bool false) (w' := w') rfl (fun o ho => ?_) ?_
        · simp only [execOp, ho]
          refine run_val ?_
          rw [show (b'.put (some 17) (.tuple #[.bool false])).eval (.tmp 17) = .tuple #[.bool false] from e17]
          simp [Instr.extract]
        refine wp_seq (wp_cond_false ?_ (wp_exit ?_))
        · show tv _ 18 = _
          rw [tv_put _ _ _ _ (by simp [Act.put]; omega), if_pos rfl]
        · show Exit.inBlock 0 Q (.exit 0) _ _
          simp only [Exit.inBlock, if_true]
          refine out (seen := seen) ⟨i1, by simp [Act.put, i2], fun t h1 h2 => ?_, ?_, ?_, i6, ⟨c, i7, i7c⟩, i8⟩ hz
          · have n17 : t ≠ 17 := by rintro rfl; simp [hwSlots] at h2
            have n18 : t ≠ 18 := by rintro rfl; simp [hwSlots] at h2
            rw [tv_put _ _ _ _ (by simp [Act.put]; omega), if_neg n18, tv_put _ _ _ _ (by omega), if_neg n17]
            exact i3 t h1 h2
          · rw [tv_put _ _ _ _ (by simp [Act.put]; omega), if_neg (by decide), tv_put _ _ _ _ (by omega), if_neg (by decide)]
            exact i4
          · rw [tv_put _ _ _ _ (by simp [Act.put]; omega), if_neg (by decide), tv_put _ _ _ _ (by omega), if_neg (by decide)]
            exact i5
      · -- one more
        have hmem : ent ∈ wordEs.toList := by
          unfold leftOf at hent
          simp only [Array.toList_filter', List.mem_filter] at hent
          exact hent.1
        obtain ⟨j, hj, rfl⟩ := wordEs_mem hmem
        have hlt := left_push hent
        have hrne : b ≠ r := by rintro rfl; rw [i6] at i7; cases i7
        have hrlt : r < w'.heap.size := (Array.getElem?_eq_some_iff.1 i7).1
        have h3 : w3.heap = w'.heap := by rcases hw3 with rfl | rfl <;> rfl
        have hbel3 : Below w.heap.size w w3 := by
          rcases hw3 with rfl | rfl
          · exact i8
          · exact i8.drew
        have hb3 : (setBlock w3 r (.mapIter (some b) 8 (seen.push j) 8)).heap[b]? = some (.map wordEs 8) := (setBlock_ne hrne).trans (by rw [h3]; exact i6)
        have hr3 : (setBlock w3 r (.mapIter (some b) 8 (seen.push j) 8)).heap[r]? = some (.mapIter (some b) 8 (seen.push j) 8) := setBlock_at (by rw [h3]; exact hrlt)
        have hbel4 : Below w.heap.size w (setBlock w3 r (.mapIter (some b) 8 (seen.push j) 8)) := setBlock_below hbel3 hr0
        have hrun' : (Instr.next (.pointer (some ⟨r, 0, none⟩)) false o0.type).run P w' = .ok (.tuple #[.bool true, .string ⟨(wordM ((j : Int) + 1)).toArray⟩, .int .u8 ((j : Int) + 1)]) (setBlock w3 r (.mapIter (some b) 8 (seen.push j) 8)) := hrun
        generalize setBlock w3 r (.mapIter (some b) 8 (seen.push j) 8) = w4 at *
        have hrel : Rel G w0 st' w4 := hR.below hbel4
        refine st_valo o1 o2 o4 (v := .tuple #[.bool true, .string ⟨(wordM ((j : Int) + 1)).toArray⟩, .int .u8 ((j : Int) + 1)]) (w' := w4) ?_ ?_
        · simp only [execOp, o3]
          refine run_val ?_
          rw [show b'.eval (.tmp 16) = .pointer (some ⟨r, 0, none⟩) from i4]
          exact hrun'
        -- what the slots hold
        let A : (Nat → Value) → Act → Prop := fun f b' => b'.defers = [] ∧ b'.tmps.size = nt ∧ ∀ t, tv b' t = f t
        have put : ∀ {f : Nat → Value} {b' : Act} (d : Nat) (v : Value), d < 27 → A f b' → A (fun t => if t = d then v else f t) (b'.put (some d) v) := by
          rintro f b' d v hd ⟨p1, p2, p3⟩
          refine ⟨p1, by simp [Act.put, p2], fun t => ?_⟩
          rw [tv_put _ _ _ _ (by omega), p3]
        have a0 : A (tv b') b' := ⟨i1, i2, fun _ => rfl⟩
        have a17 := put 17 (.tuple #[.bool true, .string ⟨(wordM ((j : Int) + 1)).toArray⟩, .int .u8 ((j : Int) + 1)]) (by decide) a0
        generalize b'.put (some 17) (.tuple #[.bool true, .string ⟨(wordM ((j : Int) + 1)).toArray⟩, .int .u8 ((j : Int) + 1)]) = b1 at a17 ⊢
        refine st_val h6 (d := 18) (v := .bool true) (w' := w4) rfl (fun o ho => ?_) ?_
        · simp only [execOp, ho]
          refine run_val ?_
          rw [show b1.eval (.tmp 17) = _ from a17.2.2 17]
          simp [Instr.extract]
        have a18 := put 18 (.bool true) (by decide) a17
        generalize b1.put (some 18) (.bool true) = b2 at a18 ⊢
        show Code.wp P _ _ b2 w4
        refine wp_seq (wp_cond_true (a18.2.2 18) (wp_skip ?_))
        show Code.wp P _ _ b2 w4
        refine wp_block (wp_seq (wp_region ?_))
        rw [h7.size]
        show wpOps P ops7 _ [0, 1, 2, 3, 4] _ _
        refine st_val h7 (d := 19) (v := .tuple #[.string ⟨(wordM ((j : Int) + 1)).toArray⟩, .int .u8 ((j : Int) + 1)]) (w' := w4) rfl (fun o ho => ?_) ?_
        · simp only [execOp, ho]
          refine run_val ?_
          rw [show b2.eval (.tmp 16) = .pointer (some ⟨r, 0, none⟩) from (a18.2.2 16).trans i4]
          exact run_entry_at w4 r b 8 seen wordEs 8 (wordE j) hr3 hb3 hmem wordEs_nodup
        have a19 := put 19 (.tuple #[.string ⟨(wordM ((j : Int) + 1)).toArray⟩, .int .u8 ((j : Int) + 1)]) (by decide) a18
        generalize b2.put (some 19) (.tuple #[.string ⟨(wordM ((j : Int) + 1)).toArray⟩, .int .u8 ((j : Int) + 1)]) = b3 at a19 ⊢
        refine st_val h7 (d := 20) (v := .string ⟨(wordM ((j : Int) + 1)).toArray⟩) (w' := w4) rfl (fun o ho => ?_) ?_
        · simp only [execOp, ho]
          refine run_val ?_
          rw [show b3.eval (.tmp 19) = _ from a19.2.2 19]
          simp [Instr.extract]
        have a20 := put 20 (.string ⟨(wordM ((j : Int) + 1)).toArray⟩) (by decide) a19
        generalize b3.put (some 20) (.string ⟨(wordM ((j : Int) + 1)).toArray⟩) = b4 at a20 ⊢
        refine st_val h7 (d := 21) (v := .int .u8 ((j : Int) + 1)) (w' := w4) rfl (fun o ho => ?_) ?_
        · simp only [execOp, ho]
          refine run_val ?_
          rw [show b4.eval (.tmp 19) = _ from a20.2.2 19]
          simp [Instr.extract]
        have a21 := put 21 (.int .u8 ((j : Int) + 1)) (by decide) a20
        generalize b4.put (some 21) (.int .u8 ((j : Int) + 1)) = b5 at a21 ⊢
        refine st_val h7 (d := 6) (v := .string ⟨(wordM ((j : Int) + 1)).toArray⟩) (w' := w4) rfl (fun o ho => ?_) ?_
        · simp only [execOp, ho]
          rw [show b5.eval (.tmp 20) = _ from a21.2.2 20]
          rfl
        have a6 := put 6 (.string ⟨(wordM ((j : Int) + 1)).toArray⟩) (by decide) a21
        generalize b5.put (some 6) (.string ⟨(wordM ((j : Int) + 1)).toArray⟩) = b6 at a6 ⊢
        refine st_val h7 (d := 7) (v := .int .u8 ((j : Int) + 1)) (w' := w4) rfl (fun o ho => ?_) ?_
        · simp only [execOp, ho]
          rw [show b6.eval (.tmp 21) = _ from a6.2.2 21]
          rfl
        have a7 := put 7 (.int .u8 ((j : Int) + 1)) (by decide) a6
        generalize b6.put (some 7) (.int .u8 ((j : Int) + 1)) = b7 at a7 ⊢
        show Code.wp P _ _ b7 w4
        refine wp_seq (wp_region ?_)
        rw [h8.size]
        show wpOps P ops8 _ [0, 1, 2, 3] _ _
        refine st_val h8 (d := 22) (v := .int .u8 ((j : Int) + 1)) (w' := w4) rfl (fun o ho => ?_) ?_
        · simp only [execOp, ho]
          rw [show b7.eval (.tmp 7) = _ from a7.2.2 7]
          rfl
        have a22 := put 22 (.int .u8 ((j : Int) + 1)) (by decide) a7
        generalize b7.put (some 22) (.int .u8 ((j : Int) + 1)) = b8 at a22 ⊢
        have hp1 : R G (.p kk v 0) (tv b8 1) := by
          rw [a22.2.2 1, ← q1]
          exact i3 1 (by decide) (by decide)
        obtain ⟨ti, hti, hsz5, _⟩ := (hT t5 i5' hi5).ti
        obtain ⟨va, hva, hRa⟩ := fad_ok (P := P) (w := w4) hst hf0 hti (by omega) (x := .p kk v 0) (r := .p kk v (0 + 0)) rfl hp1
        refine st_val h8 (d := 23) (v := va) (w' := w4) rfl (fun o ho => ?_) ?_
        · simp only [execOp, ho]
          exact run_val hva
        have a23 := put 23 va (by decide) a22
        generalize b8.put (some 23) va = b9 at a23 ⊢
        obtain ⟨vl, hvl, hRl⟩ := aload_ok (P := P) hrel (hT t5 i5' hi5) (fun _ => hi5s) (x := .p kk v (0 + 0)) (r := .i .u8 n) (by rw [hi5s, hi5a]; simp [aload, qb, ofCells]) hRa
        refine st_val h8 (d := 24) (v := .int .u8 n) (w' := w4) rfl (fun o ho => ?_) ?_
        · simp only [execOp, ho]
          refine run_val ?_
          rw [show b9.eval (.tmp 23) = va from a23.2.2 23, ← hRl.int_inv]
          exact hvl
        have a24 := put 24 (.int .u8 n) (by decide) a23
        generalize b9.put (some 24) (.int .u8 n) = b10 at a24 ⊢
        refine st_val h8 (d := 25) (v := .bool (((j : Int) + 1) == n)) (w' := w4) rfl (fun o ho => ?_) ?_
        · simp only [execOp, ho]
          refine run_val ?_
          rw [show b10.eval (.tmp 22) = .int .u8 ((j : Int) + 1) from a24.2.2 22, show b10.eval (.tmp 24) = .int .u8 n from a24.2.2 24]
          simp only [Sem.run_bind, eqGuard_int, Result.andThen_ok]
          simp [binOp, Op.intCmp]
        have a25 := put 25 (.bool (((j : Int) + 1) == n)) (by decide) a24
        generalize b10.put (some 25) (.bool (((j : Int) + 1) == n)) = b11 at a25 ⊢
        show Code.wp P _ _ b11 w4
        have hcp := cur_push (n := n) (seen := seen) hj
        have next : ∀ (f : Nat → Value) (b' : Act), A f b' → (∀ t, t ≠ 5 → hwSlots.contains t = false → f t = tv b11 t) → f 16 = .pointer (some ⟨r, 0, none⟩) → f 5 = .string ⟨(curOf n (seen.push j)).toArray⟩ → Code.rounds P (.seq (.region 6 ops6 false) (.seq (.cond (.tmp 18) .skip (.exit 0)) (.block 1 (.seq (.region 7 ops7 false) (.seq (.region 8 ops8 false) (.cond (.tmp 25) (.region 9 ops9 false) .skip)))))) (Exit.inBlock 0 Q) m b' w4 := by
          rintro f b' ⟨p1, p2, p3⟩ p4 p5 p6
          refine ih (seen.push j) b' w4 ⟨p1, p2, fun t h1 h2 => ?_, by rw [p3]; exact p5, by rw [p3]; exact p6, hb3, ⟨8, hr3, Nat.le_refl _⟩, hbel4⟩ (by have : (wordE j).born = j := rfl; rw [this] at hlt; omega)
          rw [p3, p4 t h1 h2, a25.2.2 t]
          have hn : ∀ d, hwSlots.contains d = true → t ≠ d := by rintro d hd rfl; rw [hd] at h2; cases h2
          simp only [if_neg (hn 25 rfl), if_neg (hn 24 rfl), if_neg (hn 23 rfl), if_neg (hn 22 rfl), if_neg (hn 7 rfl), if_neg (hn 6 rfl), if_neg (hn 21 rfl), if_neg (hn 20 rfl), if_neg (hn 19 rfl), if_neg (hn 18 rfl), if_neg (hn 17 rfl)]
          exact i3 t h1 h2
        cases hq : (((j : Int) + 1) == n) with
        | false =>
          refine wp_cond_false ?_ (wp_skip ?_)
          · rw [← hq]; exact a25.2.2 25
          · refine next _ b11 ⟨a25.1, a25.2.1, fun _ => rfl⟩ (fun _ _ _ => rfl) ((a25.2.2 16).trans i4) ?_
            rw [hcp, if_neg (by rw [Bool.not_eq_true]; simp only [beq_eq_false_iff_ne, ne_eq] at hq ⊢; exact fun h => hq h.symm)]
            exact (a25.2.2 5).trans i5
        | true =>
          refine wp_cond_true ?_ (wp_region ?_)
          · rw [← hq]; exact a25.2.2 25
          rw [h9.size]
          show wpOps P ops9 _ [0, 1] _ _
          refine st_val h9 (d := 26) (v := .string ⟨(wordM ((j : Int) + 1)).toArray⟩) (w' := w4) rfl (fun o ho => ?_) ?_
          · simp only [execOp, ho]
            rw [show b11.eval (.tmp 6) = _ from a25.2.2 6]
            rfl
          have a26 := put 26 (.string ⟨(wordM ((j : Int) + 1)).toArray⟩) (by decide) a25
          have e26 : ∀ t, t ≠ 26 → tv (b11.put (some 26) (.string ⟨(wordM ((j : Int) + 1)).toArray⟩)) t = tv b11 t := fun t ht => by rw [tv_put _ _ _ _ (by have := a25.2.1; omega), if_neg ht]
          generalize b11.put (some 26) (.string ⟨(wordM ((j : Int) + 1)).toArray⟩) = b12 at a26 e26 ⊢
          refine st_val h9 (d := 5) (v := .string ⟨(wordM ((j : Int) + 1)).toArray⟩) (w' := w4) rfl (fun o ho => ?_) ?_
          · simp only [execOp, ho]
            rw [show b12.eval (.tmp 26) = _ from a26.2.2 26]
            rfl
          have a5 := put 5 (.string ⟨(wordM ((j : Int) + 1)).toArray⟩) (by decide) (show A (tv b12) b12 from ⟨a26.1, a26.2.1, fun _ => rfl⟩)
          generalize b12.put (some 5) (.string ⟨(wordM ((j : Int) + 1)).toArray⟩) = b13 at a5 ⊢
          refine next _ b13 a5 (fun t h1 h2 => ?_) ?_ ?_
          · have n26 : t ≠ 26 := by rintro rfl; simp [hwSlots] at h2
            show (if t = 5 then _ else tv b12 t) = _
            rw [if_neg h1, e26 t n26]
          · show (if (16 : Nat) = 5 then _ else tv b12 16) = _
            rw [if_neg (by decide), e26 16 (by decide)]
            exact (a25.2.2 16).trans i4
          · show (if (5 : Nat) = 5 then _ else tv b12 5) = _
            rw [if_pos rfl, hcp, if_pos (by simp only [beq_iff_eq] at hq ⊢; exact hq.symm)]
  exact rounds 9 #[] a1 w2 init (left_le _)
end
end Go.AM

/- Parts of the proof. -/
namespace Go.AM
open Go
set_option linter.unusedVariables false
set_option linter.unusedSimpArgs false
set_option maxRecDepth 4000
attribute [local irreducible] WO fillCells fillRows
def r243_0:List AI:=[oO 1 (.box 5 (.t 0)),
 oC 2 (.s []),
 oC 3 (.i .i64 0)]
def r243_1:List AI:=[oO 10 (.load 5 true (.t 1)),
 oO 11 (.call false 247 [(.t 10)]),
 oM 4 11]
def r243_2:List AI:=[oM 12 4,
 oB 13 .neq (.t 12) (.c (.i .i64 0))]
def r243_3:List AI:=[oM 14 4,
 oC 2 (.s []),
 oM 3 14]
def r243_4:List AI:=[oC 5 (.s [])]
def r243_5:List AI:=[oF 27 0 1,
 oL 28 27]
def r243_6:List AI:=[oB 36 .eql (.t 28) (.c (.i .u8 1)),
 oM 35 36]
def r243_7:List AI:=[oB 38 .eql (.t 28) (.c (.i .u8 3)),
 oM 37 38]
def r243_8:List AI:=[oM 39 5,
 oF 40 1 1,
 oL 41 40,
 oO 42 (.call false 258 [(.t 41)]),
 oB 43 .add (.c (.s [32])) (.t 42),
 oB 44 .add (.t 43) (.c (.s [32])),
 oF 45 2 1,
 oL 46 45,
 oO 47 (.call false 258 [(.t 46)]),
 oB 48 .add (.t 44) (.t 47),
 oB 49 .add (.t 39) (.t 48),
 oM 5 49]
def r243_9:List AI:=[oB 51 .eql (.t 28) (.c (.i .u8 6)),
 oM 50 51]
def r243_10:List AI:=[oM 52 5,
 oF 53 3 1,
 oL 54 53,
 oO 55 (.call false 15 [(.t 54)]),
 oB 56 .add (.c (.s [32])) (.t 55),
 oB 57 .add (.t 52) (.t 56),
 oM 5 57]
def r243_11:List AI:=[oB 59 .eql (.t 28) (.c (.i .u8 7)),
 oM 58 59]
def r243_12:List AI:=[oB 60 .eql (.t 28) (.c (.i .u8 8)),
 oM 58 60]
def r243_13:List AI:=[oF 62 4 1,
 oL 63 62,
 oO 64 (.call false 11 [(.t 63)]),
 oM 61 64,
 oE 65 0 61,
 oE 66 1 61,
 oM 8 65,
 oM 9 66]
def r243_14:List AI:=[oM 67 9,
 oB 68 .neq (.t 67) (.c (.i .i64 0))]
def r243_15:List AI:=[oM 69 9,
 oC 2 (.s []),
 oM 3 69]
def r243_16:List AI:=[oM 70 5,
 oM 71 8,
 oB 72 .add (.c (.s [32])) (.t 71),
 oB 73 .add (.t 70) (.t 72),
 oM 5 73]
def r243_17:List AI:=[oM 29 5,
 oF 30 1 1,
 oL 31 30,
 oO 32 (.call false 258 [(.t 31)]),
 oB 33 .add (.c (.s [32])) (.t 32),
 oB 34 .add (.t 29) (.t 33),
 oM 5 34]
def r243_18:List AI:=[oM 74 5,
 oM 2 74,
 oC 3 (.i .i64 0)]
abbrev c243_0:AC:=(.cond (.t 58) (.seq (.reg 19 r243_13) (.seq (.seq (.reg 20 r243_14) (.cond (.t 68) (.seq (.reg 21 r243_15) .ret) .skip)) (.reg 22 r243_16))) (.reg 11 r243_17))
abbrev c243_1:AC:=(.seq (.reg 23 r243_18) .ret)
abbrev c243_2:AC:=(.seq (.reg 4 r243_4) (.seq (.hand hw243) (.seq (.seq (.reg 10 r243_5) (.block 2 (.seq (.reg 12 r243_6) (.cond (.t 35) .skip (.seq (.reg 13 r243_7) (.cond (.t 37) (.reg 14 r243_8) (.seq (.reg 15 r243_9) (.cond (.t 50) (.reg 16 r243_10) (.seq (.seq (.reg 17 r243_11) (.cond (.t 58) .skip (.reg 18 r243_12))) c243_0))))))))) c243_1)))
abbrev c243_3:AC:=(.seq (.seq (.reg 1 r243_1) (.seq (.reg 2 r243_2) (.cond (.t 13) (.seq (.reg 3 r243_3) .ret) .skip))) c243_2)
abbrev b243:AC:=(.seq (.reg 0 r243_0) c243_3)
def pf243:AF:={ nt:=75,res:=[.tmp 2,.tmp 3],body:=b243 }
abbrev H243 (Q:AE→Sl→St→Prop)(K:List UInt8→Int→Prop):Prop:=∀(σ:Sl)(st:St)(res0:List UInt8)(res1:Int),σ 2 = .s res0→σ 3 = .i .i64 res1→K res0 res1→Q .ret σ st
def T243_3 (prog:Prog)(K:List UInt8→Int→Prop)(s5:List UInt8):Prop:=
  K s5 0
def T243_4 (prog:Prog)(K:List UInt8→Int→Prop)(s5:List UInt8)(t58:Bool)(m0:Qry):Prop:=
  (t58 = true→∃r'2:List UInt8,∃r'3:Int,Pus prog 11 [.s m0.name] (.tup [.s r'2,.i .i64 r'3])∧(r'3≠0→K ([]:List UInt8) r'3)∧(¬(r'3≠0)→([32]:List UInt8).length + r'2.length≤maxStr∧s5.length + (([32]:List UInt8) ++ r'2).length≤maxStr∧T243_3 prog K (s5 ++ (([32]:List UInt8) ++ r'2))))∧(t58 = false→∃r'7:List UInt8,Pus prog 258 [.i .i64 m0.g] (.s r'7)∧([32]:List UInt8).length + r'7.length≤maxStr∧s5.length + (([32]:List UInt8) ++ r'7).length≤maxStr∧T243_3 prog K (s5 ++ (([32]:List UInt8) ++ r'7)))
def T243_2 (prog:Prog)(K:List UInt8→Int→Prop)(m0:Qry):Prop:=
  (m0.kind = 1→T243_3 prog K (wordM m0.kind))∧(¬(m0.kind = 1)→(m0.kind = 3→∃r'3:List UInt8,Pus prog 258 [.i .i64 m0.g] (.s r'3)∧([32]:List UInt8).length + r'3.length≤maxStr∧(([32]:List UInt8) ++ r'3).length + ([32]:List UInt8).length≤maxStr∧∃r'5:List UInt8,Pus prog 258 [.i .i64 m0.k] (.s r'5)∧((([32]:List UInt8) ++ r'3) ++ ([32]:List UInt8)).length + r'5.length≤maxStr∧(wordM m0.kind).length + (((([32]:List UInt8) ++ r'3) ++ ([32]:List UInt8)) ++ r'5).length≤maxStr∧T243_3 prog K ((wordM m0.kind) ++ (((([32]:List UInt8) ++ r'3) ++ ([32]:List UInt8)) ++ r'5)))∧(¬(m0.kind = 3)→(m0.kind = 6→∃r'8:List UInt8,Pus prog 15 [.i .i64 m0.key] (.s r'8)∧([32]:List UInt8).length + r'8.length≤maxStr∧(wordM m0.kind).length + (([32]:List UInt8) ++ r'8).length≤maxStr∧T243_3 prog K ((wordM m0.kind) ++ (([32]:List UInt8) ++ r'8)))∧(¬(m0.kind = 6)→(m0.kind = 7→T243_4 prog K (wordM m0.kind) (decide (m0.kind = 7)) m0)∧(¬(m0.kind = 7)→T243_4 prog K (wordM m0.kind) (decide (m0.kind = 8)) m0))))
def T243_1 (prog:Prog)(K:List UInt8→Int→Prop)(m0:Qry):Prop:=
  ∃r'1:Int,Pus prog 247 [m0.av] (.i .i64 r'1)∧(r'1≠0→K ([]:List UInt8) r'1)∧(¬(r'1≠0)→T243_2 prog K m0)
def T243_0 (prog:Prog)(K:List UInt8→Int→Prop)(q0:Qry):Prop:=
  T243_1 prog K q0
section
variable {prog:Prog}{d:Nat}{Q:AE→Sl→St→Prop}{K:List UInt8→Int→Prop}(hQ:H243 Q K){σ:Sl}{st:St}
include hQ
theorem w243_3 {s5:List UInt8}(H5:σ 5 = .s s5)(h:T243_3 prog K s5):W prog d c243_1 σ st Q:=
 q_ rfl (m_ (m_ (m_ (e_ (rt_ (hQ _ _ _ _ H5 rfl h))))))
theorem w243_4 {s5:List UInt8}{t58:Bool}{m0:Qry}{v0:Nat}(H1:σ 1 = .p (d,0) v0 0)(H5:σ 5 = .s s5)(H58:σ 58 = .b t58)(B0:lk st.bx (d,0) = some (v0,[.i .u8 m0.kind,.i .i64 m0.g,.i .i64 m0.k,.i .i64 m0.key,.s m0.name]))(h:T243_4 prog K s5 t58 m0):W prog d c243_0 σ st (blockW 2 (thenW prog d c243_1 Q)):=
 cb_ H58 (fun g'1=>q_ rfl (f_ H1 (l_ rfl B0 rfl rfl ((h.1 g'1).elim fun r'2 e'6=>e'6.elim fun r'3 e'4=>ca_ (sc rfl rfl sn) e'4.1 (m_ (x_ rfl rfl (x_ rfl rfl (m_ (m_ (e_ (sq_ (q_ rfl (m_ (b_ rfl rfl neq_ (e_ (cs_ rfl (fun g'5=>q_ rfl (m_ (m_ (m_ (e_ (rt_ (hQ _ _ _ _ rfl rfl (e'4.2.1 g'5)))))))) (fun g'5=>sk_ (W.reg0 rfl fun _ _=>m_ (m_ (b_ rfl rfl (abin_cat' (e'4.2.2 g'5).1) (b_ H5 rfl (abin_cat' (e'4.2.2 g'5).2.1) (m_ (e_ (w243_3 hQ rfl (e'4.2.2 g'5).2.2)))))))))))))))))))))))) (fun g'1=>W.reg0 rfl fun _ _=>m_ (f_ H1 (l_ rfl B0 rfl rfl ((h.2 g'1).elim fun r'7 e'8=>ca_ (sc rfl rfl sn) e'8.1 (b_ rfl rfl (abin_cat' e'8.2.1) (b_ H5 rfl (abin_cat' e'8.2.2.1) (m_ (e_ (w243_3 hQ rfl e'8.2.2.2)))))))))
theorem w243_2 {m0:Qry}{v0:Nat}(H1:σ 1 = .p (d,0) v0 0)(B0:lk st.bx (d,0) = some (v0,[.i .u8 m0.kind,.i .i64 m0.g,.i .i64 m0.k,.i .i64 m0.key,.s m0.name]))(h:T243_2 prog K m0):W prog d c243_2 σ st Q:=
 q_ rfl (m_ (e_ (sq_ (W.hand (hw243_eq H1 rfl B0) (sq_ (q_ rfl (f_ H1 (l_ rfl B0 rfl rfl (e_ (bk_ (q_ rfl (b_ rfl rfl eql_ (m_ (e_ (cs_ rfl (fun g'1=>sk_ (w243_3 hQ rfl (h.1 g'1))) (fun g'1=>q_ rfl (b_ rfl rfl eql_ (m_ (e_ (cs_ rfl (fun g'2=>W.reg0 rfl fun _ _=>m_ (f_ H1 (l_ rfl B0 rfl rfl (((h.2 g'1).1 g'2).elim fun r'3 e'4=>ca_ (sc rfl rfl sn) e'4.1 (b_ rfl rfl (abin_cat' e'4.2.1) (b_ rfl rfl (abin_cat' e'4.2.2.1) (f_ H1 (l_ rfl B0 rfl rfl (e'4.2.2.2.elim fun r'5 e'6=>ca_ (sc rfl rfl sn) e'6.1 (b_ rfl rfl (abin_cat' e'6.2.1) (b_ rfl rfl (abin_cat' e'6.2.2.1) (m_ (e_ (w243_3 hQ rfl e'6.2.2.2)))))))))))))) (fun g'2=>q_ rfl (b_ rfl rfl eql_ (m_ (e_ (cs_ rfl (fun g'7=>W.reg0 rfl fun _ _=>m_ (f_ H1 (l_ rfl B0 rfl rfl ((((h.2 g'1).2 g'2).1 g'7).elim fun r'8 e'9=>ca_ (sc rfl rfl sn) e'9.1 (b_ rfl rfl (abin_cat' e'9.2.1) (b_ rfl rfl (abin_cat' e'9.2.2.1) (m_ (e_ (w243_3 hQ rfl e'9.2.2.2))))))))) (fun g'7=>sq_ (q_ rfl (b_ rfl rfl eql_ (m_ (e_ (cs_ rfl (fun g'10=>sk_ (w243_4 hQ H1 rfl rfl B0 ((((h.2 g'1).2 g'2).2 g'7).1 g'10))) (fun g'10=>W.reg0 rfl fun _ _=>b_ rfl rfl eql_ (m_ (e_ (w243_4 hQ H1 rfl rfl B0 ((((h.2 g'1).2 g'2).2 g'7).2 g'10))))))))))))))))))))))))))))))))))))
theorem w243_1 {m0:Qry}{v0:Nat}(H1:σ 1 = .p (d,0) v0 0)(B0:lk st.bx (d,0) = some (v0,[.i .u8 m0.kind,.i .i64 m0.g,.i .i64 m0.k,.i .i64 m0.key,.s m0.name]))(h:T243_1 prog K m0):W prog d c243_3 σ st Q:=
 sq_ (q_ rfl (l_ H1 B0 rfl rfl (h.elim fun r'1 e'2=>ca_ (sc rfl rfl sn) e'2.1 (m_ (e_ (q_ rfl (m_ (b_ rfl rfl neq_ (e_ (cs_ rfl (fun g'3=>q_ rfl (m_ (m_ (m_ (e_ (rt_ (hQ _ _ _ _ rfl rfl (e'2.2.1 g'3)))))))) (fun g'3=>sk_ (w243_2 hQ H1 B0 (e'2.2.2 g'3)))))))))))))
theorem w243_0 {q0:Qry}(H0:σ 0 = q0.av)(h:T243_0 prog K q0):W prog d (.seq (.reg 0 r243_0) c243_3) σ st Q:=
 q_ rfl (s_box H0 rfl (m_ (m_ (e_ (w243_1 hQ rfl lk_here h)))))
end
theorem p243 {prog:Prog}(hf:prog.fn 243 = some pf243){q0:Qry}{K:List UInt8→Int→Prop}(h:T243_0 prog K q0) :∃res0:List UInt8,∃res1:Int,K res0 res1∧Pus prog 243 [q0.av] (.tup [.s res0,.i .i64 res1]):=by
  obtain ⟨v,hv,res0,res1,hk,rfl⟩:=Pus.of (K:=fun v=>∃res0:List UInt8,∃res1:Int,K res0 res1∧v = .tup [.s res0,.i .i64 res1]) hf rfl (w243_0 (σ:=sl0 [q0.av]) (fun σ st   res0 res1 H2 H3 hk=>⟨.tup [.s res0,.i .i64 res1],by simp only [pf243,ares,aresL,H2,H3,ares1,Option.map_some],_,rfl,res0,res1,hk,rfl⟩) rfl h)
  exact ⟨res0,res1,hk,hv⟩
end Go.AM

/- Parts of the proof. -/
namespace Go.AM
open Go
structure Dsk where
  image : Img
  state : Sta
  query : Qry
  out : List (List UInt8)
def AppD (ow : Ows) (o : Own) (n : Nat) : Prop :=
  match o with
  | .ext => False
  | .full => True
  | .id k v => (lk ow k = some (v, n) ∧ 0 < n) ∧ midSite ≤ k.2 ∧ k.2 < bigSite
theorem AppD.app {ow : Ows} {o : Own} {n : Nat} (h : AppD ow o n) : App ow o n := by
  cases o with
  | ext => exact h
  | full => exact h
  | id k v => exact h.1
abbrev Dsk.fix (m : Dsk) : List AV := [.sl .ext (List.map Typ.row m.image.types), .sl .ext (List.map rowS m.image.texts), .sl .ext (List.map Fun.row m.image.funcs), .i .u8 m.state.outcome, .i .i64 m.state.failing, .i .i64 m.state.steps, .sl .ext (List.map Rou.row m.state.routines), .i .u8 m.query.kind, .i .i64 m.query.g, .i .i64 m.query.k, .i .i64 m.query.key, .s m.query.name]
def Dk (m : Dsk) : BC := fun bx ow k v => ∃ o, lk bx k = some (v, m.fix ++ [.sl o (List.map rowS m.out)]) ∧ AppD ow o m.out.length
theorem Dk.other {m : Dsk} {bx : Bxs} {ow : Ows} {k q : Key} {v : Nat} {a : Nat × List AV} (hn : q ≠ k) (h : Dk m bx ow k v) : Dk m (st_ bx q a) ow k v := by
  obtain ⟨o, h1, h2⟩ := h
  exact ⟨o, by rw [lk_ne hn]; exact h1, h2⟩
theorem Dk.out {m : Dsk} : Out (Dk m) := fun d bx ow k v hk ⟨o, h1, h2⟩ => ⟨o, by rw [lk_out hk]; exact h1, h2⟩
theorem Dk.new {m : Dsk} {bx : Bxs} {ow : Ows} {k : Key} {v : Nat} {cs : List AV} (h : lk bx k = some (v, cs)) (hc : cs = m.fix ++ [.sl .full (List.map rowS m.out)]) : Dk m bx ow k v := ⟨.full, by rw [← hc]; exact h, trivial⟩
def PuXF (prog : Prog) (f : Nat) (B : BC) (args : Key → Nat → List AV) (RR : AV → Prop) (B' : BC) : Prop :=
  ∀ d (st : St) (k : Key) (v : Nat), k.1 < d → B st.bx st.ow k v → ∃ r st', Fn prog d f (.p k v 0 :: args k v) st r st' ∧ RR r ∧ B' st'.bx st'.ow k v ∧ Fr d k st.bx st.ow st'.bx st'.ow
def PuXFK {β : Type} (prog : Prog) (f : Nat) (B : BC) (args : Key → Nat → List AV) (KK : AV → β → Prop) (B' : β → BC) : Prop :=
  ∀ d (st : St) (k : Key) (v : Nat), k.1 < d → B st.bx st.ow k v → ∃ r st' b, Fn prog d f (.p k v 0 :: args k v) st r st' ∧ KK r b ∧ B' b st'.bx st'.ow k v ∧ Fr d k st.bx st.ow st'.bx st'.ow
theorem PuXFK.to {β : Type} {prog : Prog} {f : Nat} {B : BC} {args : Key → Nat → List AV} {KK : AV → β → Prop} {B' : β → BC} {RR : AV → Prop} {b : β} (h : PuXFK prog f B args KK B') (hk : ∀ r b', KK r b' → RR r ∧ b' = b) : PuXF prog f B args RR (B' b) := by
  intro d st k v h1 h2
  obtain ⟨r, st', b', h3, h4, h5, h6⟩ := h d st k v h1 h2
  obtain ⟨h7, rfl⟩ := hk r b' h4
  exact ⟨r, st', h3, h7, h5, h6⟩
theorem PuXFK.of {β : Type} {prog : Prog} {f : Nat} {F : AF} {B : BC} {B' : β → BC} {args : Key → Nat → List AV} {KK : AV → β → Prop} (hf : prog.fn f = some F) (hn : ∀ k v, Nat.ble ((args k v).length + 1) F.nt = true) (ho : ∀ b, Out (B' b))
    (h : ∀ (d : Nat) (st : St) (k : Key) (v : Nat), k.1 < d → B st.bx st.ow k v → W prog d F.body (sl0 (.p k v 0 :: args k v)) st fun e σ st' => (e = .normal ∨ e = .ret) ∧ ∃ r b, ares σ st' F.res = some r ∧ KK r b ∧ B' b st'.bx st'.ow k v ∧ Fr d k st.bx st.ow st'.bx st'.ow) : PuXFK prog f B args KK B' := by
  intro d st k v hk hB
  obtain ⟨r, st', h1, b, h2, h3, h4⟩ := Fn.of' (prog := prog) (K := fun r st' => ∃ b, KK r b ∧ B' b st'.bx st'.ow k v ∧ Fr d k st.bx st.ow st'.bx st'.ow) hf (by simpa using Nat.le_of_ble_eq_true (hn k v)) ((h d st k v hk hB).mono fun e σ st' hq => by
    obtain ⟨he, r, b, h1, h2, h3, h4⟩ := hq
    rcases he with rfl | rfl
    · exact ⟨r, h1, b, h2, ho b d _ _ k v hk h3, h4.out⟩
    · exact ⟨r, h1, b, h2, ho b d _ _ k v hk h3, h4.out⟩)
  exact ⟨r, st', b, h1, h2, h3, h4⟩
def PuV (prog : Prog) (f : Nat) (B : BC) (RR : AV → Prop) (B' : BC) : Prop :=
  ∀ d (st : St) (q : Key) (u : Nat) (k : Key) (v : Nat), q.1 < d → k.1 < d → lk st.bx q = some (u, [.p k v 0]) → B st.bx st.ow k v → ∃ r st', Fn prog d f [.p q u 0] st r st' ∧ RR r ∧ B' st'.bx st'.ow k v ∧ Fr d k st.bx st.ow st'.bx st'.ow
section
variable {prog : Prog} {d id base i : Nat} {σ : Sl} {st : St} {K : Sl → St → Prop} {r : List AI} {t : Option Nat} {x y : Opd}
theorem s_loadD {m : Dsk} {n o v : Nat} {agg : Bool} {k : Key} {w : AV} (hx : x.ev σ = .p k v o) (hB : Dk m st.bx st.ow k v) (hn : Nat.ble (o + n) 12 = true) (hv : ofCells agg ((m.fix.drop o).take n) = some w) (h : WO prog d id base (i + 1) r (upO σ t w) st K) : WO prog d id base i (⟨t, .load n agg x, none⟩ :: r) σ st K := by
  obtain ⟨q, hb, _⟩ := hB
  have hn := Nat.le_of_ble_eq_true hn
  refine s_loadP hx hb (by rw [Nat.ble_eq]; simp; omega) ?_ h
  rw [← hv, List.drop_append_of_le_length (by simp; omega), List.take_append_of_le_length (by simp; omega)]
theorem s_loadO {m : Dsk} {v : Nat} {k : Key} (hx : x.ev σ = .p k v 12) (hB : Dk m st.bx st.ow k v) (h : ∀ o, WO prog d id base (i + 1) r (upO σ t (.sl o (List.map rowS m.out))) st K) : WO prog d id base i (⟨t, .load 1 false x, none⟩ :: r) σ st K := by
  obtain ⟨q, hb, _⟩ := hB
  exact s_loadP hx hb rfl rfl (h q)
theorem s_callXF {f : Nat} {args : List Opd} {vs : Key → Nat → List AV} {B B' : BC} {F : AV} {k : Key} {v : Nat} (hs : evs σ args = .p k v 0 :: vs k v) (hp : PuXF prog f B vs (fun r => r = F) B') (hk : k.1 < d + 1) (hB : B st.bx st.ow k v)
    (h : ∀ st' : St, B' st'.bx st'.ow k v → Fr (d + 1) k st.bx st.ow st'.bx st'.ow → WO prog d id base (i + 1) r (upO σ t F) st' K) : WO prog d id base i (⟨t, .call true f args, none⟩ :: r) σ st K := by
  refine s_one ?_
  obtain ⟨r', st', h1, rfl, h3, h4⟩ := hp (d + 1) st k v hk hB
  rw [WOp_callp, hs]
  exact ⟨_, _, h1, h st' h3 h4⟩
theorem s_callB {f : Nat} {args : List Opd} {vs : List AV} {B B' : BC} {F : AV} {k : Key} {v : Nat} (hx : x.ev σ = .bf f [.p k v 0]) (hs : evs σ args = vs) (hp : PuX prog f B vs (fun r => r = F) B') (hk : k.1 < d + 1) (hB : B st.bx st.ow k v)
    (h : ∀ st' : St, B' st'.bx st'.ow k v → Fr (d + 1) k st.bx st.ow st'.bx st'.ow → WO prog d id base (i + 1) r (upO σ t F) st' K) : WO prog d id base i (⟨t, .callv x args, none⟩ :: r) σ st K := by
  refine s_one ?_
  obtain ⟨r', st', h1, rfl, h3, h4⟩ := hp (d + 1) st k v hk hB
  show onCv (x.ev σ) (evs σ args) (fun g l => WF prog (d + 1) g l st _)
  rw [hx, hs]
  exact ⟨_, _, h1, h st' h3 h4⟩
theorem s_callVV {f : Nat} {B B' : BC} {F : AV} {q k : Key} {u v : Nat} (hx : x.ev σ = .fn f [.p q u 0]) (hp : PuV prog f B (fun r => r = F) B') (hq : q.1 < d + 1) (hk : k.1 < d + 1) (hb : lk st.bx q = some (u, [.p k v 0])) (hB : B st.bx st.ow k v)
    (h : ∀ st' : St, B' st'.bx st'.ow k v → Fr (d + 1) k st.bx st.ow st'.bx st'.ow → WO prog d id base (i + 1) r (upO σ t F) st' K) : WO prog d id base i (⟨t, .callv x [], none⟩ :: r) σ st K := by
  refine s_one ?_
  obtain ⟨r', st', h1, rfl, h3, h4⟩ := hp (d + 1) st q u k v hq hk hb hB
  show onCv (x.ev σ) (evs σ []) (fun g l => WF prog (d + 1) g l st _)
  rw [hx]
  exact ⟨_, _, h1, h st' h3 h4⟩
end
end Go.AM

/- Parts of the proof. -/
namespace Go.AM
open Go
set_option linter.unusedVariables false
set_option linter.unusedSimpArgs false
set_option maxRecDepth 4000
attribute [local irreducible] WO fillCells fillRows
def r276_0:List AI:=[oM 4 0,
 oM 5 0,
 oN 6 5,
 oF 7 12 6,
 oL 8 7,
 oM 9 1,
 oO 10 (.bslice [.s []] 1 [(0,(.t 9))]),
 oO 11 (.app 1 16 (.t 8) (.t 10)),
 oN 12 4,
 oF 13 12 12,
 oS 1 13 11]
abbrev b276:AC:=(.reg 500000 r276_0)
def pf276:AF:={ nt:=14,res:=[],body:=b276 }
def r271_0:List AI:=[oC 1 (.i .i64 0)]
def r271_1:List AI:=[oL 2 0,
 oL 3 0,
 oO 4 (.mkbf 273 [(.t 3)]),
 oO 5 (.call true 272 [(.t 2),(.t 4)]),
 oM 1 5]
abbrev b271:AC:=(.seq (.reg 0 r271_0) (.seq (.reg 1 r271_1) .ret))
def pf271:AF:={ nt:=6,res:=[.tmp 1],body:=b271 }
def r274_0:List AI:=[oC 1 (.i .i64 0)]
def r274_1:List AI:=[oL 2 0,
 oL 3 0,
 oO 4 (.mkbf 275 [(.t 3)]),
 oO 5 (.call true 272 [(.t 2),(.t 4)]),
 oM 1 5]
abbrev b274:AC:=(.seq (.reg 0 r274_0) (.seq (.reg 1 r274_1) .ret))
def pf274:AF:={ nt:=6,res:=[.tmp 1],body:=b274 }
def r273_0:List AI:=[oO 7 (.box 4 (.t 3)),
 oC 8 (.i .i64 0)]
def r273_1:List AI:=[oM 9 0,
 oN 10 9,
 oF 11 0 10,
 oF 12 2 11,
 oL 13 12,
 oF 14 0 7,
 oL 15 14,
 oO 16 (.iaL 7 (.t 13) (.t 15)),
 oF 17 0 16,
 oL 18 17,
 oM 19 0,
 oN 20 19,
 oF 21 7 20,
 oF 22 4 21,
 oL 23 22,
 oB 24 .eql (.t 18) (.t 23)]
def r273_2:List AI:=[oM 25 0,
 oM 26 1,
 oO 27 (.call false 258 [(.t 26)]),
 oB 28 .add (.t 27) (.c (.s [32])),
 oM 29 2,
 oO 30 (.call false 258 [(.t 29)]),
 oB 31 .add (.t 28) (.t 30),
 oB 32 .add (.t 31) (.c (.s [32,97,116,32])),
 oF 33 1 7,
 oL 34 33,
 oO 35 (.call false 258 [(.t 34)]),
 oB 36 .add (.t 32) (.t 35),
 oO 37 (.call true 276 [(.t 25),(.t 36)])]
def r273_3:List AI:=[oC 8 (.i .i64 0)]
abbrev c273_0:AC:=(.seq (.reg 3 r273_3) .ret)
abbrev b273:AC:=(.seq (.reg 0 r273_0) (.seq (.seq (.reg 1 r273_1) (.cond (.t 24) (.reg 2 r273_2) .skip)) c273_0))
def pf273:AF:={ nt:=38,res:=[.tmp 8],body:=b273 }
abbrev H273 (d:Nat)(st0:St)(kp:Key)(vp:Nat)(Q:AE→Sl→St→Prop)(K:Int→Dsk→Prop):Prop:=∀(σ:Sl)(st:St)(res0:Int)(b_:Dsk),σ 8 = .i .i64 res0→Dk b_ st.bx st.ow kp vp→Fr d kp st0.bx st0.ow st.bx st.ow→K res0 b_→Q .ret σ st
def T273_1 (prog:Prog)(K:Int→Dsk→Prop)(mP:Dsk):Prop:=
  K 0 mP
def T273_0 (prog:Prog)(K:Int→Dsk→Prop)(g1:Int)(k2:Int)(x3:Frm)(mP:Dsk):Prop:=
  0≤x3.func∧∃c'1:Fun,mP.image.funcs[(x3.func).toNat]? = some c'1∧(c'1.name = mP.query.name→∃r'4:List UInt8,Pus prog 258 [.i .i64 g1] (.s r'4)∧r'4.length + ([32]:List UInt8).length≤maxStr∧∃r'6:List UInt8,Pus prog 258 [.i .i64 k2] (.s r'6)∧(r'4 ++ ([32]:List UInt8)).length + r'6.length≤maxStr∧((r'4 ++ ([32]:List UInt8)) ++ r'6).length + ([32,97,116,32]:List UInt8).length≤maxStr∧∃r'8:List UInt8,Pus prog 258 [.i .i64 x3.pos] (.s r'8)∧(((r'4 ++ ([32]:List UInt8)) ++ r'6) ++ ([32,97,116,32]:List UInt8)).length + r'8.length≤maxStr∧∃b'15:Dsk,PuX prog 276 (Dk mP) [.s ((((r'4 ++ ([32]:List UInt8)) ++ r'6) ++ ([32,97,116,32]:List UInt8)) ++ r'8)] (fun r=>r = .tup []) ((Dk b'15))∧T273_1 prog K b'15)∧(¬(c'1.name = mP.query.name)→T273_1 prog K mP)
section
variable {prog:Prog}{d:Nat}{Q:AE→Sl→St→Prop}{K:Int→Dsk→Prop}{st0:St}{kp:Key}{vp:Nat}(hQ:H273 d st0 kp vp Q K)(hkp:kp.1 < d){σ:Sl}{st:St}
include hQ hkp
theorem w273_1 {mP:Dsk}(BP:Dk mP st.bx st.ow kp vp)(FR:Fr d kp st0.bx st0.ow st.bx st.ow)(h:T273_1 prog K mP):W prog d c273_0 σ st Q:=
 q_ rfl (m_ (e_ (rt_ (hQ _ _ _ _ rfl BP FR h))))
theorem w273_0 {g1 k2:Int}{x3:Frm}{mP:Dsk}(H0:σ 0 = .p kp vp 0)(H1:σ 1 = .i .i64 g1)(H2:σ 2 = .i .i64 k2)(H3:σ 3 = x3.av)(BP:Dk mP st.bx st.ow kp vp)(FR:Fr d kp st0.bx st0.ow st.bx st.ow)(h:T273_0 prog K g1 k2 x3 mP):W prog d (.seq (.reg 0 r273_0) (.seq (.seq (.reg 1 r273_1) (.cond (.t 24) (.reg 2 r273_2) .skip)) c273_0)) σ st Q:=
 q_ rfl (s_box H3 rfl (m_ (e_ (sq_ (q_ rfl (m_ (s_nilP H0 (f_ rfl (f_ rfl (s_loadD rfl (Dk.other (key_LP hkp) BP) rfl rfl (f_ rfl (l_ rfl lk_here rfl rfl (h.2.elim fun c'1 e'2=>ia_ rfl rfl h.1 e'2.1 (Fun.row_eq c'1) rfl (ff_ rfl (lf_ rfl rfl rfl (m_ (s_nilP H0 (f_ rfl (f_ rfl (s_loadD rfl (Dk.other (key_LP hkp) BP) rfl rfl (b_ rfl rfl seq_ (e_ (cs_ rfl (fun g'3=>W.reg0 rfl fun _ _=>m_ (m_ ((e'2.2.1 g'3).elim fun r'4 e'5=>ca_ (sc H1 rfl sn) e'5.1 (b_ rfl rfl (abin_cat' e'5.2.1) (m_ (e'5.2.2.elim fun r'6 e'7=>ca_ (sc H2 rfl sn) e'7.1 (b_ rfl rfl (abin_cat' e'7.2.1) (b_ rfl rfl (abin_cat' e'7.2.2.1) (f_ rfl (l_ rfl lk_here rfl rfl (e'7.2.2.2.elim fun r'8 e'9=>ca_ (sc rfl rfl sn) e'9.1 (b_ rfl rfl (abin_cat' e'9.2.1) (e'9.2.2.elim fun b'15 e'11=>cX_ (sec H0 (sec rfl sen)) e'11.1 (Nat.lt_succ_of_lt hkp) (Dk.other (key_LP hkp) BP) (fun st'12 hb'13 hf'14=>e_ (w273_1 hQ hkp hb'13 (Fr.pass (Fr.box FR) hf'14) e'11.2))))))))))))))) (fun g'3=>sk_ (w273_1 hQ hkp (Dk.other (key_LP hkp) BP) (Fr.box FR) (e'2.2.2 g'3))))))))))))))))))))))))))
end
theorem p273 {prog:Prog}(hf:prog.fn 273 = some pf273){g1:Int}{k2:Int}{x3:Frm}{mP:Dsk}{K:Int→Dsk→Prop}(h:T273_0 prog K g1 k2 x3 mP):PuXK prog 273 (Dk mP) [.i .i64 g1,.i .i64 k2,x3.av] (fun r (b_:Dsk)=>∃res0:Int,(r = .i .i64 res0)∧K res0 b_) (fun b_=>(Dk b_)):=
  PuXK.of hf rfl (fun _=>Dk.out) fun d st kp vp hkp hB=>w273_0 (st0:=st) (Q:=fun e σ st'=>(e = .normal∨e = .ret)∧∃r b_,ares σ st' pf273.res = some r∧_∧_∧Fr d kp st.bx st.ow st'.bx st'.ow) (fun σ st'   res0 b_ H8 hb hf hk=>⟨.inr rfl,.i .i64 res0,b_,by simp only [pf273,ares,aresL,H8,ares1,Option.map_some,H8],⟨res0,rfl,hk⟩,hb,hf⟩) hkp (σ:=sl0 [.p kp vp 0,.i .i64 g1,.i .i64 k2,x3.av]) rfl rfl rfl rfl hB Fr.refl h
def r270_0:List AI:=[oC 2 (.i .i64 0)]
def r270_1:List AI:=[oM 5 0,
 oN 6 5,
 oF 7 3 6,
 oF 8 3 7,
 oL 9 8,
 oO 10 (.len false (.t 9)),
 oC 11 (.i .i64 0)]
def r270_2:List AI:=[oB 12 .lss (.t 11) (.t 10)]
def r270_3:List AI:=[oM 13 11,
 oO 14 (.iaL 5 (.t 9) (.t 11)),
 oO 15 (.load 5 true (.t 14)),
 oO 4 (.alloc [.i .u8 0,.i .i64 0,.sl .full [],.sl .full [],.sl .full []]),
 oM 3 13,
 oS 5 4 15]
def r270_4:List AI:=[oF 16 0 4,
 oL 17 16,
 oB 18 .eql (.t 17) (.c (.i .u8 2)),
 oM 19 18,
 oG 20 (.fad 1 (.t 4)) 19 true,
 oG 21 (.load 1 false (.t 20)) 19 true,
 oG 22 (.mv (.t 0)) 19 true,
 oG 23 (.nilc (.t 22)) 19 true,
 oG 24 (.fad 7 (.t 23)) 19 true,
 oG 25 (.fad 3 (.t 24)) 19 true,
 oG 26 (.load 1 false (.t 25)) 19 true,
 oG 27 (.bin .eql (.t 21) (.t 26)) 19 true,
 oO 28 (.pick (.t 19) (.t 27) (.c (.b false)))]
def r270_5:List AI:=[oM 29 0,
 oM 30 3,
 oO 31 (.call false 258 [(.t 30)]),
 oB 32 .add (.c (.s [103,111,114,111,117,116,105,110,101,32])) (.t 31),
 oO 33 (.call true 276 [(.t 29),(.t 32)])]
def r270_6:List AI:=[oB 34 .add (.t 11) (.c (.i .i64 1)),
 oM 11 34]
def r270_7:List AI:=[oC 2 (.i .i64 0)]
abbrev c270_0:AC:=(.cond (.t 28) (.reg 5 r270_5) .skip)
abbrev c270_1:AC:=(.reg 6 r270_6)
abbrev l270_0:AC:=(.seq (.reg 2 r270_2) (.seq (.cond (.t 12) .skip (.exit 0)) (.seq (.block 1 (.seq (.reg 3 r270_3) (.seq (.reg 4 r270_4) c270_0))) c270_1)))
abbrev c270_3:AC:=(.seq (.reg 7 r270_7) .ret)
abbrev b270:AC:=(.seq (.reg 0 r270_0) (.seq (.seq (.reg 1 r270_1) (.block 0 (.loop l270_0))) c270_3))
def pf270:AF:={ nt:=35,res:=[.tmp 2],body:=b270 }
abbrev H270 (d:Nat)(st0:St)(kp:Key)(vp:Nat)(Q:AE→Sl→St→Prop)(K:Int→Dsk→Prop):Prop:=∀(σ:Sl)(st:St)(res0:Int)(b_:Dsk),σ 2 = .i .i64 res0→Dk b_ st.bx st.ow kp vp→Fr d kp st0.bx st0.ow st.bx st.ow→K res0 b_→Q .ret σ st
abbrev I270_0 (prog:Prog)(d:Nat)(Q:AE→Sl→St→Prop)(st0:St)(kp:Key)(vp:Nat)(t9:List Rou)(t10:Int)(t11:Int)(mP:Dsk):Prop:=
  ∀(σ:Sl)(st:St)(o_t9:Own),σ 0 = .p kp vp 0→σ 9 = .sl o_t9 (List.map Rou.row t9)→σ 10 = .i .i64 t10→σ 11 = .i .i64 t11→Dk mP st.bx st.ow kp vp→Fr d kp st0.bx st0.ow st.bx st.ow→W prog d (.loop l270_0) σ st (blockW 0 (thenW prog d c270_3 Q))
def T270_3 (prog:Prog)(K:Int→Dsk→Prop)(P0:Int→Dsk→Prop)(t9:List Rou)(t10:Int)(t11:Int)(mP:Dsk):Prop:=
  P0 (IntKind.i64.wrap (t11 + 1)) mP
def T270_2 (prog:Prog)(K:Int→Dsk→Prop)(P0:Int→Dsk→Prop)(g3:Int)(t9:List Rou)(t10:Int)(t11:Int)(t28:Bool)(mP:Dsk):Prop:=
  (t28 = true→∃r'2:List UInt8,Pus prog 258 [.i .i64 g3] (.s r'2)∧([103,111,114,111,117,116,105,110,101,32]:List UInt8).length + r'2.length≤maxStr∧∃b'9:Dsk,PuX prog 276 (Dk mP) [.s (([103,111,114,111,117,116,105,110,101,32]:List UInt8) ++ r'2)] (fun r=>r = .tup []) ((Dk b'9))∧T270_3 prog K P0 t9 t10 t11 b'9)∧(t28 = false→T270_3 prog K P0 t9 t10 t11 mP)
def T270_4 (prog:Prog)(K:Int→Dsk→Prop)(mP:Dsk):Prop:=
  K 0 mP
def T270_1 (prog:Prog)(K:Int→Dsk→Prop)(P0:Int→Dsk→Prop)(t9:List Rou)(t10:Int)(t11:Int)(mP:Dsk):Prop:=
  (t11 < t10→0≤t11∧∃c'2:Rou,t9[(t11).toNat]? = some c'2∧(c'2.status = 2→T270_2 prog K P0 t11 t9 t10 t11 (decide (c'2.key = mP.query.key)) mP)∧(¬(c'2.status = 2)→T270_2 prog K P0 t11 t9 t10 t11 false mP))∧(¬(t11 < t10)→T270_4 prog K mP)
def T270_0 (prog:Prog)(K:Int→Dsk→Prop)(mP:Dsk):Prop:=
  ∀P0:Int→Dsk→Prop,(∀(t11:Int)(mP_b:Dsk),T270_1 prog K P0 mP.state.routines (mP.state.routines.length:Int) t11 mP_b→P0 t11 mP_b)→P0 0 mP
section
variable {prog:Prog}{d:Nat}{Q:AE→Sl→St→Prop}{K:Int→Dsk→Prop}{st0:St}{kp:Key}{vp:Nat}(hQ:H270 d st0 kp vp Q K)(hkp:kp.1 < d){σ:Sl}{st:St}
include hQ hkp
theorem w270_3 {t9:List Rou}{t10 t11:Int}{mP:Dsk}{P0:Int→Dsk→Prop} (kP0 :∀(t11:Int)(mP:Dsk),P0 t11 mP→I270_0 prog d Q st0 kp vp t9 t10 t11 mP){o_t9:Own}(H0:σ 0 = .p kp vp 0)(H9:σ 9 = .sl o_t9 (List.map Rou.row t9))(H10:σ 10 = .i .i64 t10)(H11:σ 11 = .i .i64 t11)(BP:Dk mP st.bx st.ow kp vp)(FR:Fr d kp st0.bx st0.ow st.bx st.ow)(h:T270_3 prog K P0 t9 t10 t11 mP):W prog d c270_1 σ st (thenW prog d (.loop l270_0) (blockW 0 (thenW prog d c270_3 Q))):=
 W.reg0 rfl fun _ _=>b_ H11 rfl add_ (m_ (e_ (kP0 _ _ h _ _ _ H0 H9 H10 rfl BP FR)))
theorem w270_2 {g3:Int}{t9:List Rou}{t10 t11:Int}{t28:Bool}{mP:Dsk}{P0:Int→Dsk→Prop} (kP0 :∀(t11:Int)(mP:Dsk),P0 t11 mP→I270_0 prog d Q st0 kp vp t9 t10 t11 mP){o_t9:Own}(H0:σ 0 = .p kp vp 0)(H3:σ 3 = .i .i64 g3)(H9:σ 9 = .sl o_t9 (List.map Rou.row t9))(H10:σ 10 = .i .i64 t10)(H11:σ 11 = .i .i64 t11)(H28:σ 28 = .b t28)(BP:Dk mP st.bx st.ow kp vp)(FR:Fr d kp st0.bx st0.ow st.bx st.ow)(h:T270_2 prog K P0 g3 t9 t10 t11 t28 mP):W prog d c270_0 σ st (blockW 1 (thenW prog d c270_1 (thenW prog d (.loop l270_0) (blockW 0 (thenW prog d c270_3 Q))))):=
 cb_ H28 (fun g'1=>W.reg0 rfl fun _ _=>m_ (m_ ((h.1 g'1).elim fun r'2 e'3=>ca_ (sc H3 rfl sn) e'3.1 (b_ rfl rfl (abin_cat' e'3.2.1) (e'3.2.2.elim fun b'9 e'5=>cX_ (sec H0 (sec rfl sen)) e'5.1 (Nat.lt_succ_of_lt hkp) BP (fun st'6 hb'7 hf'8=>e_ (w270_3 hQ hkp kP0 H0 H9 H10 H11 hb'7 (Fr.pass FR hf'8) e'5.2))))))) (fun g'1=>sk_ (w270_3 hQ hkp kP0 H0 H9 H10 H11 BP FR (h.2 g'1)))
theorem w270_4 {mP:Dsk}(BP:Dk mP st.bx st.ow kp vp)(FR:Fr d kp st0.bx st0.ow st.bx st.ow)(h:T270_4 prog K mP):W prog d c270_3 σ st Q:=
 q_ rfl (m_ (e_ (rt_ (hQ _ _ _ _ rfl BP FR h))))
theorem w270_1 {t9:List Rou}{t10 t11:Int}{mP:Dsk}{P0:Int→Dsk→Prop} (kP0 :∀(t11:Int)(mP:Dsk),P0 t11 mP→I270_0 prog d Q st0 kp vp t9 t10 t11 mP){o_t9:Own}(H0:σ 0 = .p kp vp 0)(H9:σ 9 = .sl o_t9 (List.map Rou.row t9))(H10:σ 10 = .i .i64 t10)(H11:σ 11 = .i .i64 t11)(BP:Dk mP st.bx st.ow kp vp)(FR:Fr d kp st0.bx st0.ow st.bx st.ow)(h:T270_1 prog K P0 t9 t10 t11 mP):W prog d l270_0 σ st (thenW prog d (.loop l270_0) (blockW 0 (thenW prog d c270_3 Q))):=
 q_ rfl (b_ H11 H10 lss_ (e_ (sq_ (cs_ rfl (fun g'1=>sk_ (sq_ (bk_ (sq_ (W.reg (m_ ((h.1 g'1).2.elim fun c'2 e'3=>ia_ H9 H11 (h.1 g'1).1 e'3.1 (Rou.row_eq c'2) rfl (lf_ rfl rfl rfl (s_alloc (m_ (so_ rfl (show lk _ (d,12291) = some (_,([.i .u8 0,.i .i64 0,.sl .full (List.map Frm.row ([]:List Frm)),.sl .full (List.map Dfr.row ([]:List Dfr)),.sl .full (List.map Pan.row ([]:List Pan))]:List AV)) from lk_here) rfl rfl rfl (e_ (q_ rfl (f_ rfl (l_ rfl lk_here rfl rfl (b_ rfl rfl eql_ (s_mvB rfl (em_ (g:=19) rfl (fun g'4=>gy_ rfl (f_ rfl (gy_ rfl (l_ rfl lk_here rfl rfl (gy_ rfl (s_mv H0 (gy_ rfl (s_nilP rfl (gy_ rfl (f_ rfl (gy_ rfl (f_ rfl (gy_ rfl (s_loadD rfl (Dk.other (key_LP hkp) (Dk.other (key_LP hkp) BP)) rfl rfl (gy_ rfl (b_ rfl rfl eql_ (pt_ rfl rfl (e_ (w270_2 hQ hkp kP0 H0 H11 H9 H10 H11 rfl (Dk.other (key_LP hkp) (Dk.other (key_LP hkp) BP)) (Fr.box (Fr.box FR)) (e'3.2.1 g'4)))))))))))))))))))) (fun g'4=>gn_ (b:=false) rfl rfl (gn_ (b:=false) rfl rfl (gn_ (b:=false) rfl rfl (gn_ (b:=false) rfl rfl (gn_ (b:=false) rfl rfl (gn_ (b:=false) rfl rfl (gn_ (b:=false) rfl rfl (gn_ (b:=false) rfl rfl (pf_ rfl rfl (e_ (w270_2 hQ hkp kP0 H0 H11 H9 H10 H11 rfl (Dk.other (key_LP hkp) (Dk.other (key_LP hkp) BP)) (Fr.box (Fr.box FR)) (e'3.2.2 g'4)))))))))))))))))))))))))))))) (fun g'1=>ex_ (w270_4 hQ hkp BP FR (h.2 g'1)))))))
theorem w270_0 {mP:Dsk}(H0:σ 0 = .p kp vp 0)(BP:Dk mP st.bx st.ow kp vp)(FR:Fr d kp st0.bx st0.ow st.bx st.ow)(h:T270_0 prog K mP):W prog d (.seq (.reg 0 r270_0) (.seq (.seq (.reg 1 r270_1) (.block 0 (.loop l270_0))) c270_3)) σ st Q:=
 q_ rfl (m_ (e_ (sq_ (q_ rfl (m_ (s_nilP H0 (f_ rfl (f_ rfl (s_loadD rfl BP rfl rfl (ll_ rfl (m_ (e_ (bk_ (h (I270_0 prog d Q st0 kp vp mP.state.routines (mP.state.routines.length:Int)) (fun _ _ hb _ _ _ H0 H9 H10 H11 BP FR=>W.loop (w270_1 hQ hkp (fun _ _ x=>x) H0 H9 H10 H11 BP FR hb)) _ _ _ H0 rfl rfl rfl BP FR))))))))))))))
end
theorem p270 {prog:Prog}(hf:prog.fn 270 = some pf270){mP:Dsk}{K:Int→Dsk→Prop}(h:T270_0 prog K mP):PuXK prog 270 (Dk mP) [] (fun r (b_:Dsk)=>∃res0:Int,(r = .i .i64 res0)∧K res0 b_) (fun b_=>(Dk b_)):=
  PuXK.of hf rfl (fun _=>Dk.out) fun d st kp vp hkp hB=>w270_0 (st0:=st) (Q:=fun e σ st'=>(e = .normal∨e = .ret)∧∃r b_,ares σ st' pf270.res = some r∧_∧_∧Fr d kp st.bx st.ow st'.bx st'.ow) (fun σ st'   res0 b_ H2 hb hf hk=>⟨.inr rfl,.i .i64 res0,b_,by simp only [pf270,ares,aresL,H2,ares1,Option.map_some,H2],⟨res0,rfl,hk⟩,hb,hf⟩) hkp (σ:=sl0 [.p kp vp 0]) rfl hB Fr.refl h
def r269_0:List AI:=[oC 2 (.i .i64 0)]
def r269_1:List AI:=[oM 7 0,
 oN 8 7,
 oF 9 3 8,
 oF 10 3 9,
 oL 11 10,
 oO 12 (.len false (.t 11)),
 oC 13 (.i .i64 0)]
def r269_2:List AI:=[oB 14 .lss (.t 13) (.t 12)]
def r269_3:List AI:=[oM 15 13,
 oO 16 (.iaL 5 (.t 11) (.t 13)),
 oO 17 (.load 5 true (.t 16)),
 oO 4 (.alloc [.i .u8 0,.i .i64 0,.sl .full [],.sl .full [],.sl .full []]),
 oM 3 15,
 oS 5 4 17]
def r269_4:List AI:=[oM 19 0,
 oN 20 19,
 oF 21 0 20,
 oO 22 (.load 3 true (.t 21)),
 oM 23 3,
 oO 24 (.load 5 true (.t 4)),
 oO 25 (.call false 207 [(.t 22),(.t 23),(.t 24)]),
 oM 18 25,
 oE 26 0 18,
 oE 27 1 18,
 oM 5 26,
 oM 6 27]
def r269_5:List AI:=[oM 28 6,
 oB 29 .neq (.t 28) (.c (.i .i64 0))]
def r269_6:List AI:=[oM 30 6,
 oM 2 30]
def r269_7:List AI:=[oM 31 0,
 oM 32 5,
 oO 33 (.iaL 1 (.t 32) (.c (.i .i64 0))),
 oL 34 33,
 oO 35 (.call true 276 [(.t 31),(.t 34)])]
def r269_8:List AI:=[oB 36 .add (.t 13) (.c (.i .i64 1)),
 oM 13 36]
def r269_9:List AI:=[oC 2 (.i .i64 0)]
abbrev l269_0:AC:=(.seq (.reg 2 r269_2) (.seq (.cond (.t 14) .skip (.exit 0)) (.seq (.block 1 (.seq (.reg 3 r269_3) (.seq (.reg 4 r269_4) (.seq (.seq (.reg 5 r269_5) (.cond (.t 29) (.seq (.reg 6 r269_6) .ret) .skip)) (.reg 7 r269_7))))) (.reg 8 r269_8))))
abbrev c269_1:AC:=(.seq (.reg 9 r269_9) .ret)
abbrev b269:AC:=(.seq (.reg 0 r269_0) (.seq (.seq (.reg 1 r269_1) (.block 0 (.loop l269_0))) c269_1))
def pf269:AF:={ nt:=37,res:=[.tmp 2],body:=b269 }
abbrev H269 (d:Nat)(st0:St)(kp:Key)(vp:Nat)(Q:AE→Sl→St→Prop)(K:Int→Dsk→Prop):Prop:=∀(σ:Sl)(st:St)(res0:Int)(b_:Dsk),σ 2 = .i .i64 res0→Dk b_ st.bx st.ow kp vp→Fr d kp st0.bx st0.ow st.bx st.ow→K res0 b_→Q .ret σ st
abbrev I269_0 (prog:Prog)(d:Nat)(Q:AE→Sl→St→Prop)(st0:St)(kp:Key)(vp:Nat)(t11:List Rou)(t12:Int)(t13:Int)(mP:Dsk):Prop:=
  ∀(σ:Sl)(st:St)(o_t11:Own),σ 0 = .p kp vp 0→σ 11 = .sl o_t11 (List.map Rou.row t11)→σ 12 = .i .i64 t12→σ 13 = .i .i64 t13→Dk mP st.bx st.ow kp vp→Fr d kp st0.bx st0.ow st.bx st.ow→W prog d (.loop l269_0) σ st (blockW 0 (thenW prog d c269_1 Q))
def T269_2 (prog:Prog)(K:Int→Dsk→Prop)(mP:Dsk):Prop:=
  K 0 mP
def T269_1 (prog:Prog)(K:Int→Dsk→Prop)(P0:Int→Dsk→Prop)(t11:List Rou)(t12:Int)(t13:Int)(mP:Dsk):Prop:=
  (t13 < t12→0≤t13∧∃c'2:Rou,t11[(t13).toNat]? = some c'2∧∃r'4:List (List UInt8),∃r'5:Int,Pus prog 207 [mP.image.av,.i .i64 t13,c'2.av] (.tup [.sl .ext (List.map rowS r'4),.i .i64 r'5])∧(r'5≠0→K r'5 mP)∧(¬(r'5≠0)→∃c'8:List UInt8,r'4[0]? = some c'8∧∃b'15:Dsk,PuX prog 276 (Dk mP) [.s c'8] (fun r=>r = .tup []) ((Dk b'15))∧P0 (IntKind.i64.wrap (t13 + 1)) b'15))∧(¬(t13 < t12)→T269_2 prog K mP)
def T269_0 (prog:Prog)(K:Int→Dsk→Prop)(mP:Dsk):Prop:=
  ∀P0:Int→Dsk→Prop,(∀(t13:Int)(mP_b:Dsk),T269_1 prog K P0 mP.state.routines (mP.state.routines.length:Int) t13 mP_b→P0 t13 mP_b)→P0 0 mP
section
variable {prog:Prog}{d:Nat}{Q:AE→Sl→St→Prop}{K:Int→Dsk→Prop}{st0:St}{kp:Key}{vp:Nat}(hQ:H269 d st0 kp vp Q K)(hkp:kp.1 < d){σ:Sl}{st:St}
include hQ hkp
theorem w269_2 {mP:Dsk}(BP:Dk mP st.bx st.ow kp vp)(FR:Fr d kp st0.bx st0.ow st.bx st.ow)(h:T269_2 prog K mP):W prog d c269_1 σ st Q:=
 q_ rfl (m_ (e_ (rt_ (hQ _ _ _ _ rfl BP FR h))))
theorem w269_1 {t11:List Rou}{t12 t13:Int}{mP:Dsk}{P0:Int→Dsk→Prop} (kP0 :∀(t13:Int)(mP:Dsk),P0 t13 mP→I269_0 prog d Q st0 kp vp t11 t12 t13 mP){o_t11:Own}(H0:σ 0 = .p kp vp 0)(H11:σ 11 = .sl o_t11 (List.map Rou.row t11))(H12:σ 12 = .i .i64 t12)(H13:σ 13 = .i .i64 t13)(BP:Dk mP st.bx st.ow kp vp)(FR:Fr d kp st0.bx st0.ow st.bx st.ow)(h:T269_1 prog K P0 t11 t12 t13 mP):W prog d l269_0 σ st (thenW prog d (.loop l269_0) (blockW 0 (thenW prog d c269_1 Q))):=
 q_ rfl (b_ H13 H12 lss_ (e_ (sq_ (cs_ rfl (fun g'1=>sk_ (sq_ (bk_ (sq_ (W.reg (m_ ((h.1 g'1).2.elim fun c'2 e'3=>ia_ H11 H13 (h.1 g'1).1 e'3.1 (Rou.row_eq c'2) rfl (lf_ rfl rfl rfl (s_alloc (m_ (so_ rfl (show lk _ (d,12291) = some (_,([.i .u8 0,.i .i64 0,.sl .full (List.map Frm.row ([]:List Frm)),.sl .full (List.map Dfr.row ([]:List Dfr)),.sl .full (List.map Pan.row ([]:List Pan))]:List AV)) from lk_here) rfl rfl rfl (e_ (q_ rfl (m_ (s_nilP H0 (f_ rfl (s_loadD rfl (Dk.other (key_LP hkp) (Dk.other (key_LP hkp) BP)) rfl rfl (m_ (l_ rfl lk_here rfl rfl (e'3.2.elim fun r'4 e'16=>e'16.elim fun r'5 e'6=>ca_ (sc rfl rfl (sc H13 rfl (sc rfl rfl sn))) e'6.1 (m_ (x_ rfl rfl (x_ rfl rfl (s_mvL rfl (m_ (e_ (sq_ (q_ rfl (m_ (b_ rfl rfl neq_ (e_ (cs_ rfl (fun g'7=>q_ rfl (m_ (m_ (e_ (rt_ (hQ _ _ _ _ rfl (Dk.other (key_LP hkp) (Dk.other (key_LP hkp) BP)) (Fr.box (Fr.box FR)) (e'6.2.1 g'7))))))) (fun g'7=>sk_ (W.reg0 rfl fun _ _=>m_ (s_mvL rfl ((e'6.2.2 g'7).elim fun c'8 e'9=>ia_ rfl rfl (by decide) e'9.1 rfl rfl (lf_ rfl rfl rfl (e'9.2.elim fun b'15 e'11=>cX_ (sec H0 (sec rfl sen)) e'11.1 (Nat.lt_succ_of_lt hkp) (Dk.other (key_LP hkp) (Dk.other (key_LP hkp) BP)) (fun st'12 hb'13 hf'14=>e_ (W.reg0 rfl fun _ _=>b_ H13 rfl add_ (m_ (e_ (kP0 _ _ e'11.2 _ _ _ H0 H11 H12 rfl hb'13 (Fr.pass (Fr.box (Fr.box FR)) hf'14)))))))))))))))))))))))))))))))))))))))))))) (fun g'1=>ex_ (w269_2 hQ hkp BP FR (h.2 g'1)))))))
theorem w269_0 {mP:Dsk}(H0:σ 0 = .p kp vp 0)(BP:Dk mP st.bx st.ow kp vp)(FR:Fr d kp st0.bx st0.ow st.bx st.ow)(h:T269_0 prog K mP):W prog d (.seq (.reg 0 r269_0) (.seq (.seq (.reg 1 r269_1) (.block 0 (.loop l269_0))) c269_1)) σ st Q:=
 q_ rfl (m_ (e_ (sq_ (q_ rfl (m_ (s_nilP H0 (f_ rfl (f_ rfl (s_loadD rfl BP rfl rfl (ll_ rfl (m_ (e_ (bk_ (h (I269_0 prog d Q st0 kp vp mP.state.routines (mP.state.routines.length:Int)) (fun _ _ hb _ _ _ H0 H11 H12 H13 BP FR=>W.loop (w269_1 hQ hkp (fun _ _ x=>x) H0 H11 H12 H13 BP FR hb)) _ _ _ H0 rfl rfl rfl BP FR))))))))))))))
end
theorem p269 {prog:Prog}(hf:prog.fn 269 = some pf269){mP:Dsk}{K:Int→Dsk→Prop}(h:T269_0 prog K mP):PuXK prog 269 (Dk mP) [] (fun r (b_:Dsk)=>∃res0:Int,(r = .i .i64 res0)∧K res0 b_) (fun b_=>(Dk b_)):=
  PuXK.of hf rfl (fun _=>Dk.out) fun d st kp vp hkp hB=>w269_0 (st0:=st) (Q:=fun e σ st'=>(e = .normal∨e = .ret)∧∃r b_,ares σ st' pf269.res = some r∧_∧_∧Fr d kp st.bx st.ow st'.bx st'.ow) (fun σ st'   res0 b_ H2 hb hf hk=>⟨.inr rfl,.i .i64 res0,b_,by simp only [pf269,ares,aresL,H2,ares1,Option.map_some,H2],⟨res0,rfl,hk⟩,hb,hf⟩) hkp (σ:=sl0 [.p kp vp 0]) rfl hB Fr.refl h
def r275_0:List AI:=[oO 7 (.box 4 (.t 3)),
 oC 8 (.i .i64 0)]
def r275_1:List AI:=[oF 13 3 7,
 oL 14 13,
 oO 15 (.len false (.t 14)),
 oC 16 (.i .i64 0)]
def r275_2:List AI:=[oB 17 .lss (.t 16) (.t 15)]
def r275_3:List AI:=[oO 18 (.iaL 6 (.t 14) (.t 16)),
 oO 19 (.load 6 true (.t 18)),
 oO 10 (.alloc [.i .i64 0,.i .u8 0,.i .i64 0,.s [],.sl .full [],.b false]),
 oS 6 10 19]
def r275_4:List AI:=[oM 20 0,
 oN 21 20,
 oF 22 0 21,
 oF 23 2 22,
 oL 24 23,
 oF 25 0 7,
 oL 26 25,
 oO 27 (.iaL 7 (.t 24) (.t 26)),
 oF 28 3 27,
 oL 29 28,
 oF 30 0 10,
 oL 31 30,
 oO 32 (.iaL 2 (.t 29) (.t 31)),
 oF 33 0 32,
 oL 34 33,
 oM 35 0,
 oN 36 35,
 oF 37 7 36,
 oF 38 4 37,
 oL 39 38,
 oB 40 .neq (.t 34) (.t 39)]
def r275_5:List AI:=[oF 42 1 10,
 oO 43 (.load 5 true (.t 42)),
 oO 44 (.call false 72 [(.t 43)]),
 oM 41 44,
 oE 45 0 41,
 oE 46 1 41,
 oM 11 45,
 oM 12 46]
def r275_6:List AI:=[oM 47 12,
 oB 48 .neq (.t 47) (.c (.i .i64 0))]
def r275_7:List AI:=[oM 49 12,
 oM 8 49]
def r275_8:List AI:=[oM 50 0,
 oM 51 1,
 oO 52 (.call false 258 [(.t 51)]),
 oB 53 .add (.t 52) (.c (.s [32])),
 oM 54 2,
 oO 55 (.call false 258 [(.t 54)]),
 oB 56 .add (.t 53) (.t 55),
 oB 57 .add (.t 56) (.c (.s [32])),
 oF 58 0 10,
 oL 59 58,
 oO 60 (.call false 258 [(.t 59)]),
 oB 61 .add (.t 57) (.t 60),
 oB 62 .add (.t 61) (.c (.s [32,61,32])),
 oM 63 11,
 oB 64 .add (.t 62) (.t 63),
 oO 65 (.call true 276 [(.t 50),(.t 64)])]
def r275_9:List AI:=[oB 66 .add (.t 16) (.c (.i .i64 1)),
 oM 16 66]
def r275_10:List AI:=[oC 8 (.i .i64 0)]
abbrev c275_0:AC:=(.reg 9 r275_9)
abbrev l275_0:AC:=(.seq (.reg 2 r275_2) (.seq (.cond (.t 17) .skip (.exit 0)) (.seq (.block 1 (.seq (.reg 3 r275_3) (.seq (.seq (.reg 4 r275_4) (.cond (.t 40) (.exit 1) .skip)) (.seq (.reg 5 r275_5) (.seq (.seq (.reg 6 r275_6) (.cond (.t 48) (.seq (.reg 7 r275_7) .ret) .skip)) (.reg 8 r275_8)))))) c275_0)))
abbrev c275_2:AC:=(.seq (.reg 10 r275_10) .ret)
abbrev c275_3:AC:=(.seq (.seq (.reg 1 r275_1) (.block 0 (.loop l275_0))) c275_2)
abbrev b275:AC:=(.seq (.reg 0 r275_0) c275_3)
def pf275:AF:={ nt:=67,res:=[.tmp 8],body:=b275 }
abbrev H275 (d:Nat)(st0:St)(kp:Key)(vp:Nat)(Q:AE→Sl→St→Prop)(K:Int→Dsk→Prop):Prop:=∀(σ:Sl)(st:St)(res0:Int)(b_:Dsk),σ 8 = .i .i64 res0→Dk b_ st.bx st.ow kp vp→Fr d kp st0.bx st0.ow st.bx st.ow→K res0 b_→Q .ret σ st
abbrev I275_0 (prog:Prog)(d:Nat)(Q:AE→Sl→St→Prop)(st0:St)(kp:Key)(vp:Nat)(g1:Int)(k2:Int)(t14:List Loc)(t15:Int)(t16:Int)(m0:Frm)(mP:Dsk):Prop:=
  ∀(σ:Sl)(st:St)(o_t14:Own)(v0:Nat),σ 0 = .p kp vp 0→σ 1 = .i .i64 g1→σ 2 = .i .i64 k2→σ 7 = .p (d,0) v0 0→σ 14 = .sl o_t14 (List.map Loc.row t14)→σ 15 = .i .i64 t15→σ 16 = .i .i64 t16→lk st.bx (d,0) = some (v0,[.i .i64 m0.func,.i .i64 m0.pos,.i .u64 m0.mode,.sl .ext (List.map Loc.row m0.locals)])→Dk mP st.bx st.ow kp vp→Fr d kp st0.bx st0.ow st.bx st.ow→W prog d (.loop l275_0) σ st (blockW 0 (thenW prog d c275_2 Q))
def T275_3 (prog:Prog)(K:Int→Dsk→Prop)(P0:Int→Frm→Dsk→Prop)(g1:Int)(k2:Int)(t14:List Loc)(t15:Int)(t16:Int)(m0:Frm)(mP:Dsk):Prop:=
  P0 (IntKind.i64.wrap (t16 + 1)) m0 mP
def T275_4 (prog:Prog)(K:Int→Dsk→Prop)(mP:Dsk):Prop:=
  K 0 mP
def T275_2 (prog:Prog)(K:Int→Dsk→Prop)(P0:Int→Frm→Dsk→Prop)(g1:Int)(k2:Int)(t14:List Loc)(t15:Int)(t16:Int)(m0:Frm)(mP:Dsk):Prop:=
  (t16 < t15→0≤t16∧∃c'2:Loc,t14[(t16).toNat]? = some c'2∧0≤m0.func∧∃c'4:Fun,mP.image.funcs[(m0.func).toNat]? = some c'4∧0≤c'2.slot∧∃c'6:Fld,c'4.slots[(c'2.slot).toNat]? = some c'6∧(c'6.name≠mP.query.name→T275_3 prog K P0 g1 k2 t14 t15 t16 m0 mP)∧(¬(c'6.name≠mP.query.name)→∃r'9:List UInt8,∃r'10:Int,Pus prog 72 [c'2.value.av] (.tup [.s r'9,.i .i64 r'10])∧(r'10≠0→K r'10 mP)∧(¬(r'10≠0)→∃r'13:List UInt8,Pus prog 258 [.i .i64 g1] (.s r'13)∧r'13.length + ([32]:List UInt8).length≤maxStr∧∃r'15:List UInt8,Pus prog 258 [.i .i64 k2] (.s r'15)∧(r'13 ++ ([32]:List UInt8)).length + r'15.length≤maxStr∧((r'13 ++ ([32]:List UInt8)) ++ r'15).length + ([32]:List UInt8).length≤maxStr∧∃r'17:List UInt8,Pus prog 258 [.i .i64 c'2.slot] (.s r'17)∧(((r'13 ++ ([32]:List UInt8)) ++ r'15) ++ ([32]:List UInt8)).length + r'17.length≤maxStr∧((((r'13 ++ ([32]:List UInt8)) ++ r'15) ++ ([32]:List UInt8)) ++ r'17).length + ([32,61,32]:List UInt8).length≤maxStr∧(((((r'13 ++ ([32]:List UInt8)) ++ r'15) ++ ([32]:List UInt8)) ++ r'17) ++ ([32,61,32]:List UInt8)).length + r'9.length≤maxStr∧∃b'24:Dsk,PuX prog 276 (Dk mP) [.s ((((((r'13 ++ ([32]:List UInt8)) ++ r'15) ++ ([32]:List UInt8)) ++ r'17) ++ ([32,61,32]:List UInt8)) ++ r'9)] (fun r=>r = .tup []) ((Dk b'24))∧T275_3 prog K P0 g1 k2 t14 t15 t16 m0 b'24)))∧(¬(t16 < t15)→T275_4 prog K mP)
def T275_1 (prog:Prog)(K:Int→Dsk→Prop)(g1:Int)(k2:Int)(m0:Frm)(mP:Dsk):Prop:=
  ∀P0:Int→Frm→Dsk→Prop,(∀(t16:Int)(m0_b:Frm)(mP:Dsk),T275_2 prog K P0 g1 k2 m0.locals (m0.locals.length:Int) t16 m0_b mP→P0 t16 m0_b mP)→P0 0 m0 mP
def T275_0 (prog:Prog)(K:Int→Dsk→Prop)(g1:Int)(k2:Int)(x3:Frm)(mP:Dsk):Prop:=
  T275_1 prog K g1 k2 x3 mP
section
variable {prog:Prog}{d:Nat}{Q:AE→Sl→St→Prop}{K:Int→Dsk→Prop}{st0:St}{kp:Key}{vp:Nat}(hQ:H275 d st0 kp vp Q K)(hkp:kp.1 < d){σ:Sl}{st:St}
include hQ hkp
theorem w275_3 {g1 k2:Int}{t14:List Loc}{t15 t16:Int}{m0:Frm}{mP:Dsk}{P0:Int→Frm→Dsk→Prop} (kP0 :∀(t16:Int)(m0:Frm)(mP:Dsk),P0 t16 m0 mP→I275_0 prog d Q st0 kp vp g1 k2 t14 t15 t16 m0 mP){o_t14:Own}{v0:Nat}(H0:σ 0 = .p kp vp 0)(H1:σ 1 = .i .i64 g1)(H2:σ 2 = .i .i64 k2)(H7:σ 7 = .p (d,0) v0 0)(H14:σ 14 = .sl o_t14 (List.map Loc.row t14))(H15:σ 15 = .i .i64 t15)(H16:σ 16 = .i .i64 t16)(B0:lk st.bx (d,0) = some (v0,[.i .i64 m0.func,.i .i64 m0.pos,.i .u64 m0.mode,.sl .ext (List.map Loc.row m0.locals)]))(BP:Dk mP st.bx st.ow kp vp)(FR:Fr d kp st0.bx st0.ow st.bx st.ow)(h:T275_3 prog K P0 g1 k2 t14 t15 t16 m0 mP):W prog d c275_0 σ st (thenW prog d (.loop l275_0) (blockW 0 (thenW prog d c275_2 Q))):=
 W.reg0 rfl fun _ _=>b_ H16 rfl add_ (m_ (e_ (kP0 _ _ _ h _ _ _ _ H0 H1 H2 H7 H14 H15 rfl B0 BP FR)))
theorem w275_4 {mP:Dsk}(BP:Dk mP st.bx st.ow kp vp)(FR:Fr d kp st0.bx st0.ow st.bx st.ow)(h:T275_4 prog K mP):W prog d c275_2 σ st Q:=
 q_ rfl (m_ (e_ (rt_ (hQ _ _ _ _ rfl BP FR h))))
theorem w275_2 {g1 k2:Int}{t14:List Loc}{t15 t16:Int}{m0:Frm}{mP:Dsk}{P0:Int→Frm→Dsk→Prop} (kP0 :∀(t16:Int)(m0:Frm)(mP:Dsk),P0 t16 m0 mP→I275_0 prog d Q st0 kp vp g1 k2 t14 t15 t16 m0 mP){o_t14:Own}{v0:Nat}(H0:σ 0 = .p kp vp 0)(H1:σ 1 = .i .i64 g1)(H2:σ 2 = .i .i64 k2)(H7:σ 7 = .p (d,0) v0 0)(H14:σ 14 = .sl o_t14 (List.map Loc.row t14))(H15:σ 15 = .i .i64 t15)(H16:σ 16 = .i .i64 t16)(B0:lk st.bx (d,0) = some (v0,[.i .i64 m0.func,.i .i64 m0.pos,.i .u64 m0.mode,.sl .ext (List.map Loc.row m0.locals)]))(BP:Dk mP st.bx st.ow kp vp)(FR:Fr d kp st0.bx st0.ow st.bx st.ow)(h:T275_2 prog K P0 g1 k2 t14 t15 t16 m0 mP):W prog d l275_0 σ st (thenW prog d (.loop l275_0) (blockW 0 (thenW prog d c275_2 Q))):=
 q_ rfl (b_ H16 H15 lss_ (e_ (sq_ (cs_ rfl (fun g'1=>sk_ (sq_ (bk_ (sq_ (W.reg ((h.1 g'1).2.elim fun c'2 e'3=>ia_ H14 H16 (h.1 g'1).1 e'3.1 (Loc.row_eq c'2) rfl (lf_ rfl rfl rfl (s_alloc (so_ rfl (show lk _ (d,12290) = some (_,([.i .i64 0,.i .u8 0,.i .i64 0,.s [],.sl .full (List.map Val.row ([]:List Val)),.b false]:List AV)) from lk_here) rfl rfl rfl (e_ (sq_ (q_ rfl (m_ (s_nilP H0 (f_ rfl (f_ rfl (s_loadD rfl (Dk.other (key_LP hkp) (Dk.other (key_LP hkp) BP)) rfl rfl (f_ H7 (l_ rfl (lk_other rfl (lk_other rfl B0)) rfl rfl (e'3.2.2.elim fun c'4 e'5=>ia_ rfl rfl e'3.2.1 e'5.1 (Fun.row_eq c'4) rfl (ff_ rfl (lf_ rfl rfl rfl (f_ rfl (l_ rfl lk_here rfl rfl (e'5.2.2.elim fun c'6 e'7=>ia_ rfl rfl e'5.2.1 e'7.1 (Fld.row_eq c'6) rfl (ff_ rfl (lf_ rfl rfl rfl (m_ (s_nilP H0 (f_ rfl (f_ rfl (s_loadD rfl (Dk.other (key_LP hkp) (Dk.other (key_LP hkp) BP)) rfl rfl (b_ rfl rfl sne_ (e_ (cs_ rfl (fun g'8=>ex_ (w275_3 hQ hkp kP0 H0 H1 H2 H7 H14 H15 H16 (lk_other rfl (lk_other rfl B0)) (Dk.other (key_LP hkp) (Dk.other (key_LP hkp) BP)) (Fr.box (Fr.box FR)) (e'7.2.1 g'8))) (fun g'8=>sk_ (q_ rfl (f_ rfl (l_ rfl lk_here rfl rfl ((e'7.2.2 g'8).elim fun r'9 e'25=>e'25.elim fun r'10 e'11=>ca_ (sc rfl rfl sn) e'11.1 (m_ (x_ rfl rfl (x_ rfl rfl (m_ (m_ (e_ (sq_ (q_ rfl (m_ (b_ rfl rfl neq_ (e_ (cs_ rfl (fun g'12=>q_ rfl (m_ (m_ (e_ (rt_ (hQ _ _ _ _ rfl (Dk.other (key_LP hkp) (Dk.other (key_LP hkp) BP)) (Fr.box (Fr.box FR)) (e'11.2.1 g'12))))))) (fun g'12=>sk_ (W.reg0 rfl fun _ _=>m_ (m_ ((e'11.2.2 g'12).elim fun r'13 e'14=>ca_ (sc H1 rfl sn) e'14.1 (b_ rfl rfl (abin_cat' e'14.2.1) (m_ (e'14.2.2.elim fun r'15 e'16=>ca_ (sc H2 rfl sn) e'16.1 (b_ rfl rfl (abin_cat' e'16.2.1) (b_ rfl rfl (abin_cat' e'16.2.2.1) (f_ rfl (l_ rfl lk_here rfl rfl (e'16.2.2.2.elim fun r'17 e'18=>ca_ (sc rfl rfl sn) e'18.1 (b_ rfl rfl (abin_cat' e'18.2.1) (b_ rfl rfl (abin_cat' e'18.2.2.1) (m_ (b_ rfl rfl (abin_cat' e'18.2.2.2.1) (e'18.2.2.2.2.elim fun b'24 e'20=>cX_ (sec H0 (sec rfl sen)) e'20.1 (Nat.lt_succ_of_lt hkp) (Dk.other (key_LP hkp) (Dk.other (key_LP hkp) BP)) (fun st'21 hb'22 hf'23=>e_ (w275_3 hQ hkp kP0 H0 H1 H2 H7 H14 H15 H16 ((hf'23.1 (d,0) (Nat.lt_succ_self d) (key_LP hkp)).trans (lk_other rfl (lk_other rfl B0))) hb'22 (Fr.pass (Fr.box (Fr.box FR)) hf'23) e'20.2))))))))))))))))))))))))))))))))))))))))))))))))))))))))))))))))))))))) (fun g'1=>ex_ (w275_4 hQ hkp BP FR (h.2 g'1)))))))
theorem w275_1 {g1 k2:Int}{m0:Frm}{mP:Dsk}{v0:Nat}(H0:σ 0 = .p kp vp 0)(H1:σ 1 = .i .i64 g1)(H2:σ 2 = .i .i64 k2)(H7:σ 7 = .p (d,0) v0 0)(B0:lk st.bx (d,0) = some (v0,[.i .i64 m0.func,.i .i64 m0.pos,.i .u64 m0.mode,.sl .ext (List.map Loc.row m0.locals)]))(BP:Dk mP st.bx st.ow kp vp)(FR:Fr d kp st0.bx st0.ow st.bx st.ow)(h:T275_1 prog K g1 k2 m0 mP):W prog d c275_3 σ st Q:=
 sq_ (q_ rfl (f_ H7 (l_ rfl B0 rfl rfl (ll_ rfl (m_ (e_ (bk_ (h (I275_0 prog d Q st0 kp vp g1 k2 m0.locals (m0.locals.length:Int)) (fun _ _ _ hb _ _ _ _ H0 H1 H2 H7 H14 H15 H16 B0 BP FR=>W.loop (w275_2 hQ hkp (fun _ _ _ x=>x) H0 H1 H2 H7 H14 H15 H16 B0 BP FR hb)) _ _ _ _ H0 H1 H2 H7 rfl rfl rfl B0 BP FR))))))))
theorem w275_0 {g1 k2:Int}{x3:Frm}{mP:Dsk}(H0:σ 0 = .p kp vp 0)(H1:σ 1 = .i .i64 g1)(H2:σ 2 = .i .i64 k2)(H3:σ 3 = x3.av)(BP:Dk mP st.bx st.ow kp vp)(FR:Fr d kp st0.bx st0.ow st.bx st.ow)(h:T275_0 prog K g1 k2 x3 mP):W prog d (.seq (.reg 0 r275_0) c275_3) σ st Q:=
 q_ rfl (s_box H3 rfl (m_ (e_ (w275_1 hQ hkp H0 H1 H2 rfl lk_here (Dk.other (key_LP hkp) BP) (Fr.box FR) h))))
end
theorem p275 {prog:Prog}(hf:prog.fn 275 = some pf275){g1:Int}{k2:Int}{x3:Frm}{mP:Dsk}{K:Int→Dsk→Prop}(h:T275_0 prog K g1 k2 x3 mP):PuXK prog 275 (Dk mP) [.i .i64 g1,.i .i64 k2,x3.av] (fun r (b_:Dsk)=>∃res0:Int,(r = .i .i64 res0)∧K res0 b_) (fun b_=>(Dk b_)):=
  PuXK.of hf rfl (fun _=>Dk.out) fun d st kp vp hkp hB=>w275_0 (st0:=st) (Q:=fun e σ st'=>(e = .normal∨e = .ret)∧∃r b_,ares σ st' pf275.res = some r∧_∧_∧Fr d kp st.bx st.ow st'.bx st'.ow) (fun σ st'   res0 b_ H8 hb hf hk=>⟨.inr rfl,.i .i64 res0,b_,by simp only [pf275,ares,aresL,H8,ares1,Option.map_some,H8],⟨res0,rfl,hk⟩,hb,hf⟩) hkp (σ:=sl0 [.p kp vp 0,.i .i64 g1,.i .i64 k2,x3.av]) rfl rfl rfl rfl hB Fr.refl h
end Go.AM

/- Parts of the proof. -/
namespace Go.AM
open Go
set_option linter.unusedVariables false
set_option linter.unusedSimpArgs false
set_option maxRecDepth 4000
attribute [local irreducible] WO fillCells fillRows
def r272_0:List AI:=[oC 4 (.i .i64 0)]
def r272_1:List AI:=[oM 10 0,
 oN 11 10,
 oF 12 3 11,
 oF 13 3 12,
 oL 14 13,
 oO 15 (.len false (.t 14)),
 oC 16 (.i .i64 0)]
def r272_2:List AI:=[oB 17 .lss (.t 16) (.t 15)]
def r272_3:List AI:=[oM 18 16,
 oO 19 (.iaL 5 (.t 14) (.t 16)),
 oO 20 (.load 5 true (.t 19)),
 oO 6 (.alloc [.i .u8 0,.i .i64 0,.sl .full [],.sl .full [],.sl .full []]),
 oM 5 18,
 oS 5 6 20]
def r272_4:List AI:=[oF 21 2 6,
 oL 22 21,
 oO 23 (.len false (.t 22)),
 oC 24 (.i .i64 0)]
def r272_5:List AI:=[oB 25 .lss (.t 24) (.t 23)]
def r272_6:List AI:=[oM 26 24,
 oO 27 (.iaL 4 (.t 22) (.t 24)),
 oO 28 (.load 4 true (.t 27)),
 oO 8 (.alloc [.i .i64 0,.i .i64 0,.i .u64 0,.sl .full []]),
 oM 7 26,
 oS 4 8 28]
def r272_7:List AI:=[oM 29 1,
 oM 30 5,
 oM 31 7,
 oO 32 (.load 4 true (.t 8)),
 oO 33 (.callv (.t 29) [(.t 30),(.t 31),(.t 32)]),
 oM 9 33]
def r272_8:List AI:=[oM 34 9,
 oB 35 .neq (.t 34) (.c (.i .i64 0))]
def r272_9:List AI:=[oM 36 9,
 oM 4 36]
def r272_10:List AI:=[oB 37 .add (.t 24) (.c (.i .i64 1)),
 oM 24 37]
def r272_11:List AI:=[oB 38 .add (.t 16) (.c (.i .i64 1)),
 oM 16 38]
def r272_12:List AI:=[oC 4 (.i .i64 0)]
abbrev l272_1:AC:=(.seq (.reg 5 r272_5) (.seq (.cond (.t 25) .skip (.exit 2)) (.seq (.block 3 (.seq (.reg 6 r272_6) (.seq (.reg 7 r272_7) (.seq (.reg 8 r272_8) (.cond (.t 35) (.seq (.reg 9 r272_9) .ret) .skip))))) (.reg 10 r272_10))))
abbrev c272_1:AC:=(.reg 11 r272_11)
abbrev l272_0:AC:=(.seq (.reg 2 r272_2) (.seq (.cond (.t 17) .skip (.exit 0)) (.seq (.block 1 (.seq (.reg 3 r272_3) (.seq (.reg 4 r272_4) (.block 2 (.loop l272_1))))) c272_1)))
abbrev c272_3:AC:=(.seq (.reg 12 r272_12) .ret)
abbrev b272:AC:=(.seq (.reg 0 r272_0) (.seq (.seq (.reg 1 r272_1) (.block 0 (.loop l272_0))) c272_3))
def pf272:AF:={ nt:=39,res:=[.tmp 4],body:=b272 }
abbrev H272 (d:Nat)(st0:St)(kp:Key)(vp:Nat)(Q:AE→Sl→St→Prop)(K:Int→Dsk→Prop):Prop:=∀(σ:Sl)(st:St)(res0:Int)(b_:Dsk),σ 4 = .i .i64 res0→Dk b_ st.bx st.ow kp vp→Fr d kp st0.bx st0.ow st.bx st.ow→K res0 b_→Q .ret σ st
abbrev I272_0 (prog:Prog)(d:Nat)(Q:AE→Sl→St→Prop)(st0:St)(kp:Key)(vp:Nat)(t14:List Rou)(t15:Int)(t16:Int)(mP:Dsk):Prop:=
  ∀(σ:Sl)(st:St)(o_t14:Own),σ 1 = .bf 273 [.p kp vp 0]→σ 14 = .sl o_t14 (List.map Rou.row t14)→σ 15 = .i .i64 t15→σ 16 = .i .i64 t16→Dk mP st.bx st.ow kp vp→Fr d kp st0.bx st0.ow st.bx st.ow→W prog d (.loop l272_0) σ st (blockW 0 (thenW prog d c272_3 Q))
abbrev I272_1 (prog:Prog)(d:Nat)(Q:AE→Sl→St→Prop)(st0:St)(kp:Key)(vp:Nat)(g5:Int)(t14:List Rou)(t15:Int)(t16:Int)(t22:List Frm)(t23:Int)(t24:Int)(mP:Dsk):Prop:=
  ∀(σ:Sl)(st:St) (o_t14 o_t22:Own),σ 1 = .bf 273 [.p kp vp 0]→σ 5 = .i .i64 g5→σ 14 = .sl o_t14 (List.map Rou.row t14)→σ 15 = .i .i64 t15→σ 16 = .i .i64 t16→σ 22 = .sl o_t22 (List.map Frm.row t22)→σ 23 = .i .i64 t23→σ 24 = .i .i64 t24→Dk mP st.bx st.ow kp vp→Fr d kp st0.bx st0.ow st.bx st.ow→W prog d (.loop l272_1) σ st (blockW 2 (blockW 1 (thenW prog d c272_1 (thenW prog d (.loop l272_0) (blockW 0 (thenW prog d c272_3 Q))))))
def T272_3 (prog:Prog)(K:Int→Dsk→Prop)(P0:Int→Dsk→Prop)(t14:List Rou)(t15:Int)(t16:Int)(mP:Dsk):Prop:=
  P0 (IntKind.i64.wrap (t16 + 1)) mP
def T272_2 (prog:Prog)(K:Int→Dsk→Prop)(P1:Int→Dsk→Prop)(P0:Int→Dsk→Prop)(g5:Int)(t14:List Rou)(t15:Int)(t16:Int)(t22:List Frm)(t23:Int)(t24:Int)(mP:Dsk):Prop:=
  (t24 < t23→0≤t24∧∃c'2:Frm,t22[(t24).toNat]? = some c'2∧∃r'4:Int,∃b'10:Dsk,PuX prog 273 (Dk mP) [.i .i64 g5,.i .i64 t24,c'2.av] (fun r=>r = .i .i64 r'4) ((Dk b'10))∧(r'4≠0→K r'4 b'10)∧(¬(r'4≠0)→P1 (IntKind.i64.wrap (t24 + 1)) b'10))∧(¬(t24 < t23)→T272_3 prog K P0 t14 t15 t16 mP)
def T272_4 (prog:Prog)(K:Int→Dsk→Prop)(mP:Dsk):Prop:=
  K 0 mP
def T272_1 (prog:Prog)(K:Int→Dsk→Prop)(P0:Int→Dsk→Prop)(t14:List Rou)(t15:Int)(t16:Int)(mP:Dsk):Prop:=
  (t16 < t15→0≤t16∧∃c'2:Rou,t14[(t16).toNat]? = some c'2∧∀P1:Int→Dsk→Prop,(∀(t24:Int)(mP:Dsk),T272_2 prog K P1 P0 t16 t14 t15 t16 c'2.frames (c'2.frames.length:Int) t24 mP→P1 t24 mP)→P1 0 mP)∧(¬(t16 < t15)→T272_4 prog K mP)
def T272_0 (prog:Prog)(K:Int→Dsk→Prop)(mP:Dsk):Prop:=
  ∀P0:Int→Dsk→Prop,(∀(t16:Int)(mP_b:Dsk),T272_1 prog K P0 mP.state.routines (mP.state.routines.length:Int) t16 mP_b→P0 t16 mP_b)→P0 0 mP
section
variable {prog:Prog}{d:Nat}{Q:AE→Sl→St→Prop}{K:Int→Dsk→Prop}{st0:St}{kp:Key}{vp:Nat}(hQ:H272 d st0 kp vp Q K)(hkp:kp.1 < d){σ:Sl}{st:St}
include hQ hkp
theorem w272_3 {t14:List Rou}{t15 t16:Int}{mP:Dsk}{P0:Int→Dsk→Prop} (kP0 :∀(t16:Int)(mP:Dsk),P0 t16 mP→I272_0 prog d Q st0 kp vp t14 t15 t16 mP){o_t14:Own}(H1:σ 1 = .bf 273 [.p kp vp 0])(H14:σ 14 = .sl o_t14 (List.map Rou.row t14))(H15:σ 15 = .i .i64 t15)(H16:σ 16 = .i .i64 t16)(BP:Dk mP st.bx st.ow kp vp)(FR:Fr d kp st0.bx st0.ow st.bx st.ow)(h:T272_3 prog K P0 t14 t15 t16 mP):W prog d c272_1 σ st (thenW prog d (.loop l272_0) (blockW 0 (thenW prog d c272_3 Q))):=
 W.reg0 rfl fun _ _=>b_ H16 rfl add_ (m_ (e_ (kP0 _ _ h _ _ _ H1 H14 H15 rfl BP FR)))
theorem w272_2 {g5:Int}{t14:List Rou}{t15 t16:Int}{t22:List Frm}{t23 t24:Int}{mP:Dsk}{P1:Int→Dsk→Prop}{P0:Int→Dsk→Prop} (kP1 :∀(t24:Int)(mP:Dsk),P1 t24 mP→I272_1 prog d Q st0 kp vp g5 t14 t15 t16 t22 t23 t24 mP) (kP0 :∀(t16:Int)(mP:Dsk),P0 t16 mP→I272_0 prog d Q st0 kp vp t14 t15 t16 mP){o_t14 o_t22:Own}(H1:σ 1 = .bf 273 [.p kp vp 0])(H5:σ 5 = .i .i64 g5)(H14:σ 14 = .sl o_t14 (List.map Rou.row t14))(H15:σ 15 = .i .i64 t15)(H16:σ 16 = .i .i64 t16)(H22:σ 22 = .sl o_t22 (List.map Frm.row t22))(H23:σ 23 = .i .i64 t23)(H24:σ 24 = .i .i64 t24)(BP:Dk mP st.bx st.ow kp vp)(FR:Fr d kp st0.bx st0.ow st.bx st.ow)(h:T272_2 prog K P1 P0 g5 t14 t15 t16 t22 t23 t24 mP):W prog d l272_1 σ st (thenW prog d (.loop l272_1) (blockW 2 (blockW 1 (thenW prog d c272_1 (thenW prog d (.loop l272_0) (blockW 0 (thenW prog d c272_3 Q))))))):=
 q_ rfl (b_ H24 H23 lss_ (e_ (sq_ (cs_ rfl (fun g'1=>sk_ (sq_ (bk_ (sq_ (W.reg (m_ ((h.1 g'1).2.elim fun c'2 e'3=>ia_ H22 H24 (h.1 g'1).1 e'3.1 (Frm.row_eq c'2) rfl (lf_ rfl rfl rfl (s_alloc (m_ (so_ rfl (show lk _ (d,24579) = some (_,([.i .i64 0,.i .i64 0,.i .u64 0,.sl .full (List.map Loc.row ([]:List Loc))]:List AV)) from lk_here) rfl rfl rfl (e_ (q_ rfl (m_ (m_ (m_ (l_ rfl lk_here rfl rfl (e'3.2.elim fun r'4 e'12=>e'12.elim fun b'10 e'6=>s_callB H1 (sec H5 (sec H24 (sec rfl sen))) e'6.1 (Nat.lt_succ_of_lt hkp) (Dk.other (key_LP hkp) (Dk.other (key_LP hkp) BP)) (fun st'7 hb'8 hf'9=>m_ (e_ (q_ rfl (m_ (b_ rfl rfl neq_ (e_ (cs_ rfl (fun g'11=>q_ rfl (m_ (m_ (e_ (rt_ (hQ _ _ _ _ rfl hb'8 (Fr.pass (Fr.box (Fr.box FR)) hf'9) (e'6.2.1 g'11))))))) (fun g'11=>sk_ (W.reg0 rfl fun _ _=>b_ H24 rfl add_ (m_ (e_ (kP1 _ _ (e'6.2.2 g'11) _ _ _ _ H1 H5 H14 H15 H16 H22 H23 rfl hb'8 (Fr.pass (Fr.box (Fr.box FR)) hf'9))))))))))))))))))))))))))))))) (fun g'1=>ex_ (w272_3 hQ hkp kP0 H1 H14 H15 H16 BP FR (h.2 g'1)))))))
theorem w272_4 {mP:Dsk}(BP:Dk mP st.bx st.ow kp vp)(FR:Fr d kp st0.bx st0.ow st.bx st.ow)(h:T272_4 prog K mP):W prog d c272_3 σ st Q:=
 q_ rfl (m_ (e_ (rt_ (hQ _ _ _ _ rfl BP FR h))))
theorem w272_1 {t14:List Rou}{t15 t16:Int}{mP:Dsk}{P0:Int→Dsk→Prop} (kP0 :∀(t16:Int)(mP:Dsk),P0 t16 mP→I272_0 prog d Q st0 kp vp t14 t15 t16 mP){o_t14:Own}(H1:σ 1 = .bf 273 [.p kp vp 0])(H14:σ 14 = .sl o_t14 (List.map Rou.row t14))(H15:σ 15 = .i .i64 t15)(H16:σ 16 = .i .i64 t16)(BP:Dk mP st.bx st.ow kp vp)(FR:Fr d kp st0.bx st0.ow st.bx st.ow)(h:T272_1 prog K P0 t14 t15 t16 mP):W prog d l272_0 σ st (thenW prog d (.loop l272_0) (blockW 0 (thenW prog d c272_3 Q))):=
 q_ rfl (b_ H16 H15 lss_ (e_ (sq_ (cs_ rfl (fun g'1=>sk_ (sq_ (bk_ (sq_ (W.reg (m_ ((h.1 g'1).2.elim fun c'2 e'3=>ia_ H14 H16 (h.1 g'1).1 e'3.1 (Rou.row_eq c'2) rfl (lf_ rfl rfl rfl (s_alloc (m_ (so_ rfl (show lk _ (d,12291) = some (_,([.i .u8 0,.i .i64 0,.sl .full (List.map Frm.row ([]:List Frm)),.sl .full (List.map Dfr.row ([]:List Dfr)),.sl .full (List.map Pan.row ([]:List Pan))]:List AV)) from lk_here) rfl rfl rfl (e_ (q_ rfl (f_ rfl (l_ rfl lk_here rfl rfl (ll_ rfl (m_ (e_ (bk_ (e'3.2 (I272_1 prog d Q st0 kp vp t16 t14 t15 t16 c'2.frames (c'2.frames.length:Int)) (fun _ _ hb _ _ _ _ H1 H5 H14 H15 H16 H22 H23 H24 BP FR=>W.loop (w272_2 hQ hkp (fun _ _ x=>x) kP0 H1 H5 H14 H15 H16 H22 H23 H24 BP FR hb)) _ _ _ _ H1 H16 H14 H15 H16 rfl rfl rfl (Dk.other (key_LP hkp) (Dk.other (key_LP hkp) BP)) (Fr.box (Fr.box FR)))))))))))))))))))))) (fun g'1=>ex_ (w272_4 hQ hkp BP FR (h.2 g'1)))))))
theorem w272_0 {mP:Dsk}(H0:σ 0 = .p kp vp 0)(H1:σ 1 = .bf 273 [.p kp vp 0])(BP:Dk mP st.bx st.ow kp vp)(FR:Fr d kp st0.bx st0.ow st.bx st.ow)(h:T272_0 prog K mP):W prog d (.seq (.reg 0 r272_0) (.seq (.seq (.reg 1 r272_1) (.block 0 (.loop l272_0))) c272_3)) σ st Q:=
 q_ rfl (m_ (e_ (sq_ (q_ rfl (m_ (s_nilP H0 (f_ rfl (f_ rfl (s_loadD rfl BP rfl rfl (ll_ rfl (m_ (e_ (bk_ (h (I272_0 prog d Q st0 kp vp mP.state.routines (mP.state.routines.length:Int)) (fun _ _ hb _ _ _ H1 H14 H15 H16 BP FR=>W.loop (w272_1 hQ hkp (fun _ _ x=>x) H1 H14 H15 H16 BP FR hb)) _ _ _ H1 rfl rfl rfl BP FR))))))))))))))
end
theorem p272 {prog:Prog}(hf:prog.fn 272 = some pf272){mP:Dsk}{K:Int→Dsk→Prop}(h:T272_0 prog K mP):PuXFK prog 272 (Dk mP) (fun kp vp=>[.bf 273 [.p kp vp 0]]) (fun r (b_:Dsk)=>∃res0:Int,(r = .i .i64 res0)∧K res0 b_) (fun b_=>(Dk b_)):=
  PuXFK.of hf (fun _ _=>rfl) (fun _=>Dk.out) fun d st kp vp hkp hB=>w272_0 (st0:=st) (Q:=fun e σ st'=>(e = .normal∨e = .ret)∧∃r b_,ares σ st' pf272.res = some r∧_∧_∧Fr d kp st.bx st.ow st'.bx st'.ow) (fun σ st'   res0 b_ H4 hb hf hk=>⟨.inr rfl,.i .i64 res0,b_,by simp only [pf272,ares,aresL,H4,ares1,Option.map_some,H4],⟨res0,rfl,hk⟩,hb,hf⟩) hkp (σ:=sl0 [.p kp vp 0,.bf 273 [.p kp vp 0]]) rfl rfl hB Fr.refl h
end Go.AM

/- Parts of the proof. -/
namespace Go.AM.SlotV
open Go
set_option linter.unusedVariables false
set_option linter.unusedSimpArgs false
set_option maxRecDepth 4000
attribute [local irreducible] WO fillCells fillRows
def r272_0:List AI:=[oC 4 (.i .i64 0)]
def r272_1:List AI:=[oM 10 0,
 oN 11 10,
 oF 12 3 11,
 oF 13 3 12,
 oL 14 13,
 oO 15 (.len false (.t 14)),
 oC 16 (.i .i64 0)]
def r272_2:List AI:=[oB 17 .lss (.t 16) (.t 15)]
def r272_3:List AI:=[oM 18 16,
 oO 19 (.iaL 5 (.t 14) (.t 16)),
 oO 20 (.load 5 true (.t 19)),
 oO 6 (.alloc [.i .u8 0,.i .i64 0,.sl .full [],.sl .full [],.sl .full []]),
 oM 5 18,
 oS 5 6 20]
def r272_4:List AI:=[oF 21 2 6,
 oL 22 21,
 oO 23 (.len false (.t 22)),
 oC 24 (.i .i64 0)]
def r272_5:List AI:=[oB 25 .lss (.t 24) (.t 23)]
def r272_6:List AI:=[oM 26 24,
 oO 27 (.iaL 4 (.t 22) (.t 24)),
 oO 28 (.load 4 true (.t 27)),
 oO 8 (.alloc [.i .i64 0,.i .i64 0,.i .u64 0,.sl .full []]),
 oM 7 26,
 oS 4 8 28]
def r272_7:List AI:=[oM 29 1,
 oM 30 5,
 oM 31 7,
 oO 32 (.load 4 true (.t 8)),
 oO 33 (.callv (.t 29) [(.t 30),(.t 31),(.t 32)]),
 oM 9 33]
def r272_8:List AI:=[oM 34 9,
 oB 35 .neq (.t 34) (.c (.i .i64 0))]
def r272_9:List AI:=[oM 36 9,
 oM 4 36]
def r272_10:List AI:=[oB 37 .add (.t 24) (.c (.i .i64 1)),
 oM 24 37]
def r272_11:List AI:=[oB 38 .add (.t 16) (.c (.i .i64 1)),
 oM 16 38]
def r272_12:List AI:=[oC 4 (.i .i64 0)]
abbrev l272_1:AC:=(.seq (.reg 5 r272_5) (.seq (.cond (.t 25) .skip (.exit 2)) (.seq (.block 3 (.seq (.reg 6 r272_6) (.seq (.reg 7 r272_7) (.seq (.reg 8 r272_8) (.cond (.t 35) (.seq (.reg 9 r272_9) .ret) .skip))))) (.reg 10 r272_10))))
abbrev c272_1:AC:=(.reg 11 r272_11)
abbrev l272_0:AC:=(.seq (.reg 2 r272_2) (.seq (.cond (.t 17) .skip (.exit 0)) (.seq (.block 1 (.seq (.reg 3 r272_3) (.seq (.reg 4 r272_4) (.block 2 (.loop l272_1))))) c272_1)))
abbrev c272_3:AC:=(.seq (.reg 12 r272_12) .ret)
abbrev b272:AC:=(.seq (.reg 0 r272_0) (.seq (.seq (.reg 1 r272_1) (.block 0 (.loop l272_0))) c272_3))
def pf272:AF:={ nt:=39,res:=[.tmp 4],body:=b272 }
abbrev H272 (d:Nat)(st0:St)(kp:Key)(vp:Nat)(Q:AE→Sl→St→Prop)(K:Int→Dsk→Prop):Prop:=∀(σ:Sl)(st:St)(res0:Int)(b_:Dsk),σ 4 = .i .i64 res0→Dk b_ st.bx st.ow kp vp→Fr d kp st0.bx st0.ow st.bx st.ow→K res0 b_→Q .ret σ st
abbrev I272_0 (prog:Prog)(d:Nat)(Q:AE→Sl→St→Prop)(st0:St)(kp:Key)(vp:Nat)(t14:List Rou)(t15:Int)(t16:Int)(mP:Dsk):Prop:=
  ∀(σ:Sl)(st:St)(o_t14:Own),σ 1 = .bf 275 [.p kp vp 0]→σ 14 = .sl o_t14 (List.map Rou.row t14)→σ 15 = .i .i64 t15→σ 16 = .i .i64 t16→Dk mP st.bx st.ow kp vp→Fr d kp st0.bx st0.ow st.bx st.ow→W prog d (.loop l272_0) σ st (blockW 0 (thenW prog d c272_3 Q))
abbrev I272_1 (prog:Prog)(d:Nat)(Q:AE→Sl→St→Prop)(st0:St)(kp:Key)(vp:Nat)(g5:Int)(t14:List Rou)(t15:Int)(t16:Int)(t22:List Frm)(t23:Int)(t24:Int)(mP:Dsk):Prop:=
  ∀(σ:Sl)(st:St) (o_t14 o_t22:Own),σ 1 = .bf 275 [.p kp vp 0]→σ 5 = .i .i64 g5→σ 14 = .sl o_t14 (List.map Rou.row t14)→σ 15 = .i .i64 t15→σ 16 = .i .i64 t16→σ 22 = .sl o_t22 (List.map Frm.row t22)→σ 23 = .i .i64 t23→σ 24 = .i .i64 t24→Dk mP st.bx st.ow kp vp→Fr d kp st0.bx st0.ow st.bx st.ow→W prog d (.loop l272_1) σ st (blockW 2 (blockW 1 (thenW prog d c272_1 (thenW prog d (.loop l272_0) (blockW 0 (thenW prog d c272_3 Q))))))
def T272_3 (prog:Prog)(K:Int→Dsk→Prop)(P0:Int→Dsk→Prop)(t14:List Rou)(t15:Int)(t16:Int)(mP:Dsk):Prop:=
  P0 (IntKind.i64.wrap (t16 + 1)) mP
def T272_2 (prog:Prog)(K:Int→Dsk→Prop)(P1:Int→Dsk→Prop)(P0:Int→Dsk→Prop)(g5:Int)(t14:List Rou)(t15:Int)(t16:Int)(t22:List Frm)(t23:Int)(t24:Int)(mP:Dsk):Prop:=
  (t24 < t23→0≤t24∧∃c'2:Frm,t22[(t24).toNat]? = some c'2∧∃r'4:Int,∃b'10:Dsk,PuX prog 275 (Dk mP) [.i .i64 g5,.i .i64 t24,c'2.av] (fun r=>r = .i .i64 r'4) ((Dk b'10))∧(r'4≠0→K r'4 b'10)∧(¬(r'4≠0)→P1 (IntKind.i64.wrap (t24 + 1)) b'10))∧(¬(t24 < t23)→T272_3 prog K P0 t14 t15 t16 mP)
def T272_4 (prog:Prog)(K:Int→Dsk→Prop)(mP:Dsk):Prop:=
  K 0 mP
def T272_1 (prog:Prog)(K:Int→Dsk→Prop)(P0:Int→Dsk→Prop)(t14:List Rou)(t15:Int)(t16:Int)(mP:Dsk):Prop:=
  (t16 < t15→0≤t16∧∃c'2:Rou,t14[(t16).toNat]? = some c'2∧∀P1:Int→Dsk→Prop,(∀(t24:Int)(mP:Dsk),T272_2 prog K P1 P0 t16 t14 t15 t16 c'2.frames (c'2.frames.length:Int) t24 mP→P1 t24 mP)→P1 0 mP)∧(¬(t16 < t15)→T272_4 prog K mP)
def T272_0 (prog:Prog)(K:Int→Dsk→Prop)(mP:Dsk):Prop:=
  ∀P0:Int→Dsk→Prop,(∀(t16:Int)(mP_b:Dsk),T272_1 prog K P0 mP.state.routines (mP.state.routines.length:Int) t16 mP_b→P0 t16 mP_b)→P0 0 mP
section
variable {prog:Prog}{d:Nat}{Q:AE→Sl→St→Prop}{K:Int→Dsk→Prop}{st0:St}{kp:Key}{vp:Nat}(hQ:H272 d st0 kp vp Q K)(hkp:kp.1 < d){σ:Sl}{st:St}
include hQ hkp
theorem w272_3 {t14:List Rou}{t15 t16:Int}{mP:Dsk}{P0:Int→Dsk→Prop} (kP0 :∀(t16:Int)(mP:Dsk),P0 t16 mP→I272_0 prog d Q st0 kp vp t14 t15 t16 mP){o_t14:Own}(H1:σ 1 = .bf 275 [.p kp vp 0])(H14:σ 14 = .sl o_t14 (List.map Rou.row t14))(H15:σ 15 = .i .i64 t15)(H16:σ 16 = .i .i64 t16)(BP:Dk mP st.bx st.ow kp vp)(FR:Fr d kp st0.bx st0.ow st.bx st.ow)(h:T272_3 prog K P0 t14 t15 t16 mP):W prog d c272_1 σ st (thenW prog d (.loop l272_0) (blockW 0 (thenW prog d c272_3 Q))):=
 W.reg0 rfl fun _ _=>b_ H16 rfl add_ (m_ (e_ (kP0 _ _ h _ _ _ H1 H14 H15 rfl BP FR)))
theorem w272_2 {g5:Int}{t14:List Rou}{t15 t16:Int}{t22:List Frm}{t23 t24:Int}{mP:Dsk}{P1:Int→Dsk→Prop}{P0:Int→Dsk→Prop} (kP1 :∀(t24:Int)(mP:Dsk),P1 t24 mP→I272_1 prog d Q st0 kp vp g5 t14 t15 t16 t22 t23 t24 mP) (kP0 :∀(t16:Int)(mP:Dsk),P0 t16 mP→I272_0 prog d Q st0 kp vp t14 t15 t16 mP){o_t14 o_t22:Own}(H1:σ 1 = .bf 275 [.p kp vp 0])(H5:σ 5 = .i .i64 g5)(H14:σ 14 = .sl o_t14 (List.map Rou.row t14))(H15:σ 15 = .i .i64 t15)(H16:σ 16 = .i .i64 t16)(H22:σ 22 = .sl o_t22 (List.map Frm.row t22))(H23:σ 23 = .i .i64 t23)(H24:σ 24 = .i .i64 t24)(BP:Dk mP st.bx st.ow kp vp)(FR:Fr d kp st0.bx st0.ow st.bx st.ow)(h:T272_2 prog K P1 P0 g5 t14 t15 t16 t22 t23 t24 mP):W prog d l272_1 σ st (thenW prog d (.loop l272_1) (blockW 2 (blockW 1 (thenW prog d c272_1 (thenW prog d (.loop l272_0) (blockW 0 (thenW prog d c272_3 Q))))))):=
 q_ rfl (b_ H24 H23 lss_ (e_ (sq_ (cs_ rfl (fun g'1=>sk_ (sq_ (bk_ (sq_ (W.reg (m_ ((h.1 g'1).2.elim fun c'2 e'3=>ia_ H22 H24 (h.1 g'1).1 e'3.1 (Frm.row_eq c'2) rfl (lf_ rfl rfl rfl (s_alloc (m_ (so_ rfl (show lk _ (d,24579) = some (_,([.i .i64 0,.i .i64 0,.i .u64 0,.sl .full (List.map Loc.row ([]:List Loc))]:List AV)) from lk_here) rfl rfl rfl (e_ (q_ rfl (m_ (m_ (m_ (l_ rfl lk_here rfl rfl (e'3.2.elim fun r'4 e'12=>e'12.elim fun b'10 e'6=>s_callB H1 (sec H5 (sec H24 (sec rfl sen))) e'6.1 (Nat.lt_succ_of_lt hkp) (Dk.other (key_LP hkp) (Dk.other (key_LP hkp) BP)) (fun st'7 hb'8 hf'9=>m_ (e_ (q_ rfl (m_ (b_ rfl rfl neq_ (e_ (cs_ rfl (fun g'11=>q_ rfl (m_ (m_ (e_ (rt_ (hQ _ _ _ _ rfl hb'8 (Fr.pass (Fr.box (Fr.box FR)) hf'9) (e'6.2.1 g'11))))))) (fun g'11=>sk_ (W.reg0 rfl fun _ _=>b_ H24 rfl add_ (m_ (e_ (kP1 _ _ (e'6.2.2 g'11) _ _ _ _ H1 H5 H14 H15 H16 H22 H23 rfl hb'8 (Fr.pass (Fr.box (Fr.box FR)) hf'9))))))))))))))))))))))))))))))) (fun g'1=>ex_ (w272_3 hQ hkp kP0 H1 H14 H15 H16 BP FR (h.2 g'1)))))))
theorem w272_4 {mP:Dsk}(BP:Dk mP st.bx st.ow kp vp)(FR:Fr d kp st0.bx st0.ow st.bx st.ow)(h:T272_4 prog K mP):W prog d c272_3 σ st Q:=
 q_ rfl (m_ (e_ (rt_ (hQ _ _ _ _ rfl BP FR h))))
theorem w272_1 {t14:List Rou}{t15 t16:Int}{mP:Dsk}{P0:Int→Dsk→Prop} (kP0 :∀(t16:Int)(mP:Dsk),P0 t16 mP→I272_0 prog d Q st0 kp vp t14 t15 t16 mP){o_t14:Own}(H1:σ 1 = .bf 275 [.p kp vp 0])(H14:σ 14 = .sl o_t14 (List.map Rou.row t14))(H15:σ 15 = .i .i64 t15)(H16:σ 16 = .i .i64 t16)(BP:Dk mP st.bx st.ow kp vp)(FR:Fr d kp st0.bx st0.ow st.bx st.ow)(h:T272_1 prog K P0 t14 t15 t16 mP):W prog d l272_0 σ st (thenW prog d (.loop l272_0) (blockW 0 (thenW prog d c272_3 Q))):=
 q_ rfl (b_ H16 H15 lss_ (e_ (sq_ (cs_ rfl (fun g'1=>sk_ (sq_ (bk_ (sq_ (W.reg (m_ ((h.1 g'1).2.elim fun c'2 e'3=>ia_ H14 H16 (h.1 g'1).1 e'3.1 (Rou.row_eq c'2) rfl (lf_ rfl rfl rfl (s_alloc (m_ (so_ rfl (show lk _ (d,12291) = some (_,([.i .u8 0,.i .i64 0,.sl .full (List.map Frm.row ([]:List Frm)),.sl .full (List.map Dfr.row ([]:List Dfr)),.sl .full (List.map Pan.row ([]:List Pan))]:List AV)) from lk_here) rfl rfl rfl (e_ (q_ rfl (f_ rfl (l_ rfl lk_here rfl rfl (ll_ rfl (m_ (e_ (bk_ (e'3.2 (I272_1 prog d Q st0 kp vp t16 t14 t15 t16 c'2.frames (c'2.frames.length:Int)) (fun _ _ hb _ _ _ _ H1 H5 H14 H15 H16 H22 H23 H24 BP FR=>W.loop (w272_2 hQ hkp (fun _ _ x=>x) kP0 H1 H5 H14 H15 H16 H22 H23 H24 BP FR hb)) _ _ _ _ H1 H16 H14 H15 H16 rfl rfl rfl (Dk.other (key_LP hkp) (Dk.other (key_LP hkp) BP)) (Fr.box (Fr.box FR)))))))))))))))))))))) (fun g'1=>ex_ (w272_4 hQ hkp BP FR (h.2 g'1)))))))
theorem w272_0 {mP:Dsk}(H0:σ 0 = .p kp vp 0)(H1:σ 1 = .bf 275 [.p kp vp 0])(BP:Dk mP st.bx st.ow kp vp)(FR:Fr d kp st0.bx st0.ow st.bx st.ow)(h:T272_0 prog K mP):W prog d (.seq (.reg 0 r272_0) (.seq (.seq (.reg 1 r272_1) (.block 0 (.loop l272_0))) c272_3)) σ st Q:=
 q_ rfl (m_ (e_ (sq_ (q_ rfl (m_ (s_nilP H0 (f_ rfl (f_ rfl (s_loadD rfl BP rfl rfl (ll_ rfl (m_ (e_ (bk_ (h (I272_0 prog d Q st0 kp vp mP.state.routines (mP.state.routines.length:Int)) (fun _ _ hb _ _ _ H1 H14 H15 H16 BP FR=>W.loop (w272_1 hQ hkp (fun _ _ x=>x) H1 H14 H15 H16 BP FR hb)) _ _ _ H1 rfl rfl rfl BP FR))))))))))))))
end
theorem p272 {prog:Prog}(hf:prog.fn 272 = some pf272){mP:Dsk}{K:Int→Dsk→Prop}(h:T272_0 prog K mP):PuXFK prog 272 (Dk mP) (fun kp vp=>[.bf 275 [.p kp vp 0]]) (fun r (b_:Dsk)=>∃res0:Int,(r = .i .i64 res0)∧K res0 b_) (fun b_=>(Dk b_)):=
  PuXFK.of hf (fun _ _=>rfl) (fun _=>Dk.out) fun d st kp vp hkp hB=>w272_0 (st0:=st) (Q:=fun e σ st'=>(e = .normal∨e = .ret)∧∃r b_,ares σ st' pf272.res = some r∧_∧_∧Fr d kp st.bx st.ow st'.bx st'.ow) (fun σ st'   res0 b_ H4 hb hf hk=>⟨.inr rfl,.i .i64 res0,b_,by simp only [pf272,ares,aresL,H4,ares1,Option.map_some,H4],⟨res0,rfl,hk⟩,hb,hf⟩) hkp (σ:=sl0 [.p kp vp 0,.bf 275 [.p kp vp 0]]) rfl rfl hB Fr.refl h
end Go.AM.SlotV
