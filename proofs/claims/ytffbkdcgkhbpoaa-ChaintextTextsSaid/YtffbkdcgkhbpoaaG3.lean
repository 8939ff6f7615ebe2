/- Parts of the proof: U30a, U30b. -/
import Derived.Test.YtffbkdcgkhbpoaaG2
set_option linter.all false
namespace Go.AM
open Go
set_option linter.unusedVariables false
set_option linter.unusedSimpArgs false
set_option maxRecDepth 4000
attribute [local irreducible] WO fillCells fillRows
def r42_0:List AI:=[oC 4 (.s []),
 oC 5 (.b false)]
def r42_1:List AI:=[oM 6 0,
 oM 7 1,
 oO 8 (.call false 46 [(.t 6),(.t 7)]),
 oO 9 (.un .not (.t 8))]
def r42_2:List AI:=[oM 10 0,
 oM 4 10,
 oC 5 (.b false)]
def r42_3:List AI:=[oM 11 0,
 oM 12 1,
 oO 13 (.len true (.t 12)),
 oO 14 (.slS (.t 11) (some (.t 13)) none),
 oM 4 14,
 oC 5 (.b true)]
abbrev b42:AC:=(.seq (.reg 0 r42_0) (.seq (.seq (.reg 1 r42_1) (.cond (.t 9) (.seq (.reg 2 r42_2) .ret) .skip)) (.seq (.reg 3 r42_3) .ret)))
def pf42:AF:={ nt:=15,res:=[.tmp 4,.tmp 5],body:=b42 }
abbrev H42 (Q:AE→Sl→St→Prop)(K:List UInt8→Bool→Prop):Prop:=∀(σ:Sl)(st:St)(x0:List UInt8)(x1:Bool),σ 4 = .s x0→σ 5 = .b x1→K x0 x1→Q .ret σ st
def T42_0 (prog:Prog)(K:List UInt8→Bool→Prop)(s0:List UInt8)(prefix1:List UInt8):Prop:=
  ∃r'1:Bool,Pus prog 46 [.s s0,.s prefix1] (.b r'1)∧((!r'1) = true→K s0 false)∧((!r'1) = false→0≤(prefix1.length:Int)∧(prefix1.length:Int).toNat≤s0.length∧K (s0.drop (prefix1.length:Int).toNat) true)
section
variable {prog:Prog}{d:Nat}{Q:AE→Sl→St→Prop}{K:List UInt8→Bool→Prop}(hQ:H42 Q K){σ:Sl}{st:St}
include hQ
theorem w42_0 {s0 prefix1:List UInt8}(H0:σ 0 = .s s0)(H1:σ 1 = .s prefix1)(h:T42_0 prog K s0 prefix1):W prog d (.seq (.reg 0 r42_0) (.seq (.seq (.reg 1 r42_1) (.cond (.t 9) (.seq (.reg 2 r42_2) .ret) .skip)) (.seq (.reg 3 r42_3) .ret))) σ st Q:=
 q_ rfl (m_ (m_ (e_ (sq_ (q_ rfl (m_ (m_ (h.elim fun r'1 e'2=>ca_ (sc H0 rfl (sc H1 rfl sn)) e'2.1 (nt_ rfl (e_ (cb_ rfl (fun g'3=>q_ rfl (m_ (m_ (m_ (e_ (rt_ (hQ _ _ _ _ H0 rfl (e'2.2.1 g'3)))))))) (fun g'3=>sk_ (q_ rfl (m_ (m_ (ln_ H1 (s_slS_lo H0 rfl (e'2.2.2 g'3).1 (e'2.2.2 g'3).2.1 (m_ (m_ (e_ (rt_ (hQ _ _ _ _ rfl rfl (e'2.2.2 g'3).2.2))))))))))))))))))))))
end
theorem p42 {prog:Prog}(hf:prog.fn 42 = some pf42){s0:List UInt8}{prefix1:List UInt8}{K:List UInt8→Bool→Prop}(h:T42_0 prog K s0 prefix1) :∃x0:List UInt8,∃x1:Bool,K x0 x1∧Pus prog 42 [.s s0,.s prefix1] (.tup [.s x0,.b x1]):=by
  obtain ⟨v,hv,x0,x1,hk,rfl⟩:=Pus.of (K:=fun v=>∃x0:List UInt8,∃x1:Bool,K x0 x1∧v = .tup [.s x0,.b x1]) hf rfl (w42_0 (σ:=sl0 [.s s0,.s prefix1]) (fun σ st   x0 x1 H4 H5 hk=>⟨.tup [.s x0,.b x1],by simp only [pf42,ares,aresL,H4,H5,ares1,Option.map_some],_,rfl,x0,x1,hk,rfl⟩) rfl rfl h)
  exact ⟨x0,x1,hk,hv⟩
def r46_0:List AI:=[oC 4 (.b false)]
def r46_1:List AI:=[oM 5 0,
 oO 6 (.len true (.t 5)),
 oM 7 1,
 oO 8 (.len true (.t 7)),
 oB 9 .geq (.t 6) (.t 8),
 oM 10 9,
 oG 11 (.mv (.t 0)) 10 true,
 oG 12 (.mv (.t 1)) 10 true,
 oG 13 (.len true (.t 12)) 10 true,
 oG 14 (.slS (.t 11) none (some (.t 13))) 10 true,
 oG 15 (.mv (.t 1)) 10 true,
 oG 16 (.bin .eql (.t 14) (.t 15)) 10 true,
 oO 17 (.pick (.t 10) (.t 16) (.c (.b false))),
 oM 4 17]
abbrev b46:AC:=(.seq (.reg 0 r46_0) (.seq (.reg 1 r46_1) .ret))
def pf46:AF:={ nt:=18,res:=[.tmp 4],body:=b46 }
abbrev H46 (Q:AE→Sl→St→Prop)(K:Bool→Prop):Prop:=∀(σ:Sl)(st:St)(x0:Bool),σ 4 = .b x0→K x0→Q .ret σ st
def T46_0 (prog:Prog)(K:Bool→Prop)(s0:List UInt8)(prefix1:List UInt8):Prop:=
  ((s0.length:Int) ≥ (prefix1.length:Int)→0≤(prefix1.length:Int)∧(prefix1.length:Int).toNat≤s0.length∧K (decide ((s0.take (prefix1.length:Int).toNat) = prefix1)))∧(¬((s0.length:Int) ≥ (prefix1.length:Int))→K false)
section
variable {prog:Prog}{d:Nat}{Q:AE→Sl→St→Prop}{K:Bool→Prop}(hQ:H46 Q K){σ:Sl}{st:St}
include hQ
theorem w46_0 {s0 prefix1:List UInt8}(H0:σ 0 = .s s0)(H1:σ 1 = .s prefix1)(h:T46_0 prog K s0 prefix1):W prog d (.seq (.reg 0 r46_0) (.seq (.reg 1 r46_1) .ret)) σ st Q:=
 q_ rfl (m_ (e_ (q_ rfl (s_mvS H0 (ln_ rfl (s_mvS H1 (ln_ rfl (b_ rfl rfl geq_ (s_mvB rfl (em_ (g:=10) rfl (fun g'1=>gy_ rfl (s_mvS H0 (gy_ rfl (s_mvS H1 (gy_ rfl (ln_ rfl (gy_ rfl (s_slS_hi rfl rfl (h.1 g'1).1 (h.1 g'1).2.1 (gy_ rfl (s_mvS H1 (gy_ rfl (b_ rfl rfl seq_ (pt_ rfl rfl (s_mvB rfl (e_ (rt_ (hQ _ _ _ rfl (h.1 g'1).2.2))))))))))))))))) (fun g'1=>gn_ (b:=false) rfl rfl (gn_ (b:=false) rfl rfl (gn_ (b:=false) rfl rfl (gn_ (b:=false) rfl rfl (gn_ (b:=false) rfl rfl (gn_ (b:=false) rfl rfl (pf_ rfl rfl (s_mvB rfl (e_ (rt_ (hQ _ _ _ rfl (h.2 g'1))))))))))))))))))))))
end
theorem p46 {prog:Prog}(hf:prog.fn 46 = some pf46){s0:List UInt8}{prefix1:List UInt8}{K:Bool→Prop}(h:T46_0 prog K s0 prefix1) :∃x0:Bool,K x0∧Pus prog 46 [.s s0,.s prefix1] (.b x0):=by
  obtain ⟨v,hv,x0,hk,rfl⟩:=Pus.of (K:=fun v=>∃x0:Bool,K x0∧v = .b x0) hf rfl (w46_0 (σ:=sl0 [.s s0,.s prefix1]) (fun σ st   x0 H4 hk=>⟨.b x0,by simp only [pf46,ares,aresL,H4,ares1,Option.map_some],_,rfl,x0,hk,rfl⟩) rfl rfl h)
  exact ⟨x0,hk,hv⟩
def r36_0:List AI:=[oC 4 (.s []),
 oC 5 (.b false)]
def r36_1:List AI:=[oM 6 0,
 oM 7 1,
 oO 8 (.call false 42 [(.t 6),(.t 7)]),
 oE 9 0 8,
 oE 10 1 8,
 oM 4 9,
 oM 5 10]
abbrev b36:AC:=(.seq (.reg 0 r36_0) (.seq (.reg 1 r36_1) .ret))
def pf36:AF:={ nt:=11,res:=[.tmp 4,.tmp 5],body:=b36 }
abbrev H36 (Q:AE→Sl→St→Prop)(K:List UInt8→Bool→Prop):Prop:=∀(σ:Sl)(st:St)(x0:List UInt8)(x1:Bool),σ 4 = .s x0→σ 5 = .b x1→K x0 x1→Q .ret σ st
def T36_0 (prog:Prog)(K:List UInt8→Bool→Prop)(s0:List UInt8)(prefix1:List UInt8):Prop:=
  ∃r'1:List UInt8,∃r'2:Bool,Pus prog 42 [.s s0,.s prefix1] (.tup [.s r'1,.b r'2])∧K r'1 r'2
section
variable {prog:Prog}{d:Nat}{Q:AE→Sl→St→Prop}{K:List UInt8→Bool→Prop}(hQ:H36 Q K){σ:Sl}{st:St}
include hQ
theorem w36_0 {s0 prefix1:List UInt8}(H0:σ 0 = .s s0)(H1:σ 1 = .s prefix1)(h:T36_0 prog K s0 prefix1):W prog d (.seq (.reg 0 r36_0) (.seq (.reg 1 r36_1) .ret)) σ st Q:=
 q_ rfl (m_ (m_ (e_ (q_ rfl (m_ (m_ (h.elim fun r'1 e'4=>e'4.elim fun r'2 e'3=>ca_ (sc H0 rfl (sc H1 rfl sn)) e'3.1 (x_ rfl rfl (x_ rfl rfl (m_ (m_ (e_ (rt_ (hQ _ _ _ _ rfl rfl e'3.2))))))))))))))
end
theorem p36 {prog:Prog}(hf:prog.fn 36 = some pf36){s0:List UInt8}{prefix1:List UInt8}{K:List UInt8→Bool→Prop}(h:T36_0 prog K s0 prefix1) :∃x0:List UInt8,∃x1:Bool,K x0 x1∧Pus prog 36 [.s s0,.s prefix1] (.tup [.s x0,.b x1]):=by
  obtain ⟨v,hv,x0,x1,hk,rfl⟩:=Pus.of (K:=fun v=>∃x0:List UInt8,∃x1:Bool,K x0 x1∧v = .tup [.s x0,.b x1]) hf rfl (w36_0 (σ:=sl0 [.s s0,.s prefix1]) (fun σ st   x0 x1 H4 H5 hk=>⟨.tup [.s x0,.b x1],by simp only [pf36,ares,aresL,H4,H5,ares1,Option.map_some],_,rfl,x0,x1,hk,rfl⟩) rfl rfl h)
  exact ⟨x0,x1,hk,hv⟩
def r43_0:List AI:=[oC 4 (.i .i64 0)]
def r43_1:List AI:=[oM 5 0,
 oM 6 1,
 oO 7 (.call false 47 [(.t 5),(.t 6)]),
 oM 4 7]
abbrev b43:AC:=(.seq (.reg 0 r43_0) (.seq (.reg 1 r43_1) .ret))
def pf43:AF:={ nt:=8,res:=[.tmp 4],body:=b43 }
abbrev H43 (Q:AE→Sl→St→Prop)(K:Int→Prop):Prop:=∀(σ:Sl)(st:St)(x0:Int),σ 4 = .i .i64 x0→K x0→Q .ret σ st
def T43_0 (prog:Prog)(K:Int→Prop)(s0:List UInt8)(c1:Int):Prop:=
  ∃r'1:Int,Pus prog 47 [.s s0,.i .u8 c1] (.i .i64 r'1)∧K r'1
section
variable {prog:Prog}{d:Nat}{Q:AE→Sl→St→Prop}{K:Int→Prop}(hQ:H43 Q K){σ:Sl}{st:St}
include hQ
theorem w43_0 {s0:List UInt8}{c1:Int}(H0:σ 0 = .s s0)(H1:σ 1 = .i .u8 c1)(h:T43_0 prog K s0 c1):W prog d (.seq (.reg 0 r43_0) (.seq (.reg 1 r43_1) .ret)) σ st Q:=
 q_ rfl (m_ (e_ (q_ rfl (m_ (m_ (h.elim fun r'1 e'2=>ca_ (sc H0 rfl (sc H1 rfl sn)) e'2.1 (m_ (e_ (rt_ (hQ _ _ _ rfl e'2.2))))))))))
end
theorem p43 {prog:Prog}(hf:prog.fn 43 = some pf43){s0:List UInt8}{c1:Int}{K:Int→Prop}(h:T43_0 prog K s0 c1) :∃x0:Int,K x0∧Pus prog 43 [.s s0,.i .u8 c1] (.i .i64 x0):=by
  obtain ⟨v,hv,x0,hk,rfl⟩:=Pus.of (K:=fun v=>∃x0:Int,K x0∧v = .i .i64 x0) hf rfl (w43_0 (σ:=sl0 [.s s0,.i .u8 c1]) (fun σ st   x0 H4 hk=>⟨.i .i64 x0,by simp only [pf43,ares,aresL,H4,ares1,Option.map_some],_,rfl,x0,hk,rfl⟩) rfl rfl h)
  exact ⟨x0,hk,hv⟩
def r47_0:List AI:=[oC 4 (.i .i64 0)]
def r47_1:List AI:=[oM 5 0,
 oM 6 1,
 oO 7 (.call false 48 [(.t 5),(.t 6)]),
 oM 4 7]
abbrev b47:AC:=(.seq (.reg 0 r47_0) (.seq (.reg 1 r47_1) .ret))
def pf47:AF:={ nt:=8,res:=[.tmp 4],body:=b47 }
abbrev H47 (Q:AE→Sl→St→Prop)(K:Int→Prop):Prop:=∀(σ:Sl)(st:St)(x0:Int),σ 4 = .i .i64 x0→K x0→Q .ret σ st
def T47_0 (prog:Prog)(K:Int→Prop)(s0:List UInt8)(c1:Int):Prop:=
  ∃r'1:Int,Pus prog 48 [.s s0,.i .u8 c1] (.i .i64 r'1)∧K r'1
section
variable {prog:Prog}{d:Nat}{Q:AE→Sl→St→Prop}{K:Int→Prop}(hQ:H47 Q K){σ:Sl}{st:St}
include hQ
theorem w47_0 {s0:List UInt8}{c1:Int}(H0:σ 0 = .s s0)(H1:σ 1 = .i .u8 c1)(h:T47_0 prog K s0 c1):W prog d (.seq (.reg 0 r47_0) (.seq (.reg 1 r47_1) .ret)) σ st Q:=
 q_ rfl (m_ (e_ (q_ rfl (m_ (m_ (h.elim fun r'1 e'2=>ca_ (sc H0 rfl (sc H1 rfl sn)) e'2.1 (m_ (e_ (rt_ (hQ _ _ _ rfl e'2.2))))))))))
end
theorem p47 {prog:Prog}(hf:prog.fn 47 = some pf47){s0:List UInt8}{c1:Int}{K:Int→Prop}(h:T47_0 prog K s0 c1) :∃x0:Int,K x0∧Pus prog 47 [.s s0,.i .u8 c1] (.i .i64 x0):=by
  obtain ⟨v,hv,x0,hk,rfl⟩:=Pus.of (K:=fun v=>∃x0:Int,K x0∧v = .i .i64 x0) hf rfl (w47_0 (σ:=sl0 [.s s0,.i .u8 c1]) (fun σ st   x0 H4 hk=>⟨.i .i64 x0,by simp only [pf47,ares,aresL,H4,ares1,Option.map_some],_,rfl,x0,hk,rfl⟩) rfl rfl h)
  exact ⟨x0,hk,hv⟩
def r11_0:List AI:=[oC 2 (.s []),
 oC 3 (.i .i64 0)]
def r11_1:List AI:=[oM 4 0,
 oO 5 (.len true (.t 4)),
 oB 6 .gtr (.t 5) (.c (.i .i64 400))]
def r11_2:List AI:=[oC 2 (.s []),
 oC 3 (.i .i64 4)]
def r11_3:List AI:=[oM 7 0,
 oO 8 (.call true 30 [(.c (.sl .full [])),(.t 7)]),
 oO 9 (.b2s (.t 8)),
 oM 2 9,
 oC 3 (.i .i64 0)]
abbrev b11:AC:=(.seq (.reg 0 r11_0) (.seq (.seq (.reg 1 r11_1) (.cond (.t 6) (.seq (.reg 2 r11_2) .ret) .skip)) (.seq (.reg 3 r11_3) .ret)))
def pf11:AF:={ nt:=10,res:=[.tmp 2,.tmp 3],body:=b11 }
abbrev H11 (Q:AE→Sl→St→Prop)(K:List UInt8→Int→Prop):Prop:=∀(σ:Sl)(st:St)(x0:List UInt8)(x1:Int),σ 2 = .s x0→σ 3 = .i .i64 x1→K x0 x1→Q .ret σ st
def T11_0 (prog:Prog)(K:List UInt8→Int→Prop)(s0:List UInt8):Prop:=
  ((s0.length:Int) > 400→K ([]:List UInt8) 4)∧(¬((s0.length:Int) > 400)→∃r'2:List UInt8,PuA prog 30 (List.map row8 ([]:List UInt8)) [.s s0] (List.map row8 r'2)∧K r'2 0)
section
variable {prog:Prog}{d:Nat}{Q:AE→Sl→St→Prop}{K:List UInt8→Int→Prop}(hQ:H11 Q K){σ:Sl}{st:St}
include hQ
theorem w11_0 {s0:List UInt8}(H0:σ 0 = .s s0)(h:T11_0 prog K s0):W prog d (.seq (.reg 0 r11_0) (.seq (.seq (.reg 1 r11_1) (.cond (.t 6) (.seq (.reg 2 r11_2) .ret) .skip)) (.seq (.reg 3 r11_3) .ret))) σ st Q:=
 q_ rfl (m_ (m_ (e_ (sq_ (q_ rfl (m_ (ln_ H0 (b_ rfl rfl gtr_ (e_ (cs_ rfl (fun g'1=>q_ rfl (m_ (m_ (e_ (rt_ (hQ _ _ _ _ rfl rfl (h.1 g'1))))))) (fun g'1=>sk_ (q_ rfl (m_ ((h.2 g'1).elim fun r'2 e'3=>s_callA (sec (show _ = AV.sl .full (List.map row8 []) from rfl) (sec H0 sen)) e'3.1 (by simpa using App.full) (fun o'4 st'6 a'5=>s_b2s rfl (m_ (m_ (e_ (rt_ (hQ _ _ _ _ rfl rfl e'3.2))))))))))))))))))))
end
theorem p11 {prog:Prog}(hf:prog.fn 11 = some pf11){s0:List UInt8}{K:List UInt8→Int→Prop}(h:T11_0 prog K s0) :∃x0:List UInt8,∃x1:Int,K x0 x1∧Pus prog 11 [.s s0] (.tup [.s x0,.i .i64 x1]):=by
  obtain ⟨v,hv,x0,x1,hk,rfl⟩:=Pus.of (K:=fun v=>∃x0:List UInt8,∃x1:Int,K x0 x1∧v = .tup [.s x0,.i .i64 x1]) hf rfl (w11_0 (σ:=sl0 [.s s0]) (fun σ st   x0 x1 H2 H3 hk=>⟨.tup [.s x0,.i .i64 x1],by simp only [pf11,ares,aresL,H2,H3,ares1,Option.map_some],_,rfl,x0,x1,hk,rfl⟩) rfl h)
  exact ⟨x0,x1,hk,hv⟩
def r15_0:List AI:=[oC 2 (.s [])]
def r15_1:List AI:=[oM 3 0,
 oB 4 .lss (.t 3) (.c (.i .i64 0))]
def r15_2:List AI:=[oM 5 0,
 oO 6 (.cvi .u64 (.t 5)),
 oO 7 (.un .neg (.t 6)),
 oO 8 (.call false 34 [(.t 7),(.c (.i .u64 10))]),
 oB 9 .add (.c (.s [45])) (.t 8),
 oM 2 9]
def r15_3:List AI:=[oM 10 0,
 oO 11 (.cvi .u64 (.t 10)),
 oO 12 (.call false 34 [(.t 11),(.c (.i .u64 10))]),
 oM 2 12]
abbrev b15:AC:=(.seq (.reg 0 r15_0) (.seq (.seq (.reg 1 r15_1) (.cond (.t 4) (.seq (.reg 2 r15_2) .ret) .skip)) (.seq (.reg 3 r15_3) .ret)))
def pf15:AF:={ nt:=13,res:=[.tmp 2],body:=b15 }
abbrev H15 (Q:AE→Sl→St→Prop)(K:List UInt8→Prop):Prop:=∀(σ:Sl)(st:St)(x0:List UInt8),σ 2 = .s x0→K x0→Q .ret σ st
def T15_0 (prog:Prog)(K:List UInt8→Prop)(n0:Int):Prop:=
  (n0 < 0→∃r'2:List UInt8,Pus prog 34 [.i .u64 (IntKind.u64.wrap (0 - (IntKind.u64.wrap n0))),.i .u64 10] (.s r'2)∧([45]:List UInt8).length + r'2.length≤maxStr∧K (([45]:List UInt8) ++ r'2))∧(¬(n0 < 0)→∃r'4:List UInt8,Pus prog 34 [.i .u64 (IntKind.u64.wrap n0),.i .u64 10] (.s r'4)∧K r'4)
section
variable {prog:Prog}{d:Nat}{Q:AE→Sl→St→Prop}{K:List UInt8→Prop}(hQ:H15 Q K){σ:Sl}{st:St}
include hQ
theorem w15_0 {n0:Int}(H0:σ 0 = .i .i64 n0)(h:T15_0 prog K n0):W prog d (.seq (.reg 0 r15_0) (.seq (.seq (.reg 1 r15_1) (.cond (.t 4) (.seq (.reg 2 r15_2) .ret) .skip)) (.seq (.reg 3 r15_3) .ret))) σ st Q:=
 q_ rfl (m_ (e_ (sq_ (q_ rfl (m_ (b_ H0 rfl lss_ (e_ (cs_ rfl (fun g'1=>q_ rfl (m_ (s_cvi H0 (s_neg rfl ((h.1 g'1).elim fun r'2 e'3=>ca_ (sc rfl rfl (sc rfl rfl sn)) e'3.1 (b_ rfl rfl (abin_cat' e'3.2.1) (m_ (e_ (rt_ (hQ _ _ _ rfl e'3.2.2)))))))))) (fun g'1=>sk_ (q_ rfl (m_ (s_cvi H0 ((h.2 g'1).elim fun r'4 e'5=>ca_ (sc rfl rfl (sc rfl rfl sn)) e'5.1 (m_ (e_ (rt_ (hQ _ _ _ rfl e'5.2)))))))))))))))))
end
theorem p15 {prog:Prog}(hf:prog.fn 15 = some pf15){n0:Int}{K:List UInt8→Prop}(h:T15_0 prog K n0) :∃x0:List UInt8,K x0∧Pus prog 15 [.i .i64 n0] (.s x0):=by
  obtain ⟨v,hv,x0,hk,rfl⟩:=Pus.of (K:=fun v=>∃x0:List UInt8,K x0∧v = .s x0) hf rfl (w15_0 (σ:=sl0 [.i .i64 n0]) (fun σ st   x0 H2 hk=>⟨.s x0,by simp only [pf15,ares,aresL,H2,ares1,Option.map_some],_,rfl,x0,hk,rfl⟩) rfl h)
  exact ⟨x0,hk,hv⟩
def r21_0:List AI:=[oC 2 (.i .i64 0),
 oC 3 (.i .i64 0)]
def r21_1:List AI:=[oM 10 0,
 oO 11 (.len true (.t 10)),
 oB 12 .gtr (.t 11) (.c (.i .i64 2000))]
def r21_2:List AI:=[oC 2 (.i .i64 0),
 oC 3 (.i .i64 4)]
def r21_3:List AI:=[oM 14 0,
 oO 15 (.call false 36 [(.t 14),(.c (.s [45]))]),
 oM 13 15,
 oE 16 0 13,
 oE 17 1 13,
 oM 4 16,
 oM 5 17]
def r21_4:List AI:=[oM 18 5,
 oO 19 (.un .not (.t 18))]
def r21_5:List AI:=[oM 21 0,
 oO 22 (.call false 37 [(.t 21),(.c (.i .u64 10)),(.c (.i .u64 9223372036854775807))]),
 oM 20 22,
 oE 23 0 20,
 oE 24 1 20,
 oM 6 23,
 oM 7 24]
def r21_6:List AI:=[oM 25 6,
 oO 26 (.cvi .i64 (.t 25)),
 oM 27 7,
 oM 2 26,
 oM 3 27]
def r21_7:List AI:=[oM 29 4,
 oO 30 (.call false 37 [(.t 29),(.c (.i .u64 10)),(.c (.i .u64 9223372036854775808))]),
 oM 28 30,
 oE 31 0 28,
 oE 32 1 28,
 oM 8 31,
 oM 9 32]
def r21_8:List AI:=[oM 33 9,
 oB 34 .eql (.t 33) (.c (.i .i64 0)),
 oM 35 34,
 oG 36 (.mv (.t 8)) 35 true,
 oG 37 (.bin .eql (.t 36) (.c (.i .u64 0))) 35 true,
 oO 38 (.pick (.t 35) (.t 37) (.c (.b false)))]
def r21_9:List AI:=[oC 9 (.i .i64 12)]
def r21_10:List AI:=[oM 39 8,
 oO 40 (.un .neg (.t 39)),
 oO 41 (.cvi .i64 (.t 40)),
 oM 42 9,
 oM 2 41,
 oM 3 42]
abbrev c21_0:AC:=(.seq (.reg 10 r21_10) .ret)
abbrev b21:AC:=(.seq (.reg 0 r21_0) (.seq (.seq (.reg 1 r21_1) (.cond (.t 12) (.seq (.reg 2 r21_2) .ret) .skip)) (.seq (.reg 3 r21_3) (.seq (.seq (.reg 4 r21_4) (.cond (.t 19) (.seq (.reg 5 r21_5) (.seq (.reg 6 r21_6) .ret)) .skip)) (.seq (.reg 7 r21_7) (.seq (.seq (.reg 8 r21_8) (.cond (.t 38) (.reg 9 r21_9) .skip)) c21_0))))))
def pf21:AF:={ nt:=43,res:=[.tmp 2,.tmp 3],body:=b21 }
abbrev H21 (Q:AE→Sl→St→Prop)(K:Int→Int→Prop):Prop:=∀(σ:Sl)(st:St)(x0:Int)(x1:Int),σ 2 = .i .i64 x0→σ 3 = .i .i64 x1→K x0 x1→Q .ret σ st
def T21_1 (prog:Prog)(K:Int→Int→Prop)(n8:Int)(e9:Int):Prop:=
  K (IntKind.i64.wrap (IntKind.u64.wrap (0 - n8))) e9
def T21_0 (prog:Prog)(K:Int→Int→Prop)(s0:List UInt8):Prop:=
  ((s0.length:Int) > 2000→K 0 4)∧(¬((s0.length:Int) > 2000)→∃r'2:List UInt8,∃r'3:Bool,Pus prog 36 [.s s0,.s ([45]:List UInt8)] (.tup [.s r'2,.b r'3])∧((!r'3) = true→∃r'6:Int,∃r'7:Int,Pus prog 37 [.s s0,.i .u64 10,.i .u64 9223372036854775807] (.tup [.i .u64 r'6,.i .i64 r'7])∧K (IntKind.i64.wrap r'6) r'7)∧((!r'3) = false→∃r'10:Int,∃r'11:Int,Pus prog 37 [.s r'2,.i .u64 10,.i .u64 9223372036854775808] (.tup [.i .u64 r'10,.i .i64 r'11])∧(r'11 = 0→(r'10 = 0→T21_1 prog K r'10 12)∧(¬(r'10 = 0)→T21_1 prog K r'10 r'11))∧(¬(r'11 = 0)→T21_1 prog K r'10 r'11)))
section
variable {prog:Prog}{d:Nat}{Q:AE→Sl→St→Prop}{K:Int→Int→Prop}(hQ:H21 Q K){σ:Sl}{st:St}
include hQ
theorem w21_1 {n8 e9:Int}(H8:σ 8 = .i .u64 n8)(H9:σ 9 = .i .i64 e9)(h:T21_1 prog K n8 e9):W prog d c21_0 σ st Q:=
 q_ rfl (m_ (s_neg H8 (s_cvi rfl (m_ (m_ (m_ (e_ (rt_ (hQ _ _ _ _ rfl H9 h)))))))))
theorem w21_0 {s0:List UInt8}(H0:σ 0 = .s s0)(h:T21_0 prog K s0):W prog d (.seq (.reg 0 r21_0) (.seq (.seq (.reg 1 r21_1) (.cond (.t 12) (.seq (.reg 2 r21_2) .ret) .skip)) (.seq (.reg 3 r21_3) (.seq (.seq (.reg 4 r21_4) (.cond (.t 19) (.seq (.reg 5 r21_5) (.seq (.reg 6 r21_6) .ret)) .skip)) (.seq (.reg 7 r21_7) (.seq (.seq (.reg 8 r21_8) (.cond (.t 38) (.reg 9 r21_9) .skip)) c21_0)))))) σ st Q:=
 q_ rfl (m_ (m_ (e_ (sq_ (q_ rfl (m_ (ln_ H0 (b_ rfl rfl gtr_ (e_ (cs_ rfl (fun g'1=>q_ rfl (m_ (m_ (e_ (rt_ (hQ _ _ _ _ rfl rfl (h.1 g'1))))))) (fun g'1=>sk_ (q_ rfl (m_ ((h.2 g'1).elim fun r'2 e'16=>e'16.elim fun r'3 e'4=>ca_ (sc H0 rfl (sc rfl rfl sn)) e'4.1 (m_ (x_ rfl rfl (x_ rfl rfl (m_ (m_ (e_ (sq_ (q_ rfl (m_ (nt_ rfl (e_ (cb_ rfl (fun g'5=>q_ rfl (m_ ((e'4.2.1 g'5).elim fun r'6 e'9=>e'9.elim fun r'7 e'8=>ca_ (sc H0 rfl (sc rfl rfl (sc rfl rfl sn))) e'8.1 (m_ (x_ rfl rfl (x_ rfl rfl (m_ (m_ (e_ (q_ rfl (m_ (s_cvi rfl (m_ (m_ (m_ (e_ (rt_ (hQ _ _ _ _ rfl rfl e'8.2)))))))))))))))))) (fun g'5=>sk_ (q_ rfl (m_ ((e'4.2.2 g'5).elim fun r'10 e'15=>e'15.elim fun r'11 e'12=>ca_ (sc rfl rfl (sc rfl rfl (sc rfl rfl sn))) e'12.1 (m_ (x_ rfl rfl (x_ rfl rfl (m_ (m_ (e_ (sq_ (q_ rfl (s_mvI rfl (b_ rfl rfl eql_ (s_mvB rfl (em_ (g:=35) rfl (fun g'13=>gy_ rfl (s_mvI rfl (gy_ rfl (b_ rfl rfl eql_ (pt_ rfl rfl (e_ (cs_ rfl (fun g'14=>W.reg0 rfl fun _ _=>m_ (e_ (w21_1 hQ rfl rfl ((e'12.2.1 g'13).1 g'14)))) (fun g'14=>sk_ (w21_1 hQ rfl rfl ((e'12.2.1 g'13).2 g'14)))))))))) (fun g'13=>gn_ (b:=false) rfl rfl (gn_ (b:=false) rfl rfl (pf_ rfl rfl (e_ (cf_ rfl (sk_ (w21_1 hQ rfl rfl (e'12.2.2 g'13))))))))))))))))))))))))))))))))))))))))))))))))))
end
theorem p21 {prog:Prog}(hf:prog.fn 21 = some pf21){s0:List UInt8}{K:Int→Int→Prop}(h:T21_0 prog K s0) :∃x0:Int,∃x1:Int,K x0 x1∧Pus prog 21 [.s s0] (.tup [.i .i64 x0,.i .i64 x1]):=by
  obtain ⟨v,hv,x0,x1,hk,rfl⟩:=Pus.of (K:=fun v=>∃x0:Int,∃x1:Int,K x0 x1∧v = .tup [.i .i64 x0,.i .i64 x1]) hf rfl (w21_0 (σ:=sl0 [.s s0]) (fun σ st   x0 x1 H2 H3 hk=>⟨.tup [.i .i64 x0,.i .i64 x1],by simp only [pf21,ares,aresL,H2,H3,ares1,Option.map_some],_,rfl,x0,x1,hk,rfl⟩) rfl h)
  exact ⟨x0,x1,hk,hv⟩
def r25_0:List AI:=[oC 2 (.s []),
 oC 3 (.i .i64 0)]
def r25_1:List AI:=[oM 7 0,
 oO 8 (.len true (.t 7)),
 oB 9 .gtr (.t 8) (.c (.i .i64 2000))]
def r25_2:List AI:=[oC 2 (.s []),
 oC 3 (.i .i64 4)]
def r25_3:List AI:=[oM 11 0,
 oO 12 (.call false 39 [(.t 11)]),
 oM 10 12,
 oE 13 0 10,
 oE 14 1 10,
 oE 15 2 10,
 oM 4 13,
 oM 5 14,
 oM 6 15]
def r25_4:List AI:=[oM 17 6,
 oO 18 (.un .not (.t 17)),
 oM 19 18,
 oG 20 (.mv (.t 5)) 19 false,
 oG 21 (.bin .neq (.t 20) (.c (.s []))) 19 false,
 oO 22 (.pick (.t 19) (.c (.b true)) (.t 21)),
 oM 16 22]
def r25_5:List AI:=[oC 2 (.s []),
 oC 3 (.i .i64 12)]
def r25_6:List AI:=[oM 24 4,
 oO 25 (.len true (.t 24)),
 oB 26 .gtr (.t 25) (.c (.i .i64 400)),
 oM 23 26]
def r25_7:List AI:=[oC 2 (.s []),
 oC 3 (.i .i64 4)]
def r25_8:List AI:=[oM 27 4,
 oM 2 27,
 oC 3 (.i .i64 0)]
abbrev b25:AC:=(.seq (.reg 0 r25_0) (.seq (.seq (.reg 1 r25_1) (.cond (.t 9) (.seq (.reg 2 r25_2) .ret) .skip)) (.seq (.reg 3 r25_3) (.seq (.block 0 (.seq (.reg 4 r25_4) (.cond (.t 16) (.seq (.reg 5 r25_5) .ret) (.seq (.reg 6 r25_6) (.cond (.t 23) (.seq (.reg 7 r25_7) .ret) .skip))))) (.seq (.reg 8 r25_8) .ret)))))
def pf25:AF:={ nt:=28,res:=[.tmp 2,.tmp 3],body:=b25 }
abbrev H25 (Q:AE→Sl→St→Prop)(K:List UInt8→Int→Prop):Prop:=∀(σ:Sl)(st:St)(x0:List UInt8)(x1:Int),σ 2 = .s x0→σ 3 = .i .i64 x1→K x0 x1→Q .ret σ st
def T25_0 (prog:Prog)(K:List UInt8→Int→Prop)(s0:List UInt8):Prop:=
  ((s0.length:Int) > 2000→K ([]:List UInt8) 4)∧(¬((s0.length:Int) > 2000)→∃r'2:List UInt8,∃r'3:List UInt8,∃r'4:Bool,Pus prog 39 [.s s0] (.tup [.s r'2,.s r'3,.b r'4])∧((!r'4) = true→K ([]:List UInt8) 12)∧((!r'4) = false→(r'3≠([]:List UInt8)→K ([]:List UInt8) 12)∧(¬(r'3≠([]:List UInt8))→((r'2.length:Int) > 400→K ([]:List UInt8) 4)∧(¬((r'2.length:Int) > 400)→K r'2 0))))
section
variable {prog:Prog}{d:Nat}{Q:AE→Sl→St→Prop}{K:List UInt8→Int→Prop}(hQ:H25 Q K){σ:Sl}{st:St}
include hQ
theorem w25_0 {s0:List UInt8}(H0:σ 0 = .s s0)(h:T25_0 prog K s0):W prog d (.seq (.reg 0 r25_0) (.seq (.seq (.reg 1 r25_1) (.cond (.t 9) (.seq (.reg 2 r25_2) .ret) .skip)) (.seq (.reg 3 r25_3) (.seq (.block 0 (.seq (.reg 4 r25_4) (.cond (.t 16) (.seq (.reg 5 r25_5) .ret) (.seq (.reg 6 r25_6) (.cond (.t 23) (.seq (.reg 7 r25_7) .ret) .skip))))) (.seq (.reg 8 r25_8) .ret))))) σ st Q:=
 q_ rfl (m_ (m_ (e_ (sq_ (q_ rfl (m_ (ln_ H0 (b_ rfl rfl gtr_ (e_ (cs_ rfl (fun g'1=>q_ rfl (m_ (m_ (e_ (rt_ (hQ _ _ _ _ rfl rfl (h.1 g'1))))))) (fun g'1=>sk_ (q_ rfl (m_ ((h.2 g'1).elim fun r'2 e'9=>e'9.elim fun r'3 e'10=>e'10.elim fun r'4 e'5=>ca_ (sc H0 rfl sn) e'5.1 (m_ (x_ rfl rfl (x_ rfl rfl (x_ rfl rfl (m_ (m_ (m_ (e_ (sq_ (bk_ (q_ rfl (s_mvB rfl (nt_ rfl (s_mvB rfl (eb_ (g:=19) rfl (fun g'6=>gn_ (b:=true) rfl rfl (gn_ (b:=true) rfl rfl (pt_ rfl rfl (s_mvB rfl (e_ (ct_ rfl (q_ rfl (m_ (m_ (e_ (rt_ (hQ _ _ _ _ rfl rfl (e'5.2.1 g'6))))))))))))) (fun g'6=>gy_ rfl (s_mvS rfl (gy_ rfl (b_ rfl rfl sne_ (pf_ rfl rfl (s_mvB rfl (e_ (cs_ rfl (fun g'7=>q_ rfl (m_ (m_ (e_ (rt_ (hQ _ _ _ _ rfl rfl ((e'5.2.2 g'6).1 g'7))))))) (fun g'7=>q_ rfl (m_ (ln_ rfl (b_ rfl rfl gtr_ (m_ (e_ (cs_ rfl (fun g'8=>q_ rfl (m_ (m_ (e_ (rt_ (hQ _ _ _ _ rfl rfl (((e'5.2.2 g'6).2 g'7).1 g'8))))))) (fun g'8=>sk_ (q_ rfl (m_ (m_ (m_ (e_ (rt_ (hQ _ _ _ _ rfl rfl (((e'5.2.2 g'6).2 g'7).2 g'8)))))))))))))))))))))))))))))))))))))))))))))))))))))
end
theorem p25 {prog:Prog}(hf:prog.fn 25 = some pf25){s0:List UInt8}{K:List UInt8→Int→Prop}(h:T25_0 prog K s0) :∃x0:List UInt8,∃x1:Int,K x0 x1∧Pus prog 25 [.s s0] (.tup [.s x0,.i .i64 x1]):=by
  obtain ⟨v,hv,x0,x1,hk,rfl⟩:=Pus.of (K:=fun v=>∃x0:List UInt8,∃x1:Int,K x0 x1∧v = .tup [.s x0,.i .i64 x1]) hf rfl (w25_0 (σ:=sl0 [.s s0]) (fun σ st   x0 x1 H2 H3 hk=>⟨.tup [.s x0,.i .i64 x1],by simp only [pf25,ares,aresL,H2,H3,ares1,Option.map_some],_,rfl,x0,x1,hk,rfl⟩) rfl h)
  exact ⟨x0,x1,hk,hv⟩
def r30_0:List AI:=[oC 4 (.sl .full [])]
def r30_1:List AI:=[oM 7 0,
 oO 8 (.bslice [.i .u8 0] 1 [(0,(.c (.i .u8 34)))]),
 oO 9 (.app 1 1 (.t 7) (.t 8)),
 oM 0 9]
def r30_2:List AI:=[oM 10 1,
 oO 11 (.len true (.t 10)),
 oC 12 (.i .i64 0)]
def r30_3:List AI:=[oB 13 .lss (.t 12) (.t 11)]
def r30_4:List AI:=[oM 14 12,
 oM 5 14]
def r30_5:List AI:=[oM 15 1,
 oM 16 5,
 oO 17 (.ixS (.t 15) (.t 16)),
 oM 6 17]
def r30_6:List AI:=[oM 23 6,
 oB 24 .eql (.t 23) (.c (.i .u8 34)),
 oM 25 24,
 oG 26 (.mv (.t 6)) 25 false,
 oG 27 (.bin .eql (.t 26) (.c (.i .u8 92))) 25 false,
 oO 28 (.pick (.t 25) (.c (.b true)) (.t 27)),
 oM 22 28]
def r30_7:List AI:=[oM 29 0,
 oM 30 6,
 oO 31 (.bslice [.i .u8 0] 2 [(0,(.c (.i .u8 92))),(1,(.t 30))]),
 oO 32 (.app 1 1 (.t 29) (.t 31)),
 oM 0 32]
def r30_8:List AI:=[oM 34 6,
 oB 35 .eql (.t 34) (.c (.i .u8 10)),
 oM 33 35]
def r30_9:List AI:=[oM 36 0,
 oO 37 (.bslice [.i .u8 0] 2 [(0,(.c (.i .u8 92))),(1,(.c (.i .u8 110)))]),
 oO 38 (.app 1 1 (.t 36) (.t 37)),
 oM 0 38]
def r30_10:List AI:=[oM 40 6,
 oB 41 .lss (.t 40) (.c (.i .u8 32)),
 oM 42 41,
 oG 43 (.mv (.t 6)) 42 false,
 oG 44 (.bin .gtr (.t 43) (.c (.i .u8 126))) 42 false,
 oO 45 (.pick (.t 42) (.c (.b true)) (.t 44)),
 oM 39 45]
def r30_11:List AI:=[oM 46 0,
 oM 47 6,
 oB 48 .shr (.t 47) (.c (.i .u64 4)),
 oO 49 (.ixS (.c (.s [48,49,50,51,52,53,54,55,56,57,97,98,99,100,101,102])) (.t 48)),
 oM 50 6,
 oB 51 .and (.t 50) (.c (.i .u8 15)),
 oO 52 (.ixS (.c (.s [48,49,50,51,52,53,54,55,56,57,97,98,99,100,101,102])) (.t 51)),
 oO 53 (.bslice [.i .u8 0] 4 [(0,(.c (.i .u8 92))),(1,(.c (.i .u8 120))),(2,(.t 49)),(3,(.t 52))]),
 oO 54 (.app 1 1 (.t 46) (.t 53)),
 oM 0 54]
def r30_12:List AI:=[oM 18 0,
 oM 19 6,
 oO 20 (.bslice [.i .u8 0] 1 [(0,(.t 19))]),
 oO 21 (.app 1 1 (.t 18) (.t 20)),
 oM 0 21]
def r30_13:List AI:=[oB 55 .add (.t 12) (.c (.i .i64 1)),
 oM 12 55]
def r30_14:List AI:=[oM 56 0,
 oO 57 (.bslice [.i .u8 0] 1 [(0,(.c (.i .u8 34)))]),
 oO 58 (.app 1 1 (.t 56) (.t 57)),
 oM 4 58]
abbrev c30_0:AC:=(.reg 13 r30_13)
abbrev l30_0:AC:=(.seq (.reg 3 r30_3) (.seq (.cond (.t 13) .skip (.exit 0)) (.seq (.block 1 (.seq (.reg 4 r30_4) (.seq (.reg 5 r30_5) (.block 2 (.seq (.reg 7 r30_6) (.cond (.t 22) (.reg 8 r30_7) (.seq (.reg 9 r30_8) (.cond (.t 33) (.reg 10 r30_9) (.seq (.reg 11 r30_10) (.cond (.t 39) (.reg 12 r30_11) (.reg 6 r30_12))))))))))) c30_0)))
abbrev c30_2:AC:=(.seq (.reg 14 r30_14) .ret)
abbrev c30_3:AC:=(.seq (.reg 1 r30_1) (.seq (.seq (.reg 2 r30_2) (.block 0 (.loop l30_0))) c30_2))
abbrev b30:AC:=(.seq (.reg 0 r30_0) c30_3)
def pf30:AF:={ nt:=59,res:=[.tmp 4],body:=b30 }
abbrev H30 (Q:AE→Sl→St→Prop)(K:List UInt8→Prop):Prop:=∀(σ:Sl)(st:St)(o0:Own)(x0:List UInt8),σ 4 = .sl o0 (List.map row8 x0)→App st.ow o0 x0.length→K x0→Q .ret σ st
abbrev I30_0 (prog:Prog)(d:Nat)(Q:AE→Sl→St→Prop)(s1:List UInt8)(t11:Int)(b0:List UInt8)(t12:Int):Prop:=
  ∀(σ:Sl)(st:St)(o_b0:Own),σ 0 = .sl o_b0 (List.map row8 b0)→σ 1 = .s s1→σ 11 = .i .i64 t11→σ 12 = .i .i64 t12→App st.ow o_b0 b0.length→W prog d (.loop l30_0) σ st (blockW 0 (thenW prog d c30_2 Q))
def T30_3 (prog:Prog)(K:List UInt8→Prop)(P0:List UInt8→Int→Prop)(b0:List UInt8)(s1:List UInt8)(t11:Int)(t12:Int):Prop:=
  P0 b0 (IntKind.i64.wrap (t12 + 1))
def T30_4 (prog:Prog)(K:List UInt8→Prop)(b0:List UInt8):Prop:=
  Fit (b0.length + [(34:UInt8)].length) 1∧K (b0 ++ [(34:UInt8)])
def T30_2 (prog:Prog)(K:List UInt8→Prop)(P0:List UInt8→Int→Prop)(b0:List UInt8)(s1:List UInt8)(t11:Int)(t12:Int):Prop:=
  (t12 < t11→0≤t12∧∃c'2:UInt8,s1[(t12).toNat]? = some c'2∧((c'2.toNat:Int) = 34→Fit (b0.length + [(92:UInt8),c'2].length) 1∧T30_3 prog K P0 (b0 ++ [(92:UInt8),c'2]) s1 t11 t12)∧(¬((c'2.toNat:Int) = 34)→((c'2.toNat:Int) = 92→Fit (b0.length + [(92:UInt8),c'2].length) 1∧T30_3 prog K P0 (b0 ++ [(92:UInt8),c'2]) s1 t11 t12)∧(¬((c'2.toNat:Int) = 92)→((c'2.toNat:Int) = 10→Fit (b0.length + [(92:UInt8),(110:UInt8)].length) 1∧T30_3 prog K P0 (b0 ++ [(92:UInt8),(110:UInt8)]) s1 t11 t12)∧(¬((c'2.toNat:Int) = 10)→((c'2.toNat:Int) < 32→0≤(bShr .u8 (c'2.toNat:Int) 4)∧∃c'23:UInt8,([48,49,50,51,52,53,54,55,56,57,97,98,99,100,101,102]:List UInt8)[(bShr .u8 (c'2.toNat:Int) 4).toNat]? = some c'23∧0≤(bAnd .u8 (c'2.toNat:Int) 15)∧∃c'25:UInt8,([48,49,50,51,52,53,54,55,56,57,97,98,99,100,101,102]:List UInt8)[(bAnd .u8 (c'2.toNat:Int) 15).toNat]? = some c'25∧Fit (b0.length + [(92:UInt8),(120:UInt8),c'23,c'25].length) 1∧T30_3 prog K P0 (b0 ++ [(92:UInt8),(120:UInt8),c'23,c'25]) s1 t11 t12)∧(¬((c'2.toNat:Int) < 32)→((c'2.toNat:Int) > 126→0≤(bShr .u8 (c'2.toNat:Int) 4)∧∃c'33:UInt8,([48,49,50,51,52,53,54,55,56,57,97,98,99,100,101,102]:List UInt8)[(bShr .u8 (c'2.toNat:Int) 4).toNat]? = some c'33∧0≤(bAnd .u8 (c'2.toNat:Int) 15)∧∃c'35:UInt8,([48,49,50,51,52,53,54,55,56,57,97,98,99,100,101,102]:List UInt8)[(bAnd .u8 (c'2.toNat:Int) 15).toNat]? = some c'35∧Fit (b0.length + [(92:UInt8),(120:UInt8),c'33,c'35].length) 1∧T30_3 prog K P0 (b0 ++ [(92:UInt8),(120:UInt8),c'33,c'35]) s1 t11 t12)∧(¬((c'2.toNat:Int) > 126)→Fit (b0.length + [c'2].length) 1∧T30_3 prog K P0 (b0 ++ [c'2]) s1 t11 t12))))))∧(¬(t12 < t11)→T30_4 prog K b0)
def T30_1 (prog:Prog)(K:List UInt8→Prop)(b0:List UInt8)(s1:List UInt8):Prop:=
  Fit (b0.length + [(34:UInt8)].length) 1∧∀P0:List UInt8→Int→Prop,(∀(b0:List UInt8)(t12:Int),T30_2 prog K P0 b0 s1 (s1.length:Int) t12→P0 b0 t12)→P0 (b0 ++ [(34:UInt8)]) 0
def T30_0 (prog:Prog)(K:List UInt8→Prop)(b0:List UInt8)(s1:List UInt8):Prop:=
  T30_1 prog K b0 s1
section
variable {prog:Prog}{d:Nat}{Q:AE→Sl→St→Prop}{K:List UInt8→Prop}(hQ:H30 Q K){σ:Sl}{st:St}
include hQ
theorem w30_3 {b0 s1:List UInt8}{t11 t12:Int}{P0:List UInt8→Int→Prop} (kP0 :∀(b0:List UInt8)(t12:Int),P0 b0 t12→I30_0 prog d Q s1 t11 b0 t12){o_b0:Own}(H0:σ 0 = .sl o_b0 (List.map row8 b0))(H1:σ 1 = .s s1)(H11:σ 11 = .i .i64 t11)(H12:σ 12 = .i .i64 t12)(A0:App st.ow o_b0 b0.length)(h:T30_3 prog K P0 b0 s1 t11 t12):W prog d c30_0 σ st (thenW prog d (.loop l30_0) (blockW 0 (thenW prog d c30_2 Q))):=
 W.reg0 rfl fun _ _=>b_ H12 rfl add_ (m_ (e_ (kP0 _ _ h _ _ _ H0 H1 H11 rfl A0)))
theorem w30_4 {b0:List UInt8}{o_b0:Own}(H0:σ 0 = .sl o_b0 (List.map row8 b0))(A0:App st.ow o_b0 b0.length)(h:T30_4 prog K b0):W prog d c30_2 σ st Q:=
 q_ rfl (s_mvL H0 (s_bslM (f:=row8) (l:=[(34:UInt8)]) rfl rfl (g_cons rfl rfl rfl g_nil) rfl (s_app row8_len rfl rfl rfl A0 h.1 rfl (fun o'1 ow'4 a'2 fr'3 on'5=>s_mvL rfl (e_ (rt_ (hQ _ _ _ _ rfl a'2 h.2)))))))
theorem w30_2 {b0 s1:List UInt8}{t11 t12:Int}{P0:List UInt8→Int→Prop} (kP0 :∀(b0:List UInt8)(t12:Int),P0 b0 t12→I30_0 prog d Q s1 t11 b0 t12){o_b0:Own}(H0:σ 0 = .sl o_b0 (List.map row8 b0))(H1:σ 1 = .s s1)(H11:σ 11 = .i .i64 t11)(H12:σ 12 = .i .i64 t12)(A0:App st.ow o_b0 b0.length)(h:T30_2 prog K P0 b0 s1 t11 t12):W prog d l30_0 σ st (thenW prog d (.loop l30_0) (blockW 0 (thenW prog d c30_2 Q))):=
 q_ rfl (b_ H12 H11 lss_ (e_ (sq_ (cs_ rfl (fun g'1=>sk_ (sq_ (bk_ (q_ rfl (m_ (m_ (e_ (q_ rfl (m_ (m_ ((h.1 g'1).2.elim fun c'2 e'3=>s_ixS H1 H12 (h.1 g'1).1 e'3.1 (m_ (e_ (bk_ (q_ rfl (s_mvI rfl (b_ rfl rfl eql_ (s_mvB rfl (em_ (g:=25) rfl (fun g'4=>gn_ (b:=true) rfl rfl (gn_ (b:=true) rfl rfl (pt_ rfl rfl (s_mvB rfl (e_ (ct_ rfl (W.reg0 rfl fun _ _=>s_mvL H0 (m_ (s_bslM (f:=row8) (l:=[(92:UInt8),c'2]) rfl rfl (g_cons rfl rfl rfl (g_cons rfl rfl rfl g_nil)) rfl (s_app row8_len rfl rfl rfl A0 (e'3.2.1 g'4).1 rfl (fun o'5 ow'8 a'6 fr'7 on'9=>s_mvL rfl (e_ (w30_3 hQ kP0 rfl H1 H11 H12 a'6 (e'3.2.1 g'4).2))))))))))))) (fun g'4=>gy_ rfl (s_mvI rfl (gy_ rfl (b_ rfl rfl eql_ (pf_ rfl rfl (s_mvB rfl (e_ (cs_ rfl (fun g'10=>W.reg0 rfl fun _ _=>s_mvL H0 (m_ (s_bslM (f:=row8) (l:=[(92:UInt8),c'2]) rfl rfl (g_cons rfl rfl rfl (g_cons rfl rfl rfl g_nil)) rfl (s_app row8_len rfl rfl rfl A0 ((e'3.2.2 g'4).1 g'10).1 rfl (fun o'11 ow'14 a'12 fr'13 on'15=>s_mvL rfl (e_ (w30_3 hQ kP0 rfl H1 H11 H12 a'12 ((e'3.2.2 g'4).1 g'10).2))))))) (fun g'10=>q_ rfl (m_ (b_ rfl rfl eql_ (m_ (e_ (cs_ rfl (fun g'16=>W.reg0 rfl fun _ _=>s_mvL H0 (s_bslM (f:=row8) (l:=[(92:UInt8),(110:UInt8)]) rfl rfl (g_cons rfl rfl rfl (g_cons rfl rfl rfl g_nil)) rfl (s_app row8_len rfl rfl rfl A0 (((e'3.2.2 g'4).2 g'10).1 g'16).1 rfl (fun o'17 ow'20 a'18 fr'19 on'21=>s_mvL rfl (e_ (w30_3 hQ kP0 rfl H1 H11 H12 a'18 (((e'3.2.2 g'4).2 g'10).1 g'16).2)))))) (fun g'16=>q_ rfl (s_mvI rfl (b_ rfl rfl lss_ (s_mvB rfl (em_ (g:=42) rfl (fun g'22=>gn_ (b:=true) rfl rfl (gn_ (b:=true) rfl rfl (pt_ rfl rfl (s_mvB rfl (e_ (ct_ rfl (W.reg0 rfl fun _ _=>s_mvL H0 (m_ (b_ rfl rfl (abin_shr' (by decide)) (((((e'3.2.2 g'4).2 g'10).2 g'16).1 g'22).2.elim fun c'23 e'24=>s_ixS rfl rfl ((((e'3.2.2 g'4).2 g'10).2 g'16).1 g'22).1 e'24.1 (m_ (b_ rfl rfl (abin_and _ _ _) (e'24.2.2.elim fun c'25 e'26=>s_ixS rfl rfl e'24.2.1 e'26.1 (s_bslM (f:=row8) (l:=[(92:UInt8),(120:UInt8),c'23,c'25]) rfl rfl (g_cons rfl rfl rfl (g_cons rfl rfl rfl (g_cons rfl rfl rfl (g_cons rfl rfl rfl g_nil)))) rfl (s_app row8_len rfl rfl rfl A0 e'26.2.1 rfl (fun o'27 ow'30 a'28 fr'29 on'31=>s_mvL rfl (e_ (w30_3 hQ kP0 rfl H1 H11 H12 a'28 e'26.2.2)))))))))))))))))) (fun g'22=>gy_ rfl (s_mvI rfl (gy_ rfl (b_ rfl rfl gtr_ (pf_ rfl rfl (s_mvB rfl (e_ (cs_ rfl (fun g'32=>W.reg0 rfl fun _ _=>s_mvL H0 (m_ (b_ rfl rfl (abin_shr' (by decide)) ((((((e'3.2.2 g'4).2 g'10).2 g'16).2 g'22).1 g'32).2.elim fun c'33 e'34=>s_ixS rfl rfl (((((e'3.2.2 g'4).2 g'10).2 g'16).2 g'22).1 g'32).1 e'34.1 (m_ (b_ rfl rfl (abin_and _ _ _) (e'34.2.2.elim fun c'35 e'36=>s_ixS rfl rfl e'34.2.1 e'36.1 (s_bslM (f:=row8) (l:=[(92:UInt8),(120:UInt8),c'33,c'35]) rfl rfl (g_cons rfl rfl rfl (g_cons rfl rfl rfl (g_cons rfl rfl rfl (g_cons rfl rfl rfl g_nil)))) rfl (s_app row8_len rfl rfl rfl A0 e'36.2.1 rfl (fun o'37 ow'40 a'38 fr'39 on'41=>s_mvL rfl (e_ (w30_3 hQ kP0 rfl H1 H11 H12 a'38 e'36.2.2)))))))))))) (fun g'32=>W.reg0 rfl fun _ _=>s_mvL H0 (m_ (s_bslM (f:=row8) (l:=[c'2]) rfl rfl (g_cons rfl rfl rfl g_nil) rfl (s_app row8_len rfl rfl rfl A0 (((((e'3.2.2 g'4).2 g'10).2 g'16).2 g'22).2 g'32).1 rfl (fun o'42 ow'45 a'43 fr'44 on'46=>s_mvL rfl (e_ (w30_3 hQ kP0 rfl H1 H11 H12 a'43 (((((e'3.2.2 g'4).2 g'10).2 g'16).2 g'22).2 g'32).2))))))))))))))))))))))))))))))))))))))))))))))))))))) (fun g'1=>ex_ (w30_4 hQ H0 A0 (h.2 g'1)))))))
theorem w30_1 {b0 s1:List UInt8}{o_b0:Own}(H0:σ 0 = .sl o_b0 (List.map row8 b0))(H1:σ 1 = .s s1)(A0:App st.ow o_b0 b0.length)(h:T30_1 prog K b0 s1):W prog d c30_3 σ st Q:=
 q_ rfl (s_mvL H0 (s_bslM (f:=row8) (l:=[(34:UInt8)]) rfl rfl (g_cons rfl rfl rfl g_nil) rfl (s_app row8_len rfl rfl rfl A0 h.1 rfl (fun o'1 ow'4 a'2 fr'3 on'5=>s_mvL rfl (e_ (sq_ (q_ rfl (m_ (ln_ H1 (m_ (e_ (bk_ (h.2 (I30_0 prog d Q s1 (s1.length:Int)) (fun _ _ hb _ _ _ H0 H1 H11 H12 A0=>W.loop (w30_2 hQ (fun _ _ x=>x) H0 H1 H11 H12 A0 hb)) _ _ _ rfl H1 rfl rfl a'2)))))))))))))
theorem w30_0 {b0 s1:List UInt8}{o_b0:Own}(H0:σ 0 = .sl o_b0 (List.map row8 b0))(H1:σ 1 = .s s1)(A0:App st.ow o_b0 b0.length)(h:T30_0 prog K b0 s1):W prog d (.seq (.reg 0 r30_0) c30_3) σ st Q:=
 q_ rfl (s_mvL (f:=row8) (l:=[]) rfl (e_ (w30_1 hQ H0 H1 A0 h)))
end
theorem p30 {prog:Prog}(hf:prog.fn 30 = some pf30){b0:List UInt8}{s1:List UInt8}{K:List UInt8→Prop}(h:T30_0 prog K b0 s1):PuAK prog 30 (List.map row8 b0) [.s s1] fun rows=>∃x:List UInt8,K x∧rows = List.map row8 x:=
  PuAK.of hf rfl fun d st o ha=>w30_0 (Q:=endW d _ (appK _)) (fun σ st' o' x h2 ha' hk=>⟨.sl o' (List.map row8 x),by simp only [pf30,ares,ares1,h2],_,_,rfl,by simpa using ha',⟨_,hk,rfl⟩⟩) rfl rfl (by simpa using ha) h
def r34_0:List AI:=[oC 4 (.s [])]
def r34_1:List AI:=[oO 5 (.alloc [.i .u8 0,.i .u8 0,.i .u8 0,.i .u8 0,.i .u8 0,.i .u8 0,.i .u8 0,.i .u8 0,.i .u8 0,.i .u8 0,.i .u8 0,.i .u8 0,.i .u8 0,.i .u8 0,.i .u8 0,.i .u8 0,.i .u8 0,.i .u8 0,.i .u8 0,.i .u8 0,.i .u8 0,.i .u8 0,.i .u8 0,.i .u8 0,.i .u8 0,.i .u8 0,.i .u8 0,.i .u8 0,.i .u8 0,.i .u8 0,.i .u8 0,.i .u8 0,.i .u8 0,.i .u8 0,.i .u8 0,.i .u8 0,.i .u8 0,.i .u8 0,.i .u8 0,.i .u8 0,.i .u8 0,.i .u8 0,.i .u8 0,.i .u8 0,.i .u8 0,.i .u8 0,.i .u8 0,.i .u8 0,.i .u8 0,.i .u8 0,.i .u8 0,.i .u8 0,.i .u8 0,.i .u8 0,.i .u8 0,.i .u8 0,.i .u8 0,.i .u8 0,.i .u8 0,.i .u8 0,.i .u8 0,.i .u8 0,.i .u8 0,.i .u8 0])]
def r34_2:List AI:=[oC 6 (.i .i64 64)]
def r34_3:List AI:=[oM 7 6,
 oB 8 .sub (.t 7) (.c (.i .i64 1)),
 oM 6 8]
def r34_4:List AI:=[oM 9 6,
 oM 10 0,
 oM 11 1,
 oB 12 .rem (.t 10) (.t 11),
 oO 13 (.ixS (.c (.s [48,49,50,51,52,53,54,55,56,57,97,98,99,100,101,102])) (.t 12)),
 oO 14 (.iaA 64 1 (.t 5) (.t 9)),
 oS 1 14 13]
def r34_5:List AI:=[oM 15 0,
 oM 16 1,
 oB 17 .quo (.t 15) (.t 16),
 oM 0 17]
def r34_6:List AI:=[oM 18 0,
 oB 19 .eql (.t 18) (.c (.i .u64 0))]
def r34_7:List AI:=[oM 20 6,
 oO 21 (.slA 64 1 (.t 5) (some (.t 20)) none),
 oO 22 (.b2s (.t 21)),
 oM 4 22]
abbrev l34_0:AC:=(.block 1 (.seq (.reg 3 r34_3) (.seq (.reg 4 r34_4) (.seq (.reg 5 r34_5) (.seq (.reg 6 r34_6) (.cond (.t 19) (.seq (.reg 7 r34_7) .ret) .skip))))))
abbrev b34:AC:=(.seq (.reg 0 r34_0) (.seq (.reg 1 r34_1) (.seq (.reg 2 r34_2) (.block 0 (.loop l34_0)))))
def pf34:AF:={ nt:=23,res:=[.tmp 4],body:=b34 }
abbrev H34 (Q:AE→Sl→St→Prop)(K:List UInt8→Prop):Prop:=∀(σ:Sl)(st:St)(x0:List UInt8),σ 4 = .s x0→K x0→Q .ret σ st
abbrev I34_0 (prog:Prog)(d:Nat)(Q:AE→Sl→St→Prop)(base1:Int)(n0:Int)(at6:Int)(m4096:List (UInt8)):Prop:=
  ∀(σ:Sl)(st:St)(v4096:Nat),σ 0 = .i .u64 n0→σ 1 = .i .u64 base1→σ 5 = .p (d,4096) v4096 0→σ 6 = .i .i64 at6→lk st.bx (d,4096) = some (v4096,List.map c8 m4096)→W prog d (.loop l34_0) σ st (blockW 0 Q)
def T34_1 (prog:Prog)(K:List UInt8→Prop)(P0:Int→Int→List (UInt8)→Prop)(n0:Int)(base1:Int)(at6:Int)(m4096:List (UInt8)):Prop:=
  base1≠0∧0≤((n0:Int).tmod base1)∧∃c'1:UInt8,([48,49,50,51,52,53,54,55,56,57,97,98,99,100,101,102]:List UInt8)[((n0:Int).tmod base1).toNat]? = some c'1∧0≤(IntKind.i64.wrap (at6 - 1))∧(IntKind.i64.wrap (at6 - 1)).toNat < 64∧(IntKind.i64.wrap (at6 - 1)).toNat < m4096.length∧base1≠0∧((IntKind.u64.wrap ((n0:Int).tdiv base1)) = 0→(m4096.set ((IntKind.i64.wrap (at6 - 1)).toNat) c'1).length = 64∧0≤(IntKind.i64.wrap (at6 - 1))∧(IntKind.i64.wrap (at6 - 1)).toNat≤64∧K ((m4096.set ((IntKind.i64.wrap (at6 - 1)).toNat) c'1).drop (IntKind.i64.wrap (at6 - 1)).toNat))∧(¬((IntKind.u64.wrap ((n0:Int).tdiv base1)) = 0)→P0 (IntKind.u64.wrap ((n0:Int).tdiv base1)) (IntKind.i64.wrap (at6 - 1)) (m4096.set ((IntKind.i64.wrap (at6 - 1)).toNat) c'1))
def T34_0 (prog:Prog)(K:List UInt8→Prop)(n0:Int)(base1:Int):Prop:=
  ∀P0:Int→Int→List (UInt8)→Prop,(∀(n0:Int)(at6:Int)(m4096:List (UInt8)),T34_1 prog K P0 n0 base1 at6 m4096→P0 n0 at6 m4096)→P0 n0 64 (List.replicate 64 0)
section
variable {prog:Prog}{d:Nat}{Q:AE→Sl→St→Prop}{K:List UInt8→Prop}(hQ:H34 Q K){σ:Sl}{st:St}
include hQ
theorem w34_1 {n0 base1 at6:Int}{m4096:List (UInt8)}{P0:Int→Int→List (UInt8)→Prop} (kP0 :∀(n0:Int)(at6:Int)(m4096:List (UInt8)),P0 n0 at6 m4096→I34_0 prog d Q base1 n0 at6 m4096){v4096:Nat}(H0:σ 0 = .i .u64 n0)(H1:σ 1 = .i .u64 base1)(H5:σ 5 = .p (d,4096) v4096 0)(H6:σ 6 = .i .i64 at6)(B4096:lk st.bx (d,4096) = some (v4096,List.map c8 m4096))(h:T34_1 prog K P0 n0 base1 at6 m4096):W prog d l34_0 σ st (thenW prog d (.loop l34_0) (blockW 0 Q)):=
 bk_ (q_ rfl (m_ (b_ H6 rfl sub_ (m_ (e_ (q_ rfl (m_ (m_ (m_ (b_ H0 H1 (abin_rem' h.1) (h.2.2.elim fun c'1 e'2=>s_ixS rfl rfl h.2.1 e'2.1 (s_iaP1 H5 rfl e'2.2.1 e'2.2.2.1 (s_storeA (f:=c8) (a:=c'1) c8_one rfl B4096 rfl e'2.2.2.2.1 (e_ (q_ rfl (m_ (m_ (b_ H0 H1 (abin_quo' e'2.2.2.2.2.1) (m_ (e_ (q_ rfl (m_ (b_ rfl rfl eql_ (e_ (cs_ rfl (fun g'3=>q_ rfl (m_ (s_slA_lo H5 lk_here (e'2.2.2.2.2.2.1 g'3).1 rfl rfl (e'2.2.2.2.2.2.1 g'3).2.1 (e'2.2.2.2.2.2.1 g'3).2.2.1 (s_b2s rfl (m_ (e_ (rt_ (hQ _ _ _ rfl (e'2.2.2.2.2.2.1 g'3).2.2.2)))))))) (fun g'3=>sk_ (kP0 _ _ _ (e'2.2.2.2.2.2.2 g'3) _ _ _ rfl H1 H5 rfl lk_here)))))))))))))))))))))))))))
theorem w34_0 {n0 base1:Int}(H0:σ 0 = .i .u64 n0)(H1:σ 1 = .i .u64 base1)(h:T34_0 prog K n0 base1):W prog d (.seq (.reg 0 r34_0) (.seq (.reg 1 r34_1) (.seq (.reg 2 r34_2) (.block 0 (.loop l34_0))))) σ st Q:=
 q_ rfl (m_ (e_ (sq_ (W.reg (s_alloc (e_ (q_ rfl (m_ (e_ (bk_ (h (I34_0 prog d Q base1) (fun _ _ _ hb _ _ _ H0 H1 H5 H6 B4096=>W.loop (w34_1 hQ (fun _ _ _ x=>x) H0 H1 H5 H6 B4096 hb)) _ _ _ H0 H1 rfl rfl (show lk _ (d,4096) = some (_,(List.map c8 (List.replicate 64 0):List AV)) from lk_here))))))))))))
end
theorem p34 {prog:Prog}(hf:prog.fn 34 = some pf34){n0:Int}{base1:Int}{K:List UInt8→Prop}(h:T34_0 prog K n0 base1) :∃x0:List UInt8,K x0∧Pus prog 34 [.i .u64 n0,.i .u64 base1] (.s x0):=by
  obtain ⟨v,hv,x0,hk,rfl⟩:=Pus.of (K:=fun v=>∃x0:List UInt8,K x0∧v = .s x0) hf rfl (w34_0 (σ:=sl0 [.i .u64 n0,.i .u64 base1]) (fun σ st   x0 H4 hk=>⟨.s x0,by simp only [pf34,ares,aresL,H4,ares1,Option.map_some],_,rfl,x0,hk,rfl⟩) rfl rfl h)
  exact ⟨x0,hk,hv⟩
def r37_0:List AI:=[oC 6 (.i .u64 0),
 oC 7 (.i .i64 0)]
def r37_1:List AI:=[oC 8 (.i .u64 0),
 oC 9 (.b false)]
def r37_2:List AI:=[oM 12 0,
 oO 13 (.len true (.t 12)),
 oC 14 (.i .i64 0)]
def r37_3:List AI:=[oB 15 .lss (.t 14) (.t 13)]
def r37_4:List AI:=[oM 16 14,
 oM 10 16]
def r37_5:List AI:=[oM 17 1,
 oO 18 (.slS (.c (.s [48,49,50,51,52,53,54,55,56,57,97,98,99,100,101,102])) none (some (.t 17))),
 oM 19 0,
 oM 20 10,
 oO 21 (.ixS (.t 19) (.t 20)),
 oO 22 (.call false 43 [(.t 18),(.t 21)]),
 oM 11 22]
def r37_6:List AI:=[oM 23 11,
 oB 24 .lss (.t 23) (.c (.i .i64 0)),
 oM 25 24,
 oG 26 (.mv (.t 10)) 25 false,
 oG 27 (.bin .eql (.t 26) (.c (.i .i64 1))) 25 false,
 oG 28 (.mv (.t 27)) 25 false,
 oG 29 (.mv (.t 0)) 28 true,
 oG 30 (.ixS (.t 29) (.c (.i .i64 0))) 28 true,
 oG 31 (.bin .eql (.t 30) (.c (.i .u8 48))) 28 true,
 oG 32 (.pick (.t 28) (.t 31) (.c (.b false))) 25 false,
 oO 33 (.pick (.t 25) (.c (.b true)) (.t 32))]
def r37_7:List AI:=[oC 6 (.i .u64 0),
 oC 7 (.i .i64 12)]
def r37_8:List AI:=[oM 34 9,
 oM 35 34,
 oG 36 (.mv (.t 8)) 35 false,
 oG 37 (.mv (.t 2)) 35 false,
 oG 38 (.mv (.t 11)) 35 false,
 oG 39 (.cvi .u64 (.t 38)) 35 false,
 oG 40 (.bin .sub (.t 37) (.t 39)) 35 false,
 oG 41 (.mv (.t 1)) 35 false,
 oG 42 (.bin .quo (.t 40) (.t 41)) 35 false,
 oG 43 (.bin .gtr (.t 36) (.t 42)) 35 false,
 oO 44 (.pick (.t 35) (.c (.b true)) (.t 43)),
 oM 9 44]
def r37_9:List AI:=[oM 45 9,
 oO 46 (.un .not (.t 45))]
def r37_10:List AI:=[oM 47 8,
 oM 48 1,
 oB 49 .mul (.t 47) (.t 48),
 oM 50 11,
 oO 51 (.cvi .u64 (.t 50)),
 oB 52 .add (.t 49) (.t 51),
 oM 8 52]
def r37_11:List AI:=[oB 53 .add (.t 14) (.c (.i .i64 1)),
 oM 14 53]
def r37_12:List AI:=[oM 55 0,
 oB 56 .eql (.t 55) (.c (.s [])),
 oM 54 56]
def r37_13:List AI:=[oC 6 (.i .u64 0),
 oC 7 (.i .i64 12)]
def r37_14:List AI:=[oM 58 9,
 oM 57 58]
def r37_15:List AI:=[oC 6 (.i .u64 0),
 oC 7 (.i .i64 16)]
def r37_16:List AI:=[oM 59 8,
 oM 6 59,
 oC 7 (.i .i64 0)]
abbrev c37_0:AC:=(.reg 11 r37_11)
abbrev l37_0:AC:=(.seq (.reg 3 r37_3) (.seq (.cond (.t 15) .skip (.exit 0)) (.seq (.block 1 (.seq (.reg 4 r37_4) (.seq (.reg 5 r37_5) (.seq (.seq (.reg 6 r37_6) (.cond (.t 33) (.seq (.reg 7 r37_7) .ret) .skip)) (.seq (.reg 8 r37_8) (.seq (.reg 9 r37_9) (.cond (.t 46) (.reg 10 r37_10) .skip))))))) c37_0)))
abbrev c37_2:AC:=(.seq (.block 2 (.seq (.reg 12 r37_12) (.cond (.t 54) (.seq (.reg 13 r37_13) .ret) (.seq (.reg 14 r37_14) (.cond (.t 57) (.seq (.reg 15 r37_15) .ret) .skip))))) (.seq (.reg 16 r37_16) .ret))
abbrev c37_3:AC:=(.seq (.seq (.reg 2 r37_2) (.block 0 (.loop l37_0))) c37_2)
abbrev c37_4:AC:=(.seq (.reg 1 r37_1) c37_3)
abbrev b37:AC:=(.seq (.reg 0 r37_0) c37_4)
def pf37:AF:={ nt:=60,res:=[.tmp 6,.tmp 7],body:=b37 }
abbrev H37 (Q:AE→Sl→St→Prop)(K:Int→Int→Prop):Prop:=∀(σ:Sl)(st:St)(x0:Int)(x1:Int),σ 6 = .i .u64 x0→σ 7 = .i .i64 x1→K x0 x1→Q .ret σ st
abbrev I37_0 (prog:Prog)(d:Nat)(Q:AE→Sl→St→Prop)(s0:List UInt8)(base1:Int)(most2:Int)(t13:Int)(n8:Int)(far9:Bool)(t14:Int):Prop:=
  ∀(σ:Sl)(st:St),σ 0 = .s s0→σ 1 = .i .u64 base1→σ 2 = .i .u64 most2→σ 8 = .i .u64 n8→σ 9 = .b far9→σ 13 = .i .i64 t13→σ 14 = .i .i64 t14→W prog d (.loop l37_0) σ st (blockW 0 (thenW prog d c37_2 Q))
def T37_4 (prog:Prog)(K:Int→Int→Prop)(P0:Int→Bool→Int→Prop)(s0:List UInt8)(base1:Int)(most2:Int)(n8:Int)(far9:Bool)(t13:Int)(t14:Int):Prop:=
  P0 n8 far9 (IntKind.i64.wrap (t14 + 1))
def T37_5 (prog:Prog)(K:Int→Int→Prop)(s0:List UInt8)(n8:Int)(far9:Bool):Prop:=
  (s0 = ([]:List UInt8)→K 0 12)∧(¬(s0 = ([]:List UInt8))→(far9 = true→K 0 16)∧(far9 = false→K n8 0))
def T37_3 (prog:Prog)(K:Int→Int→Prop)(P0:Int→Bool→Int→Prop)(s0:List UInt8)(base1:Int)(most2:Int)(n8:Int)(far9:Bool)(t13:Int)(t14:Int):Prop:=
  (t14 < t13→0≤base1∧(base1).toNat≤([48,49,50,51,52,53,54,55,56,57,97,98,99,100,101,102]:List UInt8).length∧0≤t14∧∃c'2:UInt8,s0[(t14).toNat]? = some c'2∧∃r'4:Int,Pus prog 43 [.s (([48,49,50,51,52,53,54,55,56,57,97,98,99,100,101,102]:List UInt8).take (base1).toNat),.i .u8 (c'2.toNat:Int)] (.i .i64 r'4)∧(r'4 < 0→K 0 12)∧(¬(r'4 < 0)→(t14 = 1→∃c'8:UInt8,s0[0]? = some c'8∧((c'8.toNat:Int) = 48→K 0 12)∧(¬((c'8.toNat:Int) = 48)→(far9 = true→T37_4 prog K P0 s0 base1 most2 n8 true t13 t14)∧(far9 = false→base1≠0∧(¬(n8 > (IntKind.u64.wrap (((IntKind.u64.wrap (most2 - (IntKind.u64.wrap r'4))):Int).tdiv base1)))→T37_4 prog K P0 s0 base1 most2 (IntKind.u64.wrap ((IntKind.u64.wrap (n8 * base1)) + (IntKind.u64.wrap r'4))) (decide (n8 > (IntKind.u64.wrap (((IntKind.u64.wrap (most2 - (IntKind.u64.wrap r'4))):Int).tdiv base1)))) t13 t14)∧(¬(¬(n8 > (IntKind.u64.wrap (((IntKind.u64.wrap (most2 - (IntKind.u64.wrap r'4))):Int).tdiv base1))))→T37_4 prog K P0 s0 base1 most2 n8 (decide (n8 > (IntKind.u64.wrap (((IntKind.u64.wrap (most2 - (IntKind.u64.wrap r'4))):Int).tdiv base1)))) t13 t14))))∧(¬(t14 = 1)→(far9 = true→T37_4 prog K P0 s0 base1 most2 n8 true t13 t14)∧(far9 = false→base1≠0∧(¬(n8 > (IntKind.u64.wrap (((IntKind.u64.wrap (most2 - (IntKind.u64.wrap r'4))):Int).tdiv base1)))→T37_4 prog K P0 s0 base1 most2 (IntKind.u64.wrap ((IntKind.u64.wrap (n8 * base1)) + (IntKind.u64.wrap r'4))) (decide (n8 > (IntKind.u64.wrap (((IntKind.u64.wrap (most2 - (IntKind.u64.wrap r'4))):Int).tdiv base1)))) t13 t14)∧(¬(¬(n8 > (IntKind.u64.wrap (((IntKind.u64.wrap (most2 - (IntKind.u64.wrap r'4))):Int).tdiv base1))))→T37_4 prog K P0 s0 base1 most2 n8 (decide (n8 > (IntKind.u64.wrap (((IntKind.u64.wrap (most2 - (IntKind.u64.wrap r'4))):Int).tdiv base1)))) t13 t14)))))∧(¬(t14 < t13)→T37_5 prog K s0 n8 far9)
def T37_2 (prog:Prog)(K:Int→Int→Prop)(s0:List UInt8)(base1:Int)(most2:Int)(n8:Int)(far9:Bool):Prop:=
  ∀P0:Int→Bool→Int→Prop,(∀(n8:Int)(far9:Bool)(t14:Int),T37_3 prog K P0 s0 base1 most2 n8 far9 (s0.length:Int) t14→P0 n8 far9 t14)→P0 n8 far9 0
def T37_1 (prog:Prog)(K:Int→Int→Prop)(s0:List UInt8)(base1:Int)(most2:Int):Prop:=
  T37_2 prog K s0 base1 most2 0 false
def T37_0 (prog:Prog)(K:Int→Int→Prop)(s0:List UInt8)(base1:Int)(most2:Int):Prop:=
  T37_1 prog K s0 base1 most2
section
variable {prog:Prog}{d:Nat}{Q:AE→Sl→St→Prop}{K:Int→Int→Prop}(hQ:H37 Q K){σ:Sl}{st:St}
include hQ
theorem w37_4 {s0:List UInt8}{base1 most2 n8:Int}{far9:Bool}{t13 t14:Int}{P0:Int→Bool→Int→Prop} (kP0 :∀(n8:Int)(far9:Bool)(t14:Int),P0 n8 far9 t14→I37_0 prog d Q s0 base1 most2 t13 n8 far9 t14)(H0:σ 0 = .s s0)(H1:σ 1 = .i .u64 base1)(H2:σ 2 = .i .u64 most2)(H8:σ 8 = .i .u64 n8)(H9:σ 9 = .b far9)(H13:σ 13 = .i .i64 t13)(H14:σ 14 = .i .i64 t14)(h:T37_4 prog K P0 s0 base1 most2 n8 far9 t13 t14):W prog d c37_0 σ st (thenW prog d (.loop l37_0) (blockW 0 (thenW prog d c37_2 Q))):=
 W.reg0 rfl fun _ _=>b_ H14 rfl add_ (m_ (e_ (kP0 _ _ _ h _ _ H0 H1 H2 H8 H9 H13 rfl)))
theorem w37_5 {s0:List UInt8}{n8:Int}{far9:Bool}(H0:σ 0 = .s s0)(H8:σ 8 = .i .u64 n8)(H9:σ 9 = .b far9)(h:T37_5 prog K s0 n8 far9):W prog d c37_2 σ st Q:=
 sq_ (bk_ (q_ rfl (m_ (b_ H0 rfl seq_ (m_ (e_ (cs_ rfl (fun g'1=>q_ rfl (m_ (m_ (e_ (rt_ (hQ _ _ _ _ rfl rfl (h.1 g'1))))))) (fun g'1=>q_ rfl (m_ (m_ (e_ (cb_ H9 (fun g'2=>q_ rfl (m_ (m_ (e_ (rt_ (hQ _ _ _ _ rfl rfl ((h.2 g'1).1 g'2))))))) (fun g'2=>sk_ (q_ rfl (m_ (m_ (m_ (e_ (rt_ (hQ _ _ _ _ H8 rfl ((h.2 g'1).2 g'2)))))))))))))))))))))
theorem w37_3 {s0:List UInt8}{base1 most2 n8:Int}{far9:Bool}{t13 t14:Int}{P0:Int→Bool→Int→Prop} (kP0 :∀(n8:Int)(far9:Bool)(t14:Int),P0 n8 far9 t14→I37_0 prog d Q s0 base1 most2 t13 n8 far9 t14)(H0:σ 0 = .s s0)(H1:σ 1 = .i .u64 base1)(H2:σ 2 = .i .u64 most2)(H8:σ 8 = .i .u64 n8)(H9:σ 9 = .b far9)(H13:σ 13 = .i .i64 t13)(H14:σ 14 = .i .i64 t14)(h:T37_3 prog K P0 s0 base1 most2 n8 far9 t13 t14):W prog d l37_0 σ st (thenW prog d (.loop l37_0) (blockW 0 (thenW prog d c37_2 Q))):=
 q_ rfl (b_ H14 H13 lss_ (e_ (sq_ (cs_ rfl (fun g'1=>sk_ (sq_ (bk_ (q_ rfl (m_ (m_ (e_ (q_ rfl (m_ (s_slS_hi rfl H1 (h.1 g'1).1 (h.1 g'1).2.1 (m_ (m_ ((h.1 g'1).2.2.2.elim fun c'2 e'3=>s_ixS H0 H14 (h.1 g'1).2.2.1 e'3.1 (e'3.2.elim fun r'4 e'5=>ca_ (sc rfl rfl (sc rfl rfl sn)) e'5.1 (m_ (e_ (sq_ (q_ rfl (s_mvI rfl (b_ rfl rfl lss_ (s_mvB rfl (em_ (g:=25) rfl (fun g'6=>gn_ (b:=true) rfl rfl (gn_ (b:=true) rfl rfl (gn_ (b:=true) rfl rfl (gt_ rfl (gt_ rfl (gt_ rfl (gn_ (b:=true) rfl rfl (pt_ rfl rfl (e_ (ct_ rfl (q_ rfl (m_ (m_ (e_ (rt_ (hQ _ _ _ _ rfl rfl (e'5.2.1 g'6))))))))))))))))) (fun g'6=>gy_ rfl (s_mvI H14 (gy_ rfl (b_ rfl rfl eql_ (gy_ rfl (s_mvB rfl (em_ (g:=28) rfl (fun g'7=>gy_ rfl (s_mvS H0 (gy_ rfl (((e'5.2.2 g'6).1 g'7).elim fun c'8 e'9=>s_ixS rfl rfl (by decide) e'9.1 (gy_ rfl (b_ rfl rfl eql_ (gy_ rfl (pt_ rfl rfl (pf_ rfl rfl (e_ (cs_ rfl (fun g'10=>q_ rfl (m_ (m_ (e_ (rt_ (hQ _ _ _ _ rfl rfl (e'9.2.1 g'10))))))) (fun g'10=>sk_ (q_ rfl (s_mvB H9 (s_mvB rfl (eb_ (g:=35) rfl (fun g'11=>gn_ (b:=true) rfl rfl (gn_ (b:=true) rfl rfl (gn_ (b:=true) rfl rfl (gn_ (b:=true) rfl rfl (gn_ (b:=true) rfl rfl (gn_ (b:=true) rfl rfl (gn_ (b:=true) rfl rfl (gn_ (b:=true) rfl rfl (pt_ rfl rfl (s_mvB rfl (e_ (q_ rfl (m_ (nt_ rfl (e_ (cf_ rfl (sk_ (w37_4 hQ kP0 H0 H1 H2 H8 rfl H13 H14 ((e'9.2.2 g'10).1 g'11))))))))))))))))))) (fun g'11=>gy_ rfl (s_mvI H8 (gy_ rfl (s_mvI H2 (gy_ rfl (s_mvI rfl (gy_ rfl (s_cvi rfl (gy_ rfl (b_ rfl rfl sub_ (gy_ rfl (s_mvI H1 (gy_ rfl (b_ rfl rfl (abin_quo' ((e'9.2.2 g'10).2 g'11).1) (gy_ rfl (b_ rfl rfl gtr_ (pf_ rfl rfl (s_mvB rfl (e_ (q_ rfl (m_ (np_ rfl (e_ (cs_ rfl (fun g'12=>W.reg0 rfl fun _ _=>m_ (m_ (b_ H8 H1 (abin_mul _ _ _) (m_ (s_cvi rfl (b_ rfl rfl add_ (m_ (e_ (w37_4 hQ kP0 H0 H1 H2 rfl rfl H13 H14 (((e'9.2.2 g'10).2 g'11).2.1 g'12)))))))))) (fun g'12=>sk_ (w37_4 hQ kP0 H0 H1 H2 H8 rfl H13 H14 (((e'9.2.2 g'10).2 g'11).2.2 g'12))))))))))))))))))))))))))))))))))))))))))) (fun g'7=>gn_ (b:=false) rfl rfl (gn_ (b:=false) rfl rfl (gn_ (b:=false) rfl rfl (gy_ rfl (pf_ rfl rfl (pf_ rfl rfl (e_ (cf_ rfl (sk_ (q_ rfl (s_mvB H9 (s_mvB rfl (eb_ (g:=35) rfl (fun g'13=>gn_ (b:=true) rfl rfl (gn_ (b:=true) rfl rfl (gn_ (b:=true) rfl rfl (gn_ (b:=true) rfl rfl (gn_ (b:=true) rfl rfl (gn_ (b:=true) rfl rfl (gn_ (b:=true) rfl rfl (gn_ (b:=true) rfl rfl (pt_ rfl rfl (s_mvB rfl (e_ (q_ rfl (m_ (nt_ rfl (e_ (cf_ rfl (sk_ (w37_4 hQ kP0 H0 H1 H2 H8 rfl H13 H14 (((e'5.2.2 g'6).2 g'7).1 g'13))))))))))))))))))) (fun g'13=>gy_ rfl (s_mvI H8 (gy_ rfl (s_mvI H2 (gy_ rfl (s_mvI rfl (gy_ rfl (s_cvi rfl (gy_ rfl (b_ rfl rfl sub_ (gy_ rfl (s_mvI H1 (gy_ rfl (b_ rfl rfl (abin_quo' (((e'5.2.2 g'6).2 g'7).2 g'13).1) (gy_ rfl (b_ rfl rfl gtr_ (pf_ rfl rfl (s_mvB rfl (e_ (q_ rfl (m_ (np_ rfl (e_ (cs_ rfl (fun g'14=>W.reg0 rfl fun _ _=>m_ (m_ (b_ H8 H1 (abin_mul _ _ _) (m_ (s_cvi rfl (b_ rfl rfl add_ (m_ (e_ (w37_4 hQ kP0 H0 H1 H2 rfl rfl H13 H14 ((((e'5.2.2 g'6).2 g'7).2 g'13).2.1 g'14)))))))))) (fun g'14=>sk_ (w37_4 hQ kP0 H0 H1 H2 H8 rfl H13 H14 ((((e'5.2.2 g'6).2 g'7).2 g'13).2.2 g'14))))))))))))))))))))))))))))))))))))))))))))))))))))))))))))))))))))) (fun g'1=>ex_ (w37_5 hQ H0 H8 H9 (h.2 g'1)))))))
theorem w37_2 {s0:List UInt8}{base1 most2 n8:Int}{far9:Bool}(H0:σ 0 = .s s0)(H1:σ 1 = .i .u64 base1)(H2:σ 2 = .i .u64 most2)(H8:σ 8 = .i .u64 n8)(H9:σ 9 = .b far9)(h:T37_2 prog K s0 base1 most2 n8 far9):W prog d c37_3 σ st Q:=
 sq_ (q_ rfl (m_ (ln_ H0 (m_ (e_ (bk_ (h (I37_0 prog d Q s0 base1 most2 (s0.length:Int)) (fun _ _ _ hb _ _ H0 H1 H2 H8 H9 H13 H14=>W.loop (w37_3 hQ (fun _ _ _ x=>x) H0 H1 H2 H8 H9 H13 H14 hb)) _ _ H0 H1 H2 H8 H9 rfl rfl)))))))
theorem w37_1 {s0:List UInt8}{base1 most2:Int}(H0:σ 0 = .s s0)(H1:σ 1 = .i .u64 base1)(H2:σ 2 = .i .u64 most2)(h:T37_1 prog K s0 base1 most2):W prog d c37_4 σ st Q:=
 q_ rfl (m_ (m_ (e_ (w37_2 hQ H0 H1 H2 rfl rfl h))))
theorem w37_0 {s0:List UInt8}{base1 most2:Int}(H0:σ 0 = .s s0)(H1:σ 1 = .i .u64 base1)(H2:σ 2 = .i .u64 most2)(h:T37_0 prog K s0 base1 most2):W prog d (.seq (.reg 0 r37_0) c37_4) σ st Q:=
 q_ rfl (m_ (m_ (e_ (w37_1 hQ H0 H1 H2 h))))
end
theorem p37 {prog:Prog}(hf:prog.fn 37 = some pf37){s0:List UInt8}{base1:Int}{most2:Int}{K:Int→Int→Prop}(h:T37_0 prog K s0 base1 most2) :∃x0:Int,∃x1:Int,K x0 x1∧Pus prog 37 [.s s0,.i .u64 base1,.i .u64 most2] (.tup [.i .u64 x0,.i .i64 x1]):=by
  obtain ⟨v,hv,x0,x1,hk,rfl⟩:=Pus.of (K:=fun v=>∃x0:Int,∃x1:Int,K x0 x1∧v = .tup [.i .u64 x0,.i .i64 x1]) hf rfl (w37_0 (σ:=sl0 [.s s0,.i .u64 base1,.i .u64 most2]) (fun σ st   x0 x1 H6 H7 hk=>⟨.tup [.i .u64 x0,.i .i64 x1],by simp only [pf37,ares,aresL,H6,H7,ares1,Option.map_some],_,rfl,x0,x1,hk,rfl⟩) rfl rfl rfl h)
  exact ⟨x0,x1,hk,hv⟩
def r39_0:List AI:=[oC 2 (.s []),
 oC 3 (.s []),
 oC 4 (.b false)]
def r39_1:List AI:=[oM 11 0,
 oO 12 (.call false 36 [(.t 11),(.c (.s [34]))]),
 oM 10 12,
 oE 13 0 10,
 oE 14 1 10,
 oM 5 13,
 oM 6 14]
def r39_2:List AI:=[oM 15 6,
 oO 16 (.un .not (.t 15))]
def r39_3:List AI:=[oC 2 (.s []),
 oC 3 (.s []),
 oC 4 (.b false)]
def r39_4:List AI:=[oC 7 (.sl .full [])]
def r39_5:List AI:=[oM 17 5,
 oB 18 .neq (.t 17) (.c (.s []))]
def r39_6:List AI:=[oM 19 5,
 oO 20 (.ixS (.t 19) (.c (.i .i64 0))),
 oM 8 20]
def r39_7:List AI:=[oM 21 5,
 oO 22 (.slS (.t 21) (some (.c (.i .i64 1))) none),
 oM 5 22]
def r39_8:List AI:=[oM 24 8,
 oB 25 .eql (.t 24) (.c (.i .u8 34)),
 oM 23 25]
def r39_9:List AI:=[oM 26 7,
 oO 27 (.b2s (.t 26)),
 oM 28 5,
 oM 2 27,
 oM 3 28,
 oC 4 (.b true)]
def r39_10:List AI:=[oM 30 8,
 oB 31 .lss (.t 30) (.c (.i .u8 32)),
 oM 32 31,
 oG 33 (.mv (.t 8)) 32 false,
 oG 34 (.bin .gtr (.t 33) (.c (.i .u8 126))) 32 false,
 oO 35 (.pick (.t 32) (.c (.b true)) (.t 34)),
 oM 29 35]
def r39_11:List AI:=[oC 2 (.s []),
 oC 3 (.s []),
 oC 4 (.b false)]
def r39_12:List AI:=[oM 37 8,
 oB 38 .eql (.t 37) (.c (.i .u8 92)),
 oM 36 38]
def r39_13:List AI:=[oC 9 (.b false)]
def r39_14:List AI:=[oM 40 5,
 oO 41 (.call false 45 [(.t 40)]),
 oM 39 41,
 oE 42 0 39,
 oE 43 1 39,
 oE 44 2 39,
 oM 8 42,
 oM 5 43,
 oM 9 44]
def r39_15:List AI:=[oM 45 9,
 oO 46 (.un .not (.t 45))]
def r39_16:List AI:=[oC 2 (.s []),
 oC 3 (.s []),
 oC 4 (.b false)]
def r39_17:List AI:=[oM 47 7,
 oM 48 8,
 oO 49 (.bslice [.i .u8 0] 1 [(0,(.t 48))]),
 oO 50 (.app 1 1 (.t 47) (.t 49)),
 oM 7 50]
def r39_18:List AI:=[oC 2 (.s []),
 oC 3 (.s []),
 oC 4 (.b false)]
abbrev c39_0:AC:=(.reg 17 r39_17)
abbrev l39_0:AC:=(.seq (.seq (.reg 5 r39_5) (.cond (.t 18) .skip (.exit 0))) (.block 1 (.seq (.reg 6 r39_6) (.seq (.reg 7 r39_7) (.seq (.block 2 (.seq (.reg 8 r39_8) (.cond (.t 23) (.seq (.reg 9 r39_9) .ret) (.seq (.reg 10 r39_10) (.cond (.t 29) (.seq (.reg 11 r39_11) .ret) (.seq (.reg 12 r39_12) (.cond (.t 36) (.seq (.reg 13 r39_13) (.seq (.reg 14 r39_14) (.seq (.reg 15 r39_15) (.cond (.t 46) (.seq (.reg 16 r39_16) .ret) .skip)))) .skip))))))) c39_0)))))
abbrev c39_2:AC:=(.seq (.reg 18 r39_18) .ret)
abbrev c39_3:AC:=(.seq (.reg 1 r39_1) (.seq (.seq (.reg 2 r39_2) (.cond (.t 16) (.seq (.reg 3 r39_3) .ret) .skip)) (.seq (.reg 4 r39_4) (.seq (.block 0 (.loop l39_0)) c39_2))))
abbrev b39:AC:=(.seq (.reg 0 r39_0) c39_3)
def pf39:AF:={ nt:=51,res:=[.tmp 2,.tmp 3,.tmp 4],body:=b39 }
abbrev H39 (Q:AE→Sl→St→Prop)(K:List UInt8→List UInt8→Bool→Prop):Prop:=∀(σ:Sl)(st:St)(x0:List UInt8)(x1:List UInt8)(x2:Bool),σ 2 = .s x0→σ 3 = .s x1→σ 4 = .b x2→K x0 x1 x2→Q .ret σ st
abbrev I39_0 (prog:Prog)(d:Nat)(Q:AE→Sl→St→Prop)(rest5:List UInt8)(b7:List UInt8):Prop:=
  ∀(σ:Sl)(st:St)(o_b7:Own),σ 5 = .s rest5→σ 7 = .sl o_b7 (List.map row8 b7)→ApM d st.ow o_b7 b7.length→W prog d (.loop l39_0) σ st (blockW 0 (thenW prog d c39_2 Q))
def T39_3 (prog:Prog)(K:List UInt8→List UInt8→Bool→Prop)(P0:List UInt8→List UInt8→Prop)(rest5:List UInt8)(b7:List UInt8)(c8:Int):Prop:=
  ∃c'1:UInt8,c8 = (c'1.toNat:Int)∧Fit (b7.length + [c'1].length) 1∧P0 rest5 (b7 ++ [c'1])
def T39_4 (prog:Prog)(K:List UInt8→List UInt8→Bool→Prop) :Prop:=
  K ([]:List UInt8) ([]:List UInt8) false
def T39_2 (prog:Prog)(K:List UInt8→List UInt8→Bool→Prop)(P0:List UInt8→List UInt8→Prop)(rest5:List UInt8)(b7:List UInt8):Prop:=
  (rest5≠([]:List UInt8)→∃c'2:UInt8,rest5[0]? = some c'2∧1≤rest5.length∧((c'2.toNat:Int) = 34→K b7 (rest5.drop 1) true)∧(¬((c'2.toNat:Int) = 34)→((c'2.toNat:Int) < 32→K ([]:List UInt8) ([]:List UInt8) false)∧(¬((c'2.toNat:Int) < 32)→((c'2.toNat:Int) > 126→K ([]:List UInt8) ([]:List UInt8) false)∧(¬((c'2.toNat:Int) > 126)→((c'2.toNat:Int) = 92→∃r'8:Int,∃r'9:List UInt8,∃r'10:Bool,Pus prog 45 [.s (rest5.drop 1)] (.tup [.i .u8 r'8,.s r'9,.b r'10])∧((!r'10) = true→K ([]:List UInt8) ([]:List UInt8) false)∧((!r'10) = false→T39_3 prog K P0 r'9 b7 r'8))∧(¬((c'2.toNat:Int) = 92)→T39_3 prog K P0 (rest5.drop 1) b7 (c'2.toNat:Int))))))∧(¬(rest5≠([]:List UInt8))→T39_4 prog K )
def T39_1 (prog:Prog)(K:List UInt8→List UInt8→Bool→Prop)(s0:List UInt8):Prop:=
  ∃r'1:List UInt8,∃r'2:Bool,Pus prog 36 [.s s0,.s ([34]:List UInt8)] (.tup [.s r'1,.b r'2])∧((!r'2) = true→K ([]:List UInt8) ([]:List UInt8) false)∧((!r'2) = false→∀P0:List UInt8→List UInt8→Prop,(∀(rest5:List UInt8)(b7:List UInt8),T39_2 prog K P0 rest5 b7→P0 rest5 b7)→P0 r'1 ([]:List UInt8))
def T39_0 (prog:Prog)(K:List UInt8→List UInt8→Bool→Prop)(s0:List UInt8):Prop:=
  T39_1 prog K s0
section
variable {prog:Prog}{d:Nat}{Q:AE→Sl→St→Prop}{K:List UInt8→List UInt8→Bool→Prop}(hQ:H39 Q K){σ:Sl}{st:St}
include hQ
theorem w39_3 {rest5 b7:List UInt8}{c8:Int}{P0:List UInt8→List UInt8→Prop} (kP0 :∀(rest5:List UInt8)(b7:List UInt8),P0 rest5 b7→I39_0 prog d Q rest5 b7){o_b7:Own}(H5:σ 5 = .s rest5)(H7:σ 7 = .sl o_b7 (List.map row8 b7))(H8:σ 8 = .i .u8 c8)(A7:ApM d st.ow o_b7 b7.length)(h:T39_3 prog K P0 rest5 b7 c8):W prog d c39_0 σ st (blockW 1 (thenW prog d (.loop l39_0) (blockW 0 (thenW prog d c39_2 Q)))):=
 W.reg0 rfl fun _ _=>s_mvL H7 (m_ (h.elim fun c'1 e'2=>s_bslM (f:=row8) (l:=[c'1]) rfl rfl (g_cons (g_u8 H8 e'2.1) rfl rfl g_nil) rfl (s_app row8_len rfl rfl rfl A7.1 e'2.2.1 rfl (fun o'3 ow'6 a'4 fr'5 on'7=>s_mvL rfl (e_ (kP0 _ _ e'2.2.2 _ _ _ H5 rfl (ApM.mk a'4 (Mine.app A7.2 rfl on'7))))))))
theorem w39_4 (h:T39_4 prog K ):W prog d c39_2 σ st Q:=
 q_ rfl (m_ (m_ (m_ (e_ (rt_ (hQ _ _ _ _ _ rfl rfl rfl h))))))
theorem w39_2 {rest5 b7:List UInt8}{P0:List UInt8→List UInt8→Prop} (kP0 :∀(rest5:List UInt8)(b7:List UInt8),P0 rest5 b7→I39_0 prog d Q rest5 b7){o_b7:Own}(H5:σ 5 = .s rest5)(H7:σ 7 = .sl o_b7 (List.map row8 b7))(A7:ApM d st.ow o_b7 b7.length)(h:T39_2 prog K P0 rest5 b7):W prog d l39_0 σ st (thenW prog d (.loop l39_0) (blockW 0 (thenW prog d c39_2 Q))):=
 sq_ (q_ rfl (m_ (b_ H5 rfl sne_ (e_ (cs_ rfl (fun g'1=>sk_ (bk_ (q_ rfl (m_ ((h.1 g'1).elim fun c'2 e'3=>s_ixS H5 rfl (by decide) e'3.1 (m_ (e_ (q_ rfl (m_ (s_slS_lo H5 rfl (by decide) e'3.2.1 (m_ (e_ (sq_ (bk_ (q_ rfl (m_ (b_ rfl rfl eql_ (m_ (e_ (cs_ rfl (fun g'4=>q_ rfl (s_mvL H7 (s_b2s rfl (m_ (m_ (m_ (m_ (e_ (rt_ (hQ _ _ _ _ _ rfl rfl rfl (e'3.2.2.1 g'4))))))))))) (fun g'4=>q_ rfl (s_mvI rfl (b_ rfl rfl lss_ (s_mvB rfl (em_ (g:=32) rfl (fun g'5=>gn_ (b:=true) rfl rfl (gn_ (b:=true) rfl rfl (pt_ rfl rfl (s_mvB rfl (e_ (ct_ rfl (q_ rfl (m_ (m_ (m_ (e_ (rt_ (hQ _ _ _ _ _ rfl rfl rfl ((e'3.2.2.2 g'4).1 g'5)))))))))))))) (fun g'5=>gy_ rfl (s_mvI rfl (gy_ rfl (b_ rfl rfl gtr_ (pf_ rfl rfl (s_mvB rfl (e_ (cs_ rfl (fun g'6=>q_ rfl (m_ (m_ (m_ (e_ (rt_ (hQ _ _ _ _ _ rfl rfl rfl (((e'3.2.2.2 g'4).2 g'5).1 g'6)))))))) (fun g'6=>q_ rfl (m_ (b_ rfl rfl eql_ (m_ (e_ (cs_ rfl (fun g'7=>q_ rfl (m_ (e_ (q_ rfl (m_ (((((e'3.2.2.2 g'4).2 g'5).2 g'6).1 g'7).elim fun r'8 e'13=>e'13.elim fun r'9 e'14=>e'14.elim fun r'10 e'11=>ca_ (sc rfl rfl sn) e'11.1 (m_ (x_ rfl rfl (x_ rfl rfl (x_ rfl rfl (m_ (m_ (m_ (e_ (q_ rfl (m_ (nt_ rfl (e_ (cb_ rfl (fun g'12=>q_ rfl (m_ (m_ (m_ (e_ (rt_ (hQ _ _ _ _ _ rfl rfl rfl (e'11.2.1 g'12)))))))) (fun g'12=>sk_ (w39_3 hQ kP0 rfl H7 rfl A7 (e'11.2.2 g'12)))))))))))))))))))))) (fun g'7=>sk_ (w39_3 hQ kP0 rfl H7 rfl A7 ((((e'3.2.2.2 g'4).2 g'5).2 g'6).2 g'7)))))))))))))))))))))))))))))))))))))))))) (fun g'1=>ex_ (w39_4 hQ (h.2 g'1))))))))
theorem w39_1 {s0:List UInt8}(H0:σ 0 = .s s0)(h:T39_1 prog K s0):W prog d c39_3 σ st Q:=
 q_ rfl (m_ (h.elim fun r'1 e'5=>e'5.elim fun r'2 e'3=>ca_ (sc H0 rfl (sc rfl rfl sn)) e'3.1 (m_ (x_ rfl rfl (x_ rfl rfl (m_ (m_ (e_ (sq_ (q_ rfl (m_ (nt_ rfl (e_ (cb_ rfl (fun g'4=>q_ rfl (m_ (m_ (m_ (e_ (rt_ (hQ _ _ _ _ _ rfl rfl rfl (e'3.2.1 g'4)))))))) (fun g'4=>sk_ (q_ rfl (s_mvL (f:=row8) (l:=[]) rfl (e_ (sq_ (bk_ ((e'3.2.2 g'4) (I39_0 prog d Q ) (fun _ _ hb _ _ _ H5 H7 A7=>W.loop (w39_2 hQ (fun _ _ x=>x) H5 H7 A7 hb)) _ _ _ rfl rfl ApM.full)))))))))))))))))))))
theorem w39_0 {s0:List UInt8}(H0:σ 0 = .s s0)(h:T39_0 prog K s0):W prog d (.seq (.reg 0 r39_0) c39_3) σ st Q:=
 q_ rfl (m_ (m_ (m_ (e_ (w39_1 hQ H0 h)))))
end
theorem p39 {prog:Prog}(hf:prog.fn 39 = some pf39){s0:List UInt8}{K:List UInt8→List UInt8→Bool→Prop}(h:T39_0 prog K s0) :∃x0:List UInt8,∃x1:List UInt8,∃x2:Bool,K x0 x1 x2∧Pus prog 39 [.s s0] (.tup [.s x0,.s x1,.b x2]):=by
  obtain ⟨v,hv,x0,x1,x2,hk,rfl⟩:=Pus.of (K:=fun v=>∃x0:List UInt8,∃x1:List UInt8,∃x2:Bool,K x0 x1 x2∧v = .tup [.s x0,.s x1,.b x2]) hf rfl (w39_0 (σ:=sl0 [.s s0]) (fun σ st   x0 x1 x2 H2 H3 H4 hk=>⟨.tup [.s x0,.s x1,.b x2],by simp only [pf39,ares,aresL,H2,H3,H4,ares1,Option.map_some],_,rfl,x0,x1,x2,hk,rfl⟩) rfl h)
  exact ⟨x0,x1,x2,hk,hv⟩
def r45_0:List AI:=[oC 2 (.i .u8 0),
 oC 3 (.s []),
 oC 4 (.b false)]
def r45_1:List AI:=[oM 8 0,
 oB 9 .eql (.t 8) (.c (.s []))]
def r45_2:List AI:=[oC 2 (.i .u8 0),
 oC 3 (.s []),
 oC 4 (.b false)]
def r45_3:List AI:=[oM 10 0,
 oO 11 (.ixS (.t 10) (.c (.i .i64 0)))]
def r45_4:List AI:=[oB 13 .eql (.t 11) (.c (.i .u8 34)),
 oM 12 13]
def r45_5:List AI:=[oB 14 .eql (.t 11) (.c (.i .u8 92)),
 oM 12 14]
def r45_6:List AI:=[oM 15 0,
 oO 16 (.ixS (.t 15) (.c (.i .i64 0))),
 oM 17 0,
 oO 18 (.slS (.t 17) (some (.c (.i .i64 1))) none),
 oM 2 16,
 oM 3 18,
 oC 4 (.b true)]
def r45_7:List AI:=[oB 20 .eql (.t 11) (.c (.i .u8 110)),
 oM 19 20]
def r45_8:List AI:=[oM 21 0,
 oO 22 (.slS (.t 21) (some (.c (.i .i64 1))) none),
 oC 2 (.i .u8 10),
 oM 3 22,
 oC 4 (.b true)]
def r45_9:List AI:=[oB 24 .eql (.t 11) (.c (.i .u8 120)),
 oM 23 24]
def r45_10:List AI:=[oM 25 0,
 oO 26 (.len true (.t 25)),
 oB 27 .lss (.t 26) (.c (.i .i64 3))]
def r45_11:List AI:=[oC 2 (.i .u8 0),
 oC 3 (.s []),
 oC 4 (.b false)]
def r45_12:List AI:=[oM 28 0,
 oO 29 (.ixS (.t 28) (.c (.i .i64 1))),
 oO 30 (.call false 43 [(.c (.s [48,49,50,51,52,53,54,55,56,57,97,98,99,100,101,102])),(.t 29)]),
 oM 31 0,
 oO 32 (.ixS (.t 31) (.c (.i .i64 2))),
 oO 33 (.call false 43 [(.c (.s [48,49,50,51,52,53,54,55,56,57,97,98,99,100,101,102])),(.t 32)]),
 oM 5 30,
 oM 6 33]
def r45_13:List AI:=[oM 34 5,
 oB 35 .mul (.c (.i .i64 16)) (.t 34),
 oM 36 6,
 oB 37 .add (.t 35) (.t 36),
 oO 38 (.cvi .u8 (.t 37)),
 oM 7 38]
def r45_14:List AI:=[oM 39 7,
 oM 40 0,
 oO 41 (.slS (.t 40) (some (.c (.i .i64 3))) none),
 oM 42 5,
 oB 43 .geq (.t 42) (.c (.i .i64 0)),
 oM 44 43,
 oG 45 (.mv (.t 6)) 44 true,
 oG 46 (.bin .geq (.t 45) (.c (.i .i64 0))) 44 true,
 oO 47 (.pick (.t 44) (.t 46) (.c (.b false))),
 oM 48 47,
 oG 49 (.mv (.t 7)) 48 true,
 oG 50 (.bin .neq (.t 49) (.c (.i .u8 10))) 48 true,
 oO 51 (.pick (.t 48) (.t 50) (.c (.b false))),
 oM 52 51,
 oG 53 (.mv (.t 7)) 52 true,
 oG 54 (.bin .lss (.t 53) (.c (.i .u8 32))) 52 true,
 oG 55 (.mv (.t 54)) 52 true,
 oG 56 (.mv (.t 7)) 55 false,
 oG 57 (.bin .gtr (.t 56) (.c (.i .u8 126))) 55 false,
 oG 58 (.pick (.t 55) (.c (.b true)) (.t 57)) 52 true,
 oO 59 (.pick (.t 52) (.t 58) (.c (.b false))),
 oM 2 39,
 oM 3 41,
 oM 4 59]
def r45_15:List AI:=[oC 2 (.i .u8 0),
 oC 3 (.s []),
 oC 4 (.b false)]
abbrev c45_0:AC:=(.cond (.t 12) (.seq (.reg 6 r45_6) .ret) (.seq (.reg 7 r45_7) (.cond (.t 19) (.seq (.reg 8 r45_8) .ret) (.seq (.reg 9 r45_9) (.cond (.t 23) (.seq (.seq (.reg 10 r45_10) (.cond (.t 27) (.seq (.reg 11 r45_11) .ret) .skip)) (.seq (.reg 12 r45_12) (.seq (.reg 13 r45_13) (.seq (.reg 14 r45_14) .ret)))) .skip)))))
abbrev c45_1:AC:=(.block 0 (.seq (.seq (.reg 4 r45_4) (.cond (.t 12) .skip (.reg 5 r45_5))) c45_0))
abbrev c45_2:AC:=(.seq (.seq (.reg 3 r45_3) c45_1) (.seq (.reg 15 r45_15) .ret))
abbrev c45_3:AC:=(.seq (.seq (.reg 1 r45_1) (.cond (.t 9) (.seq (.reg 2 r45_2) .ret) .skip)) c45_2)
abbrev b45:AC:=(.seq (.reg 0 r45_0) c45_3)
def pf45:AF:={ nt:=60,res:=[.tmp 2,.tmp 3,.tmp 4],body:=b45 }
abbrev H45 (Q:AE→Sl→St→Prop)(K:Int→List UInt8→Bool→Prop):Prop:=∀(σ:Sl)(st:St)(x0:Int)(x1:List UInt8)(x2:Bool),σ 2 = .i .u8 x0→σ 3 = .s x1→σ 4 = .b x2→K x0 x1 x2→Q .ret σ st
def T45_4 (prog:Prog)(K:Int→List UInt8→Bool→Prop)(s0:List UInt8)(t11:Int)(t12:Bool):Prop:=
  (t12 = true→∃c'2:UInt8,s0[0]? = some c'2∧1≤s0.length∧K (c'2.toNat:Int) (s0.drop 1) true)∧(t12 = false→(t11 = 110→1≤s0.length∧K 10 (s0.drop 1) true)∧(¬(t11 = 110)→(t11 = 120→((s0.length:Int) < 3→K 0 ([]:List UInt8) false)∧(¬((s0.length:Int) < 3)→∃c'7:UInt8,s0[1]? = some c'7∧∃r'9:Int,Pus prog 43 [.s ([48,49,50,51,52,53,54,55,56,57,97,98,99,100,101,102]:List UInt8),.i .u8 (c'7.toNat:Int)] (.i .i64 r'9)∧∃c'11:UInt8,s0[2]? = some c'11∧∃r'13:Int,Pus prog 43 [.s ([48,49,50,51,52,53,54,55,56,57,97,98,99,100,101,102]:List UInt8),.i .u8 (c'11.toNat:Int)] (.i .i64 r'13)∧3≤s0.length∧(r'9 ≥ 0→(r'13 ≥ 0→((IntKind.u8.wrap (IntKind.i64.wrap ((IntKind.i64.wrap (16 * r'9)) + r'13)))≠10→((IntKind.u8.wrap (IntKind.i64.wrap ((IntKind.i64.wrap (16 * r'9)) + r'13))) < 32→K (IntKind.u8.wrap (IntKind.i64.wrap ((IntKind.i64.wrap (16 * r'9)) + r'13))) (s0.drop 3) true)∧(¬((IntKind.u8.wrap (IntKind.i64.wrap ((IntKind.i64.wrap (16 * r'9)) + r'13))) < 32)→K (IntKind.u8.wrap (IntKind.i64.wrap ((IntKind.i64.wrap (16 * r'9)) + r'13))) (s0.drop 3) (decide ((IntKind.u8.wrap (IntKind.i64.wrap ((IntKind.i64.wrap (16 * r'9)) + r'13))) > 126))))∧(¬((IntKind.u8.wrap (IntKind.i64.wrap ((IntKind.i64.wrap (16 * r'9)) + r'13)))≠10)→K (IntKind.u8.wrap (IntKind.i64.wrap ((IntKind.i64.wrap (16 * r'9)) + r'13))) (s0.drop 3) false))∧(¬(r'13 ≥ 0)→K (IntKind.u8.wrap (IntKind.i64.wrap ((IntKind.i64.wrap (16 * r'9)) + r'13))) (s0.drop 3) false))∧(¬(r'9 ≥ 0)→K (IntKind.u8.wrap (IntKind.i64.wrap ((IntKind.i64.wrap (16 * r'9)) + r'13))) (s0.drop 3) false)))∧(¬(t11 = 120)→K 0 ([]:List UInt8) false)))
def T45_3 (prog:Prog)(K:Int→List UInt8→Bool→Prop)(s0:List UInt8)(t11:Int):Prop:=
  (t11 = 34→T45_4 prog K s0 t11 (decide (t11 = 34)))∧(¬(t11 = 34)→T45_4 prog K s0 t11 (decide (t11 = 92)))
def T45_2 (prog:Prog)(K:Int→List UInt8→Bool→Prop)(s0:List UInt8):Prop:=
  ∃c'1:UInt8,s0[0]? = some c'1∧T45_3 prog K s0 (c'1.toNat:Int)
def T45_1 (prog:Prog)(K:Int→List UInt8→Bool→Prop)(s0:List UInt8):Prop:=
  (s0 = ([]:List UInt8)→K 0 ([]:List UInt8) false)∧(¬(s0 = ([]:List UInt8))→T45_2 prog K s0)
def T45_0 (prog:Prog)(K:Int→List UInt8→Bool→Prop)(s0:List UInt8):Prop:=
  T45_1 prog K s0
section
variable {prog:Prog}{d:Nat}{Q:AE→Sl→St→Prop}{K:Int→List UInt8→Bool→Prop}(hQ:H45 Q K){σ:Sl}{st:St}
include hQ
theorem w45_4 {s0:List UInt8}{t11:Int}{t12:Bool}(H0:σ 0 = .s s0)(H11:σ 11 = .i .u8 t11)(H12:σ 12 = .b t12)(h:T45_4 prog K s0 t11 t12):W prog d c45_0 σ st (blockW 0 (thenW prog d (.seq (.reg 15 r45_15) .ret) Q)):=
 cb_ H12 (fun g'1=>q_ rfl (m_ ((h.1 g'1).elim fun c'2 e'3=>s_ixS H0 rfl (by decide) e'3.1 (m_ (s_slS_lo H0 rfl (by decide) e'3.2.1 (m_ (m_ (m_ (e_ (rt_ (hQ _ _ _ _ _ rfl rfl rfl e'3.2.2))))))))))) (fun g'1=>q_ rfl (b_ H11 rfl eql_ (m_ (e_ (cs_ rfl (fun g'4=>q_ rfl (m_ (s_slS_lo H0 rfl (by decide) ((h.2 g'1).1 g'4).1 (m_ (m_ (m_ (e_ (rt_ (hQ _ _ _ _ _ rfl rfl rfl ((h.2 g'1).1 g'4).2))))))))) (fun g'4=>q_ rfl (b_ H11 rfl eql_ (m_ (e_ (cs_ rfl (fun g'5=>sq_ (q_ rfl (m_ (ln_ H0 (b_ rfl rfl lss_ (e_ (cs_ rfl (fun g'6=>q_ rfl (m_ (m_ (m_ (e_ (rt_ (hQ _ _ _ _ _ rfl rfl rfl ((((h.2 g'1).2 g'4).1 g'5).1 g'6)))))))) (fun g'6=>sk_ (q_ rfl (m_ (((((h.2 g'1).2 g'4).1 g'5).2 g'6).elim fun c'7 e'8=>s_ixS H0 rfl (by decide) e'8.1 (e'8.2.elim fun r'9 e'10=>ca_ (sc rfl rfl (sc rfl rfl sn)) e'10.1 (m_ (e'10.2.elim fun c'11 e'12=>s_ixS H0 rfl (by decide) e'12.1 (e'12.2.elim fun r'13 e'14=>ca_ (sc rfl rfl (sc rfl rfl sn)) e'14.1 (m_ (m_ (e_ (q_ rfl (m_ (b_ rfl rfl (abin_mul _ _ _) (m_ (b_ rfl rfl add_ (s_cvi rfl (m_ (e_ (q_ rfl (s_mvI rfl (s_mvS H0 (s_slS_lo rfl rfl (by decide) e'14.2.1 (s_mvI rfl (b_ rfl rfl geq_ (s_mvB rfl (em_ (g:=44) rfl (fun g'15=>gy_ rfl (s_mvI rfl (gy_ rfl (b_ rfl rfl geq_ (pt_ rfl rfl (s_mvB rfl (em_ (g:=48) rfl (fun g'16=>gy_ rfl (s_mvI rfl (gy_ rfl (b_ rfl rfl neq_ (pt_ rfl rfl (s_mvB rfl (em_ (g:=52) rfl (fun g'17=>gy_ rfl (s_mvI rfl (gy_ rfl (b_ rfl rfl lss_ (gy_ rfl (s_mvB rfl (em_ (g:=55) rfl (fun g'18=>gn_ (b:=true) rfl rfl (gn_ (b:=true) rfl rfl (gy_ rfl (pt_ rfl rfl (pt_ rfl rfl (s_mvI rfl (s_mvS rfl (s_mvB rfl (e_ (rt_ (hQ _ _ _ _ _ rfl rfl rfl ((((e'14.2.2.1 g'15).1 g'16).1 g'17).1 g'18)))))))))))) (fun g'18=>gy_ rfl (s_mvI rfl (gy_ rfl (b_ rfl rfl gtr_ (gy_ rfl (pf_ rfl rfl (pt_ rfl rfl (s_mvI rfl (s_mvS rfl (s_mvB rfl (e_ (rt_ (hQ _ _ _ _ _ rfl rfl rfl ((((e'14.2.2.1 g'15).1 g'16).1 g'17).2 g'18))))))))))))))))))))) (fun g'17=>gn_ (b:=false) rfl rfl (gn_ (b:=false) rfl rfl (gn_ (b:=false) rfl rfl (gt_ rfl (gt_ rfl (gn_ (b:=false) rfl rfl (pf_ rfl rfl (s_mvI rfl (s_mvS rfl (s_mvB rfl (e_ (rt_ (hQ _ _ _ _ _ rfl rfl rfl (((e'14.2.2.1 g'15).1 g'16).2 g'17))))))))))))))))))))) (fun g'16=>gn_ (b:=false) rfl rfl (gn_ (b:=false) rfl rfl (pf_ rfl rfl (s_mvB rfl (gn_ (b:=false) rfl rfl (gn_ (b:=false) rfl rfl (gn_ (b:=false) rfl rfl (gt_ rfl (gt_ rfl (gn_ (b:=false) rfl rfl (pf_ rfl rfl (s_mvI rfl (s_mvS rfl (s_mvB rfl (e_ (rt_ (hQ _ _ _ _ _ rfl rfl rfl ((e'14.2.2.1 g'15).2 g'16))))))))))))))))))))))))) (fun g'15=>gn_ (b:=false) rfl rfl (gn_ (b:=false) rfl rfl (pf_ rfl rfl (s_mvB rfl (gn_ (b:=false) rfl rfl (gn_ (b:=false) rfl rfl (pf_ rfl rfl (s_mvB rfl (gn_ (b:=false) rfl rfl (gn_ (b:=false) rfl rfl (gn_ (b:=false) rfl rfl (gt_ rfl (gt_ rfl (gn_ (b:=false) rfl rfl (pf_ rfl rfl (s_mvI rfl (s_mvS rfl (s_mvB rfl (e_ (rt_ (hQ _ _ _ _ _ rfl rfl rfl (e'14.2.2.2 g'15)))))))))))))))))))))))))))))))))))))))))))))))))))))))) (fun g'5=>sk_ (q_ rfl (m_ (m_ (m_ (e_ (rt_ (hQ _ _ _ _ _ rfl rfl rfl (((h.2 g'1).2 g'4).2 g'5)))))))))))))))))))
theorem w45_3 {s0:List UInt8}{t11:Int}(H0:σ 0 = .s s0)(H11:σ 11 = .i .u8 t11)(h:T45_3 prog K s0 t11):W prog d c45_1 σ st (thenW prog d (.seq (.reg 15 r45_15) .ret) Q):=
 bk_ (sq_ (q_ rfl (b_ H11 rfl eql_ (m_ (e_ (cs_ rfl (fun g'1=>sk_ (w45_4 hQ H0 H11 rfl (h.1 g'1))) (fun g'1=>W.reg0 rfl fun _ _=>b_ H11 rfl eql_ (m_ (e_ (w45_4 hQ H0 H11 rfl (h.2 g'1)))))))))))
theorem w45_2 {s0:List UInt8}(H0:σ 0 = .s s0)(h:T45_2 prog K s0):W prog d c45_2 σ st Q:=
 sq_ (q_ rfl (m_ (h.elim fun c'1 e'2=>s_ixS H0 rfl (by decide) e'2.1 (e_ (w45_3 hQ H0 rfl e'2.2)))))
theorem w45_1 {s0:List UInt8}(H0:σ 0 = .s s0)(h:T45_1 prog K s0):W prog d c45_3 σ st Q:=
 sq_ (q_ rfl (m_ (b_ H0 rfl seq_ (e_ (cs_ rfl (fun g'1=>q_ rfl (m_ (m_ (m_ (e_ (rt_ (hQ _ _ _ _ _ rfl rfl rfl (h.1 g'1)))))))) (fun g'1=>sk_ (w45_2 hQ H0 (h.2 g'1))))))))
theorem w45_0 {s0:List UInt8}(H0:σ 0 = .s s0)(h:T45_0 prog K s0):W prog d (.seq (.reg 0 r45_0) c45_3) σ st Q:=
 q_ rfl (m_ (m_ (m_ (e_ (w45_1 hQ H0 h)))))
end
theorem p45 {prog:Prog}(hf:prog.fn 45 = some pf45){s0:List UInt8}{K:Int→List UInt8→Bool→Prop}(h:T45_0 prog K s0) :∃x0:Int,∃x1:List UInt8,∃x2:Bool,K x0 x1 x2∧Pus prog 45 [.s s0] (.tup [.i .u8 x0,.s x1,.b x2]):=by
  obtain ⟨v,hv,x0,x1,x2,hk,rfl⟩:=Pus.of (K:=fun v=>∃x0:Int,∃x1:List UInt8,∃x2:Bool,K x0 x1 x2∧v = .tup [.i .u8 x0,.s x1,.b x2]) hf rfl (w45_0 (σ:=sl0 [.s s0]) (fun σ st   x0 x1 x2 H2 H3 H4 hk=>⟨.tup [.i .u8 x0,.s x1,.b x2],by simp only [pf45,ares,aresL,H2,H3,H4,ares1,Option.map_some],_,rfl,x0,x1,x2,hk,rfl⟩) rfl h)
  exact ⟨x0,x1,x2,hk,hv⟩
end Go.AM

namespace Go.AM
open Go
set_option linter.unusedVariables false
set_option linter.unusedSimpArgs false
set_option maxRecDepth 4000
attribute [local irreducible] WO fillCells fillRows
def r16_0:List AI:=[oC 2 (.s [])]
def r16_1:List AI:=[oM 3 0,
 oB 4 .geq (.t 3) (.c (.i .i64 0))]
def r16_2:List AI:=[oM 5 0,
 oO 6 (.cvi .u64 (.t 5)),
 oO 7 (.call false 35 [(.t 6),(.c (.i .u64 10))]),
 oM 2 7]
def r16_3:List AI:=[oM 8 0,
 oB 9 .add (.t 8) (.c (.i .i64 1)),
 oO 10 (.un .neg (.t 9)),
 oO 11 (.cvi .u64 (.t 10)),
 oB 12 .add (.t 11) (.c (.i .u64 1)),
 oO 13 (.call false 35 [(.t 12),(.c (.i .u64 10))]),
 oB 14 .add (.c (.s [45])) (.t 13),
 oM 2 14]
abbrev b16:AC:=(.seq (.reg 0 r16_0) (.seq (.seq (.reg 1 r16_1) (.cond (.t 4) (.seq (.reg 2 r16_2) .ret) .skip)) (.seq (.reg 3 r16_3) .ret)))
def pf16:AF:={ nt:=15,res:=[.tmp 2],body:=b16 }
abbrev H16 (Q:AE→Sl→St→Prop)(K:List UInt8→Prop):Prop:=∀(σ:Sl)(st:St)(x0:List UInt8),σ 2 = .s x0→K x0→Q .ret σ st
def T16_0 (prog:Prog)(K:List UInt8→Prop)(n0:Int):Prop:=
  (n0 ≥ 0→∃r'2:List UInt8,Pus prog 35 [.i .u64 (IntKind.u64.wrap n0),.i .u64 10] (.s r'2)∧K r'2)∧(¬(n0 ≥ 0)→∃r'4:List UInt8,Pus prog 35 [.i .u64 (IntKind.u64.wrap ((IntKind.u64.wrap (IntKind.i64.wrap (0 - (IntKind.i64.wrap (n0 + 1))))) + 1)),.i .u64 10] (.s r'4)∧([45]:List UInt8).length + r'4.length≤maxStr∧K (([45]:List UInt8) ++ r'4))
section
variable {prog:Prog}{d:Nat}{Q:AE→Sl→St→Prop}{K:List UInt8→Prop}(hQ:H16 Q K){σ:Sl}{st:St}
include hQ
theorem w16_0 {n0:Int}(H0:σ 0 = .i .i64 n0)(h:T16_0 prog K n0):W prog d (.seq (.reg 0 r16_0) (.seq (.seq (.reg 1 r16_1) (.cond (.t 4) (.seq (.reg 2 r16_2) .ret) .skip)) (.seq (.reg 3 r16_3) .ret))) σ st Q:=
 q_ rfl (m_ (e_ (sq_ (q_ rfl (m_ (b_ H0 rfl geq_ (e_ (cs_ rfl (fun g'1=>q_ rfl (m_ (s_cvi H0 ((h.1 g'1).elim fun r'2 e'3=>ca_ (sc rfl rfl (sc rfl rfl sn)) e'3.1 (m_ (e_ (rt_ (hQ _ _ _ rfl e'3.2)))))))) (fun g'1=>sk_ (q_ rfl (m_ (b_ H0 rfl add_ (s_neg rfl (s_cvi rfl (b_ rfl rfl add_ ((h.2 g'1).elim fun r'4 e'5=>ca_ (sc rfl rfl (sc rfl rfl sn)) e'5.1 (b_ rfl rfl (abin_cat' e'5.2.1) (m_ (e_ (rt_ (hQ _ _ _ rfl e'5.2.2)))))))))))))))))))))
end
theorem p16 {prog:Prog}(hf:prog.fn 16 = some pf16){n0:Int}{K:List UInt8→Prop}(h:T16_0 prog K n0) :∃x0:List UInt8,K x0∧Pus prog 16 [.i .i64 n0] (.s x0):=by
  obtain ⟨v,hv,x0,hk,rfl⟩:=Pus.of (K:=fun v=>∃x0:List UInt8,K x0∧v = .s x0) hf rfl (w16_0 (σ:=sl0 [.i .i64 n0]) (fun σ st   x0 H2 hk=>⟨.s x0,by simp only [pf16,ares,aresL,H2,ares1,Option.map_some],_,rfl,x0,hk,rfl⟩) rfl h)
  exact ⟨x0,hk,hv⟩
def r22_0:List AI:=[oC 2 (.i .i64 0),
 oC 3 (.i .i64 0)]
def r22_1:List AI:=[oM 8 0,
 oO 9 (.len true (.t 8)),
 oB 10 .gtr (.t 9) (.c (.i .i64 2000))]
def r22_2:List AI:=[oC 2 (.i .i64 0),
 oC 3 (.i .i64 4)]
def r22_3:List AI:=[oM 11 0,
 oO 12 (.len true (.t 11)),
 oB 13 .gtr (.t 12) (.c (.i .i64 0)),
 oM 14 13,
 oG 15 (.mv (.t 0)) 14 true,
 oG 16 (.ixS (.t 15) (.c (.i .i64 0))) 14 true,
 oG 17 (.bin .eql (.t 16) (.c (.i .u8 45))) 14 true,
 oO 18 (.pick (.t 14) (.t 17) (.c (.b false)))]
def r22_4:List AI:=[oM 19 0,
 oB 20 .eql (.t 19) (.c (.s [45,48]))]
def r22_5:List AI:=[oC 2 (.i .i64 0),
 oC 3 (.i .i64 12)]
def r22_6:List AI:=[oM 22 0,
 oO 23 (.slS (.t 22) (some (.c (.i .i64 1))) none),
 oO 24 (.call false 38 [(.t 23),(.c (.i .u64 10)),(.c (.i .u64 9223372036854775808))]),
 oM 21 24,
 oE 25 0 21,
 oE 26 1 21,
 oM 4 25,
 oM 5 26]
def r22_7:List AI:=[oM 27 5,
 oB 28 .neq (.t 27) (.c (.i .i64 0))]
def r22_8:List AI:=[oM 29 5,
 oC 2 (.i .i64 0),
 oM 3 29]
def r22_9:List AI:=[oM 30 4,
 oB 31 .sub (.t 30) (.c (.i .u64 1)),
 oO 32 (.cvi .i64 (.t 31)),
 oO 33 (.un .neg (.t 32)),
 oB 34 .sub (.t 33) (.c (.i .i64 1)),
 oM 2 34,
 oC 3 (.i .i64 0)]
def r22_10:List AI:=[oM 36 0,
 oO 37 (.call false 38 [(.t 36),(.c (.i .u64 10)),(.c (.i .u64 9223372036854775807))]),
 oM 35 37,
 oE 38 0 35,
 oE 39 1 35,
 oM 6 38,
 oM 7 39]
def r22_11:List AI:=[oM 40 7,
 oB 41 .neq (.t 40) (.c (.i .i64 0))]
def r22_12:List AI:=[oM 42 7,
 oC 2 (.i .i64 0),
 oM 3 42]
def r22_13:List AI:=[oM 43 6,
 oO 44 (.cvi .i64 (.t 43)),
 oM 2 44,
 oC 3 (.i .i64 0)]
abbrev b22:AC:=(.seq (.reg 0 r22_0) (.seq (.seq (.reg 1 r22_1) (.cond (.t 10) (.seq (.reg 2 r22_2) .ret) .skip)) (.seq (.seq (.reg 3 r22_3) (.cond (.t 18) (.seq (.seq (.reg 4 r22_4) (.cond (.t 20) (.seq (.reg 5 r22_5) .ret) .skip)) (.seq (.reg 6 r22_6) (.seq (.seq (.reg 7 r22_7) (.cond (.t 28) (.seq (.reg 8 r22_8) .ret) .skip)) (.seq (.reg 9 r22_9) .ret)))) .skip)) (.seq (.reg 10 r22_10) (.seq (.seq (.reg 11 r22_11) (.cond (.t 41) (.seq (.reg 12 r22_12) .ret) .skip)) (.seq (.reg 13 r22_13) .ret))))))
def pf22:AF:={ nt:=45,res:=[.tmp 2,.tmp 3],body:=b22 }
abbrev H22 (Q:AE→Sl→St→Prop)(K:Int→Int→Prop):Prop:=∀(σ:Sl)(st:St)(x0:Int)(x1:Int),σ 2 = .i .i64 x0→σ 3 = .i .i64 x1→K x0 x1→Q .ret σ st
def T22_0 (prog:Prog)(K:Int→Int→Prop)(s0:List UInt8):Prop:=
  ((s0.length:Int) > 2000→K 0 4)∧(¬((s0.length:Int) > 2000)→((s0.length:Int) > 0→∃c'3:UInt8,s0[0]? = some c'3∧((c'3.toNat:Int) = 45→(s0 = ([45,48]:List UInt8)→K 0 12)∧(¬(s0 = ([45,48]:List UInt8))→1≤s0.length∧∃r'7:Int,∃r'8:Int,Pus prog 38 [.s (s0.drop 1),.i .u64 10,.i .u64 9223372036854775808] (.tup [.i .u64 r'7,.i .i64 r'8])∧(r'8≠0→K 0 r'8)∧(¬(r'8≠0)→K (IntKind.i64.wrap ((IntKind.i64.wrap (0 - (IntKind.i64.wrap (IntKind.u64.wrap (r'7 - 1))))) - 1)) 0)))∧(¬((c'3.toNat:Int) = 45)→∃r'12:Int,∃r'13:Int,Pus prog 38 [.s s0,.i .u64 10,.i .u64 9223372036854775807] (.tup [.i .u64 r'12,.i .i64 r'13])∧(r'13≠0→K 0 r'13)∧(¬(r'13≠0)→K (IntKind.i64.wrap r'12) 0)))∧(¬((s0.length:Int) > 0)→∃r'17:Int,∃r'18:Int,Pus prog 38 [.s s0,.i .u64 10,.i .u64 9223372036854775807] (.tup [.i .u64 r'17,.i .i64 r'18])∧(r'18≠0→K 0 r'18)∧(¬(r'18≠0)→K (IntKind.i64.wrap r'17) 0)))
section
variable {prog:Prog}{d:Nat}{Q:AE→Sl→St→Prop}{K:Int→Int→Prop}(hQ:H22 Q K){σ:Sl}{st:St}
include hQ
theorem w22_0 {s0:List UInt8}(H0:σ 0 = .s s0)(h:T22_0 prog K s0):W prog d (.seq (.reg 0 r22_0) (.seq (.seq (.reg 1 r22_1) (.cond (.t 10) (.seq (.reg 2 r22_2) .ret) .skip)) (.seq (.seq (.reg 3 r22_3) (.cond (.t 18) (.seq (.seq (.reg 4 r22_4) (.cond (.t 20) (.seq (.reg 5 r22_5) .ret) .skip)) (.seq (.reg 6 r22_6) (.seq (.seq (.reg 7 r22_7) (.cond (.t 28) (.seq (.reg 8 r22_8) .ret) .skip)) (.seq (.reg 9 r22_9) .ret)))) .skip)) (.seq (.reg 10 r22_10) (.seq (.seq (.reg 11 r22_11) (.cond (.t 41) (.seq (.reg 12 r22_12) .ret) .skip)) (.seq (.reg 13 r22_13) .ret)))))) σ st Q:=
 q_ rfl (m_ (m_ (e_ (sq_ (q_ rfl (m_ (ln_ H0 (b_ rfl rfl gtr_ (e_ (cs_ rfl (fun g'1=>q_ rfl (m_ (m_ (e_ (rt_ (hQ _ _ _ _ rfl rfl (h.1 g'1))))))) (fun g'1=>sk_ (sq_ (q_ rfl (s_mvS H0 (ln_ rfl (b_ rfl rfl gtr_ (s_mvB rfl (em_ (g:=14) rfl (fun g'2=>gy_ rfl (s_mvS H0 (gy_ rfl (((h.2 g'1).1 g'2).elim fun c'3 e'4=>s_ixS rfl rfl (by decide) e'4.1 (gy_ rfl (b_ rfl rfl eql_ (pt_ rfl rfl (e_ (cs_ rfl (fun g'5=>sq_ (q_ rfl (m_ (b_ H0 rfl seq_ (e_ (cs_ rfl (fun g'6=>q_ rfl (m_ (m_ (e_ (rt_ (hQ _ _ _ _ rfl rfl ((e'4.2.1 g'5).1 g'6))))))) (fun g'6=>sk_ (q_ rfl (m_ (s_slS_lo H0 rfl (by decide) ((e'4.2.1 g'5).2 g'6).1 (((e'4.2.1 g'5).2 g'6).2.elim fun r'7 e'11=>e'11.elim fun r'8 e'9=>ca_ (sc rfl rfl (sc rfl rfl (sc rfl rfl sn))) e'9.1 (m_ (x_ rfl rfl (x_ rfl rfl (m_ (m_ (e_ (sq_ (q_ rfl (m_ (b_ rfl rfl neq_ (e_ (cs_ rfl (fun g'10=>q_ rfl (m_ (m_ (m_ (e_ (rt_ (hQ _ _ _ _ rfl rfl (e'9.2.1 g'10)))))))) (fun g'10=>sk_ (q_ rfl (m_ (b_ rfl rfl sub_ (s_cvi rfl (s_neg rfl (b_ rfl rfl sub_ (m_ (m_ (e_ (rt_ (hQ _ _ _ _ rfl rfl (e'9.2.2 g'10)))))))))))))))))))))))))))))))))))) (fun g'5=>sk_ (q_ rfl (m_ ((e'4.2.2 g'5).elim fun r'12 e'16=>e'16.elim fun r'13 e'14=>ca_ (sc H0 rfl (sc rfl rfl (sc rfl rfl sn))) e'14.1 (m_ (x_ rfl rfl (x_ rfl rfl (m_ (m_ (e_ (sq_ (q_ rfl (m_ (b_ rfl rfl neq_ (e_ (cs_ rfl (fun g'15=>q_ rfl (m_ (m_ (m_ (e_ (rt_ (hQ _ _ _ _ rfl rfl (e'14.2.1 g'15)))))))) (fun g'15=>sk_ (q_ rfl (m_ (s_cvi rfl (m_ (m_ (e_ (rt_ (hQ _ _ _ _ rfl rfl (e'14.2.2 g'15))))))))))))))))))))))))))))))))))) (fun g'2=>gn_ (b:=false) rfl rfl (gn_ (b:=false) rfl rfl (gn_ (b:=false) rfl rfl (pf_ rfl rfl (e_ (cf_ rfl (sk_ (q_ rfl (m_ (((h.2 g'1).2 g'2).elim fun r'17 e'21=>e'21.elim fun r'18 e'19=>ca_ (sc H0 rfl (sc rfl rfl (sc rfl rfl sn))) e'19.1 (m_ (x_ rfl rfl (x_ rfl rfl (m_ (m_ (e_ (sq_ (q_ rfl (m_ (b_ rfl rfl neq_ (e_ (cs_ rfl (fun g'20=>q_ rfl (m_ (m_ (m_ (e_ (rt_ (hQ _ _ _ _ rfl rfl (e'19.2.1 g'20)))))))) (fun g'20=>sk_ (q_ rfl (m_ (s_cvi rfl (m_ (m_ (e_ (rt_ (hQ _ _ _ _ rfl rfl (e'19.2.2 g'20))))))))))))))))))))))))))))))))))))))))))))))))))
end
theorem p22 {prog:Prog}(hf:prog.fn 22 = some pf22){s0:List UInt8}{K:Int→Int→Prop}(h:T22_0 prog K s0) :∃x0:Int,∃x1:Int,K x0 x1∧Pus prog 22 [.s s0] (.tup [.i .i64 x0,.i .i64 x1]):=by
  obtain ⟨v,hv,x0,x1,hk,rfl⟩:=Pus.of (K:=fun v=>∃x0:Int,∃x1:Int,K x0 x1∧v = .tup [.i .i64 x0,.i .i64 x1]) hf rfl (w22_0 (σ:=sl0 [.s s0]) (fun σ st   x0 x1 H2 H3 hk=>⟨.tup [.i .i64 x0,.i .i64 x1],by simp only [pf22,ares,aresL,H2,H3,ares1,Option.map_some],_,rfl,x0,x1,hk,rfl⟩) rfl h)
  exact ⟨x0,x1,hk,hv⟩
def r26_0:List AI:=[oC 2 (.s []),
 oC 3 (.i .i64 0)]
def r26_1:List AI:=[oM 7 0,
 oO 8 (.len true (.t 7)),
 oB 9 .gtr (.t 8) (.c (.i .i64 2000))]
def r26_2:List AI:=[oC 2 (.s []),
 oC 3 (.i .i64 4)]
def r26_3:List AI:=[oM 11 0,
 oO 12 (.call false 40 [(.t 11)]),
 oM 10 12,
 oE 13 0 10,
 oE 14 1 10,
 oE 15 2 10,
 oM 4 13,
 oM 5 14,
 oM 6 15]
def r26_4:List AI:=[oM 16 6,
 oO 17 (.un .not (.t 16)),
 oM 18 17,
 oG 19 (.mv (.t 5)) 18 false,
 oG 20 (.bin .neq (.t 19) (.c (.s []))) 18 false,
 oO 21 (.pick (.t 18) (.c (.b true)) (.t 20))]
def r26_5:List AI:=[oC 2 (.s []),
 oC 3 (.i .i64 12)]
def r26_6:List AI:=[oM 22 4,
 oO 23 (.len true (.t 22)),
 oB 24 .gtr (.t 23) (.c (.i .i64 400))]
def r26_7:List AI:=[oC 2 (.s []),
 oC 3 (.i .i64 4)]
def r26_8:List AI:=[oM 25 4,
 oM 2 25,
 oC 3 (.i .i64 0)]
abbrev b26:AC:=(.seq (.reg 0 r26_0) (.seq (.seq (.reg 1 r26_1) (.cond (.t 9) (.seq (.reg 2 r26_2) .ret) .skip)) (.seq (.reg 3 r26_3) (.seq (.seq (.reg 4 r26_4) (.cond (.t 21) (.seq (.reg 5 r26_5) .ret) .skip)) (.seq (.seq (.reg 6 r26_6) (.cond (.t 24) (.seq (.reg 7 r26_7) .ret) .skip)) (.seq (.reg 8 r26_8) .ret))))))
def pf26:AF:={ nt:=26,res:=[.tmp 2,.tmp 3],body:=b26 }
abbrev H26 (Q:AE→Sl→St→Prop)(K:List UInt8→Int→Prop):Prop:=∀(σ:Sl)(st:St)(x0:List UInt8)(x1:Int),σ 2 = .s x0→σ 3 = .i .i64 x1→K x0 x1→Q .ret σ st
def T26_0 (prog:Prog)(K:List UInt8→Int→Prop)(s0:List UInt8):Prop:=
  ((s0.length:Int) > 2000→K ([]:List UInt8) 4)∧(¬((s0.length:Int) > 2000)→∃r'2:List UInt8,∃r'3:List UInt8,∃r'4:Bool,Pus prog 40 [.s s0] (.tup [.s r'2,.s r'3,.b r'4])∧((!r'4) = true→K ([]:List UInt8) 12)∧((!r'4) = false→(r'3≠([]:List UInt8)→K ([]:List UInt8) 12)∧(¬(r'3≠([]:List UInt8))→((r'2.length:Int) > 400→K ([]:List UInt8) 4)∧(¬((r'2.length:Int) > 400)→K r'2 0))))
section
variable {prog:Prog}{d:Nat}{Q:AE→Sl→St→Prop}{K:List UInt8→Int→Prop}(hQ:H26 Q K){σ:Sl}{st:St}
include hQ
theorem w26_0 {s0:List UInt8}(H0:σ 0 = .s s0)(h:T26_0 prog K s0):W prog d (.seq (.reg 0 r26_0) (.seq (.seq (.reg 1 r26_1) (.cond (.t 9) (.seq (.reg 2 r26_2) .ret) .skip)) (.seq (.reg 3 r26_3) (.seq (.seq (.reg 4 r26_4) (.cond (.t 21) (.seq (.reg 5 r26_5) .ret) .skip)) (.seq (.seq (.reg 6 r26_6) (.cond (.t 24) (.seq (.reg 7 r26_7) .ret) .skip)) (.seq (.reg 8 r26_8) .ret)))))) σ st Q:=
 q_ rfl (m_ (m_ (e_ (sq_ (q_ rfl (m_ (ln_ H0 (b_ rfl rfl gtr_ (e_ (cs_ rfl (fun g'1=>q_ rfl (m_ (m_ (e_ (rt_ (hQ _ _ _ _ rfl rfl (h.1 g'1))))))) (fun g'1=>sk_ (q_ rfl (m_ ((h.2 g'1).elim fun r'2 e'9=>e'9.elim fun r'3 e'10=>e'10.elim fun r'4 e'5=>ca_ (sc H0 rfl sn) e'5.1 (m_ (x_ rfl rfl (x_ rfl rfl (x_ rfl rfl (m_ (m_ (m_ (e_ (sq_ (q_ rfl (s_mvB rfl (nt_ rfl (s_mvB rfl (eb_ (g:=18) rfl (fun g'6=>gn_ (b:=true) rfl rfl (gn_ (b:=true) rfl rfl (pt_ rfl rfl (e_ (ct_ rfl (q_ rfl (m_ (m_ (e_ (rt_ (hQ _ _ _ _ rfl rfl (e'5.2.1 g'6)))))))))))) (fun g'6=>gy_ rfl (s_mvS rfl (gy_ rfl (b_ rfl rfl sne_ (pf_ rfl rfl (e_ (cs_ rfl (fun g'7=>q_ rfl (m_ (m_ (e_ (rt_ (hQ _ _ _ _ rfl rfl ((e'5.2.2 g'6).1 g'7))))))) (fun g'7=>sk_ (sq_ (q_ rfl (m_ (ln_ rfl (b_ rfl rfl gtr_ (e_ (cs_ rfl (fun g'8=>q_ rfl (m_ (m_ (e_ (rt_ (hQ _ _ _ _ rfl rfl (((e'5.2.2 g'6).2 g'7).1 g'8))))))) (fun g'8=>sk_ (q_ rfl (m_ (m_ (m_ (e_ (rt_ (hQ _ _ _ _ rfl rfl (((e'5.2.2 g'6).2 g'7).2 g'8))))))))))))))))))))))))))))))))))))))))))))))))))))
end
theorem p26 {prog:Prog}(hf:prog.fn 26 = some pf26){s0:List UInt8}{K:List UInt8→Int→Prop}(h:T26_0 prog K s0) :∃x0:List UInt8,∃x1:Int,K x0 x1∧Pus prog 26 [.s s0] (.tup [.s x0,.i .i64 x1]):=by
  obtain ⟨v,hv,x0,x1,hk,rfl⟩:=Pus.of (K:=fun v=>∃x0:List UInt8,∃x1:Int,K x0 x1∧v = .tup [.s x0,.i .i64 x1]) hf rfl (w26_0 (σ:=sl0 [.s s0]) (fun σ st   x0 x1 H2 H3 hk=>⟨.tup [.s x0,.i .i64 x1],by simp only [pf26,ares,aresL,H2,H3,ares1,Option.map_some],_,rfl,x0,x1,hk,rfl⟩) rfl h)
  exact ⟨x0,x1,hk,hv⟩
abbrev H29 (Q:AE→Sl→St→Prop)(K:Bool→Prop):Prop:=∀(σ:Sl)(st:St)(x0:Bool),σ 4 = .b x0→K x0→Q .ret σ st
section
variable {prog:Prog}{d:Nat}{Q:AE→Sl→St→Prop}{K:Bool→Prop}(hQ:H29 Q K){σ:Sl}{st:St}
include hQ
end
def r31_0:List AI:=[oC 2 (.s [])]
def r31_1:List AI:=[oC 3 (.s [34])]
def r31_2:List AI:=[oC 4 (.i .i64 0)]
def r31_3:List AI:=[oM 5 4,
 oM 6 0,
 oO 7 (.len true (.t 6)),
 oB 8 .lss (.t 5) (.t 7)]
def r31_4:List AI:=[oM 11 3,
 oM 12 0,
 oM 13 4,
 oO 14 (.ixS (.t 12) (.t 13)),
 oO 15 (.call false 41 [(.t 14)]),
 oB 16 .add (.t 11) (.t 15),
 oM 3 16]
def r31_5:List AI:=[oM 9 4,
 oB 10 .add (.t 9) (.c (.i .i64 1)),
 oM 4 10]
def r31_6:List AI:=[oM 17 3,
 oB 18 .add (.t 17) (.c (.s [34])),
 oM 2 18]
abbrev l31_0:AC:=(.seq (.seq (.reg 3 r31_3) (.cond (.t 8) .skip (.exit 0))) (.seq (.block 1 (.reg 5 r31_4)) (.reg 4 r31_5)))
abbrev c31_1:AC:=(.seq (.reg 6 r31_6) .ret)
abbrev b31:AC:=(.seq (.reg 0 r31_0) (.seq (.reg 1 r31_1) (.seq (.seq (.reg 2 r31_2) (.block 0 (.loop l31_0))) c31_1)))
def pf31:AF:={ nt:=19,res:=[.tmp 2],body:=b31 }
abbrev H31 (Q:AE→Sl→St→Prop)(K:List UInt8→Prop):Prop:=∀(σ:Sl)(st:St)(x0:List UInt8),σ 2 = .s x0→K x0→Q .ret σ st
abbrev I31_0 (prog:Prog)(d:Nat)(Q:AE→Sl→St→Prop)(s0:List UInt8)(out3:List UInt8)(i4:Int):Prop:=
  ∀(σ:Sl)(st:St),σ 0 = .s s0→σ 3 = .s out3→σ 4 = .i .i64 i4→W prog d (.loop l31_0) σ st (blockW 0 (thenW prog d c31_1 Q))
def T31_2 (prog:Prog)(K:List UInt8→Prop)(out3:List UInt8):Prop:=
  out3.length + ([34]:List UInt8).length≤maxStr∧K (out3 ++ ([34]:List UInt8))
def T31_1 (prog:Prog)(K:List UInt8→Prop)(P0:List UInt8→Int→Prop)(s0:List UInt8)(out3:List UInt8)(i4:Int):Prop:=
  (i4 < (s0.length:Int)→0≤i4∧∃c'2:UInt8,s0[(i4).toNat]? = some c'2∧∃r'4:List UInt8,Pus prog 41 [.i .u8 (c'2.toNat:Int)] (.s r'4)∧out3.length + r'4.length≤maxStr∧P0 (out3 ++ r'4) (IntKind.i64.wrap (i4 + 1)))∧(¬(i4 < (s0.length:Int))→T31_2 prog K out3)
def T31_0 (prog:Prog)(K:List UInt8→Prop)(s0:List UInt8):Prop:=
  ∀P0:List UInt8→Int→Prop,(∀(out3:List UInt8)(i4:Int),T31_1 prog K P0 s0 out3 i4→P0 out3 i4)→P0 ([34]:List UInt8) 0
section
variable {prog:Prog}{d:Nat}{Q:AE→Sl→St→Prop}{K:List UInt8→Prop}(hQ:H31 Q K){σ:Sl}{st:St}
include hQ
theorem w31_2 {out3:List UInt8}(H3:σ 3 = .s out3)(h:T31_2 prog K out3):W prog d c31_1 σ st Q:=
 q_ rfl (m_ (b_ H3 rfl (abin_cat' h.1) (m_ (e_ (rt_ (hQ _ _ _ rfl h.2))))))
theorem w31_1 {s0 out3:List UInt8}{i4:Int}{P0:List UInt8→Int→Prop} (kP0 :∀(out3:List UInt8)(i4:Int),P0 out3 i4→I31_0 prog d Q s0 out3 i4)(H0:σ 0 = .s s0)(H3:σ 3 = .s out3)(H4:σ 4 = .i .i64 i4)(h:T31_1 prog K P0 s0 out3 i4):W prog d l31_0 σ st (thenW prog d (.loop l31_0) (blockW 0 (thenW prog d c31_1 Q))):=
 sq_ (q_ rfl (m_ (m_ (ln_ H0 (b_ H4 rfl lss_ (e_ (cs_ rfl (fun g'1=>sk_ (sq_ (bk_ (W.reg0 rfl fun _ _=>m_ (m_ (m_ ((h.1 g'1).2.elim fun c'2 e'3=>s_ixS H0 H4 (h.1 g'1).1 e'3.1 (e'3.2.elim fun r'4 e'5=>ca_ (sc rfl rfl sn) e'5.1 (b_ H3 rfl (abin_cat' e'5.2.1) (m_ (e_ (W.reg0 rfl fun _ _=>m_ (b_ H4 rfl add_ (m_ (e_ (kP0 _ _ e'5.2.2 _ _ H0 rfl rfl)))))))))))))))) (fun g'1=>ex_ (w31_2 hQ H3 (h.2 g'1))))))))))
theorem w31_0 {s0:List UInt8}(H0:σ 0 = .s s0)(h:T31_0 prog K s0):W prog d (.seq (.reg 0 r31_0) (.seq (.reg 1 r31_1) (.seq (.seq (.reg 2 r31_2) (.block 0 (.loop l31_0))) c31_1))) σ st Q:=
 q_ rfl (m_ (e_ (q_ rfl (m_ (e_ (sq_ (q_ rfl (m_ (e_ (bk_ (h (I31_0 prog d Q s0) (fun _ _ hb _ _ H0 H3 H4=>W.loop (w31_1 hQ (fun _ _ x=>x) H0 H3 H4 hb)) _ _ H0 rfl rfl)))))))))))
end
theorem p31 {prog:Prog}(hf:prog.fn 31 = some pf31){s0:List UInt8}{K:List UInt8→Prop}(h:T31_0 prog K s0) :∃x0:List UInt8,K x0∧Pus prog 31 [.s s0] (.s x0):=by
  obtain ⟨v,hv,x0,hk,rfl⟩:=Pus.of (K:=fun v=>∃x0:List UInt8,K x0∧v = .s x0) hf rfl (w31_0 (σ:=sl0 [.s s0]) (fun σ st   x0 H2 hk=>⟨.s x0,by simp only [pf31,ares,aresL,H2,ares1,Option.map_some],_,rfl,x0,hk,rfl⟩) rfl h)
  exact ⟨x0,hk,hv⟩
def r35_0:List AI:=[oC 4 (.s [])]
def r35_1:List AI:=[oC 5 (.s [])]
def r35_2:List AI:=[oM 6 0,
 oM 7 1,
 oB 8 .geq (.t 6) (.t 7)]
def r35_3:List AI:=[oM 9 0,
 oM 10 1,
 oB 11 .rem (.t 9) (.t 10),
 oM 12 0,
 oM 13 1,
 oB 14 .rem (.t 12) (.t 13),
 oB 15 .add (.t 14) (.c (.i .u64 1)),
 oO 16 (.slS (.c (.s [48,49,50,51,52,53,54,55,56,57,97,98,99,100,101,102])) (some (.t 11)) (some (.t 15))),
 oM 17 5,
 oB 18 .add (.t 16) (.t 17),
 oM 5 18]
def r35_4:List AI:=[oM 19 0,
 oM 20 1,
 oB 21 .quo (.t 19) (.t 20),
 oM 0 21]
def r35_5:List AI:=[oM 22 0,
 oM 23 0,
 oB 24 .add (.t 23) (.c (.i .u64 1)),
 oO 25 (.slS (.c (.s [48,49,50,51,52,53,54,55,56,57,97,98,99,100,101,102])) (some (.t 22)) (some (.t 24))),
 oM 26 5,
 oB 27 .add (.t 25) (.t 26),
 oM 4 27]
abbrev l35_0:AC:=(.seq (.seq (.reg 2 r35_2) (.cond (.t 8) .skip (.exit 0))) (.block 1 (.seq (.reg 3 r35_3) (.reg 4 r35_4))))
abbrev c35_1:AC:=(.seq (.reg 5 r35_5) .ret)
abbrev b35:AC:=(.seq (.reg 0 r35_0) (.seq (.reg 1 r35_1) (.seq (.block 0 (.loop l35_0)) c35_1)))
def pf35:AF:={ nt:=28,res:=[.tmp 4],body:=b35 }
abbrev H35 (Q:AE→Sl→St→Prop)(K:List UInt8→Prop):Prop:=∀(σ:Sl)(st:St)(x0:List UInt8),σ 4 = .s x0→K x0→Q .ret σ st
abbrev I35_0 (prog:Prog)(d:Nat)(Q:AE→Sl→St→Prop)(base1:Int)(n0:Int)(s5:List UInt8):Prop:=
  ∀(σ:Sl)(st:St),σ 0 = .i .u64 n0→σ 1 = .i .u64 base1→σ 5 = .s s5→W prog d (.loop l35_0) σ st (blockW 0 (thenW prog d c35_1 Q))
def T35_2 (prog:Prog)(K:List UInt8→Prop)(n0:Int)(s5:List UInt8):Prop:=
  0≤n0∧n0≤(IntKind.u64.wrap (n0 + 1))∧(IntKind.u64.wrap (n0 + 1)).toNat≤([48,49,50,51,52,53,54,55,56,57,97,98,99,100,101,102]:List UInt8).length∧((([48,49,50,51,52,53,54,55,56,57,97,98,99,100,101,102]:List UInt8).drop (n0).toNat).take ((IntKind.u64.wrap (n0 + 1)).toNat - (n0).toNat)).length + s5.length≤maxStr∧K (((([48,49,50,51,52,53,54,55,56,57,97,98,99,100,101,102]:List UInt8).drop (n0).toNat).take ((IntKind.u64.wrap (n0 + 1)).toNat - (n0).toNat)) ++ s5)
def T35_1 (prog:Prog)(K:List UInt8→Prop)(P0:Int→List UInt8→Prop)(n0:Int)(base1:Int)(s5:List UInt8):Prop:=
  (n0 ≥ base1→base1≠0∧base1≠0∧0≤((n0:Int).tmod base1)∧((n0:Int).tmod base1)≤(IntKind.u64.wrap (((n0:Int).tmod base1) + 1))∧(IntKind.u64.wrap (((n0:Int).tmod base1) + 1)).toNat≤([48,49,50,51,52,53,54,55,56,57,97,98,99,100,101,102]:List UInt8).length∧((([48,49,50,51,52,53,54,55,56,57,97,98,99,100,101,102]:List UInt8).drop ((n0:Int).tmod base1).toNat).take ((IntKind.u64.wrap (((n0:Int).tmod base1) + 1)).toNat - ((n0:Int).tmod base1).toNat)).length + s5.length≤maxStr∧base1≠0∧P0 (IntKind.u64.wrap ((n0:Int).tdiv base1)) (((([48,49,50,51,52,53,54,55,56,57,97,98,99,100,101,102]:List UInt8).drop ((n0:Int).tmod base1).toNat).take ((IntKind.u64.wrap (((n0:Int).tmod base1) + 1)).toNat - ((n0:Int).tmod base1).toNat)) ++ s5))∧(¬(n0 ≥ base1)→T35_2 prog K n0 s5)
def T35_0 (prog:Prog)(K:List UInt8→Prop)(n0:Int)(base1:Int):Prop:=
  ∀P0:Int→List UInt8→Prop,(∀(n0:Int)(s5:List UInt8),T35_1 prog K P0 n0 base1 s5→P0 n0 s5)→P0 n0 ([]:List UInt8)
section
variable {prog:Prog}{d:Nat}{Q:AE→Sl→St→Prop}{K:List UInt8→Prop}(hQ:H35 Q K){σ:Sl}{st:St}
include hQ
theorem w35_2 {n0:Int}{s5:List UInt8}(H0:σ 0 = .i .u64 n0)(H5:σ 5 = .s s5)(h:T35_2 prog K n0 s5):W prog d c35_1 σ st Q:=
 q_ rfl (m_ (m_ (b_ H0 rfl add_ (s_slS rfl H0 rfl h.1 h.2.1 h.2.2.1 (m_ (b_ rfl H5 (abin_cat' h.2.2.2.1) (m_ (e_ (rt_ (hQ _ _ _ rfl h.2.2.2.2))))))))))
theorem w35_1 {n0 base1:Int}{s5:List UInt8}{P0:Int→List UInt8→Prop} (kP0 :∀(n0:Int)(s5:List UInt8),P0 n0 s5→I35_0 prog d Q base1 n0 s5)(H0:σ 0 = .i .u64 n0)(H1:σ 1 = .i .u64 base1)(H5:σ 5 = .s s5)(h:T35_1 prog K P0 n0 base1 s5):W prog d l35_0 σ st (thenW prog d (.loop l35_0) (blockW 0 (thenW prog d c35_1 Q))):=
 sq_ (q_ rfl (m_ (m_ (b_ H0 H1 geq_ (e_ (cs_ rfl (fun g'1=>sk_ (bk_ (q_ rfl (m_ (m_ (b_ H0 H1 (abin_rem' (h.1 g'1).1) (m_ (m_ (b_ H0 H1 (abin_rem' (h.1 g'1).2.1) (b_ rfl rfl add_ (s_slS rfl rfl rfl (h.1 g'1).2.2.1 (h.1 g'1).2.2.2.1 (h.1 g'1).2.2.2.2.1 (m_ (b_ rfl H5 (abin_cat' (h.1 g'1).2.2.2.2.2.1) (m_ (e_ (W.reg0 rfl fun _ _=>m_ (m_ (b_ H0 H1 (abin_quo' (h.1 g'1).2.2.2.2.2.2.1) (m_ (e_ (kP0 _ _ (h.1 g'1).2.2.2.2.2.2.2 _ _ rfl H1 rfl))))))))))))))))))))) (fun g'1=>ex_ (w35_2 hQ H0 H5 (h.2 g'1)))))))))
theorem w35_0 {n0 base1:Int}(H0:σ 0 = .i .u64 n0)(H1:σ 1 = .i .u64 base1)(h:T35_0 prog K n0 base1):W prog d (.seq (.reg 0 r35_0) (.seq (.reg 1 r35_1) (.seq (.block 0 (.loop l35_0)) c35_1))) σ st Q:=
 q_ rfl (m_ (e_ (q_ rfl (m_ (e_ (sq_ (bk_ (h (I35_0 prog d Q base1) (fun _ _ hb _ _ H0 H1 H5=>W.loop (w35_1 hQ (fun _ _ x=>x) H0 H1 H5 hb)) _ _ H0 H1 rfl))))))))
end
theorem p35 {prog:Prog}(hf:prog.fn 35 = some pf35){n0:Int}{base1:Int}{K:List UInt8→Prop}(h:T35_0 prog K n0 base1) :∃x0:List UInt8,K x0∧Pus prog 35 [.i .u64 n0,.i .u64 base1] (.s x0):=by
  obtain ⟨v,hv,x0,hk,rfl⟩:=Pus.of (K:=fun v=>∃x0:List UInt8,K x0∧v = .s x0) hf rfl (w35_0 (σ:=sl0 [.i .u64 n0,.i .u64 base1]) (fun σ st   x0 H4 hk=>⟨.s x0,by simp only [pf35,ares,aresL,H4,ares1,Option.map_some],_,rfl,x0,hk,rfl⟩) rfl rfl h)
  exact ⟨x0,hk,hv⟩
def r38_0:List AI:=[oC 6 (.i .u64 0),
 oC 7 (.i .i64 0)]
def r38_1:List AI:=[oM 12 0,
 oO 13 (.len true (.t 12)),
 oB 14 .eql (.t 13) (.c (.i .i64 0)),
 oM 15 14,
 oG 16 (.mv (.t 0)) 15 false,
 oG 17 (.ixS (.t 16) (.c (.i .i64 0))) 15 false,
 oG 18 (.bin .eql (.t 17) (.c (.i .u8 48))) 15 false,
 oG 19 (.mv (.t 18)) 15 false,
 oG 20 (.mv (.t 0)) 19 true,
 oG 21 (.len true (.t 20)) 19 true,
 oG 22 (.bin .gtr (.t 21) (.c (.i .i64 1))) 19 true,
 oG 23 (.pick (.t 19) (.t 22) (.c (.b false))) 15 false,
 oO 24 (.pick (.t 15) (.c (.b true)) (.t 23))]
def r38_2:List AI:=[oC 6 (.i .u64 0),
 oC 7 (.i .i64 12)]
def r38_3:List AI:=[oC 8 (.i .i64 0)]
def r38_4:List AI:=[oM 25 8,
 oM 26 0,
 oO 27 (.len true (.t 26)),
 oB 28 .lss (.t 25) (.t 27)]
def r38_5:List AI:=[oM 31 0,
 oM 32 8,
 oO 33 (.ixS (.t 31) (.t 32)),
 oM 34 1,
 oO 35 (.cvi .i64 (.t 34)),
 oO 36 (.call false 44 [(.t 33),(.t 35)]),
 oB 37 .lss (.t 36) (.c (.i .i64 0))]
def r38_6:List AI:=[oC 6 (.i .u64 0),
 oC 7 (.i .i64 12)]
def r38_7:List AI:=[oM 29 8,
 oB 30 .add (.t 29) (.c (.i .i64 1)),
 oM 8 30]
def r38_8:List AI:=[oC 9 (.i .u64 0)]
def r38_9:List AI:=[oC 10 (.i .i64 0)]
def r38_10:List AI:=[oM 38 10,
 oM 39 0,
 oO 40 (.len true (.t 39)),
 oB 41 .lss (.t 38) (.t 40)]
def r38_11:List AI:=[oM 44 0,
 oM 45 10,
 oO 46 (.ixS (.t 44) (.t 45)),
 oM 47 1,
 oO 48 (.cvi .i64 (.t 47)),
 oO 49 (.call false 44 [(.t 46),(.t 48)]),
 oO 50 (.cvi .u64 (.t 49)),
 oM 11 50]
def r38_12:List AI:=[oM 51 9,
 oM 52 2,
 oM 53 11,
 oB 54 .sub (.t 52) (.t 53),
 oM 55 1,
 oB 56 .quo (.t 54) (.t 55),
 oB 57 .gtr (.t 51) (.t 56)]
def r38_13:List AI:=[oC 6 (.i .u64 0),
 oC 7 (.i .i64 16)]
def r38_14:List AI:=[oM 58 9,
 oM 59 1,
 oB 60 .mul (.t 58) (.t 59),
 oM 61 11,
 oB 62 .add (.t 60) (.t 61),
 oM 9 62]
def r38_15:List AI:=[oM 42 10,
 oB 43 .add (.t 42) (.c (.i .i64 1)),
 oM 10 43]
def r38_16:List AI:=[oM 63 9,
 oM 6 63,
 oC 7 (.i .i64 0)]
abbrev l38_0:AC:=(.seq (.seq (.reg 4 r38_4) (.cond (.t 28) .skip (.exit 0))) (.seq (.block 1 (.seq (.reg 6 r38_5) (.cond (.t 37) (.seq (.reg 7 r38_6) .ret) .skip))) (.reg 5 r38_7)))
abbrev l38_1:AC:=(.seq (.seq (.reg 10 r38_10) (.cond (.t 41) .skip (.exit 2))) (.seq (.block 3 (.seq (.reg 12 r38_11) (.seq (.seq (.reg 13 r38_12) (.cond (.t 57) (.seq (.reg 14 r38_13) .ret) .skip)) (.reg 15 r38_14)))) (.reg 11 r38_15)))
abbrev c38_2:AC:=(.seq (.reg 16 r38_16) .ret)
abbrev c38_3:AC:=(.seq (.reg 8 r38_8) (.seq (.seq (.reg 9 r38_9) (.block 2 (.loop l38_1))) c38_2))
abbrev c38_4:AC:=(.seq (.seq (.reg 1 r38_1) (.cond (.t 24) (.seq (.reg 2 r38_2) .ret) .skip)) (.seq (.seq (.reg 3 r38_3) (.block 0 (.loop l38_0))) c38_3))
abbrev b38:AC:=(.seq (.reg 0 r38_0) c38_4)
def pf38:AF:={ nt:=64,res:=[.tmp 6,.tmp 7],body:=b38 }
abbrev H38 (Q:AE→Sl→St→Prop)(K:Int→Int→Prop):Prop:=∀(σ:Sl)(st:St)(x0:Int)(x1:Int),σ 6 = .i .u64 x0→σ 7 = .i .i64 x1→K x0 x1→Q .ret σ st
abbrev I38_0 (prog:Prog)(d:Nat)(Q:AE→Sl→St→Prop)(s0:List UInt8)(base1:Int)(most2:Int)(i8:Int):Prop:=
  ∀(σ:Sl)(st:St),σ 0 = .s s0→σ 1 = .i .u64 base1→σ 2 = .i .u64 most2→σ 8 = .i .i64 i8→W prog d (.loop l38_0) σ st (blockW 0 (thenW prog d c38_3 Q))
abbrev I38_1 (prog:Prog)(d:Nat)(Q:AE→Sl→St→Prop)(s0:List UInt8)(base1:Int)(most2:Int)(n9:Int)(i10:Int):Prop:=
  ∀(σ:Sl)(st:St),σ 0 = .s s0→σ 1 = .i .u64 base1→σ 2 = .i .u64 most2→σ 9 = .i .u64 n9→σ 10 = .i .i64 i10→W prog d (.loop l38_1) σ st (blockW 2 (thenW prog d c38_2 Q))
def T38_5 (prog:Prog)(K:Int→Int→Prop)(n9:Int):Prop:=
  K n9 0
def T38_4 (prog:Prog)(K:Int→Int→Prop)(P1:Int→Int→Prop)(s0:List UInt8)(base1:Int)(most2:Int)(n9:Int)(i10:Int):Prop:=
  (i10 < (s0.length:Int)→0≤i10∧∃c'2:UInt8,s0[(i10).toNat]? = some c'2∧∃r'4:Int,Pus prog 44 [.i .u8 (c'2.toNat:Int),.i .i64 (IntKind.i64.wrap base1)] (.i .i64 r'4)∧base1≠0∧(n9 > (IntKind.u64.wrap (((IntKind.u64.wrap (most2 - (IntKind.u64.wrap r'4))):Int).tdiv base1))→K 0 16)∧(¬(n9 > (IntKind.u64.wrap (((IntKind.u64.wrap (most2 - (IntKind.u64.wrap r'4))):Int).tdiv base1)))→P1 (IntKind.u64.wrap ((IntKind.u64.wrap (n9 * base1)) + (IntKind.u64.wrap r'4))) (IntKind.i64.wrap (i10 + 1))))∧(¬(i10 < (s0.length:Int))→T38_5 prog K n9)
def T38_3 (prog:Prog)(K:Int→Int→Prop)(s0:List UInt8)(base1:Int)(most2:Int):Prop:=
  ∀P1:Int→Int→Prop,(∀(n9:Int)(i10:Int),T38_4 prog K P1 s0 base1 most2 n9 i10→P1 n9 i10)→P1 0 0
def T38_2 (prog:Prog)(K:Int→Int→Prop)(P0:Int→Prop)(s0:List UInt8)(base1:Int)(most2:Int)(i8:Int):Prop:=
  (i8 < (s0.length:Int)→0≤i8∧∃c'2:UInt8,s0[(i8).toNat]? = some c'2∧∃r'4:Int,Pus prog 44 [.i .u8 (c'2.toNat:Int),.i .i64 (IntKind.i64.wrap base1)] (.i .i64 r'4)∧(r'4 < 0→K 0 12)∧(¬(r'4 < 0)→P0 (IntKind.i64.wrap (i8 + 1))))∧(¬(i8 < (s0.length:Int))→T38_3 prog K s0 base1 most2)
def T38_1 (prog:Prog)(K:Int→Int→Prop)(s0:List UInt8)(base1:Int)(most2:Int):Prop:=
  ((s0.length:Int) = 0→K 0 12)∧(¬((s0.length:Int) = 0)→∃c'2:UInt8,s0[0]? = some c'2∧((c'2.toNat:Int) = 48→((s0.length:Int) > 1→K 0 12)∧(¬((s0.length:Int) > 1)→∀P0:Int→Prop,(∀(i8:Int),T38_2 prog K P0 s0 base1 most2 i8→P0 i8)→P0 0))∧(¬((c'2.toNat:Int) = 48)→∀P0:Int→Prop,(∀(i8:Int),T38_2 prog K P0 s0 base1 most2 i8→P0 i8)→P0 0))
def T38_0 (prog:Prog)(K:Int→Int→Prop)(s0:List UInt8)(base1:Int)(most2:Int):Prop:=
  T38_1 prog K s0 base1 most2
section
variable {prog:Prog}{d:Nat}{Q:AE→Sl→St→Prop}{K:Int→Int→Prop}(hQ:H38 Q K){σ:Sl}{st:St}
include hQ
theorem w38_5 {n9:Int}(H9:σ 9 = .i .u64 n9)(h:T38_5 prog K n9):W prog d c38_2 σ st Q:=
 q_ rfl (m_ (m_ (m_ (e_ (rt_ (hQ _ _ _ _ H9 rfl h))))))
theorem w38_4 {s0:List UInt8}{base1 most2 n9 i10:Int}{P1:Int→Int→Prop} (kP1 :∀(n9:Int)(i10:Int),P1 n9 i10→I38_1 prog d Q s0 base1 most2 n9 i10)(H0:σ 0 = .s s0)(H1:σ 1 = .i .u64 base1)(H2:σ 2 = .i .u64 most2)(H9:σ 9 = .i .u64 n9)(H10:σ 10 = .i .i64 i10)(h:T38_4 prog K P1 s0 base1 most2 n9 i10):W prog d l38_1 σ st (thenW prog d (.loop l38_1) (blockW 2 (thenW prog d c38_2 Q))):=
 sq_ (q_ rfl (m_ (m_ (ln_ H0 (b_ H10 rfl lss_ (e_ (cs_ rfl (fun g'1=>sk_ (sq_ (bk_ (q_ rfl (m_ (m_ ((h.1 g'1).2.elim fun c'2 e'3=>s_ixS H0 H10 (h.1 g'1).1 e'3.1 (m_ (s_cvi H1 (e'3.2.elim fun r'4 e'5=>ca_ (sc rfl rfl (sc rfl rfl sn)) e'5.1 (s_cvi rfl (m_ (e_ (sq_ (q_ rfl (m_ (m_ (m_ (b_ H2 rfl sub_ (m_ (b_ rfl H1 (abin_quo' e'5.2.1) (b_ H9 rfl gtr_ (e_ (cs_ rfl (fun g'6=>q_ rfl (m_ (m_ (e_ (rt_ (hQ _ _ _ _ rfl rfl (e'5.2.2.1 g'6))))))) (fun g'6=>sk_ (W.reg0 rfl fun _ _=>m_ (m_ (b_ H9 H1 (abin_mul _ _ _) (m_ (b_ rfl rfl add_ (m_ (e_ (W.reg0 rfl fun _ _=>m_ (b_ H10 rfl add_ (m_ (e_ (kP1 _ _ (e'5.2.2.2 g'6) _ _ H0 H1 H2 rfl rfl))))))))))))))))))))))))))))))))))))) (fun g'1=>ex_ (w38_5 hQ H9 (h.2 g'1))))))))))
theorem w38_3 {s0:List UInt8}{base1 most2:Int}(H0:σ 0 = .s s0)(H1:σ 1 = .i .u64 base1)(H2:σ 2 = .i .u64 most2)(h:T38_3 prog K s0 base1 most2):W prog d c38_3 σ st Q:=
 q_ rfl (m_ (e_ (sq_ (q_ rfl (m_ (e_ (bk_ (h (I38_1 prog d Q s0 base1 most2) (fun _ _ hb _ _ H0 H1 H2 H9 H10=>W.loop (w38_4 hQ (fun _ _ x=>x) H0 H1 H2 H9 H10 hb)) _ _ H0 H1 H2 rfl rfl))))))))
theorem w38_2 {s0:List UInt8}{base1 most2 i8:Int}{P0:Int→Prop} (kP0 :∀(i8:Int),P0 i8→I38_0 prog d Q s0 base1 most2 i8)(H0:σ 0 = .s s0)(H1:σ 1 = .i .u64 base1)(H2:σ 2 = .i .u64 most2)(H8:σ 8 = .i .i64 i8)(h:T38_2 prog K P0 s0 base1 most2 i8):W prog d l38_0 σ st (thenW prog d (.loop l38_0) (blockW 0 (thenW prog d c38_3 Q))):=
 sq_ (q_ rfl (m_ (m_ (ln_ H0 (b_ H8 rfl lss_ (e_ (cs_ rfl (fun g'1=>sk_ (sq_ (bk_ (q_ rfl (m_ (m_ ((h.1 g'1).2.elim fun c'2 e'3=>s_ixS H0 H8 (h.1 g'1).1 e'3.1 (m_ (s_cvi H1 (e'3.2.elim fun r'4 e'5=>ca_ (sc rfl rfl (sc rfl rfl sn)) e'5.1 (b_ rfl rfl lss_ (e_ (cs_ rfl (fun g'6=>q_ rfl (m_ (m_ (e_ (rt_ (hQ _ _ _ _ rfl rfl (e'5.2.1 g'6))))))) (fun g'6=>sk_ (W.reg0 rfl fun _ _=>m_ (b_ H8 rfl add_ (m_ (e_ (kP0 _ (e'5.2.2 g'6) _ _ H0 H1 H2 rfl))))))))))))))))))) (fun g'1=>ex_ (w38_3 hQ H0 H1 H2 (h.2 g'1))))))))))
theorem w38_1 {s0:List UInt8}{base1 most2:Int}(H0:σ 0 = .s s0)(H1:σ 1 = .i .u64 base1)(H2:σ 2 = .i .u64 most2)(h:T38_1 prog K s0 base1 most2):W prog d c38_4 σ st Q:=
 sq_ (q_ rfl (s_mvS H0 (ln_ rfl (b_ rfl rfl eql_ (s_mvB rfl (em_ (g:=15) rfl (fun g'1=>gn_ (b:=true) rfl rfl (gn_ (b:=true) rfl rfl (gn_ (b:=true) rfl rfl (gn_ (b:=true) rfl rfl (gt_ rfl (gt_ rfl (gt_ rfl (gn_ (b:=true) rfl rfl (pt_ rfl rfl (e_ (ct_ rfl (q_ rfl (m_ (m_ (e_ (rt_ (hQ _ _ _ _ rfl rfl (h.1 g'1)))))))))))))))))) (fun g'1=>gy_ rfl (s_mvS H0 (gy_ rfl ((h.2 g'1).elim fun c'2 e'3=>s_ixS rfl rfl (by decide) e'3.1 (gy_ rfl (b_ rfl rfl eql_ (gy_ rfl (s_mvB rfl (em_ (g:=19) rfl (fun g'4=>gy_ rfl (s_mvS H0 (gy_ rfl (ln_ rfl (gy_ rfl (b_ rfl rfl gtr_ (gy_ rfl (pt_ rfl rfl (pf_ rfl rfl (e_ (cs_ rfl (fun g'5=>q_ rfl (m_ (m_ (e_ (rt_ (hQ _ _ _ _ rfl rfl ((e'3.2.1 g'4).1 g'5))))))) (fun g'5=>sk_ (sq_ (q_ rfl (m_ (e_ (bk_ (((e'3.2.1 g'4).2 g'5) (I38_0 prog d Q s0 base1 most2) (fun _ hb _ _ H0 H1 H2 H8=>W.loop (w38_2 hQ (fun _ x=>x) H0 H1 H2 H8 hb)) _ _ H0 H1 H2 rfl)))))))))))))))))) (fun g'4=>gn_ (b:=false) rfl rfl (gn_ (b:=false) rfl rfl (gn_ (b:=false) rfl rfl (gy_ rfl (pf_ rfl rfl (pf_ rfl rfl (e_ (cf_ rfl (sk_ (sq_ (q_ rfl (m_ (e_ (bk_ ((e'3.2.2 g'4) (I38_0 prog d Q s0 base1 most2) (fun _ hb _ _ H0 H1 H2 H8=>W.loop (w38_2 hQ (fun _ x=>x) H0 H1 H2 H8 hb)) _ _ H0 H1 H2 rfl))))))))))))))))))))))))))))))
theorem w38_0 {s0:List UInt8}{base1 most2:Int}(H0:σ 0 = .s s0)(H1:σ 1 = .i .u64 base1)(H2:σ 2 = .i .u64 most2)(h:T38_0 prog K s0 base1 most2):W prog d (.seq (.reg 0 r38_0) c38_4) σ st Q:=
 q_ rfl (m_ (m_ (e_ (w38_1 hQ H0 H1 H2 h))))
end
theorem p38 {prog:Prog}(hf:prog.fn 38 = some pf38){s0:List UInt8}{base1:Int}{most2:Int}{K:Int→Int→Prop}(h:T38_0 prog K s0 base1 most2) :∃x0:Int,∃x1:Int,K x0 x1∧Pus prog 38 [.s s0,.i .u64 base1,.i .u64 most2] (.tup [.i .u64 x0,.i .i64 x1]):=by
  obtain ⟨v,hv,x0,x1,hk,rfl⟩:=Pus.of (K:=fun v=>∃x0:Int,∃x1:Int,K x0 x1∧v = .tup [.i .u64 x0,.i .i64 x1]) hf rfl (w38_0 (σ:=sl0 [.s s0,.i .u64 base1,.i .u64 most2]) (fun σ st   x0 x1 H6 H7 hk=>⟨.tup [.i .u64 x0,.i .i64 x1],by simp only [pf38,ares,aresL,H6,H7,ares1,Option.map_some],_,rfl,x0,x1,hk,rfl⟩) rfl rfl rfl h)
  exact ⟨x0,x1,hk,hv⟩
def r40_0:List AI:=[oC 2 (.s []),
 oC 3 (.s []),
 oC 4 (.b false)]
def r40_1:List AI:=[oM 9 0,
 oO 10 (.len true (.t 9)),
 oB 11 .eql (.t 10) (.c (.i .i64 0)),
 oM 12 11,
 oG 13 (.mv (.t 0)) 12 false,
 oG 14 (.ixS (.t 13) (.c (.i .i64 0))) 12 false,
 oG 15 (.bin .neq (.t 14) (.c (.i .u8 34))) 12 false,
 oO 16 (.pick (.t 12) (.c (.b true)) (.t 15))]
def r40_2:List AI:=[oC 2 (.s []),
 oC 3 (.s []),
 oC 4 (.b false)]
def r40_3:List AI:=[oM 17 0,
 oO 18 (.slS (.t 17) (some (.c (.i .i64 1))) none),
 oM 0 18]
def r40_4:List AI:=[oC 5 (.s [])]
def r40_5:List AI:=[oM 19 0,
 oO 20 (.len true (.t 19)),
 oB 21 .gtr (.t 20) (.c (.i .i64 0)),
 oM 22 21,
 oG 23 (.mv (.t 0)) 22 true,
 oG 24 (.ixS (.t 23) (.c (.i .i64 0))) 22 true,
 oG 25 (.bin .neq (.t 24) (.c (.i .u8 34))) 22 true,
 oO 26 (.pick (.t 22) (.t 25) (.c (.b false)))]
def r40_6:List AI:=[oC 6 (.b false)]
def r40_7:List AI:=[oC 7 (.i .i64 0)]
def r40_8:List AI:=[oM 27 7,
 oB 28 .lss (.t 27) (.c (.i .i64 256)),
 oM 29 28,
 oG 30 (.mv (.t 6)) 29 true,
 oG 31 (.un .not (.t 30)) 29 true,
 oO 32 (.pick (.t 29) (.t 31) (.c (.b false)))]
def r40_9:List AI:=[oM 35 7,
 oO 36 (.cvi .u8 (.t 35)),
 oO 37 (.call false 41 [(.t 36)]),
 oM 8 37]
def r40_10:List AI:=[oM 38 0,
 oO 39 (.len true (.t 38)),
 oM 40 8,
 oO 41 (.len true (.t 40)),
 oB 42 .geq (.t 39) (.t 41),
 oM 43 42,
 oG 44 (.mv (.t 0)) 43 true,
 oG 45 (.mv (.t 8)) 43 true,
 oG 46 (.len true (.t 45)) 43 true,
 oG 47 (.slS (.t 44) none (some (.t 46))) 43 true,
 oG 48 (.mv (.t 8)) 43 true,
 oG 49 (.bin .eql (.t 47) (.t 48)) 43 true,
 oO 50 (.pick (.t 43) (.t 49) (.c (.b false)))]
def r40_11:List AI:=[oM 51 5,
 oM 52 7,
 oO 53 (.cvi .u8 (.t 52)),
 oO 54 (.bslice [.i .u8 0] 1 [(0,(.t 53))]),
 oO 55 (.b2s (.t 54)),
 oB 56 .add (.t 51) (.t 55),
 oM 5 56]
def r40_12:List AI:=[oM 57 0,
 oM 58 8,
 oO 59 (.len true (.t 58)),
 oO 60 (.slS (.t 57) (some (.t 59)) none),
 oM 0 60]
def r40_13:List AI:=[oC 6 (.b true)]
def r40_14:List AI:=[oM 33 7,
 oB 34 .add (.t 33) (.c (.i .i64 1)),
 oM 7 34]
def r40_15:List AI:=[oM 61 6,
 oO 62 (.un .not (.t 61))]
def r40_16:List AI:=[oC 2 (.s []),
 oC 3 (.s []),
 oC 4 (.b false)]
def r40_17:List AI:=[oM 63 0,
 oO 64 (.len true (.t 63)),
 oB 65 .eql (.t 64) (.c (.i .i64 0))]
def r40_18:List AI:=[oC 2 (.s []),
 oC 3 (.s []),
 oC 4 (.b false)]
def r40_19:List AI:=[oM 66 5,
 oM 67 0,
 oO 68 (.slS (.t 67) (some (.c (.i .i64 1))) none),
 oM 2 66,
 oM 3 68,
 oC 4 (.b true)]
abbrev c40_0:AC:=(.reg 9 r40_14)
abbrev l40_1:AC:=(.seq (.seq (.reg 8 r40_8) (.cond (.t 32) .skip (.exit 2))) (.seq (.block 3 (.seq (.reg 10 r40_9) (.seq (.reg 11 r40_10) (.cond (.t 50) (.seq (.reg 12 r40_11) (.seq (.reg 13 r40_12) (.reg 14 r40_13))) .skip)))) c40_0))
abbrev c40_2:AC:=(.seq (.reg 15 r40_15) (.cond (.t 62) (.seq (.reg 16 r40_16) .ret) .skip))
abbrev l40_0:AC:=(.seq (.seq (.reg 5 r40_5) (.cond (.t 26) .skip (.exit 0))) (.block 1 (.seq (.reg 6 r40_6) (.seq (.seq (.reg 7 r40_7) (.block 2 (.loop l40_1))) c40_2))))
abbrev c40_4:AC:=(.seq (.seq (.reg 17 r40_17) (.cond (.t 65) (.seq (.reg 18 r40_18) .ret) .skip)) (.seq (.reg 19 r40_19) .ret))
abbrev c40_5:AC:=(.seq (.block 0 (.loop l40_0)) c40_4)
abbrev c40_6:AC:=(.seq (.reg 4 r40_4) c40_5)
abbrev c40_7:AC:=(.seq (.reg 3 r40_3) c40_6)
abbrev c40_8:AC:=(.seq (.seq (.reg 1 r40_1) (.cond (.t 16) (.seq (.reg 2 r40_2) .ret) .skip)) c40_7)
abbrev b40:AC:=(.seq (.reg 0 r40_0) c40_8)
def pf40:AF:={ nt:=69,res:=[.tmp 2,.tmp 3,.tmp 4],body:=b40 }
abbrev H40 (Q:AE→Sl→St→Prop)(K:List UInt8→List UInt8→Bool→Prop):Prop:=∀(σ:Sl)(st:St)(x0:List UInt8)(x1:List UInt8)(x2:Bool),σ 2 = .s x0→σ 3 = .s x1→σ 4 = .b x2→K x0 x1 x2→Q .ret σ st
abbrev I40_0 (prog:Prog)(d:Nat)(Q:AE→Sl→St→Prop)(s0:List UInt8)(out5:List UInt8):Prop:=
  ∀(σ:Sl)(st:St),σ 0 = .s s0→σ 5 = .s out5→W prog d (.loop l40_0) σ st (blockW 0 (thenW prog d c40_4 Q))
abbrev I40_1 (prog:Prog)(d:Nat)(Q:AE→Sl→St→Prop)(s0:List UInt8)(out5:List UInt8)(found6:Bool)(c7:Int):Prop:=
  ∀(σ:Sl)(st:St),σ 0 = .s s0→σ 5 = .s out5→σ 6 = .b found6→σ 7 = .i .i64 c7→W prog d (.loop l40_1) σ st (blockW 2 (thenW prog d c40_2 (blockW 1 (thenW prog d (.loop l40_0) (blockW 0 (thenW prog d c40_4 Q))))))
def T40_7 (prog:Prog)(K:List UInt8→List UInt8→Bool→Prop)(P1:List UInt8→List UInt8→Bool→Int→Prop)(P0:List UInt8→List UInt8→Prop)(s0:List UInt8)(out5:List UInt8)(found6:Bool)(c7:Int):Prop:=
  P1 s0 out5 found6 (IntKind.i64.wrap (c7 + 1))
def T40_8 (prog:Prog)(K:List UInt8→List UInt8→Bool→Prop)(P0:List UInt8→List UInt8→Prop)(s0:List UInt8)(out5:List UInt8)(found6:Bool):Prop:=
  ((!found6) = true→K ([]:List UInt8) ([]:List UInt8) false)∧((!found6) = false→P0 s0 out5)
def T40_6 (prog:Prog)(K:List UInt8→List UInt8→Bool→Prop)(P1:List UInt8→List UInt8→Bool→Int→Prop)(P0:List UInt8→List UInt8→Prop)(s0:List UInt8)(out5:List UInt8)(found6:Bool)(c7:Int):Prop:=
  (c7 < 256→((!found6) = true→∃r'3:List UInt8,Pus prog 41 [.i .u8 (IntKind.u8.wrap c7)] (.s r'3)∧((s0.length:Int) ≥ (r'3.length:Int)→0≤(r'3.length:Int)∧(r'3.length:Int).toNat≤s0.length∧((s0.take (r'3.length:Int).toNat) = r'3→∃c'7:UInt8,(IntKind.u8.wrap c7) = (c'7.toNat:Int)∧out5.length + [c'7].length≤maxStr∧0≤(r'3.length:Int)∧(r'3.length:Int).toNat≤s0.length∧T40_7 prog K P1 P0 (s0.drop (r'3.length:Int).toNat) (out5 ++ [c'7]) true c7)∧(¬((s0.take (r'3.length:Int).toNat) = r'3)→T40_7 prog K P1 P0 s0 out5 found6 c7))∧(¬((s0.length:Int) ≥ (r'3.length:Int))→T40_7 prog K P1 P0 s0 out5 found6 c7))∧((!found6) = false→T40_8 prog K P0 s0 out5 found6))∧(¬(c7 < 256)→T40_8 prog K P0 s0 out5 found6)
def T40_9 (prog:Prog)(K:List UInt8→List UInt8→Bool→Prop)(s0:List UInt8)(out5:List UInt8):Prop:=
  ((s0.length:Int) = 0→K ([]:List UInt8) ([]:List UInt8) false)∧(¬((s0.length:Int) = 0)→1≤s0.length∧K out5 (s0.drop 1) true)
def T40_5 (prog:Prog)(K:List UInt8→List UInt8→Bool→Prop)(P0:List UInt8→List UInt8→Prop)(s0:List UInt8)(out5:List UInt8):Prop:=
  ((s0.length:Int) > 0→∃c'2:UInt8,s0[0]? = some c'2∧((c'2.toNat:Int)≠34→∀P1:List UInt8→List UInt8→Bool→Int→Prop,(∀(s0:List UInt8)(out5:List UInt8)(found6:Bool)(c7:Int),T40_6 prog K P1 P0 s0 out5 found6 c7→P1 s0 out5 found6 c7)→P1 s0 out5 false 0)∧(¬((c'2.toNat:Int)≠34)→T40_9 prog K s0 out5))∧(¬((s0.length:Int) > 0)→T40_9 prog K s0 out5)
def T40_4 (prog:Prog)(K:List UInt8→List UInt8→Bool→Prop)(s0:List UInt8)(out5:List UInt8):Prop:=
  ∀P0:List UInt8→List UInt8→Prop,(∀(s0:List UInt8)(out5:List UInt8),T40_5 prog K P0 s0 out5→P0 s0 out5)→P0 s0 out5
def T40_3 (prog:Prog)(K:List UInt8→List UInt8→Bool→Prop)(s0:List UInt8):Prop:=
  T40_4 prog K s0 ([]:List UInt8)
def T40_2 (prog:Prog)(K:List UInt8→List UInt8→Bool→Prop)(s0:List UInt8):Prop:=
  1≤s0.length∧T40_3 prog K (s0.drop 1)
def T40_1 (prog:Prog)(K:List UInt8→List UInt8→Bool→Prop)(s0:List UInt8):Prop:=
  ((s0.length:Int) = 0→K ([]:List UInt8) ([]:List UInt8) false)∧(¬((s0.length:Int) = 0)→∃c'2:UInt8,s0[0]? = some c'2∧((c'2.toNat:Int)≠34→K ([]:List UInt8) ([]:List UInt8) false)∧(¬((c'2.toNat:Int)≠34)→T40_2 prog K s0))
def T40_0 (prog:Prog)(K:List UInt8→List UInt8→Bool→Prop)(s0:List UInt8):Prop:=
  T40_1 prog K s0
section
variable {prog:Prog}{d:Nat}{Q:AE→Sl→St→Prop}{K:List UInt8→List UInt8→Bool→Prop}(hQ:H40 Q K){σ:Sl}{st:St}
include hQ
theorem w40_7 {s0 out5:List UInt8}{found6:Bool}{c7:Int}{P1:List UInt8→List UInt8→Bool→Int→Prop}{P0:List UInt8→List UInt8→Prop} (kP1 :∀(s0:List UInt8)(out5:List UInt8)(found6:Bool)(c7:Int),P1 s0 out5 found6 c7→I40_1 prog d Q s0 out5 found6 c7) (kP0 :∀(s0:List UInt8)(out5:List UInt8),P0 s0 out5→I40_0 prog d Q s0 out5)(H0:σ 0 = .s s0)(H5:σ 5 = .s out5)(H6:σ 6 = .b found6)(H7:σ 7 = .i .i64 c7)(h:T40_7 prog K P1 P0 s0 out5 found6 c7):W prog d c40_0 σ st (thenW prog d (.loop l40_1) (blockW 2 (thenW prog d c40_2 (blockW 1 (thenW prog d (.loop l40_0) (blockW 0 (thenW prog d c40_4 Q))))))):=
 W.reg0 rfl fun _ _=>m_ (b_ H7 rfl add_ (m_ (e_ (kP1 _ _ _ _ h _ _ H0 H5 H6 rfl))))
theorem w40_8 {s0 out5:List UInt8}{found6:Bool}{P0:List UInt8→List UInt8→Prop} (kP0 :∀(s0:List UInt8)(out5:List UInt8),P0 s0 out5→I40_0 prog d Q s0 out5)(H0:σ 0 = .s s0)(H5:σ 5 = .s out5)(H6:σ 6 = .b found6)(h:T40_8 prog K P0 s0 out5 found6):W prog d c40_2 σ st (blockW 1 (thenW prog d (.loop l40_0) (blockW 0 (thenW prog d c40_4 Q)))):=
 q_ rfl (m_ (nt_ H6 (e_ (cb_ rfl (fun g'1=>q_ rfl (m_ (m_ (m_ (e_ (rt_ (hQ _ _ _ _ _ rfl rfl rfl (h.1 g'1)))))))) (fun g'1=>sk_ (kP0 _ _ (h.2 g'1) _ _ H0 H5))))))
theorem w40_6 {s0 out5:List UInt8}{found6:Bool}{c7:Int}{P1:List UInt8→List UInt8→Bool→Int→Prop}{P0:List UInt8→List UInt8→Prop} (kP1 :∀(s0:List UInt8)(out5:List UInt8)(found6:Bool)(c7:Int),P1 s0 out5 found6 c7→I40_1 prog d Q s0 out5 found6 c7) (kP0 :∀(s0:List UInt8)(out5:List UInt8),P0 s0 out5→I40_0 prog d Q s0 out5)(H0:σ 0 = .s s0)(H5:σ 5 = .s out5)(H6:σ 6 = .b found6)(H7:σ 7 = .i .i64 c7)(h:T40_6 prog K P1 P0 s0 out5 found6 c7):W prog d l40_1 σ st (thenW prog d (.loop l40_1) (blockW 2 (thenW prog d c40_2 (blockW 1 (thenW prog d (.loop l40_0) (blockW 0 (thenW prog d c40_4 Q))))))):=
 sq_ (q_ rfl (s_mvI H7 (b_ rfl rfl lss_ (s_mvB rfl (em_ (g:=29) rfl (fun g'1=>gy_ rfl (s_mvB H6 (gy_ rfl (nt_ rfl (pt_ rfl rfl (e_ (cb_ rfl (fun g'2=>sk_ (sq_ (bk_ (q_ rfl (m_ (s_cvi H7 (((h.1 g'1).1 g'2).elim fun r'3 e'4=>ca_ (sc rfl rfl sn) e'4.1 (m_ (e_ (q_ rfl (s_mvS H0 (ln_ rfl (s_mvS rfl (ln_ rfl (b_ rfl rfl geq_ (s_mvB rfl (em_ (g:=43) rfl (fun g'5=>gy_ rfl (s_mvS H0 (gy_ rfl (s_mvS rfl (gy_ rfl (ln_ rfl (gy_ rfl (s_slS_hi rfl rfl (e'4.2.1 g'5).1 (e'4.2.1 g'5).2.1 (gy_ rfl (s_mvS rfl (gy_ rfl (b_ rfl rfl seq_ (pt_ rfl rfl (e_ (cs_ rfl (fun g'6=>q_ rfl (m_ (m_ (s_cvi H7 (((e'4.2.1 g'5).2.2.1 g'6).elim fun c'7 e'8=>s_bslM (f:=row8) (l:=[c'7]) rfl rfl (g_cons (g_u8 rfl e'8.1) rfl rfl g_nil) rfl (s_b2s rfl (b_ H5 rfl (abin_cat' e'8.2.1) (m_ (e_ (q_ rfl (m_ (m_ (ln_ rfl (s_slS_lo H0 rfl e'8.2.2.1 e'8.2.2.2.1 (m_ (e_ (W.reg0 rfl fun _ _=>m_ (e_ (w40_7 hQ kP1 kP0 rfl rfl rfl H7 e'8.2.2.2.2))))))))))))))))))) (fun g'6=>sk_ (w40_7 hQ kP1 kP0 H0 H5 H6 H7 ((e'4.2.1 g'5).2.2.2 g'6)))))))))))))))))) (fun g'5=>gn_ (b:=false) rfl rfl (gn_ (b:=false) rfl rfl (gn_ (b:=false) rfl rfl (gn_ (b:=false) rfl rfl (gn_ (b:=false) rfl rfl (gn_ (b:=false) rfl rfl (pf_ rfl rfl (e_ (cf_ rfl (sk_ (w40_7 hQ kP1 kP0 H0 H5 H6 H7 (e'4.2.2 g'5))))))))))))))))))))))))))))) (fun g'2=>ex_ (w40_8 hQ kP0 H0 H5 H6 ((h.1 g'1).2 g'2)))))))))) (fun g'1=>gn_ (b:=false) rfl rfl (gn_ (b:=false) rfl rfl (pf_ rfl rfl (e_ (cf_ rfl (ex_ (w40_8 hQ kP0 H0 H5 H6 (h.2 g'1)))))))))))))
theorem w40_9 {s0 out5:List UInt8}(H0:σ 0 = .s s0)(H5:σ 5 = .s out5)(h:T40_9 prog K s0 out5):W prog d c40_4 σ st Q:=
 sq_ (q_ rfl (m_ (ln_ H0 (b_ rfl rfl eql_ (e_ (cs_ rfl (fun g'1=>q_ rfl (m_ (m_ (m_ (e_ (rt_ (hQ _ _ _ _ _ rfl rfl rfl (h.1 g'1)))))))) (fun g'1=>sk_ (q_ rfl (m_ (m_ (s_slS_lo H0 rfl (by decide) (h.2 g'1).1 (m_ (m_ (m_ (e_ (rt_ (hQ _ _ _ _ _ H5 rfl rfl (h.2 g'1).2)))))))))))))))))
theorem w40_5 {s0 out5:List UInt8}{P0:List UInt8→List UInt8→Prop} (kP0 :∀(s0:List UInt8)(out5:List UInt8),P0 s0 out5→I40_0 prog d Q s0 out5)(H0:σ 0 = .s s0)(H5:σ 5 = .s out5)(h:T40_5 prog K P0 s0 out5):W prog d l40_0 σ st (thenW prog d (.loop l40_0) (blockW 0 (thenW prog d c40_4 Q))):=
 sq_ (q_ rfl (s_mvS H0 (ln_ rfl (b_ rfl rfl gtr_ (s_mvB rfl (em_ (g:=22) rfl (fun g'1=>gy_ rfl (s_mvS H0 (gy_ rfl ((h.1 g'1).elim fun c'2 e'3=>s_ixS rfl rfl (by decide) e'3.1 (gy_ rfl (b_ rfl rfl neq_ (pt_ rfl rfl (e_ (cs_ rfl (fun g'4=>sk_ (bk_ (q_ rfl (m_ (e_ (sq_ (q_ rfl (m_ (e_ (bk_ ((e'3.2.1 g'4) (I40_1 prog d Q ) (fun _ _ _ _ hb _ _ H0 H5 H6 H7=>W.loop (w40_6 hQ (fun _ _ _ _ x=>x) kP0 H0 H5 H6 H7 hb)) _ _ H0 H5 rfl rfl))))))))))) (fun g'4=>ex_ (w40_9 hQ H0 H5 (e'3.2.2 g'4)))))))))))) (fun g'1=>gn_ (b:=false) rfl rfl (gn_ (b:=false) rfl rfl (gn_ (b:=false) rfl rfl (pf_ rfl rfl (e_ (cf_ rfl (ex_ (w40_9 hQ H0 H5 (h.2 g'1)))))))))))))))
theorem w40_4 {s0 out5:List UInt8}(H0:σ 0 = .s s0)(H5:σ 5 = .s out5)(h:T40_4 prog K s0 out5):W prog d c40_5 σ st Q:=
 sq_ (bk_ (h (I40_0 prog d Q ) (fun _ _ hb _ _ H0 H5=>W.loop (w40_5 hQ (fun _ _ x=>x) H0 H5 hb)) _ _ H0 H5))
theorem w40_3 {s0:List UInt8}(H0:σ 0 = .s s0)(h:T40_3 prog K s0):W prog d c40_6 σ st Q:=
 q_ rfl (m_ (e_ (w40_4 hQ H0 rfl h)))
theorem w40_2 {s0:List UInt8}(H0:σ 0 = .s s0)(h:T40_2 prog K s0):W prog d c40_7 σ st Q:=
 q_ rfl (m_ (s_slS_lo H0 rfl (by decide) h.1 (m_ (e_ (w40_3 hQ rfl h.2)))))
theorem w40_1 {s0:List UInt8}(H0:σ 0 = .s s0)(h:T40_1 prog K s0):W prog d c40_8 σ st Q:=
 sq_ (q_ rfl (s_mvS H0 (ln_ rfl (b_ rfl rfl eql_ (s_mvB rfl (em_ (g:=12) rfl (fun g'1=>gn_ (b:=true) rfl rfl (gn_ (b:=true) rfl rfl (gn_ (b:=true) rfl rfl (pt_ rfl rfl (e_ (ct_ rfl (q_ rfl (m_ (m_ (m_ (e_ (rt_ (hQ _ _ _ _ _ rfl rfl rfl (h.1 g'1)))))))))))))) (fun g'1=>gy_ rfl (s_mvS H0 (gy_ rfl ((h.2 g'1).elim fun c'2 e'3=>s_ixS rfl rfl (by decide) e'3.1 (gy_ rfl (b_ rfl rfl neq_ (pf_ rfl rfl (e_ (cs_ rfl (fun g'4=>q_ rfl (m_ (m_ (m_ (e_ (rt_ (hQ _ _ _ _ _ rfl rfl rfl (e'3.2.1 g'4)))))))) (fun g'4=>sk_ (w40_2 hQ H0 (e'3.2.2 g'4))))))))))))))))))
theorem w40_0 {s0:List UInt8}(H0:σ 0 = .s s0)(h:T40_0 prog K s0):W prog d (.seq (.reg 0 r40_0) c40_8) σ st Q:=
 q_ rfl (m_ (m_ (m_ (e_ (w40_1 hQ H0 h)))))
end
theorem p40 {prog:Prog}(hf:prog.fn 40 = some pf40){s0:List UInt8}{K:List UInt8→List UInt8→Bool→Prop}(h:T40_0 prog K s0) :∃x0:List UInt8,∃x1:List UInt8,∃x2:Bool,K x0 x1 x2∧Pus prog 40 [.s s0] (.tup [.s x0,.s x1,.b x2]):=by
  obtain ⟨v,hv,x0,x1,x2,hk,rfl⟩:=Pus.of (K:=fun v=>∃x0:List UInt8,∃x1:List UInt8,∃x2:Bool,K x0 x1 x2∧v = .tup [.s x0,.s x1,.b x2]) hf rfl (w40_0 (σ:=sl0 [.s s0]) (fun σ st   x0 x1 x2 H2 H3 H4 hk=>⟨.tup [.s x0,.s x1,.b x2],by simp only [pf40,ares,aresL,H2,H3,H4,ares1,Option.map_some],_,rfl,x0,x1,x2,hk,rfl⟩) rfl h)
  exact ⟨x0,x1,x2,hk,hv⟩
def r41_0:List AI:=[oC 2 (.s [])]
def r41_1:List AI:=[oM 3 0,
 oB 4 .eql (.t 3) (.c (.i .u8 34)),
 oM 5 4,
 oG 6 (.mv (.t 0)) 5 false,
 oG 7 (.bin .eql (.t 6) (.c (.i .u8 92))) 5 false,
 oO 8 (.pick (.t 5) (.c (.b true)) (.t 7))]
def r41_2:List AI:=[oM 9 0,
 oO 10 (.bslice [.i .u8 0] 2 [(0,(.c (.i .u8 92))),(1,(.t 9))]),
 oO 11 (.b2s (.t 10)),
 oM 2 11]
def r41_3:List AI:=[oM 12 0,
 oB 13 .eql (.t 12) (.c (.i .u8 10))]
def r41_4:List AI:=[oC 2 (.s [92,110])]
def r41_5:List AI:=[oM 14 0,
 oB 15 .geq (.t 14) (.c (.i .u8 32)),
 oM 16 15,
 oG 17 (.mv (.t 0)) 16 true,
 oG 18 (.bin .leq (.t 17) (.c (.i .u8 126))) 16 true,
 oO 19 (.pick (.t 16) (.t 18) (.c (.b false)))]
def r41_6:List AI:=[oM 20 0,
 oO 21 (.bslice [.i .u8 0] 1 [(0,(.t 20))]),
 oO 22 (.b2s (.t 21)),
 oM 2 22]
def r41_7:List AI:=[oM 23 0,
 oB 24 .quo (.t 23) (.c (.i .u8 16)),
 oM 25 0,
 oB 26 .quo (.t 25) (.c (.i .u8 16)),
 oB 27 .add (.t 26) (.c (.i .u8 1)),
 oO 28 (.slS (.c (.s [48,49,50,51,52,53,54,55,56,57,97,98,99,100,101,102])) (some (.t 24)) (some (.t 27))),
 oB 29 .add (.c (.s [92,120])) (.t 28),
 oM 30 0,
 oB 31 .rem (.t 30) (.c (.i .u8 16)),
 oM 32 0,
 oB 33 .rem (.t 32) (.c (.i .u8 16)),
 oB 34 .add (.t 33) (.c (.i .u8 1)),
 oO 35 (.slS (.c (.s [48,49,50,51,52,53,54,55,56,57,97,98,99,100,101,102])) (some (.t 31)) (some (.t 34))),
 oB 36 .add (.t 29) (.t 35),
 oM 2 36]
abbrev b41:AC:=(.seq (.reg 0 r41_0) (.seq (.seq (.reg 1 r41_1) (.cond (.t 8) (.seq (.reg 2 r41_2) .ret) .skip)) (.seq (.seq (.reg 3 r41_3) (.cond (.t 13) (.seq (.reg 4 r41_4) .ret) .skip)) (.seq (.seq (.reg 5 r41_5) (.cond (.t 19) (.seq (.reg 6 r41_6) .ret) .skip)) (.seq (.reg 7 r41_7) .ret)))))
def pf41:AF:={ nt:=37,res:=[.tmp 2],body:=b41 }
abbrev H41 (Q:AE→Sl→St→Prop)(K:List UInt8→Prop):Prop:=∀(σ:Sl)(st:St)(x0:List UInt8),σ 2 = .s x0→K x0→Q .ret σ st
def T41_0 (prog:Prog)(K:List UInt8→Prop)(c0:Int):Prop:=
  (c0 = 34→∃c'2:UInt8,c0 = (c'2.toNat:Int)∧K [(92:UInt8),c'2])∧(¬(c0 = 34)→(c0 = 92→∃c'5:UInt8,c0 = (c'5.toNat:Int)∧K [(92:UInt8),c'5])∧(¬(c0 = 92)→(c0 = 10→K ([92,110]:List UInt8))∧(¬(c0 = 10)→(c0 ≥ 32→(c0≤126→∃c'10:UInt8,c0 = (c'10.toNat:Int)∧K [c'10])∧(¬(c0≤126)→0≤(IntKind.u8.wrap ((c0:Int).tdiv 16))∧(IntKind.u8.wrap ((c0:Int).tdiv 16))≤(IntKind.u8.wrap ((IntKind.u8.wrap ((c0:Int).tdiv 16)) + 1))∧(IntKind.u8.wrap ((IntKind.u8.wrap ((c0:Int).tdiv 16)) + 1)).toNat≤([48,49,50,51,52,53,54,55,56,57,97,98,99,100,101,102]:List UInt8).length∧([92,120]:List UInt8).length + ((([48,49,50,51,52,53,54,55,56,57,97,98,99,100,101,102]:List UInt8).drop (IntKind.u8.wrap ((c0:Int).tdiv 16)).toNat).take ((IntKind.u8.wrap ((IntKind.u8.wrap ((c0:Int).tdiv 16)) + 1)).toNat - (IntKind.u8.wrap ((c0:Int).tdiv 16)).toNat)).length≤maxStr∧0≤((c0:Int).tmod 16)∧((c0:Int).tmod 16)≤(IntKind.u8.wrap (((c0:Int).tmod 16) + 1))∧(IntKind.u8.wrap (((c0:Int).tmod 16) + 1)).toNat≤([48,49,50,51,52,53,54,55,56,57,97,98,99,100,101,102]:List UInt8).length∧(([92,120]:List UInt8) ++ ((([48,49,50,51,52,53,54,55,56,57,97,98,99,100,101,102]:List UInt8).drop (IntKind.u8.wrap ((c0:Int).tdiv 16)).toNat).take ((IntKind.u8.wrap ((IntKind.u8.wrap ((c0:Int).tdiv 16)) + 1)).toNat - (IntKind.u8.wrap ((c0:Int).tdiv 16)).toNat))).length + ((([48,49,50,51,52,53,54,55,56,57,97,98,99,100,101,102]:List UInt8).drop ((c0:Int).tmod 16).toNat).take ((IntKind.u8.wrap (((c0:Int).tmod 16) + 1)).toNat - ((c0:Int).tmod 16).toNat)).length≤maxStr∧K ((([92,120]:List UInt8) ++ ((([48,49,50,51,52,53,54,55,56,57,97,98,99,100,101,102]:List UInt8).drop (IntKind.u8.wrap ((c0:Int).tdiv 16)).toNat).take ((IntKind.u8.wrap ((IntKind.u8.wrap ((c0:Int).tdiv 16)) + 1)).toNat - (IntKind.u8.wrap ((c0:Int).tdiv 16)).toNat))) ++ ((([48,49,50,51,52,53,54,55,56,57,97,98,99,100,101,102]:List UInt8).drop ((c0:Int).tmod 16).toNat).take ((IntKind.u8.wrap (((c0:Int).tmod 16) + 1)).toNat - ((c0:Int).tmod 16).toNat)))))∧(¬(c0 ≥ 32)→0≤(IntKind.u8.wrap ((c0:Int).tdiv 16))∧(IntKind.u8.wrap ((c0:Int).tdiv 16))≤(IntKind.u8.wrap ((IntKind.u8.wrap ((c0:Int).tdiv 16)) + 1))∧(IntKind.u8.wrap ((IntKind.u8.wrap ((c0:Int).tdiv 16)) + 1)).toNat≤([48,49,50,51,52,53,54,55,56,57,97,98,99,100,101,102]:List UInt8).length∧([92,120]:List UInt8).length + ((([48,49,50,51,52,53,54,55,56,57,97,98,99,100,101,102]:List UInt8).drop (IntKind.u8.wrap ((c0:Int).tdiv 16)).toNat).take ((IntKind.u8.wrap ((IntKind.u8.wrap ((c0:Int).tdiv 16)) + 1)).toNat - (IntKind.u8.wrap ((c0:Int).tdiv 16)).toNat)).length≤maxStr∧0≤((c0:Int).tmod 16)∧((c0:Int).tmod 16)≤(IntKind.u8.wrap (((c0:Int).tmod 16) + 1))∧(IntKind.u8.wrap (((c0:Int).tmod 16) + 1)).toNat≤([48,49,50,51,52,53,54,55,56,57,97,98,99,100,101,102]:List UInt8).length∧(([92,120]:List UInt8) ++ ((([48,49,50,51,52,53,54,55,56,57,97,98,99,100,101,102]:List UInt8).drop (IntKind.u8.wrap ((c0:Int).tdiv 16)).toNat).take ((IntKind.u8.wrap ((IntKind.u8.wrap ((c0:Int).tdiv 16)) + 1)).toNat - (IntKind.u8.wrap ((c0:Int).tdiv 16)).toNat))).length + ((([48,49,50,51,52,53,54,55,56,57,97,98,99,100,101,102]:List UInt8).drop ((c0:Int).tmod 16).toNat).take ((IntKind.u8.wrap (((c0:Int).tmod 16) + 1)).toNat - ((c0:Int).tmod 16).toNat)).length≤maxStr∧K ((([92,120]:List UInt8) ++ ((([48,49,50,51,52,53,54,55,56,57,97,98,99,100,101,102]:List UInt8).drop (IntKind.u8.wrap ((c0:Int).tdiv 16)).toNat).take ((IntKind.u8.wrap ((IntKind.u8.wrap ((c0:Int).tdiv 16)) + 1)).toNat - (IntKind.u8.wrap ((c0:Int).tdiv 16)).toNat))) ++ ((([48,49,50,51,52,53,54,55,56,57,97,98,99,100,101,102]:List UInt8).drop ((c0:Int).tmod 16).toNat).take ((IntKind.u8.wrap (((c0:Int).tmod 16) + 1)).toNat - ((c0:Int).tmod 16).toNat)))))))
section
variable {prog:Prog}{d:Nat}{Q:AE→Sl→St→Prop}{K:List UInt8→Prop}(hQ:H41 Q K){σ:Sl}{st:St}
include hQ
theorem w41_0 {c0:Int}(H0:σ 0 = .i .u8 c0)(h:T41_0 prog K c0):W prog d (.seq (.reg 0 r41_0) (.seq (.seq (.reg 1 r41_1) (.cond (.t 8) (.seq (.reg 2 r41_2) .ret) .skip)) (.seq (.seq (.reg 3 r41_3) (.cond (.t 13) (.seq (.reg 4 r41_4) .ret) .skip)) (.seq (.seq (.reg 5 r41_5) (.cond (.t 19) (.seq (.reg 6 r41_6) .ret) .skip)) (.seq (.reg 7 r41_7) .ret))))) σ st Q:=
 q_ rfl (m_ (e_ (sq_ (q_ rfl (s_mvI H0 (b_ rfl rfl eql_ (s_mvB rfl (em_ (g:=5) rfl (fun g'1=>gn_ (b:=true) rfl rfl (gn_ (b:=true) rfl rfl (pt_ rfl rfl (e_ (ct_ rfl (q_ rfl (m_ ((h.1 g'1).elim fun c'2 e'3=>s_bslM (f:=row8) (l:=[(92:UInt8),c'2]) rfl rfl (g_cons rfl rfl rfl (g_cons (g_u8 H0 e'3.1) rfl rfl g_nil)) rfl (s_b2s rfl (m_ (e_ (rt_ (hQ _ _ _ rfl e'3.2))))))))))))) (fun g'1=>gy_ rfl (s_mvI H0 (gy_ rfl (b_ rfl rfl eql_ (pf_ rfl rfl (e_ (cs_ rfl (fun g'4=>q_ rfl (m_ (((h.2 g'1).1 g'4).elim fun c'5 e'6=>s_bslM (f:=row8) (l:=[(92:UInt8),c'5]) rfl rfl (g_cons rfl rfl rfl (g_cons (g_u8 H0 e'6.1) rfl rfl g_nil)) rfl (s_b2s rfl (m_ (e_ (rt_ (hQ _ _ _ rfl e'6.2)))))))) (fun g'4=>sk_ (sq_ (q_ rfl (m_ (b_ H0 rfl eql_ (e_ (cs_ rfl (fun g'7=>q_ rfl (m_ (e_ (rt_ (hQ _ _ _ rfl (((h.2 g'1).2 g'4).1 g'7)))))) (fun g'7=>sk_ (sq_ (q_ rfl (s_mvI H0 (b_ rfl rfl geq_ (s_mvB rfl (em_ (g:=16) rfl (fun g'8=>gy_ rfl (s_mvI H0 (gy_ rfl (b_ rfl rfl leq_ (pt_ rfl rfl (e_ (cs_ rfl (fun g'9=>q_ rfl (m_ ((((((h.2 g'1).2 g'4).2 g'7).1 g'8).1 g'9).elim fun c'10 e'11=>s_bslM (f:=row8) (l:=[c'10]) rfl rfl (g_cons (g_u8 H0 e'11.1) rfl rfl g_nil) rfl (s_b2s rfl (m_ (e_ (rt_ (hQ _ _ _ rfl e'11.2)))))))) (fun g'9=>sk_ (q_ rfl (m_ (b_ H0 rfl (abin_quo' (by decide)) (m_ (b_ H0 rfl (abin_quo' (by decide)) (b_ rfl rfl add_ (s_slS rfl rfl rfl (((((h.2 g'1).2 g'4).2 g'7).1 g'8).2 g'9).1 (((((h.2 g'1).2 g'4).2 g'7).1 g'8).2 g'9).2.1 (((((h.2 g'1).2 g'4).2 g'7).1 g'8).2 g'9).2.2.1 (b_ rfl rfl (abin_cat' (((((h.2 g'1).2 g'4).2 g'7).1 g'8).2 g'9).2.2.2.1) (m_ (b_ H0 rfl (abin_rem' (by decide)) (m_ (b_ H0 rfl (abin_rem' (by decide)) (b_ rfl rfl add_ (s_slS rfl rfl rfl (((((h.2 g'1).2 g'4).2 g'7).1 g'8).2 g'9).2.2.2.2.1 (((((h.2 g'1).2 g'4).2 g'7).1 g'8).2 g'9).2.2.2.2.2.1 (((((h.2 g'1).2 g'4).2 g'7).1 g'8).2 g'9).2.2.2.2.2.2.1 (b_ rfl rfl (abin_cat' (((((h.2 g'1).2 g'4).2 g'7).1 g'8).2 g'9).2.2.2.2.2.2.2.1) (m_ (e_ (rt_ (hQ _ _ _ rfl (((((h.2 g'1).2 g'4).2 g'7).1 g'8).2 g'9).2.2.2.2.2.2.2.2))))))))))))))))))))))))))) (fun g'8=>gn_ (b:=false) rfl rfl (gn_ (b:=false) rfl rfl (pf_ rfl rfl (e_ (cf_ rfl (sk_ (q_ rfl (m_ (b_ H0 rfl (abin_quo' (by decide)) (m_ (b_ H0 rfl (abin_quo' (by decide)) (b_ rfl rfl add_ (s_slS rfl rfl rfl ((((h.2 g'1).2 g'4).2 g'7).2 g'8).1 ((((h.2 g'1).2 g'4).2 g'7).2 g'8).2.1 ((((h.2 g'1).2 g'4).2 g'7).2 g'8).2.2.1 (b_ rfl rfl (abin_cat' ((((h.2 g'1).2 g'4).2 g'7).2 g'8).2.2.2.1) (m_ (b_ H0 rfl (abin_rem' (by decide)) (m_ (b_ H0 rfl (abin_rem' (by decide)) (b_ rfl rfl add_ (s_slS rfl rfl rfl ((((h.2 g'1).2 g'4).2 g'7).2 g'8).2.2.2.2.1 ((((h.2 g'1).2 g'4).2 g'7).2 g'8).2.2.2.2.2.1 ((((h.2 g'1).2 g'4).2 g'7).2 g'8).2.2.2.2.2.2.1 (b_ rfl rfl (abin_cat' ((((h.2 g'1).2 g'4).2 g'7).2 g'8).2.2.2.2.2.2.2.1) (m_ (e_ (rt_ (hQ _ _ _ rfl ((((h.2 g'1).2 g'4).2 g'7).2 g'8).2.2.2.2.2.2.2.2))))))))))))))))))))))))))))))))))))))))))))))))))))))
end
theorem p41 {prog:Prog}(hf:prog.fn 41 = some pf41){c0:Int}{K:List UInt8→Prop}(h:T41_0 prog K c0) :∃x0:List UInt8,K x0∧Pus prog 41 [.i .u8 c0] (.s x0):=by
  obtain ⟨v,hv,x0,hk,rfl⟩:=Pus.of (K:=fun v=>∃x0:List UInt8,K x0∧v = .s x0) hf rfl (w41_0 (σ:=sl0 [.i .u8 c0]) (fun σ st   x0 H2 hk=>⟨.s x0,by simp only [pf41,ares,aresL,H2,ares1,Option.map_some],_,rfl,x0,hk,rfl⟩) rfl h)
  exact ⟨x0,hk,hv⟩
def r44_0:List AI:=[oC 4 (.i .i64 0)]
def r44_1:List AI:=[oC 5 (.i .i64 0)]
def r44_2:List AI:=[oM 6 5,
 oM 7 1,
 oB 8 .lss (.t 6) (.t 7)]
def r44_3:List AI:=[oM 11 5,
 oO 12 (.ixS (.c (.s [48,49,50,51,52,53,54,55,56,57,97,98,99,100,101,102])) (.t 11)),
 oM 13 0,
 oB 14 .eql (.t 12) (.t 13)]
def r44_4:List AI:=[oM 15 5,
 oM 4 15]
def r44_5:List AI:=[oM 9 5,
 oB 10 .add (.t 9) (.c (.i .i64 1)),
 oM 5 10]
def r44_6:List AI:=[oC 4 (.i .i64 (-1))]
abbrev l44_0:AC:=(.seq (.seq (.reg 2 r44_2) (.cond (.t 8) .skip (.exit 0))) (.seq (.block 1 (.seq (.reg 4 r44_3) (.cond (.t 14) (.seq (.reg 5 r44_4) .ret) .skip))) (.reg 3 r44_5)))
abbrev c44_1:AC:=(.seq (.reg 6 r44_6) .ret)
abbrev b44:AC:=(.seq (.reg 0 r44_0) (.seq (.seq (.reg 1 r44_1) (.block 0 (.loop l44_0))) c44_1))
def pf44:AF:={ nt:=16,res:=[.tmp 4],body:=b44 }
abbrev H44 (Q:AE→Sl→St→Prop)(K:Int→Prop):Prop:=∀(σ:Sl)(st:St)(x0:Int),σ 4 = .i .i64 x0→K x0→Q .ret σ st
abbrev I44_0 (prog:Prog)(d:Nat)(Q:AE→Sl→St→Prop)(c0:Int)(base1:Int)(i5:Int):Prop:=
  ∀(σ:Sl)(st:St),σ 0 = .i .u8 c0→σ 1 = .i .i64 base1→σ 5 = .i .i64 i5→W prog d (.loop l44_0) σ st (blockW 0 (thenW prog d c44_1 Q))
def T44_2 (prog:Prog)(K:Int→Prop) :Prop:=
  K (-1)
def T44_1 (prog:Prog)(K:Int→Prop)(P0:Int→Prop)(c0:Int)(base1:Int)(i5:Int):Prop:=
  (i5 < base1→0≤i5∧∃c'2:UInt8,([48,49,50,51,52,53,54,55,56,57,97,98,99,100,101,102]:List UInt8)[(i5).toNat]? = some c'2∧((c'2.toNat:Int) = c0→K i5)∧(¬((c'2.toNat:Int) = c0)→P0 (IntKind.i64.wrap (i5 + 1))))∧(¬(i5 < base1)→T44_2 prog K )
def T44_0 (prog:Prog)(K:Int→Prop)(c0:Int)(base1:Int):Prop:=
  ∀P0:Int→Prop,(∀(i5:Int),T44_1 prog K P0 c0 base1 i5→P0 i5)→P0 0
section
variable {prog:Prog}{d:Nat}{Q:AE→Sl→St→Prop}{K:Int→Prop}(hQ:H44 Q K){σ:Sl}{st:St}
include hQ
theorem w44_2 (h:T44_2 prog K ):W prog d c44_1 σ st Q:=
 q_ rfl (m_ (e_ (rt_ (hQ _ _ _ rfl h))))
theorem w44_1 {c0 base1 i5:Int}{P0:Int→Prop} (kP0 :∀(i5:Int),P0 i5→I44_0 prog d Q c0 base1 i5)(H0:σ 0 = .i .u8 c0)(H1:σ 1 = .i .i64 base1)(H5:σ 5 = .i .i64 i5)(h:T44_1 prog K P0 c0 base1 i5):W prog d l44_0 σ st (thenW prog d (.loop l44_0) (blockW 0 (thenW prog d c44_1 Q))):=
 sq_ (q_ rfl (m_ (m_ (b_ H5 H1 lss_ (e_ (cs_ rfl (fun g'1=>sk_ (sq_ (bk_ (q_ rfl (m_ ((h.1 g'1).2.elim fun c'2 e'3=>s_ixS rfl H5 (h.1 g'1).1 e'3.1 (m_ (b_ rfl H0 eql_ (e_ (cs_ rfl (fun g'4=>q_ rfl (m_ (m_ (e_ (rt_ (hQ _ _ _ H5 (e'3.2.1 g'4))))))) (fun g'4=>sk_ (W.reg0 rfl fun _ _=>m_ (b_ H5 rfl add_ (m_ (e_ (kP0 _ (e'3.2.2 g'4) _ _ H0 H1 rfl)))))))))))))))) (fun g'1=>ex_ (w44_2 hQ (h.2 g'1)))))))))
theorem w44_0 {c0 base1:Int}(H0:σ 0 = .i .u8 c0)(H1:σ 1 = .i .i64 base1)(h:T44_0 prog K c0 base1):W prog d (.seq (.reg 0 r44_0) (.seq (.seq (.reg 1 r44_1) (.block 0 (.loop l44_0))) c44_1)) σ st Q:=
 q_ rfl (m_ (e_ (sq_ (q_ rfl (m_ (e_ (bk_ (h (I44_0 prog d Q c0 base1) (fun _ hb _ _ H0 H1 H5=>W.loop (w44_1 hQ (fun _ x=>x) H0 H1 H5 hb)) _ _ H0 H1 rfl))))))))
end
theorem p44 {prog:Prog}(hf:prog.fn 44 = some pf44){c0:Int}{base1:Int}{K:Int→Prop}(h:T44_0 prog K c0 base1) :∃x0:Int,K x0∧Pus prog 44 [.i .u8 c0,.i .i64 base1] (.i .i64 x0):=by
  obtain ⟨v,hv,x0,hk,rfl⟩:=Pus.of (K:=fun v=>∃x0:Int,K x0∧v = .i .i64 x0) hf rfl (w44_0 (σ:=sl0 [.i .u8 c0,.i .i64 base1]) (fun σ st   x0 H4 hk=>⟨.i .i64 x0,by simp only [pf44,ares,aresL,H4,ares1,Option.map_some],_,rfl,x0,hk,rfl⟩) rfl rfl h)
  exact ⟨x0,hk,hv⟩
end Go.AM
