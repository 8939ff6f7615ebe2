/- Parts of the proof: U30a, U30b, U38a. -/
import Derived.Test.YtffbkdcgkhbpoaaG2
set_option linter.all false
namespace Go.AM
open Go
set_option linter.unusedVariables false
set_option linter.unusedSimpArgs false
set_option maxRecDepth 4000
attribute [local irreducible] WO fillCells fillRows
def r42_0:List AI:=[oC 4 (.s []),
 oC 5 (.b false)]
def r42_1:List AI:=[oM 6 0,
 oM 7 1,
 oO 8 (.call false 46 [(.t 6),(.t 7)]),
 oO 9 (.un .not (.t 8))]
def r42_2:List AI:=[oM 10 0,
 oM 4 10,
 oC 5 (.b false)]
def r42_3:List AI:=[oM 11 0,
 oM 12 1,
 oO 13 (.len true (.t 12)),
 oO 14 (.slS (.t 11) (some (.t 13)) none),
 oM 4 14,
 oC 5 (.b true)]
abbrev b42:AC:=(.seq (.reg 0 r42_0) (.seq (.seq (.reg 1 r42_1) (.cond (.t 9) (.seq (.reg 2 r42_2) .ret) .skip)) (.seq (.reg 3 r42_3) .ret)))
def pf42:AF:={ nt:=15,res:=[.tmp 4,.tmp 5],body:=b42 }
abbrev H42 (Q:AE→Sl→St→Prop)(K:List UInt8→Bool→Prop):Prop:=∀(σ:Sl)(st:St)(x0:List UInt8)(x1:Bool),σ 4 = .s x0→σ 5 = .b x1→K x0 x1→Q .ret σ st
def T42_0 (prog:Prog)(K:List UInt8→Bool→Prop)(s0:List UInt8)(prefix1:List UInt8):Prop:=
  ∃r'1:Bool,Pus prog 46 [.s s0,.s prefix1] (.b r'1)∧((!r'1) = true→K s0 false)∧((!r'1) = false→0≤(prefix1.length:Int)∧(prefix1.length:Int).toNat≤s0.length∧K (s0.drop (prefix1.length:Int).toNat) true)
section
variable {prog:Prog}{d:Nat}{Q:AE→Sl→St→Prop}{K:List UInt8→Bool→Prop}(hQ:H42 Q K){σ:Sl}{st:St}
include hQ
theorem w42_0 {s0 prefix1:List UInt8}(H0:σ 0 = .s s0)(H1:σ 1 = .s prefix1)(h:T42_0 prog K s0 prefix1):W prog d (.seq (.reg 0 r42_0) (.seq (.seq (.reg 1 r42_1) (.cond (.t 9) (.seq (.reg 2 r42_2) .ret) .skip)) (.seq (.reg 3 r42_3) .ret))) σ st Q:=
 q_ rfl (m_ (m_ (e_ (sq_ (q_ rfl (m_ (m_ (h.elim fun r'1 e'2=>ca_ (sc H0 rfl (sc H1 rfl sn)) e'2.1 (nt_ rfl (e_ (cb_ rfl (fun g'3=>q_ rfl (m_ (m_ (m_ (e_ (rt_ (hQ _ _ _ _ H0 rfl (e'2.2.1 g'3)))))))) (fun g'3=>sk_ (q_ rfl (m_ (m_ (ln_ H1 (s_slS_lo H0 rfl (e'2.2.2 g'3).1 (e'2.2.2 g'3).2.1 (m_ (m_ (e_ (rt_ (hQ _ _ _ _ rfl rfl (e'2.2.2 g'3).2.2))))))))))))))))))))))
end
theorem p42 {prog:Prog}(hf:prog.fn 42 = some pf42){s0:List UInt8}{prefix1:List UInt8}{K:List UInt8→Bool→Prop}(h:T42_0 prog K s0 prefix1) :∃x0:List UInt8,∃x1:Bool,K x0 x1∧Pus prog 42 [.s s0,.s prefix1] (.tup [.s x0,.b x1]):=by
  obtain ⟨v,hv,x0,x1,hk,rfl⟩:=Pus.of (K:=fun v=>∃x0:List UInt8,∃x1:Bool,K x0 x1∧v = .tup [.s x0,.b x1]) hf rfl (w42_0 (σ:=sl0 [.s s0,.s prefix1]) (fun σ st   x0 x1 H4 H5 hk=>⟨.tup [.s x0,.b x1],by simp only [pf42,ares,aresL,H4,H5,ares1,Option.map_some],_,rfl,x0,x1,hk,rfl⟩) rfl rfl h)
  exact ⟨x0,x1,hk,hv⟩
def r46_0:List AI:=[oC 4 (.b false)]
def r46_1:List AI:=[oM 5 0,
 oO 6 (.len true (.t 5)),
 oM 7 1,
 oO 8 (.len true (.t 7)),
 oB 9 .geq (.t 6) (.t 8),
 oM 10 9,
 oG 11 (.mv (.t 0)) 10 true,
 oG 12 (.mv (.t 1)) 10 true,
 oG 13 (.len true (.t 12)) 10 true,
 oG 14 (.slS (.t 11) none (some (.t 13))) 10 true,
 oG 15 (.mv (.t 1)) 10 true,
 oG 16 (.bin .eql (.t 14) (.t 15)) 10 true,
 oO 17 (.pick (.t 10) (.t 16) (.c (.b false))),
 oM 4 17]
abbrev b46:AC:=(.seq (.reg 0 r46_0) (.seq (.reg 1 r46_1) .ret))
def pf46:AF:={ nt:=18,res:=[.tmp 4],body:=b46 }
abbrev H46 (Q:AE→Sl→St→Prop)(K:Bool→Prop):Prop:=∀(σ:Sl)(st:St)(x0:Bool),σ 4 = .b x0→K x0→Q .ret σ st
def T46_0 (prog:Prog)(K:Bool→Prop)(s0:List UInt8)(prefix1:List UInt8):Prop:=
  ((s0.length:Int) ≥ (prefix1.length:Int)→0≤(prefix1.length:Int)∧(prefix1.length:Int).toNat≤s0.length∧K (decide ((s0.take (prefix1.length:Int).toNat) = prefix1)))∧(¬((s0.length:Int) ≥ (prefix1.length:Int))→K false)
section
variable {prog:Prog}{d:Nat}{Q:AE→Sl→St→Prop}{K:Bool→Prop}(hQ:H46 Q K){σ:Sl}{st:St}
include hQ
theorem w46_0 {s0 prefix1:List UInt8}(H0:σ 0 = .s s0)(H1:σ 1 = .s prefix1)(h:T46_0 prog K s0 prefix1):W prog d (.seq (.reg 0 r46_0) (.seq (.reg 1 r46_1) .ret)) σ st Q:=
 q_ rfl (m_ (e_ (q_ rfl (s_mvS H0 (ln_ rfl (s_mvS H1 (ln_ rfl (b_ rfl rfl geq_ (s_mvB rfl (em_ (g:=10) rfl (fun g'1=>gy_ rfl (s_mvS H0 (gy_ rfl (s_mvS H1 (gy_ rfl (ln_ rfl (gy_ rfl (s_slS_hi rfl rfl (h.1 g'1).1 (h.1 g'1).2.1 (gy_ rfl (s_mvS H1 (gy_ rfl (b_ rfl rfl seq_ (pt_ rfl rfl (s_mvB rfl (e_ (rt_ (hQ _ _ _ rfl (h.1 g'1).2.2))))))))))))))))) (fun g'1=>gn_ (b:=false) rfl rfl (gn_ (b:=false) rfl rfl (gn_ (b:=false) rfl rfl (gn_ (b:=false) rfl rfl (gn_ (b:=false) rfl rfl (gn_ (b:=false) rfl rfl (pf_ rfl rfl (s_mvB rfl (e_ (rt_ (hQ _ _ _ rfl (h.2 g'1))))))))))))))))))))))
end
theorem p46 {prog:Prog}(hf:prog.fn 46 = some pf46){s0:List UInt8}{prefix1:List UInt8}{K:Bool→Prop}(h:T46_0 prog K s0 prefix1) :∃x0:Bool,K x0∧Pus prog 46 [.s s0,.s prefix1] (.b x0):=by
  obtain ⟨v,hv,x0,hk,rfl⟩:=Pus.of (K:=fun v=>∃x0:Bool,K x0∧v = .b x0) hf rfl (w46_0 (σ:=sl0 [.s s0,.s prefix1]) (fun σ st   x0 H4 hk=>⟨.b x0,by simp only [pf46,ares,aresL,H4,ares1,Option.map_some],_,rfl,x0,hk,rfl⟩) rfl rfl h)
  exact ⟨x0,hk,hv⟩
def r36_0:List AI:=[oC 4 (.s []),
 oC 5 (.b false)]
def r36_1:List AI:=[oM 6 0,
 oM 7 1,
 oO 8 (.call false 42 [(.t 6),(.t 7)]),
 oE 9 0 8,
 oE 10 1 8,
 oM 4 9,
 oM 5 10]
abbrev b36:AC:=(.seq (.reg 0 r36_0) (.seq (.reg 1 r36_1) .ret))
def pf36:AF:={ nt:=11,res:=[.tmp 4,.tmp 5],body:=b36 }
abbrev H36 (Q:AE→Sl→St→Prop)(K:List UInt8→Bool→Prop):Prop:=∀(σ:Sl)(st:St)(x0:List UInt8)(x1:Bool),σ 4 = .s x0→σ 5 = .b x1→K x0 x1→Q .ret σ st
def T36_0 (prog:Prog)(K:List UInt8→Bool→Prop)(s0:List UInt8)(prefix1:List UInt8):Prop:=
  ∃r'1:List UInt8,∃r'2:Bool,Pus prog 42 [.s s0,.s prefix1] (.tup [.s r'1,.b r'2])∧K r'1 r'2
section
variable {prog:Prog}{d:Nat}{Q:AE→Sl→St→Prop}{K:List UInt8→Bool→Prop}(hQ:H36 Q K){σ:Sl}{st:St}
include hQ
theorem w36_0 {s0 prefix1:List UInt8}(H0:σ 0 = .s s0)(H1:σ 1 = .s prefix1)(h:T36_0 prog K s0 prefix1):W prog d (.seq (.reg 0 r36_0) (.seq (.reg 1 r36_1) .ret)) σ st Q:=
 q_ rfl (m_ (m_ (e_ (q_ rfl (m_ (m_ (h.elim fun r'1 e'4=>e'4.elim fun r'2 e'3=>ca_ (sc H0 rfl (sc H1 rfl sn)) e'3.1 (x_ rfl rfl (x_ rfl rfl (m_ (m_ (e_ (rt_ (hQ _ _ _ _ rfl rfl e'3.2))))))))))))))
end
theorem p36 {prog:Prog}(hf:prog.fn 36 = some pf36){s0:List UInt8}{prefix1:List UInt8}{K:List UInt8→Bool→Prop}(h:T36_0 prog K s0 prefix1) :∃x0:List UInt8,∃x1:Bool,K x0 x1∧Pus prog 36 [.s s0,.s prefix1] (.tup [.s x0,.b x1]):=by
  obtain ⟨v,hv,x0,x1,hk,rfl⟩:=Pus.of (K:=fun v=>∃x0:List UInt8,∃x1:Bool,K x0 x1∧v = .tup [.s x0,.b x1]) hf rfl (w36_0 (σ:=sl0 [.s s0,.s prefix1]) (fun σ st   x0 x1 H4 H5 hk=>⟨.tup [.s x0,.b x1],by simp only [pf36,ares,aresL,H4,H5,ares1,Option.map_some],_,rfl,x0,x1,hk,rfl⟩) rfl rfl h)
  exact ⟨x0,x1,hk,hv⟩
def r43_0:List AI:=[oC 4 (.i .i64 0)]
def r43_1:List AI:=[oM 5 0,
 oM 6 1,
 oO 7 (.call false 47 [(.t 5),(.t 6)]),
 oM 4 7]
abbrev b43:AC:=(.seq (.reg 0 r43_0) (.seq (.reg 1 r43_1) .ret))
def pf43:AF:={ nt:=8,res:=[.tmp 4],body:=b43 }
abbrev H43 (Q:AE→Sl→St→Prop)(K:Int→Prop):Prop:=∀(σ:Sl)(st:St)(x0:Int),σ 4 = .i .i64 x0→K x0→Q .ret σ st
def T43_0 (prog:Prog)(K:Int→Prop)(s0:List UInt8)(c1:Int):Prop:=
  ∃r'1:Int,Pus prog 47 [.s s0,.i .u8 c1] (.i .i64 r'1)∧K r'1
section
variable {prog:Prog}{d:Nat}{Q:AE→Sl→St→Prop}{K:Int→Prop}(hQ:H43 Q K){σ:Sl}{st:St}
include hQ
theorem w43_0 {s0:List UInt8}{c1:Int}(H0:σ 0 = .s s0)(H1:σ 1 = .i .u8 c1)(h:T43_0 prog K s0 c1):W prog d (.seq (.reg 0 r43_0) (.seq (.reg 1 r43_1) .ret)) σ st Q:=
 q_ rfl (m_ (e_ (q_ rfl (m_ (m_ (h.elim fun r'1 e'2=>ca_ (sc H0 rfl (sc H1 rfl sn)) e'2.1 (m_ (e_ (rt_ (hQ _ _ _ rfl e'2.2))))))))))
end
theorem p43 {prog:Prog}(hf:prog.fn 43 = some pf43){s0:List UInt8}{c1:Int}{K:Int→Prop}(h:T43_0 prog K s0 c1) :∃x0:Int,K x0∧Pus prog 43 [.s s0,.i .u8 c1] (.i .i64 x0):=by
  obtain ⟨v,hv,x0,hk,rfl⟩:=Pus.of (K:=fun v=>∃x0:Int,K x0∧v = .i .i64 x0) hf rfl (w43_0 (σ:=sl0 [.s s0,.i .u8 c1]) (fun σ st   x0 H4 hk=>⟨.i .i64 x0,by simp only [pf43,ares,aresL,H4,ares1,Option.map_some],_,rfl,x0,hk,rfl⟩) rfl rfl h)
  exact ⟨x0,hk,hv⟩
def r47_0:List AI:=[oC 4 (.i .i64 0)]
def r47_1:List AI:=[oM 5 0,
 oM 6 1,
 oO 7 (.call false 48 [(.t 5),(.t 6)]),
 oM 4 7]
abbrev b47:AC:=(.seq (.reg 0 r47_0) (.seq (.reg 1 r47_1) .ret))
def pf47:AF:={ nt:=8,res:=[.tmp 4],body:=b47 }
abbrev H47 (Q:AE→Sl→St→Prop)(K:Int→Prop):Prop:=∀(σ:Sl)(st:St)(x0:Int),σ 4 = .i .i64 x0→K x0→Q .ret σ st
def T47_0 (prog:Prog)(K:Int→Prop)(s0:List UInt8)(c1:Int):Prop:=
  ∃r'1:Int,Pus prog 48 [.s s0,.i .u8 c1] (.i .i64 r'1)∧K r'1
section
variable {prog:Prog}{d:Nat}{Q:AE→Sl→St→Prop}{K:Int→Prop}(hQ:H47 Q K){σ:Sl}{st:St}
include hQ
theorem w47_0 {s0:List UInt8}{c1:Int}(H0:σ 0 = .s s0)(H1:σ 1 = .i .u8 c1)(h:T47_0 prog K s0 c1):W prog d (.seq (.reg 0 r47_0) (.seq (.reg 1 r47_1) .ret)) σ st Q:=
 q_ rfl (m_ (e_ (q_ rfl (m_ (m_ (h.elim fun r'1 e'2=>ca_ (sc H0 rfl (sc H1 rfl sn)) e'2.1 (m_ (e_ (rt_ (hQ _ _ _ rfl e'2.2))))))))))
end
theorem p47 {prog:Prog}(hf:prog.fn 47 = some pf47){s0:List UInt8}{c1:Int}{K:Int→Prop}(h:T47_0 prog K s0 c1) :∃x0:Int,K x0∧Pus prog 47 [.s s0,.i .u8 c1] (.i .i64 x0):=by
  obtain ⟨v,hv,x0,hk,rfl⟩:=Pus.of (K:=fun v=>∃x0:Int,K x0∧v = .i .i64 x0) hf rfl (w47_0 (σ:=sl0 [.s s0,.i .u8 c1]) (fun σ st   x0 H4 hk=>⟨.i .i64 x0,by simp only [pf47,ares,aresL,H4,ares1,Option.map_some],_,rfl,x0,hk,rfl⟩) rfl rfl h)
  exact ⟨x0,hk,hv⟩
def r11_0:List AI:=[oC 2 (.s []),
 oC 3 (.i .i64 0)]
def r11_1:List AI:=[oM 4 0,
 oO 5 (.len true (.t 4)),
 oB 6 .gtr (.t 5) (.c (.i .i64 400))]
def r11_2:List AI:=[oC 2 (.s []),
 oC 3 (.i .i64 4)]
def r11_3:List AI:=[oM 7 0,
 oO 8 (.call true 30 [(.c (.sl .full [])),(.t 7)]),
 oO 9 (.b2s (.t 8)),
 oM 2 9,
 oC 3 (.i .i64 0)]
abbrev b11:AC:=(.seq (.reg 0 r11_0) (.seq (.seq (.reg 1 r11_1) (.cond (.t 6) (.seq (.reg 2 r11_2) .ret) .skip)) (.seq (.reg 3 r11_3) .ret)))
def pf11:AF:={ nt:=10,res:=[.tmp 2,.tmp 3],body:=b11 }
abbrev H11 (Q:AE→Sl→St→Prop)(K:List UInt8→Int→Prop):Prop:=∀(σ:Sl)(st:St)(x0:List UInt8)(x1:Int),σ 2 = .s x0→σ 3 = .i .i64 x1→K x0 x1→Q .ret σ st
def T11_0 (prog:Prog)(K:List UInt8→Int→Prop)(s0:List UInt8):Prop:=
  ((s0.length:Int) > 400→K ([]:List UInt8) 4)∧(¬((s0.length:Int) > 400)→∃r'2:List UInt8,PuA prog 30 (List.map row8 ([]:List UInt8)) [.s s0] (List.map row8 r'2)∧K r'2 0)
section
variable {prog:Prog}{d:Nat}{Q:AE→Sl→St→Prop}{K:List UInt8→Int→Prop}(hQ:H11 Q K){σ:Sl}{st:St}
include hQ
theorem w11_0 {s0:List UInt8}(H0:σ 0 = .s s0)(h:T11_0 prog K s0):W prog d (.seq (.reg 0 r11_0) (.seq (.seq (.reg 1 r11_1) (.cond (.t 6) (.seq (.reg 2 r11_2) .ret) .skip)) (.seq (.reg 3 r11_3) .ret))) σ st Q:=
 q_ rfl (m_ (m_ (e_ (sq_ (q_ rfl (m_ (ln_ H0 (b_ rfl rfl gtr_ (e_ (cs_ rfl (fun g'1=>q_ rfl (m_ (m_ (e_ (rt_ (hQ _ _ _ _ rfl rfl (h.1 g'1))))))) (fun g'1=>sk_ (q_ rfl (m_ ((h.2 g'1).elim fun r'2 e'3=>s_callA (sec (show _ = AV.sl .full (List.map row8 []) from rfl) (sec H0 sen)) e'3.1 (by simpa using App.full) (fun o'4 st'6 a'5=>s_b2s rfl (m_ (m_ (e_ (rt_ (hQ _ _ _ _ rfl rfl e'3.2))))))))))))))))))))
end
theorem p11 {prog:Prog}(hf:prog.fn 11 = some pf11){s0:List UInt8}{K:List UInt8→Int→Prop}(h:T11_0 prog K s0) :∃x0:List UInt8,∃x1:Int,K x0 x1∧Pus prog 11 [.s s0] (.tup [.s x0,.i .i64 x1]):=by
  obtain ⟨v,hv,x0,x1,hk,rfl⟩:=Pus.of (K:=fun v=>∃x0:List UInt8,∃x1:Int,K x0 x1∧v = .tup [.s x0,.i .i64 x1]) hf rfl (w11_0 (σ:=sl0 [.s s0]) (fun σ st   x0 x1 H2 H3 hk=>⟨.tup [.s x0,.i .i64 x1],by simp only [pf11,ares,aresL,H2,H3,ares1,Option.map_some],_,rfl,x0,x1,hk,rfl⟩) rfl h)
  exact ⟨x0,x1,hk,hv⟩
def r15_0:List AI:=[oC 2 (.s [])]
def r15_1:List AI:=[oM 3 0,
 oB 4 .lss (.t 3) (.c (.i .i64 0))]
def r15_2:List AI:=[oM 5 0,
 oO 6 (.cvi .u64 (.t 5)),
 oO 7 (.un .neg (.t 6)),
 oO 8 (.call false 34 [(.t 7),(.c (.i .u64 10))]),
 oB 9 .add (.c (.s [45])) (.t 8),
 oM 2 9]
def r15_3:List AI:=[oM 10 0,
 oO 11 (.cvi .u64 (.t 10)),
 oO 12 (.call false 34 [(.t 11),(.c (.i .u64 10))]),
 oM 2 12]
abbrev b15:AC:=(.seq (.reg 0 r15_0) (.seq (.seq (.reg 1 r15_1) (.cond (.t 4) (.seq (.reg 2 r15_2) .ret) .skip)) (.seq (.reg 3 r15_3) .ret)))
def pf15:AF:={ nt:=13,res:=[.tmp 2],body:=b15 }
abbrev H15 (Q:AE→Sl→St→Prop)(K:List UInt8→Prop):Prop:=∀(σ:Sl)(st:St)(x0:List UInt8),σ 2 = .s x0→K x0→Q .ret σ st
def T15_0 (prog:Prog)(K:List UInt8→Prop)(n0:Int):Prop:=
  (n0 < 0→∃r'2:List UInt8,Pus prog 34 [.i .u64 (IntKind.u64.wrap (0 - (IntKind.u64.wrap n0))),.i .u64 10] (.s r'2)∧([45]:List UInt8).length + r'2.length≤maxStr∧K (([45]:List UInt8) ++ r'2))∧(¬(n0 < 0)→∃r'4:List UInt8,Pus prog 34 [.i .u64 (IntKind.u64.wrap n0),.i .u64 10] (.s r'4)∧K r'4)
section
variable {prog:Prog}{d:Nat}{Q:AE→Sl→St→Prop}{K:List UInt8→Prop}(hQ:H15 Q K){σ:Sl}{st:St}
include hQ
theorem w15_0 {n0:Int}(H0:σ 0 = .i .i64 n0)(h:T15_0 prog K n0):W prog d (.seq (.reg 0 r15_0) (.seq (.seq (.reg 1 r15_1) (.cond (.t 4) (.seq (.reg 2 r15_2) .ret) .skip)) (.seq (.reg 3 r15_3) .ret))) σ st Q:=
 q_ rfl (m_ (e_ (sq_ (q_ rfl (m_ (b_ H0 rfl lss_ (e_ (cs_ rfl (fun g'1=>q_ rfl (m_ (s_cvi H0 (s_neg rfl ((h.1 g'1).elim fun r'2 e'3=>ca_ (sc rfl rfl (sc rfl rfl sn)) e'3.1 (b_ rfl rfl (abin_cat' e'3.2.1) (m_ (e_ (rt_ (hQ _ _ _ rfl e'3.2.2)))))))))) (fun g'1=>sk_ (q_ rfl (m_ (s_cvi H0 ((h.2 g'1).elim fun r'4 e'5=>ca_ (sc rfl rfl (sc rfl rfl sn)) e'5.1 (m_ (e_ (rt_ (hQ _ _ _ rfl e'5.2)))))))))))))))))
end
theorem p15 {prog:Prog}(hf:prog.fn 15 = some pf15){n0:Int}{K:List UInt8→Prop}(h:T15_0 prog K n0) :∃x0:List UInt8,K x0∧Pus prog 15 [.i .i64 n0] (.s x0):=by
  obtain ⟨v,hv,x0,hk,rfl⟩:=Pus.of (K:=fun v=>∃x0:List UInt8,K x0∧v = .s x0) hf rfl (w15_0 (σ:=sl0 [.i .i64 n0]) (fun σ st   x0 H2 hk=>⟨.s x0,by simp only [pf15,ares,aresL,H2,ares1,Option.map_some],_,rfl,x0,hk,rfl⟩) rfl h)
  exact ⟨x0,hk,hv⟩
def r21_0:List AI:=[oC 2 (.i .i64 0),
 oC 3 (.i .i64 0)]
def r21_1:List AI:=[oM 10 0,
 oO 11 (.len true (.t 10)),
 oB 12 .gtr (.t 11) (.c (.i .i64 2000))]
def r21_2:List AI:=[oC 2 (.i .i64 0),
 oC 3 (.i .i64 4)]
def r21_3:List AI:=[oM 14 0,
 oO 15 (.call false 36 [(.t 14),(.c (.s [45]))]),
 oM 13 15,
 oE 16 0 13,
 oE 17 1 13,
 oM 4 16,
 oM 5 17]
def r21_4:List AI:=[oM 18 5,
 oO 19 (.un .not (.t 18))]
def r21_5:List AI:=[oM 21 0,
 oO 22 (.call false 37 [(.t 21),(.c (.i .u64 10)),(.c (.i .u64 9223372036854775807))]),
 oM 20 22,
 oE 23 0 20,
 oE 24 1 20,
 oM 6 23,
 oM 7 24]
def r21_6:List AI:=[oM 25 6,
 oO 26 (.cvi .i64 (.t 25)),
 oM 27 7,
 oM 2 26,
 oM 3 27]
def r21_7:List AI:=[oM 29 4,
 oO 30 (.call false 37 [(.t 29),(.c (.i .u64 10)),(.c (.i .u64 9223372036854775808))]),
 oM 28 30,
 oE 31 0 28,
 oE 32 1 28,
 oM 8 31,
 oM 9 32]
def r21_8:List AI:=[oM 33 9,
 oB 34 .eql (.t 33) (.c (.i .i64 0)),
 oM 35 34,
 oG 36 (.mv (.t 8)) 35 true,
 oG 37 (.bin .eql (.t 36) (.c (.i .u64 0))) 35 true,
 oO 38 (.pick (.t 35) (.t 37) (.c (.b false)))]
def r21_9:List AI:=[oC 9 (.i .i64 12)]
def r21_10:List AI:=[oM 39 8,
 oO 40 (.un .neg (.t 39)),
 oO 41 (.cvi .i64 (.t 40)),
 oM 42 9,
 oM 2 41,
 oM 3 42]
abbrev c21_0:AC:=(.seq (.reg 10 r21_10) .ret)
abbrev b21:AC:=(.seq (.reg 0 r21_0) (.seq (.seq (.reg 1 r21_1) (.cond (.t 12) (.seq (.reg 2 r21_2) .ret) .skip)) (.seq (.reg 3 r21_3) (.seq (.seq (.reg 4 r21_4) (.cond (.t 19) (.seq (.reg 5 r21_5) (.seq (.reg 6 r21_6) .ret)) .skip)) (.seq (.reg 7 r21_7) (.seq (.seq (.reg 8 r21_8) (.cond (.t 38) (.reg 9 r21_9) .skip)) c21_0))))))
def pf21:AF:={ nt:=43,res:=[.tmp 2,.tmp 3],body:=b21 }
abbrev H21 (Q:AE→Sl→St→Prop)(K:Int→Int→Prop):Prop:=∀(σ:Sl)(st:St)(x0:Int)(x1:Int),σ 2 = .i .i64 x0→σ 3 = .i .i64 x1→K x0 x1→Q .ret σ st
def T21_1 (prog:Prog)(K:Int→Int→Prop)(n8:Int)(e9:Int):Prop:=
  K (IntKind.i64.wrap (IntKind.u64.wrap (0 - n8))) e9
def T21_0 (prog:Prog)(K:Int→Int→Prop)(s0:List UInt8):Prop:=
  ((s0.length:Int) > 2000→K 0 4)∧(¬((s0.length:Int) > 2000)→∃r'2:List UInt8,∃r'3:Bool,Pus prog 36 [.s s0,.s ([45]:List UInt8)] (.tup [.s r'2,.b r'3])∧((!r'3) = true→∃r'6:Int,∃r'7:Int,Pus prog 37 [.s s0,.i .u64 10,.i .u64 9223372036854775807] (.tup [.i .u64 r'6,.i .i64 r'7])∧K (IntKind.i64.wrap r'6) r'7)∧((!r'3) = false→∃r'10:Int,∃r'11:Int,Pus prog 37 [.s r'2,.i .u64 10,.i .u64 9223372036854775808] (.tup [.i .u64 r'10,.i .i64 r'11])∧(r'11 = 0→(r'10 = 0→T21_1 prog K r'10 12)∧(¬(r'10 = 0)→T21_1 prog K r'10 r'11))∧(¬(r'11 = 0)→T21_1 prog K r'10 r'11)))
section
variable {prog:Prog}{d:Nat}{Q:AE→Sl→St→Prop}{K:Int→Int→Prop}(hQ:H21 Q K){σ:Sl}{st:St}
include hQ
theorem w21_1 {n8 e9:Int}(H8:σ 8 = .i .u64 n8)(H9:σ 9 = .i .i64 e9)(h:T21_1 prog K n8 e9):W prog d c21_0 σ st Q:=
 q_ rfl (m_ (s_neg H8 (s_cvi rfl (m_ (m_ (m_ (e_ (rt_ (hQ _ _ _ _ rfl H9 h)))))))))
theorem w21_0 {s0:List UInt8}(H0:σ 0 = .s s0)(h:T21_0 prog K s0):W prog d (.seq (.reg 0 r21_0) (.seq (.seq (.reg 1 r21_1) (.cond (.t 12) (.seq (.reg 2 r21_2) .ret) .skip)) (.seq (.reg 3 r21_3) (.seq (.seq (.reg 4 r21_4) (.cond (.t 19) (.seq (.reg 5 r21_5) (.seq (.reg 6 r21_6) .ret)) .skip)) (.seq (.reg 7 r21_7) (.seq (.seq (.reg 8 r21_8) (.cond (.t 38) (.reg 9 r21_9) .skip)) c21_0)))))) σ st Q:=
 q_ rfl (m_ (m_ (e_ (sq_ (q_ rfl (m_ (ln_ H0 (b_ rfl rfl gtr_ (e_ (cs_ rfl (fun g'1=>q_ rfl (m_ (m_ (e_ (rt_ (hQ _ _ _ _ rfl rfl (h.1 g'1))))))) (fun g'1=>sk_ (q_ rfl (m_ ((h.2 g'1).elim fun r'2 e'16=>e'16.elim fun r'3 e'4=>ca_ (sc H0 rfl (sc rfl rfl sn)) e'4.1 (m_ (x_ rfl rfl (x_ rfl rfl (m_ (m_ (e_ (sq_ (q_ rfl (m_ (nt_ rfl (e_ (cb_ rfl (fun g'5=>q_ rfl (m_ ((e'4.2.1 g'5).elim fun r'6 e'9=>e'9.elim fun r'7 e'8=>ca_ (sc H0 rfl (sc rfl rfl (sc rfl rfl sn))) e'8.1 (m_ (x_ rfl rfl (x_ rfl rfl (m_ (m_ (e_ (q_ rfl (m_ (s_cvi rfl (m_ (m_ (m_ (e_ (rt_ (hQ _ _ _ _ rfl rfl e'8.2)))))))))))))))))) (fun g'5=>sk_ (q_ rfl (m_ ((e'4.2.2 g'5).elim fun r'10 e'15=>e'15.elim fun r'11 e'12=>ca_ (sc rfl rfl (sc rfl rfl (sc rfl rfl sn))) e'12.1 (m_ (x_ rfl rfl (x_ rfl rfl (m_ (m_ (e_ (sq_ (q_ rfl (s_mvI rfl (b_ rfl rfl eql_ (s_mvB rfl (em_ (g:=35) rfl (fun g'13=>gy_ rfl (s_mvI rfl (gy_ rfl (b_ rfl rfl eql_ (pt_ rfl rfl (e_ (cs_ rfl (fun g'14=>W.reg0 rfl fun _ _=>m_ (e_ (w21_1 hQ rfl rfl ((e'12.2.1 g'13).1 g'14)))) (fun g'14=>sk_ (w21_1 hQ rfl rfl ((e'12.2.1 g'13).2 g'14)))))))))) (fun g'13=>gn_ (b:=false) rfl rfl (gn_ (b:=false) rfl rfl (pf_ rfl rfl (e_ (cf_ rfl (sk_ (w21_1 hQ rfl rfl (e'12.2.2 g'13))))))))))))))))))))))))))))))))))))))))))))))))))
end
theorem p21 {prog:Prog}(hf:prog.fn 21 = some pf21){s0:List UInt8}{K:Int→Int→Prop}(h:T21_0 prog K s0) :∃x0:Int,∃x1:Int,K x0 x1∧Pus prog 21 [.s s0] (.tup [.i .i64 x0,.i .i64 x1]):=by
  obtain ⟨v,hv,x0,x1,hk,rfl⟩:=Pus.of (K:=fun v=>∃x0:Int,∃x1:Int,K x0 x1∧v = .tup [.i .i64 x0,.i .i64 x1]) hf rfl (w21_0 (σ:=sl0 [.s s0]) (fun σ st   x0 x1 H2 H3 hk=>⟨.tup [.i .i64 x0,.i .i64 x1],by simp only [pf21,ares,aresL,H2,H3,ares1,Option.map_some],_,rfl,x0,x1,hk,rfl⟩) rfl h)
  exact ⟨x0,x1,hk,hv⟩
def r25_0:List AI:=[oC 2 (.s []),
 oC 3 (.i .i64 0)]
def r25_1:List AI:=[oM 7 0,
 oO 8 (.len true (.t 7)),
 oB 9 .gtr (.t 8) (.c (.i .i64 2000))]
def r25_2:List AI:=[oC 2 (.s []),
 oC 3 (.i .i64 4)]
def r25_3:List AI:=[oM 11 0,
 oO 12 (.call false 39 [(.t 11)]),
 oM 10 12,
 oE 13 0 10,
 oE 14 1 10,
 oE 15 2 10,
 oM 4 13,
 oM 5 14,
 oM 6 15]
def r25_4:List AI:=[oM 17 6,
 oO 18 (.un .not (.t 17)),
 oM 19 18,
 oG 20 (.mv (.t 5)) 19 false,
 oG 21 (.bin .neq (.t 20) (.c (.s []))) 19 false,
 oO 22 (.pick (.t 19) (.c (.b true)) (.t 21)),
 oM 16 22]
def r25_5:List AI:=[oC 2 (.s []),
 oC 3 (.i .i64 12)]
def r25_6:List AI:=[oM 24 4,
 oO 25 (.len true (.t 24)),
 oB 26 .gtr (.t 25) (.c (.i .i64 400)),
 oM 23 26]
def r25_7:List AI:=[oC 2 (.s []),
 oC 3 (.i .i64 4)]
def r25_8:List AI:=[oM 27 4,
 oM 2 27,
 oC 3 (.i .i64 0)]
abbrev b25:AC:=(.seq (.reg 0 r25_0) (.seq (.seq (.reg 1 r25_1) (.cond (.t 9) (.seq (.reg 2 r25_2) .ret) .skip)) (.seq (.reg 3 r25_3) (.seq (.block 0 (.seq (.reg 4 r25_4) (.cond (.t 16) (.seq (.reg 5 r25_5) .ret) (.seq (.reg 6 r25_6) (.cond (.t 23) (.seq (.reg 7 r25_7) .ret) .skip))))) (.seq (.reg 8 r25_8) .ret)))))
def pf25:AF:={ nt:=28,res:=[.tmp 2,.tmp 3],body:=b25 }
abbrev H25 (Q:AE→Sl→St→Prop)(K:List UInt8→Int→Prop):Prop:=∀(σ:Sl)(st:St)(x0:List UInt8)(x1:Int),σ 2 = .s x0→σ 3 = .i .i64 x1→K x0 x1→Q .ret σ st
def T25_0 (prog:Prog)(K:List UInt8→Int→Prop)(s0:List UInt8):Prop:=
  ((s0.length:Int) > 2000→K ([]:List UInt8) 4)∧(¬((s0.length:Int) > 2000)→∃r'2:List UInt8,∃r'3:List UInt8,∃r'4:Bool,Pus prog 39 [.s s0] (.tup [.s r'2,.s r'3,.b r'4])∧((!r'4) = true→K ([]:List UInt8) 12)∧((!r'4) = false→(r'3≠([]:List UInt8)→K ([]:List UInt8) 12)∧(¬(r'3≠([]:List UInt8))→((r'2.length:Int) > 400→K ([]:List UInt8) 4)∧(¬((r'2.length:Int) > 400)→K r'2 0))))
section
variable {prog:Prog}{d:Nat}{Q:AE→Sl→St→Prop}{K:List UInt8→Int→Prop}(hQ:H25 Q K){σ:Sl}{st:St}
include hQ
theorem w25_0 {s0:List UInt8}(H0:σ 0 = .s s0)(h:T25_0 prog K s0):W prog d (.seq (.reg 0 r25_0) (.seq (.seq (.reg 1 r25_1) (.cond (.t 9) (.seq (.reg 2 r25_2) .ret) .skip)) (.seq (.reg 3 r25_3) (.seq (.block 0 (.seq (.reg 4 r25_4) (.cond (.t 16) (.seq (.reg 5 r25_5) .ret) (.seq (.reg 6 r25_6) (.cond (.t 23) (.seq (.reg 7 r25_7) .ret) .skip))))) (.seq (.reg 8 r25_8) .ret))))) σ st Q:=
 q_ rfl (m_ (m_ (e_ (sq_ (q_ rfl (m_ (ln_ H0 (b_ rfl rfl gtr_ (e_ (cs_ rfl (fun g'1=>q_ rfl (m_ (m_ (e_ (rt_ (hQ _ _ _ _ rfl rfl (h.1 g'1))))))) (fun g'1=>sk_ (q_ rfl (m_ ((h.2 g'1).elim fun r'2 e'9=>e'9.elim fun r'3 e'10=>e'10.elim fun r'4 e'5=>ca_ (sc H0 rfl sn) e'5.1 (m_ (x_ rfl rfl (x_ rfl rfl (x_ rfl rfl (m_ (m_ (m_ (e_ (sq_ (bk_ (q_ rfl (s_mvB rfl (nt_ rfl (s_mvB rfl (eb_ (g:=19) rfl (fun g'6=>gn_ (b:=true) rfl rfl (gn_ (b:=true) rfl rfl (pt_ rfl rfl (s_mvB rfl (e_ (ct_ rfl (q_ rfl (m_ (m_ (e_ (rt_ (hQ _ _ _ _ rfl rfl (e'5.2.1 g'6))))))))))))) (fun g'6=>gy_ rfl (s_mvS rfl (gy_ rfl (b_ rfl rfl sne_ (pf_ rfl rfl (s_mvB rfl (e_ (cs_ rfl (fun g'7=>q_ rfl (m_ (m_ (e_ (rt_ (hQ _ _ _ _ rfl rfl ((e'5.2.2 g'6).1 g'7))))))) (fun g'7=>q_ rfl (m_ (ln_ rfl (b_ rfl rfl gtr_ (m_ (e_ (cs_ rfl (fun g'8=>q_ rfl (m_ (m_ (e_ (rt_ (hQ _ _ _ _ rfl rfl (((e'5.2.2 g'6).2 g'7).1 g'8))))))) (fun g'8=>sk_ (q_ rfl (m_ (m_ (m_ (e_ (rt_ (hQ _ _ _ _ rfl rfl (((e'5.2.2 g'6).2 g'7).2 g'8)))))))))))))))))))))))))))))))))))))))))))))))))))))
end
theorem p25 {prog:Prog}(hf:prog.fn 25 = some pf25){s0:List UInt8}{K:List UInt8→Int→Prop}(h:T25_0 prog K s0) :∃x0:List UInt8,∃x1:Int,K x0 x1∧Pus prog 25 [.s s0] (.tup [.s x0,.i .i64 x1]):=by
  obtain ⟨v,hv,x0,x1,hk,rfl⟩:=Pus.of (K:=fun v=>∃x0:List UInt8,∃x1:Int,K x0 x1∧v = .tup [.s x0,.i .i64 x1]) hf rfl (w25_0 (σ:=sl0 [.s s0]) (fun σ st   x0 x1 H2 H3 hk=>⟨.tup [.s x0,.i .i64 x1],by simp only [pf25,ares,aresL,H2,H3,ares1,Option.map_some],_,rfl,x0,x1,hk,rfl⟩) rfl h)
  exact ⟨x0,x1,hk,hv⟩
def r30_0:List AI:=[oC 4 (.sl .full [])]
def r30_1:List AI:=[oM 7 0,
 oO 8 (.bslice [.i .u8 0] 1 [(0,(.c (.i .u8 34)))]),
 oO 9 (.app 1 1 (.t 7) (.t 8)),
 oM 0 9]
def r30_2:List AI:=[oM 10 1,
 oO 11 (.len true (.t 10)),
 oC 12 (.i .i64 0)]
def r30_3:List AI:=[oB 13 .lss (.t 12) (.t 11)]
def r30_4:List AI:=[oM 14 12,
 oM 5 14]
def r30_5:List AI:=[oM 15 1,
 oM 16 5,
 oO 17 (.ixS (.t 15) (.t 16)),
 oM 6 17]
def r30_6:List AI:=[oM 23 6,
 oB 24 .eql (.t 23) (.c (.i .u8 34)),
 oM 25 24,
 oG 26 (.mv (.t 6)) 25 false,
 oG 27 (.bin .eql (.t 26) (.c (.i .u8 92))) 25 false,
 oO 28 (.pick (.t 25) (.c (.b true)) (.t 27)),
 oM 22 28]
def r30_7:List AI:=[oM 29 0,
 oM 30 6,
 oO 31 (.bslice [.i .u8 0] 2 [(0,(.c (.i .u8 92))),(1,(.t 30))]),
 oO 32 (.app 1 1 (.t 29) (.t 31)),
 oM 0 32]
def r30_8:List AI:=[oM 34 6,
 oB 35 .eql (.t 34) (.c (.i .u8 10)),
 oM 33 35]
def r30_9:List AI:=[oM 36 0,
 oO 37 (.bslice [.i .u8 0] 2 [(0,(.c (.i .u8 92))),(1,(.c (.i .u8 110)))]),
 oO 38 (.app 1 1 (.t 36) (.t 37)),
 oM 0 38]
def r30_10:List AI:=[oM 40 6,
 oB 41 .lss (.t 40) (.c (.i .u8 32)),
 oM 42 41,
 oG 43 (.mv (.t 6)) 42 false,
 oG 44 (.bin .gtr (.t 43) (.c (.i .u8 126))) 42 false,
 oO 45 (.pick (.t 42) (.c (.b true)) (.t 44)),
 oM 39 45]
def r30_11:List AI:=[oM 46 0,
 oM 47 6,
 oB 48 .shr (.t 47) (.c (.i .u64 4)),
 oO 49 (.ixS (.c (.s [48,49,50,51,52,53,54,55,56,57,97,98,99,100,101,102])) (.t 48)),
 oM 50 6,
 oB 51 .and (.t 50) (.c (.i .u8 15)),
 oO 52 (.ixS (.c (.s [48,49,50,51,52,53,54,55,56,57,97,98,99,100,101,102])) (.t 51)),
 oO 53 (.bslice [.i .u8 0] 4 [(0,(.c (.i .u8 92))),(1,(.c (.i .u8 120))),(2,(.t 49)),(3,(.t 52))]),
 oO 54 (.app 1 1 (.t 46) (.t 53)),
 oM 0 54]
def r30_12:List AI:=[oM 18 0,
 oM 19 6,
 oO 20 (.bslice [.i .u8 0] 1 [(0,(.t 19))]),
 oO 21 (.app 1 1 (.t 18) (.t 20)),
 oM 0 21]
def r30_13:List AI:=[oB 55 .add (.t 12) (.c (.i .i64 1)),
 oM 12 55]
def r30_14:List AI:=[oM 56 0,
 oO 57 (.bslice [.i .u8 0] 1 [(0,(.c (.i .u8 34)))]),
 oO 58 (.app 1 1 (.t 56) (.t 57)),
 oM 4 58]
abbrev c30_0:AC:=(.reg 13 r30_13)
abbrev l30_0:AC:=(.seq (.reg 3 r30_3) (.seq (.cond (.t 13) .skip (.exit 0)) (.seq (.block 1 (.seq (.reg 4 r30_4) (.seq (.reg 5 r30_5) (.block 2 (.seq (.reg 7 r30_6) (.cond (.t 22) (.reg 8 r30_7) (.seq (.reg 9 r30_8) (.cond (.t 33) (.reg 10 r30_9) (.seq (.reg 11 r30_10) (.cond (.t 39) (.reg 12 r30_11) (.reg 6 r30_12))))))))))) c30_0)))
abbrev c30_2:AC:=(.seq (.reg 14 r30_14) .ret)
abbrev c30_3:AC:=(.seq (.reg 1 r30_1) (.seq (.seq (.reg 2 r30_2) (.block 0 (.loop l30_0))) c30_2))
abbrev b30:AC:=(.seq (.reg 0 r30_0) c30_3)
def pf30:AF:={ nt:=59,res:=[.tmp 4],body:=b30 }
abbrev H30 (Q:AE→Sl→St→Prop)(K:List UInt8→Prop):Prop:=∀(σ:Sl)(st:St)(o0:Own)(x0:List UInt8),σ 4 = .sl o0 (List.map row8 x0)→App st.ow o0 x0.length→K x0→Q .ret σ st
abbrev I30_0 (prog:Prog)(d:Nat)(Q:AE→Sl→St→Prop)(s1:List UInt8)(t11:Int)(b0:List UInt8)(t12:Int):Prop:=
  ∀(σ:Sl)(st:St)(o_b0:Own),σ 0 = .sl o_b0 (List.map row8 b0)→σ 1 = .s s1→σ 11 = .i .i64 t11→σ 12 = .i .i64 t12→App st.ow o_b0 b0.length→W prog d (.loop l30_0) σ st (blockW 0 (thenW prog d c30_2 Q))
def T30_3 (prog:Prog)(K:List UInt8→Prop)(P0:List UInt8→Int→Prop)(b0:List UInt8)(s1:List UInt8)(t11:Int)(t12:Int):Prop:=
  P0 b0 (IntKind.i64.wrap (t12 + 1))
def T30_4 (prog:Prog)(K:List UInt8→Prop)(b0:List UInt8):Prop:=
  Fit (b0.length + [(34:UInt8)].length) 1∧K (b0 ++ [(34:UInt8)])
def T30_2 (prog:Prog)(K:List UInt8→Prop)(P0:List UInt8→Int→Prop)(b0:List UInt8)(s1:List UInt8)(t11:Int)(t12:Int):Prop:=
  (t12 < t11→0≤t12∧∃c'2:UInt8,s1[(t12).toNat]? = some c'2∧((c'2.toNat:Int) = 34→Fit (b0.length + [(92:UInt8),c'2].length) 1∧T30_3 prog K P0 (b0 ++ [(92:UInt8),c'2]) s1 t11 t12)∧(¬((c'2.toNat:Int) = 34)→((c'2.toNat:Int) = 92→Fit (b0.length + [(92:UInt8),c'2].length) 1∧T30_3 prog K P0 (b0 ++ [(92:UInt8),c'2]) s1 t11 t12)∧(¬((c'2.toNat:Int) = 92)→((c'2.toNat:Int) = 10→Fit (b0.length + [(92:UInt8),(110:UInt8)].length) 1∧T30_3 prog K P0 (b0 ++ [(92:UInt8),(110:UInt8)]) s1 t11 t12)∧(¬((c'2.toNat:Int) = 10)→((c'2.toNat:Int) < 32→0≤(bShr .u8 (c'2.toNat:Int) 4)∧∃c'23:UInt8,([48,49,50,51,52,53,54,55,56,57,97,98,99,100,101,102]:List UInt8)[(bShr .u8 (c'2.toNat:Int) 4).toNat]? = some c'23∧0≤(bAnd .u8 (c'2.toNat:Int) 15)∧∃c'25:UInt8,([48,49,50,51,52,53,54,55,56,57,97,98,99,100,101,102]:List UInt8)[(bAnd .u8 (c'2.toNat:Int) 15).toNat]? = some c'25∧Fit (b0.length + [(92:UInt8),(120:UInt8),c'23,c'25].length) 1∧T30_3 prog K P0 (b0 ++ [(92:UInt8),(120:UInt8),c'23,c'25]) s1 t11 t12)∧(¬((c'2.toNat:Int) < 32)→((c'2.toNat:Int) > 126→0≤(bShr .u8 (c'2.toNat:Int) 4)∧∃c'33:UInt8,([48,49,50,51,52,53,54,55,56,57,97,98,99,100,101,102]:List UInt8)[(bShr .u8 (c'2.toNat:Int) 4).toNat]? = some c'33∧0≤(bAnd .u8 (c'2.toNat:Int) 15)∧∃c'35:UInt8,([48,49,50,51,52,53,54,55,56,57,97,98,99,100,101,102]:List UInt8)[(bAnd .u8 (c'2.toNat:Int) 15).toNat]? = some c'35∧Fit (b0.length + [(92:UInt8),(120:UInt8),c'33,c'35].length) 1∧T30_3 prog K P0 (b0 ++ [(92:UInt8),(120:UInt8),c'33,c'35]) s1 t11 t12)∧(¬((c'2.toNat:Int) > 126)→Fit (b0.length + [c'2].length) 1∧T30_3 prog K P0 (b0 ++ [c'2]) s1 t11 t12))))))∧(¬(t12 < t11)→T30_4 prog K b0)
def T30_1 (prog:Prog)(K:List UInt8→Prop)(b0:List UInt8)(s1:List UInt8):Prop:=
  Fit (b0.length + [(34:UInt8)].length) 1∧∀P0:List UInt8→Int→Prop,(∀(b0:List UInt8)(t12:Int),T30_2 prog K P0 b0 s1 (s1.length:Int) t12→P0 b0 t12)→P0 (b0 ++ [(34:UInt8)]) 0
def T30_0 (prog:Prog)(K:List UInt8→Prop)(b0:List UInt8)(s1:List UInt8):Prop:=
  T30_1 prog K b0 s1
section
variable {prog:Prog}{d:Nat}{Q:AE→Sl→St→Prop}{K:List UInt8→Prop}(hQ:H30 Q K){σ:Sl}{st:St}
include hQ
theorem w30_3 {b0 s1:List UInt8}{t11 t12:Int}{P0:List UInt8→Int→Prop} (kP0 :∀(b0:List UInt8)(t12:Int),P0 b0 t12→I30_0 prog d Q s1 t11 b0 t12){o_b0:Own}(H0:σ 0 = .sl o_b0 (List.map row8 b0))(H1:σ 1 = .s s1)(H11:σ 11 = .i .i64 t11)(H12:σ 12 = .i .i64 t12)(A0:App st.ow o_b0 b0.length)(h:T30_3 prog K P0 b0 s1 t11 t12):W prog d c30_0 σ st (thenW prog d (.loop l30_0) (blockW 0 (thenW prog d c30_2 Q))):=
 W.reg0 rfl fun _ _=>b_ H12 rfl add_ (m_ (e_ (kP0 _ _ h _ _ _ H0 H1 H11 rfl A0)))
theorem w30_4 {b0:List UInt8}{o_b0:Own}(H0:σ 0 = .sl o_b0 (List.map row8 b0))(A0:App st.ow o_b0 b0.length)(h:T30_4 prog K b0):W prog d c30_2 σ st Q:=
 q_ rfl (s_mvL H0 (s_bslM (f:=row8) (l:=[(34:UInt8)]) rfl rfl (g_cons rfl rfl rfl g_nil) rfl (s_app row8_len rfl rfl rfl A0 h.1 rfl (fun o'1 ow'4 a'2 fr'3 on'5=>s_mvL rfl (e_ (rt_ (hQ _ _ _ _ rfl a'2 h.2)))))))
theorem w30_2 {b0 s1:List UInt8}{t11 t12:Int}{P0:List UInt8→Int→Prop} (kP0 :∀(b0:List UInt8)(t12:Int),P0 b0 t12→I30_0 prog d Q s1 t11 b0 t12){o_b0:Own}(H0:σ 0 = .sl o_b0 (List.map row8 b0))(H1:σ 1 = .s s1)(H11:σ 11 = .i .i64 t11)(H12:σ 12 = .i .i64 t12)(A0:App st.ow o_b0 b0.length)(h:T30_2 prog K P0 b0 s1 t11 t12):W prog d l30_0 σ st (thenW prog d (.loop l30_0) (blockW 0 (thenW prog d c30_2 Q))):=
 q_ rfl (b_ H12 H11 lss_ (e_ (sq_ (cs_ rfl (fun g'1=>sk_ (sq_ (bk_ (q_ rfl (m_ (m_ (e_ (q_ rfl (m_ (m_ ((h.1 g'1).2.elim fun c'2 e'3=>s_ixS H1 H12 (h.1 g'1).1 e'3.1 (m_ (e_ (bk_ (q_ rfl (s_mvI rfl (b_ rfl rfl eql_ (s_mvB rfl (em_ (g:=25) rfl (fun g'4=>gn_ (b:=true) rfl rfl (gn_ (b:=true) rfl rfl (pt_ rfl rfl (s_mvB rfl (e_ (ct_ rfl (W.reg0 rfl fun _ _=>s_mvL H0 (m_ (s_bslM (f:=row8) (l:=[(92:UInt8),c'2]) rfl rfl (g_cons rfl rfl rfl (g_cons rfl rfl rfl g_nil)) rfl (s_app row8_len rfl rfl rfl A0 (e'3.2.1 g'4).1 rfl (fun o'5 ow'8 a'6 fr'7 on'9=>s_mvL rfl (e_ (w30_3 hQ kP0 rfl H1 H11 H12 a'6 (e'3.2.1 g'4).2))))))))))))) (fun g'4=>gy_ rfl (s_mvI rfl (gy_ rfl (b_ rfl rfl eql_ (pf_ rfl rfl (s_mvB rfl (e_ (cs_ rfl (fun g'10=>W.reg0 rfl fun _ _=>s_mvL H0 (m_ (s_bslM (f:=row8) (l:=[(92:UInt8),c'2]) rfl rfl (g_cons rfl rfl rfl (g_cons rfl rfl rfl g_nil)) rfl (s_app row8_len rfl rfl rfl A0 ((e'3.2.2 g'4).1 g'10).1 rfl (fun o'11 ow'14 a'12 fr'13 on'15=>s_mvL rfl (e_ (w30_3 hQ kP0 rfl H1 H11 H12 a'12 ((e'3.2.2 g'4).1 g'10).2))))))) (fun g'10=>q_ rfl (m_ (b_ rfl rfl eql_ (m_ (e_ (cs_ rfl (fun g'16=>W.reg0 rfl fun _ _=>s_mvL H0 (s_bslM (f:=row8) (l:=[(92:UInt8),(110:UInt8)]) rfl rfl (g_cons rfl rfl rfl (g_cons rfl rfl rfl g_nil)) rfl (s_app row8_len rfl rfl rfl A0 (((e'3.2.2 g'4).2 g'10).1 g'16).1 rfl (fun o'17 ow'20 a'18 fr'19 on'21=>s_mvL rfl (e_ (w30_3 hQ kP0 rfl H1 H11 H12 a'18 (((e'3.2.2 g'4).2 g'10).1 g'16).2)))))) (fun g'16=>q_ rfl (s_mvI rfl (b_ rfl rfl lss_ (s_mvB rfl (em_ (g:=42) rfl (fun g'22=>gn_ (b:=true) rfl rfl (gn_ (b:=true) rfl rfl (pt_ rfl rfl (s_mvB rfl (e_ (ct_ rfl (W.reg0 rfl fun _ _=>s_mvL H0 (m_ (b_ rfl rfl (abin_shr' (by decide)) (((((e'3.2.2 g'4).2 g'10).2 g'16).1 g'22).2.elim fun c'23 e'24=>s_ixS rfl rfl ((((e'3.2.2 g'4).2 g'10).2 g'16).1 g'22).1 e'24.1 (m_ (b_ rfl rfl (abin_and _ _ _) (e'24.2.2.elim fun c'25 e'26=>s_ixS rfl rfl e'24.2.1 e'26.1 (s_bslM (f:=row8) (l:=[(92:UInt8),(120:UInt8),c'23,c'25]) rfl rfl (g_cons rfl rfl rfl (g_cons rfl rfl rfl (g_cons rfl rfl rfl (g_cons rfl rfl rfl g_nil)))) rfl (s_app row8_len rfl rfl rfl A0 e'26.2.1 rfl (fun o'27 ow'30 a'28 fr'29 on'31=>s_mvL rfl (e_ (w30_3 hQ kP0 rfl H1 H11 H12 a'28 e'26.2.2)))))))))))))))))) (fun g'22=>gy_ rfl (s_mvI rfl (gy_ rfl (b_ rfl rfl gtr_ (pf_ rfl rfl (s_mvB rfl (e_ (cs_ rfl (fun g'32=>W.reg0 rfl fun _ _=>s_mvL H0 (m_ (b_ rfl rfl (abin_shr' (by decide)) ((((((e'3.2.2 g'4).2 g'10).2 g'16).2 g'22).1 g'32).2.elim fun c'33 e'34=>s_ixS rfl rfl (((((e'3.2.2 g'4).2 g'10).2 g'16).2 g'22).1 g'32).1 e'34.1 (m_ (b_ rfl rfl (abin_and _ _ _) (e'34.2.2.elim fun c'35 e'36=>s_ixS rfl rfl e'34.2.1 e'36.1 (s_bslM (f:=row8) (l:=[(92:UInt8),(120:UInt8),c'33,c'35]) rfl rfl (g_cons rfl rfl rfl (g_cons rfl rfl rfl (g_cons rfl rfl rfl (g_cons rfl rfl rfl g_nil)))) rfl (s_app row8_len rfl rfl rfl A0 e'36.2.1 rfl (fun o'37 ow'40 a'38 fr'39 on'41=>s_mvL rfl (e_ (w30_3 hQ kP0 rfl H1 H11 H12 a'38 e'36.2.2)))))))))))) (fun g'32=>W.reg0 rfl fun _ _=>s_mvL H0 (m_ (s_bslM (f:=row8) (l:=[c'2]) rfl rfl (g_cons rfl rfl rfl g_nil) rfl (s_app row8_len rfl rfl rfl A0 (((((e'3.2.2 g'4).2 g'10).2 g'16).2 g'22).2 g'32).1 rfl (fun o'42 ow'45 a'43 fr'44 on'46=>s_mvL rfl (e_ (w30_3 hQ kP0 rfl H1 H11 H12 a'43 (((((e'3.2.2 g'4).2 g'10).2 g'16).2 g'22).2 g'32).2))))))))))))))))))))))))))))))))))))))))))))))))))))) (fun g'1=>ex_ (w30_4 hQ H0 A0 (h.2 g'1)))))))
theorem w30_1 {b0 s1:List UInt8}{o_b0:Own}(H0:σ 0 = .sl o_b0 (List.map row8 b0))(H1:σ 1 = .s s1)(A0:App st.ow o_b0 b0.length)(h:T30_1 prog K b0 s1):W prog d c30_3 σ st Q:=
 q_ rfl (s_mvL H0 (s_bslM (f:=row8) (l:=[(34:UInt8)]) rfl rfl (g_cons rfl rfl rfl g_nil) rfl (s_app row8_len rfl rfl rfl A0 h.1 rfl (fun o'1 ow'4 a'2 fr'3 on'5=>s_mvL rfl (e_ (sq_ (q_ rfl (m_ (ln_ H1 (m_ (e_ (bk_ (h.2 (I30_0 prog d Q s1 (s1.length:Int)) (fun _ _ hb _ _ _ H0 H1 H11 H12 A0=>W.loop (w30_2 hQ (fun _ _ x=>x) H0 H1 H11 H12 A0 hb)) _ _ _ rfl H1 rfl rfl a'2)))))))))))))
theorem w30_0 {b0 s1:List UInt8}{o_b0:Own}(H0:σ 0 = .sl o_b0 (List.map row8 b0))(H1:σ 1 = .s s1)(A0:App st.ow o_b0 b0.length)(h:T30_0 prog K b0 s1):W prog d (.seq (.reg 0 r30_0) c30_3) σ st Q:=
 q_ rfl (s_mvL (f:=row8) (l:=[]) rfl (e_ (w30_1 hQ H0 H1 A0 h)))
end
theorem p30 {prog:Prog}(hf:prog.fn 30 = some pf30){b0:List UInt8}{s1:List UInt8}{K:List UInt8→Prop}(h:T30_0 prog K b0 s1):PuAK prog 30 (List.map row8 b0) [.s s1] fun rows=>∃x:List UInt8,K x∧rows = List.map row8 x:=
  PuAK.of hf rfl fun d st o ha=>w30_0 (Q:=endW d _ (appK _)) (fun σ st' o' x h2 ha' hk=>⟨.sl o' (List.map row8 x),by simp only [pf30,ares,ares1,h2],_,_,rfl,by simpa using ha',⟨_,hk,rfl⟩⟩) rfl rfl (by simpa using ha) h
def r34_0:List AI:=[oC 4 (.s [])]
def r34_1:List AI:=[oO 5 (.alloc [.i .u8 0,.i .u8 0,.i .u8 0,.i .u8 0,.i .u8 0,.i .u8 0,.i .u8 0,.i .u8 0,.i .u8 0,.i .u8 0,.i .u8 0,.i .u8 0,.i .u8 0,.i .u8 0,.i .u8 0,.i .u8 0,.i .u8 0,.i .u8 0,.i .u8 0,.i .u8 0,.i .u8 0,.i .u8 0,.i .u8 0,.i .u8 0,.i .u8 0,.i .u8 0,.i .u8 0,.i .u8 0,.i .u8 0,.i .u8 0,.i .u8 0,.i .u8 0,.i .u8 0,.i .u8 0,.i .u8 0,.i .u8 0,.i .u8 0,.i .u8 0,.i .u8 0,.i .u8 0,.i .u8 0,.i .u8 0,.i .u8 0,.i .u8 0,.i .u8 0,.i .u8 0,.i .u8 0,.i .u8 0,.i .u8 0,.i .u8 0,.i .u8 0,.i .u8 0,.i .u8 0,.i .u8 0,.i .u8 0,.i .u8 0,.i .u8 0,.i .u8 0,.i .u8 0,.i .u8 0,.i .u8 0,.i .u8 0,.i .u8 0,.i .u8 0])]
def r34_2:List AI:=[oC 6 (.i .i64 64)]
def r34_3:List AI:=[oM 7 6,
 oB 8 .sub (.t 7) (.c (.i .i64 1)),
 oM 6 8]
def r34_4:List AI:=[oM 9 6,
 oM 10 0,
 oM 11 1,
 oB 12 .rem (.t 10) (.t 11),
 oO 13 (.ixS (.c (.s [48,49,50,51,52,53,54,55,56,57,97,98,99,100,101,102])) (.t 12)),
 oO 14 (.iaA 64 1 (.t 5) (.t 9)),
 oS 1 14 13]
def r34_5:List AI:=[oM 15 0,
 oM 16 1,
 oB 17 .quo (.t 15) (.t 16),
 oM 0 17]
def r34_6:List AI:=[oM 18 0,
 oB 19 .eql (.t 18) (.c (.i .u64 0))]
def r34_7:List AI:=[oM 20 6,
 oO 21 (.slA 64 1 (.t 5) (some (.t 20)) none),
 oO 22 (.b2s (.t 21)),
 oM 4 22]
abbrev l34_0:AC:=(.block 1 (.seq (.reg 3 r34_3) (.seq (.reg 4 r34_4) (.seq (.reg 5 r34_5) (.seq (.reg 6 r34_6) (.cond (.t 19) (.seq (.reg 7 r34_7) .ret) .skip))))))
abbrev b34:AC:=(.seq (.reg 0 r34_0) (.seq (.reg 1 r34_1) (.seq (.reg 2 r34_2) (.block 0 (.loop l34_0)))))
def pf34:AF:={ nt:=23,res:=[.tmp 4],body:=b34 }
abbrev H34 (Q:AE→Sl→St→Prop)(K:List UInt8→Prop):Prop:=∀(σ:Sl)(st:St)(x0:List UInt8),σ 4 = .s x0→K x0→Q .ret σ st
abbrev I34_0 (prog:Prog)(d:Nat)(Q:AE→Sl→St→Prop)(base1:Int)(n0:Int)(at6:Int)(m4096:List (UInt8)):Prop:=
  ∀(σ:Sl)(st:St)(v4096:Nat),σ 0 = .i .u64 n0→σ 1 = .i .u64 base1→σ 5 = .p (d,4096) v4096 0→σ 6 = .i .i64 at6→lk st.bx (d,4096) = some (v4096,List.map c8 m4096)→W prog d (.loop l34_0) σ st (blockW 0 Q)
def T34_1 (prog:Prog)(K:List UInt8→Prop)(P0:Int→Int→List (UInt8)→Prop)(n0:Int)(base1:Int)(at6:Int)(m4096:List (UInt8)):Prop:=
  base1≠0∧0≤((n0:Int).tmod base1)∧∃c'1:UInt8,([48,49,50,51,52,53,54,55,56,57,97,98,99,100,101,102]:List UInt8)[((n0:Int).tmod base1).toNat]? = some c'1∧0≤(IntKind.i64.wrap (at6 - 1))∧(IntKind.i64.wrap (at6 - 1)).toNat < 64∧(IntKind.i64.wrap (at6 - 1)).toNat < m4096.length∧base1≠0∧((IntKind.u64.wrap ((n0:Int).tdiv base1)) = 0→(m4096.set ((IntKind.i64.wrap (at6 - 1)).toNat) c'1).length = 64∧0≤(IntKind.i64.wrap (at6 - 1))∧(IntKind.i64.wrap (at6 - 1)).toNat≤64∧K ((m4096.set ((IntKind.i64.wrap (at6 - 1)).toNat) c'1).drop (IntKind.i64.wrap (at6 - 1)).toNat))∧(¬((IntKind.u64.wrap ((n0:Int).tdiv base1)) = 0)→P0 (IntKind.u64.wrap ((n0:Int).tdiv base1)) (IntKind.i64.wrap (at6 - 1)) (m4096.set ((IntKind.i64.wrap (at6 - 1)).toNat) c'1))
def T34_0 (prog:Prog)(K:List UInt8→Prop)(n0:Int)(base1:Int):Prop:=
  ∀P0:Int→Int→List (UInt8)→Prop,(∀(n0:Int)(at6:Int)(m4096:List (UInt8)),T34_1 prog K P0 n0 base1 at6 m4096→P0 n0 at6 m4096)→P0 n0 64 (List.replicate 64 0)
section
variable {prog:Prog}{d:Nat}{Q:AE→Sl→St→Prop}{K:List UInt8→Prop}(hQ:H34 Q K){σ:Sl}{st:St}
include hQ
theorem w34_1 {n0 base1 at6:Int}{m4096:List (UInt8)}{P0:Int→Int→List (UInt8)→Prop} (kP0 :∀(n0:Int)(at6:Int)(m4096:List (UInt8)),P0 n0 at6 m4096→I34_0 prog d Q base1 n0 at6 m4096){v4096:Nat}(H0:σ 0 = .i .u64 n0)(H1:σ 1 = .i .u64 base1)(H5:σ 5 = .p (d,4096) v4096 0)(H6:σ 6 = .i .i64 at6)(B4096:lk st.bx (d,4096) = some (v4096,List.map c8 m4096))(h:T34_1 prog K P0 n0 base1 at6 m4096):W prog d l34_0 σ st (thenW prog d (.loop l34_0) (blockW 0 Q)):=
 bk_ (q_ rfl (m_ (b_ H6 rfl sub_ (m_ (e_ (q_ rfl (m_ (m_ (m_ (b_ H0 H1 (abin_rem' h.1) (h.2.2.elim fun c'1 e'2=>s_ixS rfl rfl h.2.1 e'2.1 (s_iaP1 H5 rfl e'2.2.1 e'2.2.2.1 (s_storeA (f:=c8) (a:=c'1) c8_one rfl B4096 rfl e'2.2.2.2.1 (e_ (q_ rfl (m_ (m_ (b_ H0 H1 (abin_quo' e'2.2.2.2.2.1) (m_ (e_ (q_ rfl (m_ (b_ rfl rfl eql_ (e_ (cs_ rfl (fun g'3=>q_ rfl (m_ (s_slA_lo H5 lk_here (e'2.2.2.2.2.2.1 g'3).1 rfl rfl (e'2.2.2.2.2.2.1 g'3).2.1 (e'2.2.2.2.2.2.1 g'3).2.2.1 (s_b2s rfl (m_ (e_ (rt_ (hQ _ _ _ rfl (e'2.2.2.2.2.2.1 g'3).2.2.2)))))))) (fun g'3=>sk_ (kP0 _ _ _ (e'2.2.2.2.2.2.2 g'3) _ _ _ rfl H1 H5 rfl lk_here)))))))))))))))))))))))))))
theorem w34_0 {n0 base1:Int}(H0:σ 0 = .i .u64 n0)(H1:σ 1 = .i .u64 base1)(h:T34_0 prog K n0 base1):W prog d (.seq (.reg 0 r34_0) (.seq (.reg 1 r34_1) (.seq (.reg 2 r34_2) (.block 0 (.loop l34_0))))) σ st Q:=
 q_ rfl (m_ (e_ (sq_ (W.reg (s_alloc (e_ (q_ rfl (m_ (e_ (bk_ (h (I34_0 prog d Q base1) (fun _ _ _ hb _ _ _ H0 H1 H5 H6 B4096=>W.loop (w34_1 hQ (fun _ _ _ x=>x) H0 H1 H5 H6 B4096 hb)) _ _ _ H0 H1 rfl rfl (show lk _ (d,4096) = some (_,(List.map c8 (List.replicate 64 0):List AV)) from lk_here))))))))))))
end
theorem p34 {prog:Prog}(hf:prog.fn 34 = some pf34){n0:Int}{base1:Int}{K:List UInt8→Prop}(h:T34_0 prog K n0 base1) :∃x0:List UInt8,K x0∧Pus prog 34 [.i .u64 n0,.i .u64 base1] (.s x0):=by
  obtain ⟨v,hv,x0,hk,rfl⟩:=Pus.of (K:=fun v=>∃x0:List UInt8,K x0∧v = .s x0) hf rfl (w34_0 (σ:=sl0 [.i .u64 n0,.i .u64 base1]) (fun σ st   x0 H4 hk=>⟨.s x0,by simp only [pf34,ares,aresL,H4,ares1,Option.map_some],_,rfl,x0,hk,rfl⟩) rfl rfl h)
  exact ⟨x0,hk,hv⟩
def r37_0:List AI:=[oC 6 (.i .u64 0),
 oC 7 (.i .i64 0)]
def r37_1:List AI:=[oC 8 (.i .u64 0),
 oC 9 (.b false)]
def r37_2:List AI:=[oM 12 0,
 oO 13 (.len true (.t 12)),
 oC 14 (.i .i64 0)]
def r37_3:List AI:=[oB 15 .lss (.t 14) (.t 13)]
def r37_4:List AI:=[oM 16 14,
 oM 10 16]
def r37_5:List AI:=[oM 17 1,
 oO 18 (.slS (.c (.s [48,49,50,51,52,53,54,55,56,57,97,98,99,100,101,102])) none (some (.t 17))),
 oM 19 0,
 oM 20 10,
 oO 21 (.ixS (.t 19) (.t 20)),
 oO 22 (.call false 43 [(.t 18),(.t 21)]),
 oM 11 22]
def r37_6:List AI:=[oM 23 11,
 oB 24 .lss (.t 23) (.c (.i .i64 0)),
 oM 25 24,
 oG 26 (.mv (.t 10)) 25 false,
 oG 27 (.bin .eql (.t 26) (.c (.i .i64 1))) 25 false,
 oG 28 (.mv (.t 27)) 25 false,
 oG 29 (.mv (.t 0)) 28 true,
 oG 30 (.ixS (.t 29) (.c (.i .i64 0))) 28 true,
 oG 31 (.bin .eql (.t 30) (.c (.i .u8 48))) 28 true,
 oG 32 (.pick (.t 28) (.t 31) (.c (.b false))) 25 false,
 oO 33 (.pick (.t 25) (.c (.b true)) (.t 32))]
def r37_7:List AI:=[oC 6 (.i .u64 0),
 oC 7 (.i .i64 12)]
def r37_8:List AI:=[oM 34 9,
 oM 35 34,
 oG 36 (.mv (.t 8)) 35 false,
 oG 37 (.mv (.t 2)) 35 false,
 oG 38 (.mv (.t 11)) 35 false,
 oG 39 (.cvi .u64 (.t 38)) 35 false,
 oG 40 (.bin .sub (.t 37) (.t 39)) 35 false,
 oG 41 (.mv (.t 1)) 35 false,
 oG 42 (.bin .quo (.t 40) (.t 41)) 35 false,
 oG 43 (.bin .gtr (.t 36) (.t 42)) 35 false,
 oO 44 (.pick (.t 35) (.c (.b true)) (.t 43)),
 oM 9 44]
def r37_9:List AI:=[oM 45 9,
 oO 46 (.un .not (.t 45))]
def r37_10:List AI:=[oM 47 8,
 oM 48 1,
 oB 49 .mul (.t 47) (.t 48),
 oM 50 11,
 oO 51 (.cvi .u64 (.t 50)),
 oB 52 .add (.t 49) (.t 51),
 oM 8 52]
def r37_11:List AI:=[oB 53 .add (.t 14) (.c (.i .i64 1)),
 oM 14 53]
def r37_12:List AI:=[oM 55 0,
 oB 56 .eql (.t 55) (.c (.s [])),
 oM 54 56]
def r37_13:List AI:=[oC 6 (.i .u64 0),
 oC 7 (.i .i64 12)]
def r37_14:List AI:=[oM 58 9,
 oM 57 58]
def r37_15:List AI:=[oC 6 (.i .u64 0),
 oC 7 (.i .i64 16)]
def r37_16:List AI:=[oM 59 8,
 oM 6 59,
 oC 7 (.i .i64 0)]
abbrev c37_0:AC:=(.reg 11 r37_11)
abbrev l37_0:AC:=(.seq (.reg 3 r37_3) (.seq (.cond (.t 15) .skip (.exit 0)) (.seq (.block 1 (.seq (.reg 4 r37_4) (.seq (.reg 5 r37_5) (.seq (.seq (.reg 6 r37_6) (.cond (.t 33) (.seq (.reg 7 r37_7) .ret) .skip)) (.seq (.reg 8 r37_8) (.seq (.reg 9 r37_9) (.cond (.t 46) (.reg 10 r37_10) .skip))))))) c37_0)))
abbrev c37_2:AC:=(.seq (.block 2 (.seq (.reg 12 r37_12) (.cond (.t 54) (.seq (.reg 13 r37_13) .ret) (.seq (.reg 14 r37_14) (.cond (.t 57) (.seq (.reg 15 r37_15) .ret) .skip))))) (.seq (.reg 16 r37_16) .ret))
abbrev c37_3:AC:=(.seq (.seq (.reg 2 r37_2) (.block 0 (.loop l37_0))) c37_2)
abbrev c37_4:AC:=(.seq (.reg 1 r37_1) c37_3)
abbrev b37:AC:=(.seq (.reg 0 r37_0) c37_4)
def pf37:AF:={ nt:=60,res:=[.tmp 6,.tmp 7],body:=b37 }
abbrev H37 (Q:AE→Sl→St→Prop)(K:Int→Int→Prop):Prop:=∀(σ:Sl)(st:St)(x0:Int)(x1:Int),σ 6 = .i .u64 x0→σ 7 = .i .i64 x1→K x0 x1→Q .ret σ st
abbrev I37_0 (prog:Prog)(d:Nat)(Q:AE→Sl→St→Prop)(s0:List UInt8)(base1:Int)(most2:Int)(t13:Int)(n8:Int)(far9:Bool)(t14:Int):Prop:=
  ∀(σ:Sl)(st:St),σ 0 = .s s0→σ 1 = .i .u64 base1→σ 2 = .i .u64 most2→σ 8 = .i .u64 n8→σ 9 = .b far9→σ 13 = .i .i64 t13→σ 14 = .i .i64 t14→W prog d (.loop l37_0) σ st (blockW 0 (thenW prog d c37_2 Q))
def T37_4 (prog:Prog)(K:Int→Int→Prop)(P0:Int→Bool→Int→Prop)(s0:List UInt8)(base1:Int)(most2:Int)(n8:Int)(far9:Bool)(t13:Int)(t14:Int):Prop:=
  P0 n8 far9 (IntKind.i64.wrap (t14 + 1))
def T37_5 (prog:Prog)(K:Int→Int→Prop)(s0:List UInt8)(n8:Int)(far9:Bool):Prop:=
  (s0 = ([]:List UInt8)→K 0 12)∧(¬(s0 = ([]:List UInt8))→(far9 = true→K 0 16)∧(far9 = false→K n8 0))
def T37_3 (prog:Prog)(K:Int→Int→Prop)(P0:Int→Bool→Int→Prop)(s0:List UInt8)(base1:Int)(most2:Int)(n8:Int)(far9:Bool)(t13:Int)(t14:Int):Prop:=
  (t14 < t13→0≤base1∧(base1).toNat≤([48,49,50,51,52,53,54,55,56,57,97,98,99,100,101,102]:List UInt8).length∧0≤t14∧∃c'2:UInt8,s0[(t14).toNat]? = some c'2∧∃r'4:Int,Pus prog 43 [.s (([48,49,50,51,52,53,54,55,56,57,97,98,99,100,101,102]:List UInt8).take (base1).toNat),.i .u8 (c'2.toNat:Int)] (.i .i64 r'4)∧(r'4 < 0→K 0 12)∧(¬(r'4 < 0)→(t14 = 1→∃c'8:UInt8,s0[0]? = some c'8∧((c'8.toNat:Int) = 48→K 0 12)∧(¬((c'8.toNat:Int) = 48)→(far9 = true→T37_4 prog K P0 s0 base1 most2 n8 true t13 t14)∧(far9 = false→base1≠0∧(¬(n8 > (IntKind.u64.wrap (((IntKind.u64.wrap (most2 - (IntKind.u64.wrap r'4))):Int).tdiv base1)))→T37_4 prog K P0 s0 base1 most2 (IntKind.u64.wrap ((IntKind.u64.wrap (n8 * base1)) + (IntKind.u64.wrap r'4))) (decide (n8 > (IntKind.u64.wrap (((IntKind.u64.wrap (most2 - (IntKind.u64.wrap r'4))):Int).tdiv base1)))) t13 t14)∧(¬(¬(n8 > (IntKind.u64.wrap (((IntKind.u64.wrap (most2 - (IntKind.u64.wrap r'4))):Int).tdiv base1))))→T37_4 prog K P0 s0 base1 most2 n8 (decide (n8 > (IntKind.u64.wrap (((IntKind.u64.wrap (most2 - (IntKind.u64.wrap r'4))):Int).tdiv base1)))) t13 t14))))∧(¬(t14 = 1)→(far9 = true→T37_4 prog K P0 s0 base1 most2 n8 true t13 t14)∧(far9 = false→base1≠0∧(¬(n8 > (IntKind.u64.wrap (((IntKind.u64.wrap (most2 - (IntKind.u64.wrap r'4))):Int).tdiv base1)))→T37_4 prog K P0 s0 base1 most2 (IntKind.u64.wrap ((IntKind.u64.wrap (n8 * base1)) + (IntKind.u64.wrap r'4))) (decide (n8 > (IntKind.u64.wrap (((IntKind.u64.wrap (most2 - (IntKind.u64.wrap r'4))):Int).tdiv base1)))) t13 t14)∧(¬(¬(n8 > (IntKind.u64.wrap (((IntKind.u64.wrap (most2 - (IntKind.u64.wrap r'4))):Int).tdiv base1))))→T37_4 prog K P0 s0 base1 most2 n8 (decide (n8 > (IntKind.u64.wrap (((IntKind.u64.wrap (most2 - (IntKind.u64.wrap r'4))):Int).tdiv base1)))) t13 t14)))))∧(¬(t14 < t13)→T37_5 prog K s0 n8 far9)
def T37_2 (prog:Prog)(K:Int→Int→Prop)(s0:List UInt8)(base1:Int)(most2:Int)(n8:Int)(far9:Bool):Prop:=
  ∀P0:Int→Bool→Int→Prop,(∀(n8:Int)(far9:Bool)(t14:Int),T37_3 prog K P0 s0 base1 most2 n8 far9 (s0.length:Int) t14→P0 n8 far9 t14)→P0 n8 far9 0
def T37_1 (prog:Prog)(K:Int→Int→Prop)(s0:List UInt8)(base1:Int)(most2:Int):Prop:=
  T37_2 prog K s0 base1 most2 0 false
def T37_0 (prog:Prog)(K:Int→Int→Prop)(s0:List UInt8)(base1:Int)(most2:Int):Prop:=
  T37_1 prog K s0 base1 most2
section
variable {prog:Prog}{d:Nat}{Q:AE→Sl→St→Prop}{K:Int→Int→Prop}(hQ:H37 Q K){σ:Sl}{st:St}
include hQ
theorem w37_4 {s0:List UInt8}{base1 most2 n8:Int}{far9:Bool}{t13 t14:Int}{P0:Int→Bool→Int→Prop} (kP0 :∀(n8:Int)(far9:Bool)(t14:Int),P0 n8 far9 t14→I37_0 prog d Q s0 base1 most2 t13 n8 far9 t14)(H0:σ 0 = .s s0)(H1:σ 1 = .i .u64 base1)(H2:σ 2 = .i .u64 most2)(H8:σ 8 = .i .u64 n8)(H9:σ 9 = .b far9)(H13:σ 13 = .i .i64 t13)(H14:σ 14 = .i .i64 t14)(h:T37_4 prog K P0 s0 base1 most2 n8 far9 t13 t14):W prog d c37_0 σ st (thenW prog d (.loop l37_0) (blockW 0 (thenW prog d c37_2 Q))):=
 W.reg0 rfl fun _ _=>b_ H14 rfl add_ (m_ (e_ (kP0 _ _ _ h _ _ H0 H1 H2 H8 H9 H13 rfl)))
theorem w37_5 {s0:List UInt8}{n8:Int}{far9:Bool}(H0:σ 0 = .s s0)(H8:σ 8 = .i .u64 n8)(H9:σ 9 = .b far9)(h:T37_5 prog K s0 n8 far9):W prog d c37_2 σ st Q:=
 sq_ (bk_ (q_ rfl (m_ (b_ H0 rfl seq_ (m_ (e_ (cs_ rfl (fun g'1=>q_ rfl (m_ (m_ (e_ (rt_ (hQ _ _ _ _ rfl rfl (h.1 g'1))))))) (fun g'1=>q_ rfl (m_ (m_ (e_ (cb_ H9 (fun g'2=>q_ rfl (m_ (m_ (e_ (rt_ (hQ _ _ _ _ rfl rfl ((h.2 g'1).1 g'2))))))) (fun g'2=>sk_ (q_ rfl (m_ (m_ (m_ (e_ (rt_ (hQ _ _ _ _ H8 rfl ((h.2 g'1).2 g'2)))))))))))))))))))))
theorem w37_3 {s0:List UInt8}{base1 most2 n8:Int}{far9:Bool}{t13 t14:Int}{P0:Int→Bool→Int→Prop} (kP0 :∀(n8:Int)(far9:Bool)(t14:Int),P0 n8 far9 t14→I37_0 prog d Q s0 base1 most2 t13 n8 far9 t14)(H0:σ 0 = .s s0)(H1:σ 1 = .i .u64 base1)(H2:σ 2 = .i .u64 most2)(H8:σ 8 = .i .u64 n8)(H9:σ 9 = .b far9)(H13:σ 13 = .i .i64 t13)(H14:σ 14 = .i .i64 t14)(h:T37_3 prog K P0 s0 base1 most2 n8 far9 t13 t14):W prog d l37_0 σ st (thenW prog d (.loop l37_0) (blockW 0 (thenW prog d c37_2 Q))):=
 q_ rfl (b_ H14 H13 lss_ (e_ (sq_ (cs_ rfl (fun g'1=>sk_ (sq_ (bk_ (q_ rfl (m_ (m_ (e_ (q_ rfl (m_ (s_slS_hi rfl H1 (h.1 g'1).1 (h.1 g'1).2.1 (m_ (m_ ((h.1 g'1).2.2.2.elim fun c'2 e'3=>s_ixS H0 H14 (h.1 g'1).2.2.1 e'3.1 (e'3.2.elim fun r'4 e'5=>ca_ (sc rfl rfl (sc rfl rfl sn)) e'5.1 (m_ (e_ (sq_ (q_ rfl (s_mvI rfl (b_ rfl rfl lss_ (s_mvB rfl (em_ (g:=25) rfl (fun g'6=>gn_ (b:=true) rfl rfl (gn_ (b:=true) rfl rfl (gn_ (b:=true) rfl rfl (gt_ rfl (gt_ rfl (gt_ rfl (gn_ (b:=true) rfl rfl (pt_ rfl rfl (e_ (ct_ rfl (q_ rfl (m_ (m_ (e_ (rt_ (hQ _ _ _ _ rfl rfl (e'5.2.1 g'6))))))))))))))))) (fun g'6=>gy_ rfl (s_mvI H14 (gy_ rfl (b_ rfl rfl eql_ (gy_ rfl (s_mvB rfl (em_ (g:=28) rfl (fun g'7=>gy_ rfl (s_mvS H0 (gy_ rfl (((e'5.2.2 g'6).1 g'7).elim fun c'8 e'9=>s_ixS rfl rfl (by decide) e'9.1 (gy_ rfl (b_ rfl rfl eql_ (gy_ rfl (pt_ rfl rfl (pf_ rfl rfl (e_ (cs_ rfl (fun g'10=>q_ rfl (m_ (m_ (e_ (rt_ (hQ _ _ _ _ rfl rfl (e'9.2.1 g'10))))))) (fun g'10=>sk_ (q_ rfl (s_mvB H9 (s_mvB rfl (eb_ (g:=35) rfl (fun g'11=>gn_ (b:=true) rfl rfl (gn_ (b:=true) rfl rfl (gn_ (b:=true) rfl rfl (gn_ (b:=true) rfl rfl (gn_ (b:=true) rfl rfl (gn_ (b:=true) rfl rfl (gn_ (b:=true) rfl rfl (gn_ (b:=true) rfl rfl (pt_ rfl rfl (s_mvB rfl (e_ (q_ rfl (m_ (nt_ rfl (e_ (cf_ rfl (sk_ (w37_4 hQ kP0 H0 H1 H2 H8 rfl H13 H14 ((e'9.2.2 g'10).1 g'11))))))))))))))))))) (fun g'11=>gy_ rfl (s_mvI H8 (gy_ rfl (s_mvI H2 (gy_ rfl (s_mvI rfl (gy_ rfl (s_cvi rfl (gy_ rfl (b_ rfl rfl sub_ (gy_ rfl (s_mvI H1 (gy_ rfl (b_ rfl rfl (abin_quo' ((e'9.2.2 g'10).2 g'11).1) (gy_ rfl (b_ rfl rfl gtr_ (pf_ rfl rfl (s_mvB rfl (e_ (q_ rfl (m_ (np_ rfl (e_ (cs_ rfl (fun g'12=>W.reg0 rfl fun _ _=>m_ (m_ (b_ H8 H1 (abin_mul _ _ _) (m_ (s_cvi rfl (b_ rfl rfl add_ (m_ (e_ (w37_4 hQ kP0 H0 H1 H2 rfl rfl H13 H14 (((e'9.2.2 g'10).2 g'11).2.1 g'12)))))))))) (fun g'12=>sk_ (w37_4 hQ kP0 H0 H1 H2 H8 rfl H13 H14 (((e'9.2.2 g'10).2 g'11).2.2 g'12))))))))))))))))))))))))))))))))))))))))))) (fun g'7=>gn_ (b:=false) rfl rfl (gn_ (b:=false) rfl rfl (gn_ (b:=false) rfl rfl (gy_ rfl (pf_ rfl rfl (pf_ rfl rfl (e_ (cf_ rfl (sk_ (q_ rfl (s_mvB H9 (s_mvB rfl (eb_ (g:=35) rfl (fun g'13=>gn_ (b:=true) rfl rfl (gn_ (b:=true) rfl rfl (gn_ (b:=true) rfl rfl (gn_ (b:=true) rfl rfl (gn_ (b:=true) rfl rfl (gn_ (b:=true) rfl rfl (gn_ (b:=true) rfl rfl (gn_ (b:=true) rfl rfl (pt_ rfl rfl (s_mvB rfl (e_ (q_ rfl (m_ (nt_ rfl (e_ (cf_ rfl (sk_ (w37_4 hQ kP0 H0 H1 H2 H8 rfl H13 H14 (((e'5.2.2 g'6).2 g'7).1 g'13))))))))))))))))))) (fun g'13=>gy_ rfl (s_mvI H8 (gy_ rfl (s_mvI H2 (gy_ rfl (s_mvI rfl (gy_ rfl (s_cvi rfl (gy_ rfl (b_ rfl rfl sub_ (gy_ rfl (s_mvI H1 (gy_ rfl (b_ rfl rfl (abin_quo' (((e'5.2.2 g'6).2 g'7).2 g'13).1) (gy_ rfl (b_ rfl rfl gtr_ (pf_ rfl rfl (s_mvB rfl (e_ (q_ rfl (m_ (np_ rfl (e_ (cs_ rfl (fun g'14=>W.reg0 rfl fun _ _=>m_ (m_ (b_ H8 H1 (abin_mul _ _ _) (m_ (s_cvi rfl (b_ rfl rfl add_ (m_ (e_ (w37_4 hQ kP0 H0 H1 H2 rfl rfl H13 H14 ((((e'5.2.2 g'6).2 g'7).2 g'13).2.1 g'14)))))))))) (fun g'14=>sk_ (w37_4 hQ kP0 H0 H1 H2 H8 rfl H13 H14 ((((e'5.2.2 g'6).2 g'7).2 g'13).2.2 g'14))))))))))))))))))))))))))))))))))))))))))))))))))))))))))))))))))))) (fun g'1=>ex_ (w37_5 hQ H0 H8 H9 (h.2 g'1)))))))
theorem w37_2 {s0:List UInt8}{base1 most2 n8:Int}{far9:Bool}(H0:σ 0 = .s s0)(H1:σ 1 = .i .u64 base1)(H2:σ 2 = .i .u64 most2)(H8:σ 8 = .i .u64 n8)(H9:σ 9 = .b far9)(h:T37_2 prog K s0 base1 most2 n8 far9):W prog d c37_3 σ st Q:=
 sq_ (q_ rfl (m_ (ln_ H0 (m_ (e_ (bk_ (h (I37_0 prog d Q s0 base1 most2 (s0.length:Int)) (fun _ _ _ hb _ _ H0 H1 H2 H8 H9 H13 H14=>W.loop (w37_3 hQ (fun _ _ _ x=>x) H0 H1 H2 H8 H9 H13 H14 hb)) _ _ H0 H1 H2 H8 H9 rfl rfl)))))))
theorem w37_1 {s0:List UInt8}{base1 most2:Int}(H0:σ 0 = .s s0)(H1:σ 1 = .i .u64 base1)(H2:σ 2 = .i .u64 most2)(h:T37_1 prog K s0 base1 most2):W prog d c37_4 σ st Q:=
 q_ rfl (m_ (m_ (e_ (w37_2 hQ H0 H1 H2 rfl rfl h))))
theorem w37_0 {s0:List UInt8}{base1 most2:Int}(H0:σ 0 = .s s0)(H1:σ 1 = .i .u64 base1)(H2:σ 2 = .i .u64 most2)(h:T37_0 prog K s0 base1 most2):W prog d (.seq (.reg 0 r37_0) c37_4) σ st Q:=
 q_ rfl (m_ (m_ (e_ (w37_1 hQ H0 H1 H2 h))))
end
theorem p37 {prog:Prog}(hf:prog.fn 37 = some pf37){s0:List UInt8}{base1:Int}{most2:Int}{K:Int→Int→Prop}(h:T37_0 prog K s0 base1 most2) :∃x0:Int,∃x1:Int,K x0 x1∧Pus prog 37 [.s s0,.i .u64 base1,.i .u64 most2] (.tup [.i .u64 x0,.i .i64 x1]):=by
  obtain ⟨v,hv,x0,x1,hk,rfl⟩:=Pus.of (K:=fun v=>∃x0:Int,∃x1:Int,K x0 x1∧v = .tup [.i .u64 x0,.i .i64 x1]) hf rfl (w37_0 (σ:=sl0 [.s s0,.i .u64 base1,.i .u64 most2]) (fun σ st   x0 x1 H6 H7 hk=>⟨.tup [.i .u64 x0,.i .i64 x1],by simp only [pf37,ares,aresL,H6,H7,ares1,Option.map_some],_,rfl,x0,x1,hk,rfl⟩) rfl rfl rfl h)
  exact ⟨x0,x1,hk,hv⟩
def r39_0:List AI:=[oC 2 (.s []),
 oC 3 (.s []),
 oC 4 (.b false)]
def r39_1:List AI:=[oM 11 0,
 oO 12 (.call false 36 [(.t 11),(.c (.s [34]))]),
 oM 10 12,
 oE 13 0 10,
 oE 14 1 10,
 oM 5 13,
 oM 6 14]
def r39_2:List AI:=[oM 15 6,
 oO 16 (.un .not (.t 15))]
def r39_3:List AI:=[oC 2 (.s []),
 oC 3 (.s []),
 oC 4 (.b false)]
def r39_4:List AI:=[oC 7 (.sl .full [])]
def r39_5:List AI:=[oM 17 5,
 oB 18 .neq (.t 17) (.c (.s []))]
def r39_6:List AI:=[oM 19 5,
 oO 20 (.ixS (.t 19) (.c (.i .i64 0))),
 oM 8 20]
def r39_7:List AI:=[oM 21 5,
 oO 22 (.slS (.t 21) (some (.c (.i .i64 1))) none),
 oM 5 22]
def r39_8:List AI:=[oM 24 8,
 oB 25 .eql (.t 24) (.c (.i .u8 34)),
 oM 23 25]
def r39_9:List AI:=[oM 26 7,
 oO 27 (.b2s (.t 26)),
 oM 28 5,
 oM 2 27,
 oM 3 28,
 oC 4 (.b true)]
def r39_10:List AI:=[oM 30 8,
 oB 31 .lss (.t 30) (.c (.i .u8 32)),
 oM 32 31,
 oG 33 (.mv (.t 8)) 32 false,
 oG 34 (.bin .gtr (.t 33) (.c (.i .u8 126))) 32 false,
 oO 35 (.pick (.t 32) (.c (.b true)) (.t 34)),
 oM 29 35]
def r39_11:List AI:=[oC 2 (.s []),
 oC 3 (.s []),
 oC 4 (.b false)]
def r39_12:List AI:=[oM 37 8,
 oB 38 .eql (.t 37) (.c (.i .u8 92)),
 oM 36 38]
def r39_13:List AI:=[oC 9 (.b false)]
def r39_14:List AI:=[oM 40 5,
 oO 41 (.call false 45 [(.t 40)]),
 oM 39 41,
 oE 42 0 39,
 oE 43 1 39,
 oE 44 2 39,
 oM 8 42,
 oM 5 43,
 oM 9 44]
def r39_15:List AI:=[oM 45 9,
 oO 46 (.un .not (.t 45))]
def r39_16:List AI:=[oC 2 (.s []),
 oC 3 (.s []),
 oC 4 (.b false)]
def r39_17:List AI:=[oM 47 7,
 oM 48 8,
 oO 49 (.bslice [.i .u8 0] 1 [(0,(.t 48))]),
 oO 50 (.app 1 1 (.t 47) (.t 49)),
 oM 7 50]
def r39_18:List AI:=[oC 2 (.s []),
 oC 3 (.s []),
 oC 4 (.b false)]
abbrev c39_0:AC:=(.reg 17 r39_17)
abbrev l39_0:AC:=(.seq (.seq (.reg 5 r39_5) (.cond (.t 18) .skip (.exit 0))) (.block 1 (.seq (.reg 6 r39_6) (.seq (.reg 7 r39_7) (.seq (.block 2 (.seq (.reg 8 r39_8) (.cond (.t 23) (.seq (.reg 9 r39_9) .ret) (.seq (.reg 10 r39_10) (.cond (.t 29) (.seq (.reg 11 r39_11) .ret) (.seq (.reg 12 r39_12) (.cond (.t 36) (.seq (.reg 13 r39_13) (.seq (.reg 14 r39_14) (.seq (.reg 15 r39_15) (.cond (.t 46) (.seq (.reg 16 r39_16) .ret) .skip)))) .skip))))))) c39_0)))))
abbrev c39_2:AC:=(.seq (.reg 18 r39_18) .ret)
abbrev c39_3:AC:=(.seq (.reg 1 r39_1) (.seq (.seq (.reg 2 r39_2) (.cond (.t 16) (.seq (.reg 3 r39_3) .ret) .skip)) (.seq (.reg 4 r39_4) (.seq (.block 0 (.loop l39_0)) c39_2))))
abbrev b39:AC:=(.seq (.reg 0 r39_0) c39_3)
def pf39:AF:={ nt:=51,res:=[.tmp 2,.tmp 3,.tmp 4],body:=b39 }
abbrev H39 (Q:AE→Sl→St→Prop)(K:List UInt8→List UInt8→Bool→Prop):Prop:=∀(σ:Sl)(st:St)(x0:List UInt8)(x1:List UInt8)(x2:Bool),σ 2 = .s x0→σ 3 = .s x1→σ 4 = .b x2→K x0 x1 x2→Q .ret σ st
abbrev I39_0 (prog:Prog)(d:Nat)(Q:AE→Sl→St→Prop)(rest5:List UInt8)(b7:List UInt8):Prop:=
  ∀(σ:Sl)(st:St)(o_b7:Own),σ 5 = .s rest5→σ 7 = .sl o_b7 (List.map row8 b7)→ApM d st.ow o_b7 b7.length→W prog d (.loop l39_0) σ st (blockW 0 (thenW prog d c39_2 Q))
def T39_3 (prog:Prog)(K:List UInt8→List UInt8→Bool→Prop)(P0:List UInt8→List UInt8→Prop)(rest5:List UInt8)(b7:List UInt8)(c8:Int):Prop:=
  ∃c'1:UInt8,c8 = (c'1.toNat:Int)∧Fit (b7.length + [c'1].length) 1∧P0 rest5 (b7 ++ [c'1])
def T39_4 (prog:Prog)(K:List UInt8→List UInt8→Bool→Prop) :Prop:=
  K ([]:List UInt8) ([]:List UInt8) false
def T39_2 (prog:Prog)(K:List UInt8→List UInt8→Bool→Prop)(P0:List UInt8→List UInt8→Prop)(rest5:List UInt8)(b7:List UInt8):Prop:=
  (rest5≠([]:List UInt8)→∃c'2:UInt8,rest5[0]? = some c'2∧1≤rest5.length∧((c'2.toNat:Int) = 34→K b7 (rest5.drop 1) true)∧(¬((c'2.toNat:Int) = 34)→((c'2.toNat:Int) < 32→K ([]:List UInt8) ([]:List UInt8) false)∧(¬((c'2.toNat:Int) < 32)→((c'2.toNat:Int) > 126→K ([]:List UInt8) ([]:List UInt8) false)∧(¬((c'2.toNat:Int) > 126)→((c'2.toNat:Int) = 92→∃r'8:Int,∃r'9:List UInt8,∃r'10:Bool,Pus prog 45 [.s (rest5.drop 1)] (.tup [.i .u8 r'8,.s r'9,.b r'10])∧((!r'10) = true→K ([]:List UInt8) ([]:List UInt8) false)∧((!r'10) = false→T39_3 prog K P0 r'9 b7 r'8))∧(¬((c'2.toNat:Int) = 92)→T39_3 prog K P0 (rest5.drop 1) b7 (c'2.toNat:Int))))))∧(¬(rest5≠([]:List UInt8))→T39_4 prog K )
def T39_1 (prog:Prog)(K:List UInt8→List UInt8→Bool→Prop)(s0:List UInt8):Prop:=
  ∃r'1:List UInt8,∃r'2:Bool,Pus prog 36 [.s s0,.s ([34]:List UInt8)] (.tup [.s r'1,.b r'2])∧((!r'2) = true→K ([]:List UInt8) ([]:List UInt8) false)∧((!r'2) = false→∀P0:List UInt8→List UInt8→Prop,(∀(rest5:List UInt8)(b7:List UInt8),T39_2 prog K P0 rest5 b7→P0 rest5 b7)→P0 r'1 ([]:List UInt8))
def T39_0 (prog:Prog)(K:List UInt8→List UInt8→Bool→Prop)(s0:List UInt8):Prop:=
  T39_1 prog K s0
section
variable {prog:Prog}{d:Nat}{Q:AE→Sl→St→Prop}{K:List UInt8→List UInt8→Bool→Prop}(hQ:H39 Q K){σ:Sl}{st:St}
include hQ
theorem w39_3 {rest5 b7:List UInt8}{c8:Int}{P0:List UInt8→List UInt8→Prop} (kP0 :∀(rest5:List UInt8)(b7:List UInt8),P0 rest5 b7→I39_0 prog d Q rest5 b7){o_b7:Own}(H5:σ 5 = .s rest5)(H7:σ 7 = .sl o_b7 (List.map row8 b7))(H8:σ 8 = .i .u8 c8)(A7:ApM d st.ow o_b7 b7.length)(h:T39_3 prog K P0 rest5 b7 c8):W prog d c39_0 σ st (blockW 1 (thenW prog d (.loop l39_0) (blockW 0 (thenW prog d c39_2 Q)))):=
 W.reg0 rfl fun _ _=>s_mvL H7 (m_ (h.elim fun c'1 e'2=>s_bslM (f:=row8) (l:=[c'1]) rfl rfl (g_cons (g_u8 H8 e'2.1) rfl rfl g_nil) rfl (s_app row8_len rfl rfl rfl A7.1 e'2.2.1 rfl (fun o'3 ow'6 a'4 fr'5 on'7=>s_mvL rfl (e_ (kP0 _ _ e'2.2.2 _ _ _ H5 rfl (ApM.mk a'4 (Mine.app A7.2 rfl on'7))))))))
theorem w39_4 (h:T39_4 prog K ):W prog d c39_2 σ st Q:=
 q_ rfl (m_ (m_ (m_ (e_ (rt_ (hQ _ _ _ _ _ rfl rfl rfl h))))))
theorem w39_2 {rest5 b7:List UInt8}{P0:List UInt8→List UInt8→Prop} (kP0 :∀(rest5:List UInt8)(b7:List UInt8),P0 rest5 b7→I39_0 prog d Q rest5 b7){o_b7:Own}(H5:σ 5 = .s rest5)(H7:σ 7 = .sl o_b7 (List.map row8 b7))(A7:ApM d st.ow o_b7 b7.length)(h:T39_2 prog K P0 rest5 b7):W prog d l39_0 σ st (thenW prog d (.loop l39_0) (blockW 0 (thenW prog d c39_2 Q))):=
 sq_ (q_ rfl (m_ (b_ H5 rfl sne_ (e_ (cs_ rfl (fun g'1=>sk_ (bk_ (q_ rfl (m_ ((h.1 g'1).elim fun c'2 e'3=>s_ixS H5 rfl (by decide) e'3.1 (m_ (e_ (q_ rfl (m_ (s_slS_lo H5 rfl (by decide) e'3.2.1 (m_ (e_ (sq_ (bk_ (q_ rfl (m_ (b_ rfl rfl eql_ (m_ (e_ (cs_ rfl (fun g'4=>q_ rfl (s_mvL H7 (s_b2s rfl (m_ (m_ (m_ (m_ (e_ (rt_ (hQ _ _ _ _ _ rfl rfl rfl (e'3.2.2.1 g'4))))))))))) (fun g'4=>q_ rfl (s_mvI rfl (b_ rfl rfl lss_ (s_mvB rfl (em_ (g:=32) rfl (fun g'5=>gn_ (b:=true) rfl rfl (gn_ (b:=true) rfl rfl (pt_ rfl rfl (s_mvB rfl (e_ (ct_ rfl (q_ rfl (m_ (m_ (m_ (e_ (rt_ (hQ _ _ _ _ _ rfl rfl rfl ((e'3.2.2.2 g'4).1 g'5)))))))))))))) (fun g'5=>gy_ rfl (s_mvI rfl (gy_ rfl (b_ rfl rfl gtr_ (pf_ rfl rfl (s_mvB rfl (e_ (cs_ rfl (fun g'6=>q_ rfl (m_ (m_ (m_ (e_ (rt_ (hQ _ _ _ _ _ rfl rfl rfl (((e'3.2.2.2 g'4).2 g'5).1 g'6)))))))) (fun g'6=>q_ rfl (m_ (b_ rfl rfl eql_ (m_ (e_ (cs_ rfl (fun g'7=>q_ rfl (m_ (e_ (q_ rfl (m_ (((((e'3.2.2.2 g'4).2 g'5).2 g'6).1 g'7).elim fun r'8 e'13=>e'13.elim fun r'9 e'14=>e'14.elim fun r'10 e'11=>ca_ (sc rfl rfl sn) e'11.1 (m_ (x_ rfl rfl (x_ rfl rfl (x_ rfl rfl (m_ (m_ (m_ (e_ (q_ rfl (m_ (nt_ rfl (e_ (cb_ rfl (fun g'12=>q_ rfl (m_ (m_ (m_ (e_ (rt_ (hQ _ _ _ _ _ rfl rfl rfl (e'11.2.1 g'12)))))))) (fun g'12=>sk_ (w39_3 hQ kP0 rfl H7 rfl A7 (e'11.2.2 g'12)))))))))))))))))))))) (fun g'7=>sk_ (w39_3 hQ kP0 rfl H7 rfl A7 ((((e'3.2.2.2 g'4).2 g'5).2 g'6).2 g'7)))))))))))))))))))))))))))))))))))))))))) (fun g'1=>ex_ (w39_4 hQ (h.2 g'1))))))))
theorem w39_1 {s0:List UInt8}(H0:σ 0 = .s s0)(h:T39_1 prog K s0):W prog d c39_3 σ st Q:=
 q_ rfl (m_ (h.elim fun r'1 e'5=>e'5.elim fun r'2 e'3=>ca_ (sc H0 rfl (sc rfl rfl sn)) e'3.1 (m_ (x_ rfl rfl (x_ rfl rfl (m_ (m_ (e_ (sq_ (q_ rfl (m_ (nt_ rfl (e_ (cb_ rfl (fun g'4=>q_ rfl (m_ (m_ (m_ (e_ (rt_ (hQ _ _ _ _ _ rfl rfl rfl (e'3.2.1 g'4)))))))) (fun g'4=>sk_ (q_ rfl (s_mvL (f:=row8) (l:=[]) rfl (e_ (sq_ (bk_ ((e'3.2.2 g'4) (I39_0 prog d Q ) (fun _ _ hb _ _ _ H5 H7 A7=>W.loop (w39_2 hQ (fun _ _ x=>x) H5 H7 A7 hb)) _ _ _ rfl rfl ApM.full)))))))))))))))))))))
theorem w39_0 {s0:List UInt8}(H0:σ 0 = .s s0)(h:T39_0 prog K s0):W prog d (.seq (.reg 0 r39_0) c39_3) σ st Q:=
 q_ rfl (m_ (m_ (m_ (e_ (w39_1 hQ H0 h)))))
end
theorem p39 {prog:Prog}(hf:prog.fn 39 = some pf39){s0:List UInt8}{K:List UInt8→List UInt8→Bool→Prop}(h:T39_0 prog K s0) :∃x0:List UInt8,∃x1:List UInt8,∃x2:Bool,K x0 x1 x2∧Pus prog 39 [.s s0] (.tup [.s x0,.s x1,.b x2]):=by
  obtain ⟨v,hv,x0,x1,x2,hk,rfl⟩:=Pus.of (K:=fun v=>∃x0:List UInt8,∃x1:List UInt8,∃x2:Bool,K x0 x1 x2∧v = .tup [.s x0,.s x1,.b x2]) hf rfl (w39_0 (σ:=sl0 [.s s0]) (fun σ st   x0 x1 x2 H2 H3 H4 hk=>⟨.tup [.s x0,.s x1,.b x2],by simp only [pf39,ares,aresL,H2,H3,H4,ares1,Option.map_some],_,rfl,x0,x1,x2,hk,rfl⟩) rfl h)
  exact ⟨x0,x1,x2,hk,hv⟩
def r45_0:List AI:=[oC 2 (.i .u8 0),
 oC 3 (.s []),
 oC 4 (.b false)]
def r45_1:List AI:=[oM 8 0,
 oB 9 .eql (.t 8) (.c (.s []))]
def r45_2:List AI:=[oC 2 (.i .u8 0),
 oC 3 (.s []),
 oC 4 (.b false)]
def r45_3:List AI:=[oM 10 0,
 oO 11 (.ixS (.t 10) (.c (.i .i64 0)))]
def r45_4:List AI:=[oB 13 .eql (.t 11) (.c (.i .u8 34)),
 oM 12 13]
def r45_5:List AI:=[oB 14 .eql (.t 11) (.c (.i .u8 92)),
 oM 12 14]
def r45_6:List AI:=[oM 15 0,
 oO 16 (.ixS (.t 15) (.c (.i .i64 0))),
 oM 17 0,
 oO 18 (.slS (.t 17) (some (.c (.i .i64 1))) none),
 oM 2 16,
 oM 3 18,
 oC 4 (.b true)]
def r45_7:List AI:=[oB 20 .eql (.t 11) (.c (.i .u8 110)),
 oM 19 20]
def r45_8:List AI:=[oM 21 0,
 oO 22 (.slS (.t 21) (some (.c (.i .i64 1))) none),
 oC 2 (.i .u8 10),
 oM 3 22,
 oC 4 (.b true)]
def r45_9:List AI:=[oB 24 .eql (.t 11) (.c (.i .u8 120)),
 oM 23 24]
def r45_10:List AI:=[oM 25 0,
 oO 26 (.len true (.t 25)),
 oB 27 .lss (.t 26) (.c (.i .i64 3))]
def r45_11:List AI:=[oC 2 (.i .u8 0),
 oC 3 (.s []),
 oC 4 (.b false)]
def r45_12:List AI:=[oM 28 0,
 oO 29 (.ixS (.t 28) (.c (.i .i64 1))),
 oO 30 (.call false 43 [(.c (.s [48,49,50,51,52,53,54,55,56,57,97,98,99,100,101,102])),(.t 29)]),
 oM 31 0,
 oO 32 (.ixS (.t 31) (.c (.i .i64 2))),
 oO 33 (.call false 43 [(.c (.s [48,49,50,51,52,53,54,55,56,57,97,98,99,100,101,102])),(.t 32)]),
 oM 5 30,
 oM 6 33]
def r45_13:List AI:=[oM 34 5,
 oB 35 .mul (.c (.i .i64 16)) (.t 34),
 oM 36 6,
 oB 37 .add (.t 35) (.t 36),
 oO 38 (.cvi .u8 (.t 37)),
 oM 7 38]
def r45_14:List AI:=[oM 39 7,
 oM 40 0,
 oO 41 (.slS (.t 40) (some (.c (.i .i64 3))) none),
 oM 42 5,
 oB 43 .geq (.t 42) (.c (.i .i64 0)),
 oM 44 43,
 oG 45 (.mv (.t 6)) 44 true,
 oG 46 (.bin .geq (.t 45) (.c (.i .i64 0))) 44 true,
 oO 47 (.pick (.t 44) (.t 46) (.c (.b false))),
 oM 48 47,
 oG 49 (.mv (.t 7)) 48 true,
 oG 50 (.bin .neq (.t 49) (.c (.i .u8 10))) 48 true,
 oO 51 (.pick (.t 48) (.t 50) (.c (.b false))),
 oM 52 51,
 oG 53 (.mv (.t 7)) 52 true,
 oG 54 (.bin .lss (.t 53) (.c (.i .u8 32))) 52 true,
 oG 55 (.mv (.t 54)) 52 true,
 oG 56 (.mv (.t 7)) 55 false,
 oG 57 (.bin .gtr (.t 56) (.c (.i .u8 126))) 55 false,
 oG 58 (.pick (.t 55) (.c (.b true)) (.t 57)) 52 true,
 oO 59 (.pick (.t 52) (.t 58) (.c (.b false))),
 oM 2 39,
 oM 3 41,
 oM 4 59]
def r45_15:List AI:=[oC 2 (.i .u8 0),
 oC 3 (.s []),
 oC 4 (.b false)]
abbrev c45_0:AC:=(.cond (.t 12) (.seq (.reg 6 r45_6) .ret) (.seq (.reg 7 r45_7) (.cond (.t 19) (.seq (.reg 8 r45_8) .ret) (.seq (.reg 9 r45_9) (.cond (.t 23) (.seq (.seq (.reg 10 r45_10) (.cond (.t 27) (.seq (.reg 11 r45_11) .ret) .skip)) (.seq (.reg 12 r45_12) (.seq (.reg 13 r45_13) (.seq (.reg 14 r45_14) .ret)))) .skip)))))
abbrev c45_1:AC:=(.block 0 (.seq (.seq (.reg 4 r45_4) (.cond (.t 12) .skip (.reg 5 r45_5))) c45_0))
abbrev c45_2:AC:=(.seq (.seq (.reg 3 r45_3) c45_1) (.seq (.reg 15 r45_15) .ret))
abbrev c45_3:AC:=(.seq (.seq (.reg 1 r45_1) (.cond (.t 9) (.seq (.reg 2 r45_2) .ret) .skip)) c45_2)
abbrev b45:AC:=(.seq (.reg 0 r45_0) c45_3)
def pf45:AF:={ nt:=60,res:=[.tmp 2,.tmp 3,.tmp 4],body:=b45 }
abbrev H45 (Q:AE→Sl→St→Prop)(K:Int→List UInt8→Bool→Prop):Prop:=∀(σ:Sl)(st:St)(x0:Int)(x1:List UInt8)(x2:Bool),σ 2 = .i .u8 x0→σ 3 = .s x1→σ 4 = .b x2→K x0 x1 x2→Q .ret σ st
def T45_4 (prog:Prog)(K:Int→List UInt8→Bool→Prop)(s0:List UInt8)(t11:Int)(t12:Bool):Prop:=
  (t12 = true→∃c'2:UInt8,s0[0]? = some c'2∧1≤s0.length∧K (c'2.toNat:Int) (s0.drop 1) true)∧(t12 = false→(t11 = 110→1≤s0.length∧K 10 (s0.drop 1) true)∧(¬(t11 = 110)→(t11 = 120→((s0.length:Int) < 3→K 0 ([]:List UInt8) false)∧(¬((s0.length:Int) < 3)→∃c'7:UInt8,s0[1]? = some c'7∧∃r'9:Int,Pus prog 43 [.s ([48,49,50,51,52,53,54,55,56,57,97,98,99,100,101,102]:List UInt8),.i .u8 (c'7.toNat:Int)] (.i .i64 r'9)∧∃c'11:UInt8,s0[2]? = some c'11∧∃r'13:Int,Pus prog 43 [.s ([48,49,50,51,52,53,54,55,56,57,97,98,99,100,101,102]:List UInt8),.i .u8 (c'11.toNat:Int)] (.i .i64 r'13)∧3≤s0.length∧(r'9 ≥ 0→(r'13 ≥ 0→((IntKind.u8.wrap (IntKind.i64.wrap ((IntKind.i64.wrap (16 * r'9)) + r'13)))≠10→((IntKind.u8.wrap (IntKind.i64.wrap ((IntKind.i64.wrap (16 * r'9)) + r'13))) < 32→K (IntKind.u8.wrap (IntKind.i64.wrap ((IntKind.i64.wrap (16 * r'9)) + r'13))) (s0.drop 3) true)∧(¬((IntKind.u8.wrap (IntKind.i64.wrap ((IntKind.i64.wrap (16 * r'9)) + r'13))) < 32)→K (IntKind.u8.wrap (IntKind.i64.wrap ((IntKind.i64.wrap (16 * r'9)) + r'13))) (s0.drop 3) (decide ((IntKind.u8.wrap (IntKind.i64.wrap ((IntKind.i64.wrap (16 * r'9)) + r'13))) > 126))))∧(¬((IntKind.u8.wrap (IntKind.i64.wrap ((IntKind.i64.wrap (16 * r'9)) + r'13)))≠10)→K (IntKind.u8.wrap (IntKind.i64.wrap ((IntKind.i64.wrap (16 * r'9)) + r'13))) (s0.drop 3) false))∧(¬(r'13 ≥ 0)→K (IntKind.u8.wrap (IntKind.i64.wrap ((IntKind.i64.wrap (16 * r'9)) + r'13))) (s0.drop 3) false))∧(¬(r'9 ≥ 0)→K (IntKind.u8.wrap (IntKind.i64.wrap ((IntKind.i64.wrap (16 * r'9)) + r'13))) (s0.drop 3) false)))∧(¬(t11 = 120)→K 0 ([]:List UInt8) false)))
def T45_3 (prog:Prog)(K:Int→List UInt8→Bool→Prop)(s0:List UInt8)(t11:Int):Prop:=
  (t11 = 34→T45_4 prog K s0 t11 (decide (t11 = 34)))∧(¬(t11 = 34)→T45_4 prog K s0 t11 (decide (t11 = 92)))
def T45_2 (prog:Prog)(K:Int→List UInt8→Bool→Prop)(s0:List UInt8):Prop:=
  ∃c'1:UInt8,s0[0]? = some c'1∧T45_3 prog K s0 (c'1.toNat:Int)
def T45_1 (prog:Prog)(K:Int→List UInt8→Bool→Prop)(s0:List UInt8):Prop:=
  (s0 = ([]:List UInt8)→K 0 ([]:List UInt8) false)∧(¬(s0 = ([]:List UInt8))→T45_2 prog K s0)
def T45_0 (prog:Prog)(K:Int→List UInt8→Bool→Prop)(s0:List UInt8):Prop:=
  T45_1 prog K s0
section
variable {prog:Prog}{d:Nat}{Q:AE→Sl→St→Prop}{K:Int→List UInt8→Bool→Prop}(hQ:H45 Q K){σ:Sl}{st:St}
include hQ
theorem w45_4 {s0:List UInt8}{t11:Int}{t12:Bool}(H0:σ 0 = .s s0)(H11:σ 11 = .i .u8 t11)(H12:σ 12 = .b t12)(h:T45_4 prog K s0 t11 t12):W prog d c45_0 σ st (blockW 0 (thenW prog d (.seq (.reg 15 r45_15) .ret) Q)):=
 cb_ H12 (fun g'1=>q_ rfl (m_ ((h.1 g'1).elim fun c'2 e'3=>s_ixS H0 rfl (by decide) e'3.1 (m_ (s_slS_lo H0 rfl (by decide) e'3.2.1 (m_ (m_ (m_ (e_ (rt_ (hQ _ _ _ _ _ rfl rfl rfl e'3.2.2))))))))))) (fun g'1=>q_ rfl (b_ H11 rfl eql_ (m_ (e_ (cs_ rfl (fun g'4=>q_ rfl (m_ (s_slS_lo H0 rfl (by decide) ((h.2 g'1).1 g'4).1 (m_ (m_ (m_ (e_ (rt_ (hQ _ _ _ _ _ rfl rfl rfl ((h.2 g'1).1 g'4).2))))))))) (fun g'4=>q_ rfl (b_ H11 rfl eql_ (m_ (e_ (cs_ rfl (fun g'5=>sq_ (q_ rfl (m_ (ln_ H0 (b_ rfl rfl lss_ (e_ (cs_ rfl (fun g'6=>q_ rfl (m_ (m_ (m_ (e_ (rt_ (hQ _ _ _ _ _ rfl rfl rfl ((((h.2 g'1).2 g'4).1 g'5).1 g'6)))))))) (fun g'6=>sk_ (q_ rfl (m_ (((((h.2 g'1).2 g'4).1 g'5).2 g'6).elim fun c'7 e'8=>s_ixS H0 rfl (by decide) e'8.1 (e'8.2.elim fun r'9 e'10=>ca_ (sc rfl rfl (sc rfl rfl sn)) e'10.1 (m_ (e'10.2.elim fun c'11 e'12=>s_ixS H0 rfl (by decide) e'12.1 (e'12.2.elim fun r'13 e'14=>ca_ (sc rfl rfl (sc rfl rfl sn)) e'14.1 (m_ (m_ (e_ (q_ rfl (m_ (b_ rfl rfl (abin_mul _ _ _) (m_ (b_ rfl rfl add_ (s_cvi rfl (m_ (e_ (q_ rfl (s_mvI rfl (s_mvS H0 (s_slS_lo rfl rfl (by decide) e'14.2.1 (s_mvI rfl (b_ rfl rfl geq_ (s_mvB rfl (em_ (g:=44) rfl (fun g'15=>gy_ rfl (s_mvI rfl (gy_ rfl (b_ rfl rfl geq_ (pt_ rfl rfl (s_mvB rfl (em_ (g:=48) rfl (fun g'16=>gy_ rfl (s_mvI rfl (gy_ rfl (b_ rfl rfl neq_ (pt_ rfl rfl (s_mvB rfl (em_ (g:=52) rfl (fun g'17=>gy_ rfl (s_mvI rfl (gy_ rfl (b_ rfl rfl lss_ (gy_ rfl (s_mvB rfl (em_ (g:=55) rfl (fun g'18=>gn_ (b:=true) rfl rfl (gn_ (b:=true) rfl rfl (gy_ rfl (pt_ rfl rfl (pt_ rfl rfl (s_mvI rfl (s_mvS rfl (s_mvB rfl (e_ (rt_ (hQ _ _ _ _ _ rfl rfl rfl ((((e'14.2.2.1 g'15).1 g'16).1 g'17).1 g'18)))))))))))) (fun g'18=>gy_ rfl (s_mvI rfl (gy_ rfl (b_ rfl rfl gtr_ (gy_ rfl (pf_ rfl rfl (pt_ rfl rfl (s_mvI rfl (s_mvS rfl (s_mvB rfl (e_ (rt_ (hQ _ _ _ _ _ rfl rfl rfl ((((e'14.2.2.1 g'15).1 g'16).1 g'17).2 g'18))))))))))))))))))))) (fun g'17=>gn_ (b:=false) rfl rfl (gn_ (b:=false) rfl rfl (gn_ (b:=false) rfl rfl (gt_ rfl (gt_ rfl (gn_ (b:=false) rfl rfl (pf_ rfl rfl (s_mvI rfl (s_mvS rfl (s_mvB rfl (e_ (rt_ (hQ _ _ _ _ _ rfl rfl rfl (((e'14.2.2.1 g'15).1 g'16).2 g'17))))))))))))))))))))) (fun g'16=>gn_ (b:=false) rfl rfl (gn_ (b:=false) rfl rfl (pf_ rfl rfl (s_mvB rfl (gn_ (b:=false) rfl rfl (gn_ (b:=false) rfl rfl (gn_ (b:=false) rfl rfl (gt_ rfl (gt_ rfl (gn_ (b:=false) rfl rfl (pf_ rfl rfl (s_mvI rfl (s_mvS rfl (s_mvB rfl (e_ (rt_ (hQ _ _ _ _ _ rfl rfl rfl ((e'14.2.2.1 g'15).2 g'16))))))))))))))))))))))))) (fun g'15=>gn_ (b:=false) rfl rfl (gn_ (b:=false) rfl rfl (pf_ rfl rfl (s_mvB rfl (gn_ (b:=false) rfl rfl (gn_ (b:=false) rfl rfl (pf_ rfl rfl (s_mvB rfl (gn_ (b:=false) rfl rfl (gn_ (b:=false) rfl rfl (gn_ (b:=false) rfl rfl (gt_ rfl (gt_ rfl (gn_ (b:=false) rfl rfl (pf_ rfl rfl (s_mvI rfl (s_mvS rfl (s_mvB rfl (e_ (rt_ (hQ _ _ _ _ _ rfl rfl rfl (e'14.2.2.2 g'15)))))))))))))))))))))))))))))))))))))))))))))))))))))))) (fun g'5=>sk_ (q_ rfl (m_ (m_ (m_ (e_ (rt_ (hQ _ _ _ _ _ rfl rfl rfl (((h.2 g'1).2 g'4).2 g'5)))))))))))))))))))
theorem w45_3 {s0:List UInt8}{t11:Int}(H0:σ 0 = .s s0)(H11:σ 11 = .i .u8 t11)(h:T45_3 prog K s0 t11):W prog d c45_1 σ st (thenW prog d (.seq (.reg 15 r45_15) .ret) Q):=
 bk_ (sq_ (q_ rfl (b_ H11 rfl eql_ (m_ (e_ (cs_ rfl (fun g'1=>sk_ (w45_4 hQ H0 H11 rfl (h.1 g'1))) (fun g'1=>W.reg0 rfl fun _ _=>b_ H11 rfl eql_ (m_ (e_ (w45_4 hQ H0 H11 rfl (h.2 g'1)))))))))))
theorem w45_2 {s0:List UInt8}(H0:σ 0 = .s s0)(h:T45_2 prog K s0):W prog d c45_2 σ st Q:=
 sq_ (q_ rfl (m_ (h.elim fun c'1 e'2=>s_ixS H0 rfl (by decide) e'2.1 (e_ (w45_3 hQ H0 rfl e'2.2)))))
theorem w45_1 {s0:List UInt8}(H0:σ 0 = .s s0)(h:T45_1 prog K s0):W prog d c45_3 σ st Q:=
 sq_ (q_ rfl (m_ (b_ H0 rfl seq_ (e_ (cs_ rfl (fun g'1=>q_ rfl (m_ (m_ (m_ (e_ (rt_ (hQ _ _ _ _ _ rfl rfl rfl (h.1 g'1)))))))) (fun g'1=>sk_ (w45_2 hQ H0 (h.2 g'1))))))))
theorem w45_0 {s0:List UInt8}(H0:σ 0 = .s s0)(h:T45_0 prog K s0):W prog d (.seq (.reg 0 r45_0) c45_3) σ st Q:=
 q_ rfl (m_ (m_ (m_ (e_ (w45_1 hQ H0 h)))))
end
theorem p45 {prog:Prog}(hf:prog.fn 45 = some pf45){s0:List UInt8}{K:Int→List UInt8→Bool→Prop}(h:T45_0 prog K s0) :∃x0:Int,∃x1:List UInt8,∃x2:Bool,K x0 x1 x2∧Pus prog 45 [.s s0] (.tup [.i .u8 x0,.s x1,.b x2]):=by
  obtain ⟨v,hv,x0,x1,x2,hk,rfl⟩:=Pus.of (K:=fun v=>∃x0:Int,∃x1:List UInt8,∃x2:Bool,K x0 x1 x2∧v = .tup [.i .u8 x0,.s x1,.b x2]) hf rfl (w45_0 (σ:=sl0 [.s s0]) (fun σ st   x0 x1 x2 H2 H3 H4 hk=>⟨.tup [.i .u8 x0,.s x1,.b x2],by simp only [pf45,ares,aresL,H2,H3,H4,ares1,Option.map_some],_,rfl,x0,x1,x2,hk,rfl⟩) rfl h)
  exact ⟨x0,x1,x2,hk,hv⟩
end Go.AM

namespace Go.AM
open Go
set_option linter.unusedVariables false
set_option linter.unusedSimpArgs false
set_option maxRecDepth 4000
attribute [local irreducible] WO fillCells fillRows
abbrev H16 (Q:AE→Sl→St→Prop)(K:List UInt8→Prop):Prop:=∀(σ:Sl)(st:St)(x0:List UInt8),σ 2 = .s x0→K x0→Q .ret σ st
section
variable {prog:Prog}{d:Nat}{Q:AE→Sl→St→Prop}{K:List UInt8→Prop}(hQ:H16 Q K){σ:Sl}{st:St}
include hQ
end
abbrev H22 (Q:AE→Sl→St→Prop)(K:Int→Int→Prop):Prop:=∀(σ:Sl)(st:St)(x0:Int)(x1:Int),σ 2 = .i .i64 x0→σ 3 = .i .i64 x1→K x0 x1→Q .ret σ st
section
variable {prog:Prog}{d:Nat}{Q:AE→Sl→St→Prop}{K:Int→Int→Prop}(hQ:H22 Q K){σ:Sl}{st:St}
include hQ
end
abbrev H26 (Q:AE→Sl→St→Prop)(K:List UInt8→Int→Prop):Prop:=∀(σ:Sl)(st:St)(x0:List UInt8)(x1:Int),σ 2 = .s x0→σ 3 = .i .i64 x1→K x0 x1→Q .ret σ st
section
variable {prog:Prog}{d:Nat}{Q:AE→Sl→St→Prop}{K:List UInt8→Int→Prop}(hQ:H26 Q K){σ:Sl}{st:St}
include hQ
end
abbrev H29 (Q:AE→Sl→St→Prop)(K:Bool→Prop):Prop:=∀(σ:Sl)(st:St)(x0:Bool),σ 4 = .b x0→K x0→Q .ret σ st
section
variable {prog:Prog}{d:Nat}{Q:AE→Sl→St→Prop}{K:Bool→Prop}(hQ:H29 Q K){σ:Sl}{st:St}
include hQ
end
abbrev H31 (Q:AE→Sl→St→Prop)(K:List UInt8→Prop):Prop:=∀(σ:Sl)(st:St)(x0:List UInt8),σ 2 = .s x0→K x0→Q .ret σ st
section
variable {prog:Prog}{d:Nat}{Q:AE→Sl→St→Prop}{K:List UInt8→Prop}(hQ:H31 Q K){σ:Sl}{st:St}
include hQ
end
abbrev H35 (Q:AE→Sl→St→Prop)(K:List UInt8→Prop):Prop:=∀(σ:Sl)(st:St)(x0:List UInt8),σ 4 = .s x0→K x0→Q .ret σ st
section
variable {prog:Prog}{d:Nat}{Q:AE→Sl→St→Prop}{K:List UInt8→Prop}(hQ:H35 Q K){σ:Sl}{st:St}
include hQ
end
abbrev H38 (Q:AE→Sl→St→Prop)(K:Int→Int→Prop):Prop:=∀(σ:Sl)(st:St)(x0:Int)(x1:Int),σ 6 = .i .u64 x0→σ 7 = .i .i64 x1→K x0 x1→Q .ret σ st
section
variable {prog:Prog}{d:Nat}{Q:AE→Sl→St→Prop}{K:Int→Int→Prop}(hQ:H38 Q K){σ:Sl}{st:St}
include hQ
end
abbrev H40 (Q:AE→Sl→St→Prop)(K:List UInt8→List UInt8→Bool→Prop):Prop:=∀(σ:Sl)(st:St)(x0:List UInt8)(x1:List UInt8)(x2:Bool),σ 2 = .s x0→σ 3 = .s x1→σ 4 = .b x2→K x0 x1 x2→Q .ret σ st
section
variable {prog:Prog}{d:Nat}{Q:AE→Sl→St→Prop}{K:List UInt8→List UInt8→Bool→Prop}(hQ:H40 Q K){σ:Sl}{st:St}
include hQ
end
abbrev H41 (Q:AE→Sl→St→Prop)(K:List UInt8→Prop):Prop:=∀(σ:Sl)(st:St)(x0:List UInt8),σ 2 = .s x0→K x0→Q .ret σ st
section
variable {prog:Prog}{d:Nat}{Q:AE→Sl→St→Prop}{K:List UInt8→Prop}(hQ:H41 Q K){σ:Sl}{st:St}
include hQ
end
abbrev H44 (Q:AE→Sl→St→Prop)(K:Int→Prop):Prop:=∀(σ:Sl)(st:St)(x0:Int),σ 4 = .i .i64 x0→K x0→Q .ret σ st
section
variable {prog:Prog}{d:Nat}{Q:AE→Sl→St→Prop}{K:Int→Prop}(hQ:H44 Q K){σ:Sl}{st:St}
include hQ
end
end Go.AM

namespace Go.AM
open Go
set_option linter.unusedVariables false
set_option linter.unusedSimpArgs false
set_option maxRecDepth 4000
attribute [local irreducible] WO fillCells fillRows
def r71_0:List AI:=[oO 1 (.box 5 (.t 0)),
 oC 2 (.b false)]
def r71_1:List AI:=[oO 3 (.load 5 true (.t 1)),
 oO 4 (.call false 102 [(.t 3),(.c (.i .i64 14))]),
 oM 5 4,
 oG 6 (.load 5 true (.t 1)) 5 false,
 oG 7 (.call false 103 [(.t 6)]) 5 false,
 oG 8 (.bin .gtr (.t 7) (.c (.i .i64 400))) 5 false,
 oO 9 (.pick (.t 5) (.c (.b true)) (.t 8)),
 oM 2 9]
abbrev b71:AC:=(.seq (.reg 0 r71_0) (.seq (.reg 1 r71_1) .ret))
def pf71:AF:={ nt:=10,res:=[.tmp 2],body:=b71 }
abbrev H71 (Q:AE→Sl→St→Prop)(K:Bool→Prop):Prop:=∀(σ:Sl)(st:St)(res0:Bool),σ 2 = .b res0→K res0→Q .ret σ st
def T71_0 (prog:Prog)(K:Bool→Prop)(v0:Val):Prop:=
  ∃r'1:Bool,Pus prog 102 [v0.av,.i .i64 14] (.b r'1)∧(r'1 = true→K true)∧(r'1 = false→∃r'4:Int,Pus prog 103 [v0.av] (.i .i64 r'4)∧K (decide (r'4 > 400)))
section
variable {prog:Prog}{d:Nat}{Q:AE→Sl→St→Prop}{K:Bool→Prop}(hQ:H71 Q K){σ:Sl}{st:St}
include hQ
theorem w71_0 {v0:Val}(H0:σ 0 = v0.av)(h:T71_0 prog K v0):W prog d (.seq (.reg 0 r71_0) (.seq (.reg 1 r71_1) .ret)) σ st Q:=
 q_ rfl (s_box H0 rfl (m_ (e_ (q_ rfl (l_ rfl lk_here rfl rfl (h.elim fun r'1 e'2=>ca_ (sc rfl rfl (sc rfl rfl sn)) e'2.1 (s_mvB rfl (eb_ (g:=5) rfl (fun g'3=>gn_ (b:=true) rfl rfl (gn_ (b:=true) rfl rfl (gn_ (b:=true) rfl rfl (pt_ rfl rfl (s_mvB rfl (e_ (rt_ (hQ _ _ _ rfl (e'2.2.1 g'3))))))))) (fun g'3=>gy_ rfl (l_ rfl lk_here rfl rfl (gy_ rfl ((e'2.2.2 g'3).elim fun r'4 e'5=>ca_ (sc rfl rfl sn) e'5.1 (gy_ rfl (b_ rfl rfl gtr_ (pf_ rfl rfl (s_mvB rfl (e_ (rt_ (hQ _ _ _ rfl e'5.2)))))))))))))))))))
end
theorem p71 {prog:Prog}(hf:prog.fn 71 = some pf71){v0:Val}{K:Bool→Prop}(h:T71_0 prog K v0) :∃res0:Bool,K res0∧Pus prog 71 [v0.av] (.b res0):=by
  obtain ⟨v,hv,res0,hk,rfl⟩:=Pus.of (K:=fun v=>∃res0:Bool,K res0∧v = .b res0) hf rfl (w71_0 (σ:=sl0 [v0.av]) (fun σ st   res0 H2 hk=>⟨.b res0,by simp only [pf71,ares,aresL,H2,ares1,Option.map_some],_,rfl,res0,hk,rfl⟩) rfl h)
  exact ⟨res0,hk,hv⟩
def r72_0:List AI:=[oO 1 (.box 5 (.t 0)),
 oC 2 (.s []),
 oC 3 (.i .i64 0)]
def r72_1:List AI:=[oO 7 (.load 5 true (.t 1)),
 oO 8 (.call false 76 [(.t 7)]),
 oM 4 8]
def r72_2:List AI:=[oM 9 4,
 oB 10 .neq (.t 9) (.c (.i .i64 0))]
def r72_3:List AI:=[oM 11 4,
 oC 2 (.s []),
 oM 3 11]
def r72_4:List AI:=[oO 5 (.alloc [.np,.sl .full []])]
def r72_5:List AI:=[oO 12 (.load 5 true (.t 1)),
 oO 13 (.call true 104 [(.t 5),(.t 12)]),
 oM 6 13]
def r72_6:List AI:=[oM 14 6,
 oB 15 .neq (.t 14) (.c (.i .i64 0))]
def r72_7:List AI:=[oM 16 6,
 oC 2 (.s []),
 oM 3 16]
def r72_8:List AI:=[oO 17 (.call true 105 [(.t 5)]),
 oM 2 17,
 oC 3 (.i .i64 0)]
abbrev b72:AC:=(.seq (.reg 0 r72_0) (.seq (.seq (.reg 1 r72_1) (.seq (.reg 2 r72_2) (.cond (.t 10) (.seq (.reg 3 r72_3) .ret) .skip))) (.seq (.reg 1000004 r72_4) (.seq (.seq (.reg 5 r72_5) (.seq (.reg 6 r72_6) (.cond (.t 15) (.seq (.reg 7 r72_7) .ret) .skip))) (.seq (.reg 8 r72_8) .ret)))))
def pf72:AF:={ nt:=18,res:=[.tmp 2,.tmp 3],body:=b72 }
abbrev H72 (Q:AE→Sl→St→Prop)(K:List UInt8→Int→Prop):Prop:=∀(σ:Sl)(st:St)(res0:List UInt8)(res1:Int),σ 2 = .s res0→σ 3 = .i .i64 res1→K res0 res1→Q .ret σ st
def T72_0 (prog:Prog)(K:List UInt8→Int→Prop)(v0:Val):Prop:=
  ∃r'1:Int,Pus prog 76 [v0.av] (.i .i64 r'1)∧(r'1≠0→K ([]:List UInt8) r'1)∧(¬(r'1≠0)→∃r'9:Int,∃b'15:List UInt8,PuX prog 104 (Bl ([]:List UInt8)) [v0.av] (fun r=>r = .i .i64 r'9) ((Bl b'15))∧(r'9≠0→K ([]:List UInt8) r'9)∧(¬(r'9≠0)→∃r'17:List UInt8,PuX prog 105 (Bl b'15) [] (fun r=>r = .s r'17) (fun _ _ _ _=>True)∧K r'17 0))
section
variable {prog:Prog}{d:Nat}{Q:AE→Sl→St→Prop}{K:List UInt8→Int→Prop}(hQ:H72 Q K){σ:Sl}{st:St}
include hQ
theorem w72_0 {v0:Val}(H0:σ 0 = v0.av)(h:T72_0 prog K v0):W prog d (.seq (.reg 0 r72_0) (.seq (.seq (.reg 1 r72_1) (.seq (.reg 2 r72_2) (.cond (.t 10) (.seq (.reg 3 r72_3) .ret) .skip))) (.seq (.reg 1000004 r72_4) (.seq (.seq (.reg 5 r72_5) (.seq (.reg 6 r72_6) (.cond (.t 15) (.seq (.reg 7 r72_7) .ret) .skip))) (.seq (.reg 8 r72_8) .ret))))) σ st Q:=
 q_ rfl (s_box H0 rfl (m_ (m_ (e_ (sq_ (q_ rfl (l_ rfl lk_here rfl rfl (h.elim fun r'1 e'2=>ca_ (sc rfl rfl sn) e'2.1 (m_ (e_ (q_ rfl (m_ (b_ rfl rfl neq_ (e_ (cs_ rfl (fun g'3=>q_ rfl (m_ (m_ (m_ (e_ (rt_ (hQ _ _ _ _ rfl rfl (e'2.2.1 g'3)))))))) (fun g'3=>sk_ (sq_ (W.regB rfl (fun nx'6 v'7 bx'8 hb'4 hx'5=>sq_ (q_ rfl (l_ rfl ((hx'5 (d,0) (key_LL rfl)).trans lk_here) rfl rfl ((e'2.2.2 g'3).elim fun r'9 e'23=>e'23.elim fun b'15 e'11=>cX_ (sec rfl (sec rfl sen)) e'11.1 (Nat.lt_succ_self d) hb'4 (fun st'12 hb'13 hf'14=>m_ (e_ (q_ rfl (m_ (b_ rfl rfl neq_ (e_ (cs_ rfl (fun g'16=>q_ rfl (m_ (m_ (m_ (e_ (rt_ (hQ _ _ _ _ rfl rfl (e'11.2.1 g'16)))))))) (fun g'16=>sk_ (q_ rfl ((e'11.2.2 g'16).elim fun r'17 e'19=>cX_ (sec rfl sen) e'19.1 (Nat.lt_succ_self d) hb'13 (fun st'20 hb'21 hf'22=>m_ (m_ (e_ (rt_ (hQ _ _ _ _ rfl rfl e'19.2)))))))))))))))))))))))))))))))))))))
end
theorem p72 {prog:Prog}(hf:prog.fn 72 = some pf72){v0:Val}{K:List UInt8→Int→Prop}(h:T72_0 prog K v0) :∃res0:List UInt8,∃res1:Int,K res0 res1∧Pus prog 72 [v0.av] (.tup [.s res0,.i .i64 res1]):=by
  obtain ⟨v,hv,res0,res1,hk,rfl⟩:=Pus.of (K:=fun v=>∃res0:List UInt8,∃res1:Int,K res0 res1∧v = .tup [.s res0,.i .i64 res1]) hf rfl (w72_0 (σ:=sl0 [v0.av]) (fun σ st   res0 res1 H2 H3 hk=>⟨.tup [.s res0,.i .i64 res1],by simp only [pf72,ares,aresL,H2,H3,ares1,Option.map_some],_,rfl,res0,res1,hk,rfl⟩) rfl h)
  exact ⟨res0,res1,hk,hv⟩
abbrev H73 (Q:AE→Sl→St→Prop)(K:List UInt8→Int→Prop):Prop:=∀(σ:Sl)(st:St)(res0:List UInt8)(res1:Int),σ 2 = .s res0→σ 3 = .i .i64 res1→K res0 res1→Q .ret σ st
section
variable {prog:Prog}{d:Nat}{Q:AE→Sl→St→Prop}{K:List UInt8→Int→Prop}(hQ:H73 Q K){σ:Sl}{st:St}
include hQ
end
def r76_0:List AI:=[oO 1 (.box 5 (.t 0)),
 oC 2 (.i .i64 0)]
def r76_1:List AI:=[oO 6 (.load 5 true (.t 1)),
 oO 7 (.call false 109 [(.t 6),(.c (.i .i64 130))]),
 oM 5 7,
 oE 8 0 5,
 oE 9 1 5,
 oM 3 8,
 oM 4 9]
def r76_2:List AI:=[oM 10 4,
 oO 11 (.un .not (.t 10))]
def r76_3:List AI:=[oC 2 (.i .i64 8)]
def r76_4:List AI:=[oC 2 (.i .i64 0)]
abbrev b76:AC:=(.seq (.reg 0 r76_0) (.seq (.seq (.reg 1 r76_1) (.seq (.reg 2 r76_2) (.cond (.t 11) (.seq (.reg 3 r76_3) .ret) .skip))) (.seq (.reg 4 r76_4) .ret)))
def pf76:AF:={ nt:=12,res:=[.tmp 2],body:=b76 }
abbrev H76 (Q:AE→Sl→St→Prop)(K:Int→Prop):Prop:=∀(σ:Sl)(st:St)(res0:Int),σ 2 = .i .i64 res0→K res0→Q .ret σ st
def T76_0 (prog:Prog)(K:Int→Prop)(v0:Val):Prop:=
  ∃r'1:Int,∃r'2:Bool,Pus prog 109 [v0.av,.i .i64 130] (.tup [.i .i64 r'1,.b r'2])∧((!r'2) = true→K 8)∧((!r'2) = false→K 0)
section
variable {prog:Prog}{d:Nat}{Q:AE→Sl→St→Prop}{K:Int→Prop}(hQ:H76 Q K){σ:Sl}{st:St}
include hQ
theorem w76_0 {v0:Val}(H0:σ 0 = v0.av)(h:T76_0 prog K v0):W prog d (.seq (.reg 0 r76_0) (.seq (.seq (.reg 1 r76_1) (.seq (.reg 2 r76_2) (.cond (.t 11) (.seq (.reg 3 r76_3) .ret) .skip))) (.seq (.reg 4 r76_4) .ret))) σ st Q:=
 q_ rfl (s_box H0 rfl (m_ (e_ (sq_ (q_ rfl (l_ rfl lk_here rfl rfl (h.elim fun r'1 e'5=>e'5.elim fun r'2 e'3=>ca_ (sc rfl rfl (sc rfl rfl sn)) e'3.1 (m_ (x_ rfl rfl (x_ rfl rfl (m_ (m_ (e_ (q_ rfl (m_ (nt_ rfl (e_ (cb_ rfl (fun g'4=>q_ rfl (m_ (e_ (rt_ (hQ _ _ _ rfl (e'3.2.1 g'4)))))) (fun g'4=>sk_ (q_ rfl (m_ (e_ (rt_ (hQ _ _ _ rfl (e'3.2.2 g'4)))))))))))))))))))))))))
end
theorem p76 {prog:Prog}(hf:prog.fn 76 = some pf76){v0:Val}{K:Int→Prop}(h:T76_0 prog K v0) :∃res0:Int,K res0∧Pus prog 76 [v0.av] (.i .i64 res0):=by
  obtain ⟨v,hv,res0,hk,rfl⟩:=Pus.of (K:=fun v=>∃res0:Int,K res0∧v = .i .i64 res0) hf rfl (w76_0 (σ:=sl0 [v0.av]) (fun σ st   res0 H2 hk=>⟨.i .i64 res0,by simp only [pf76,ares,aresL,H2,ares1,Option.map_some],_,rfl,res0,hk,rfl⟩) rfl h)
  exact ⟨res0,hk,hv⟩
def r77_0:List AI:=[oO 1 (.box 5 (.t 0)),
 oC 2 (.i .i64 0)]
def r77_1:List AI:=[oO 3 (.load 5 true (.t 1)),
 oO 4 (.call false 110 [(.t 3),(.c (.i .i64 130))]),
 oO 5 (.un .not (.t 4)),
 oM 6 5,
 oG 7 (.load 5 true (.t 1)) 6 false,
 oG 8 (.call false 103 [(.t 7)]) 6 false,
 oG 9 (.bin .gtr (.t 8) (.c (.i .i64 5000))) 6 false,
 oO 10 (.pick (.t 6) (.c (.b true)) (.t 9))]
def r77_2:List AI:=[oC 2 (.i .i64 8)]
def r77_3:List AI:=[oC 2 (.i .i64 0)]
abbrev b77:AC:=(.seq (.reg 0 r77_0) (.seq (.seq (.reg 1 r77_1) (.cond (.t 10) (.seq (.reg 2 r77_2) .ret) .skip)) (.seq (.reg 3 r77_3) .ret)))
def pf77:AF:={ nt:=11,res:=[.tmp 2],body:=b77 }
abbrev H77 (Q:AE→Sl→St→Prop)(K:Int→Prop):Prop:=∀(σ:Sl)(st:St)(res0:Int),σ 2 = .i .i64 res0→K res0→Q .ret σ st
def T77_0 (prog:Prog)(K:Int→Prop)(v0:Val):Prop:=
  ∃r'1:Bool,Pus prog 110 [v0.av,.i .i64 130] (.b r'1)∧((!r'1) = true→K 8)∧((!r'1) = false→∃r'4:Int,Pus prog 103 [v0.av] (.i .i64 r'4)∧(r'4 > 5000→K 8)∧(¬(r'4 > 5000)→K 0))
section
variable {prog:Prog}{d:Nat}{Q:AE→Sl→St→Prop}{K:Int→Prop}(hQ:H77 Q K){σ:Sl}{st:St}
include hQ
theorem w77_0 {v0:Val}(H0:σ 0 = v0.av)(h:T77_0 prog K v0):W prog d (.seq (.reg 0 r77_0) (.seq (.seq (.reg 1 r77_1) (.cond (.t 10) (.seq (.reg 2 r77_2) .ret) .skip)) (.seq (.reg 3 r77_3) .ret))) σ st Q:=
 q_ rfl (s_box H0 rfl (m_ (e_ (sq_ (q_ rfl (l_ rfl lk_here rfl rfl (h.elim fun r'1 e'2=>ca_ (sc rfl rfl (sc rfl rfl sn)) e'2.1 (nt_ rfl (s_mvB rfl (eb_ (g:=6) rfl (fun g'3=>gn_ (b:=true) rfl rfl (gn_ (b:=true) rfl rfl (gn_ (b:=true) rfl rfl (pt_ rfl rfl (e_ (ct_ rfl (q_ rfl (m_ (e_ (rt_ (hQ _ _ _ rfl (e'2.2.1 g'3)))))))))))) (fun g'3=>gy_ rfl (l_ rfl lk_here rfl rfl (gy_ rfl ((e'2.2.2 g'3).elim fun r'4 e'5=>ca_ (sc rfl rfl sn) e'5.1 (gy_ rfl (b_ rfl rfl gtr_ (pf_ rfl rfl (e_ (cs_ rfl (fun g'6=>q_ rfl (m_ (e_ (rt_ (hQ _ _ _ rfl (e'5.2.1 g'6)))))) (fun g'6=>sk_ (q_ rfl (m_ (e_ (rt_ (hQ _ _ _ rfl (e'5.2.2 g'6))))))))))))))))))))))))))
end
theorem p77 {prog:Prog}(hf:prog.fn 77 = some pf77){v0:Val}{K:Int→Prop}(h:T77_0 prog K v0) :∃res0:Int,K res0∧Pus prog 77 [v0.av] (.i .i64 res0):=by
  obtain ⟨v,hv,res0,hk,rfl⟩:=Pus.of (K:=fun v=>∃res0:Int,K res0∧v = .i .i64 res0) hf rfl (w77_0 (σ:=sl0 [v0.av]) (fun σ st   res0 H2 hk=>⟨.i .i64 res0,by simp only [pf77,ares,aresL,H2,ares1,Option.map_some],_,rfl,res0,hk,rfl⟩) rfl h)
  exact ⟨res0,hk,hv⟩
def r102_0:List AI:=[oO 2 (.box 5 (.t 0)),
 oC 4 (.b false)]
def r102_1:List AI:=[oM 6 1,
 oB 7 .eql (.t 6) (.c (.i .i64 0)),
 oM 8 7,
 oG 9 (.fad 2 (.t 2)) 8 false,
 oG 10 (.load 1 false (.t 9)) 8 false,
 oG 11 (.len true (.t 10)) 8 false,
 oG 12 (.bin .gtr (.t 11) (.c (.i .i64 100))) 8 false,
 oO 13 (.pick (.t 8) (.c (.b true)) (.t 12)),
 oM 14 13,
 oG 15 (.fad 3 (.t 2)) 14 false,
 oG 16 (.load 1 false (.t 15)) 14 false,
 oG 17 (.len false (.t 16)) 14 false,
 oG 18 (.bin .gtr (.t 17) (.c (.i .i64 400))) 14 false,
 oO 19 (.pick (.t 14) (.c (.b true)) (.t 18))]
def r102_2:List AI:=[oC 4 (.b true)]
def r102_3:List AI:=[oC 5 (.i .i64 0)]
def r102_4:List AI:=[oM 20 5,
 oF 21 3 2,
 oL 22 21,
 oO 23 (.len false (.t 22)),
 oB 24 .lss (.t 20) (.t 23)]
def r102_5:List AI:=[oF 27 3 2,
 oL 28 27,
 oM 29 5,
 oO 30 (.iaL 5 (.t 28) (.t 29)),
 oO 31 (.load 5 true (.t 30)),
 oM 32 1,
 oB 33 .sub (.t 32) (.c (.i .i64 1)),
 oO 34 (.call false 102 [(.t 31),(.t 33)])]
def r102_6:List AI:=[oC 4 (.b true)]
def r102_7:List AI:=[oM 25 5,
 oB 26 .add (.t 25) (.c (.i .i64 1)),
 oM 5 26]
def r102_8:List AI:=[oC 4 (.b false)]
abbrev l102_0:AC:=(.seq (.seq (.reg 4 r102_4) (.cond (.t 24) .skip (.exit 0))) (.seq (.block 1 (.seq (.reg 6 r102_5) (.cond (.t 34) (.seq (.reg 7 r102_6) .ret) .skip))) (.reg 5 r102_7)))
abbrev c102_1:AC:=(.seq (.reg 8 r102_8) .ret)
abbrev b102:AC:=(.seq (.reg 0 r102_0) (.seq (.seq (.reg 1 r102_1) (.cond (.t 19) (.seq (.reg 2 r102_2) .ret) .skip)) (.seq (.seq (.reg 3 r102_3) (.block 0 (.loop l102_0))) c102_1)))
def pf102:AF:={ nt:=35,res:=[.tmp 4],body:=b102 }
abbrev H102 (Q:AE→Sl→St→Prop)(K:Bool→Prop):Prop:=∀(σ:Sl)(st:St)(res0:Bool),σ 4 = .b res0→K res0→Q .ret σ st
abbrev I102_0 (prog:Prog)(d:Nat)(Q:AE→Sl→St→Prop)(most1:Int)(i5:Int)(m0:Val):Prop:=
  ∀(σ:Sl)(st:St)(v0:Nat),σ 1 = .i .i64 most1→σ 2 = .p (d,0) v0 0→σ 5 = .i .i64 i5→lk st.bx (d,0) = some (v0,[.i .u8 m0.kind,.i .i64 m0.int,.s m0.text,.sl .ext (List.map Val.row m0.list),.b m0.cut])→W prog d (.loop l102_0) σ st (blockW 0 (thenW prog d c102_1 Q))
def T102_2 (prog:Prog)(K:Bool→Prop) :Prop:=
  K false
def T102_1 (prog:Prog)(K:Bool→Prop)(P0:Int→Val→Prop)(most1:Int)(i5:Int)(m0:Val):Prop:=
  (i5 < (m0.list.length:Int)→0≤i5∧∃c'2:Val,m0.list[(i5).toNat]? = some c'2∧∃r'4:Bool,Pus prog 102 [c'2.av,.i .i64 (IntKind.i64.wrap (most1 - 1))] (.b r'4)∧(r'4 = true→K true)∧(r'4 = false→P0 (IntKind.i64.wrap (i5 + 1)) m0))∧(¬(i5 < (m0.list.length:Int))→T102_2 prog K )
def T102_0 (prog:Prog)(K:Bool→Prop)(v0:Val)(most1:Int):Prop:=
  (most1 = 0→K true)∧(¬(most1 = 0)→((v0.text.length:Int) > 100→K true)∧(¬((v0.text.length:Int) > 100)→((v0.list.length:Int) > 400→K true)∧(¬((v0.list.length:Int) > 400)→∀P0:Int→Val→Prop,(∀(i5:Int)(m0:Val),T102_1 prog K P0 most1 i5 m0→P0 i5 m0)→P0 0 v0)))
section
variable {prog:Prog}{d:Nat}{Q:AE→Sl→St→Prop}{K:Bool→Prop}(hQ:H102 Q K){σ:Sl}{st:St}
include hQ
theorem w102_2 (h:T102_2 prog K ):W prog d c102_1 σ st Q:=
 q_ rfl (m_ (e_ (rt_ (hQ _ _ _ rfl h))))
theorem w102_1 {most1 i5:Int}{m0:Val}{P0:Int→Val→Prop} (kP0 :∀(i5:Int)(m0:Val),P0 i5 m0→I102_0 prog d Q most1 i5 m0){v0:Nat}(H1:σ 1 = .i .i64 most1)(H2:σ 2 = .p (d,0) v0 0)(H5:σ 5 = .i .i64 i5)(B0:lk st.bx (d,0) = some (v0,[.i .u8 m0.kind,.i .i64 m0.int,.s m0.text,.sl .ext (List.map Val.row m0.list),.b m0.cut]))(h:T102_1 prog K P0 most1 i5 m0):W prog d l102_0 σ st (thenW prog d (.loop l102_0) (blockW 0 (thenW prog d c102_1 Q))):=
 sq_ (q_ rfl (m_ (f_ H2 (l_ rfl B0 rfl rfl (ll_ rfl (b_ H5 rfl lss_ (e_ (cs_ rfl (fun g'1=>sk_ (sq_ (bk_ (q_ rfl (f_ H2 (l_ rfl B0 rfl rfl (m_ ((h.1 g'1).2.elim fun c'2 e'3=>ia_ rfl H5 (h.1 g'1).1 e'3.1 (Val.row_eq c'2) rfl (lf_ rfl rfl rfl (m_ (b_ H1 rfl sub_ (e'3.2.elim fun r'4 e'5=>ca_ (sc rfl rfl (sc rfl rfl sn)) e'5.1 (e_ (cb_ rfl (fun g'6=>q_ rfl (m_ (e_ (rt_ (hQ _ _ _ rfl (e'5.2.1 g'6)))))) (fun g'6=>sk_ (W.reg0 rfl fun _ _=>m_ (b_ H5 rfl add_ (m_ (e_ (kP0 _ _ (e'5.2.2 g'6) _ _ _ H1 H2 rfl B0)))))))))))))))))))) (fun g'1=>ex_ (w102_2 hQ (h.2 g'1)))))))))))
theorem w102_0 {v0:Val}{most1:Int}(H0:σ 0 = v0.av)(H1:σ 1 = .i .i64 most1)(h:T102_0 prog K v0 most1):W prog d (.seq (.reg 0 r102_0) (.seq (.seq (.reg 1 r102_1) (.cond (.t 19) (.seq (.reg 2 r102_2) .ret) .skip)) (.seq (.seq (.reg 3 r102_3) (.block 0 (.loop l102_0))) c102_1))) σ st Q:=
 q_ rfl (s_box H0 rfl (m_ (e_ (sq_ (q_ rfl (s_mvI H1 (b_ rfl rfl eql_ (s_mvB rfl (em_ (g:=8) rfl (fun g'1=>gn_ (b:=true) rfl rfl (gn_ (b:=true) rfl rfl (gn_ (b:=true) rfl rfl (gn_ (b:=true) rfl rfl (pt_ rfl rfl (s_mvB rfl (gn_ (b:=true) rfl rfl (gn_ (b:=true) rfl rfl (gn_ (b:=true) rfl rfl (gn_ (b:=true) rfl rfl (pt_ rfl rfl (e_ (ct_ rfl (q_ rfl (m_ (e_ (rt_ (hQ _ _ _ rfl (h.1 g'1))))))))))))))))))) (fun g'1=>gy_ rfl (f_ rfl (gy_ rfl (l_ rfl lk_here rfl rfl (gy_ rfl (ln_ rfl (gy_ rfl (b_ rfl rfl gtr_ (pf_ rfl rfl (s_mvB rfl (em_ (g:=14) rfl (fun g'2=>gn_ (b:=true) rfl rfl (gn_ (b:=true) rfl rfl (gn_ (b:=true) rfl rfl (gn_ (b:=true) rfl rfl (pt_ rfl rfl (e_ (ct_ rfl (q_ rfl (m_ (e_ (rt_ (hQ _ _ _ rfl ((h.2 g'1).1 g'2))))))))))))) (fun g'2=>gy_ rfl (f_ rfl (gy_ rfl (l_ rfl lk_here rfl rfl (gy_ rfl (ll_ rfl (gy_ rfl (b_ rfl rfl gtr_ (pf_ rfl rfl (e_ (cs_ rfl (fun g'3=>q_ rfl (m_ (e_ (rt_ (hQ _ _ _ rfl (((h.2 g'1).2 g'2).1 g'3)))))) (fun g'3=>sk_ (sq_ (q_ rfl (m_ (e_ (bk_ ((((h.2 g'1).2 g'2).2 g'3) (I102_0 prog d Q most1) (fun _ _ hb _ _ _ H1 H2 H5 B0=>W.loop (w102_1 hQ (fun _ _ x=>x) H1 H2 H5 B0 hb)) _ _ _ H1 rfl rfl lk_here))))))))))))))))))))))))))))))))))))))
end
theorem p102 {prog:Prog}(hf:prog.fn 102 = some pf102){v0:Val}{most1:Int}{K:Bool→Prop}(h:T102_0 prog K v0 most1) :∃res0:Bool,K res0∧Pus prog 102 [v0.av,.i .i64 most1] (.b res0):=by
  obtain ⟨v,hv,res0,hk,rfl⟩:=Pus.of (K:=fun v=>∃res0:Bool,K res0∧v = .b res0) hf rfl (w102_0 (σ:=sl0 [v0.av,.i .i64 most1]) (fun σ st   res0 H4 hk=>⟨.b res0,by simp only [pf102,ares,aresL,H4,ares1,Option.map_some],_,rfl,res0,hk,rfl⟩) rfl rfl h)
  exact ⟨res0,hk,hv⟩
def r103_0:List AI:=[oO 1 (.box 5 (.t 0)),
 oC 2 (.i .i64 0)]
def r103_1:List AI:=[oC 3 (.i .i64 1)]
def r103_2:List AI:=[oC 4 (.i .i64 0)]
def r103_3:List AI:=[oM 5 4,
 oF 6 3 1,
 oL 7 6,
 oO 8 (.len false (.t 7)),
 oB 9 .lss (.t 5) (.t 8),
 oM 10 9,
 oG 11 (.mv (.t 3)) 10 true,
 oG 12 (.bin .leq (.t 11) (.c (.i .i64 5000))) 10 true,
 oO 13 (.pick (.t 10) (.t 12) (.c (.b false)))]
def r103_4:List AI:=[oM 16 3,
 oF 17 3 1,
 oL 18 17,
 oM 19 4,
 oO 20 (.iaL 5 (.t 18) (.t 19)),
 oO 21 (.load 5 true (.t 20)),
 oO 22 (.call false 103 [(.t 21)]),
 oB 23 .add (.t 16) (.t 22),
 oM 3 23]
def r103_5:List AI:=[oM 14 4,
 oB 15 .add (.t 14) (.c (.i .i64 1)),
 oM 4 15]
def r103_6:List AI:=[oM 24 3,
 oM 2 24]
abbrev l103_0:AC:=(.seq (.seq (.reg 3 r103_3) (.cond (.t 13) .skip (.exit 0))) (.seq (.block 1 (.reg 5 r103_4)) (.reg 4 r103_5)))
abbrev c103_1:AC:=(.seq (.reg 6 r103_6) .ret)
abbrev b103:AC:=(.seq (.reg 0 r103_0) (.seq (.reg 1 r103_1) (.seq (.seq (.reg 2 r103_2) (.block 0 (.loop l103_0))) c103_1)))
def pf103:AF:={ nt:=25,res:=[.tmp 2],body:=b103 }
abbrev H103 (Q:AE→Sl→St→Prop)(K:Int→Prop):Prop:=∀(σ:Sl)(st:St)(res0:Int),σ 2 = .i .i64 res0→K res0→Q .ret σ st
abbrev I103_0 (prog:Prog)(d:Nat)(Q:AE→Sl→St→Prop)(n3:Int)(i4:Int)(m0:Val):Prop:=
  ∀(σ:Sl)(st:St)(v0:Nat),σ 1 = .p (d,0) v0 0→σ 3 = .i .i64 n3→σ 4 = .i .i64 i4→lk st.bx (d,0) = some (v0,[.i .u8 m0.kind,.i .i64 m0.int,.s m0.text,.sl .ext (List.map Val.row m0.list),.b m0.cut])→W prog d (.loop l103_0) σ st (blockW 0 (thenW prog d c103_1 Q))
def T103_2 (prog:Prog)(K:Int→Prop)(n3:Int):Prop:=
  K n3
def T103_1 (prog:Prog)(K:Int→Prop)(P0:Int→Int→Val→Prop)(n3:Int)(i4:Int)(m0:Val):Prop:=
  (i4 < (m0.list.length:Int)→(n3≤5000→0≤i4∧∃c'3:Val,m0.list[(i4).toNat]? = some c'3∧∃r'5:Int,Pus prog 103 [c'3.av] (.i .i64 r'5)∧P0 (IntKind.i64.wrap (n3 + r'5)) (IntKind.i64.wrap (i4 + 1)) m0)∧(¬(n3≤5000)→T103_2 prog K n3))∧(¬(i4 < (m0.list.length:Int))→T103_2 prog K n3)
def T103_0 (prog:Prog)(K:Int→Prop)(v0:Val):Prop:=
  ∀P0:Int→Int→Val→Prop,(∀(n3:Int)(i4:Int)(m0:Val),T103_1 prog K P0 n3 i4 m0→P0 n3 i4 m0)→P0 1 0 v0
section
variable {prog:Prog}{d:Nat}{Q:AE→Sl→St→Prop}{K:Int→Prop}(hQ:H103 Q K){σ:Sl}{st:St}
include hQ
theorem w103_2 {n3:Int}(H3:σ 3 = .i .i64 n3)(h:T103_2 prog K n3):W prog d c103_1 σ st Q:=
 q_ rfl (m_ (m_ (e_ (rt_ (hQ _ _ _ H3 h)))))
theorem w103_1 {n3 i4:Int}{m0:Val}{P0:Int→Int→Val→Prop} (kP0 :∀(n3:Int)(i4:Int)(m0:Val),P0 n3 i4 m0→I103_0 prog d Q n3 i4 m0){v0:Nat}(H1:σ 1 = .p (d,0) v0 0)(H3:σ 3 = .i .i64 n3)(H4:σ 4 = .i .i64 i4)(B0:lk st.bx (d,0) = some (v0,[.i .u8 m0.kind,.i .i64 m0.int,.s m0.text,.sl .ext (List.map Val.row m0.list),.b m0.cut]))(h:T103_1 prog K P0 n3 i4 m0):W prog d l103_0 σ st (thenW prog d (.loop l103_0) (blockW 0 (thenW prog d c103_1 Q))):=
 sq_ (q_ rfl (s_mvI H4 (f_ H1 (l_ rfl B0 rfl rfl (ll_ rfl (b_ rfl rfl lss_ (s_mvB rfl (em_ (g:=10) rfl (fun g'1=>gy_ rfl (s_mvI H3 (gy_ rfl (b_ rfl rfl leq_ (pt_ rfl rfl (e_ (cs_ rfl (fun g'2=>sk_ (sq_ (bk_ (W.reg0 rfl fun _ _=>m_ (f_ H1 (l_ rfl B0 rfl rfl (m_ (((h.1 g'1).1 g'2).2.elim fun c'3 e'4=>ia_ rfl H4 ((h.1 g'1).1 g'2).1 e'4.1 (Val.row_eq c'3) rfl (lf_ rfl rfl rfl (e'4.2.elim fun r'5 e'6=>ca_ (sc rfl rfl sn) e'6.1 (b_ H3 rfl add_ (m_ (e_ (W.reg0 rfl fun _ _=>m_ (b_ H4 rfl add_ (m_ (e_ (kP0 _ _ _ e'6.2 _ _ _ H1 rfl rfl B0)))))))))))))))))) (fun g'2=>ex_ (w103_2 hQ H3 ((h.1 g'1).2 g'2)))))))))) (fun g'1=>gn_ (b:=false) rfl rfl (gn_ (b:=false) rfl rfl (pf_ rfl rfl (e_ (cf_ rfl (ex_ (w103_2 hQ H3 (h.2 g'1))))))))))))))))
theorem w103_0 {v0:Val}(H0:σ 0 = v0.av)(h:T103_0 prog K v0):W prog d (.seq (.reg 0 r103_0) (.seq (.reg 1 r103_1) (.seq (.seq (.reg 2 r103_2) (.block 0 (.loop l103_0))) c103_1))) σ st Q:=
 q_ rfl (s_box H0 rfl (m_ (e_ (q_ rfl (m_ (e_ (sq_ (q_ rfl (m_ (e_ (bk_ (h (I103_0 prog d Q ) (fun _ _ _ hb _ _ _ H1 H3 H4 B0=>W.loop (w103_1 hQ (fun _ _ _ x=>x) H1 H3 H4 B0 hb)) _ _ _ rfl rfl rfl lk_here))))))))))))
end
theorem p103 {prog:Prog}(hf:prog.fn 103 = some pf103){v0:Val}{K:Int→Prop}(h:T103_0 prog K v0) :∃res0:Int,K res0∧Pus prog 103 [v0.av] (.i .i64 res0):=by
  obtain ⟨v,hv,res0,hk,rfl⟩:=Pus.of (K:=fun v=>∃res0:Int,K res0∧v = .i .i64 res0) hf rfl (w103_0 (σ:=sl0 [v0.av]) (fun σ st   res0 H2 hk=>⟨.i .i64 res0,by simp only [pf103,ares,aresL,H2,ares1,Option.map_some],_,rfl,res0,hk,rfl⟩) rfl h)
  exact ⟨res0,hk,hv⟩
def r104_0:List AI:=[oO 3 (.box 5 (.t 1)),
 oC 4 (.i .i64 0)]
def r104_1:List AI:=[oO 11 (.build [.s [],.s [],.s [],.s [],.s [],.s [],.s [],.s []] [(5,1,(.c (.s [123,125]))),(6,1,(.c (.s [91,93]))),(7,1,(.c (.s [60,62])))]),
 oF 12 0 3,
 oL 13 12,
 oO 14 (.ixA 8 1 false (.t 11) (.t 13)),
 oM 5 14]
def r104_2:List AI:=[oF 43 0 3,
 oL 44 43,
 oB 45 .eql (.t 44) (.c (.i .u8 1)),
 oM 46 45,
 oG 47 (.fad 1 (.t 3)) 46 true,
 oG 48 (.load 1 false (.t 47)) 46 true,
 oG 49 (.bin .eql (.t 48) (.c (.i .i64 1))) 46 true,
 oO 50 (.pick (.t 46) (.t 49) (.c (.b false))),
 oM 42 50]
def r104_3:List AI:=[oM 51 0,
 oO 52 (.call true 126 [(.t 51),(.c (.s [116,114,117,101]))])]
def r104_4:List AI:=[oF 54 0 3,
 oL 55 54,
 oB 56 .eql (.t 55) (.c (.i .u8 1)),
 oM 53 56]
def r104_5:List AI:=[oM 57 0,
 oO 58 (.call true 126 [(.t 57),(.c (.s [102,97,108,115,101]))])]
def r104_6:List AI:=[oF 60 0 3,
 oL 61 60,
 oB 62 .eql (.t 61) (.c (.i .u8 2)),
 oM 59 62]
def r104_7:List AI:=[oM 63 0,
 oF 64 1 3,
 oL 65 64,
 oO 66 (.call false 15 [(.t 65)]),
 oO 67 (.call true 126 [(.t 63),(.t 66)])]
def r104_8:List AI:=[oF 69 0 3,
 oL 70 69,
 oB 71 .eql (.t 70) (.c (.i .u8 3)),
 oM 68 71]
def r104_9:List AI:=[oF 73 2 3,
 oL 74 73,
 oO 75 (.call false 11 [(.t 74)]),
 oM 72 75,
 oE 76 0 72,
 oE 77 1 72,
 oM 6 76,
 oM 7 77]
def r104_10:List AI:=[oM 78 0,
 oM 79 6,
 oO 80 (.call true 126 [(.t 78),(.t 79)])]
def r104_11:List AI:=[oM 81 7,
 oM 4 81]
def r104_12:List AI:=[oF 83 0 3,
 oL 84 83,
 oB 85 .eql (.t 84) (.c (.i .u8 4)),
 oM 86 85,
 oG 87 (.fad 4 (.t 3)) 86 true,
 oG 88 (.load 1 false (.t 87)) 86 true,
 oO 89 (.pick (.t 86) (.t 88) (.c (.b false))),
 oM 82 89]
def r104_13:List AI:=[oM 90 0,
 oO 91 (.call true 126 [(.t 90),(.c (.s [38,46,46,46]))])]
def r104_14:List AI:=[oF 93 0 3,
 oL 94 93,
 oB 95 .eql (.t 94) (.c (.i .u8 4)),
 oM 96 95,
 oG 97 (.fad 3 (.t 3)) 96 true,
 oG 98 (.load 1 false (.t 97)) 96 true,
 oG 99 (.len false (.t 98)) 96 true,
 oG 100 (.bin .eql (.t 99) (.c (.i .i64 0))) 96 true,
 oO 101 (.pick (.t 96) (.t 100) (.c (.b false))),
 oM 92 101]
def r104_15:List AI:=[oM 102 0,
 oO 103 (.call true 126 [(.t 102),(.c (.s [110,105,108]))])]
def r104_16:List AI:=[oF 105 0 3,
 oL 106 105,
 oB 107 .eql (.t 106) (.c (.i .u8 4)),
 oM 104 107]
def r104_17:List AI:=[oM 108 0,
 oO 109 (.call true 126 [(.t 108),(.c (.s [38]))])]
def r104_18:List AI:=[oM 110 0,
 oF 111 3 3,
 oL 112 111,
 oO 113 (.iaL 5 (.t 112) (.c (.i .i64 0))),
 oO 114 (.load 5 true (.t 113)),
 oO 115 (.call true 104 [(.t 110),(.t 114)]),
 oM 4 115]
def r104_19:List AI:=[oF 117 4 3,
 oL 118 117,
 oM 116 118]
def r104_20:List AI:=[oM 119 0,
 oO 120 (.call true 126 [(.t 119),(.c (.s [60,46,46,46,62]))])]
def r104_21:List AI:=[oM 15 0,
 oM 16 5,
 oO 17 (.slS (.t 16) none (some (.c (.i .i64 1)))),
 oO 18 (.call true 126 [(.t 15),(.t 17)])]
def r104_22:List AI:=[oF 19 3 3,
 oL 20 19,
 oO 21 (.len false (.t 20)),
 oC 22 (.i .i64 0)]
def r104_23:List AI:=[oB 23 .lss (.t 22) (.t 21)]
def r104_24:List AI:=[oM 24 22,
 oO 25 (.iaL 5 (.t 20) (.t 22)),
 oO 26 (.load 5 true (.t 25)),
 oO 9 (.alloc [.i .u8 0,.i .i64 0,.s [],.sl .full [],.b false]),
 oM 8 24,
 oS 5 9 26]
def r104_25:List AI:=[oM 27 8,
 oB 28 .gtr (.t 27) (.c (.i .i64 0))]
def r104_26:List AI:=[oM 29 0,
 oO 30 (.call true 126 [(.t 29),(.c (.s [44,32]))])]
def r104_27:List AI:=[oM 31 0,
 oO 32 (.load 5 true (.t 9)),
 oO 33 (.call true 104 [(.t 31),(.t 32)]),
 oM 10 33]
def r104_28:List AI:=[oM 34 10,
 oB 35 .neq (.t 34) (.c (.i .i64 0))]
def r104_29:List AI:=[oM 36 10,
 oM 4 36]
def r104_30:List AI:=[oB 37 .add (.t 22) (.c (.i .i64 1)),
 oM 22 37]
def r104_31:List AI:=[oM 38 0,
 oM 39 5,
 oO 40 (.slS (.t 39) (some (.c (.i .i64 1))) none),
 oO 41 (.call true 126 [(.t 38),(.t 40)])]
def r104_32:List AI:=[oC 4 (.i .i64 0)]
abbrev c104_0:AC:=(.seq (.reg 8 r104_27) (.seq (.reg 9 r104_28) (.cond (.t 35) (.seq (.reg 10 r104_29) .ret) .skip)))
abbrev l104_0:AC:=(.seq (.reg 4 r104_23) (.seq (.cond (.t 23) .skip (.exit 1)) (.seq (.block 2 (.seq (.reg 5 r104_24) (.seq (.seq (.reg 6 r104_25) (.cond (.t 28) (.reg 7 r104_26) .skip)) c104_0))) (.reg 11 r104_30))))
abbrev c104_2:AC:=(.reg 12 r104_31)
abbrev c104_3:AC:=(.cond (.t 82) (.reg 24 r104_13) (.seq (.reg 25 r104_14) (.cond (.t 92) (.reg 26 r104_15) (.seq (.reg 27 r104_16) (.cond (.t 104) (.seq (.reg 28 r104_17) (.seq (.reg 29 r104_18) .ret)) (.seq (.reg 30 r104_19) (.cond (.t 116) (.reg 31 r104_20) (.seq (.reg 2 r104_21) (.seq (.seq (.reg 3 r104_22) (.block 1 (.loop l104_0))) c104_2)))))))))
abbrev c104_4:AC:=(.cond (.t 68) (.seq (.reg 20 r104_9) (.seq (.reg 21 r104_10) (.seq (.reg 22 r104_11) .ret))) (.seq (.reg 23 r104_12) c104_3))
abbrev c104_5:AC:=(.cond (.t 59) (.reg 18 r104_7) (.seq (.reg 19 r104_8) c104_4))
abbrev c104_6:AC:=(.cond (.t 53) (.reg 16 r104_5) (.seq (.reg 17 r104_6) c104_5))
abbrev c104_7:AC:=(.cond (.t 42) (.reg 14 r104_3) (.seq (.reg 15 r104_4) c104_6))
abbrev c104_8:AC:=(.seq (.reg 32 r104_32) .ret)
abbrev c104_9:AC:=(.seq (.block 0 (.seq (.reg 13 r104_2) c104_7)) c104_8)
abbrev c104_10:AC:=(.seq (.reg 1 r104_1) c104_9)
abbrev b104:AC:=(.seq (.reg 0 r104_0) c104_10)
def pf104:AF:={ nt:=121,res:=[.tmp 4],body:=b104 }
abbrev H104 (d:Nat)(st0:St)(kp:Key)(vp:Nat)(Q:AE→Sl→St→Prop)(K:Int→List UInt8→Prop):Prop:=∀(σ:Sl)(st:St)(res0:Int)(b_:List UInt8),σ 4 = .i .i64 res0→Bl b_ st.bx st.ow kp vp→Fr d kp st0.bx st0.ow st.bx st.ow→K res0 b_→Q .ret σ st
def T104_4 (prog:Prog)(K:Int→List UInt8→Prop)(mP:List UInt8):Prop:=
  K 0 mP
abbrev I104_0 (prog:Prog)(d:Nat)(Q:AE→Sl→St→Prop)(st0:St)(kp:Key)(vp:Nat)(ends5:List UInt8)(t20:List Val)(t21:Int)(t22:Int)(mP:List UInt8):Prop:=
  ∀(σ:Sl)(st:St)(o_t20:Own),σ 0 = .p kp vp 0→σ 5 = .s ends5→σ 20 = .sl o_t20 (List.map Val.row t20)→σ 21 = .i .i64 t21→σ 22 = .i .i64 t22→Bl mP st.bx st.ow kp vp→Fr d kp st0.bx st0.ow st.bx st.ow→W prog d (.loop l104_0) σ st (blockW 1 (thenW prog d c104_2 (blockW 0 (thenW prog d c104_8 Q))))
def T104_10 (prog:Prog)(K:Int→List UInt8→Prop)(P0:Int→List UInt8→Prop)(ends5:List UInt8)(t20:List Val)(t21:Int)(t22:Int)(m20483:Val)(mP:List UInt8):Prop:=
  ∃r'1:Int,∃b'7:List UInt8,PuX prog 104 (Bl mP) [m20483.av] (fun r=>r = .i .i64 r'1) ((Bl b'7))∧(r'1≠0→K r'1 b'7)∧(¬(r'1≠0)→P0 (IntKind.i64.wrap (t22 + 1)) b'7)
def T104_11 (prog:Prog)(K:Int→List UInt8→Prop)(ends5:List UInt8)(mP:List UInt8):Prop:=
  1≤ends5.length∧∃r'1:Int,∃b'7:List UInt8,PuX prog 126 (Bl mP) [.s (ends5.drop 1)] (fun r=>r = .tup [.i .i64 r'1,.ni]) ((Bl b'7))∧T104_4 prog K b'7
def T104_9 (prog:Prog)(K:Int→List UInt8→Prop)(P0:Int→List UInt8→Prop)(ends5:List UInt8)(t20:List Val)(t21:Int)(t22:Int)(mP:List UInt8):Prop:=
  (t22 < t21→0≤t22∧∃c'2:Val,t20[(t22).toNat]? = some c'2∧(t22 > 0→∃r'5:Int,∃b'11:List UInt8,PuX prog 126 (Bl mP) [.s ([44,32]:List UInt8)] (fun r=>r = .tup [.i .i64 r'5,.ni]) ((Bl b'11))∧T104_10 prog K P0 ends5 t20 t21 t22 c'2 b'11)∧(¬(t22 > 0)→T104_10 prog K P0 ends5 t20 t21 t22 c'2 mP))∧(¬(t22 < t21)→T104_11 prog K ends5 mP)
def T104_8 (prog:Prog)(K:Int→List UInt8→Prop)(ends5:List UInt8)(t82:Bool)(m0:Val)(mP:List UInt8):Prop:=
  (t82 = true→∃r'2:Int,∃b'8:List UInt8,PuX prog 126 (Bl mP) [.s ([38,46,46,46]:List UInt8)] (fun r=>r = .tup [.i .i64 r'2,.ni]) ((Bl b'8))∧T104_4 prog K b'8)∧(t82 = false→(m0.kind = 4→((m0.list.length:Int) = 0→∃r'12:Int,∃b'18:List UInt8,PuX prog 126 (Bl mP) [.s ([110,105,108]:List UInt8)] (fun r=>r = .tup [.i .i64 r'12,.ni]) ((Bl b'18))∧T104_4 prog K b'18)∧(¬((m0.list.length:Int) = 0)→(m0.kind = 4→∃r'21:Int,∃b'27:List UInt8,PuX prog 126 (Bl mP) [.s ([38]:List UInt8)] (fun r=>r = .tup [.i .i64 r'21,.ni]) ((Bl b'27))∧∃c'28:Val,m0.list[0]? = some c'28∧∃r'30:Int,∃b'36:List UInt8,PuX prog 104 (Bl b'27) [c'28.av] (fun r=>r = .i .i64 r'30) ((Bl b'36))∧K r'30 b'36)∧(¬(m0.kind = 4)→(m0.cut = true→∃r'40:Int,∃b'46:List UInt8,PuX prog 126 (Bl mP) [.s ([60,46,46,46,62]:List UInt8)] (fun r=>r = .tup [.i .i64 r'40,.ni]) ((Bl b'46))∧T104_4 prog K b'46)∧(m0.cut = false→1≤ends5.length∧∃r'48:Int,∃b'54:List UInt8,PuX prog 126 (Bl mP) [.s (ends5.take 1)] (fun r=>r = .tup [.i .i64 r'48,.ni]) ((Bl b'54))∧∀P0:Int→List UInt8→Prop,(∀(t22:Int)(mP:List UInt8),T104_9 prog K P0 ends5 m0.list (m0.list.length:Int) t22 mP→P0 t22 mP)→P0 0 b'54))))∧(¬(m0.kind = 4)→(m0.kind = 4→∃r'57:Int,∃b'63:List UInt8,PuX prog 126 (Bl mP) [.s ([38]:List UInt8)] (fun r=>r = .tup [.i .i64 r'57,.ni]) ((Bl b'63))∧∃c'64:Val,m0.list[0]? = some c'64∧∃r'66:Int,∃b'72:List UInt8,PuX prog 104 (Bl b'63) [c'64.av] (fun r=>r = .i .i64 r'66) ((Bl b'72))∧K r'66 b'72)∧(¬(m0.kind = 4)→(m0.cut = true→∃r'76:Int,∃b'82:List UInt8,PuX prog 126 (Bl mP) [.s ([60,46,46,46,62]:List UInt8)] (fun r=>r = .tup [.i .i64 r'76,.ni]) ((Bl b'82))∧T104_4 prog K b'82)∧(m0.cut = false→1≤ends5.length∧∃r'84:Int,∃b'90:List UInt8,PuX prog 126 (Bl mP) [.s (ends5.take 1)] (fun r=>r = .tup [.i .i64 r'84,.ni]) ((Bl b'90))∧∀P0:Int→List UInt8→Prop,(∀(t22:Int)(mP:List UInt8),T104_9 prog K P0 ends5 m0.list (m0.list.length:Int) t22 mP→P0 t22 mP)→P0 0 b'90))))
def T104_7 (prog:Prog)(K:Int→List UInt8→Prop)(ends5:List UInt8)(t68:Bool)(m0:Val)(mP:List UInt8):Prop:=
  (t68 = true→∃r'2:List UInt8,∃r'3:Int,Pus prog 11 [.s m0.text] (.tup [.s r'2,.i .i64 r'3])∧∃r'5:Int,∃b'11:List UInt8,PuX prog 126 (Bl mP) [.s r'2] (fun r=>r = .tup [.i .i64 r'5,.ni]) ((Bl b'11))∧K r'3 b'11)∧(t68 = false→(m0.kind = 4→T104_8 prog K ends5 m0.cut m0 mP)∧(¬(m0.kind = 4)→T104_8 prog K ends5 false m0 mP))
def T104_6 (prog:Prog)(K:Int→List UInt8→Prop)(ends5:List UInt8)(t59:Bool)(m0:Val)(mP:List UInt8):Prop:=
  (t59 = true→∃r'2:List UInt8,Pus prog 15 [.i .i64 m0.int] (.s r'2)∧∃r'4:Int,∃b'10:List UInt8,PuX prog 126 (Bl mP) [.s r'2] (fun r=>r = .tup [.i .i64 r'4,.ni]) ((Bl b'10))∧T104_4 prog K b'10)∧(t59 = false→T104_7 prog K ends5 (decide (m0.kind = 3)) m0 mP)
def T104_5 (prog:Prog)(K:Int→List UInt8→Prop)(ends5:List UInt8)(t53:Bool)(m0:Val)(mP:List UInt8):Prop:=
  (t53 = true→∃r'2:Int,∃b'8:List UInt8,PuX prog 126 (Bl mP) [.s ([102,97,108,115,101]:List UInt8)] (fun r=>r = .tup [.i .i64 r'2,.ni]) ((Bl b'8))∧T104_4 prog K b'8)∧(t53 = false→T104_6 prog K ends5 (decide (m0.kind = 2)) m0 mP)
def T104_3 (prog:Prog)(K:Int→List UInt8→Prop)(ends5:List UInt8)(t42:Bool)(m0:Val)(mP:List UInt8):Prop:=
  (t42 = true→∃r'2:Int,∃b'8:List UInt8,PuX prog 126 (Bl mP) [.s ([116,114,117,101]:List UInt8)] (fun r=>r = .tup [.i .i64 r'2,.ni]) ((Bl b'8))∧T104_4 prog K b'8)∧(t42 = false→T104_5 prog K ends5 (decide (m0.kind = 1)) m0 mP)
def T104_2 (prog:Prog)(K:Int→List UInt8→Prop)(ends5:List UInt8)(m0:Val)(mP:List UInt8):Prop:=
  (m0.kind = 1→T104_3 prog K ends5 (decide (m0.int = 1)) m0 mP)∧(¬(m0.kind = 1)→T104_3 prog K ends5 false m0 mP)
def T104_1 (prog:Prog)(K:Int→List UInt8→Prop)(m0:Val)(mP:List UInt8):Prop:=
  0≤m0.kind∧∃c'1:List UInt8,([[],[],[],[],[],([123,125]:List UInt8),([91,93]:List UInt8),([60,62]:List UInt8)]:List (List UInt8))[(m0.kind).toNat]? = some c'1∧T104_2 prog K c'1 m0 mP
def T104_0 (prog:Prog)(K:Int→List UInt8→Prop)(v1:Val)(mP:List UInt8):Prop:=
  T104_1 prog K v1 mP
section
variable {prog:Prog}{d:Nat}{Q:AE→Sl→St→Prop}{K:Int→List UInt8→Prop}{st0:St}{kp:Key}{vp:Nat}(hQ:H104 d st0 kp vp Q K)(hkp:kp.1 < d){σ:Sl}{st:St}
include hQ hkp
theorem w104_4 {mP:List UInt8}(BP:Bl mP st.bx st.ow kp vp)(FR:Fr d kp st0.bx st0.ow st.bx st.ow)(h:T104_4 prog K mP):W prog d c104_8 σ st Q:=
 q_ rfl (m_ (e_ (rt_ (hQ _ _ _ _ rfl BP FR h))))
theorem w104_10 {ends5:List UInt8}{t20:List Val}{t21 t22:Int}{m20483:Val}{mP:List UInt8}{P0:Int→List UInt8→Prop} (kP0 :∀(t22:Int)(mP:List UInt8),P0 t22 mP→I104_0 prog d Q st0 kp vp ends5 t20 t21 t22 mP){o_t20:Own}{v20483:Nat}(H0:σ 0 = .p kp vp 0)(H5:σ 5 = .s ends5)(H9:σ 9 = .p (d,20483) v20483 0)(H20:σ 20 = .sl o_t20 (List.map Val.row t20))(H21:σ 21 = .i .i64 t21)(H22:σ 22 = .i .i64 t22)(B20483:lk st.bx (d,20483) = some (v20483,[.i .u8 m20483.kind,.i .i64 m20483.int,.s m20483.text,.sl .ext (List.map Val.row m20483.list),.b m20483.cut]))(BP:Bl mP st.bx st.ow kp vp)(FR:Fr d kp st0.bx st0.ow st.bx st.ow)(h:T104_10 prog K P0 ends5 t20 t21 t22 m20483 mP):W prog d c104_0 σ st (blockW 2 (thenW prog d (.reg 11 r104_30) (thenW prog d (.loop l104_0) (blockW 1 (thenW prog d c104_2 (blockW 0 (thenW prog d c104_8 Q))))))):=
 q_ rfl (m_ (l_ H9 B20483 rfl rfl (h.elim fun r'1 e'9=>e'9.elim fun b'7 e'3=>cX_ (sec H0 (sec rfl sen)) e'3.1 (Nat.lt_succ_of_lt hkp) BP (fun st'4 hb'5 hf'6=>m_ (e_ (q_ rfl (m_ (b_ rfl rfl neq_ (e_ (cs_ rfl (fun g'8=>q_ rfl (m_ (m_ (e_ (rt_ (hQ _ _ _ _ rfl hb'5 (Fr.pass FR hf'6) (e'3.2.1 g'8))))))) (fun g'8=>sk_ (W.reg0 rfl fun _ _=>b_ H22 rfl add_ (m_ (e_ (kP0 _ _ (e'3.2.2 g'8) _ _ _ H0 H5 H20 H21 rfl hb'5 (Fr.pass FR hf'6))))))))))))))))
theorem w104_11 {ends5 mP:List UInt8}(H0:σ 0 = .p kp vp 0)(H5:σ 5 = .s ends5)(BP:Bl mP st.bx st.ow kp vp)(FR:Fr d kp st0.bx st0.ow st.bx st.ow)(h:T104_11 prog K ends5 mP):W prog d c104_2 σ st (blockW 0 (thenW prog d c104_8 Q)):=
 W.reg0 rfl fun _ _=>m_ (m_ (s_slS_lo H5 rfl (by decide) h.1 (h.2.elim fun r'1 e'8=>e'8.elim fun b'7 e'3=>cX_ (sec H0 (sec rfl sen)) e'3.1 (Nat.lt_succ_of_lt hkp) BP (fun st'4 hb'5 hf'6=>e_ (w104_4 hQ hkp hb'5 (Fr.pass FR hf'6) e'3.2)))))
theorem w104_9 {ends5:List UInt8}{t20:List Val}{t21 t22:Int}{mP:List UInt8}{P0:Int→List UInt8→Prop} (kP0 :∀(t22:Int)(mP:List UInt8),P0 t22 mP→I104_0 prog d Q st0 kp vp ends5 t20 t21 t22 mP){o_t20:Own}(H0:σ 0 = .p kp vp 0)(H5:σ 5 = .s ends5)(H20:σ 20 = .sl o_t20 (List.map Val.row t20))(H21:σ 21 = .i .i64 t21)(H22:σ 22 = .i .i64 t22)(BP:Bl mP st.bx st.ow kp vp)(FR:Fr d kp st0.bx st0.ow st.bx st.ow)(h:T104_9 prog K P0 ends5 t20 t21 t22 mP):W prog d l104_0 σ st (thenW prog d (.loop l104_0) (blockW 1 (thenW prog d c104_2 (blockW 0 (thenW prog d c104_8 Q))))):=
 q_ rfl (b_ H22 H21 lss_ (e_ (sq_ (cs_ rfl (fun g'1=>sk_ (sq_ (bk_ (sq_ (W.reg (m_ ((h.1 g'1).2.elim fun c'2 e'3=>ia_ H20 H22 (h.1 g'1).1 e'3.1 (Val.row_eq c'2) rfl (lf_ rfl rfl rfl (s_alloc (m_ (so_ rfl (show lk _ (d,20483) = some (_,([.i .u8 0,.i .i64 0,.s [],.sl .full (List.map Val.row ([]:List Val)),.b false]:List AV)) from lk_here) rfl rfl rfl (e_ (sq_ (q_ rfl (m_ (b_ H22 rfl gtr_ (e_ (cs_ rfl (fun g'4=>W.reg0 rfl fun _ _=>m_ ((e'3.2.1 g'4).elim fun r'5 e'12=>e'12.elim fun b'11 e'7=>cX_ (sec H0 (sec rfl sen)) e'7.1 (Nat.lt_succ_of_lt hkp) (Bl.other (key_LP hkp) (Bl.other (key_LP hkp) BP)) (fun st'8 hb'9 hf'10=>e_ (w104_10 hQ hkp kP0 H0 H5 rfl H20 H21 H22 ((hf'10.1 (d,20483) (Nat.lt_succ_self d) (key_LP hkp)).trans lk_here) hb'9 (Fr.pass (Fr.box (Fr.box FR)) hf'10) e'7.2)))) (fun g'4=>sk_ (w104_10 hQ hkp kP0 H0 H5 rfl H20 H21 H22 lk_here (Bl.other (key_LP hkp) (Bl.other (key_LP hkp) BP)) (Fr.box (Fr.box FR)) (e'3.2.2 g'4))))))))))))))))))))) (fun g'1=>ex_ (w104_11 hQ hkp H0 H5 BP FR (h.2 g'1)))))))
theorem w104_8 {ends5:List UInt8}{t82:Bool}{m0:Val}{mP:List UInt8}{v0:Nat}(H0:σ 0 = .p kp vp 0)(H3:σ 3 = .p (d,0) v0 0)(H5:σ 5 = .s ends5)(H82:σ 82 = .b t82)(B0:lk st.bx (d,0) = some (v0,[.i .u8 m0.kind,.i .i64 m0.int,.s m0.text,.sl .ext (List.map Val.row m0.list),.b m0.cut]))(BP:Bl mP st.bx st.ow kp vp)(FR:Fr d kp st0.bx st0.ow st.bx st.ow)(h:T104_8 prog K ends5 t82 m0 mP):W prog d c104_3 σ st (blockW 0 (thenW prog d c104_8 Q)):=
 cb_ H82 (fun g'1=>W.reg0 rfl fun _ _=>m_ ((h.1 g'1).elim fun r'2 e'9=>e'9.elim fun b'8 e'4=>cX_ (sec H0 (sec rfl sen)) e'4.1 (Nat.lt_succ_of_lt hkp) BP (fun st'5 hb'6 hf'7=>e_ (w104_4 hQ hkp hb'6 (Fr.pass FR hf'7) e'4.2)))) (fun g'1=>q_ rfl (f_ H3 (l_ rfl B0 rfl rfl (b_ rfl rfl eql_ (s_mvB rfl (em_ (g:=96) rfl (fun g'10=>gy_ rfl (f_ H3 (gy_ rfl (l_ rfl B0 rfl rfl (gy_ rfl (ll_ rfl (gy_ rfl (b_ rfl rfl eql_ (pt_ rfl rfl (s_mvB rfl (e_ (cs_ rfl (fun g'11=>W.reg0 rfl fun _ _=>m_ ((((h.2 g'1).1 g'10).1 g'11).elim fun r'12 e'19=>e'19.elim fun b'18 e'14=>cX_ (sec H0 (sec rfl sen)) e'14.1 (Nat.lt_succ_of_lt hkp) BP (fun st'15 hb'16 hf'17=>e_ (w104_4 hQ hkp hb'16 (Fr.pass FR hf'17) e'14.2)))) (fun g'11=>q_ rfl (f_ H3 (l_ rfl B0 rfl rfl (b_ rfl rfl eql_ (m_ (e_ (cs_ rfl (fun g'20=>q_ rfl (m_ (((((h.2 g'1).1 g'10).2 g'11).1 g'20).elim fun r'21 e'38=>e'38.elim fun b'27 e'23=>cX_ (sec H0 (sec rfl sen)) e'23.1 (Nat.lt_succ_of_lt hkp) BP (fun st'24 hb'25 hf'26=>e_ (q_ rfl (m_ (f_ H3 (l_ rfl ((hf'26.1 (d,0) (Nat.lt_succ_self d) (key_LP hkp)).trans B0) rfl rfl (e'23.2.elim fun c'28 e'29=>ia_ rfl rfl (by decide) e'29.1 (Val.row_eq c'28) rfl (lf_ rfl rfl rfl (e'29.2.elim fun r'30 e'37=>e'37.elim fun b'36 e'32=>cX_ (sec H0 (sec rfl sen)) e'32.1 (Nat.lt_succ_of_lt hkp) hb'25 (fun st'33 hb'34 hf'35=>m_ (e_ (rt_ (hQ _ _ _ _ rfl hb'34 (Fr.pass (Fr.pass FR hf'26) hf'35) e'32.2))))))))))))))) (fun g'20=>q_ rfl (f_ H3 (l_ rfl B0 rfl rfl (m_ (e_ (cb_ rfl (fun g'39=>W.reg0 rfl fun _ _=>m_ ((((((h.2 g'1).1 g'10).2 g'11).2 g'20).1 g'39).elim fun r'40 e'47=>e'47.elim fun b'46 e'42=>cX_ (sec H0 (sec rfl sen)) e'42.1 (Nat.lt_succ_of_lt hkp) BP (fun st'43 hb'44 hf'45=>e_ (w104_4 hQ hkp hb'44 (Fr.pass FR hf'45) e'42.2)))) (fun g'39=>q_ rfl (m_ (m_ (s_slS_hi H5 rfl (by decide) (((((h.2 g'1).1 g'10).2 g'11).2 g'20).2 g'39).1 ((((((h.2 g'1).1 g'10).2 g'11).2 g'20).2 g'39).2.elim fun r'48 e'55=>e'55.elim fun b'54 e'50=>cX_ (sec H0 (sec rfl sen)) e'50.1 (Nat.lt_succ_of_lt hkp) BP (fun st'51 hb'52 hf'53=>e_ (sq_ (q_ rfl (f_ H3 (l_ rfl ((hf'53.1 (d,0) (Nat.lt_succ_self d) (key_LP hkp)).trans B0) rfl rfl (ll_ rfl (m_ (e_ (bk_ (e'50.2 (I104_0 prog d Q st0 kp vp ends5 m0.list (m0.list.length:Int)) (fun _ _ hb _ _ _ H0 H5 H20 H21 H22 BP FR=>W.loop (w104_9 hQ hkp (fun _ _ x=>x) H0 H5 H20 H21 H22 BP FR hb)) _ _ _ H0 H5 rfl rfl rfl hb'52 (Fr.pass FR hf'53))))))))))))))))))))))))))))))))))))))))) (fun g'10=>gn_ (b:=false) rfl rfl (gn_ (b:=false) rfl rfl (gn_ (b:=false) rfl rfl (gn_ (b:=false) rfl rfl (pf_ rfl rfl (s_mvB rfl (e_ (cf_ rfl (q_ rfl (f_ H3 (l_ rfl B0 rfl rfl (b_ rfl rfl eql_ (m_ (e_ (cs_ rfl (fun g'56=>q_ rfl (m_ ((((h.2 g'1).2 g'10).1 g'56).elim fun r'57 e'74=>e'74.elim fun b'63 e'59=>cX_ (sec H0 (sec rfl sen)) e'59.1 (Nat.lt_succ_of_lt hkp) BP (fun st'60 hb'61 hf'62=>e_ (q_ rfl (m_ (f_ H3 (l_ rfl ((hf'62.1 (d,0) (Nat.lt_succ_self d) (key_LP hkp)).trans B0) rfl rfl (e'59.2.elim fun c'64 e'65=>ia_ rfl rfl (by decide) e'65.1 (Val.row_eq c'64) rfl (lf_ rfl rfl rfl (e'65.2.elim fun r'66 e'73=>e'73.elim fun b'72 e'68=>cX_ (sec H0 (sec rfl sen)) e'68.1 (Nat.lt_succ_of_lt hkp) hb'61 (fun st'69 hb'70 hf'71=>m_ (e_ (rt_ (hQ _ _ _ _ rfl hb'70 (Fr.pass (Fr.pass FR hf'62) hf'71) e'68.2))))))))))))))) (fun g'56=>q_ rfl (f_ H3 (l_ rfl B0 rfl rfl (m_ (e_ (cb_ rfl (fun g'75=>W.reg0 rfl fun _ _=>m_ (((((h.2 g'1).2 g'10).2 g'56).1 g'75).elim fun r'76 e'83=>e'83.elim fun b'82 e'78=>cX_ (sec H0 (sec rfl sen)) e'78.1 (Nat.lt_succ_of_lt hkp) BP (fun st'79 hb'80 hf'81=>e_ (w104_4 hQ hkp hb'80 (Fr.pass FR hf'81) e'78.2)))) (fun g'75=>q_ rfl (m_ (m_ (s_slS_hi H5 rfl (by decide) ((((h.2 g'1).2 g'10).2 g'56).2 g'75).1 (((((h.2 g'1).2 g'10).2 g'56).2 g'75).2.elim fun r'84 e'91=>e'91.elim fun b'90 e'86=>cX_ (sec H0 (sec rfl sen)) e'86.1 (Nat.lt_succ_of_lt hkp) BP (fun st'87 hb'88 hf'89=>e_ (sq_ (q_ rfl (f_ H3 (l_ rfl ((hf'89.1 (d,0) (Nat.lt_succ_self d) (key_LP hkp)).trans B0) rfl rfl (ll_ rfl (m_ (e_ (bk_ (e'86.2 (I104_0 prog d Q st0 kp vp ends5 m0.list (m0.list.length:Int)) (fun _ _ hb _ _ _ H0 H5 H20 H21 H22 BP FR=>W.loop (w104_9 hQ hkp (fun _ _ x=>x) H0 H5 H20 H21 H22 BP FR hb)) _ _ _ H0 H5 rfl rfl rfl hb'88 (Fr.pass FR hf'89)))))))))))))))))))))))))))))))))))))))))))
theorem w104_7 {ends5:List UInt8}{t68:Bool}{m0:Val}{mP:List UInt8}{v0:Nat}(H0:σ 0 = .p kp vp 0)(H3:σ 3 = .p (d,0) v0 0)(H5:σ 5 = .s ends5)(H68:σ 68 = .b t68)(B0:lk st.bx (d,0) = some (v0,[.i .u8 m0.kind,.i .i64 m0.int,.s m0.text,.sl .ext (List.map Val.row m0.list),.b m0.cut]))(BP:Bl mP st.bx st.ow kp vp)(FR:Fr d kp st0.bx st0.ow st.bx st.ow)(h:T104_7 prog K ends5 t68 m0 mP):W prog d c104_4 σ st (blockW 0 (thenW prog d c104_8 Q)):=
 cb_ H68 (fun g'1=>q_ rfl (f_ H3 (l_ rfl B0 rfl rfl ((h.1 g'1).elim fun r'2 e'13=>e'13.elim fun r'3 e'4=>ca_ (sc rfl rfl sn) e'4.1 (m_ (x_ rfl rfl (x_ rfl rfl (m_ (m_ (e_ (q_ rfl (m_ (m_ (e'4.2.elim fun r'5 e'12=>e'12.elim fun b'11 e'7=>cX_ (sec H0 (sec rfl sen)) e'7.1 (Nat.lt_succ_of_lt hkp) BP (fun st'8 hb'9 hf'10=>e_ (q_ rfl (m_ (m_ (e_ (rt_ (hQ _ _ _ _ rfl hb'9 (Fr.pass FR hf'10) e'7.2))))))))))))))))))))) (fun g'1=>q_ rfl (f_ H3 (l_ rfl B0 rfl rfl (b_ rfl rfl eql_ (s_mvB rfl (em_ (g:=86) rfl (fun g'14=>gy_ rfl (f_ H3 (gy_ rfl (l_ rfl B0 rfl rfl (pt_ rfl rfl (s_mvB rfl (e_ (w104_8 hQ hkp H0 H3 H5 rfl B0 BP FR ((h.2 g'1).1 g'14))))))))) (fun g'14=>gn_ (b:=false) rfl rfl (gn_ (b:=false) rfl rfl (pf_ rfl rfl (s_mvB rfl (e_ (w104_8 hQ hkp H0 H3 H5 rfl B0 BP FR ((h.2 g'1).2 g'14)))))))))))))
theorem w104_6 {ends5:List UInt8}{t59:Bool}{m0:Val}{mP:List UInt8}{v0:Nat}(H0:σ 0 = .p kp vp 0)(H3:σ 3 = .p (d,0) v0 0)(H5:σ 5 = .s ends5)(H59:σ 59 = .b t59)(B0:lk st.bx (d,0) = some (v0,[.i .u8 m0.kind,.i .i64 m0.int,.s m0.text,.sl .ext (List.map Val.row m0.list),.b m0.cut]))(BP:Bl mP st.bx st.ow kp vp)(FR:Fr d kp st0.bx st0.ow st.bx st.ow)(h:T104_6 prog K ends5 t59 m0 mP):W prog d c104_5 σ st (blockW 0 (thenW prog d c104_8 Q)):=
 cb_ H59 (fun g'1=>W.reg0 rfl fun _ _=>m_ (f_ H3 (l_ rfl B0 rfl rfl ((h.1 g'1).elim fun r'2 e'3=>ca_ (sc rfl rfl sn) e'3.1 (e'3.2.elim fun r'4 e'11=>e'11.elim fun b'10 e'6=>cX_ (sec H0 (sec rfl sen)) e'6.1 (Nat.lt_succ_of_lt hkp) BP (fun st'7 hb'8 hf'9=>e_ (w104_4 hQ hkp hb'8 (Fr.pass FR hf'9) e'6.2))))))) (fun g'1=>q_ rfl (f_ H3 (l_ rfl B0 rfl rfl (b_ rfl rfl eql_ (m_ (e_ (w104_7 hQ hkp H0 H3 H5 rfl B0 BP FR (h.2 g'1))))))))
theorem w104_5 {ends5:List UInt8}{t53:Bool}{m0:Val}{mP:List UInt8}{v0:Nat}(H0:σ 0 = .p kp vp 0)(H3:σ 3 = .p (d,0) v0 0)(H5:σ 5 = .s ends5)(H53:σ 53 = .b t53)(B0:lk st.bx (d,0) = some (v0,[.i .u8 m0.kind,.i .i64 m0.int,.s m0.text,.sl .ext (List.map Val.row m0.list),.b m0.cut]))(BP:Bl mP st.bx st.ow kp vp)(FR:Fr d kp st0.bx st0.ow st.bx st.ow)(h:T104_5 prog K ends5 t53 m0 mP):W prog d c104_6 σ st (blockW 0 (thenW prog d c104_8 Q)):=
 cb_ H53 (fun g'1=>W.reg0 rfl fun _ _=>m_ ((h.1 g'1).elim fun r'2 e'9=>e'9.elim fun b'8 e'4=>cX_ (sec H0 (sec rfl sen)) e'4.1 (Nat.lt_succ_of_lt hkp) BP (fun st'5 hb'6 hf'7=>e_ (w104_4 hQ hkp hb'6 (Fr.pass FR hf'7) e'4.2)))) (fun g'1=>q_ rfl (f_ H3 (l_ rfl B0 rfl rfl (b_ rfl rfl eql_ (m_ (e_ (w104_6 hQ hkp H0 H3 H5 rfl B0 BP FR (h.2 g'1))))))))
theorem w104_3 {ends5:List UInt8}{t42:Bool}{m0:Val}{mP:List UInt8}{v0:Nat}(H0:σ 0 = .p kp vp 0)(H3:σ 3 = .p (d,0) v0 0)(H5:σ 5 = .s ends5)(H42:σ 42 = .b t42)(B0:lk st.bx (d,0) = some (v0,[.i .u8 m0.kind,.i .i64 m0.int,.s m0.text,.sl .ext (List.map Val.row m0.list),.b m0.cut]))(BP:Bl mP st.bx st.ow kp vp)(FR:Fr d kp st0.bx st0.ow st.bx st.ow)(h:T104_3 prog K ends5 t42 m0 mP):W prog d c104_7 σ st (blockW 0 (thenW prog d c104_8 Q)):=
 cb_ H42 (fun g'1=>W.reg0 rfl fun _ _=>m_ ((h.1 g'1).elim fun r'2 e'9=>e'9.elim fun b'8 e'4=>cX_ (sec H0 (sec rfl sen)) e'4.1 (Nat.lt_succ_of_lt hkp) BP (fun st'5 hb'6 hf'7=>e_ (w104_4 hQ hkp hb'6 (Fr.pass FR hf'7) e'4.2)))) (fun g'1=>q_ rfl (f_ H3 (l_ rfl B0 rfl rfl (b_ rfl rfl eql_ (m_ (e_ (w104_5 hQ hkp H0 H3 H5 rfl B0 BP FR (h.2 g'1))))))))
theorem w104_2 {ends5:List UInt8}{m0:Val}{mP:List UInt8}{v0:Nat}(H0:σ 0 = .p kp vp 0)(H3:σ 3 = .p (d,0) v0 0)(H5:σ 5 = .s ends5)(B0:lk st.bx (d,0) = some (v0,[.i .u8 m0.kind,.i .i64 m0.int,.s m0.text,.sl .ext (List.map Val.row m0.list),.b m0.cut]))(BP:Bl mP st.bx st.ow kp vp)(FR:Fr d kp st0.bx st0.ow st.bx st.ow)(h:T104_2 prog K ends5 m0 mP):W prog d c104_9 σ st Q:=
 sq_ (bk_ (q_ rfl (f_ H3 (l_ rfl B0 rfl rfl (b_ rfl rfl eql_ (s_mvB rfl (em_ (g:=46) rfl (fun g'1=>gy_ rfl (f_ H3 (gy_ rfl (l_ rfl B0 rfl rfl (gy_ rfl (b_ rfl rfl eql_ (pt_ rfl rfl (s_mvB rfl (e_ (w104_3 hQ hkp H0 H3 H5 rfl B0 BP FR (h.1 g'1))))))))))) (fun g'1=>gn_ (b:=false) rfl rfl (gn_ (b:=false) rfl rfl (gn_ (b:=false) rfl rfl (pf_ rfl rfl (s_mvB rfl (e_ (w104_3 hQ hkp H0 H3 H5 rfl B0 BP FR (h.2 g'1)))))))))))))))
theorem w104_1 {m0:Val}{mP:List UInt8}{v0:Nat}(H0:σ 0 = .p kp vp 0)(H3:σ 3 = .p (d,0) v0 0)(B0:lk st.bx (d,0) = some (v0,[.i .u8 m0.kind,.i .i64 m0.int,.s m0.text,.sl .ext (List.map Val.row m0.list),.b m0.cut]))(BP:Bl mP st.bx st.ow kp vp)(FR:Fr d kp st0.bx st0.ow st.bx st.ow)(h:T104_1 prog K m0 mP):W prog d c104_10 σ st Q:=
 q_ rfl (s_buildM (f:=AV.s) (l:=[[],[],[],[],[],([123,125]:List UInt8),([91,93]:List UInt8),([60,62]:List UInt8)]) (f_cons rfl rfl (f_cons rfl rfl (f_cons rfl rfl f_nil))) rfl (f_ H3 (l_ rfl B0 rfl rfl (h.2.elim fun c'1 e'2=>s_ixA (f:=AV.s) rfl rfl rfl h.1 e'2.1 (m_ (e_ (w104_2 hQ hkp H0 H3 rfl B0 BP FR e'2.2)))))))
theorem w104_0 {v1:Val}{mP:List UInt8}(H0:σ 0 = .p kp vp 0)(H1:σ 1 = v1.av)(BP:Bl mP st.bx st.ow kp vp)(FR:Fr d kp st0.bx st0.ow st.bx st.ow)(h:T104_0 prog K v1 mP):W prog d (.seq (.reg 0 r104_0) c104_10) σ st Q:=
 q_ rfl (s_box H1 rfl (m_ (e_ (w104_1 hQ hkp H0 rfl lk_here (Bl.other (key_LP hkp) BP) (Fr.box FR) h))))
end
theorem p104 {prog:Prog}(hf:prog.fn 104 = some pf104){v1:Val}{mP:List UInt8}{K:Int→List UInt8→Prop}(h:T104_0 prog K v1 mP):PuXK prog 104 (Bl mP) [v1.av] (fun r (b_:List UInt8)=>∃res0:Int,(r = .i .i64 res0)∧K res0 b_) (fun b_=>(Bl b_)):=
  PuXK.of hf rfl (fun _=>Bl.out) fun d st kp vp hkp hB=>w104_0 (st0:=st) (Q:=fun e σ st'=>(e = .normal∨e = .ret)∧∃r b_,ares σ st' pf104.res = some r∧_∧_∧Fr d kp st.bx st.ow st'.bx st'.ow) (fun σ st'   res0 b_ H4 hb hf hk=>⟨.inr rfl,.i .i64 res0,b_,by simp only [pf104,ares,aresL,H4,ares1,Option.map_some,H4],⟨res0,rfl,hk⟩,hb,hf⟩) hkp (σ:=sl0 [.p kp vp 0,v1.av]) rfl rfl hB Fr.refl h
abbrev H106 (Q:AE→Sl→St→Prop)(K:List UInt8→Prop):Prop:=∀(σ:Sl)(st:St)(res0:List UInt8),σ 2 = .s res0→K res0→Q .ret σ st
section
variable {prog:Prog}{d:Nat}{Q:AE→Sl→St→Prop}{K:List UInt8→Prop}(hQ:H106 Q K){σ:Sl}{st:St}
include hQ
end
def r109_0:List AI:=[oO 2 (.box 5 (.t 0)),
 oC 4 (.i .i64 0),
 oC 5 (.b false)]
def r109_1:List AI:=[oF 15 0 2,
 oL 16 15,
 oO 17 (.build [.i .u8 0,.i .i64 0,.s [],.sl .full [],.b false] [(0,1,(.t 16))]),
 oO 6 (.alloc [.i .u8 0,.i .i64 0,.s [],.sl .full [],.b false]),
 oS 5 6 17,
 oC 7 (.i .i64 0),
 oC 8 (.i .i64 0)]
def r109_2:List AI:=[oF 18 0 2,
 oL 19 18]
def r109_3:List AI:=[oB 21 .eql (.t 19) (.c (.i .u8 1)),
 oM 20 21]
def r109_4:List AI:=[oF 22 1 2,
 oL 23 22,
 oB 24 .and (.t 23) (.c (.i .i64 1)),
 oF 25 1 6,
 oS 1 25 24]
def r109_5:List AI:=[oB 27 .eql (.t 19) (.c (.i .u8 2)),
 oM 26 27]
def r109_6:List AI:=[oF 28 1 2,
 oL 29 28,
 oF 30 1 6,
 oS 1 30 29]
def r109_7:List AI:=[oB 32 .eql (.t 19) (.c (.i .u8 3)),
 oM 31 32]
def r109_8:List AI:=[oF 33 2 2,
 oL 34 33,
 oF 35 2 6,
 oS 1 35 34]
def r109_9:List AI:=[oB 37 .eql (.t 19) (.c (.i .u8 4)),
 oM 36 37]
def r109_10:List AI:=[oF 38 4 2,
 oL 39 38,
 oF 40 4 6,
 oS 1 40 39,
 oC 7 (.i .i64 1)]
def r109_11:List AI:=[oB 42 .eql (.t 19) (.c (.i .u8 5)),
 oM 41 42]
def r109_12:List AI:=[oC 7 (.i .i64 8)]
def r109_13:List AI:=[oB 44 .eql (.t 19) (.c (.i .u8 6)),
 oM 43 44]
def r109_14:List AI:=[oC 7 (.i .i64 16),
 oC 8 (.i .i64 1)]
def r109_15:List AI:=[oB 46 .eql (.t 19) (.c (.i .u8 7)),
 oM 45 46]
def r109_16:List AI:=[oF 47 4 2,
 oL 48 47,
 oF 49 4 6,
 oS 1 49 48,
 oC 7 (.i .i64 16)]
def r109_17:List AI:=[oC 4 (.i .i64 0),
 oC 5 (.b false)]
def r109_18:List AI:=[oF 50 3 2,
 oL 51 50,
 oO 52 (.len false (.t 51)),
 oM 9 52]
def r109_19:List AI:=[oM 53 1,
 oB 54 .eql (.t 53) (.c (.i .i64 0)),
 oM 55 54,
 oG 56 (.fad 1 (.t 6)) 55 false,
 oG 57 (.load 1 false (.t 56)) 55 false,
 oG 58 (.fad 1 (.t 2)) 55 false,
 oG 59 (.load 1 false (.t 58)) 55 false,
 oG 60 (.bin .neq (.t 57) (.t 59)) 55 false,
 oO 61 (.pick (.t 55) (.c (.b true)) (.t 60)),
 oM 62 61,
 oG 63 (.fad 2 (.t 6)) 62 false,
 oG 64 (.load 1 false (.t 63)) 62 false,
 oG 65 (.fad 2 (.t 2)) 62 false,
 oG 66 (.load 1 false (.t 65)) 62 false,
 oG 67 (.bin .neq (.t 64) (.t 66)) 62 false,
 oO 68 (.pick (.t 62) (.c (.b true)) (.t 67)),
 oM 69 68,
 oG 70 (.fad 2 (.t 2)) 69 false,
 oG 71 (.load 1 false (.t 70)) 69 false,
 oG 72 (.len true (.t 71)) 69 false,
 oG 73 (.bin .gtr (.t 72) (.c (.i .i64 64))) 69 false,
 oO 74 (.pick (.t 69) (.c (.b true)) (.t 73)),
 oM 75 74,
 oG 76 (.fad 4 (.t 6)) 75 false,
 oG 77 (.load 1 false (.t 76)) 75 false,
 oG 78 (.fad 4 (.t 2)) 75 false,
 oG 79 (.load 1 false (.t 78)) 75 false,
 oG 80 (.beq true (.t 77) (.t 79)) 75 false,
 oO 81 (.pick (.t 75) (.c (.b true)) (.t 80)),
 oM 82 81,
 oG 83 (.fad 4 (.t 2)) 82 false,
 oG 84 (.load 1 false (.t 83)) 82 false,
 oG 85 (.mv (.t 84)) 82 false,
 oG 86 (.mv (.t 9)) 85 true,
 oG 87 (.bin .gtr (.t 86) (.c (.i .i64 0))) 85 true,
 oG 88 (.pick (.t 85) (.t 87) (.c (.b false))) 82 false,
 oO 89 (.pick (.t 82) (.c (.b true)) (.t 88)),
 oM 90 89,
 oG 91 (.mv (.t 9)) 90 false,
 oG 92 (.mv (.t 7)) 90 false,
 oG 93 (.bin .gtr (.t 91) (.t 92)) 90 false,
 oO 94 (.pick (.t 90) (.c (.b true)) (.t 93)),
 oM 95 94,
 oG 96 (.mv (.t 9)) 95 false,
 oG 97 (.mv (.t 8)) 95 false,
 oG 98 (.bin .lss (.t 96) (.t 97)) 95 false,
 oO 99 (.pick (.t 95) (.c (.b true)) (.t 98))]
def r109_20:List AI:=[oC 4 (.i .i64 0),
 oC 5 (.b false)]
def r109_21:List AI:=[oC 10 (.i .i64 1)]
def r109_22:List AI:=[oF 100 3 2,
 oL 101 100,
 oO 102 (.len false (.t 101)),
 oC 103 (.i .i64 0)]
def r109_23:List AI:=[oB 104 .lss (.t 103) (.t 102)]
def r109_24:List AI:=[oO 105 (.iaL 5 (.t 101) (.t 103)),
 oO 106 (.load 5 true (.t 105)),
 oO 12 (.alloc [.i .u8 0,.i .i64 0,.s [],.sl .full [],.b false]),
 oS 5 12 106]
def r109_25:List AI:=[oO 108 (.load 5 true (.t 12)),
 oM 109 1,
 oB 110 .sub (.t 109) (.c (.i .i64 1)),
 oO 111 (.call false 109 [(.t 108),(.t 110)]),
 oM 107 111,
 oE 112 0 107,
 oE 113 1 107,
 oM 13 112,
 oM 14 113]
def r109_26:List AI:=[oM 114 10,
 oM 115 13,
 oB 116 .add (.t 114) (.t 115),
 oM 10 116]
def r109_27:List AI:=[oM 117 14,
 oO 118 (.un .not (.t 117)),
 oM 119 118,
 oG 120 (.mv (.t 10)) 119 false,
 oG 121 (.bin .gtr (.t 120) (.c (.i .i64 5000))) 119 false,
 oO 122 (.pick (.t 119) (.c (.b true)) (.t 121))]
def r109_28:List AI:=[oC 4 (.i .i64 0),
 oC 5 (.b false)]
def r109_29:List AI:=[oB 123 .add (.t 103) (.c (.i .i64 1)),
 oM 103 123]
def r109_30:List AI:=[oM 124 10,
 oM 4 124,
 oC 5 (.b true)]
abbrev l109_0:AC:=(.seq (.reg 23 r109_23) (.seq (.cond (.t 104) .skip (.exit 1)) (.seq (.block 2 (.seq (.reg 24 r109_24) (.seq (.reg 25 r109_25) (.seq (.reg 26 r109_26) (.seq (.reg 27 r109_27) (.cond (.t 122) (.seq (.reg 28 r109_28) .ret) .skip)))))) (.reg 29 r109_29))))
abbrev c109_1:AC:=(.seq (.reg 30 r109_30) .ret)
abbrev c109_2:AC:=(.seq (.seq (.reg 19 r109_19) (.cond (.t 99) (.seq (.reg 20 r109_20) .ret) .skip)) (.seq (.reg 21 r109_21) (.seq (.seq (.reg 22 r109_22) (.block 1 (.loop l109_0))) c109_1)))
abbrev c109_3:AC:=(.seq (.reg 18 r109_18) c109_2)
abbrev c109_4:AC:=(.seq (.seq (.reg 2 r109_2) (.block 0 (.seq (.reg 4 r109_3) (.cond (.t 20) (.reg 5 r109_4) (.seq (.reg 6 r109_5) (.cond (.t 26) (.reg 7 r109_6) (.seq (.reg 8 r109_7) (.cond (.t 31) (.reg 9 r109_8) (.seq (.reg 10 r109_9) (.cond (.t 36) (.reg 11 r109_10) (.seq (.reg 12 r109_11) (.cond (.t 41) (.reg 13 r109_12) (.seq (.reg 14 r109_13) (.cond (.t 43) (.reg 15 r109_14) (.seq (.reg 16 r109_15) (.cond (.t 45) (.reg 17 r109_16) (.seq (.reg 3 r109_17) .ret))))))))))))))))) c109_3)
abbrev c109_5:AC:=(.seq (.reg 1 r109_1) c109_4)
abbrev b109:AC:=(.seq (.reg 0 r109_0) c109_5)
def pf109:AF:={ nt:=125,res:=[.tmp 4,.tmp 5],body:=b109 }
abbrev H109 (Q:AE→Sl→St→Prop)(K:Int→Bool→Prop):Prop:=∀(σ:Sl)(st:St)(res0:Int)(res1:Bool),σ 4 = .i .i64 res0→σ 5 = .b res1→K res0 res1→Q .ret σ st
abbrev I109_0 (prog:Prog)(d:Nat)(Q:AE→Sl→St→Prop)(nest1:Int)(t101:List Val)(t102:Int)(sum10:Int)(t103:Int):Prop:=
  ∀(σ:Sl)(st:St)(o_t101:Own),σ 1 = .i .i64 nest1→σ 10 = .i .i64 sum10→σ 101 = .sl o_t101 (List.map Val.row t101)→σ 102 = .i .i64 t102→σ 103 = .i .i64 t103→W prog d (.loop l109_0) σ st (blockW 1 (thenW prog d c109_1 Q))
def T109_6 (prog:Prog)(K:Int→Bool→Prop)(sum10:Int):Prop:=
  K sum10 true
def T109_5 (prog:Prog)(K:Int→Bool→Prop)(P0:Int→Int→Prop)(nest1:Int)(sum10:Int)(t101:List Val)(t102:Int)(t103:Int):Prop:=
  (t103 < t102→0≤t103∧∃c'2:Val,t101[(t103).toNat]? = some c'2∧∃r'4:Int,∃r'5:Bool,Pus prog 109 [c'2.av,.i .i64 (IntKind.i64.wrap (nest1 - 1))] (.tup [.i .i64 r'4,.b r'5])∧((!r'5) = true→K 0 false)∧((!r'5) = false→((IntKind.i64.wrap (sum10 + r'4)) > 5000→K 0 false)∧(¬((IntKind.i64.wrap (sum10 + r'4)) > 5000)→P0 (IntKind.i64.wrap (sum10 + r'4)) (IntKind.i64.wrap (t103 + 1)))))∧(¬(t103 < t102)→T109_6 prog K sum10)
def T109_4 (prog:Prog)(K:Int→Bool→Prop)(nest1:Int)(most7:Int)(least8:Int)(n9:Int)(m0:Val)(m4099:Val):Prop:=
  (nest1 = 0→K 0 false)∧(¬(nest1 = 0)→(m4099.int≠m0.int→K 0 false)∧(¬(m4099.int≠m0.int)→(m4099.text≠m0.text→K 0 false)∧(¬(m4099.text≠m0.text)→((m0.text.length:Int) > 64→K 0 false)∧(¬((m0.text.length:Int) > 64)→(m4099.cut≠m0.cut→K 0 false)∧(¬(m4099.cut≠m0.cut)→(m0.cut = true→(n9 > 0→K 0 false)∧(¬(n9 > 0)→(n9 > most7→K 0 false)∧(¬(n9 > most7)→(n9 < least8→K 0 false)∧(¬(n9 < least8)→∀P0:Int→Int→Prop,(∀(sum10:Int)(t103:Int),T109_5 prog K P0 nest1 sum10 m0.list (m0.list.length:Int) t103→P0 sum10 t103)→P0 1 0))))∧(m0.cut = false→(n9 > most7→K 0 false)∧(¬(n9 > most7)→(n9 < least8→K 0 false)∧(¬(n9 < least8)→∀P0:Int→Int→Prop,(∀(sum10:Int)(t103:Int),T109_5 prog K P0 nest1 sum10 m0.list (m0.list.length:Int) t103→P0 sum10 t103)→P0 1 0))))))))
def T109_3 (prog:Prog)(K:Int→Bool→Prop)(nest1:Int)(most7:Int)(least8:Int)(m0:Val)(m4099:Val):Prop:=
  T109_4 prog K nest1 most7 least8 (m0.list.length:Int) m0 m4099
def T109_2 (prog:Prog)(K:Int→Bool→Prop)(nest1:Int)(most7:Int)(least8:Int)(m0:Val)(m4099:Val):Prop:=
  (m0.kind = 1→T109_3 prog K nest1 most7 least8 m0 (Val.mk m4099.kind (bAnd .i64 m0.int 1) m4099.text m4099.list m4099.cut))∧(¬(m0.kind = 1)→(m0.kind = 2→T109_3 prog K nest1 most7 least8 m0 (Val.mk m4099.kind m0.int m4099.text m4099.list m4099.cut))∧(¬(m0.kind = 2)→(m0.kind = 3→T109_3 prog K nest1 most7 least8 m0 (Val.mk m4099.kind m4099.int m0.text m4099.list m4099.cut))∧(¬(m0.kind = 3)→(m0.kind = 4→T109_3 prog K nest1 1 least8 m0 (Val.mk m4099.kind m4099.int m4099.text m4099.list m0.cut))∧(¬(m0.kind = 4)→(m0.kind = 5→T109_3 prog K nest1 8 least8 m0 m4099)∧(¬(m0.kind = 5)→(m0.kind = 6→T109_3 prog K nest1 16 1 m0 m4099)∧(¬(m0.kind = 6)→(m0.kind = 7→T109_3 prog K nest1 16 least8 m0 (Val.mk m4099.kind m4099.int m4099.text m4099.list m0.cut))∧(¬(m0.kind = 7)→K 0 false)))))))
def T109_1 (prog:Prog)(K:Int→Bool→Prop)(nest1:Int)(m0:Val):Prop:=
  T109_2 prog K nest1 0 0 m0 (Val.mk m0.kind 0 [] ([]:List Val) false)
def T109_0 (prog:Prog)(K:Int→Bool→Prop)(v0:Val)(nest1:Int):Prop:=
  T109_1 prog K nest1 v0
section
variable {prog:Prog}{d:Nat}{Q:AE→Sl→St→Prop}{K:Int→Bool→Prop}(hQ:H109 Q K){σ:Sl}{st:St}
include hQ
theorem w109_6 {sum10:Int}(H10:σ 10 = .i .i64 sum10)(h:T109_6 prog K sum10):W prog d c109_1 σ st Q:=
 q_ rfl (m_ (m_ (m_ (e_ (rt_ (hQ _ _ _ _ H10 rfl h))))))
theorem w109_5 {nest1 sum10:Int}{t101:List Val}{t102 t103:Int}{P0:Int→Int→Prop} (kP0 :∀(sum10:Int)(t103:Int),P0 sum10 t103→I109_0 prog d Q nest1 t101 t102 sum10 t103){o_t101:Own}(H1:σ 1 = .i .i64 nest1)(H10:σ 10 = .i .i64 sum10)(H101:σ 101 = .sl o_t101 (List.map Val.row t101))(H102:σ 102 = .i .i64 t102)(H103:σ 103 = .i .i64 t103)(h:T109_5 prog K P0 nest1 sum10 t101 t102 t103):W prog d l109_0 σ st (thenW prog d (.loop l109_0) (blockW 1 (thenW prog d c109_1 Q))):=
 q_ rfl (b_ H103 H102 lss_ (e_ (sq_ (cs_ rfl (fun g'1=>sk_ (sq_ (bk_ (sq_ (W.reg ((h.1 g'1).2.elim fun c'2 e'3=>ia_ H101 H103 (h.1 g'1).1 e'3.1 (Val.row_eq c'2) rfl (lf_ rfl rfl rfl (s_alloc (so_ rfl (show lk _ (d,98306) = some (_,([.i .u8 0,.i .i64 0,.s [],.sl .full (List.map Val.row ([]:List Val)),.b false]:List AV)) from lk_here) rfl rfl rfl (e_ (q_ rfl (l_ rfl lk_here rfl rfl (m_ (b_ H1 rfl sub_ (e'3.2.elim fun r'4 e'9=>e'9.elim fun r'5 e'6=>ca_ (sc rfl rfl (sc rfl rfl sn)) e'6.1 (m_ (x_ rfl rfl (x_ rfl rfl (m_ (m_ (e_ (q_ rfl (m_ (m_ (b_ H10 rfl add_ (m_ (e_ (q_ rfl (s_mvB rfl (nt_ rfl (s_mvB rfl (eb_ (g:=119) rfl (fun g'7=>gn_ (b:=true) rfl rfl (gn_ (b:=true) rfl rfl (pt_ rfl rfl (e_ (ct_ rfl (q_ rfl (m_ (m_ (e_ (rt_ (hQ _ _ _ _ rfl rfl (e'6.2.1 g'7)))))))))))) (fun g'7=>gy_ rfl (s_mvI rfl (gy_ rfl (b_ rfl rfl gtr_ (pf_ rfl rfl (e_ (cs_ rfl (fun g'8=>q_ rfl (m_ (m_ (e_ (rt_ (hQ _ _ _ _ rfl rfl ((e'6.2.2 g'7).1 g'8))))))) (fun g'8=>sk_ (W.reg0 rfl fun _ _=>b_ H103 rfl add_ (m_ (e_ (kP0 _ _ ((e'6.2.2 g'7).2 g'8) _ _ _ H1 rfl H101 H102 rfl)))))))))))))))))))))))))))))))))))))))))))) (fun g'1=>ex_ (w109_6 hQ H10 (h.2 g'1)))))))
theorem w109_4 {nest1 most7 least8 n9:Int}{m0 m4099:Val}{o_m4099_3:Own}{v0:Nat}{v4099:Nat}(H1:σ 1 = .i .i64 nest1)(H2:σ 2 = .p (d,0) v0 0)(H6:σ 6 = .p (d,4099) v4099 0)(H7:σ 7 = .i .i64 most7)(H8:σ 8 = .i .i64 least8)(H9:σ 9 = .i .i64 n9)(Ab4099:ApM d st.ow o_m4099_3 m4099.list.length)(B0:lk st.bx (d,0) = some (v0,[.i .u8 m0.kind,.i .i64 m0.int,.s m0.text,.sl .ext (List.map Val.row m0.list),.b m0.cut]))(B4099:lk st.bx (d,4099) = some (v4099,[.i .u8 m4099.kind,.i .i64 m4099.int,.s m4099.text,.sl o_m4099_3 (List.map Val.row m4099.list),.b m4099.cut]))(h:T109_4 prog K nest1 most7 least8 n9 m0 m4099):W prog d c109_2 σ st Q:=
 sq_ (q_ rfl (s_mvI H1 (b_ rfl rfl eql_ (s_mvB rfl (em_ (g:=55) rfl (fun g'1=>gn_ (b:=true) rfl rfl (gn_ (b:=true) rfl rfl (gn_ (b:=true) rfl rfl (gn_ (b:=true) rfl rfl (gn_ (b:=true) rfl rfl (pt_ rfl rfl (s_mvB rfl (gn_ (b:=true) rfl rfl (gn_ (b:=true) rfl rfl (gn_ (b:=true) rfl rfl (gn_ (b:=true) rfl rfl (gn_ (b:=true) rfl rfl (pt_ rfl rfl (s_mvB rfl (gn_ (b:=true) rfl rfl (gn_ (b:=true) rfl rfl (gn_ (b:=true) rfl rfl (gn_ (b:=true) rfl rfl (pt_ rfl rfl (s_mvB rfl (gn_ (b:=true) rfl rfl (gn_ (b:=true) rfl rfl (gn_ (b:=true) rfl rfl (gn_ (b:=true) rfl rfl (gn_ (b:=true) rfl rfl (pt_ rfl rfl (s_mvB rfl (gn_ (b:=true) rfl rfl (gn_ (b:=true) rfl rfl (gn_ (b:=true) rfl rfl (gt_ rfl (gt_ rfl (gn_ (b:=true) rfl rfl (pt_ rfl rfl (s_mvB rfl (gn_ (b:=true) rfl rfl (gn_ (b:=true) rfl rfl (gn_ (b:=true) rfl rfl (pt_ rfl rfl (s_mvB rfl (gn_ (b:=true) rfl rfl (gn_ (b:=true) rfl rfl (gn_ (b:=true) rfl rfl (pt_ rfl rfl (e_ (ct_ rfl (q_ rfl (m_ (m_ (e_ (rt_ (hQ _ _ _ _ rfl rfl (h.1 g'1))))))))))))))))))))))))))))))))))))))))))))))))))))) (fun g'1=>gy_ rfl (f_ H6 (gy_ rfl (l_ rfl B4099 rfl rfl (gy_ rfl (f_ H2 (gy_ rfl (l_ rfl B0 rfl rfl (gy_ rfl (b_ rfl rfl neq_ (pf_ rfl rfl (s_mvB rfl (em_ (g:=62) rfl (fun g'2=>gn_ (b:=true) rfl rfl (gn_ (b:=true) rfl rfl (gn_ (b:=true) rfl rfl (gn_ (b:=true) rfl rfl (gn_ (b:=true) rfl rfl (pt_ rfl rfl (s_mvB rfl (gn_ (b:=true) rfl rfl (gn_ (b:=true) rfl rfl (gn_ (b:=true) rfl rfl (gn_ (b:=true) rfl rfl (pt_ rfl rfl (s_mvB rfl (gn_ (b:=true) rfl rfl (gn_ (b:=true) rfl rfl (gn_ (b:=true) rfl rfl (gn_ (b:=true) rfl rfl (gn_ (b:=true) rfl rfl (pt_ rfl rfl (s_mvB rfl (gn_ (b:=true) rfl rfl (gn_ (b:=true) rfl rfl (gn_ (b:=true) rfl rfl (gt_ rfl (gt_ rfl (gn_ (b:=true) rfl rfl (pt_ rfl rfl (s_mvB rfl (gn_ (b:=true) rfl rfl (gn_ (b:=true) rfl rfl (gn_ (b:=true) rfl rfl (pt_ rfl rfl (s_mvB rfl (gn_ (b:=true) rfl rfl (gn_ (b:=true) rfl rfl (gn_ (b:=true) rfl rfl (pt_ rfl rfl (e_ (ct_ rfl (q_ rfl (m_ (m_ (e_ (rt_ (hQ _ _ _ _ rfl rfl ((h.2 g'1).1 g'2)))))))))))))))))))))))))))))))))))))))))))))) (fun g'2=>gy_ rfl (f_ H6 (gy_ rfl (l_ rfl B4099 rfl rfl (gy_ rfl (f_ H2 (gy_ rfl (l_ rfl B0 rfl rfl (gy_ rfl (b_ rfl rfl sne_ (pf_ rfl rfl (s_mvB rfl (em_ (g:=69) rfl (fun g'3=>gn_ (b:=true) rfl rfl (gn_ (b:=true) rfl rfl (gn_ (b:=true) rfl rfl (gn_ (b:=true) rfl rfl (pt_ rfl rfl (s_mvB rfl (gn_ (b:=true) rfl rfl (gn_ (b:=true) rfl rfl (gn_ (b:=true) rfl rfl (gn_ (b:=true) rfl rfl (gn_ (b:=true) rfl rfl (pt_ rfl rfl (s_mvB rfl (gn_ (b:=true) rfl rfl (gn_ (b:=true) rfl rfl (gn_ (b:=true) rfl rfl (gt_ rfl (gt_ rfl (gn_ (b:=true) rfl rfl (pt_ rfl rfl (s_mvB rfl (gn_ (b:=true) rfl rfl (gn_ (b:=true) rfl rfl (gn_ (b:=true) rfl rfl (pt_ rfl rfl (s_mvB rfl (gn_ (b:=true) rfl rfl (gn_ (b:=true) rfl rfl (gn_ (b:=true) rfl rfl (pt_ rfl rfl (e_ (ct_ rfl (q_ rfl (m_ (m_ (e_ (rt_ (hQ _ _ _ _ rfl rfl (((h.2 g'1).2 g'2).1 g'3))))))))))))))))))))))))))))))))))))))) (fun g'3=>gy_ rfl (f_ H2 (gy_ rfl (l_ rfl B0 rfl rfl (gy_ rfl (ln_ rfl (gy_ rfl (b_ rfl rfl gtr_ (pf_ rfl rfl (s_mvB rfl (em_ (g:=75) rfl (fun g'4=>gn_ (b:=true) rfl rfl (gn_ (b:=true) rfl rfl (gn_ (b:=true) rfl rfl (gn_ (b:=true) rfl rfl (gn_ (b:=true) rfl rfl (pt_ rfl rfl (s_mvB rfl (gn_ (b:=true) rfl rfl (gn_ (b:=true) rfl rfl (gn_ (b:=true) rfl rfl (gt_ rfl (gt_ rfl (gn_ (b:=true) rfl rfl (pt_ rfl rfl (s_mvB rfl (gn_ (b:=true) rfl rfl (gn_ (b:=true) rfl rfl (gn_ (b:=true) rfl rfl (pt_ rfl rfl (s_mvB rfl (gn_ (b:=true) rfl rfl (gn_ (b:=true) rfl rfl (gn_ (b:=true) rfl rfl (pt_ rfl rfl (e_ (ct_ rfl (q_ rfl (m_ (m_ (e_ (rt_ (hQ _ _ _ _ rfl rfl ((((h.2 g'1).2 g'2).2 g'3).1 g'4))))))))))))))))))))))))))))))))) (fun g'4=>gy_ rfl (f_ H6 (gy_ rfl (l_ rfl B4099 rfl rfl (gy_ rfl (f_ H2 (gy_ rfl (l_ rfl B0 rfl rfl (gy_ rfl (s_bne rfl rfl (pf_ rfl rfl (s_mvB rfl (em_ (g:=82) rfl (fun g'5=>gn_ (b:=true) rfl rfl (gn_ (b:=true) rfl rfl (gn_ (b:=true) rfl rfl (gt_ rfl (gt_ rfl (gn_ (b:=true) rfl rfl (pt_ rfl rfl (s_mvB rfl (gn_ (b:=true) rfl rfl (gn_ (b:=true) rfl rfl (gn_ (b:=true) rfl rfl (pt_ rfl rfl (s_mvB rfl (gn_ (b:=true) rfl rfl (gn_ (b:=true) rfl rfl (gn_ (b:=true) rfl rfl (pt_ rfl rfl (e_ (ct_ rfl (q_ rfl (m_ (m_ (e_ (rt_ (hQ _ _ _ _ rfl rfl (((((h.2 g'1).2 g'2).2 g'3).2 g'4).1 g'5)))))))))))))))))))))))))) (fun g'5=>gy_ rfl (f_ H2 (gy_ rfl (l_ rfl B0 rfl rfl (gy_ rfl (s_mvB rfl (eb_ (g:=85) rfl (fun g'6=>gy_ rfl (s_mvI H9 (gy_ rfl (b_ rfl rfl gtr_ (gy_ rfl (pt_ rfl rfl (pf_ rfl rfl (s_mvB rfl (em_ (g:=90) rfl (fun g'7=>gn_ (b:=true) rfl rfl (gn_ (b:=true) rfl rfl (gn_ (b:=true) rfl rfl (pt_ rfl rfl (s_mvB rfl (gn_ (b:=true) rfl rfl (gn_ (b:=true) rfl rfl (gn_ (b:=true) rfl rfl (pt_ rfl rfl (e_ (ct_ rfl (q_ rfl (m_ (m_ (e_ (rt_ (hQ _ _ _ _ rfl rfl (((((((h.2 g'1).2 g'2).2 g'3).2 g'4).2 g'5).1 g'6).1 g'7)))))))))))))))))) (fun g'7=>gy_ rfl (s_mvI H9 (gy_ rfl (s_mvI H7 (gy_ rfl (b_ rfl rfl gtr_ (pf_ rfl rfl (s_mvB rfl (em_ (g:=95) rfl (fun g'8=>gn_ (b:=true) rfl rfl (gn_ (b:=true) rfl rfl (gn_ (b:=true) rfl rfl (pt_ rfl rfl (e_ (ct_ rfl (q_ rfl (m_ (m_ (e_ (rt_ (hQ _ _ _ _ rfl rfl ((((((((h.2 g'1).2 g'2).2 g'3).2 g'4).2 g'5).1 g'6).2 g'7).1 g'8))))))))))))) (fun g'8=>gy_ rfl (s_mvI H9 (gy_ rfl (s_mvI H8 (gy_ rfl (b_ rfl rfl lss_ (pf_ rfl rfl (e_ (cs_ rfl (fun g'9=>q_ rfl (m_ (m_ (e_ (rt_ (hQ _ _ _ _ rfl rfl (((((((((h.2 g'1).2 g'2).2 g'3).2 g'4).2 g'5).1 g'6).2 g'7).2 g'8).1 g'9))))))) (fun g'9=>sk_ (q_ rfl (m_ (e_ (sq_ (q_ rfl (f_ H2 (l_ rfl B0 rfl rfl (ll_ rfl (m_ (e_ (bk_ ((((((((((h.2 g'1).2 g'2).2 g'3).2 g'4).2 g'5).1 g'6).2 g'7).2 g'8).2 g'9) (I109_0 prog d Q nest1 m0.list (m0.list.length:Int)) (fun _ _ hb _ _ _ H1 H10 H101 H102 H103=>W.loop (w109_5 hQ (fun _ _ x=>x) H1 H10 H101 H102 H103 hb)) _ _ _ H1 rfl rfl rfl rfl)))))))))))))))))))))))))))))))))))))))) (fun g'6=>gn_ (b:=false) rfl rfl (gn_ (b:=false) rfl rfl (gy_ rfl (pf_ rfl rfl (pf_ rfl rfl (s_mvB rfl (gy_ rfl (s_mvI H9 (gy_ rfl (s_mvI H7 (gy_ rfl (b_ rfl rfl gtr_ (pf_ rfl rfl (s_mvB rfl (em_ (g:=95) rfl (fun g'10=>gn_ (b:=true) rfl rfl (gn_ (b:=true) rfl rfl (gn_ (b:=true) rfl rfl (pt_ rfl rfl (e_ (ct_ rfl (q_ rfl (m_ (m_ (e_ (rt_ (hQ _ _ _ _ rfl rfl (((((((h.2 g'1).2 g'2).2 g'3).2 g'4).2 g'5).2 g'6).1 g'10))))))))))))) (fun g'10=>gy_ rfl (s_mvI H9 (gy_ rfl (s_mvI H8 (gy_ rfl (b_ rfl rfl lss_ (pf_ rfl rfl (e_ (cs_ rfl (fun g'11=>q_ rfl (m_ (m_ (e_ (rt_ (hQ _ _ _ _ rfl rfl ((((((((h.2 g'1).2 g'2).2 g'3).2 g'4).2 g'5).2 g'6).2 g'10).1 g'11))))))) (fun g'11=>sk_ (q_ rfl (m_ (e_ (sq_ (q_ rfl (f_ H2 (l_ rfl B0 rfl rfl (ll_ rfl (m_ (e_ (bk_ (((((((((h.2 g'1).2 g'2).2 g'3).2 g'4).2 g'5).2 g'6).2 g'10).2 g'11) (I109_0 prog d Q nest1 m0.list (m0.list.length:Int)) (fun _ _ hb _ _ _ H1 H10 H101 H102 H103=>W.loop (w109_5 hQ (fun _ _ x=>x) H1 H10 H101 H102 H103 hb)) _ _ _ H1 rfl rfl rfl rfl)))))))))))))))))))))))))))))))))))))))))))))))))))))))))))))))))))))))))))))))))))))))))))))))))))
theorem w109_3 {nest1 most7 least8:Int}{m0 m4099:Val}{o_m4099_3:Own}{v0:Nat}{v4099:Nat}(H1:σ 1 = .i .i64 nest1)(H2:σ 2 = .p (d,0) v0 0)(H6:σ 6 = .p (d,4099) v4099 0)(H7:σ 7 = .i .i64 most7)(H8:σ 8 = .i .i64 least8)(Ab4099:ApM d st.ow o_m4099_3 m4099.list.length)(B0:lk st.bx (d,0) = some (v0,[.i .u8 m0.kind,.i .i64 m0.int,.s m0.text,.sl .ext (List.map Val.row m0.list),.b m0.cut]))(B4099:lk st.bx (d,4099) = some (v4099,[.i .u8 m4099.kind,.i .i64 m4099.int,.s m4099.text,.sl o_m4099_3 (List.map Val.row m4099.list),.b m4099.cut]))(h:T109_3 prog K nest1 most7 least8 m0 m4099):W prog d c109_3 σ st Q:=
 q_ rfl (f_ H2 (l_ rfl B0 rfl rfl (ll_ rfl (m_ (e_ (w109_4 hQ H1 H2 H6 H7 H8 rfl Ab4099 B0 B4099 h))))))
theorem w109_2 {nest1 most7 least8:Int}{m0 m4099:Val}{o_m4099_3:Own}{v0:Nat}{v4099:Nat}(H1:σ 1 = .i .i64 nest1)(H2:σ 2 = .p (d,0) v0 0)(H6:σ 6 = .p (d,4099) v4099 0)(H7:σ 7 = .i .i64 most7)(H8:σ 8 = .i .i64 least8)(Ab4099:ApM d st.ow o_m4099_3 m4099.list.length)(B0:lk st.bx (d,0) = some (v0,[.i .u8 m0.kind,.i .i64 m0.int,.s m0.text,.sl .ext (List.map Val.row m0.list),.b m0.cut]))(B4099:lk st.bx (d,4099) = some (v4099,[.i .u8 m4099.kind,.i .i64 m4099.int,.s m4099.text,.sl o_m4099_3 (List.map Val.row m4099.list),.b m4099.cut]))(h:T109_2 prog K nest1 most7 least8 m0 m4099):W prog d c109_4 σ st Q:=
 sq_ (q_ rfl (f_ H2 (l_ rfl B0 rfl rfl (e_ (bk_ (q_ rfl (b_ rfl rfl eql_ (m_ (e_ (cs_ rfl (fun g'1=>W.reg0 rfl fun _ _=>f_ H2 (l_ rfl B0 rfl rfl (b_ rfl rfl (abin_and _ _ _) (f_ H6 (so_ rfl B4099 rfl rfl rfl (e_ (w109_3 (m4099:=(Val.mk m4099.kind (bAnd .i64 m0.int 1) m4099.text m4099.list m4099.cut)) hQ H1 H2 H6 H7 H8 Ab4099 (lk_other rfl B0) lk_here (h.1 g'1)))))))) (fun g'1=>q_ rfl (b_ rfl rfl eql_ (m_ (e_ (cs_ rfl (fun g'2=>W.reg0 rfl fun _ _=>f_ H2 (l_ rfl B0 rfl rfl (f_ H6 (so_ rfl B4099 rfl rfl rfl (e_ (w109_3 (m4099:=(Val.mk m4099.kind m0.int m4099.text m4099.list m4099.cut)) hQ H1 H2 H6 H7 H8 Ab4099 (lk_other rfl B0) lk_here ((h.2 g'1).1 g'2))))))) (fun g'2=>q_ rfl (b_ rfl rfl eql_ (m_ (e_ (cs_ rfl (fun g'3=>W.reg0 rfl fun _ _=>f_ H2 (l_ rfl B0 rfl rfl (f_ H6 (so_ rfl B4099 rfl rfl rfl (e_ (w109_3 (m4099:=(Val.mk m4099.kind m4099.int m0.text m4099.list m4099.cut)) hQ H1 H2 H6 H7 H8 Ab4099 (lk_other rfl B0) lk_here (((h.2 g'1).2 g'2).1 g'3))))))) (fun g'3=>q_ rfl (b_ rfl rfl eql_ (m_ (e_ (cs_ rfl (fun g'4=>W.reg0 rfl fun _ _=>f_ H2 (l_ rfl B0 rfl rfl (f_ H6 (so_ rfl B4099 rfl rfl rfl (m_ (e_ (w109_3 (m4099:=(Val.mk m4099.kind m4099.int m4099.text m4099.list m0.cut)) hQ H1 H2 H6 rfl H8 Ab4099 (lk_other rfl B0) lk_here ((((h.2 g'1).2 g'2).2 g'3).1 g'4)))))))) (fun g'4=>q_ rfl (b_ rfl rfl eql_ (m_ (e_ (cs_ rfl (fun g'5=>W.reg0 rfl fun _ _=>m_ (e_ (w109_3 hQ H1 H2 H6 rfl H8 Ab4099 B0 B4099 (((((h.2 g'1).2 g'2).2 g'3).2 g'4).1 g'5)))) (fun g'5=>q_ rfl (b_ rfl rfl eql_ (m_ (e_ (cs_ rfl (fun g'6=>W.reg0 rfl fun _ _=>m_ (m_ (e_ (w109_3 hQ H1 H2 H6 rfl rfl Ab4099 B0 B4099 ((((((h.2 g'1).2 g'2).2 g'3).2 g'4).2 g'5).1 g'6))))) (fun g'6=>q_ rfl (b_ rfl rfl eql_ (m_ (e_ (cs_ rfl (fun g'7=>W.reg0 rfl fun _ _=>f_ H2 (l_ rfl B0 rfl rfl (f_ H6 (so_ rfl B4099 rfl rfl rfl (m_ (e_ (w109_3 (m4099:=(Val.mk m4099.kind m4099.int m4099.text m4099.list m0.cut)) hQ H1 H2 H6 rfl H8 Ab4099 (lk_other rfl B0) lk_here (((((((h.2 g'1).2 g'2).2 g'3).2 g'4).2 g'5).2 g'6).1 g'7)))))))) (fun g'7=>q_ rfl (m_ (m_ (e_ (rt_ (hQ _ _ _ _ rfl rfl (((((((h.2 g'1).2 g'2).2 g'3).2 g'4).2 g'5).2 g'6).2 g'7)))))))))))))))))))))))))))))))))))))))))))))))
theorem w109_1 {nest1:Int}{m0:Val}{v0:Nat}(H1:σ 1 = .i .i64 nest1)(H2:σ 2 = .p (d,0) v0 0)(B0:lk st.bx (d,0) = some (v0,[.i .u8 m0.kind,.i .i64 m0.int,.s m0.text,.sl .ext (List.map Val.row m0.list),.b m0.cut]))(h:T109_1 prog K nest1 m0):W prog d c109_5 σ st Q:=
 sq_ (W.reg (f_ H2 (l_ rfl (lk_other rfl B0) rfl rfl (s_build (f_cons rfl rfl f_nil) (s_alloc (so_ rfl (show lk _ (d,4099) = some (_,([.i .u8 0,.i .i64 0,.s [],.sl .full (List.map Val.row ([]:List Val)),.b false]:List AV)) from lk_here) rfl rfl rfl (m_ (m_ (e_ (w109_2 (m4099:=(Val.mk m0.kind 0 [] ([]:List Val) false)) hQ H1 H2 rfl rfl rfl ApM.full (lk_other rfl (lk_other rfl B0)) lk_here h))))))))))
theorem w109_0 {v0:Val}{nest1:Int}(H0:σ 0 = v0.av)(H1:σ 1 = .i .i64 nest1)(h:T109_0 prog K v0 nest1):W prog d (.seq (.reg 0 r109_0) c109_5) σ st Q:=
 q_ rfl (s_box H0 rfl (m_ (m_ (e_ (w109_1 hQ H1 rfl lk_here h)))))
end
theorem p109 {prog:Prog}(hf:prog.fn 109 = some pf109){v0:Val}{nest1:Int}{K:Int→Bool→Prop}(h:T109_0 prog K v0 nest1) :∃res0:Int,∃res1:Bool,K res0 res1∧Pus prog 109 [v0.av,.i .i64 nest1] (.tup [.i .i64 res0,.b res1]):=by
  obtain ⟨v,hv,res0,res1,hk,rfl⟩:=Pus.of (K:=fun v=>∃res0:Int,∃res1:Bool,K res0 res1∧v = .tup [.i .i64 res0,.b res1]) hf rfl (w109_0 (σ:=sl0 [v0.av,.i .i64 nest1]) (fun σ st   res0 res1 H4 H5 hk=>⟨.tup [.i .i64 res0,.b res1],by simp only [pf109,ares,aresL,H4,H5,ares1,Option.map_some],_,rfl,res0,res1,hk,rfl⟩) rfl rfl h)
  exact ⟨res0,res1,hk,hv⟩
def r110_0:List AI:=[oO 2 (.box 5 (.t 0)),
 oC 4 (.b false)]
def r110_1:List AI:=[oM 7 1,
 oB 8 .eql (.t 7) (.c (.i .i64 0))]
def r110_2:List AI:=[oC 4 (.b false)]
def r110_3:List AI:=[oF 9 0 2,
 oL 10 9]
def r110_4:List AI:=[oB 12 .eql (.t 10) (.c (.i .u8 1)),
 oM 11 12]
def r110_5:List AI:=[oO 13 (.load 5 true (.t 2)),
 oO 14 (.call false 136 [(.t 13)]),
 oM 15 14,
 oG 16 (.fad 2 (.t 2)) 15 true,
 oG 17 (.load 1 false (.t 16)) 15 true,
 oG 18 (.bin .eql (.t 17) (.c (.s []))) 15 true,
 oO 19 (.pick (.t 15) (.t 18) (.c (.b false))),
 oM 20 19,
 oG 21 (.fad 1 (.t 2)) 20 true,
 oG 22 (.load 1 false (.t 21)) 20 true,
 oG 23 (.bin .eql (.t 22) (.c (.i .i64 0))) 20 true,
 oG 24 (.mv (.t 23)) 20 true,
 oG 25 (.fad 1 (.t 2)) 24 false,
 oG 26 (.load 1 false (.t 25)) 24 false,
 oG 27 (.bin .eql (.t 26) (.c (.i .i64 1))) 24 false,
 oG 28 (.pick (.t 24) (.c (.b true)) (.t 27)) 20 true,
 oO 29 (.pick (.t 20) (.t 28) (.c (.b false))),
 oM 4 29]
def r110_6:List AI:=[oB 31 .eql (.t 10) (.c (.i .u8 2)),
 oM 30 31]
def r110_7:List AI:=[oO 32 (.load 5 true (.t 2)),
 oO 33 (.call false 136 [(.t 32)]),
 oM 34 33,
 oG 35 (.fad 2 (.t 2)) 34 true,
 oG 36 (.load 1 false (.t 35)) 34 true,
 oG 37 (.bin .eql (.t 36) (.c (.s []))) 34 true,
 oO 38 (.pick (.t 34) (.t 37) (.c (.b false))),
 oM 4 38]
def r110_8:List AI:=[oB 40 .eql (.t 10) (.c (.i .u8 3)),
 oM 39 40]
def r110_9:List AI:=[oO 41 (.load 5 true (.t 2)),
 oO 42 (.call false 136 [(.t 41)]),
 oM 43 42,
 oG 44 (.fad 1 (.t 2)) 43 true,
 oG 45 (.load 1 false (.t 44)) 43 true,
 oG 46 (.bin .eql (.t 45) (.c (.i .i64 0))) 43 true,
 oO 47 (.pick (.t 43) (.t 46) (.c (.b false))),
 oM 48 47,
 oG 49 (.fad 2 (.t 2)) 48 true,
 oG 50 (.load 1 false (.t 49)) 48 true,
 oG 51 (.len true (.t 50)) 48 true,
 oG 52 (.bin .leq (.t 51) (.c (.i .i64 64))) 48 true,
 oO 53 (.pick (.t 48) (.t 52) (.c (.b false))),
 oM 4 53]
def r110_10:List AI:=[oF 54 0 2,
 oL 55 54,
 oB 56 .lss (.t 55) (.c (.i .u8 4)),
 oM 57 56,
 oG 58 (.fad 0 (.t 2)) 57 false,
 oG 59 (.load 1 false (.t 58)) 57 false,
 oG 60 (.bin .gtr (.t 59) (.c (.i .u8 7))) 57 false,
 oO 61 (.pick (.t 57) (.c (.b true)) (.t 60)),
 oM 62 61,
 oG 63 (.fad 1 (.t 2)) 62 false,
 oG 64 (.load 1 false (.t 63)) 62 false,
 oG 65 (.bin .neq (.t 64) (.c (.i .i64 0))) 62 false,
 oO 66 (.pick (.t 62) (.c (.b true)) (.t 65)),
 oM 67 66,
 oG 68 (.fad 2 (.t 2)) 67 false,
 oG 69 (.load 1 false (.t 68)) 67 false,
 oG 70 (.bin .neq (.t 69) (.c (.s []))) 67 false,
 oO 71 (.pick (.t 67) (.c (.b true)) (.t 70))]
def r110_11:List AI:=[oC 4 (.b false)]
def r110_12:List AI:=[oC 5 (.i .i64 16)]
def r110_13:List AI:=[oF 72 0 2,
 oL 73 72,
 oB 74 .eql (.t 73) (.c (.i .u8 4))]
def r110_14:List AI:=[oC 5 (.i .i64 1)]
def r110_15:List AI:=[oF 75 0 2,
 oL 76 75,
 oB 77 .eql (.t 76) (.c (.i .u8 5))]
def r110_16:List AI:=[oC 5 (.i .i64 8)]
def r110_17:List AI:=[oF 78 3 2,
 oL 79 78,
 oO 80 (.len false (.t 79)),
 oM 81 5,
 oB 82 .gtr (.t 80) (.t 81),
 oM 83 82,
 oG 84 (.fad 0 (.t 2)) 83 false,
 oG 85 (.load 1 false (.t 84)) 83 false,
 oG 86 (.bin .eql (.t 85) (.c (.i .u8 6))) 83 false,
 oG 87 (.mv (.t 86)) 83 false,
 oG 88 (.fad 3 (.t 2)) 87 true,
 oG 89 (.load 1 false (.t 88)) 87 true,
 oG 90 (.len false (.t 89)) 87 true,
 oG 91 (.bin .eql (.t 90) (.c (.i .i64 0))) 87 true,
 oG 92 (.pick (.t 87) (.t 91) (.c (.b false))) 83 false,
 oO 93 (.pick (.t 83) (.c (.b true)) (.t 92))]
def r110_18:List AI:=[oC 4 (.b false)]
def r110_19:List AI:=[oF 94 4 2,
 oL 95 94,
 oM 96 95,
 oG 97 (.fad 3 (.t 2)) 96 true,
 oG 98 (.load 1 false (.t 97)) 96 true,
 oG 99 (.len false (.t 98)) 96 true,
 oG 100 (.bin .gtr (.t 99) (.c (.i .i64 0))) 96 true,
 oG 101 (.mv (.t 100)) 96 true,
 oG 102 (.fad 0 (.t 2)) 101 false,
 oG 103 (.load 1 false (.t 102)) 101 false,
 oG 104 (.bin .neq (.t 103) (.c (.i .u8 4))) 101 false,
 oG 105 (.mv (.t 104)) 101 false,
 oG 106 (.fad 0 (.t 2)) 105 true,
 oG 107 (.load 1 false (.t 106)) 105 true,
 oG 108 (.bin .neq (.t 107) (.c (.i .u8 7))) 105 true,
 oG 109 (.pick (.t 105) (.t 108) (.c (.b false))) 101 false,
 oG 110 (.pick (.t 101) (.c (.b true)) (.t 109)) 96 true,
 oO 111 (.pick (.t 96) (.t 110) (.c (.b false)))]
def r110_20:List AI:=[oC 4 (.b false)]
def r110_21:List AI:=[oC 6 (.i .i64 0)]
def r110_22:List AI:=[oM 112 6,
 oF 113 3 2,
 oL 114 113,
 oO 115 (.len false (.t 114)),
 oB 116 .lss (.t 112) (.t 115)]
def r110_23:List AI:=[oF 119 3 2,
 oL 120 119,
 oM 121 6,
 oO 122 (.iaL 5 (.t 120) (.t 121)),
 oO 123 (.load 5 true (.t 122)),
 oM 124 1,
 oB 125 .sub (.t 124) (.c (.i .i64 1)),
 oO 126 (.call false 110 [(.t 123),(.t 125)]),
 oO 127 (.un .not (.t 126))]
def r110_24:List AI:=[oC 4 (.b false)]
def r110_25:List AI:=[oM 117 6,
 oB 118 .add (.t 117) (.c (.i .i64 1)),
 oM 6 118]
def r110_26:List AI:=[oC 4 (.b true)]
abbrev l110_0:AC:=(.seq (.seq (.reg 22 r110_22) (.cond (.t 116) .skip (.exit 1))) (.seq (.block 2 (.seq (.reg 24 r110_23) (.cond (.t 127) (.seq (.reg 25 r110_24) .ret) .skip))) (.reg 23 r110_25)))
abbrev c110_1:AC:=(.seq (.reg 26 r110_26) .ret)
abbrev c110_2:AC:=(.seq (.seq (.reg 17 r110_17) (.cond (.t 93) (.seq (.reg 18 r110_18) .ret) .skip)) (.seq (.seq (.reg 19 r110_19) (.cond (.t 111) (.seq (.reg 20 r110_20) .ret) .skip)) (.seq (.seq (.reg 21 r110_21) (.block 1 (.loop l110_0))) c110_1)))
abbrev c110_3:AC:=(.seq (.seq (.reg 15 r110_15) (.cond (.t 77) (.reg 16 r110_16) .skip)) c110_2)
abbrev c110_4:AC:=(.seq (.seq (.reg 13 r110_13) (.cond (.t 74) (.reg 14 r110_14) .skip)) c110_3)
abbrev c110_5:AC:=(.seq (.reg 12 r110_12) c110_4)
abbrev c110_6:AC:=(.seq (.seq (.reg 10 r110_10) (.cond (.t 71) (.seq (.reg 11 r110_11) .ret) .skip)) c110_5)
abbrev c110_7:AC:=(.seq (.seq (.reg 3 r110_3) (.block 0 (.seq (.reg 4 r110_4) (.cond (.t 11) (.seq (.reg 5 r110_5) .ret) (.seq (.reg 6 r110_6) (.cond (.t 30) (.seq (.reg 7 r110_7) .ret) (.seq (.reg 8 r110_8) (.cond (.t 39) (.seq (.reg 9 r110_9) .ret) .skip)))))))) c110_6)
abbrev c110_8:AC:=(.seq (.seq (.reg 1 r110_1) (.cond (.t 8) (.seq (.reg 2 r110_2) .ret) .skip)) c110_7)
abbrev b110:AC:=(.seq (.reg 0 r110_0) c110_8)
def pf110:AF:={ nt:=128,res:=[.tmp 4],body:=b110 }
abbrev H110 (Q:AE→Sl→St→Prop)(K:Bool→Prop):Prop:=∀(σ:Sl)(st:St)(res0:Bool),σ 4 = .b res0→K res0→Q .ret σ st
abbrev I110_0 (prog:Prog)(d:Nat)(Q:AE→Sl→St→Prop)(deep1:Int)(i6:Int)(m0:Val):Prop:=
  ∀(σ:Sl)(st:St)(v0:Nat),σ 1 = .i .i64 deep1→σ 2 = .p (d,0) v0 0→σ 6 = .i .i64 i6→lk st.bx (d,0) = some (v0,[.i .u8 m0.kind,.i .i64 m0.int,.s m0.text,.sl .ext (List.map Val.row m0.list),.b m0.cut])→W prog d (.loop l110_0) σ st (blockW 1 (thenW prog d c110_1 Q))
def T110_9 (prog:Prog)(K:Bool→Prop) :Prop:=
  K true
def T110_8 (prog:Prog)(K:Bool→Prop)(P0:Int→Val→Prop)(deep1:Int)(i6:Int)(m0:Val):Prop:=
  (i6 < (m0.list.length:Int)→0≤i6∧∃c'2:Val,m0.list[(i6).toNat]? = some c'2∧∃r'4:Bool,Pus prog 110 [c'2.av,.i .i64 (IntKind.i64.wrap (deep1 - 1))] (.b r'4)∧((!r'4) = true→K false)∧((!r'4) = false→P0 (IntKind.i64.wrap (i6 + 1)) m0))∧(¬(i6 < (m0.list.length:Int))→T110_9 prog K )
def T110_7 (prog:Prog)(K:Bool→Prop)(deep1:Int)(most5:Int)(m0:Val):Prop:=
  ((m0.list.length:Int) > most5→K false)∧(¬((m0.list.length:Int) > most5)→(m0.kind = 6→((m0.list.length:Int) = 0→K false)∧(¬((m0.list.length:Int) = 0)→(m0.cut = true→((m0.list.length:Int) > 0→K false)∧(¬((m0.list.length:Int) > 0)→(m0.kind≠4→(m0.kind≠7→K false)∧(¬(m0.kind≠7)→∀P0:Int→Val→Prop,(∀(i6:Int)(m0:Val),T110_8 prog K P0 deep1 i6 m0→P0 i6 m0)→P0 0 m0))∧(¬(m0.kind≠4)→∀P0:Int→Val→Prop,(∀(i6:Int)(m0:Val),T110_8 prog K P0 deep1 i6 m0→P0 i6 m0)→P0 0 m0)))∧(m0.cut = false→∀P0:Int→Val→Prop,(∀(i6:Int)(m0:Val),T110_8 prog K P0 deep1 i6 m0→P0 i6 m0)→P0 0 m0)))∧(¬(m0.kind = 6)→(m0.cut = true→((m0.list.length:Int) > 0→K false)∧(¬((m0.list.length:Int) > 0)→(m0.kind≠4→(m0.kind≠7→K false)∧(¬(m0.kind≠7)→∀P0:Int→Val→Prop,(∀(i6:Int)(m0:Val),T110_8 prog K P0 deep1 i6 m0→P0 i6 m0)→P0 0 m0))∧(¬(m0.kind≠4)→∀P0:Int→Val→Prop,(∀(i6:Int)(m0:Val),T110_8 prog K P0 deep1 i6 m0→P0 i6 m0)→P0 0 m0)))∧(m0.cut = false→∀P0:Int→Val→Prop,(∀(i6:Int)(m0:Val),T110_8 prog K P0 deep1 i6 m0→P0 i6 m0)→P0 0 m0)))
def T110_6 (prog:Prog)(K:Bool→Prop)(deep1:Int)(most5:Int)(m0:Val):Prop:=
  (m0.kind = 5→T110_7 prog K deep1 8 m0)∧(¬(m0.kind = 5)→T110_7 prog K deep1 most5 m0)
def T110_5 (prog:Prog)(K:Bool→Prop)(deep1:Int)(most5:Int)(m0:Val):Prop:=
  (m0.kind = 4→T110_6 prog K deep1 1 m0)∧(¬(m0.kind = 4)→T110_6 prog K deep1 most5 m0)
def T110_4 (prog:Prog)(K:Bool→Prop)(deep1:Int)(m0:Val):Prop:=
  T110_5 prog K deep1 16 m0
def T110_3 (prog:Prog)(K:Bool→Prop)(deep1:Int)(m0:Val):Prop:=
  (m0.kind < 4→K false)∧(¬(m0.kind < 4)→(m0.kind > 7→K false)∧(¬(m0.kind > 7)→(m0.int≠0→K false)∧(¬(m0.int≠0)→(m0.text≠([]:List UInt8)→K false)∧(¬(m0.text≠([]:List UInt8))→T110_4 prog K deep1 m0))))
def T110_2 (prog:Prog)(K:Bool→Prop)(deep1:Int)(m0:Val):Prop:=
  (m0.kind = 1→∃r'2:Bool,Pus prog 136 [m0.av] (.b r'2)∧(r'2 = true→(m0.text = ([]:List UInt8)→(m0.int = 0→K true)∧(¬(m0.int = 0)→K (decide (m0.int = 1))))∧(¬(m0.text = ([]:List UInt8))→K false))∧(r'2 = false→K false))∧(¬(m0.kind = 1)→(m0.kind = 2→∃r'8:Bool,Pus prog 136 [m0.av] (.b r'8)∧(r'8 = true→K (decide (m0.text = ([]:List UInt8))))∧(r'8 = false→K false))∧(¬(m0.kind = 2)→(m0.kind = 3→∃r'12:Bool,Pus prog 136 [m0.av] (.b r'12)∧(r'12 = true→(m0.int = 0→K (decide ((m0.text.length:Int)≤64)))∧(¬(m0.int = 0)→K false))∧(r'12 = false→K false))∧(¬(m0.kind = 3)→T110_3 prog K deep1 m0)))
def T110_1 (prog:Prog)(K:Bool→Prop)(deep1:Int)(m0:Val):Prop:=
  (deep1 = 0→K false)∧(¬(deep1 = 0)→T110_2 prog K deep1 m0)
def T110_0 (prog:Prog)(K:Bool→Prop)(v0:Val)(deep1:Int):Prop:=
  T110_1 prog K deep1 v0
section
variable {prog:Prog}{d:Nat}{Q:AE→Sl→St→Prop}{K:Bool→Prop}(hQ:H110 Q K){σ:Sl}{st:St}
include hQ
theorem w110_9 (h:T110_9 prog K ):W prog d c110_1 σ st Q:=
 q_ rfl (m_ (e_ (rt_ (hQ _ _ _ rfl h))))
theorem w110_8 {deep1 i6:Int}{m0:Val}{P0:Int→Val→Prop} (kP0 :∀(i6:Int)(m0:Val),P0 i6 m0→I110_0 prog d Q deep1 i6 m0){v0:Nat}(H1:σ 1 = .i .i64 deep1)(H2:σ 2 = .p (d,0) v0 0)(H6:σ 6 = .i .i64 i6)(B0:lk st.bx (d,0) = some (v0,[.i .u8 m0.kind,.i .i64 m0.int,.s m0.text,.sl .ext (List.map Val.row m0.list),.b m0.cut]))(h:T110_8 prog K P0 deep1 i6 m0):W prog d l110_0 σ st (thenW prog d (.loop l110_0) (blockW 1 (thenW prog d c110_1 Q))):=
 sq_ (q_ rfl (m_ (f_ H2 (l_ rfl B0 rfl rfl (ll_ rfl (b_ H6 rfl lss_ (e_ (cs_ rfl (fun g'1=>sk_ (sq_ (bk_ (q_ rfl (f_ H2 (l_ rfl B0 rfl rfl (m_ ((h.1 g'1).2.elim fun c'2 e'3=>ia_ rfl H6 (h.1 g'1).1 e'3.1 (Val.row_eq c'2) rfl (lf_ rfl rfl rfl (m_ (b_ H1 rfl sub_ (e'3.2.elim fun r'4 e'5=>ca_ (sc rfl rfl (sc rfl rfl sn)) e'5.1 (nt_ rfl (e_ (cb_ rfl (fun g'6=>q_ rfl (m_ (e_ (rt_ (hQ _ _ _ rfl (e'5.2.1 g'6)))))) (fun g'6=>sk_ (W.reg0 rfl fun _ _=>m_ (b_ H6 rfl add_ (m_ (e_ (kP0 _ _ (e'5.2.2 g'6) _ _ _ H1 H2 rfl B0))))))))))))))))))))) (fun g'1=>ex_ (w110_9 hQ (h.2 g'1)))))))))))
theorem w110_7 {deep1 most5:Int}{m0:Val}{v0:Nat}(H1:σ 1 = .i .i64 deep1)(H2:σ 2 = .p (d,0) v0 0)(H5:σ 5 = .i .i64 most5)(B0:lk st.bx (d,0) = some (v0,[.i .u8 m0.kind,.i .i64 m0.int,.s m0.text,.sl .ext (List.map Val.row m0.list),.b m0.cut]))(h:T110_7 prog K deep1 most5 m0):W prog d c110_2 σ st Q:=
 sq_ (q_ rfl (f_ H2 (l_ rfl B0 rfl rfl (ll_ rfl (s_mvI H5 (b_ rfl rfl gtr_ (s_mvB rfl (em_ (g:=83) rfl (fun g'1=>gn_ (b:=true) rfl rfl (gn_ (b:=true) rfl rfl (gn_ (b:=true) rfl rfl (gn_ (b:=true) rfl rfl (gt_ rfl (gt_ rfl (gt_ rfl (gt_ rfl (gn_ (b:=true) rfl rfl (pt_ rfl rfl (e_ (ct_ rfl (q_ rfl (m_ (e_ (rt_ (hQ _ _ _ rfl (h.1 g'1)))))))))))))))))) (fun g'1=>gy_ rfl (f_ H2 (gy_ rfl (l_ rfl B0 rfl rfl (gy_ rfl (b_ rfl rfl eql_ (gy_ rfl (s_mvB rfl (em_ (g:=87) rfl (fun g'2=>gy_ rfl (f_ H2 (gy_ rfl (l_ rfl B0 rfl rfl (gy_ rfl (ll_ rfl (gy_ rfl (b_ rfl rfl eql_ (gy_ rfl (pt_ rfl rfl (pf_ rfl rfl (e_ (cs_ rfl (fun g'3=>q_ rfl (m_ (e_ (rt_ (hQ _ _ _ rfl (((h.2 g'1).1 g'2).1 g'3)))))) (fun g'3=>sk_ (sq_ (q_ rfl (f_ H2 (l_ rfl B0 rfl rfl (s_mvB rfl (eb_ (g:=96) rfl (fun g'4=>gy_ rfl (f_ H2 (gy_ rfl (l_ rfl B0 rfl rfl (gy_ rfl (ll_ rfl (gy_ rfl (b_ rfl rfl gtr_ (gy_ rfl (s_mvB rfl (em_ (g:=101) rfl (fun g'5=>gn_ (b:=true) rfl rfl (gn_ (b:=true) rfl rfl (gn_ (b:=true) rfl rfl (gn_ (b:=true) rfl rfl (gt_ rfl (gt_ rfl (gt_ rfl (gn_ (b:=true) rfl rfl (gy_ rfl (pt_ rfl rfl (pt_ rfl rfl (e_ (ct_ rfl (q_ rfl (m_ (e_ (rt_ (hQ _ _ _ rfl (((((h.2 g'1).1 g'2).2 g'3).1 g'4).1 g'5))))))))))))))))))) (fun g'5=>gy_ rfl (f_ H2 (gy_ rfl (l_ rfl B0 rfl rfl (gy_ rfl (b_ rfl rfl neq_ (gy_ rfl (s_mvB rfl (em_ (g:=105) rfl (fun g'6=>gy_ rfl (f_ H2 (gy_ rfl (l_ rfl B0 rfl rfl (gy_ rfl (b_ rfl rfl neq_ (gy_ rfl (pt_ rfl rfl (gy_ rfl (pf_ rfl rfl (pt_ rfl rfl (e_ (cs_ rfl (fun g'7=>q_ rfl (m_ (e_ (rt_ (hQ _ _ _ rfl (((((((h.2 g'1).1 g'2).2 g'3).1 g'4).2 g'5).1 g'6).1 g'7)))))) (fun g'7=>sk_ (sq_ (q_ rfl (m_ (e_ (bk_ ((((((((h.2 g'1).1 g'2).2 g'3).1 g'4).2 g'5).1 g'6).2 g'7) (I110_0 prog d Q deep1) (fun _ _ hb _ _ _ H1 H2 H6 B0=>W.loop (w110_8 hQ (fun _ _ x=>x) H1 H2 H6 B0 hb)) _ _ _ H1 H2 rfl B0)))))))))))))))))))) (fun g'6=>gn_ (b:=false) rfl rfl (gn_ (b:=false) rfl rfl (gn_ (b:=false) rfl rfl (gy_ rfl (pf_ rfl rfl (gy_ rfl (pf_ rfl rfl (pt_ rfl rfl (e_ (cf_ rfl (sk_ (sq_ (q_ rfl (m_ (e_ (bk_ (((((((h.2 g'1).1 g'2).2 g'3).1 g'4).2 g'5).2 g'6) (I110_0 prog d Q deep1) (fun _ _ hb _ _ _ H1 H2 H6 B0=>W.loop (w110_8 hQ (fun _ _ x=>x) H1 H2 H6 B0 hb)) _ _ _ H1 H2 rfl B0))))))))))))))))))))))))))))))))))))) (fun g'4=>gn_ (b:=false) rfl rfl (gn_ (b:=false) rfl rfl (gn_ (b:=false) rfl rfl (gn_ (b:=false) rfl rfl (gn_ (b:=false) rfl rfl (gt_ rfl (gt_ rfl (gt_ rfl (gt_ rfl (gt_ rfl (gt_ rfl (gt_ rfl (gt_ rfl (gn_ (b:=false) rfl rfl (pf_ rfl rfl (e_ (cf_ rfl (sk_ (sq_ (q_ rfl (m_ (e_ (bk_ (((((h.2 g'1).1 g'2).2 g'3).2 g'4) (I110_0 prog d Q deep1) (fun _ _ hb _ _ _ H1 H2 H6 B0=>W.loop (w110_8 hQ (fun _ _ x=>x) H1 H2 H6 B0 hb)) _ _ _ H1 H2 rfl B0)))))))))))))))))))))))))))))))))))))))))))) (fun g'2=>gn_ (b:=false) rfl rfl (gn_ (b:=false) rfl rfl (gn_ (b:=false) rfl rfl (gn_ (b:=false) rfl rfl (gy_ rfl (pf_ rfl rfl (pf_ rfl rfl (e_ (cf_ rfl (sk_ (sq_ (q_ rfl (f_ H2 (l_ rfl B0 rfl rfl (s_mvB rfl (eb_ (g:=96) rfl (fun g'8=>gy_ rfl (f_ H2 (gy_ rfl (l_ rfl B0 rfl rfl (gy_ rfl (ll_ rfl (gy_ rfl (b_ rfl rfl gtr_ (gy_ rfl (s_mvB rfl (em_ (g:=101) rfl (fun g'9=>gn_ (b:=true) rfl rfl (gn_ (b:=true) rfl rfl (gn_ (b:=true) rfl rfl (gn_ (b:=true) rfl rfl (gt_ rfl (gt_ rfl (gt_ rfl (gn_ (b:=true) rfl rfl (gy_ rfl (pt_ rfl rfl (pt_ rfl rfl (e_ (ct_ rfl (q_ rfl (m_ (e_ (rt_ (hQ _ _ _ rfl ((((h.2 g'1).2 g'2).1 g'8).1 g'9))))))))))))))))))) (fun g'9=>gy_ rfl (f_ H2 (gy_ rfl (l_ rfl B0 rfl rfl (gy_ rfl (b_ rfl rfl neq_ (gy_ rfl (s_mvB rfl (em_ (g:=105) rfl (fun g'10=>gy_ rfl (f_ H2 (gy_ rfl (l_ rfl B0 rfl rfl (gy_ rfl (b_ rfl rfl neq_ (gy_ rfl (pt_ rfl rfl (gy_ rfl (pf_ rfl rfl (pt_ rfl rfl (e_ (cs_ rfl (fun g'11=>q_ rfl (m_ (e_ (rt_ (hQ _ _ _ rfl ((((((h.2 g'1).2 g'2).1 g'8).2 g'9).1 g'10).1 g'11)))))) (fun g'11=>sk_ (sq_ (q_ rfl (m_ (e_ (bk_ (((((((h.2 g'1).2 g'2).1 g'8).2 g'9).1 g'10).2 g'11) (I110_0 prog d Q deep1) (fun _ _ hb _ _ _ H1 H2 H6 B0=>W.loop (w110_8 hQ (fun _ _ x=>x) H1 H2 H6 B0 hb)) _ _ _ H1 H2 rfl B0)))))))))))))))))))) (fun g'10=>gn_ (b:=false) rfl rfl (gn_ (b:=false) rfl rfl (gn_ (b:=false) rfl rfl (gy_ rfl (pf_ rfl rfl (gy_ rfl (pf_ rfl rfl (pt_ rfl rfl (e_ (cf_ rfl (sk_ (sq_ (q_ rfl (m_ (e_ (bk_ ((((((h.2 g'1).2 g'2).1 g'8).2 g'9).2 g'10) (I110_0 prog d Q deep1) (fun _ _ hb _ _ _ H1 H2 H6 B0=>W.loop (w110_8 hQ (fun _ _ x=>x) H1 H2 H6 B0 hb)) _ _ _ H1 H2 rfl B0))))))))))))))))))))))))))))))))))))) (fun g'8=>gn_ (b:=false) rfl rfl (gn_ (b:=false) rfl rfl (gn_ (b:=false) rfl rfl (gn_ (b:=false) rfl rfl (gn_ (b:=false) rfl rfl (gt_ rfl (gt_ rfl (gt_ rfl (gt_ rfl (gt_ rfl (gt_ rfl (gt_ rfl (gt_ rfl (gn_ (b:=false) rfl rfl (pf_ rfl rfl (e_ (cf_ rfl (sk_ (sq_ (q_ rfl (m_ (e_ (bk_ ((((h.2 g'1).2 g'2).2 g'8) (I110_0 prog d Q deep1) (fun _ _ hb _ _ _ H1 H2 H6 B0=>W.loop (w110_8 hQ (fun _ _ x=>x) H1 H2 H6 B0 hb)) _ _ _ H1 H2 rfl B0)))))))))))))))))))))))))))))))))))))))))))))))))))))))))
theorem w110_6 {deep1 most5:Int}{m0:Val}{v0:Nat}(H1:σ 1 = .i .i64 deep1)(H2:σ 2 = .p (d,0) v0 0)(H5:σ 5 = .i .i64 most5)(B0:lk st.bx (d,0) = some (v0,[.i .u8 m0.kind,.i .i64 m0.int,.s m0.text,.sl .ext (List.map Val.row m0.list),.b m0.cut]))(h:T110_6 prog K deep1 most5 m0):W prog d c110_3 σ st Q:=
 sq_ (q_ rfl (f_ H2 (l_ rfl B0 rfl rfl (b_ rfl rfl eql_ (e_ (cs_ rfl (fun g'1=>W.reg0 rfl fun _ _=>m_ (e_ (w110_7 hQ H1 H2 rfl B0 (h.1 g'1)))) (fun g'1=>sk_ (w110_7 hQ H1 H2 H5 B0 (h.2 g'1)))))))))
theorem w110_5 {deep1 most5:Int}{m0:Val}{v0:Nat}(H1:σ 1 = .i .i64 deep1)(H2:σ 2 = .p (d,0) v0 0)(H5:σ 5 = .i .i64 most5)(B0:lk st.bx (d,0) = some (v0,[.i .u8 m0.kind,.i .i64 m0.int,.s m0.text,.sl .ext (List.map Val.row m0.list),.b m0.cut]))(h:T110_5 prog K deep1 most5 m0):W prog d c110_4 σ st Q:=
 sq_ (q_ rfl (f_ H2 (l_ rfl B0 rfl rfl (b_ rfl rfl eql_ (e_ (cs_ rfl (fun g'1=>W.reg0 rfl fun _ _=>m_ (e_ (w110_6 hQ H1 H2 rfl B0 (h.1 g'1)))) (fun g'1=>sk_ (w110_6 hQ H1 H2 H5 B0 (h.2 g'1)))))))))
theorem w110_4 {deep1:Int}{m0:Val}{v0:Nat}(H1:σ 1 = .i .i64 deep1)(H2:σ 2 = .p (d,0) v0 0)(B0:lk st.bx (d,0) = some (v0,[.i .u8 m0.kind,.i .i64 m0.int,.s m0.text,.sl .ext (List.map Val.row m0.list),.b m0.cut]))(h:T110_4 prog K deep1 m0):W prog d c110_5 σ st Q:=
 q_ rfl (m_ (e_ (w110_5 hQ H1 H2 rfl B0 h)))
theorem w110_3 {deep1:Int}{m0:Val}{v0:Nat}(H1:σ 1 = .i .i64 deep1)(H2:σ 2 = .p (d,0) v0 0)(B0:lk st.bx (d,0) = some (v0,[.i .u8 m0.kind,.i .i64 m0.int,.s m0.text,.sl .ext (List.map Val.row m0.list),.b m0.cut]))(h:T110_3 prog K deep1 m0):W prog d c110_6 σ st Q:=
 sq_ (q_ rfl (f_ H2 (l_ rfl B0 rfl rfl (b_ rfl rfl lss_ (s_mvB rfl (em_ (g:=57) rfl (fun g'1=>gn_ (b:=true) rfl rfl (gn_ (b:=true) rfl rfl (gn_ (b:=true) rfl rfl (pt_ rfl rfl (s_mvB rfl (gn_ (b:=true) rfl rfl (gn_ (b:=true) rfl rfl (gn_ (b:=true) rfl rfl (pt_ rfl rfl (s_mvB rfl (gn_ (b:=true) rfl rfl (gn_ (b:=true) rfl rfl (gn_ (b:=true) rfl rfl (pt_ rfl rfl (e_ (ct_ rfl (q_ rfl (m_ (e_ (rt_ (hQ _ _ _ rfl (h.1 g'1)))))))))))))))))))))) (fun g'1=>gy_ rfl (f_ H2 (gy_ rfl (l_ rfl B0 rfl rfl (gy_ rfl (b_ rfl rfl gtr_ (pf_ rfl rfl (s_mvB rfl (em_ (g:=62) rfl (fun g'2=>gn_ (b:=true) rfl rfl (gn_ (b:=true) rfl rfl (gn_ (b:=true) rfl rfl (pt_ rfl rfl (s_mvB rfl (gn_ (b:=true) rfl rfl (gn_ (b:=true) rfl rfl (gn_ (b:=true) rfl rfl (pt_ rfl rfl (e_ (ct_ rfl (q_ rfl (m_ (e_ (rt_ (hQ _ _ _ rfl ((h.2 g'1).1 g'2))))))))))))))))) (fun g'2=>gy_ rfl (f_ H2 (gy_ rfl (l_ rfl B0 rfl rfl (gy_ rfl (b_ rfl rfl neq_ (pf_ rfl rfl (s_mvB rfl (em_ (g:=67) rfl (fun g'3=>gn_ (b:=true) rfl rfl (gn_ (b:=true) rfl rfl (gn_ (b:=true) rfl rfl (pt_ rfl rfl (e_ (ct_ rfl (q_ rfl (m_ (e_ (rt_ (hQ _ _ _ rfl (((h.2 g'1).2 g'2).1 g'3)))))))))))) (fun g'3=>gy_ rfl (f_ H2 (gy_ rfl (l_ rfl B0 rfl rfl (gy_ rfl (b_ rfl rfl sne_ (pf_ rfl rfl (e_ (cs_ rfl (fun g'4=>q_ rfl (m_ (e_ (rt_ (hQ _ _ _ rfl ((((h.2 g'1).2 g'2).2 g'3).1 g'4)))))) (fun g'4=>sk_ (w110_4 hQ H1 H2 B0 ((((h.2 g'1).2 g'2).2 g'3).2 g'4))))))))))))))))))))))))))))))))))))
theorem w110_2 {deep1:Int}{m0:Val}{v0:Nat}(H1:σ 1 = .i .i64 deep1)(H2:σ 2 = .p (d,0) v0 0)(B0:lk st.bx (d,0) = some (v0,[.i .u8 m0.kind,.i .i64 m0.int,.s m0.text,.sl .ext (List.map Val.row m0.list),.b m0.cut]))(h:T110_2 prog K deep1 m0):W prog d c110_7 σ st Q:=
 sq_ (q_ rfl (f_ H2 (l_ rfl B0 rfl rfl (e_ (bk_ (q_ rfl (b_ rfl rfl eql_ (m_ (e_ (cs_ rfl (fun g'1=>q_ rfl (l_ H2 B0 rfl rfl ((h.1 g'1).elim fun r'2 e'3=>ca_ (sc rfl rfl sn) e'3.1 (s_mvB rfl (eb_ (g:=15) rfl (fun g'4=>gy_ rfl (f_ H2 (gy_ rfl (l_ rfl B0 rfl rfl (gy_ rfl (b_ rfl rfl seq_ (pt_ rfl rfl (s_mvB rfl (em_ (g:=20) rfl (fun g'5=>gy_ rfl (f_ H2 (gy_ rfl (l_ rfl B0 rfl rfl (gy_ rfl (b_ rfl rfl eql_ (gy_ rfl (s_mvB rfl (em_ (g:=24) rfl (fun g'6=>gn_ (b:=true) rfl rfl (gn_ (b:=true) rfl rfl (gn_ (b:=true) rfl rfl (gy_ rfl (pt_ rfl rfl (pt_ rfl rfl (s_mvB rfl (e_ (rt_ (hQ _ _ _ rfl (((e'3.2.1 g'4).1 g'5).1 g'6))))))))))) (fun g'6=>gy_ rfl (f_ H2 (gy_ rfl (l_ rfl B0 rfl rfl (gy_ rfl (b_ rfl rfl eql_ (gy_ rfl (pf_ rfl rfl (pt_ rfl rfl (s_mvB rfl (e_ (rt_ (hQ _ _ _ rfl (((e'3.2.1 g'4).1 g'5).2 g'6))))))))))))))))))))))) (fun g'5=>gn_ (b:=false) rfl rfl (gn_ (b:=false) rfl rfl (gn_ (b:=false) rfl rfl (gn_ (b:=false) rfl rfl (gt_ rfl (gt_ rfl (gt_ rfl (gn_ (b:=false) rfl rfl (pf_ rfl rfl (s_mvB rfl (e_ (rt_ (hQ _ _ _ rfl ((e'3.2.1 g'4).2 g'5))))))))))))))))))))))) (fun g'4=>gn_ (b:=false) rfl rfl (gn_ (b:=false) rfl rfl (gn_ (b:=false) rfl rfl (pf_ rfl rfl (s_mvB rfl (gn_ (b:=false) rfl rfl (gn_ (b:=false) rfl rfl (gn_ (b:=false) rfl rfl (gn_ (b:=false) rfl rfl (gt_ rfl (gt_ rfl (gt_ rfl (gn_ (b:=false) rfl rfl (pf_ rfl rfl (s_mvB rfl (e_ (rt_ (hQ _ _ _ rfl (e'3.2.2 g'4)))))))))))))))))))))))) (fun g'1=>q_ rfl (b_ rfl rfl eql_ (m_ (e_ (cs_ rfl (fun g'7=>q_ rfl (l_ H2 B0 rfl rfl (((h.2 g'1).1 g'7).elim fun r'8 e'9=>ca_ (sc rfl rfl sn) e'9.1 (s_mvB rfl (eb_ (g:=34) rfl (fun g'10=>gy_ rfl (f_ H2 (gy_ rfl (l_ rfl B0 rfl rfl (gy_ rfl (b_ rfl rfl seq_ (pt_ rfl rfl (s_mvB rfl (e_ (rt_ (hQ _ _ _ rfl (e'9.2.1 g'10)))))))))))) (fun g'10=>gn_ (b:=false) rfl rfl (gn_ (b:=false) rfl rfl (gn_ (b:=false) rfl rfl (pf_ rfl rfl (s_mvB rfl (e_ (rt_ (hQ _ _ _ rfl (e'9.2.2 g'10)))))))))))))) (fun g'7=>q_ rfl (b_ rfl rfl eql_ (m_ (e_ (cs_ rfl (fun g'11=>q_ rfl (l_ H2 B0 rfl rfl ((((h.2 g'1).2 g'7).1 g'11).elim fun r'12 e'13=>ca_ (sc rfl rfl sn) e'13.1 (s_mvB rfl (eb_ (g:=43) rfl (fun g'14=>gy_ rfl (f_ H2 (gy_ rfl (l_ rfl B0 rfl rfl (gy_ rfl (b_ rfl rfl eql_ (pt_ rfl rfl (s_mvB rfl (em_ (g:=48) rfl (fun g'15=>gy_ rfl (f_ H2 (gy_ rfl (l_ rfl B0 rfl rfl (gy_ rfl (ln_ rfl (gy_ rfl (b_ rfl rfl leq_ (pt_ rfl rfl (s_mvB rfl (e_ (rt_ (hQ _ _ _ rfl ((e'13.2.1 g'14).1 g'15)))))))))))))) (fun g'15=>gn_ (b:=false) rfl rfl (gn_ (b:=false) rfl rfl (gn_ (b:=false) rfl rfl (gn_ (b:=false) rfl rfl (pf_ rfl rfl (s_mvB rfl (e_ (rt_ (hQ _ _ _ rfl ((e'13.2.1 g'14).2 g'15))))))))))))))))))) (fun g'14=>gn_ (b:=false) rfl rfl (gn_ (b:=false) rfl rfl (gn_ (b:=false) rfl rfl (pf_ rfl rfl (s_mvB rfl (gn_ (b:=false) rfl rfl (gn_ (b:=false) rfl rfl (gn_ (b:=false) rfl rfl (gn_ (b:=false) rfl rfl (pf_ rfl rfl (s_mvB rfl (e_ (rt_ (hQ _ _ _ rfl (e'13.2.2 g'14)))))))))))))))))))) (fun g'11=>sk_ (w110_3 hQ H1 H2 B0 (((h.2 g'1).2 g'7).2 g'11)))))))))))))))))))))))
theorem w110_1 {deep1:Int}{m0:Val}{v0:Nat}(H1:σ 1 = .i .i64 deep1)(H2:σ 2 = .p (d,0) v0 0)(B0:lk st.bx (d,0) = some (v0,[.i .u8 m0.kind,.i .i64 m0.int,.s m0.text,.sl .ext (List.map Val.row m0.list),.b m0.cut]))(h:T110_1 prog K deep1 m0):W prog d c110_8 σ st Q:=
 sq_ (q_ rfl (m_ (b_ H1 rfl eql_ (e_ (cs_ rfl (fun g'1=>q_ rfl (m_ (e_ (rt_ (hQ _ _ _ rfl (h.1 g'1)))))) (fun g'1=>sk_ (w110_2 hQ H1 H2 B0 (h.2 g'1))))))))
theorem w110_0 {v0:Val}{deep1:Int}(H0:σ 0 = v0.av)(H1:σ 1 = .i .i64 deep1)(h:T110_0 prog K v0 deep1):W prog d (.seq (.reg 0 r110_0) c110_8) σ st Q:=
 q_ rfl (s_box H0 rfl (m_ (e_ (w110_1 hQ H1 rfl lk_here h))))
end
theorem p110 {prog:Prog}(hf:prog.fn 110 = some pf110){v0:Val}{deep1:Int}{K:Bool→Prop}(h:T110_0 prog K v0 deep1) :∃res0:Bool,K res0∧Pus prog 110 [v0.av,.i .i64 deep1] (.b res0):=by
  obtain ⟨v,hv,res0,hk,rfl⟩:=Pus.of (K:=fun v=>∃res0:Bool,K res0∧v = .b res0) hf rfl (w110_0 (σ:=sl0 [v0.av,.i .i64 deep1]) (fun σ st   res0 H4 hk=>⟨.b res0,by simp only [pf110,ares,aresL,H4,ares1,Option.map_some],_,rfl,res0,hk,rfl⟩) rfl rfl h)
  exact ⟨res0,hk,hv⟩
abbrev H127 (Q:AE→Sl→St→Prop)(K:List UInt8→Prop):Prop:=∀(σ:Sl)(st:St)(res0:List UInt8),σ 2 = .s res0→K res0→Q .ret σ st
section
variable {prog:Prog}{d:Nat}{Q:AE→Sl→St→Prop}{K:List UInt8→Prop}(hQ:H127 Q K){σ:Sl}{st:St}
include hQ
end
def r136_0:List AI:=[oO 1 (.box 5 (.t 0)),
 oC 2 (.b false)]
def r136_1:List AI:=[oF 3 3 1,
 oL 4 3,
 oO 5 (.len false (.t 4)),
 oB 6 .eql (.t 5) (.c (.i .i64 0)),
 oM 7 6,
 oG 8 (.fad 4 (.t 1)) 7 true,
 oG 9 (.load 1 false (.t 8)) 7 true,
 oG 10 (.un .not (.t 9)) 7 true,
 oO 11 (.pick (.t 7) (.t 10) (.c (.b false))),
 oM 2 11]
abbrev b136:AC:=(.seq (.reg 0 r136_0) (.seq (.reg 1 r136_1) .ret))
def pf136:AF:={ nt:=12,res:=[.tmp 2],body:=b136 }
abbrev H136 (Q:AE→Sl→St→Prop)(K:Bool→Prop):Prop:=∀(σ:Sl)(st:St)(res0:Bool),σ 2 = .b res0→K res0→Q .ret σ st
def T136_0 (prog:Prog)(K:Bool→Prop)(v0:Val):Prop:=
  ((v0.list.length:Int) = 0→K (!v0.cut))∧(¬((v0.list.length:Int) = 0)→K false)
section
variable {prog:Prog}{d:Nat}{Q:AE→Sl→St→Prop}{K:Bool→Prop}(hQ:H136 Q K){σ:Sl}{st:St}
include hQ
theorem w136_0 {v0:Val}(H0:σ 0 = v0.av)(h:T136_0 prog K v0):W prog d (.seq (.reg 0 r136_0) (.seq (.reg 1 r136_1) .ret)) σ st Q:=
 q_ rfl (s_box H0 rfl (m_ (e_ (q_ rfl (f_ rfl (l_ rfl lk_here rfl rfl (ll_ rfl (b_ rfl rfl eql_ (s_mvB rfl (em_ (g:=7) rfl (fun g'1=>gy_ rfl (f_ rfl (gy_ rfl (l_ rfl lk_here rfl rfl (gy_ rfl (nt_ rfl (pt_ rfl rfl (s_mvB rfl (e_ (rt_ (hQ _ _ _ rfl (h.1 g'1)))))))))))) (fun g'1=>gn_ (b:=false) rfl rfl (gn_ (b:=false) rfl rfl (gn_ (b:=false) rfl rfl (pf_ rfl rfl (s_mvB rfl (e_ (rt_ (hQ _ _ _ rfl (h.2 g'1)))))))))))))))))))
end
theorem p136 {prog:Prog}(hf:prog.fn 136 = some pf136){v0:Val}{K:Bool→Prop}(h:T136_0 prog K v0) :∃res0:Bool,K res0∧Pus prog 136 [v0.av] (.b res0):=by
  obtain ⟨v,hv,res0,hk,rfl⟩:=Pus.of (K:=fun v=>∃res0:Bool,K res0∧v = .b res0) hf rfl (w136_0 (σ:=sl0 [v0.av]) (fun σ st   res0 H2 hk=>⟨.b res0,by simp only [pf136,ares,aresL,H2,ares1,Option.map_some],_,rfl,res0,hk,rfl⟩) rfl h)
  exact ⟨res0,hk,hv⟩
end Go.AM
